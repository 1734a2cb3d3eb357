/- The walks of ratio.Make and the reference's Make, for numbers of at most 10^18 and a positive denominator. -/
import Derived.Test.YtojldecldemfaaaBase
import Derived.IntWalk
import Derived.StillTailTactics
import Derived.Deep.RegionWith
namespace Go.Proofs.Ytojldecldemfaaa
set_option linter.unusedVariables false
set_option linter.unusedSimpArgs false
open Go.ChangeShapes Go.WideShapes Go.ChangeAt Go.RowKit Go.Deep

theorem ret_u64 {a b : Int} (h : a = b) : Ending.returned (.int .u64 a) = .returned (.int .u64 b) := by rw [h]
theorem wrap_u {a : Nat} (h : a ≤ 1000000000000000000) : IntKind.u64.wrap (a : Int) = a := by
  simp only [IntKind.wrap, IntKind.bits, IntKind.signed]
  simp
  omega
theorem Two.set {w : World} {S : Nat} {x y u v : Value} (h0 : w.cell? ⟨S, 0, none⟩ = some u) (h1 : w.cell? ⟨S, 1, none⟩ = some v) :
    ((w.setCell ⟨S, 0, none⟩ x).setCell ⟨S, 1, none⟩ y).cell? ⟨S, 0, none⟩ = some x ∧ ((w.setCell ⟨S, 0, none⟩ x).setCell ⟨S, 1, none⟩ y).cell? ⟨S, 1, none⟩ = some y := by
  have hne : ∀ {j k : Nat}, j ≠ k → (⟨S, j, none⟩ : Addr) ≠ ⟨S, k, none⟩ := fun h e => h (by cases e; rfl)
  exact ⟨(World.cell?_setCell_other _ _ _ _ (hne (by omega))).trans (World.cell?_setCell_same _ _ _ h0), World.cell?_setCell_same _ _ _ ((World.cell?_setCell_other _ _ _ _ (hne (by omega))).trans h1)⟩
theorem wrap_neg {x : Int} (h1 : -1000000000000000000 ≤ x) (h2 : x < 0) : IntKind.u64.wrap (-IntKind.u64.wrap x) = -x := by
  simp only [IntKind.wrap, IntKind.bits, IntKind.signed]
  simp
  omega
set_option maxHeartbeats 400000 in
theorem size_any (x : Int) (w : World) (h1 : -1000000000000000000 ≤ x) (h2 : x ≤ 1000000000000000000) :
    Calls Try.prog 66 #[.int .i64 x] w fun e w' => e = .returned (.int .u64 (x.natAbs : Nat)) ∧ w' = w := by
  by_cases h0 : x < 0
  · have hd : decide (x < 0) = true := by simpa using h0
    have Hw := Lib.hid (wrap_neg h1 h0)
    go_enter Try.func66, Try.ntmps66
    go_wp2_with fail
    go_ret
    exact ⟨ret_u64 (by rw [Hw.out]; omega), rfl⟩
  · have hd : decide (x < 0) = false := by simpa using h0
    go_enter Try.func66, Try.ntmps66
    go_wp2_with fail
    go_ret
    exact ⟨ret_u64 (by omega), rfl⟩
set_option maxHeartbeats 400000 in
theorem abs_any (x : Int) (w : World) (h1 : -1000000000000000000 ≤ x) (h2 : x ≤ 1000000000000000000) :
    Calls Try.prog 56 #[.int .i64 x] w fun e w' => e = .returned (.int .u64 (x.natAbs : Nat)) ∧ w' = w := by
  by_cases h0 : x < 0
  · have hd : decide (x < 0) = true := by simpa using h0
    go_enter Try.func56, Try.ntmps56
    go_wp2_with fail
    go_ret
    exact ⟨ret_u64 (by omega), rfl⟩
  · have hd : decide (x < 0) = false := by simpa using h0
    go_enter Try.func56, Try.ntmps56
    go_wp2_with fail
    go_ret
    exact ⟨ret_u64 (by omega), rfl⟩
set_option maxHeartbeats 400000 in
theorem rgcd_any (a b : Nat) (w : World) (ha : a ≤ 4611686018427387904) (hb : b ≤ 4611686018427387904) :
    Calls Try.prog 67 #[.int .u64 a, .int .u64 b] w fun e w' => e = .returned (.int .u64 (Nat.gcd a b : Nat)) ∧ ∃ n, w' = w.drewN n := by
  go_enter Try.func67, Try.ntmps67
  go_wp2_with fail
  go_loopw [0, 1] (fun s t wr => ∃ x y : Nat, s = .int .u64 x ∧ t = .int .u64 y ∧ Hid (Nat.gcd x y = Nat.gcd a b) ∧ x ≤ 4611686018427387904 ∧ y ≤ 4611686018427387904 ∧ ∃ n, wr = w.drewN n) (fun _ t _ => (intOf t).toNat)
  case atStart => exact ⟨a, b, rfl, rfl, rfl, ha, hb, drew_refl w⟩
  case round =>
    obtain ⟨x, y, rfl, rfl, hg, hx, hy, hw⟩ := hrel
    have Hw := Lib.hid hw
    clear hw
    by_cases h0 : y = 0
    · have hz : ¬ (0 : Int) < y := by omega
      have H0 := Lib.hid h0
      clear h0
      go_wp2_with fail
      go_ret
      exact ⟨ret_u64 (by rw [← hg.out, H0.out, Nat.gcd_zero_right]), Hw.out⟩
    · have hz : (0 : Int) < y := by omega
      have hy0 : (0 : Int) < y := by omega
      have hx0 : (0 : Int) ≤ x := by omega
      have hlt := Nat.mod_lt x (by omega : y > 0)
      go_wp2_with fail
      go_quiet (fail)
      go_wp2_with fail
      go_roundw
      case rel => exact ⟨y, x % y, rfl, by congr 1, by unfold Hid; rw [Nat.gcd_comm, ← Nat.gcd_rec, Nat.gcd_comm]; exact hg.out, hy, by omega, drew_drewN _ Hw.out⟩
      case measure => simp only [intOf]; omega
set_option maxHeartbeats 400000 in
theorem refGcd_any (a b : Nat) (w : World) (ha : a ≤ 4611686018427387904) (hb : b ≤ 4611686018427387904) :
    Calls Try.prog 57 #[.int .u64 a, .int .u64 b] w fun e w' => e = .returned (.int .u64 (Nat.gcd a b : Nat)) ∧ ∃ n, w' = w.drewN n := by
  go_enter Try.func57, Try.ntmps57
  go_wp2_with fail
  go_loopw [0, 1] (fun s t wr => ∃ x y : Nat, s = .int .u64 x ∧ t = .int .u64 y ∧ Hid (Nat.gcd x y = Nat.gcd a b) ∧ x ≤ 4611686018427387904 ∧ y ≤ 4611686018427387904 ∧ ∃ n, wr = w.drewN n) (fun _ t _ => (intOf t).toNat)
  case atStart => exact ⟨a, b, rfl, rfl, rfl, ha, hb, drew_refl w⟩
  case round =>
    obtain ⟨x, y, rfl, rfl, hg, hx, hy, hw⟩ := hrel
    have Hw := Lib.hid hw
    clear hw
    by_cases h0 : y = 0
    · have hz : ((y : Int) != 0) = false := by simp [h0]
      have H0 := Lib.hid h0
      clear h0
      go_wp2_with fail
      go_ret
      exact ⟨ret_u64 (by rw [← hg.out, H0.out, Nat.gcd_zero_right]), Hw.out⟩
    · have hz : ((y : Int) != 0) = true := by rw [bne_iff_ne]; omega
      have hy0 : (0 : Int) < y := by omega
      have hx0 : (0 : Int) ≤ x := by omega
      have hlt := Nat.mod_lt x (by omega : y > 0)
      go_wp2_with fail
      go_quiet (fail)
      go_wp2_with fail
      go_roundw
      case rel => exact ⟨y, x % y, rfl, by congr 1, by unfold Hid; rw [Nat.gcd_comm, ← Nat.gcd_rec, Nat.gcd_comm]; exact hg.out, hy, by omega, drew_drewN _ Hw.out⟩
      case measure => simp only [intOf]; omega

/-- The signed number. -/
def sgn (m : Bool) (a : Nat) : Int := if m = true then -(a : Int) else a
set_option maxHeartbeats 800000 in
theorem signed_any (m : Bool) (a b : Nat) (w : World) (ha : a ≤ 1000000000000000000) (hb : b ≤ 1000000000000000000) :
    Calls Try.prog 68 #[.bool m, .int .u64 a, .int .u64 b] w fun e w' => e = .returned (.tuple #[.agg #[.int .i64 (sgn m a), .int .i64 b], .int .i64 0]) ∧ Below w.heap.size w w' := by
  have hmx : ¬ (1000000000000000000 : Int) < max (a : Int) b := by omega
  have h1 : (0 : Int) ≤ a := by omega
  have h2 : (a : Int) ≤ 1000000000000000000 := by omega
  have h3 : (0 : Int) ≤ b := by omega
  have h4 : (b : Int) ≤ 1000000000000000000 := by omega
  cases m with
  | true =>
    go_enter Try.func68, Try.ntmps68
    go_wp2_with fail
    all_goals
      exact bodyPost_ret (v := .tuple #[.agg #[.int .i64 (-(a : Int)), .int .i64 b], .int .i64 0]) (by simp [results, Try.results68, go_sem]) rfl ⟨rfl, (Below.refl _ _).alloc (Nat.le_refl _) _⟩
  | false =>
    go_enter Try.func68, Try.ntmps68
    go_wp2_with fail
    all_goals
      exact bodyPost_ret (v := .tuple #[.agg #[.int .i64 (a : Int), .int .i64 b], .int .i64 0]) (by simp [results, Try.results68, go_sem]) rfl ⟨rfl, (Below.refl _ _).alloc (Nat.le_refl _) _⟩
set_option maxHeartbeats 800000 in
theorem made_any (m : Bool) (a b : Nat) (w : World) (ha : a ≤ 1000000000000000000) (hb : b ≤ 1000000000000000000) :
    Calls Try.prog 58 #[.bool m, .agg #[.int .u64 0, .int .u64 a], .agg #[.int .u64 0, .int .u64 b]] w fun e w' => e = .returned (.tuple #[.agg #[.int .i64 (sgn m a), .int .i64 b], .int .i64 0]) ∧ Below w.heap.size w w' := by
  have h1 : (0 : Int) ≤ a := by omega
  have h2 : (a : Int) ≤ 1000000000000000000 := by omega
  have h3 : (0 : Int) ≤ b := by omega
  have h4 : (b : Int) ≤ 1000000000000000000 := by omega
  have h5 : decide (1000000000000000000 < (a : Int)) = false := by simp; omega
  have h6 : decide (1000000000000000000 < (b : Int)) = false := by simp; omega
  cases m with
  | true =>
    go_enter Try.func58, Try.ntmps58
    go_wp2_with fail
    exact bodyPost_ret (v := .tuple #[.agg #[.int .i64 (-(a : Int)), .int .i64 b], .int .i64 0]) (by simp [results, Try.results58, go_sem]) rfl ⟨rfl, by
      repeat (first | exact Below.refl _ _ | refine Below.setCell ?_ (by simp) _ | refine Below.alloc ?_ (by first | exact Nat.le_refl _ | (simp; done) | (simp; omega)) _)⟩
  | false =>
    go_enter Try.func58, Try.ntmps58
    go_wp2_with fail
    exact bodyPost_ret (v := .tuple #[.agg #[.int .i64 (a : Int), .int .i64 b], .int .i64 0]) (by simp [results, Try.results58, go_sem]) rfl ⟨rfl, by
      repeat (first | exact Below.refl _ _ | refine Below.setCell ?_ (by simp) _ | refine Below.alloc ?_ (by first | exact Nat.le_refl _ | (simp; done) | (simp; omega)) _)⟩

/-- The fraction x / d in lowest terms. -/
def rG (x : Int) (d : Nat) : Nat := Nat.gcd x.natAbs d
def rN (x : Int) (d : Nat) : Int := sgn (decide (x < 0)) (x.natAbs / rG x d)
def rD (x : Int) (d : Nat) : Int := ((d / rG x d : Nat) : Int)
def ratV (x : Int) (d : Nat) : Value := .agg #[.int .i64 (rN x d), .int .i64 (rD x d)]
theorem rG_pos {x : Int} {d : Nat} (h : 0 < d) : 0 < rG x d := Nat.gcd_pos_of_pos_right _ h
theorem rG_le {x : Int} {d : Nat} (h : 0 < d) : rG x d ≤ d := Nat.le_of_dvd h (Nat.gcd_dvd_right _ _)

set_option maxHeartbeats 4000000 in
set_option maxRecDepth 100000 in
theorem make_any (x : Int) (d : Nat) (w : World) (h1 : -1000000000000000000 ≤ x) (h2 : x ≤ 1000000000000000000) (hd : 0 < d) (hd2 : d ≤ 1000000000000000000) :
    Calls Try.prog 48 #[.int .i64 x, .int .i64 d] w fun e w' => e = .returned (.tuple #[ratV x d, .int .i64 0]) ∧ Below w.heap.size w w' := by
  obtain ⟨W0, hW0⟩ : ∃ W0, w.alloc (.cells #[.int .i64 0, .int .i64 0] 40) = W0 := ⟨_, rfl⟩
  have hb0 : Below w.heap.size w W0 := by rw [← hW0]; exact (Below.refl _ _).alloc (Nat.le_refl _) _
  have hs0 : W0.heap.size = w.heap.size + 1 := by rw [← hW0]; simp
  have c0 : W0.cell? ⟨w.heap.size, 0, none⟩ = some (.int .i64 0) := by rw [← hW0]; exact World.cell?_alloc_at _ _ _ _ rfl
  have c1 : W0.cell? ⟨w.heap.size, 1, none⟩ = some (.int .i64 0) := by rw [← hW0]; exact World.cell?_alloc_at _ _ _ _ rfl
  have f0 : W0.frozen? ⟨w.heap.size, 0, none⟩ = false := by rw [← hW0]; exact World.frozen?_alloc_at _ _ _ _ rfl
  have f1 : W0.frozen? ⟨w.heap.size, 1, none⟩ = false := by rw [← hW0]; exact World.frozen?_alloc_at _ _ _ _ rfl
  have HW0 := Lib.hid hW0
  have Hs0 := Lib.hid hs0
  clear hW0 hs0
  have hd0 : ((d : Int) == 0) = false := by rw [beq_eq_false_iff_ne]; omega
  have hdn : decide ((d : Int) < 0) = false := by simp
  have hg1 := rG_pos (x := x) hd
  have hg2 := rG_le (x := x) hd
  have ha2 : x.natAbs ≤ 1000000000000000000 := by omega
  go_enter Try.func48, Try.ntmps48
  go_wp2_with fail
  rw [HW0.out]
  refine (size_any x _ h1 h2).mono ?_
  rintro e w' ⟨rfl, rfl⟩
  go_wp2_with fail
  refine (size_any d _ (by omega) (by omega)).mono ?_
  rintro e w' ⟨rfl, rfl⟩
  rw [Int.natAbs_natCast]
  go_wp2_with fail
  refine (rgcd_any x.natAbs d _ (by omega) (by omega)).mono ?_
  rintro e w2 ⟨rfl, hw⟩
  have hb2 := hb0.drewP hw
  have c0 : w2.cell? ⟨w.heap.size, 0, none⟩ = some (.int .i64 0) := by obtain ⟨n, rfl⟩ := hw; exact c0
  have c1 : w2.cell? ⟨w.heap.size, 1, none⟩ = some (.int .i64 0) := by obtain ⟨n, rfl⟩ := hw; exact c1
  have f0 : w2.frozen? ⟨w.heap.size, 0, none⟩ = false := by obtain ⟨n, rfl⟩ := hw; exact f0
  have f1 : w2.frozen? ⟨w.heap.size, 1, none⟩ = false := by obtain ⟨n, rfl⟩ := hw; exact f1
  have hs2 : w.heap.size < w2.heap.size := by obtain ⟨n, rfl⟩ := hw; have := Hs0.out; show _ < w'.heap.size; omega
  have Hg : Hid (x.natAbs.gcd d = rG x d) := rfl
  rw [Hg.out]
  obtain ⟨g, hg⟩ : ∃ g, rG x d = g := ⟨_, rfl⟩
  rw [hg] at hg1 hg2 ⊢
  have HG := Lib.hid hg
  have hg0 : (0 : Int) < g := by omega
  have hq1 : (x.natAbs : Int).tdiv g = ((x.natAbs / g : Nat) : Int) := by rw [Int.tdiv_eq_ediv_of_nonneg (by omega)]; simp
  have hq2 : (d : Int).tdiv g = ((d / g : Nat) : Int) := by rw [Int.tdiv_eq_ediv_of_nonneg (by omega)]; simp
  have hn1 : x.natAbs / g ≤ 1000000000000000000 := Nat.le_trans (Nat.div_le_self _ _) ha2
  have hn2 : d / g ≤ 1000000000000000000 := Nat.le_trans (Nat.div_le_self _ _) hd2
  have hw1 := wrap_u hn1
  have hw2 := wrap_u hn2
  have hbn : (decide (x < 0) != false) = decide (x < 0) := by simp
  have Hc0 := Lib.hid c0
  have Hc1 := Lib.hid c1
  have Hf0 := Lib.hid f0
  have Hf1 := Lib.hid f1
  obtain ⟨A, hA⟩ : ∃ A : Nat, x.natAbs / g = A := ⟨_, rfl⟩
  obtain ⟨B, hB⟩ : ∃ B : Nat, d / g = B := ⟨_, rfl⟩
  rw [hA] at hq1 hw1 hn1
  rw [hB] at hq2 hw2 hn2
  have HA := Lib.hid hA
  have HB := Lib.hid hB
  obtain ⟨m, hm⟩ : ∃ m : Bool, decide (x < 0) = m := ⟨_, rfl⟩
  have HM := Lib.hid hm
  clear hA hB hm hg hbn
  go_wp2_with fail
  go_region_with (go_at_call 68; refine (signed_any _ _ _ _ hn1 hn2).mono ?_; rintro e w3 ⟨rfl, hb3⟩; have c0' := (hb3.cell (p := ⟨w.heap.size, 0, none⟩) hs2).trans Hc0.out; have c1' := (hb3.cell (p := ⟨w.heap.size, 1, none⟩) hs2).trans Hc1.out; have f0' := (hb3.frozen (p := ⟨w.heap.size, 0, none⟩) hs2).trans Hf0.out; have f1' := (hb3.frozen (p := ⟨w.heap.size, 1, none⟩) hs2).trans Hf1.out)
  all_goals
    go_wp2_with fail
    obtain ⟨k0, k1⟩ := Two.set (x := .int .i64 (sgn (decide (x < 0)) A)) (y := .int .i64 B) c0' c1'
    refine bodyPost_ret (v := .tuple #[.agg #[.int .i64 (sgn (decide (x < 0)) A), .int .i64 B], .int .i64 0]) (by simp [results, Try.results48, go_sem, k0, k1]) rfl ⟨?_, ?_⟩
    · unfold ratV rN rD
      rw [HG.out, HA.out, HB.out]
    · exact ((hb2.drew.trans (hb3.mono (Nat.le_of_lt hs2))).setCell (p := ⟨w.heap.size, 0, none⟩) (by simp) _).setCell (p := ⟨w.heap.size, 1, none⟩) (by simp) _

set_option maxHeartbeats 4000000 in
set_option maxRecDepth 100000 in
theorem refMake_any (x : Int) (d : Nat) (w : World) (h1 : -1000000000000000000 ≤ x) (h2 : x ≤ 1000000000000000000) (hd : 0 < d) (hd2 : d ≤ 1000000000000000000) :
    Calls Try.prog 37 #[.int .i64 x, .int .i64 d] w fun e w' => e = .returned (.tuple #[ratV x d, .int .i64 0]) ∧ Below w.heap.size w w' := by
  obtain ⟨W0, hW0⟩ : ∃ W0, w.alloc (.cells #[.int .i64 0, .int .i64 0] 40) = W0 := ⟨_, rfl⟩
  have hb0 : Below w.heap.size w W0 := by rw [← hW0]; exact (Below.refl _ _).alloc (Nat.le_refl _) _
  have hs0 : W0.heap.size = w.heap.size + 1 := by rw [← hW0]; simp
  have c0 : W0.cell? ⟨w.heap.size, 0, none⟩ = some (.int .i64 0) := by rw [← hW0]; exact World.cell?_alloc_at _ _ _ _ rfl
  have c1 : W0.cell? ⟨w.heap.size, 1, none⟩ = some (.int .i64 0) := by rw [← hW0]; exact World.cell?_alloc_at _ _ _ _ rfl
  have f0 : W0.frozen? ⟨w.heap.size, 0, none⟩ = false := by rw [← hW0]; exact World.frozen?_alloc_at _ _ _ _ rfl
  have f1 : W0.frozen? ⟨w.heap.size, 1, none⟩ = false := by rw [← hW0]; exact World.frozen?_alloc_at _ _ _ _ rfl
  have HW0 := Lib.hid hW0
  have Hs0 := Lib.hid hs0
  clear hW0 hs0
  have hd0 : ((d : Int) == 0) = false := by rw [beq_eq_false_iff_ne]; omega
  have hdn : decide ((d : Int) < 0) = false := by simp
  have hg1 := rG_pos (x := x) hd
  have hg2 := rG_le (x := x) hd
  have ha2 : x.natAbs ≤ 1000000000000000000 := by omega
  go_enter Try.func37, Try.ntmps37
  go_wp2_with fail
  rw [HW0.out]
  refine (abs_any x _ h1 h2).mono ?_
  rintro e w' ⟨rfl, rfl⟩
  go_wp2_with fail
  refine (abs_any d _ (by omega) (by omega)).mono ?_
  rintro e w' ⟨rfl, rfl⟩
  rw [Int.natAbs_natCast]
  go_wp2_with fail
  refine (refGcd_any x.natAbs d _ (by omega) (by omega)).mono ?_
  rintro e w2 ⟨rfl, hw⟩
  have hb2 := hb0.drewP hw
  have c0 : w2.cell? ⟨w.heap.size, 0, none⟩ = some (.int .i64 0) := by obtain ⟨n, rfl⟩ := hw; exact c0
  have c1 : w2.cell? ⟨w.heap.size, 1, none⟩ = some (.int .i64 0) := by obtain ⟨n, rfl⟩ := hw; exact c1
  have f0 : w2.frozen? ⟨w.heap.size, 0, none⟩ = false := by obtain ⟨n, rfl⟩ := hw; exact f0
  have f1 : w2.frozen? ⟨w.heap.size, 1, none⟩ = false := by obtain ⟨n, rfl⟩ := hw; exact f1
  have hs2 : w.heap.size < w2.heap.size := by obtain ⟨n, rfl⟩ := hw; have := Hs0.out; show _ < w'.heap.size; omega
  have Hg : Hid (x.natAbs.gcd d = rG x d) := rfl
  rw [Hg.out]
  obtain ⟨g, hg⟩ : ∃ g, rG x d = g := ⟨_, rfl⟩
  rw [hg] at hg1 hg2 ⊢
  have HG := Lib.hid hg
  have hg0 : (0 : Int) < g := by omega
  have hq1 : (x.natAbs : Int).tdiv g = ((x.natAbs / g : Nat) : Int) := by rw [Int.tdiv_eq_ediv_of_nonneg (by omega)]; simp
  have hq2 : (d : Int).tdiv g = ((d / g : Nat) : Int) := by rw [Int.tdiv_eq_ediv_of_nonneg (by omega)]; simp
  have hn1 : x.natAbs / g ≤ 1000000000000000000 := Nat.le_trans (Nat.div_le_self _ _) ha2
  have hn2 : d / g ≤ 1000000000000000000 := Nat.le_trans (Nat.div_le_self _ _) hd2
  have hw1 := wrap_u hn1
  have hw2 := wrap_u hn2
  have hbn : (decide (x < 0) != false) = decide (x < 0) := by simp
  have Hc0 := Lib.hid c0
  have Hc1 := Lib.hid c1
  have Hf0 := Lib.hid f0
  have Hf1 := Lib.hid f1
  obtain ⟨A, hA⟩ : ∃ A : Nat, x.natAbs / g = A := ⟨_, rfl⟩
  obtain ⟨B, hB⟩ : ∃ B : Nat, d / g = B := ⟨_, rfl⟩
  rw [hA] at hq1 hw1 hn1
  rw [hB] at hq2 hw2 hn2
  have HA := Lib.hid hA
  have HB := Lib.hid hB
  obtain ⟨m, hm⟩ : ∃ m : Bool, decide (x < 0) = m := ⟨_, rfl⟩
  have HM := Lib.hid hm
  clear hA hB hm hg hbn
  go_wp2_with fail
  go_region_with (go_at_call 58; refine (made_any _ _ _ _ hn1 hn2).mono ?_; rintro e w3 ⟨rfl, hb3⟩; have c0' := (hb3.cell (p := ⟨w.heap.size, 0, none⟩) hs2).trans Hc0.out; have c1' := (hb3.cell (p := ⟨w.heap.size, 1, none⟩) hs2).trans Hc1.out; have f0' := (hb3.frozen (p := ⟨w.heap.size, 0, none⟩) hs2).trans Hf0.out; have f1' := (hb3.frozen (p := ⟨w.heap.size, 1, none⟩) hs2).trans Hf1.out)
  all_goals
    go_wp2_with fail
    obtain ⟨k0, k1⟩ := Two.set (x := .int .i64 (sgn (decide (x < 0)) A)) (y := .int .i64 B) c0' c1'
    refine bodyPost_ret (v := .tuple #[.agg #[.int .i64 (sgn (decide (x < 0)) A), .int .i64 B], .int .i64 0]) (by simp [results, Try.results37, go_sem, k0, k1]) rfl ⟨?_, ?_⟩
    · unfold ratV rN rD
      rw [HG.out, HA.out, HB.out]
    · exact ((hb2.drew.trans (hb3.mono (Nat.le_of_lt hs2))).setCell (p := ⟨w.heap.size, 0, none⟩) (by simp) _).setCell (p := ⟨w.heap.size, 1, none⟩) (by simp) _
end Go.Proofs.Ytojldecldemfaaa
