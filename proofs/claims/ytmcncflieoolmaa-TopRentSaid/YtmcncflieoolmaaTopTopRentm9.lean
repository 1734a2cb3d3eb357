/- The walk of the reference's Links, for every flat. -/
import Derived.Test.YtmcncflieoolmaaTopTopRentm8
import Derived.Test.YtmcncflieoolmaaTopTopRentm1
import Derived.IntWalk
import Derived.StillTailTactics
import Derived.Deep.RegionWith
/- The walk of the reference's Links, for every flat. -/
namespace Go.Proofs.Ytmcncflieoolmaa
set_option linter.unusedVariables false
set_option linter.unusedSimpArgs false
open Go.ChangeShapes Go.WideShapes Go.ChangeAt Go.RowKit Go.Deep

theorem cell_one_at {W : World} {v : Value} {t : TypeId} {B : Nat} (hB : W.heap.size = B) : ∀ (j : Nat) (u : Value), [v][j]? = some u → (W.alloc (.cells #[v] t)).cell? ((⟨B, 0, none⟩ : Addr).add j) = some u := by
  subst hB; exact cell_one_new _ _ _
theorem linkL_len (v : List (List Int)) (a : List Int) : (linkL v a).length = v.length := by simp [linkL]
theorem linkL_row {v : List (List Int)} {a : List Int} {k : Nat} (hk : k < v.length) : rget (linkL v a) k = (List.range v.length).map fun j => lnkS (wl v a) v.length k j := by simp [linkL, rget, hk]
theorem linkL_row_len {v : List (List Int)} {a : List Int} {k : Nat} (hk : k < v.length) : (rget (linkL v a) k).length = v.length := by rw [linkL_row hk]; simp
theorem linkL_snoc {v : List (List Int)} {a : List Int} {k m : Nat} (hk : k < v.length) (hm : m < v.length) : (rget (linkL v a) k).take (m + 1) = (rget (linkL v a) k).take m ++ [lnkS (wl v a) v.length k m] := by
  rw [List.take_succ_eq_append_getElem (by rw [linkL_row_len hk]; exact hm)]
  simp [linkL_row hk]

end Go.Proofs.Ytmcncflieoolmaa

/- The walks of ratio.Make and the reference's Make, for numbers of at most 10^18 and a positive denominator. -/
namespace Go.Proofs.Ytmcncflieoolmaa
set_option linter.unusedVariables false
set_option linter.unusedSimpArgs false
open Go.ChangeShapes Go.WideShapes Go.ChangeAt Go.RowKit Go.Deep

theorem ret_u64 {a b : Int} (h : a = b) : Ending.returned (.int .u64 a) = .returned (.int .u64 b) := by rw [h]
theorem wrap_u {a : Nat} (h : a ≤ 1000000000000000000) : IntKind.u64.wrap (a : Int) = a := by
  simp only [IntKind.wrap, IntKind.bits, IntKind.signed]
  simp
  omega
theorem Two.set {w : World} {S : Nat} {x y u v : Value} (h0 : w.cell? ⟨S, 0, none⟩ = some u) (h1 : w.cell? ⟨S, 1, none⟩ = some v) :
    ((w.setCell ⟨S, 0, none⟩ x).setCell ⟨S, 1, none⟩ y).cell? ⟨S, 0, none⟩ = some x ∧ ((w.setCell ⟨S, 0, none⟩ x).setCell ⟨S, 1, none⟩ y).cell? ⟨S, 1, none⟩ = some y := by
  have hne : ∀ {j k : Nat}, j ≠ k → (⟨S, j, none⟩ : Addr) ≠ ⟨S, k, none⟩ := fun h e => h (by cases e; rfl)
  exact ⟨(World.cell?_setCell_other _ _ _ _ (hne (by omega))).trans (World.cell?_setCell_same _ _ _ h0), World.cell?_setCell_same _ _ _ ((World.cell?_setCell_other _ _ _ _ (hne (by omega))).trans h1)⟩
theorem wrap_neg {x : Int} (h1 : -1000000000000000000 ≤ x) (h2 : x < 0) : IntKind.u64.wrap (-IntKind.u64.wrap x) = -x := by
  simp only [IntKind.wrap, IntKind.bits, IntKind.signed]
  simp
  omega
set_option maxHeartbeats 400000 in
theorem size_any (x : Int) (w : World) (h1 : -1000000000000000000 ≤ x) (h2 : x ≤ 1000000000000000000) :
    Calls Try.prog 53 #[.int .i64 x] w fun e w' => e = .returned (.int .u64 (x.natAbs : Nat)) ∧ w' = w := by
  by_cases h0 : x < 0
  · have hd : decide (x < 0) = true := by simpa using h0
    have Hw := Lib.hid (wrap_neg h1 h0)
    go_enter Try.func53, Try.ntmps53
    go_wp2_with fail
    go_ret
    exact ⟨ret_u64 (by rw [Hw.out]; omega), rfl⟩
  · have hd : decide (x < 0) = false := by simpa using h0
    go_enter Try.func53, Try.ntmps53
    go_wp2_with fail
    go_ret
    exact ⟨ret_u64 (by omega), rfl⟩
set_option maxHeartbeats 400000 in
theorem abs_any (x : Int) (w : World) (h1 : -1000000000000000000 ≤ x) (h2 : x ≤ 1000000000000000000) :
    Calls Try.prog 37 #[.int .i64 x] w fun e w' => e = .returned (.int .u64 (x.natAbs : Nat)) ∧ w' = w := by
  by_cases h0 : x < 0
  · have hd : decide (x < 0) = true := by simpa using h0
    go_enter Try.func37, Try.ntmps37
    go_wp2_with fail
    go_ret
    exact ⟨ret_u64 (by omega), rfl⟩
  · have hd : decide (x < 0) = false := by simpa using h0
    go_enter Try.func37, Try.ntmps37
    go_wp2_with fail
    go_ret
    exact ⟨ret_u64 (by omega), rfl⟩
set_option maxHeartbeats 400000 in
theorem rgcd_any (a b : Nat) (w : World) (ha : a ≤ 4611686018427387904) (hb : b ≤ 4611686018427387904) :
    Calls Try.prog 54 #[.int .u64 a, .int .u64 b] w fun e w' => e = .returned (.int .u64 (Nat.gcd a b : Nat)) ∧ ∃ n, w' = w.drewN n := by
  go_enter Try.func54, Try.ntmps54
  go_wp2_with fail
  go_loopw [0, 1] (fun s t wr => ∃ x y : Nat, s = .int .u64 x ∧ t = .int .u64 y ∧ Hid (Nat.gcd x y = Nat.gcd a b) ∧ x ≤ 4611686018427387904 ∧ y ≤ 4611686018427387904 ∧ ∃ n, wr = w.drewN n) (fun _ t _ => (intOf t).toNat)
  case atStart => exact ⟨a, b, rfl, rfl, rfl, ha, hb, drew_refl w⟩
  case round =>
    obtain ⟨x, y, rfl, rfl, hg, hx, hy, hw⟩ := hrel
    have Hw := Lib.hid hw
    clear hw
    by_cases h0 : y = 0
    · have hz : ¬ (0 : Int) < y := by omega
      have H0 := Lib.hid h0
      clear h0
      go_wp2_with fail
      go_ret
      exact ⟨ret_u64 (by rw [← hg.out, H0.out, Nat.gcd_zero_right]), Hw.out⟩
    · have hz : (0 : Int) < y := by omega
      have hy0 : (0 : Int) < y := by omega
      have hx0 : (0 : Int) ≤ x := by omega
      have hlt := Nat.mod_lt x (by omega : y > 0)
      go_wp2_with fail
      go_quiet (fail)
      go_wp2_with fail
      go_roundw
      case rel => exact ⟨y, x % y, rfl, by congr 1, by unfold Hid; rw [Nat.gcd_comm, ← Nat.gcd_rec, Nat.gcd_comm]; exact hg.out, hy, by omega, drew_drewN _ Hw.out⟩
      case measure => simp only [intOf]; omega
set_option maxHeartbeats 400000 in
theorem refGcd_any (a b : Nat) (w : World) (ha : a ≤ 4611686018427387904) (hb : b ≤ 4611686018427387904) :
    Calls Try.prog 46 #[.int .u64 a, .int .u64 b] w fun e w' => e = .returned (.int .u64 (Nat.gcd a b : Nat)) ∧ ∃ n, w' = w.drewN n := by
  go_enter Try.func46, Try.ntmps46
  go_wp2_with fail
  go_loopw [0, 1] (fun s t wr => ∃ x y : Nat, s = .int .u64 x ∧ t = .int .u64 y ∧ Hid (Nat.gcd x y = Nat.gcd a b) ∧ x ≤ 4611686018427387904 ∧ y ≤ 4611686018427387904 ∧ ∃ n, wr = w.drewN n) (fun _ t _ => (intOf t).toNat)
  case atStart => exact ⟨a, b, rfl, rfl, rfl, ha, hb, drew_refl w⟩
  case round =>
    obtain ⟨x, y, rfl, rfl, hg, hx, hy, hw⟩ := hrel
    have Hw := Lib.hid hw
    clear hw
    by_cases h0 : y = 0
    · have hz : ((y : Int) != 0) = false := by simp [h0]
      have H0 := Lib.hid h0
      clear h0
      go_wp2_with fail
      go_ret
      exact ⟨ret_u64 (by rw [← hg.out, H0.out, Nat.gcd_zero_right]), Hw.out⟩
    · have hz : ((y : Int) != 0) = true := by rw [bne_iff_ne]; omega
      have hy0 : (0 : Int) < y := by omega
      have hx0 : (0 : Int) ≤ x := by omega
      have hlt := Nat.mod_lt x (by omega : y > 0)
      go_wp2_with fail
      go_quiet (fail)
      go_wp2_with fail
      go_roundw
      case rel => exact ⟨y, x % y, rfl, by congr 1, by unfold Hid; rw [Nat.gcd_comm, ← Nat.gcd_rec, Nat.gcd_comm]; exact hg.out, hy, by omega, drew_drewN _ Hw.out⟩
      case measure => simp only [intOf]; omega

/-- The signed number. -/
def sgn (m : Bool) (a : Nat) : Int := if m = true then -(a : Int) else a
set_option maxHeartbeats 800000 in
theorem signed_any (m : Bool) (a b : Nat) (w : World) (ha : a ≤ 1000000000000000000) (hb : b ≤ 1000000000000000000) :
    Calls Try.prog 55 #[.bool m, .int .u64 a, .int .u64 b] w fun e w' => e = .returned (.tuple #[.agg #[.int .i64 (sgn m a), .int .i64 b], .int .i64 0]) ∧ Below w.heap.size w w' := by
  have hmx : ¬ (1000000000000000000 : Int) < max (a : Int) b := by omega
  have h1 : (0 : Int) ≤ a := by omega
  have h2 : (a : Int) ≤ 1000000000000000000 := by omega
  have h3 : (0 : Int) ≤ b := by omega
  have h4 : (b : Int) ≤ 1000000000000000000 := by omega
  cases m with
  | true =>
    go_enter Try.func55, Try.ntmps55
    go_wp2_with fail
    all_goals
      exact bodyPost_ret (v := .tuple #[.agg #[.int .i64 (-(a : Int)), .int .i64 b], .int .i64 0]) (by simp [results, Try.results55, go_sem]) rfl ⟨rfl, (Below.refl _ _).alloc (Nat.le_refl _) _⟩
  | false =>
    go_enter Try.func55, Try.ntmps55
    go_wp2_with fail
    all_goals
      exact bodyPost_ret (v := .tuple #[.agg #[.int .i64 (a : Int), .int .i64 b], .int .i64 0]) (by simp [results, Try.results55, go_sem]) rfl ⟨rfl, (Below.refl _ _).alloc (Nat.le_refl _) _⟩
set_option maxHeartbeats 800000 in
theorem made_any (m : Bool) (a b : Nat) (w : World) (ha : a ≤ 1000000000000000000) (hb : b ≤ 1000000000000000000) :
    Calls Try.prog 47 #[.bool m, .agg #[.int .u64 0, .int .u64 a], .agg #[.int .u64 0, .int .u64 b]] w fun e w' => e = .returned (.tuple #[.agg #[.int .i64 (sgn m a), .int .i64 b], .int .i64 0]) ∧ Below w.heap.size w w' := by
  have h1 : (0 : Int) ≤ a := by omega
  have h2 : (a : Int) ≤ 1000000000000000000 := by omega
  have h3 : (0 : Int) ≤ b := by omega
  have h4 : (b : Int) ≤ 1000000000000000000 := by omega
  have h5 : decide (1000000000000000000 < (a : Int)) = false := by simp; omega
  have h6 : decide (1000000000000000000 < (b : Int)) = false := by simp; omega
  cases m with
  | true =>
    go_enter Try.func47, Try.ntmps47
    go_wp2_with fail
    exact bodyPost_ret (v := .tuple #[.agg #[.int .i64 (-(a : Int)), .int .i64 b], .int .i64 0]) (by simp [results, Try.results47, go_sem]) rfl ⟨rfl, by
      repeat (first | exact Below.refl _ _ | refine Below.setCell ?_ (by simp) _ | refine Below.alloc ?_ (by first | exact Nat.le_refl _ | (simp; done) | (simp; omega)) _)⟩
  | false =>
    go_enter Try.func47, Try.ntmps47
    go_wp2_with fail
    exact bodyPost_ret (v := .tuple #[.agg #[.int .i64 (a : Int), .int .i64 b], .int .i64 0]) (by simp [results, Try.results47, go_sem]) rfl ⟨rfl, by
      repeat (first | exact Below.refl _ _ | refine Below.setCell ?_ (by simp) _ | refine Below.alloc ?_ (by first | exact Nat.le_refl _ | (simp; done) | (simp; omega)) _)⟩

/-- The fraction x / d in lowest terms. -/
def rG (x : Int) (d : Nat) : Nat := Nat.gcd x.natAbs d
def rN (x : Int) (d : Nat) : Int := sgn (decide (x < 0)) (x.natAbs / rG x d)
def rD (x : Int) (d : Nat) : Int := ((d / rG x d : Nat) : Int)
def ratV (x : Int) (d : Nat) : Value := .agg #[.int .i64 (rN x d), .int .i64 (rD x d)]
theorem rG_pos {x : Int} {d : Nat} (h : 0 < d) : 0 < rG x d := Nat.gcd_pos_of_pos_right _ h
theorem rG_le {x : Int} {d : Nat} (h : 0 < d) : rG x d ≤ d := Nat.le_of_dvd h (Nat.gcd_dvd_right _ _)

set_option maxHeartbeats 4000000 in
set_option maxRecDepth 100000 in
theorem make_any (x : Int) (d : Nat) (w : World) (h1 : -1000000000000000000 ≤ x) (h2 : x ≤ 1000000000000000000) (hd : 0 < d) (hd2 : d ≤ 1000000000000000000) :
    Calls Try.prog 34 #[.int .i64 x, .int .i64 d] w fun e w' => e = .returned (.tuple #[ratV x d, .int .i64 0]) ∧ Below w.heap.size w w' := by
  obtain ⟨W0, hW0⟩ : ∃ W0, w.alloc (.cells #[.int .i64 0, .int .i64 0] 35) = W0 := ⟨_, rfl⟩
  have hb0 : Below w.heap.size w W0 := by rw [← hW0]; exact (Below.refl _ _).alloc (Nat.le_refl _) _
  have hs0 : W0.heap.size = w.heap.size + 1 := by rw [← hW0]; simp
  have c0 : W0.cell? ⟨w.heap.size, 0, none⟩ = some (.int .i64 0) := by rw [← hW0]; exact World.cell?_alloc_at _ _ _ _ rfl
  have c1 : W0.cell? ⟨w.heap.size, 1, none⟩ = some (.int .i64 0) := by rw [← hW0]; exact World.cell?_alloc_at _ _ _ _ rfl
  have f0 : W0.frozen? ⟨w.heap.size, 0, none⟩ = false := by rw [← hW0]; exact World.frozen?_alloc_at _ _ _ _ rfl
  have f1 : W0.frozen? ⟨w.heap.size, 1, none⟩ = false := by rw [← hW0]; exact World.frozen?_alloc_at _ _ _ _ rfl
  have HW0 := Lib.hid hW0
  have Hs0 := Lib.hid hs0
  clear hW0 hs0
  have hd0 : ((d : Int) == 0) = false := by rw [beq_eq_false_iff_ne]; omega
  have hdn : decide ((d : Int) < 0) = false := by simp
  have hg1 := rG_pos (x := x) hd
  have hg2 := rG_le (x := x) hd
  have ha2 : x.natAbs ≤ 1000000000000000000 := by omega
  go_enter Try.func34, Try.ntmps34
  go_wp2_with fail
  rw [HW0.out]
  refine (size_any x _ h1 h2).mono ?_
  rintro e w' ⟨rfl, rfl⟩
  go_wp2_with fail
  refine (size_any d _ (by omega) (by omega)).mono ?_
  rintro e w' ⟨rfl, rfl⟩
  rw [Int.natAbs_natCast]
  go_wp2_with fail
  refine (rgcd_any x.natAbs d _ (by omega) (by omega)).mono ?_
  rintro e w2 ⟨rfl, hw⟩
  have hb2 := hb0.drewP hw
  have c0 : w2.cell? ⟨w.heap.size, 0, none⟩ = some (.int .i64 0) := by obtain ⟨n, rfl⟩ := hw; exact c0
  have c1 : w2.cell? ⟨w.heap.size, 1, none⟩ = some (.int .i64 0) := by obtain ⟨n, rfl⟩ := hw; exact c1
  have f0 : w2.frozen? ⟨w.heap.size, 0, none⟩ = false := by obtain ⟨n, rfl⟩ := hw; exact f0
  have f1 : w2.frozen? ⟨w.heap.size, 1, none⟩ = false := by obtain ⟨n, rfl⟩ := hw; exact f1
  have hs2 : w.heap.size < w2.heap.size := by obtain ⟨n, rfl⟩ := hw; have := Hs0.out; show _ < w'.heap.size; omega
  have Hg : Hid (x.natAbs.gcd d = rG x d) := rfl
  rw [Hg.out]
  obtain ⟨g, hg⟩ : ∃ g, rG x d = g := ⟨_, rfl⟩
  rw [hg] at hg1 hg2 ⊢
  have HG := Lib.hid hg
  have hg0 : (0 : Int) < g := by omega
  have hq1 : (x.natAbs : Int).tdiv g = ((x.natAbs / g : Nat) : Int) := by rw [Int.tdiv_eq_ediv_of_nonneg (by omega)]; simp
  have hq2 : (d : Int).tdiv g = ((d / g : Nat) : Int) := by rw [Int.tdiv_eq_ediv_of_nonneg (by omega)]; simp
  have hn1 : x.natAbs / g ≤ 1000000000000000000 := Nat.le_trans (Nat.div_le_self _ _) ha2
  have hn2 : d / g ≤ 1000000000000000000 := Nat.le_trans (Nat.div_le_self _ _) hd2
  have hw1 := wrap_u hn1
  have hw2 := wrap_u hn2
  have hbn : (decide (x < 0) != false) = decide (x < 0) := by simp
  have Hc0 := Lib.hid c0
  have Hc1 := Lib.hid c1
  have Hf0 := Lib.hid f0
  have Hf1 := Lib.hid f1
  obtain ⟨A, hA⟩ : ∃ A : Nat, x.natAbs / g = A := ⟨_, rfl⟩
  obtain ⟨B, hB⟩ : ∃ B : Nat, d / g = B := ⟨_, rfl⟩
  rw [hA] at hq1 hw1 hn1
  rw [hB] at hq2 hw2 hn2
  have HA := Lib.hid hA
  have HB := Lib.hid hB
  obtain ⟨m, hm⟩ : ∃ m : Bool, decide (x < 0) = m := ⟨_, rfl⟩
  have HM := Lib.hid hm
  clear hA hB hm hg hbn
  go_wp2_with fail
  go_region_with (go_at_call 55; refine (signed_any _ _ _ _ hn1 hn2).mono ?_; rintro e w3 ⟨rfl, hb3⟩; have c0' := (hb3.cell (p := ⟨w.heap.size, 0, none⟩) hs2).trans Hc0.out; have c1' := (hb3.cell (p := ⟨w.heap.size, 1, none⟩) hs2).trans Hc1.out; have f0' := (hb3.frozen (p := ⟨w.heap.size, 0, none⟩) hs2).trans Hf0.out; have f1' := (hb3.frozen (p := ⟨w.heap.size, 1, none⟩) hs2).trans Hf1.out)
  all_goals
    go_wp2_with fail
    obtain ⟨k0, k1⟩ := Two.set (x := .int .i64 (sgn (decide (x < 0)) A)) (y := .int .i64 B) c0' c1'
    refine bodyPost_ret (v := .tuple #[.agg #[.int .i64 (sgn (decide (x < 0)) A), .int .i64 B], .int .i64 0]) (by simp [results, Try.results34, go_sem, k0, k1]) rfl ⟨?_, ?_⟩
    · unfold ratV rN rD
      rw [HG.out, HA.out, HB.out]
    · exact ((hb2.drew.trans (hb3.mono (Nat.le_of_lt hs2))).setCell (p := ⟨w.heap.size, 0, none⟩) (by simp) _).setCell (p := ⟨w.heap.size, 1, none⟩) (by simp) _

set_option maxHeartbeats 4000000 in
set_option maxRecDepth 100000 in
theorem refMake_any (x : Int) (d : Nat) (w : World) (h1 : -1000000000000000000 ≤ x) (h2 : x ≤ 1000000000000000000) (hd : 0 < d) (hd2 : d ≤ 1000000000000000000) :
    Calls Try.prog 26 #[.int .i64 x, .int .i64 d] w fun e w' => e = .returned (.tuple #[ratV x d, .int .i64 0]) ∧ Below w.heap.size w w' := by
  obtain ⟨W0, hW0⟩ : ∃ W0, w.alloc (.cells #[.int .i64 0, .int .i64 0] 35) = W0 := ⟨_, rfl⟩
  have hb0 : Below w.heap.size w W0 := by rw [← hW0]; exact (Below.refl _ _).alloc (Nat.le_refl _) _
  have hs0 : W0.heap.size = w.heap.size + 1 := by rw [← hW0]; simp
  have c0 : W0.cell? ⟨w.heap.size, 0, none⟩ = some (.int .i64 0) := by rw [← hW0]; exact World.cell?_alloc_at _ _ _ _ rfl
  have c1 : W0.cell? ⟨w.heap.size, 1, none⟩ = some (.int .i64 0) := by rw [← hW0]; exact World.cell?_alloc_at _ _ _ _ rfl
  have f0 : W0.frozen? ⟨w.heap.size, 0, none⟩ = false := by rw [← hW0]; exact World.frozen?_alloc_at _ _ _ _ rfl
  have f1 : W0.frozen? ⟨w.heap.size, 1, none⟩ = false := by rw [← hW0]; exact World.frozen?_alloc_at _ _ _ _ rfl
  have HW0 := Lib.hid hW0
  have Hs0 := Lib.hid hs0
  clear hW0 hs0
  have hd0 : ((d : Int) == 0) = false := by rw [beq_eq_false_iff_ne]; omega
  have hdn : decide ((d : Int) < 0) = false := by simp
  have hg1 := rG_pos (x := x) hd
  have hg2 := rG_le (x := x) hd
  have ha2 : x.natAbs ≤ 1000000000000000000 := by omega
  go_enter Try.func26, Try.ntmps26
  go_wp2_with fail
  rw [HW0.out]
  refine (abs_any x _ h1 h2).mono ?_
  rintro e w' ⟨rfl, rfl⟩
  go_wp2_with fail
  refine (abs_any d _ (by omega) (by omega)).mono ?_
  rintro e w' ⟨rfl, rfl⟩
  rw [Int.natAbs_natCast]
  go_wp2_with fail
  refine (refGcd_any x.natAbs d _ (by omega) (by omega)).mono ?_
  rintro e w2 ⟨rfl, hw⟩
  have hb2 := hb0.drewP hw
  have c0 : w2.cell? ⟨w.heap.size, 0, none⟩ = some (.int .i64 0) := by obtain ⟨n, rfl⟩ := hw; exact c0
  have c1 : w2.cell? ⟨w.heap.size, 1, none⟩ = some (.int .i64 0) := by obtain ⟨n, rfl⟩ := hw; exact c1
  have f0 : w2.frozen? ⟨w.heap.size, 0, none⟩ = false := by obtain ⟨n, rfl⟩ := hw; exact f0
  have f1 : w2.frozen? ⟨w.heap.size, 1, none⟩ = false := by obtain ⟨n, rfl⟩ := hw; exact f1
  have hs2 : w.heap.size < w2.heap.size := by obtain ⟨n, rfl⟩ := hw; have := Hs0.out; show _ < w'.heap.size; omega
  have Hg : Hid (x.natAbs.gcd d = rG x d) := rfl
  rw [Hg.out]
  obtain ⟨g, hg⟩ : ∃ g, rG x d = g := ⟨_, rfl⟩
  rw [hg] at hg1 hg2 ⊢
  have HG := Lib.hid hg
  have hg0 : (0 : Int) < g := by omega
  have hq1 : (x.natAbs : Int).tdiv g = ((x.natAbs / g : Nat) : Int) := by rw [Int.tdiv_eq_ediv_of_nonneg (by omega)]; simp
  have hq2 : (d : Int).tdiv g = ((d / g : Nat) : Int) := by rw [Int.tdiv_eq_ediv_of_nonneg (by omega)]; simp
  have hn1 : x.natAbs / g ≤ 1000000000000000000 := Nat.le_trans (Nat.div_le_self _ _) ha2
  have hn2 : d / g ≤ 1000000000000000000 := Nat.le_trans (Nat.div_le_self _ _) hd2
  have hw1 := wrap_u hn1
  have hw2 := wrap_u hn2
  have hbn : (decide (x < 0) != false) = decide (x < 0) := by simp
  have Hc0 := Lib.hid c0
  have Hc1 := Lib.hid c1
  have Hf0 := Lib.hid f0
  have Hf1 := Lib.hid f1
  obtain ⟨A, hA⟩ : ∃ A : Nat, x.natAbs / g = A := ⟨_, rfl⟩
  obtain ⟨B, hB⟩ : ∃ B : Nat, d / g = B := ⟨_, rfl⟩
  rw [hA] at hq1 hw1 hn1
  rw [hB] at hq2 hw2 hn2
  have HA := Lib.hid hA
  have HB := Lib.hid hB
  obtain ⟨m, hm⟩ : ∃ m : Bool, decide (x < 0) = m := ⟨_, rfl⟩
  have HM := Lib.hid hm
  clear hA hB hm hg hbn
  go_wp2_with fail
  go_region_with (go_at_call 47; refine (made_any _ _ _ _ hn1 hn2).mono ?_; rintro e w3 ⟨rfl, hb3⟩; have c0' := (hb3.cell (p := ⟨w.heap.size, 0, none⟩) hs2).trans Hc0.out; have c1' := (hb3.cell (p := ⟨w.heap.size, 1, none⟩) hs2).trans Hc1.out; have f0' := (hb3.frozen (p := ⟨w.heap.size, 0, none⟩) hs2).trans Hf0.out; have f1' := (hb3.frozen (p := ⟨w.heap.size, 1, none⟩) hs2).trans Hf1.out)
  all_goals
    go_wp2_with fail
    obtain ⟨k0, k1⟩ := Two.set (x := .int .i64 (sgn (decide (x < 0)) A)) (y := .int .i64 B) c0' c1'
    refine bodyPost_ret (v := .tuple #[.agg #[.int .i64 (sgn (decide (x < 0)) A), .int .i64 B], .int .i64 0]) (by simp [results, Try.results26, go_sem, k0, k1]) rfl ⟨?_, ?_⟩
    · unfold ratV rN rD
      rw [HG.out, HA.out, HB.out]
    · exact ((hb2.drew.trans (hb3.mono (Nat.le_of_lt hs2))).setCell (p := ⟨w.heap.size, 0, none⟩) (by simp) _).setCell (p := ⟨w.heap.size, 1, none⟩) (by simp) _
end Go.Proofs.Ytmcncflieoolmaa

/- The walk of room.Range, for every flat and room. -/
namespace Go.Proofs.Ytmcncflieoolmaa
set_option linter.unusedVariables false
set_option linter.unusedSimpArgs false
open Go.ChangeShapes Go.WideShapes Go.ChangeAt Go.RowKit Go.Deep

/-- The least and the greatest price of a room, times the number of rooms. -/
noncomputable def lowI (v : List (List Int)) (r : Int) (j k : Nat) : Int := r + sumTo (fun i => bid (linkL v (bestA v)) i j) k
noncomputable def highI (v : List (List Int)) (r : Int) (j k : Nat) : Int := r - sumTo (fun i => bid (linkL v (bestA v)) j i) k
def InR (v : List (List Int)) (r j : Int) : Prop := chkR v r = 0 ∧ 0 ≤ j ∧ j < v.length
instance (v : List (List Int)) (r j : Int) : Decidable (InR v r j) := by unfold InR; infer_instance
def zeroR : Value := .agg #[.int .i64 0, .int .i64 0]
noncomputable def rngLo (v : List (List Int)) (r j : Int) : Value := if InR v r j then ratV (lowI v r j.toNat v.length) v.length else zeroR
noncomputable def rngHi (v : List (List Int)) (r j : Int) : Value := if InR v r j then ratV (highI v r j.toNat v.length) v.length else zeroR
def rngE (v : List (List Int)) (r j : Int) : Int := if chkR v r = 0 then (if 0 ≤ j ∧ j < v.length then 0 else 2) else chkR v r
theorem rng_bad {v : List (List Int)} {r j : Int} (h : chkR v r ≠ 0) : rngLo v r j = zeroR ∧ rngHi v r j = zeroR ∧ rngE v r j = chkR v r := by
  have : ¬ InR v r j := fun hi => h hi.1
  exact ⟨if_neg this, if_neg this, if_neg h⟩
theorem rng_off {v : List (List Int)} {r j : Int} (h : chkR v r = 0) (hj : ¬ (0 ≤ j ∧ j < v.length)) : rngLo v r j = zeroR ∧ rngHi v r j = zeroR ∧ rngE v r j = 2 := by
  have : ¬ InR v r j := fun hi => hj hi.2
  exact ⟨if_neg this, if_neg this, by unfold rngE; rw [if_pos h, if_neg hj]⟩
theorem rng_in {v : List (List Int)} {r : Int} {j : Nat} (h : chkR v r = 0) (hj : j < v.length) : rngLo v r j = ratV (lowI v r j v.length) v.length ∧ rngHi v r j = ratV (highI v r j v.length) v.length ∧ rngE v r j = 0 := by
  have hi : InR v r j := ⟨h, by omega, by omega⟩
  exact ⟨if_pos hi, if_pos hi, by unfold rngE; rw [if_pos h, if_pos hi.2]⟩
theorem lowI_succ (v : List (List Int)) (r : Int) (j k : Nat) : lowI v r j (k + 1) = lowI v r j k + bid (linkL v (bestA v)) k j := by simp only [lowI, sumTo]; omega
theorem highI_succ (v : List (List Int)) (r : Int) (j k : Nat) : highI v r j (k + 1) = highI v r j k - bid (linkL v (bestA v)) j k := by simp only [highI, sumTo]; omega
theorem sum_bd {f : Nat → Int} {n : Nat} (hn : n ≤ 6) (h : ∀ i, i < n → -6000000 ≤ f i ∧ f i ≤ 6000000) : ∀ k, k ≤ n → -36000000 ≤ sumTo f k ∧ sumTo f k ≤ 36000000 := by
  have : ∀ k, k ≤ n → -(6000000 * (k : Int)) ≤ sumTo f k ∧ sumTo f k ≤ 6000000 * k := by
    intro k
    induction k with
    | zero => intro _; simp [sumTo]
    | succ k ih =>
      intro hk
      have h1 := ih (by omega)
      have h2 := h k (by omega)
      simp only [sumTo]
      omega
  intro k hk
  have := this k hk
  omega
theorem linkL_bd {v : List (List Int)} (hv : Bids v) {x y : Nat} (hx : x < v.length) (hy : y < v.length) : -6000000 ≤ bid (linkL v (bestA v)) x y ∧ bid (linkL v (bestA v)) x y ≤ 6000000 := by
  have e : bid (linkL v (bestA v)) x y = lnkS (wl v (bestA v)) v.length x y := tab_bid _ hx hy
  rw [e]
  exact lnkS_bound hv (bestA_best hv.1).1 y hx
theorem lowI_bd {v : List (List Int)} (hv : Bids v) {r : Int} (hr1 : 0 ≤ r) (hr2 : r ≤ 10000000) {j k : Nat} (hj : j < v.length) (hk : k ≤ v.length) : -100000000 ≤ lowI v r j k ∧ lowI v r j k ≤ 100000000 := by
  have := sum_bd (f := fun i => bid (linkL v (bestA v)) i j) hv.2.1 (fun i hi => linkL_bd hv hi hj) k hk
  unfold lowI; omega
theorem highI_bd {v : List (List Int)} (hv : Bids v) {r : Int} (hr1 : 0 ≤ r) (hr2 : r ≤ 10000000) {j k : Nat} (hj : j < v.length) (hk : k ≤ v.length) : -100000000 ≤ highI v r j k ∧ highI v r j k ≤ 100000000 := by
  have := sum_bd (f := fun i => bid (linkL v (bestA v)) j i) hv.2.1 (fun i hi => linkL_bd hv hj hi) k hk
  unfold highI; omega
/-- Two cells. -/
structure Two (w : World) (S : Nat) (x y : Value) : Prop where
  c0 : w.cell? ⟨S, 0, none⟩ = some x
  c1 : w.cell? ⟨S, 1, none⟩ = some y
  f0 : w.frozen? ⟨S, 0, none⟩ = false
  f1 : w.frozen? ⟨S, 1, none⟩ = false
theorem Two.new {w w' : World} {S : Nat} {x y : Value} {t : TypeId} (hS : w.heap.size = S) (hw : w' = w.alloc (.cells #[x, y] t)) : Two w' S x y := by
  subst hS hw
  have h : ∀ k, (w.alloc (.cells #[x, y] t)).cell? ⟨w.heap.size, k, none⟩ = #[x, y][k]? := fun k => World.cell?_alloc_at _ _ _ _ rfl
  exact ⟨h 0, h 1, World.frozen?_alloc_at _ _ _ _ rfl, World.frozen?_alloc_at _ _ _ _ rfl⟩
theorem Two.below {w w' : World} {S B : Nat} {x y : Value} (h : Two w S x y) (hb : Below B w w') (hS : S < B) : Two w' S x y := by
  have hc : ∀ k, w'.cell? ⟨S, k, none⟩ = w.cell? ⟨S, k, none⟩ := fun k => hb.cell (p := ⟨S, k, none⟩) hS
  have hf : ∀ k, w'.frozen? ⟨S, k, none⟩ = w.frozen? ⟨S, k, none⟩ := fun k => hb.frozen (p := ⟨S, k, none⟩) hS
  exact ⟨(hc 0).trans h.c0, (hc 1).trans h.c1, (hf 0).trans h.f0, (hf 1).trans h.f1⟩
theorem ne_blk {S T j k : Nat} (h : S ≠ T) : (⟨S, j, none⟩ : Addr) ≠ ⟨T, k, none⟩ := fun e => h (by cases e; rfl)
theorem Two.far {w : World} {S T k : Nat} {x y u : Value} (h : Two w S x y) (hne : T ≠ S) : Two (w.setCell ⟨T, k, none⟩ u) S x y :=
  ⟨(World.cell?_setCell_other _ _ _ _ (ne_blk hne)).trans h.c0, (World.cell?_setCell_other _ _ _ _ (ne_blk hne)).trans h.c1, by rw [World.frozen?_setCell]; exact h.f0, by rw [World.frozen?_setCell]; exact h.f1⟩
theorem Two.put {w : World} {S : Nat} {x y u v : Value} (h : Two w S x y) : Two ((w.setCell ⟨S, 0, none⟩ u).setCell ⟨S, 1, none⟩ v) S u v := by
  obtain ⟨h0, h1⟩ := Two.set (x := u) (y := v) h.c0 h.c1
  exact ⟨h0, h1, by rw [World.frozen?_setCell, World.frozen?_setCell]; exact h.f0, by rw [World.frozen?_setCell, World.frozen?_setCell]; exact h.f1⟩

/-- Two blocks written, one behind the other. -/
theorem four {X : World} {S : Nat} {x0 x1 y0 y1 : Value} (hA : Two X S x0 x1) (hB : Two X (S + 1) y0 y1) (u0 u1 v0 v1 : Value) :
    Two ((((X.setCell ⟨S, 0, none⟩ u0).setCell ⟨S, 1, none⟩ u1).setCell ⟨S + 1, 0, none⟩ v0).setCell ⟨S + 1, 1, none⟩ v1) S u0 u1 ∧
    Two ((((X.setCell ⟨S, 0, none⟩ u0).setCell ⟨S, 1, none⟩ u1).setCell ⟨S + 1, 0, none⟩ v0).setCell ⟨S + 1, 1, none⟩ v1) (S + 1) v0 v1 :=
  ⟨(hA.put.far (by omega)).far (by omega), ((hB.far (by omega)).far (by omega)).put⟩
theorem below_four {w X : World} (hb : Below w.heap.size w X) (u0 u1 v0 v1 : Value) :
    Below w.heap.size w ((((X.setCell ⟨w.heap.size + 1, 0, none⟩ u0).setCell ⟨w.heap.size + 1, 1, none⟩ u1).setCell ⟨w.heap.size + 1 + 1, 0, none⟩ v0).setCell ⟨w.heap.size + 1 + 1, 1, none⟩ v1) :=
  (((hb.setCell (p := ⟨w.heap.size + 1, 0, none⟩) (by simp) _).setCell (p := ⟨w.heap.size + 1, 1, none⟩) (by simp) _).setCell (p := ⟨w.heap.size + 1 + 1, 0, none⟩) (by simp only; omega) _).setCell (p := ⟨w.heap.size + 1 + 1, 1, none⟩) (by simp only; omega) _

set_option maxHeartbeats 8000000 in
set_option maxRecDepth 100000 in
theorem roomRange_any (p : Option Addr) (c : Nat) (v : List (List Int)) (r j : Int) (w : World) (hx : Mat w p c v) (hj64 : in64 j) :
    Calls Try.prog 13 #[.agg #[.slice p v.length c, .int .i64 r], .int .i64 j] w fun e w' => e = .returned (.tuple #[rngLo v r j, rngHi v r j, .int .i64 (rngE v r j)]) ∧ Below w.heap.size w w' := by
  obtain ⟨W0, hW0⟩ : ∃ W0, ((w.alloc (.cells #[.slice p v.length c, .int .i64 r] 24)).alloc (.cells #[.int .i64 0, .int .i64 0] 35)).alloc (.cells #[.int .i64 0, .int .i64 0] 35) = W0 := ⟨_, rfl⟩
  have hb0 : Below w.heap.size w W0 := by rw [← hW0]; exact (((Below.refl _ _).alloc (Nat.le_refl _) _).alloc (by simp) _).alloc (by simp; omega) _
  have hx1 := hx.below hb0 (Nat.le_refl _)
  have hs0 : W0.heap.size = w.heap.size + 3 := by rw [← hW0]; simp
  have ha : Two W0 (w.heap.size + 1) (.int .i64 0) (.int .i64 0) := by
    rw [← hW0]
    exact (Two.new (w := w.alloc (.cells #[.slice p v.length c, .int .i64 r] 24)) (by simp) rfl).below (B := w.heap.size + 2) ((Below.refl _ _).alloc (by simp) _) (by omega)
  have hb : Two W0 (w.heap.size + 2) (.int .i64 0) (.int .i64 0) := Two.new (by simp) hW0.symm
  have hbox : ∀ k, W0.cell? ⟨w.heap.size, k, none⟩ = #[.slice p v.length c, .int .i64 r][k]? := by
    intro k
    rw [← hW0]
    exact ((((Below.refl (w.heap.size + 1) _).alloc (by simp) _).alloc (by simp) _).cell (p := ⟨w.heap.size, k, none⟩) (by simp)).trans (World.cell?_alloc_at _ _ _ _ rfl)
  have hbx0 : W0.cell? ⟨w.heap.size, 0, none⟩ = some (.slice p v.length c) := hbox 0
  have hbx1 : W0.cell? ⟨w.heap.size, 1, none⟩ = some (.int .i64 r) := hbox 1
  clear hbox
  have HW0 := Lib.hid hW0
  have Hs0 := Lib.hid hs0
  clear hW0 hs0
  obtain ⟨hj1, hj2⟩ := hj64
  go_enter Try.func13, Try.ntmps13
  go_wp2_with fail
  rw [HW0.out]
  refine (roomLinks_any p c v r _ hx1).mono ?_
  rintro e w1 ⟨q, d, Q, D, rfl, hD, hb1⟩
  have hB1 := hb0.trans (hb1.mono hb0.size)
  have ha1 := ha.below hb1 (by have := Hs0.out; omega)
  have hbb1 := hb.below hb1 (by have := Hs0.out; omega)
  have hbx := (hb1.cell (p := ⟨w.heap.size, 1, none⟩) (by have := Hs0.out; simp only; omega)).trans hbx1
  have hs1 : w.heap.size + 3 ≤ w1.heap.size := by have := hb1.size; have := Hs0.out; omega
  have hM := hD.mat
  clear hD hb0 hb1 ha hb hbx0 hbx1 hx1
  by_cases hF : chkR v r = 0
  · have hcz : (chkR v r != 0) = false := by rw [hF]; rfl
    obtain ⟨hv, hr1, hr2⟩ := chkR_zero.1 hF
    have hLL : linksL v r = linkL v (bestA v) := by unfold linksL; rw [if_pos hF]
    have hll : (linkL v (bestA v)).length = v.length := linkL_len _ _
    rw [hLL] at hM
    rw [hLL, hll]
    have Hll := Lib.hid hll
    clear hLL hll
    by_cases hjn : 0 ≤ j ∧ j < v.length
    · obtain ⟨k0, rfl⟩ : ∃ k0 : Nat, j = k0 := ⟨j.toNat, by omega⟩
      have hjk : k0 < v.length := by omega
      have hjl : decide ((k0 : Int) < 0) = false := by simp
      have hjg : decide ((v.length : Int) ≤ (k0 : Int)) = false := by simp; omega
      obtain ⟨e1, e2, e3⟩ := rng_in hF hjk
      have E1 := Lib.hid e1
      have E2 := Lib.hid e2
      have E3 := Lib.hid e3
      have h6 := hv.2.1
      have h0 := hv.1
      have HF := Lib.hid hF
      have Hv := Lib.hid hv
      have ha10 := ha1.c0
      have hA1 := Lib.hid ha1
      have hBB := Lib.hid hbb1
      clear e1 e2 e3 hF hv hjn ha1 hbb1 ha10
      go_wp2_with fail
      go_quiet (fail)
      have hMd := hM.drewN nq
      have HBq := Lib.hid (hB1.drewN' nq)
      have HAq := Lib.hid (hA1.out.below (below_drewN w1.heap.size w1 nq) (by omega))
      have HBBq := Lib.hid (hBB.out.below (below_drewN w1.heap.size w1 nq) (by omega))
      obtain ⟨w2, hw2⟩ : ∃ w2, w1.drewN nq = w2 := ⟨_, rfl⟩
      have hs2 : w2.heap.size = w1.heap.size := by rw [← hw2]; rfl
      have hs3 : w.heap.size + 3 ≤ w2.heap.size := by omega
      rw [hw2] at hMd HBq HAq HBBq ⊢
      clear hw2 hs2 hM hB1 hA1 hBB hbx hs1
      go_wp2_with fail
      go_loop [8, 9, 37] (fun s t i => ∃ k : Nat, k ≤ v.length ∧ i = .int .i64 k ∧ s = .int .i64 (lowI v r k0 k) ∧ t = .int .i64 (highI v r k0 k)) (fun _ _ i => v.length - (intOf i).toNat)
      case atStart => exact ⟨0, Nat.zero_le _, rfl, by simp [lowI, sumTo], by simp [highI, sumTo]⟩
      case round =>
        obtain ⟨k, hk, rfl, rfl, rfl⟩ := hrel
        have b1 := lowI_bd Hv.out hr1 hr2 hjk hk
        have b2 := highI_bd Hv.out hr1 hr2 hjk hk
        by_cases hlt : k < v.length
        · have hk1 : (k : Int) < v.length := by omega
          obtain ⟨b, o, rfl, _, q1, d1, hc1, hi1⟩ := hMd.get (j := k) (by rw [Hll.out]; exact hlt)
          obtain ⟨q2, d2, hc2, hi2⟩ := hMd.at (j := k0) (by rw [Hll.out]; exact hjk)
          have hl1 := linkL_row_len (v := v) (a := bestA v) hlt
          have hl2 := linkL_row_len (v := v) (a := bestA v) hjk
          obtain ⟨b3, o3, rfl, _, hc3⟩ := hi1.get (j := k0) (by rw [hl1]; exact hjk)
          obtain ⟨b4, o4, rfl, _, hc4⟩ := hi2.get (j := k) (by rw [hl2]; exact hlt)
          rw [hl1] at hc1
          rw [hl2] at hc2
          have r1 := linkL_bd Hv.out hlt hjk
          have r2 := linkL_bd Hv.out hjk hlt
          have S1 := Lib.hid (lowI_succ v r k0 k)
          have S2 := Lib.hid (highI_succ v r k0 k)
          unfold bid at r1 r2 S1 S2
          obtain ⟨y1, e1⟩ : ∃ y, iget (rget (linkL v (bestA v)) k) k0 = y := ⟨_, rfl⟩
          obtain ⟨y2, e2⟩ : ∃ y, iget (rget (linkL v (bestA v)) k0) k = y := ⟨_, rfl⟩
          rw [e1] at hc3 r1 S1
          rw [e2] at hc4 r2 S2
          obtain ⟨L1, e3⟩ : ∃ y, lowI v r k0 k = y := ⟨_, rfl⟩
          obtain ⟨L2, e4⟩ : ∃ y, highI v r k0 k = y := ⟨_, rfl⟩
          rw [e3] at b1 S1 ⊢
          rw [e4] at b2 S2 ⊢
          clear e1 e2 e3 e4 hl1 hl2
          go_wp2_with fail
          go_round
          case rel => exact ⟨k + 1, by omega, by go_num, by rw [S1.out], by rw [S2.out]⟩
          case measure => simp [intOf]; omega
        · have hk1 : ¬ (k : Int) < v.length := by omega
          obtain rfl : k = v.length := by omega
          obtain ⟨x0, x1, y0, y1⟩ := HAq.out
          obtain ⟨z0, z1, t0, t1⟩ := HBBq.out
          clear hMd
          go_wp2_with fail
          refine (make_any _ v.length _ (by omega) (by omega) h0 (by omega)).mono ?_
          rintro e w3 ⟨rfl, hb3⟩
          have hA3 := HAq.out.below hb3 (by omega)
          have hB3 := HBBq.out.below hb3 (by omega)
          have HA3 := Lib.hid (hA3.put (u := .int .i64 (rN (lowI v r k0 v.length) v.length)) (v := .int .i64 (rD (lowI v r k0 v.length) v.length)))
          have HB3 := Lib.hid (((hB3.far (T := w.heap.size + 1) (k := 0) (u := .int .i64 (rN (lowI v r k0 v.length) v.length)) (by omega)).far (T := w.heap.size + 1) (k := 1) (u := .int .i64 (rD (lowI v r k0 v.length) v.length)) (by omega)))
          have HW3 := Lib.hid (((HBq.out.trans (hb3.mono (by omega))).setCell (p := ⟨w.heap.size + 1, 0, none⟩) (by simp) (.int .i64 (rN (lowI v r k0 v.length) v.length))).setCell (p := ⟨w.heap.size + 1, 1, none⟩) (by simp) (.int .i64 (rD (lowI v r k0 v.length) v.length)))
          have hs4 : w.heap.size + 3 ≤ w3.heap.size := by have := hb3.size; omega
          clear x0 x1 y0 y1 z0 z1 t0 t1
          obtain ⟨x0, x1, y0, y1⟩ := hA3
          unfold ratV
          go_wp2_with fail
          clear x0 x1 y0 y1
          obtain ⟨W3, hW3⟩ : ∃ W3, ((w3.setCell ⟨w.heap.size + 1, 0, none⟩ (.int .i64 (rN (lowI v r k0 v.length) v.length))).setCell ⟨w.heap.size + 1, 1, none⟩ (.int .i64 (rD (lowI v r k0 v.length) v.length))) = W3 := ⟨_, rfl⟩
          have hs5 : W3.heap.size = w3.heap.size := by rw [← hW3]; simp [World.setCell]
          rw [hW3] at HA3 HB3 HW3 ⊢
          clear hW3
          refine (make_any _ v.length _ (by omega) (by omega) h0 (by omega)).mono ?_
          rintro e w4 ⟨rfl, hb4⟩
          have hA4 := HA3.out.below hb4 (by omega)
          have hB4 := HB3.out.below hb4 (by omega)
          have HA4 := Lib.hid ((hA4.far (T := w.heap.size + 2) (k := 0) (u := .int .i64 (rN (highI v r k0 v.length) v.length)) (by omega)).far (T := w.heap.size + 2) (k := 1) (u := .int .i64 (rD (highI v r k0 v.length) v.length)) (by omega))
          have HB4 := Lib.hid (hB4.put (u := .int .i64 (rN (highI v r k0 v.length) v.length)) (v := .int .i64 (rD (highI v r k0 v.length) v.length)))
          have HW4 := Lib.hid (((HW3.out.trans (hb4.mono (by omega))).setCell (p := ⟨w.heap.size + 2, 0, none⟩) (by simp) (.int .i64 (rN (highI v r k0 v.length) v.length))).setCell (p := ⟨w.heap.size + 2, 1, none⟩) (by simp) (.int .i64 (rD (highI v r k0 v.length) v.length)))
          obtain ⟨x0, x1, y0, y1⟩ := hB4
          clear hA4
          unfold ratV
          go_wp2_with fail
          clear x0 x1 y0 y1
          obtain ⟨W4, hW4⟩ : ∃ W4, ((w4.setCell ⟨w.heap.size + 2, 0, none⟩ (.int .i64 (rN (highI v r k0 v.length) v.length))).setCell ⟨w.heap.size + 2, 1, none⟩ (.int .i64 (rD (highI v r k0 v.length) v.length))) = W4 := ⟨_, rfl⟩
          rw [hW4] at HA4 HB4 HW4 ⊢
          clear hW4
          obtain ⟨x0, x1, y0, y1⟩ := HA4.out
          obtain ⟨z0, z1, t0, t1⟩ := HB4.out
          go_region
          all_goals
            go_wp2_with fail
            clear x0 x1 y0 y1 z0 z1 t0 t1
            obtain ⟨hA5, hB5⟩ := four HA4.out HB4.out (.int .i64 (rN (lowI v r k0 v.length) v.length)) (.int .i64 (rD (lowI v r k0 v.length) v.length)) (.int .i64 (rN (highI v r k0 v.length) v.length)) (.int .i64 (rD (highI v r k0 v.length) v.length))
            obtain ⟨x0, x1, _, _⟩ := hA5
            obtain ⟨z0, z1, _, _⟩ := hB5
            refine bodyPost_ret (v := .tuple #[ratV (lowI v r k0 v.length) v.length, ratV (highI v r k0 v.length) v.length, .int .i64 0]) (by simp [results, Try.results13, go_sem, x0, x1, z0, z1, ratV]) rfl ⟨?_, ?_⟩
            · rw [E1.out, E2.out, E3.out]
            · exact (below_four HW4.out _ _ _ _).drew
    · have E := rng_off hF hjn
      have E1 := Lib.hid E.1
      have E2 := Lib.hid E.2.1
      have E3 := Lib.hid E.2.2
      have hs2 : w.heap.size + 3 ≤ w1.heap.size := hs1
      have HA := Lib.hid ha1
      have HB := Lib.hid hbb1
      have HW := Lib.hid hB1
      obtain ⟨x0, x1, y0, y1⟩ := ha1
      obtain ⟨z0, z1, t0, t1⟩ := hbb1
      by_cases hneg : j < 0
      · have hjl : decide (j < 0) = true := by simpa using hneg
        clear E hF hjn hB1
        go_wp2_with fail
        clear x0 x1 y0 y1 z0 z1 t0 t1
        obtain ⟨hA5, hB5⟩ := four HA.out HB.out (.int .i64 0) (.int .i64 0) (.int .i64 0) (.int .i64 0)
        obtain ⟨x0, x1, _, _⟩ := hA5
        obtain ⟨z0, z1, _, _⟩ := hB5
        refine bodyPost_ret (v := .tuple #[zeroR, zeroR, .int .i64 2]) (by simp [results, Try.results13, go_sem, x0, x1, z0, z1, zeroR]) rfl ⟨?_, ?_⟩
        · rw [E1.out, E2.out, E3.out]
        · exact below_four HW.out _ _ _ _
      · have hjl : decide (j < 0) = false := by simpa using hneg
        have hjg : (v.length : Int) ≤ j := by omega
        clear E hF hjn hB1
        go_wp2_with fail
        clear x0 x1 y0 y1 z0 z1 t0 t1
        obtain ⟨hA5, hB5⟩ := four HA.out HB.out (.int .i64 0) (.int .i64 0) (.int .i64 0) (.int .i64 0)
        obtain ⟨x0, x1, _, _⟩ := hA5
        obtain ⟨z0, z1, _, _⟩ := hB5
        refine bodyPost_ret (v := .tuple #[zeroR, zeroR, .int .i64 2]) (by simp [results, Try.results13, go_sem, x0, x1, z0, z1, zeroR]) rfl ⟨?_, ?_⟩
        · rw [E1.out, E2.out, E3.out]
        · exact below_four HW.out _ _ _ _
  · have hcz : (chkR v r != 0) = true := by rw [bne_iff_ne]; exact hF
    have E := rng_bad (j := j) hF
    have E1 := Lib.hid E.1
    have E2 := Lib.hid E.2.1
    have E3 := Lib.hid E.2.2
    have HA := Lib.hid ha1
    have HB := Lib.hid hbb1
    have HW := Lib.hid hB1
    obtain ⟨x0, x1, y0, y1⟩ := ha1
    obtain ⟨z0, z1, t0, t1⟩ := hbb1
    clear E hF hB1
    go_wp2_with fail
    clear x0 x1 y0 y1 z0 z1 t0 t1
    obtain ⟨hA5, hB5⟩ := four HA.out HB.out (.int .i64 0) (.int .i64 0) (.int .i64 0) (.int .i64 0)
    obtain ⟨x0, x1, _, _⟩ := hA5
    obtain ⟨z0, z1, _, _⟩ := hB5
    refine bodyPost_ret (v := .tuple #[zeroR, zeroR, .int .i64 (chkR v r)]) (by simp [results, Try.results13, go_sem, x0, x1, z0, z1, zeroR]) rfl ⟨?_, ?_⟩
    · rw [E1.out, E2.out, E3.out]
    · exact below_four HW.out _ _ _ _
end Go.Proofs.Ytmcncflieoolmaa
