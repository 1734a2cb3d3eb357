/- The walks of ratio.Make and the reference's Make, for numbers of at most 10^18 and a positive denominator. -/
import Derived.Test.YtmcncflieoolmaaGreatTopTopGoodsm1
import Derived.IntWalk
import Derived.StillTailTactics
import Derived.Deep.RegionWith
import Derived.Test.YtmcncflieoolmaaGreatTopTopGoodsm23
import Derived.Test.YtmcncflieoolmaaGreatTopTopGoodsm11
import Derived.Test.YtmcncflieoolmaaGreatTopTopGoodsm3
/- The walks of ratio.Make and the reference's Make, for numbers of at most 10^18 and a positive denominator. -/
namespace Go.Proofs.YtmcncflieoolmaaGreat
set_option linter.unusedVariables false
set_option linter.unusedSimpArgs false
open Go.ChangeShapes Go.WideShapes Go.ChangeAt Go.RowKit Go.Deep

theorem ret_u64 {a b : Int} (h : a = b) : Ending.returned (.int .u64 a) = .returned (.int .u64 b) := by rw [h]
theorem wrap_u {a : Nat} (h : a ≤ 1000000000000000000) : IntKind.u64.wrap (a : Int) = a := by
  simp only [IntKind.wrap, IntKind.bits, IntKind.signed]
  simp
  omega
theorem Two.set {w : World} {S : Nat} {x y u v : Value} (h0 : w.cell? ⟨S, 0, none⟩ = some u) (h1 : w.cell? ⟨S, 1, none⟩ = some v) :
    ((w.setCell ⟨S, 0, none⟩ x).setCell ⟨S, 1, none⟩ y).cell? ⟨S, 0, none⟩ = some x ∧ ((w.setCell ⟨S, 0, none⟩ x).setCell ⟨S, 1, none⟩ y).cell? ⟨S, 1, none⟩ = some y := by
  have hne : ∀ {j k : Nat}, j ≠ k → (⟨S, j, none⟩ : Addr) ≠ ⟨S, k, none⟩ := fun h e => h (by cases e; rfl)
  exact ⟨(World.cell?_setCell_other _ _ _ _ (hne (by omega))).trans (World.cell?_setCell_same _ _ _ h0), World.cell?_setCell_same _ _ _ ((World.cell?_setCell_other _ _ _ _ (hne (by omega))).trans h1)⟩
theorem wrap_neg {x : Int} (h1 : -1000000000000000000 ≤ x) (h2 : x < 0) : IntKind.u64.wrap (-IntKind.u64.wrap x) = -x := by
  simp only [IntKind.wrap, IntKind.bits, IntKind.signed]
  simp
  omega
set_option maxHeartbeats 400000 in
theorem size_any (x : Int) (w : World) (h1 : -1000000000000000000 ≤ x) (h2 : x ≤ 1000000000000000000) :
    Calls Tryz.prog 95 #[.int .i64 x] w fun e w' => e = .returned (.int .u64 (x.natAbs : Nat)) ∧ w' = w := by
  by_cases h0 : x < 0
  · have hd : decide (x < 0) = true := by simpa using h0
    have Hw := Lib.hid (wrap_neg h1 h0)
    go_enter Tryz.func95, Tryz.ntmps95
    go_wp2_with fail
    go_ret
    exact ⟨ret_u64 (by rw [Hw.out]; omega), rfl⟩
  · have hd : decide (x < 0) = false := by simpa using h0
    go_enter Tryz.func95, Tryz.ntmps95
    go_wp2_with fail
    go_ret
    exact ⟨ret_u64 (by omega), rfl⟩
set_option maxHeartbeats 400000 in
theorem abs_any (x : Int) (w : World) (h1 : -1000000000000000000 ≤ x) (h2 : x ≤ 1000000000000000000) :
    Calls Tryz.prog 84 #[.int .i64 x] w fun e w' => e = .returned (.int .u64 (x.natAbs : Nat)) ∧ w' = w := by
  by_cases h0 : x < 0
  · have hd : decide (x < 0) = true := by simpa using h0
    go_enter Tryz.func84, Tryz.ntmps84
    go_wp2_with fail
    go_ret
    exact ⟨ret_u64 (by omega), rfl⟩
  · have hd : decide (x < 0) = false := by simpa using h0
    go_enter Tryz.func84, Tryz.ntmps84
    go_wp2_with fail
    go_ret
    exact ⟨ret_u64 (by omega), rfl⟩
set_option maxHeartbeats 400000 in
theorem rgcd_any (a b : Nat) (w : World) (ha : a ≤ 4611686018427387904) (hb : b ≤ 4611686018427387904) :
    Calls Tryz.prog 96 #[.int .u64 a, .int .u64 b] w fun e w' => e = .returned (.int .u64 (Nat.gcd a b : Nat)) ∧ ∃ n, w' = w.drewN n := by
  go_enter Tryz.func96, Tryz.ntmps96
  go_wp2_with fail
  go_loopw [0, 1] (fun s t wr => ∃ x y : Nat, s = .int .u64 x ∧ t = .int .u64 y ∧ Hid (Nat.gcd x y = Nat.gcd a b) ∧ x ≤ 4611686018427387904 ∧ y ≤ 4611686018427387904 ∧ ∃ n, wr = w.drewN n) (fun _ t _ => (intOf t).toNat)
  case atStart => exact ⟨a, b, rfl, rfl, rfl, ha, hb, drew_refl w⟩
  case round =>
    obtain ⟨x, y, rfl, rfl, hg, hx, hy, hw⟩ := hrel
    have Hw := Lib.hid hw
    clear hw
    by_cases h0 : y = 0
    · have hz : ¬ (0 : Int) < y := by omega
      have H0 := Lib.hid h0
      clear h0
      go_wp2_with fail
      go_ret
      exact ⟨ret_u64 (by rw [← hg.out, H0.out, Nat.gcd_zero_right]), Hw.out⟩
    · have hz : (0 : Int) < y := by omega
      have hy0 : (0 : Int) < y := by omega
      have hx0 : (0 : Int) ≤ x := by omega
      have hlt := Nat.mod_lt x (by omega : y > 0)
      go_wp2_with fail
      go_quiet (fail)
      go_wp2_with fail
      go_roundw
      case rel => exact ⟨y, x % y, rfl, by congr 1, by unfold Hid; rw [Nat.gcd_comm, ← Nat.gcd_rec, Nat.gcd_comm]; exact hg.out, hy, by omega, drew_drewN _ Hw.out⟩
      case measure => simp only [intOf]; omega
/-- The signed number. -/
def sgn (m : Bool) (a : Nat) : Int := if m = true then -(a : Int) else a
set_option maxHeartbeats 800000 in
theorem signed_any (m : Bool) (a b : Nat) (w : World) (ha : a ≤ 1000000000000000000) (hb : b ≤ 1000000000000000000) :
    Calls Tryz.prog 97 #[.bool m, .int .u64 a, .int .u64 b] w fun e w' => e = .returned (.tuple #[.agg #[.int .i64 (sgn m a), .int .i64 b], .int .i64 0]) ∧ Below w.heap.size w w' := by
  have hmx : ¬ (1000000000000000000 : Int) < max (a : Int) b := by omega
  have h1 : (0 : Int) ≤ a := by omega
  have h2 : (a : Int) ≤ 1000000000000000000 := by omega
  have h3 : (0 : Int) ≤ b := by omega
  have h4 : (b : Int) ≤ 1000000000000000000 := by omega
  cases m with
  | true =>
    go_enter Tryz.func97, Tryz.ntmps97
    go_wp2_with fail
    all_goals
      exact bodyPost_ret (v := .tuple #[.agg #[.int .i64 (-(a : Int)), .int .i64 b], .int .i64 0]) (by simp [results, Tryz.results97, go_sem]) rfl ⟨rfl, (Below.refl _ _).alloc (Nat.le_refl _) _⟩
  | false =>
    go_enter Tryz.func97, Tryz.ntmps97
    go_wp2_with fail
    all_goals
      exact bodyPost_ret (v := .tuple #[.agg #[.int .i64 (a : Int), .int .i64 b], .int .i64 0]) (by simp [results, Tryz.results97, go_sem]) rfl ⟨rfl, (Below.refl _ _).alloc (Nat.le_refl _) _⟩
/-- The fraction x / d in lowest terms. -/
def rG (x : Int) (d : Nat) : Nat := Nat.gcd x.natAbs d
def rN (x : Int) (d : Nat) : Int := sgn (decide (x < 0)) (x.natAbs / rG x d)
def rD (x : Int) (d : Nat) : Int := ((d / rG x d : Nat) : Int)
def ratV (x : Int) (d : Nat) : Value := .agg #[.int .i64 (rN x d), .int .i64 (rD x d)]
theorem rG_pos {x : Int} {d : Nat} (h : 0 < d) : 0 < rG x d := Nat.gcd_pos_of_pos_right _ h
theorem rG_le {x : Int} {d : Nat} (h : 0 < d) : rG x d ≤ d := Nat.le_of_dvd h (Nat.gcd_dvd_right _ _)

set_option maxHeartbeats 4000000 in
set_option maxRecDepth 100000 in
theorem make_any (x : Int) (d : Nat) (w : World) (h1 : -1000000000000000000 ≤ x) (h2 : x ≤ 1000000000000000000) (hd : 0 < d) (hd2 : d ≤ 1000000000000000000) :
    Calls Tryz.prog 55 #[.int .i64 x, .int .i64 d] w fun e w' => e = .returned (.tuple #[ratV x d, .int .i64 0]) ∧ Below w.heap.size w w' := by
  obtain ⟨W0, hW0⟩ : ∃ W0, w.alloc (.cells #[.int .i64 0, .int .i64 0] 50) = W0 := ⟨_, rfl⟩
  have hb0 : Below w.heap.size w W0 := by rw [← hW0]; exact (Below.refl _ _).alloc (Nat.le_refl _) _
  have hs0 : W0.heap.size = w.heap.size + 1 := by rw [← hW0]; simp
  have c0 : W0.cell? ⟨w.heap.size, 0, none⟩ = some (.int .i64 0) := by rw [← hW0]; exact World.cell?_alloc_at _ _ _ _ rfl
  have c1 : W0.cell? ⟨w.heap.size, 1, none⟩ = some (.int .i64 0) := by rw [← hW0]; exact World.cell?_alloc_at _ _ _ _ rfl
  have f0 : W0.frozen? ⟨w.heap.size, 0, none⟩ = false := by rw [← hW0]; exact World.frozen?_alloc_at _ _ _ _ rfl
  have f1 : W0.frozen? ⟨w.heap.size, 1, none⟩ = false := by rw [← hW0]; exact World.frozen?_alloc_at _ _ _ _ rfl
  have HW0 := Lib.hid hW0
  have Hs0 := Lib.hid hs0
  clear hW0 hs0
  have hd0 : ((d : Int) == 0) = false := by rw [beq_eq_false_iff_ne]; omega
  have hdn : decide ((d : Int) < 0) = false := by simp
  have hg1 := rG_pos (x := x) hd
  have hg2 := rG_le (x := x) hd
  have ha2 : x.natAbs ≤ 1000000000000000000 := by omega
  go_enter Tryz.func55, Tryz.ntmps55
  go_wp2_with fail
  rw [HW0.out]
  refine (size_any x _ h1 h2).mono ?_
  rintro e w' ⟨rfl, rfl⟩
  go_wp2_with fail
  refine (size_any d _ (by omega) (by omega)).mono ?_
  rintro e w' ⟨rfl, rfl⟩
  rw [Int.natAbs_natCast]
  go_wp2_with fail
  refine (rgcd_any x.natAbs d _ (by omega) (by omega)).mono ?_
  rintro e w2 ⟨rfl, hw⟩
  have hb2 := hb0.drewP hw
  have c0 : w2.cell? ⟨w.heap.size, 0, none⟩ = some (.int .i64 0) := by obtain ⟨n, rfl⟩ := hw; exact c0
  have c1 : w2.cell? ⟨w.heap.size, 1, none⟩ = some (.int .i64 0) := by obtain ⟨n, rfl⟩ := hw; exact c1
  have f0 : w2.frozen? ⟨w.heap.size, 0, none⟩ = false := by obtain ⟨n, rfl⟩ := hw; exact f0
  have f1 : w2.frozen? ⟨w.heap.size, 1, none⟩ = false := by obtain ⟨n, rfl⟩ := hw; exact f1
  have hs2 : w.heap.size < w2.heap.size := by obtain ⟨n, rfl⟩ := hw; have := Hs0.out; show _ < w'.heap.size; omega
  have Hg : Hid (x.natAbs.gcd d = rG x d) := rfl
  rw [Hg.out]
  obtain ⟨g, hg⟩ : ∃ g, rG x d = g := ⟨_, rfl⟩
  rw [hg] at hg1 hg2 ⊢
  have HG := Lib.hid hg
  have hg0 : (0 : Int) < g := by omega
  have hq1 : (x.natAbs : Int).tdiv g = ((x.natAbs / g : Nat) : Int) := by rw [Int.tdiv_eq_ediv_of_nonneg (by omega)]; simp
  have hq2 : (d : Int).tdiv g = ((d / g : Nat) : Int) := by rw [Int.tdiv_eq_ediv_of_nonneg (by omega)]; simp
  have hn1 : x.natAbs / g ≤ 1000000000000000000 := Nat.le_trans (Nat.div_le_self _ _) ha2
  have hn2 : d / g ≤ 1000000000000000000 := Nat.le_trans (Nat.div_le_self _ _) hd2
  have hw1 := wrap_u hn1
  have hw2 := wrap_u hn2
  have hbn : (decide (x < 0) != false) = decide (x < 0) := by simp
  have Hc0 := Lib.hid c0
  have Hc1 := Lib.hid c1
  have Hf0 := Lib.hid f0
  have Hf1 := Lib.hid f1
  obtain ⟨A, hA⟩ : ∃ A : Nat, x.natAbs / g = A := ⟨_, rfl⟩
  obtain ⟨B, hB⟩ : ∃ B : Nat, d / g = B := ⟨_, rfl⟩
  rw [hA] at hq1 hw1 hn1
  rw [hB] at hq2 hw2 hn2
  have HA := Lib.hid hA
  have HB := Lib.hid hB
  obtain ⟨m, hm⟩ : ∃ m : Bool, decide (x < 0) = m := ⟨_, rfl⟩
  have HM := Lib.hid hm
  clear hA hB hm hg hbn
  go_wp2_with fail
  go_region_with (go_at_call 97; refine (signed_any _ _ _ _ hn1 hn2).mono ?_; rintro e w3 ⟨rfl, hb3⟩; have c0' := (hb3.cell (p := ⟨w.heap.size, 0, none⟩) hs2).trans Hc0.out; have c1' := (hb3.cell (p := ⟨w.heap.size, 1, none⟩) hs2).trans Hc1.out; have f0' := (hb3.frozen (p := ⟨w.heap.size, 0, none⟩) hs2).trans Hf0.out; have f1' := (hb3.frozen (p := ⟨w.heap.size, 1, none⟩) hs2).trans Hf1.out)
  all_goals
    go_wp2_with fail
    obtain ⟨k0, k1⟩ := Two.set (x := .int .i64 (sgn (decide (x < 0)) A)) (y := .int .i64 B) c0' c1'
    refine bodyPost_ret (v := .tuple #[.agg #[.int .i64 (sgn (decide (x < 0)) A), .int .i64 B], .int .i64 0]) (by simp [results, Tryz.results55, go_sem, k0, k1]) rfl ⟨?_, ?_⟩
    · unfold ratV rN rD
      rw [HG.out, HA.out, HB.out]
    · exact ((hb2.drew.trans (hb3.mono (Nat.le_of_lt hs2))).setCell (p := ⟨w.heap.size, 0, none⟩) (by simp) _).setCell (p := ⟨w.heap.size, 1, none⟩) (by simp) _

end Go.Proofs.YtmcncflieoolmaaGreat

/- The walk of room.Range, for every flat and room. -/
namespace Go.Proofs.YtmcncflieoolmaaGreat
set_option linter.unusedVariables false
set_option linter.unusedSimpArgs false
open Go.ChangeShapes Go.WideShapes Go.ChangeAt Go.RowKit Go.Deep

def InR (v : List (List Int)) (r j : Int) : Prop := chkR v r = 0 ∧ 0 ≤ j ∧ j < v.length
instance (v : List (List Int)) (r j : Int) : Decidable (InR v r j) := by unfold InR; infer_instance
/-- Two cells. -/
structure Two (w : World) (S : Nat) (x y : Value) : Prop where
  c0 : w.cell? ⟨S, 0, none⟩ = some x
  c1 : w.cell? ⟨S, 1, none⟩ = some y
  f0 : w.frozen? ⟨S, 0, none⟩ = false
  f1 : w.frozen? ⟨S, 1, none⟩ = false
theorem Two.new {w w' : World} {S : Nat} {x y : Value} {t : TypeId} (hS : w.heap.size = S) (hw : w' = w.alloc (.cells #[x, y] t)) : Two w' S x y := by
  subst hS hw
  have h : ∀ k, (w.alloc (.cells #[x, y] t)).cell? ⟨w.heap.size, k, none⟩ = #[x, y][k]? := fun k => World.cell?_alloc_at _ _ _ _ rfl
  exact ⟨h 0, h 1, World.frozen?_alloc_at _ _ _ _ rfl, World.frozen?_alloc_at _ _ _ _ rfl⟩
theorem Two.below {w w' : World} {S B : Nat} {x y : Value} (h : Two w S x y) (hb : Below B w w') (hS : S < B) : Two w' S x y := by
  have hc : ∀ k, w'.cell? ⟨S, k, none⟩ = w.cell? ⟨S, k, none⟩ := fun k => hb.cell (p := ⟨S, k, none⟩) hS
  have hf : ∀ k, w'.frozen? ⟨S, k, none⟩ = w.frozen? ⟨S, k, none⟩ := fun k => hb.frozen (p := ⟨S, k, none⟩) hS
  exact ⟨(hc 0).trans h.c0, (hc 1).trans h.c1, (hf 0).trans h.f0, (hf 1).trans h.f1⟩
theorem ne_blk {S T j k : Nat} (h : S ≠ T) : (⟨S, j, none⟩ : Addr) ≠ ⟨T, k, none⟩ := fun e => h (by cases e; rfl)
theorem Two.far {w : World} {S T k : Nat} {x y u : Value} (h : Two w S x y) (hne : T ≠ S) : Two (w.setCell ⟨T, k, none⟩ u) S x y :=
  ⟨(World.cell?_setCell_other _ _ _ _ (ne_blk hne)).trans h.c0, (World.cell?_setCell_other _ _ _ _ (ne_blk hne)).trans h.c1, by rw [World.frozen?_setCell]; exact h.f0, by rw [World.frozen?_setCell]; exact h.f1⟩
theorem Two.put {w : World} {S : Nat} {x y u v : Value} (h : Two w S x y) : Two ((w.setCell ⟨S, 0, none⟩ u).setCell ⟨S, 1, none⟩ v) S u v := by
  obtain ⟨h0, h1⟩ := Two.set (x := u) (y := v) h.c0 h.c1
  exact ⟨h0, h1, by rw [World.frozen?_setCell, World.frozen?_setCell]; exact h.f0, by rw [World.frozen?_setCell, World.frozen?_setCell]; exact h.f1⟩

end Go.Proofs.YtmcncflieoolmaaGreat

/- The invariant of a region that reckons two numbers of two words by calls and puts each into a block of its own; no condition. -/
namespace Go.Proofs.YtmcncflieoolmaaGreat
set_option linter.unusedVariables false
set_option linter.unusedSimpArgs false
open Go.ChangeShapes Go.WideShapes Go.ChangeAt Go.RowKit Go.Deep

def BlockJ (B : World) (W : World) (u : Value) (done : Prop) (x : Int) : Prop := ∃ (g : Nat) (z : Int), u = .pointer (some ⟨g, 0, none⟩) ∧ B.heap.size ≤ g ∧ g < W.heap.size ∧ Two W g (.int .u64 0) (.int .u64 z) ∧ (done → z = x)
theorem BlockJ.below {B W W' : World} {u : Value} {d : Prop} {x : Int} (h : BlockJ B W u d x) (hb : Below W.heap.size W W') : BlockJ B W' u d x := by
  obtain ⟨g, z, h1, h2, h3, h4, h5⟩ := h
  exact ⟨g, z, h1, h2, Nat.lt_of_lt_of_le h3 hb.size, h4.below hb h3, h5⟩
/-- The operations below n are values or calls; n and n + 1 are the blocks, n + 2 and n + 3 the stores. -/
structure PairJ (B : World) (n : Nat) (val : Nat → Value) (x y : Int) (us : Nat → Value) (D : Nat → Prop) (W : World) : Prop where
  val : ∀ k, k < n → D k → us k = val k
  bel : Below B.heap.size B W
  a1 : D n → BlockJ B W (us n) (D (n + 2)) x
  a2 : D (n + 1) → BlockJ B W (us (n + 1)) (D (n + 3)) y
  ne : D n → D (n + 1) → us n ≠ us (n + 1)
  d1 : D (n + 2) → D n
  d2 : D (n + 3) → D (n + 1)
theorem PairJ.start {B : World} {n : Nat} {val : Nat → Value} {x y : Int} (us : Nat → Value) : PairJ B n val x y us (fun _ => False) B.drew :=
  ⟨fun k _ h => h.elim, below_drewN _ _ 1, fun h => h.elim, fun h => h.elim, fun h => h.elim, fun h => h, fun h => h⟩
section
variable {B : World} {n : Nat} {val : Nat → Value} {x y : Int} {us : Nat → Value} {D : Nat → Prop} {W W' : World}
theorem or_ne {i k : Nat} {D : Nat → Prop} (h : k = i ∨ D k) (hne : k ≠ i) : D k := h.resolve_left hne
theorem PairJ.pure (h : PairJ B n val x y us D W) {i : Nat} (hi : i < n) (hb : Below W.heap.size W W') : PairJ B n val x y (upd us i (val i)) (fun k => k = i ∨ D k) W' := by
  have hn : ∀ {k}, n ≤ k → k ≠ i := fun h => by omega
  refine ⟨fun k hk hd => ?_, h.bel.trans (hb.mono h.bel.size), fun hd => ?_, fun hd => ?_, fun hd hd2 => ?_, fun hd => .inr (h.d1 (or_ne hd (hn (by omega)))), fun hd => .inr (h.d2 (or_ne hd (hn (by omega))))⟩
  · by_cases e : k = i
    · subst e; rw [upd_same]
    · rw [upd_ne e]; exact h.val k hk (or_ne hd e)
  · rw [upd_ne (hn (Nat.le_refl n))]
    obtain ⟨g, z, h1, h2, h3, h4, h5⟩ := (h.a1 (or_ne hd (hn (Nat.le_refl n)))).below hb
    exact ⟨g, z, h1, h2, h3, h4, fun hd => h5 (or_ne hd (hn (by omega)))⟩
  · rw [upd_ne (hn (Nat.le_succ n))]
    obtain ⟨g, z, h1, h2, h3, h4, h5⟩ := (h.a2 (or_ne hd (hn (Nat.le_succ n)))).below hb
    exact ⟨g, z, h1, h2, h3, h4, fun hd => h5 (or_ne hd (hn (by omega)))⟩
  · rw [upd_ne (hn (Nat.le_refl n)), upd_ne (hn (Nat.le_succ n))]
    exact h.ne (or_ne hd (hn (Nat.le_refl n))) (or_ne hd2 (hn (Nat.le_succ n)))
theorem ptr_inj {g g' : Nat} (h : Value.pointer (some ⟨g, 0, none⟩) = .pointer (some ⟨g', 0, none⟩)) : g = g' := by simpa using h
theorem PairJ.alloc1 (h : PairJ B n val x y us D W) (hD : ¬ D n) (T : TypeId) : PairJ B n val x y (upd us n (.pointer (some ⟨W.heap.size, 0, none⟩))) (fun k => k = n ∨ D k) (W.alloc (.cells #[.int .u64 0, .int .u64 0] T)) := by
  have hb : Below W.heap.size W (W.alloc (.cells #[.int .u64 0, .int .u64 0] T)) := (Below.refl _ _).alloc (Nat.le_refl _) _
  refine ⟨fun k hk hd => ?_, h.bel.trans (hb.mono h.bel.size), fun hd => ?_, fun hd => ?_, fun hd hd2 => ?_, fun hd => .inl rfl, fun hd => .inr (h.d2 (or_ne hd (by omega)))⟩
  · rw [upd_ne (by omega)]; exact h.val k hk (or_ne hd (by omega))
  · rw [upd_same]
    exact ⟨_, 0, rfl, h.bel.size, by simp, Two.new rfl rfl, fun hd => (hD (h.d1 (or_ne hd (by omega)))).elim⟩
  · rw [upd_ne (by omega)]
    obtain ⟨g, z, h1, h2, h3, h4, h5⟩ := (h.a2 (or_ne hd (by omega))).below hb
    exact ⟨g, z, h1, h2, h3, h4, fun hd => h5 (or_ne hd (by omega))⟩
  · rw [upd_same, upd_ne (by omega)]
    obtain ⟨g, z, h1, h2, h3, h4, h5⟩ := h.a2 (or_ne hd2 (by omega))
    rw [h1]
    intro e
    have := ptr_inj e
    omega
theorem PairJ.alloc2 (h : PairJ B n val x y us D W) (hD : ¬ D (n + 1)) (T : TypeId) : PairJ B n val x y (upd us (n + 1) (.pointer (some ⟨W.heap.size, 0, none⟩))) (fun k => k = n + 1 ∨ D k) (W.alloc (.cells #[.int .u64 0, .int .u64 0] T)) := by
  have hb : Below W.heap.size W (W.alloc (.cells #[.int .u64 0, .int .u64 0] T)) := (Below.refl _ _).alloc (Nat.le_refl _) _
  refine ⟨fun k hk hd => ?_, h.bel.trans (hb.mono h.bel.size), fun hd => ?_, fun hd => ?_, fun hd hd2 => ?_, fun hd => .inr (h.d1 (or_ne hd (by omega))), fun hd => .inl rfl⟩
  · rw [upd_ne (by omega)]; exact h.val k hk (or_ne hd (by omega))
  · rw [upd_ne (by omega)]
    obtain ⟨g, z, h1, h2, h3, h4, h5⟩ := (h.a1 (or_ne hd (by omega))).below hb
    exact ⟨g, z, h1, h2, h3, h4, fun hd => h5 (or_ne hd (by omega))⟩
  · rw [upd_same]
    exact ⟨_, 0, rfl, h.bel.size, by simp, Two.new rfl rfl, fun hd => (hD (h.d2 (or_ne hd (by omega)))).elim⟩
  · rw [upd_same, upd_ne (by omega)]
    obtain ⟨g, z, h1, h2, h3, h4, h5⟩ := h.a1 (or_ne hd (by omega))
    rw [h1]
    intro e
    have := ptr_inj e
    omega
theorem PairJ.store1 (h : PairJ B n val x y us D W) (hD : D n) {g : Nat} (hg : us n = .pointer (some ⟨g, 0, none⟩)) (u : Value) : PairJ B n val x y (upd us (n + 2) u) (fun k => k = n + 2 ∨ D k) ((W.setCell ⟨g, 0, none⟩ (.int .u64 0)).setCell ⟨g, 1, none⟩ (.int .u64 x)) := by
  obtain ⟨g', z, h1, h2, h3, h4, h5⟩ := h.a1 hD
  rw [hg] at h1
  obtain rfl := ptr_inj h1
  refine ⟨fun k hk hd => ?_, (h.bel.setCell (p := ⟨g, 0, none⟩) h2 _).setCell (p := ⟨g, 1, none⟩) h2 _, fun hd => ?_, fun hd => ?_, fun hd hd2 => ?_, fun hd => .inr hD, fun hd => .inr (h.d2 (or_ne hd (by omega)))⟩
  · rw [upd_ne (by omega)]; exact h.val k hk (or_ne hd (by omega))
  · rw [upd_ne (by omega)]
    exact ⟨g, x, hg, h2, by simpa [World.setCell] using h3, h4.put, fun _ => rfl⟩
  · rw [upd_ne (by omega)]
    have hne := h.ne hD (or_ne hd (by omega))
    obtain ⟨g', z', k1, k2, k3, k4, k5⟩ := h.a2 (or_ne hd (by omega))
    have hgg : g ≠ g' := fun e => hne (by rw [hg, k1, e])
    exact ⟨g', z', k1, k2, by simpa [World.setCell] using k3, (k4.far hgg).far hgg, fun hd => k5 (or_ne hd (by omega))⟩
  · rw [upd_ne (by omega), upd_ne (by omega)]
    exact h.ne hD (or_ne hd2 (by omega))
theorem PairJ.store2 (h : PairJ B n val x y us D W) (hD : D (n + 1)) {g : Nat} (hg : us (n + 1) = .pointer (some ⟨g, 0, none⟩)) (u : Value) : PairJ B n val x y (upd us (n + 3) u) (fun k => k = n + 3 ∨ D k) ((W.setCell ⟨g, 0, none⟩ (.int .u64 0)).setCell ⟨g, 1, none⟩ (.int .u64 y)) := by
  obtain ⟨g', z, h1, h2, h3, h4, h5⟩ := h.a2 hD
  rw [hg] at h1
  obtain rfl := ptr_inj h1
  refine ⟨fun k hk hd => ?_, (h.bel.setCell (p := ⟨g, 0, none⟩) h2 _).setCell (p := ⟨g, 1, none⟩) h2 _, fun hd => ?_, fun hd => ?_, fun hd hd2 => ?_, fun hd => .inr (h.d1 (or_ne hd (by omega))), fun hd => .inr hD⟩
  · rw [upd_ne (by omega)]; exact h.val k hk (or_ne hd (by omega))
  · rw [upd_ne (by omega)]
    have hne := h.ne (or_ne hd (by omega)) hD
    obtain ⟨g', z', k1, k2, k3, k4, k5⟩ := h.a1 (or_ne hd (by omega))
    have hgg : g ≠ g' := fun e => hne (by rw [hg, k1, e])
    exact ⟨g', z', k1, k2, by simpa [World.setCell] using k3, (k4.far hgg).far hgg, fun hd => k5 (or_ne hd (by omega))⟩
  · rw [upd_ne (by omega)]
    exact ⟨g, y, hg, h2, by simpa [World.setCell] using h3, h4.put, fun _ => rfl⟩
  · rw [upd_ne (by omega), upd_ne (by omega)]
    exact h.ne (or_ne hd (by omega)) hD
end
end Go.Proofs.YtmcncflieoolmaaGreat

/- The invariant of a region that reckons pairs by calls and puts each into a block of its own; no condition. -/
namespace Go.Proofs.YtmcncflieoolmaaGreat
set_option linter.unusedVariables false
set_option linter.unusedSimpArgs false
open Go.ChangeShapes Go.WideShapes Go.ChangeAt Go.RowKit Go.Deep

/-- The numbers of the operations that make blocks, and of those that store into them, are apart. -/
def apartB (L : List (Nat × Nat)) : Bool := L.all fun t => L.all fun s => decide (t.1 ≠ s.2) && (t == s || (decide (t.1 ≠ s.1) && decide (t.2 ≠ s.2)))
theorem apart1 {L : List (Nat × Nat)} (h : apartB L = true) {t s : Nat × Nat} (ht : t ∈ L) (hs : s ∈ L) : t.1 ≠ s.2 ∧ (t = s ∨ t.1 ≠ s.1 ∧ t.2 ≠ s.2) := by
  have h2 := List.all_eq_true.1 (List.all_eq_true.1 h t ht) s hs
  simp only [Bool.and_eq_true, decide_eq_true_eq, Bool.or_eq_true, beq_iff_eq] at h2
  exact h2
structure ManyJ (B : World) (L : List (Nat × Nat)) (val X Y : Nat → Value) (us : Nat → Value) (D : Nat → Prop) (W : World) : Prop where
  val : ∀ k, (∀ t ∈ L, k ≠ t.1 ∧ k ≠ t.2) → D k → us k = val k
  bel : Below B.heap.size B W
  blk : ∀ t ∈ L, D t.1 → ∃ (g : Nat) (x y : Value), us t.1 = .pointer (some ⟨g, 0, none⟩) ∧ B.heap.size ≤ g ∧ g < W.heap.size ∧ Two W g x y ∧ (D t.2 → x = X t.1 ∧ y = Y t.1)
  ne : ∀ t ∈ L, ∀ s ∈ L, t ≠ s → D t.1 → D s.1 → us t.1 ≠ us s.1
  o : ∀ t ∈ L, D t.2 → D t.1
section
variable {B : World} {L : List (Nat × Nat)} {val X Y : Nat → Value} {us : Nat → Value} {D : Nat → Prop} {W W' : World}
theorem ManyJ.start (us : Nat → Value) : ManyJ B L val X Y us (fun _ => False) B.drew :=
  ⟨fun k _ h => h.elim, below_drewN _ _ 1, fun _ _ h => h.elim, fun _ _ _ _ _ h => h.elim, fun _ _ h => h⟩
theorem ManyJ.pure (h : ManyJ B L val X Y us D W) {i : Nat} (h1 : ∀ t ∈ L, i ≠ t.1 ∧ i ≠ t.2) (hb : Below W.heap.size W W') : ManyJ B L val X Y (upd us i (val i)) (fun k => k = i ∨ D k) W' := by
  refine ⟨fun k k1 hd => ?_, h.bel.trans (hb.mono h.bel.size), fun t ht hd => ?_, fun t ht s hs hne hd hd2 => ?_, fun t ht hd => .inr (h.o t ht (or_ne hd (Ne.symm (h1 t ht).2)))⟩
  · by_cases e : k = i
    · subst e; rw [upd_same]
    · rw [upd_ne e]; exact h.val k k1 (or_ne hd e)
  · rw [upd_ne (Ne.symm (h1 t ht).1)]
    obtain ⟨g, x, y, q1, q2, q3, q4, q5⟩ := h.blk t ht (or_ne hd (Ne.symm (h1 t ht).1))
    exact ⟨g, x, y, q1, q2, Nat.lt_of_lt_of_le q3 hb.size, q4.below hb q3, fun hd => q5 (or_ne hd (Ne.symm (h1 t ht).2))⟩
  · rw [upd_ne (Ne.symm (h1 t ht).1), upd_ne (Ne.symm (h1 s hs).1)]
    exact h.ne t ht s hs hne (or_ne hd (Ne.symm (h1 t ht).1)) (or_ne hd2 (Ne.symm (h1 s hs).1))
theorem ManyJ.alloc (h : ManyJ B L val X Y us D W) (hL : apartB L = true) {ai si : Nat} (ht0 : (ai, si) ∈ L) (hD : ¬ D ai) (x y : Value) (T : TypeId) : ManyJ B L val X Y (upd us ai (.pointer (some ⟨W.heap.size, 0, none⟩))) (fun k => k = ai ∨ D k) (W.alloc (.cells #[x, y] T)) := by
  have hb : Below W.heap.size W (W.alloc (.cells #[x, y] T)) := (Below.refl _ _).alloc (Nat.le_refl _) _
  have hsec : ∀ t ∈ L, t.2 ≠ ai := fun t ht e => (apart1 hL ht0 ht).1 e.symm
  have hfst : ∀ t ∈ L, t ≠ (ai, si) → t.1 ≠ ai := fun t ht hne => ((apart1 hL ht ht0).2.resolve_left hne).1
  refine ⟨fun k k1 hd => ?_, h.bel.trans (hb.mono h.bel.size), fun t ht hd => ?_, fun t ht s hs hne hd hd2 => ?_, fun t ht hd => .inr (h.o t ht (or_ne hd (hsec t ht)))⟩
  · have := (k1 _ ht0).1
    rw [upd_ne this]; exact h.val k k1 (or_ne hd this)
  · by_cases e : t = (ai, si)
    · subst e
      rw [upd_same]
      exact ⟨_, x, y, rfl, h.bel.size, by simp, Two.new rfl rfl, fun hd => (hD (h.o _ ht (or_ne hd (hsec _ ht)))).elim⟩
    · rw [upd_ne (hfst t ht e)]
      obtain ⟨g, x', y', q1, q2, q3, q4, q5⟩ := h.blk t ht (or_ne hd (hfst t ht e))
      exact ⟨g, x', y', q1, q2, Nat.lt_of_lt_of_le q3 hb.size, q4.below hb q3, fun hd => q5 (or_ne hd (hsec t ht))⟩
  · by_cases e : t = (ai, si)
    · subst e
      have hs1 := hfst s hs (Ne.symm hne)
      rw [upd_same, upd_ne hs1]
      obtain ⟨g, x', y', q1, q2, q3, q4, q5⟩ := h.blk s hs (or_ne hd2 hs1)
      rw [q1]
      intro e; have := ptr_inj e; omega
    · rw [upd_ne (hfst t ht e)]
      by_cases e2 : s = (ai, si)
      · subst e2
        rw [upd_same]
        obtain ⟨g, x', y', q1, q2, q3, q4, q5⟩ := h.blk t ht (or_ne hd (hfst t ht e))
        rw [q1]
        intro e; have := ptr_inj e; omega
      · rw [upd_ne (hfst s hs e2)]
        exact h.ne t ht s hs hne (or_ne hd (hfst t ht e)) (or_ne hd2 (hfst s hs e2))
theorem ManyJ.store (h : ManyJ B L val X Y us D W) (hL : apartB L = true) {ai si : Nat} (ht0 : (ai, si) ∈ L) (hD : D ai) {g : Nat} (hg : us ai = .pointer (some ⟨g, 0, none⟩)) (u : Value) : ManyJ B L val X Y (upd us si u) (fun k => k = si ∨ D k) ((W.setCell ⟨g, 0, none⟩ (X ai)).setCell ⟨g, 1, none⟩ (Y ai)) := by
  obtain ⟨g', x, y, h1, h2, h3, h4, h5⟩ := h.blk _ ht0 hD
  simp only at h1
  rw [hg] at h1
  obtain rfl := ptr_inj h1
  have hfst : ∀ t ∈ L, t.1 ≠ si := fun t ht => (apart1 hL ht ht0).1
  have hsec : ∀ t ∈ L, t ≠ (ai, si) → t.2 ≠ si := fun t ht hne => ((apart1 hL ht ht0).2.resolve_left hne).2
  refine ⟨fun k k1 hd => ?_, (h.bel.setCell (p := ⟨g, 0, none⟩) h2 _).setCell (p := ⟨g, 1, none⟩) h2 _, fun t ht hd => ?_, fun t ht s hs hne hd hd2 => ?_, fun t ht hd => ?_⟩
  · have := (k1 _ ht0).2
    rw [upd_ne this]; exact h.val k k1 (or_ne hd this)
  · rw [upd_ne (hfst t ht)]
    by_cases e : t = (ai, si)
    · subst e
      exact ⟨g, X ai, Y ai, hg, h2, by simpa [World.setCell] using h3, h4.put, fun _ => ⟨rfl, rfl⟩⟩
    · have hd1 := or_ne hd (hfst t ht)
      have hne := h.ne _ ht0 t ht (Ne.symm e) hD hd1
      obtain ⟨g', x', y', q1, q2, q3, q4, q5⟩ := h.blk t ht hd1
      have hgg : g ≠ g' := fun e => hne (by simp only; rw [hg, q1, e])
      exact ⟨g', x', y', q1, q2, by simpa [World.setCell] using q3, (q4.far hgg).far hgg, fun hd => q5 (or_ne hd (hsec t ht e))⟩
  · rw [upd_ne (hfst t ht), upd_ne (hfst s hs)]
    exact h.ne t ht s hs hne (or_ne hd (hfst t ht)) (or_ne hd2 (hfst s hs))
  · by_cases e : t = (ai, si)
    · subst e; exact .inr hD
    · exact .inr (h.o t ht (or_ne hd (hsec t ht e)))
/-- What stands in the blocks when all is done. -/
theorem ManyJ.get (h : ManyJ B L val X Y us D W) {ai si : Nat} (ht : (ai, si) ∈ L) (h1 : D ai) (h2 : D si) : ∃ g : Nat, us ai = .pointer (some ⟨g, 0, none⟩) ∧ B.heap.size ≤ g ∧ g < W.heap.size ∧ Two W g (X ai) (Y ai) := by
  obtain ⟨g, x, y, q1, q2, q3, q4, q5⟩ := h.blk _ ht h1
  obtain ⟨rfl, rfl⟩ := q5 h2
  exact ⟨g, q1, q2, q3, q4⟩
end
end Go.Proofs.YtmcncflieoolmaaGreat

/- ManyJ where one operation's value is known by a property alone, till another operation has used it; no condition. -/
namespace Go.Proofs.YtmcncflieoolmaaGreat
set_option linter.unusedVariables false
set_option linter.unusedSimpArgs false
open Go.ChangeShapes Go.WideShapes Go.ChangeAt Go.RowKit Go.Deep

theorem upd_comm {us : Nat → Value} {i k : Nat} {u v : Value} (h : i ≠ k) : upd (upd us i u) k v = upd (upd us k v) i u := by
  funext x
  by_cases e : x = i
  · subst e; rw [upd_ne h, upd_same, upd_same]
  · rw [upd_ne (us := upd us k v) e]
    by_cases e2 : x = k
    · subst e2; rw [upd_same, upd_same]
    · rw [upd_ne e2, upd_ne e2, upd_ne e]
theorem upd_again {us : Nat → Value} {i : Nat} {u v : Value} : upd (upd us i u) i v = upd us i v := by
  funext x
  by_cases e : x = i
  · subst e; rw [upd_same, upd_same]
  · rw [upd_ne e, upd_ne e, upd_ne e]
/-- ei: the operation whose value has the property E till ci is done; C: the operations behind ci. -/
structure ManyE (B : World) (L : List (Nat × Nat)) (val X Y : Nat → Value) (ei ci : Nat) (C : List Nat) (E : Value → World → Prop) (us : Nat → Value) (D : Nat → Prop) (W : World) : Prop where
  m : ManyJ B L val X Y (upd us ei (val ei)) D W
  ext : D ei → ¬ D ci → E (us ei) W
  ch : ∀ k ∈ C, D k → D ci
theorem boxOfTwo {w : World} {S : Nat} {x y : Value} (hS : S < w.heap.size) (h : Two w S x y) : BoxV w S [x, y] := ⟨hS, fun k v hk => by
  match k, hk with
  | 0, hk => simp at hk; subst hk; exact h.c0
  | 1, hk => simp at hk; subst hk; exact h.c1⟩
/-- A flat that a call handed back. -/
def ExtM (n : Nat) (v : List (List Int)) (r : Int) (u : Value) (W : World) : Prop := ∃ p c, u = .agg #[.slice p n c, .int .i64 r] ∧ Mat W p c v
theorem ExtM.step {n : Nat} {v : List (List Int)} {r : Int} {u : Value} {W W' : World} (h : ExtM n v r u W) (hb : Below W.heap.size W W') : ExtM n v r u W' := by
  obtain ⟨p, c, h1, h2⟩ := h
  exact ⟨p, c, h1, h2.below hb (Nat.le_refl _)⟩
section
variable {B : World} {L : List (Nat × Nat)} {val X Y : Nat → Value} {ei ci : Nat} {C : List Nat} {E : Value → World → Prop} {us : Nat → Value} {D : Nat → Prop} {W W' : World}
theorem ManyE.start (us : Nat → Value) : ManyE B L val X Y ei ci C E us (fun _ => False) B.drew :=
  ⟨ManyJ.start _, fun h => h.elim, fun _ _ h => h⟩
theorem ManyE.bel (h : ManyE B L val X Y ei ci C E us D W) : Below B.heap.size B W := h.m.bel
theorem ManyE.value (h : ManyE B L val X Y ei ci C E us D W) (k : Nat) (hk : k ≠ ei ∧ ∀ t ∈ L, k ≠ t.1 ∧ k ≠ t.2) (hd : D k) : us k = val k := by
  have := h.m.val k hk.2 hd
  rw [upd_ne hk.1] at this; exact this
/-- A value or a call ahead of ci. -/
theorem ManyE.pure (h : ManyE B L val X Y ei ci C E us D W) {i : Nat} (hi : i ≠ ei ∧ i ≠ ci ∧ i ∉ C) (h1 : ∀ t ∈ L, i ≠ t.1 ∧ i ≠ t.2) (hE : ∀ u, E u W → E u W') (hb : Below W.heap.size W W') : ManyE B L val X Y ei ci C E (upd us i (val i)) (fun k => k = i ∨ D k) W' := by
  refine ⟨?_, fun hd hn => ?_, fun k hk hd => .inr (h.ch k hk (or_ne hd fun e => hi.2.2 (e ▸ hk)))⟩
  · rw [upd_comm hi.1]; exact h.m.pure h1 hb
  · rw [upd_ne (Ne.symm hi.1)]
    exact hE _ (h.ext (or_ne hd (Ne.symm hi.1)) fun hc => hn (.inr hc))
/-- The operation ei. -/
theorem ManyE.first (h : ManyE B L val X Y ei ci C E us D W) (hne : ei ≠ ci) (hC : ei ∉ C) (h1 : ∀ t ∈ L, ei ≠ t.1 ∧ ei ≠ t.2) (u : Value) (hE : E u W') (hb : Below W.heap.size W W') : ManyE B L val X Y ei ci C E (upd us ei u) (fun k => k = ei ∨ D k) W' := by
  refine ⟨?_, fun hd hn => ?_, fun k hk hd => .inr (h.ch k hk (or_ne hd fun e => hC (e ▸ hk)))⟩
  · rw [upd_again]
    have := h.m.pure (i := ei) h1 hb
    rw [upd_again] at this; exact this
  · rw [upd_same]; exact hE
/-- The operation ci. -/
theorem ManyE.use (h : ManyE B L val X Y ei ci C E us D W) (hne : ei ≠ ci) (h1 : ∀ t ∈ L, ci ≠ t.1 ∧ ci ≠ t.2) (hb : Below W.heap.size W W') : ManyE B L val X Y ei ci C E (upd us ci (val ci)) (fun k => k = ci ∨ D k) W' := by
  refine ⟨?_, fun hd hn => (hn (.inl rfl)).elim, fun k hk hd => .inl rfl⟩
  rw [upd_comm (Ne.symm hne)]; exact h.m.pure h1 hb
/-- A value or a call behind ci. -/
theorem ManyE.later (h : ManyE B L val X Y ei ci C E us D W) {i : Nat} (hi : i ≠ ei) (hc : D ci) (h1 : ∀ t ∈ L, i ≠ t.1 ∧ i ≠ t.2) (hb : Below W.heap.size W W') : ManyE B L val X Y ei ci C E (upd us i (val i)) (fun k => k = i ∨ D k) W' := by
  refine ⟨?_, fun hd hn => (hn (.inr hc)).elim, fun k hk hd => .inr hc⟩
  rw [upd_comm hi]; exact h.m.pure h1 hb
theorem ManyE.alloc (h : ManyE B L val X Y ei ci C E us D W) (hL : apartB L = true) {ai si : Nat} (ht0 : (ai, si) ∈ L) (hi : ai ≠ ei ∧ ai ≠ ci ∧ ai ∉ C) (hD : ¬ D ai) (x y : Value) (T : TypeId) (hE : ∀ u, E u W → E u (W.alloc (.cells #[x, y] T))) : ManyE B L val X Y ei ci C E (upd us ai (.pointer (some ⟨W.heap.size, 0, none⟩))) (fun k => k = ai ∨ D k) (W.alloc (.cells #[x, y] T)) := by
  refine ⟨?_, fun hd hn => ?_, fun k hk hd => .inr (h.ch k hk (or_ne hd fun e => hi.2.2 (e ▸ hk)))⟩
  · rw [upd_comm hi.1]; exact h.m.alloc hL ht0 hD x y T
  · rw [upd_ne (Ne.symm hi.1)]
    exact hE _ (h.ext (or_ne hd (Ne.symm hi.1)) fun hc => hn (.inr hc))
theorem ManyE.blk (h : ManyE B L val X Y ei ci C E us D W) {ai si : Nat} (ht : (ai, si) ∈ L) (hi : ai ≠ ei) (hd : D ai) : ∃ (g : Nat) (x y : Value), us ai = .pointer (some ⟨g, 0, none⟩) ∧ B.heap.size ≤ g ∧ g < W.heap.size ∧ Two W g x y ∧ (D si → x = X ai ∧ y = Y ai) := by
  have := h.m.blk _ ht hd
  simp only at this
  rw [upd_ne hi] at this; exact this
theorem ManyE.store (h : ManyE B L val X Y ei ci C E us D W) (hL : apartB L = true) {ai si : Nat} (ht0 : (ai, si) ∈ L) (hi : ai ≠ ei ∧ si ≠ ei) (hc : D ci) (hD : D ai) {g : Nat} (hg : us ai = .pointer (some ⟨g, 0, none⟩)) (u : Value) : ManyE B L val X Y ei ci C E (upd us si u) (fun k => k = si ∨ D k) ((W.setCell ⟨g, 0, none⟩ (X ai)).setCell ⟨g, 1, none⟩ (Y ai)) := by
  refine ⟨?_, fun hd hn => (hn (.inr hc)).elim, fun k hk hd => .inr hc⟩
  rw [upd_comm hi.2]; exact h.m.store hL ht0 hD (by rw [upd_ne hi.1]; exact hg) u
theorem ManyE.get (h : ManyE B L val X Y ei ci C E us D W) {ai si : Nat} (ht : (ai, si) ∈ L) (hi : ai ≠ ei) (h1 : D ai) (h2 : D si) : ∃ g : Nat, us ai = .pointer (some ⟨g, 0, none⟩) ∧ B.heap.size ≤ g ∧ g < W.heap.size ∧ Two W g (X ai) (Y ai) := by
  have := h.m.get ht h1 h2
  rw [upd_ne hi] at this; exact this
end
end Go.Proofs.YtmcncflieoolmaaGreat
