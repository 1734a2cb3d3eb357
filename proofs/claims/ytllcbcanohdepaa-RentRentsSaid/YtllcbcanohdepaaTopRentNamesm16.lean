/- The invariant of a region that reckons two numbers of two words by calls and puts each into a block of its own; no condition. -/
import Derived.Test.YtllcbcanohdepaaTopRentNamesm10
import Derived.Test.YtllcbcanohdepaaTopRentNamesm9
import Derived.Test.YtllcbcanohdepaaTopRentNamesm12
import Derived.Test.YtllcbcanohdepaaTopRentNamesm15
import Derived.Test.YtllcbcanohdepaaTopRentNamesm13
import Derived.Shelf.Bits.Mul64
import Derived.Test.YtllcbcanohdepaaProg
/- The invariant of a region that reckons two numbers of two words by calls and puts each into a block of its own; no condition. -/
namespace Go.Proofs.Ytllcbcanohdepaa
set_option linter.unusedVariables false
set_option linter.unusedSimpArgs false
open Go.ChangeShapes Go.WideShapes Go.ChangeAt Go.RowKit Go.Deep

def BlockJ (B : World) (W : World) (u : Value) (done : Prop) (x : Int) : Prop := ∃ (g : Nat) (z : Int), u = .pointer (some ⟨g, 0, none⟩) ∧ B.heap.size ≤ g ∧ g < W.heap.size ∧ Two W g (.int .u64 0) (.int .u64 z) ∧ (done → z = x)
theorem BlockJ.below {B W W' : World} {u : Value} {d : Prop} {x : Int} (h : BlockJ B W u d x) (hb : Below W.heap.size W W') : BlockJ B W' u d x := by
  obtain ⟨g, z, h1, h2, h3, h4, h5⟩ := h
  exact ⟨g, z, h1, h2, Nat.lt_of_lt_of_le h3 hb.size, h4.below hb h3, h5⟩
/-- The operations below n are values or calls; n and n + 1 are the blocks, n + 2 and n + 3 the stores. -/
structure PairJ (B : World) (n : Nat) (val : Nat → Value) (x y : Int) (us : Nat → Value) (D : Nat → Prop) (W : World) : Prop where
  val : ∀ k, k < n → D k → us k = val k
  bel : Below B.heap.size B W
  a1 : D n → BlockJ B W (us n) (D (n + 2)) x
  a2 : D (n + 1) → BlockJ B W (us (n + 1)) (D (n + 3)) y
  ne : D n → D (n + 1) → us n ≠ us (n + 1)
  d1 : D (n + 2) → D n
  d2 : D (n + 3) → D (n + 1)
theorem PairJ.start {B : World} {n : Nat} {val : Nat → Value} {x y : Int} (us : Nat → Value) : PairJ B n val x y us (fun _ => False) B.drew :=
  ⟨fun k _ h => h.elim, below_drewN _ _ 1, fun h => h.elim, fun h => h.elim, fun h => h.elim, fun h => h, fun h => h⟩
section
variable {B : World} {n : Nat} {val : Nat → Value} {x y : Int} {us : Nat → Value} {D : Nat → Prop} {W W' : World}
theorem or_ne {i k : Nat} {D : Nat → Prop} (h : k = i ∨ D k) (hne : k ≠ i) : D k := h.resolve_left hne
theorem PairJ.pure (h : PairJ B n val x y us D W) {i : Nat} (hi : i < n) (hb : Below W.heap.size W W') : PairJ B n val x y (upd us i (val i)) (fun k => k = i ∨ D k) W' := by
  have hn : ∀ {k}, n ≤ k → k ≠ i := fun h => by omega
  refine ⟨fun k hk hd => ?_, h.bel.trans (hb.mono h.bel.size), fun hd => ?_, fun hd => ?_, fun hd hd2 => ?_, fun hd => .inr (h.d1 (or_ne hd (hn (by omega)))), fun hd => .inr (h.d2 (or_ne hd (hn (by omega))))⟩
  · by_cases e : k = i
    · subst e; rw [upd_same]
    · rw [upd_ne e]; exact h.val k hk (or_ne hd e)
  · rw [upd_ne (hn (Nat.le_refl n))]
    obtain ⟨g, z, h1, h2, h3, h4, h5⟩ := (h.a1 (or_ne hd (hn (Nat.le_refl n)))).below hb
    exact ⟨g, z, h1, h2, h3, h4, fun hd => h5 (or_ne hd (hn (by omega)))⟩
  · rw [upd_ne (hn (Nat.le_succ n))]
    obtain ⟨g, z, h1, h2, h3, h4, h5⟩ := (h.a2 (or_ne hd (hn (Nat.le_succ n)))).below hb
    exact ⟨g, z, h1, h2, h3, h4, fun hd => h5 (or_ne hd (hn (by omega)))⟩
  · rw [upd_ne (hn (Nat.le_refl n)), upd_ne (hn (Nat.le_succ n))]
    exact h.ne (or_ne hd (hn (Nat.le_refl n))) (or_ne hd2 (hn (Nat.le_succ n)))
theorem ptr_inj {g g' : Nat} (h : Value.pointer (some ⟨g, 0, none⟩) = .pointer (some ⟨g', 0, none⟩)) : g = g' := by simpa using h
theorem PairJ.alloc1 (h : PairJ B n val x y us D W) (hD : ¬ D n) (T : TypeId) : PairJ B n val x y (upd us n (.pointer (some ⟨W.heap.size, 0, none⟩))) (fun k => k = n ∨ D k) (W.alloc (.cells #[.int .u64 0, .int .u64 0] T)) := by
  have hb : Below W.heap.size W (W.alloc (.cells #[.int .u64 0, .int .u64 0] T)) := (Below.refl _ _).alloc (Nat.le_refl _) _
  refine ⟨fun k hk hd => ?_, h.bel.trans (hb.mono h.bel.size), fun hd => ?_, fun hd => ?_, fun hd hd2 => ?_, fun hd => .inl rfl, fun hd => .inr (h.d2 (or_ne hd (by omega)))⟩
  · rw [upd_ne (by omega)]; exact h.val k hk (or_ne hd (by omega))
  · rw [upd_same]
    exact ⟨_, 0, rfl, h.bel.size, by simp, Two.new rfl rfl, fun hd => (hD (h.d1 (or_ne hd (by omega)))).elim⟩
  · rw [upd_ne (by omega)]
    obtain ⟨g, z, h1, h2, h3, h4, h5⟩ := (h.a2 (or_ne hd (by omega))).below hb
    exact ⟨g, z, h1, h2, h3, h4, fun hd => h5 (or_ne hd (by omega))⟩
  · rw [upd_same, upd_ne (by omega)]
    obtain ⟨g, z, h1, h2, h3, h4, h5⟩ := h.a2 (or_ne hd2 (by omega))
    rw [h1]
    intro e
    have := ptr_inj e
    omega
theorem PairJ.alloc2 (h : PairJ B n val x y us D W) (hD : ¬ D (n + 1)) (T : TypeId) : PairJ B n val x y (upd us (n + 1) (.pointer (some ⟨W.heap.size, 0, none⟩))) (fun k => k = n + 1 ∨ D k) (W.alloc (.cells #[.int .u64 0, .int .u64 0] T)) := by
  have hb : Below W.heap.size W (W.alloc (.cells #[.int .u64 0, .int .u64 0] T)) := (Below.refl _ _).alloc (Nat.le_refl _) _
  refine ⟨fun k hk hd => ?_, h.bel.trans (hb.mono h.bel.size), fun hd => ?_, fun hd => ?_, fun hd hd2 => ?_, fun hd => .inr (h.d1 (or_ne hd (by omega))), fun hd => .inl rfl⟩
  · rw [upd_ne (by omega)]; exact h.val k hk (or_ne hd (by omega))
  · rw [upd_ne (by omega)]
    obtain ⟨g, z, h1, h2, h3, h4, h5⟩ := (h.a1 (or_ne hd (by omega))).below hb
    exact ⟨g, z, h1, h2, h3, h4, fun hd => h5 (or_ne hd (by omega))⟩
  · rw [upd_same]
    exact ⟨_, 0, rfl, h.bel.size, by simp, Two.new rfl rfl, fun hd => (hD (h.d2 (or_ne hd (by omega)))).elim⟩
  · rw [upd_same, upd_ne (by omega)]
    obtain ⟨g, z, h1, h2, h3, h4, h5⟩ := h.a1 (or_ne hd (by omega))
    rw [h1]
    intro e
    have := ptr_inj e
    omega
theorem PairJ.store1 (h : PairJ B n val x y us D W) (hD : D n) {g : Nat} (hg : us n = .pointer (some ⟨g, 0, none⟩)) (u : Value) : PairJ B n val x y (upd us (n + 2) u) (fun k => k = n + 2 ∨ D k) ((W.setCell ⟨g, 0, none⟩ (.int .u64 0)).setCell ⟨g, 1, none⟩ (.int .u64 x)) := by
  obtain ⟨g', z, h1, h2, h3, h4, h5⟩ := h.a1 hD
  rw [hg] at h1
  obtain rfl := ptr_inj h1
  refine ⟨fun k hk hd => ?_, (h.bel.setCell (p := ⟨g, 0, none⟩) h2 _).setCell (p := ⟨g, 1, none⟩) h2 _, fun hd => ?_, fun hd => ?_, fun hd hd2 => ?_, fun hd => .inr hD, fun hd => .inr (h.d2 (or_ne hd (by omega)))⟩
  · rw [upd_ne (by omega)]; exact h.val k hk (or_ne hd (by omega))
  · rw [upd_ne (by omega)]
    exact ⟨g, x, hg, h2, by simpa [World.setCell] using h3, h4.put, fun _ => rfl⟩
  · rw [upd_ne (by omega)]
    have hne := h.ne hD (or_ne hd (by omega))
    obtain ⟨g', z', k1, k2, k3, k4, k5⟩ := h.a2 (or_ne hd (by omega))
    have hgg : g ≠ g' := fun e => hne (by rw [hg, k1, e])
    exact ⟨g', z', k1, k2, by simpa [World.setCell] using k3, (k4.far hgg).far hgg, fun hd => k5 (or_ne hd (by omega))⟩
  · rw [upd_ne (by omega), upd_ne (by omega)]
    exact h.ne hD (or_ne hd2 (by omega))
theorem PairJ.store2 (h : PairJ B n val x y us D W) (hD : D (n + 1)) {g : Nat} (hg : us (n + 1) = .pointer (some ⟨g, 0, none⟩)) (u : Value) : PairJ B n val x y (upd us (n + 3) u) (fun k => k = n + 3 ∨ D k) ((W.setCell ⟨g, 0, none⟩ (.int .u64 0)).setCell ⟨g, 1, none⟩ (.int .u64 y)) := by
  obtain ⟨g', z, h1, h2, h3, h4, h5⟩ := h.a2 hD
  rw [hg] at h1
  obtain rfl := ptr_inj h1
  refine ⟨fun k hk hd => ?_, (h.bel.setCell (p := ⟨g, 0, none⟩) h2 _).setCell (p := ⟨g, 1, none⟩) h2 _, fun hd => ?_, fun hd => ?_, fun hd hd2 => ?_, fun hd => .inr (h.d1 (or_ne hd (by omega))), fun hd => .inr hD⟩
  · rw [upd_ne (by omega)]; exact h.val k hk (or_ne hd (by omega))
  · rw [upd_ne (by omega)]
    have hne := h.ne (or_ne hd (by omega)) hD
    obtain ⟨g', z', k1, k2, k3, k4, k5⟩ := h.a1 (or_ne hd (by omega))
    have hgg : g ≠ g' := fun e => hne (by rw [hg, k1, e])
    exact ⟨g', z', k1, k2, by simpa [World.setCell] using k3, (k4.far hgg).far hgg, fun hd => k5 (or_ne hd (by omega))⟩
  · rw [upd_ne (by omega)]
    exact ⟨g, y, hg, h2, by simpa [World.setCell] using h3, h4.put, fun _ => rfl⟩
  · rw [upd_ne (by omega), upd_ne (by omega)]
    exact h.ne (or_ne hd (by omega)) hD
end
end Go.Proofs.Ytllcbcanohdepaa

/- The invariant of a region that reckons a pair by calls and puts it into a block that lies; no condition. -/
namespace Go.Proofs.Ytllcbcanohdepaa
set_option linter.unusedVariables false
set_option linter.unusedSimpArgs false
open Go.ChangeShapes Go.WideShapes Go.ChangeAt Go.RowKit Go.Deep

structure PutJ (b0 : Nat) (B : World) (R si : Nat) (val : Nat → Value) (x y X Y : Value) (us : Nat → Value) (D : Nat → Prop) (W : World) : Prop where
  val : ∀ k, k ≠ si → D k → us k = val k
  bel : Below b0 B W
  pre : ¬ D si → Below B.heap.size B W
  two : ¬ D si → Two W R x y
  put : D si → Two W R X Y
  far : ∀ S k, S < B.heap.size → S ≠ R → W.cell? ⟨S, k, none⟩ = B.cell? ⟨S, k, none⟩
  frz : ∀ S k, S < B.heap.size → W.frozen? ⟨S, k, none⟩ = B.frozen? ⟨S, k, none⟩
section
variable {b0 : Nat} {B : World} {R si : Nat} {val : Nat → Value} {x y X Y : Value} {us : Nat → Value} {D : Nat → Prop} {W W' : World}
theorem PutJ.start (us : Nat → Value) (hR : R < B.heap.size) (h : Two B R x y) : PutJ b0 B R si val x y X Y us (fun _ => False) B.drew :=
  ⟨fun k _ h => h.elim, below_drewN _ _ 1, fun _ => below_drewN _ _ 1, fun _ => h.below (below_drewN B.heap.size B 1) hR, fun h => h.elim, fun S k hS _ => (below_drewN B.heap.size B 1).cell (p := ⟨S, k, none⟩) hS, fun S k hS => (below_drewN B.heap.size B 1).frozen (p := ⟨S, k, none⟩) hS⟩
theorem PutJ.pure (h : PutJ b0 B R si val x y X Y us D W) {i : Nat} (h1 : i ≠ si) (hb0 : b0 ≤ B.heap.size) (hR : R < B.heap.size) (hb : Below W.heap.size W W') : PutJ b0 B R si val x y X Y (upd us i (val i)) (fun k => k = i ∨ D k) W' := by
  have hs := h.bel.size
  refine ⟨fun k k1 hd => ?_, h.bel.trans (hb.mono (by omega)), fun hd => (h.pre fun hd2 => hd (.inr hd2)).trans (hb.mono hs), fun hd => (h.two fun hd2 => hd (.inr hd2)).below hb (by omega), fun hd => (h.put (or_ne hd (Ne.symm h1))).below hb (by omega), fun S k hS hne => (hb.cell (p := ⟨S, k, none⟩) (by simp only; omega)).trans (h.far S k hS hne), fun S k hS => (hb.frozen (p := ⟨S, k, none⟩) (by simp only; omega)).trans (h.frz S k hS)⟩
  by_cases e : k = i
  · subst e; rw [upd_same]
  · rw [upd_ne e]; exact h.val k k1 (or_ne hd e)
theorem PutJ.store (h : PutJ b0 B R si val x y X Y us D W) (hD : ¬ D si) (hR : b0 ≤ R) (u : Value) : PutJ b0 B R si val x y X Y (upd us si u) (fun k => k = si ∨ D k) ((W.setCell ⟨R, 0, none⟩ X).setCell ⟨R, 1, none⟩ Y) := by
  refine ⟨fun k k1 hd => ?_, (h.bel.setCell (p := ⟨R, 0, none⟩) hR _).setCell (p := ⟨R, 1, none⟩) hR _, fun hd => (hd (.inl rfl)).elim, fun hd => (hd (.inl rfl)).elim, fun _ => (h.two hD).put, fun S k hS hne => (World.cell?_setCell_other _ _ _ _ (ne_blk (Ne.symm hne))).trans ((World.cell?_setCell_other _ _ _ _ (ne_blk (Ne.symm hne))).trans (h.far S k hS hne)), fun S k hS => by rw [World.frozen?_setCell, World.frozen?_setCell]; exact h.frz S k hS⟩
  rw [upd_ne k1]; exact h.val k k1 (or_ne hd k1)
/-- Another pair keeps what it holds. -/
theorem PutJ.other (h : PutJ b0 B R si val x y X Y us D W) {S : Nat} {u v : Value} (hT : Two B S u v) (hS : S < B.heap.size) (hne : S ≠ R) : Two W S u v :=
  ⟨(h.far S 0 hS hne).trans hT.c0, (h.far S 1 hS hne).trans hT.c1, (h.frz S 0 hS).trans hT.f0, (h.frz S 1 hS).trans hT.f1⟩
end
end Go.Proofs.Ytllcbcanohdepaa

/- The walk of rent.Worst, for every flat and lease.  (The regions are printed by wip/genrentw.py.) -/
namespace Go.Proofs.Ytllcbcanohdepaa
set_option linter.unusedVariables false
set_option linter.unusedSimpArgs false
open Go.ChangeShapes Go.WideShapes Go.ChangeAt Go.RowKit Go.Deep

theorem lt9 {i : Nat} (h : i < 9) : i = 0 ∨ i = 1 ∨ i = 2 ∨ i = 3 ∨ i = 4 ∨ i = 5 ∨ i = 6 ∨ i = 7 ∨ i = 8 := by omega
/-- Rows are read where all blocks but one keep their cells. -/
theorem Ints.far {B W : World} {R : Nat} {p : Option Addr} {c : Nat} {xs : List Int} (h : Ints B p c xs) (hf : ∀ S k, S < B.heap.size → S ≠ R → W.cell? ⟨S, k, none⟩ = B.cell? ⟨S, k, none⟩) (hs : B.heap.size ≤ W.heap.size) (hR : ∀ a, p = some a → 0 < c → a.block ≠ R) : Ints W p c xs := by
  refine ⟨h.le, h.max, h.nil, fun a e hc => ⟨(h.plain a e hc).1, Nat.lt_of_lt_of_le (h.plain a e hc).2 hs⟩, fun b o e j hj => ?_, h.rng⟩
  have hc : 0 < c := by have := h.le; omega
  have h1 := h.plain _ e hc
  have h2 := hR _ e hc
  rw [hf b (o + j) h1.2 h2]
  exact h.cell b o e j hj
/-- Two blocks written again. -/
theorem four' {X : World} {S : Nat} {x0 x1 y0 y1 : Value} (hA : Two X S x0 x1) (hB : Two X (S + 1) y0 y1) (u0 u1 v0 v1 : Value) :
    Two ((((X.setCell ⟨S, 0, none⟩ u0).setCell ⟨S, 1, none⟩ u1).setCell ⟨S + 1, 0, none⟩ v0).setCell ⟨S + 1, 1, none⟩ v1) S u0 u1 ∧
    Two ((((X.setCell ⟨S, 0, none⟩ u0).setCell ⟨S, 1, none⟩ u1).setCell ⟨S + 1, 0, none⟩ v0).setCell ⟨S + 1, 1, none⟩ v1) (S + 1) v0 v1 :=
  ⟨(hA.put.far (by omega)).far (by omega), ((hB.far (by omega)).far (by omega)).put⟩
theorem below_four' {w X : World} {B S : Nat} (hb : Below B w X) (hS : B ≤ S) (u0 u1 v0 v1 : Value) :
    Below B w ((((X.setCell ⟨S, 0, none⟩ u0).setCell ⟨S, 1, none⟩ u1).setCell ⟨S + 1, 0, none⟩ v0).setCell ⟨S + 1, 1, none⟩ v1) :=
  (((hb.setCell (p := ⟨S, 0, none⟩) hS _).setCell (p := ⟨S, 1, none⟩) hS _).setCell (p := ⟨S + 1, 0, none⟩) (by simp only; omega) _).setCell (p := ⟨S + 1, 1, none⟩) (by simp only; omega) _
def wLo (v : List (List Int)) (r : Int) (al ps : List Int) (z : Int) : Value := if vldR v r al ps z = 0 then ratV (lowTo (gainL v al ps z) v.length) z.toNat else zeroR
def wHi (v : List (List Int)) (r : Int) (al ps : List Int) (z : Int) : Value := if vldR v r al ps z = 0 then ratV (highTo (gainL v al ps z) v.length) z.toNat else zeroR
theorem gainL_bd {v : List (List Int)} {r : Int} {al ps : List Int} {z : Int} (h : vldR v r al ps z = 0) {i : Nat} (hi : i < v.length) : -700000000 ≤ iget (gainL v al ps z) i ∧ iget (gainL v al ps z) i ≤ 700000000 := by
  have hg := good_of h
  rw [gainL_get (by rw [hg.alen]; exact hi)]
  have h1 := hg.itm i hi
  have h2 := hg.bid i hi _ h1.2
  have h3 := bz_bd h2.1 h2.2 hg.z1 hg.z2
  have h4 := hg.price _ h1.2
  unfold gainI bid
  omega
theorem wLo_bd {v : List (List Int)} {r : Int} {al ps : List Int} {z : Int} (h : vldR v r al ps z = 0) : (-700000000 ≤ lowTo (gainL v al ps z) v.length ∧ lowTo (gainL v al ps z) v.length ≤ 700000000) ∧ (-700000000 ≤ highTo (gainL v al ps z) v.length ∧ highTo (gainL v al ps z) v.length ≤ 700000000) := by
  have h0 := (good_of h).bids.1
  obtain ⟨j, hj, e⟩ := lowTo_mem (gainL v al ps z) v.length h0
  obtain ⟨k, hk, e2⟩ := highTo_mem (gainL v al ps z) v.length h0
  rw [e, e2]
  exact ⟨gainL_bd h hj, gainL_bd h hk⟩

set_option maxHeartbeats 8000000 in
set_option maxRecDepth 100000 in
theorem rentWorst_any (p q s : Option Addr) (c d f : Nat) (v : List (List Int)) (r : Int) (al ps : List Int) (z : Int) (w : World) (hx : Mat w p c v) (hy : Ints w q d al) (hz : Ints w s f ps) (hl : al.length ≤ 1000000) :
    Calls Try.prog 10 #[.agg #[.slice p v.length c, .int .i64 r], .agg #[.slice q al.length d, .slice s ps.length f, .int .i64 z]] w fun e w' => e = .returned (.tuple #[wLo v r al ps z, wHi v r al ps z, .int .i64 (vldR v r al ps z)]) ∧ Below w.heap.size w w' := by
  obtain ⟨Wx, hWx⟩ : ∃ W, w.alloc (.cells #[.slice p v.length c, .int .i64 r] 24) = W := ⟨_, rfl⟩
  obtain ⟨Wy, hWy⟩ : ∃ W, Wx.alloc (.cells #[.slice q al.length d, .slice s ps.length f, .int .i64 z] 27) = W := ⟨_, rfl⟩
  obtain ⟨Wz, hWz⟩ : ∃ W, Wy.alloc (.cells #[.int .i64 0, .int .i64 0] 32) = W := ⟨_, rfl⟩
  obtain ⟨W0, hW0⟩ : ∃ W, Wz.alloc (.cells #[.int .i64 0, .int .i64 0] 32) = W := ⟨_, rfl⟩
  have hB1 := below_alloc hWx
  have hB2 := below_alloc hWy
  have hB3 := below_alloc hWz
  have hB4 := below_alloc hW0
  have hs1 : Wx.heap.size = w.heap.size + 1 := by rw [← hWx]; simp
  have hs2 : Wy.heap.size = w.heap.size + 2 := by rw [← hWy]; simp; omega
  have hs3 : Wz.heap.size = w.heap.size + 2 + 1 := by rw [← hWz]; simp; omega
  have hs4 : W0.heap.size = w.heap.size + 4 := by rw [← hW0]; simp; omega
  have bX : BoxV W0 w.heap.size [.slice p v.length c, .int .i64 r] := (((BoxV.new rfl hWx).below hB2).below hB3).below hB4
  have bL : BoxV W0 (w.heap.size + 1) [.slice q al.length d, .slice s ps.length f, .int .i64 z] := ((BoxV.new hs1 hWy).below hB3).below hB4
  have ta : Two W0 (w.heap.size + 2) (.int .i64 0) (.int .i64 0) := (Two.new hs2 hWz.symm).below hB4 (by omega)
  have tb : Two W0 (w.heap.size + 2 + 1) (.int .i64 0) (.int .i64 0) := Two.new hs3 hW0.symm
  have hB : Below w.heap.size w W0 := ((hB1.trans (hB2.mono hB1.size)).trans (hB3.mono (by omega))).trans (hB4.mono (by omega))
  have mX := hx.below hB (Nat.le_refl _)
  have mA := hy.below hB (Nat.le_refl _)
  have mP := hz.below hB (Nat.le_refl _)
  have HWx := Lib.hid hWx
  have HWy := Lib.hid hWy
  have HWz := Lib.hid hWz
  have HW0 := Lib.hid hW0
  have Hta := Lib.hid ta
  have Htb := Lib.hid tb
  have k0 := bX.cell 0 _ rfl
  have k1 := bX.cell 1 _ rfl
  have m0 := bL.cell 0 _ rfl
  have m1 := bL.cell 1 _ rfl
  have m2 := bL.cell 2 _ rfl
  clear hWx hWy hWz hW0 hB1 hB2 hB3 hB4 hs1 hs2 hs3 hx hy hz bX bL ta tb
  go_enter Try.func10, Try.ntmps10
  go_wp2_with fail
  rw [HWx.out, HWy.out, HWz.out, HW0.out]
  refine (roomGains_any p q s c d f v r al ps z _ mX mA mP hl).mono ?_
  rintro e w1 ⟨q1, d1, rfl, hO, hb⟩
  have ta := Hta.out.below hb (by omega)
  have tb := Htb.out.below hb (by omega)
  have w1L := (hb.cell (p := ⟨w.heap.size + 1, 2, none⟩) (by simp only; omega)).trans m2
  have hsz : w.heap.size + 4 ≤ w1.heap.size := by have := hb.size; omega
  replace hB := hB.trans (hb.mono hB.size)
  have hI := hO.ints
  have hlt : ∀ a, q1 = some a → 0 < d1 → w.heap.size + 4 ≤ a.block := fun a e _ => by have := (hO.lt a.block (by rw [e]; rfl)).1; omega
  clear hb Hta Htb k0 k1 m0 m1 m2 mX mA mP hO
  by_cases hF : vldR v r al ps z = 0
  · have hcz : (vldR v r al ps z != 0) = false := by rw [hF]; rfl
    have hg := good_of hF
    obtain ⟨zn, rfl⟩ : ∃ zn : Nat, z = zn := ⟨z.toNat, by have := hg.z1; omega⟩
    have hz1 := hg.z1
    have hz2 := hg.z2
    have h0 := hg.bids.1
    have HLo : Hid (wLo v r al ps zn = ratV (lowTo (gainL v al ps zn) v.length) zn) := by unfold Hid wLo; rw [if_pos hF]; simp
    have HHi : Hid (wHi v r al ps zn = ratV (highTo (gainL v al ps zn) v.length) zn) := by unfold Hid wHi; rw [if_pos hF]; simp
    obtain ⟨⟨l1, l2⟩, l3, l4⟩ := wLo_bd hF
    have e1 : gnsL v r al ps zn = gainL v al ps zn := by unfold gnsL; rw [if_pos hF]
    have e2 : (gainL v al ps zn).length = v.length := by rw [gainL_len, hg.alen]
    rw [e1] at hI ⊢
    rw [e2]
    have HF := Lib.hid hF
    have Hmin : ∀ W, Ints W q1 d1 (gainL v al ps zn) → Calls Try.prog 27 #[.slice q1 v.length d1] W fun e w' => e = .returned (.int .i64 (lowTo (gainL v al ps zn) v.length)) ∧ Below W.heap.size W w' := fun W h => by
      have h2 := sMin_any q1 d1 _ W h (by rw [e2]; exact h0)
      rw [e2] at h2
      exact h2.mono fun e w' ⟨h3, h4⟩ => ⟨h3, h4 ▸ Below.refl _ _⟩
    have Hmax : ∀ W, Ints W q1 d1 (gainL v al ps zn) → Calls Try.prog 23 #[.slice q1 v.length d1] W fun e w' => e = .returned (.int .i64 (highTo (gainL v al ps zn) v.length)) ∧ Below W.heap.size W w' := fun W h => by
      have h2 := sMax_any q1 d1 _ W h (by rw [e2]; exact h0)
      rw [e2] at h2
      exact h2.mono fun e w' ⟨h3, h4⟩ => ⟨h3, h4 ▸ Below.refl _ _⟩
    generalize lowTo (gainL v al ps zn) v.length = lo at *
    generalize highTo (gainL v al ps zn) v.length = hh at *
    have HMin : Hid (∀ W, (∀ S k, S < w1.heap.size → S ≠ w.heap.size + 2 → W.cell? ⟨S, k, none⟩ = w1.cell? ⟨S, k, none⟩) → Below w.heap.size w1 W → Calls Try.prog 27 #[.slice q1 v.length d1] W fun e w' => e = .returned (.int .i64 lo) ∧ Below W.heap.size W w') := fun W hf hb => Hmin W (hI.far hf hb.size (fun a e h => by have := hlt a e h; omega))
    have HmkL := Lib.hid (fun W => make_any lo zn W (by omega) (by omega) (by omega) (by omega))
    have HmkH := Lib.hid (fun W => make_any hh zn W (by omega) (by omega) (by omega) (by omega))
    unfold ratV at HmkL HmkH
    have tR := ta
    have hRB : w.heap.size + 2 < w1.heap.size := by omega
    have hbR : w.heap.size ≤ w.heap.size + 2 := by omega
    have hb0 : w.heap.size ≤ w1.heap.size := by omega
    clear hg hF e1 e2
    go_wp2_with fail
    refine wp_region_inv (by kernel_rfl) (by decide +kernel) (by decide +kernel) _ _ (PutJ w.heap.size w1 (w.heap.size + 2) 8 (fun kk => match kk with | 0 => (.slice q1 v.length d1) | 1 => (.int .i64 lo) | 2 => (.pointer (some ⟨w.heap.size + 1, 2, none⟩)) | 3 => (.int .i64 (zn : Int)) | 4 => (.tuple #[(.agg #[.int .i64 (rN lo zn), .int .i64 (rD lo zn)]), .int .i64 0]) | 5 => (.tuple #[(.agg #[.int .i64 (rN lo zn), .int .i64 (rD lo zn)]), .int .i64 0]) | 6 => (.agg #[.int .i64 (rN lo zn), .int .i64 (rD lo zn)]) | 7 => (.int .i64 0) | _ => undef) (.int .i64 0) (.int .i64 0) (.int .i64 (rN lo zn)) (.int .i64 (rD lo zn))) ?_ ?_ ?_
    · exact fun us => PutJ.start us hRB tR
    · intro us D W i o A hA hi hJ hnD hon K hK
      have hlt : i < 9 := (Array.getElem?_eq_some_iff.1 hi).1
      rcases lt9 hlt with rfl | rfl | rfl | rfl | rfl | rfl | rfl | rfl | rfl
      · have hi' := Option.some.inj hi
        subst hi'
        refine wp_val (v := (.slice q1 v.length d1)) (w' := W) ?_ (hK _ _ (hJ.pure (i := 0) (by decide) hb0 hRB (Below.refl _ _)))
        · skip
          have e7 : A.tmps[7]?.getD undef = (.slice q1 v.length d1) := by rw [hA]; kernel_rfl
          clear hA hK hon hJ
          go_simp
      · have hi' := Option.some.inj hi
        subst hi'
        refine wp_enter (f := 27) (args := #[(.slice q1 v.length d1)]) (w' := W) ?_ ((HMin.out W hJ.far hJ.bel).mono ?_)
        · skip
          have e20 : A.tmps[20]?.getD undef = (.slice q1 v.length d1) := (by rw [hA]; kernel_rfl : A.tmps[20]?.getD undef = us 0).trans (hJ.val 0 (by decide) (hon 0 (by decide +kernel)))
          clear hA hK hon hJ
          go_simp
        · rintro r' wC ⟨rfl, hbC⟩
          exact ⟨_, rfl, hK _ _ (hJ.pure (i := 1) (by decide) hb0 hRB hbC)⟩
      · have hi' := Option.some.inj hi
        subst hi'
        refine wp_val (v := (.pointer (some ⟨w.heap.size + 1, 2, none⟩))) (w' := W) ?_ (hK _ _ (hJ.pure (i := 2) (by decide) hb0 hRB (Below.refl _ _)))
        · skip
          have e3 : A.tmps[3]?.getD undef = (.pointer (some ⟨w.heap.size + 1, 0, none⟩)) := by rw [hA]; kernel_rfl
          clear hA hK hon hJ
          go_simp
      · have hi' := Option.some.inj hi
        subst hi'
        refine wp_val (v := (.int .i64 (zn : Int))) (w' := W) ?_ (hK _ _ (hJ.pure (i := 3) (by decide) hb0 hRB (Below.refl _ _)))
        · skip
          have e22 : A.tmps[22]?.getD undef = (.pointer (some ⟨w.heap.size + 1, 2, none⟩)) := (by rw [hA]; kernel_rfl : A.tmps[22]?.getD undef = us 2).trans (hJ.val 2 (by decide) (hon 2 (by decide +kernel)))
          have cc := (hJ.far (w.heap.size + 1) 2 (by omega) (by omega)).trans w1L
          clear hA hK hon hJ
          go_simp
      · have hi' := Option.some.inj hi
        subst hi'
        refine wp_enter (f := 26) (args := #[.int .i64 lo, .int .i64 (zn : Int)]) (w' := W) ?_ ((HmkL.out W).mono ?_)
        · skip
          have e21 : A.tmps[21]?.getD undef = (.int .i64 lo) := (by rw [hA]; kernel_rfl : A.tmps[21]?.getD undef = us 1).trans (hJ.val 1 (by decide) (hon 1 (by decide +kernel)))
          have e23 : A.tmps[23]?.getD undef = (.int .i64 (zn : Int)) := (by rw [hA]; kernel_rfl : A.tmps[23]?.getD undef = us 3).trans (hJ.val 3 (by decide) (hon 3 (by decide +kernel)))
          clear hA hK hon hJ
          go_simp
        · rintro r' wC ⟨rfl, hbC⟩
          exact ⟨_, rfl, hK _ _ (hJ.pure (i := 4) (by decide) hb0 hRB hbC)⟩
      · have hi' := Option.some.inj hi
        subst hi'
        refine wp_val (v := (.tuple #[(.agg #[.int .i64 (rN lo zn), .int .i64 (rD lo zn)]), .int .i64 0])) (w' := W) ?_ (hK _ _ (hJ.pure (i := 5) (by decide) hb0 hRB (Below.refl _ _)))
        · skip
          have e24 : A.tmps[24]?.getD undef = (.tuple #[(.agg #[.int .i64 (rN lo zn), .int .i64 (rD lo zn)]), .int .i64 0]) := (by rw [hA]; kernel_rfl : A.tmps[24]?.getD undef = us 4).trans (hJ.val 4 (by decide) (hon 4 (by decide +kernel)))
          clear hA hK hon hJ
          go_simp
      · have hi' := Option.some.inj hi
        subst hi'
        refine wp_val (v := (.agg #[.int .i64 (rN lo zn), .int .i64 (rD lo zn)])) (w' := W) ?_ (hK _ _ (hJ.pure (i := 6) (by decide) hb0 hRB (Below.refl _ _)))
        · skip
          have e19 : A.tmps[19]?.getD undef = (.tuple #[(.agg #[.int .i64 (rN lo zn), .int .i64 (rD lo zn)]), .int .i64 0]) := (by rw [hA]; kernel_rfl : A.tmps[19]?.getD undef = us 5).trans (hJ.val 5 (by decide) (hon 5 (by decide +kernel)))
          clear hA hK hon hJ
          go_simp
      · have hi' := Option.some.inj hi
        subst hi'
        refine wp_val (v := (.int .i64 0)) (w' := W) ?_ (hK _ _ (hJ.pure (i := 7) (by decide) hb0 hRB (Below.refl _ _)))
        · skip
          have e19 : A.tmps[19]?.getD undef = (.tuple #[(.agg #[.int .i64 (rN lo zn), .int .i64 (rD lo zn)]), .int .i64 0]) := (by rw [hA]; kernel_rfl : A.tmps[19]?.getD undef = us 5).trans (hJ.val 5 (by decide) (hon 5 (by decide +kernel)))
          clear hA hK hon hJ
          go_simp
      · have hi' := Option.some.inj hi
        subst hi'
        have ht := hJ.two hnD
        refine wp_skip (w' := (W.setCell ⟨w.heap.size + 2, 0, none⟩ (.int .i64 (rN lo zn))).setCell ⟨w.heap.size + 2, 1, none⟩ (.int .i64 (rD lo zn))) ?_ (hK _ _ (hJ.store hnD hbR undef))
        · skip
          have e4 : A.tmps[4]?.getD undef = (.pointer (some ⟨w.heap.size + 2, 0, none⟩)) := by rw [hA]; kernel_rfl
          have e25 : A.tmps[25]?.getD undef = (.agg #[.int .i64 (rN lo zn), .int .i64 (rD lo zn)]) := (by rw [hA]; kernel_rfl : A.tmps[25]?.getD undef = us 6).trans (hJ.val 6 (by decide) (hon 6 (by decide +kernel)))
          have c0 := ht.c0
          have c1 := ht.c1
          have f0 := ht.f0
          have f1 := ht.f1
          clear ht
          clear hA hK hon hJ
          go_simp
    · intro us D w2 hJ hall
      have t2 := hJ.put (hall 8 (by decide))
      have hb2 := hJ.bel
      have hfar := hJ.far
      have hsz2 : w1.heap.size ≤ w2.heap.size := hb2.size
      have w2L := (hfar (w.heap.size + 1) 2 (by omega) (by omega)).trans w1L
      have hI2 := hI.far hfar hb2.size (fun a e h => by have := hlt a e h; omega)
      have tb2 := hJ.other tb (by omega) (by omega)
      clear hJ hall
      have tR2 := tb2
      have hRB2 : w.heap.size + 2 + 1 < w2.heap.size := by omega
      have hbR2 : w.heap.size ≤ w.heap.size + 2 + 1 := by omega
      have hb02 : w.heap.size ≤ w2.heap.size := by omega
      have HMax : Hid (∀ W, (∀ S k, S < w2.heap.size → S ≠ w.heap.size + 2 + 1 → W.cell? ⟨S, k, none⟩ = w2.cell? ⟨S, k, none⟩) → Below w.heap.size w2 W → Calls Try.prog 23 #[.slice q1 v.length d1] W fun e w' => e = .returned (.int .i64 hh) ∧ Below W.heap.size W w') := fun W hf hb => Hmax W (hI2.far hf hb.size (fun a e h => by have := hlt a e h; omega))
      simp only [actL, slotL, putL, List.setIfInBounds_toArray, List.set_cons_zero, List.set_cons_succ]
      go_wp2_with fail
      clear hRB hbR hb0
      have hRB := hRB2
      have hbR := hbR2
      have hb0 := hb02
      refine wp_region_inv (by kernel_rfl) (by decide +kernel) (by decide +kernel) _ _ (PutJ w.heap.size w2 (w.heap.size + 2 + 1) 8 (fun kk => match kk with | 0 => (.slice q1 v.length d1) | 1 => (.int .i64 hh) | 2 => (.pointer (some ⟨w.heap.size + 1, 2, none⟩)) | 3 => (.int .i64 (zn : Int)) | 4 => (.tuple #[(.agg #[.int .i64 (rN hh zn), .int .i64 (rD hh zn)]), .int .i64 0]) | 5 => (.tuple #[(.agg #[.int .i64 (rN hh zn), .int .i64 (rD hh zn)]), .int .i64 0]) | 6 => (.agg #[.int .i64 (rN hh zn), .int .i64 (rD hh zn)]) | 7 => (.int .i64 0) | _ => undef) (.int .i64 0) (.int .i64 0) (.int .i64 (rN hh zn)) (.int .i64 (rD hh zn))) ?_ ?_ ?_
      · exact fun us => PutJ.start us hRB tR2
      · intro us D W i o A hA hi hJ hnD hon K hK
        have hlt : i < 9 := (Array.getElem?_eq_some_iff.1 hi).1
        rcases lt9 hlt with rfl | rfl | rfl | rfl | rfl | rfl | rfl | rfl | rfl
        · have hi' := Option.some.inj hi
          subst hi'
          refine wp_val (v := (.slice q1 v.length d1)) (w' := W) ?_ (hK _ _ (hJ.pure (i := 0) (by decide) hb0 hRB (Below.refl _ _)))
          · skip
            have e7 : A.tmps[7]?.getD undef = (.slice q1 v.length d1) := by rw [hA]; kernel_rfl
            clear hA hK hon hJ
            go_simp
        · have hi' := Option.some.inj hi
          subst hi'
          refine wp_enter (f := 23) (args := #[(.slice q1 v.length d1)]) (w' := W) ?_ ((HMax.out W hJ.far hJ.bel).mono ?_)
          · skip
            have e28 : A.tmps[28]?.getD undef = (.slice q1 v.length d1) := (by rw [hA]; kernel_rfl : A.tmps[28]?.getD undef = us 0).trans (hJ.val 0 (by decide) (hon 0 (by decide +kernel)))
            clear hA hK hon hJ
            go_simp
          · rintro r' wC ⟨rfl, hbC⟩
            exact ⟨_, rfl, hK _ _ (hJ.pure (i := 1) (by decide) hb0 hRB hbC)⟩
        · have hi' := Option.some.inj hi
          subst hi'
          refine wp_val (v := (.pointer (some ⟨w.heap.size + 1, 2, none⟩))) (w' := W) ?_ (hK _ _ (hJ.pure (i := 2) (by decide) hb0 hRB (Below.refl _ _)))
          · skip
            have e3 : A.tmps[3]?.getD undef = (.pointer (some ⟨w.heap.size + 1, 0, none⟩)) := by rw [hA]; kernel_rfl
            clear hA hK hon hJ
            go_simp
        · have hi' := Option.some.inj hi
          subst hi'
          refine wp_val (v := (.int .i64 (zn : Int))) (w' := W) ?_ (hK _ _ (hJ.pure (i := 3) (by decide) hb0 hRB (Below.refl _ _)))
          · skip
            have e30 : A.tmps[30]?.getD undef = (.pointer (some ⟨w.heap.size + 1, 2, none⟩)) := (by rw [hA]; kernel_rfl : A.tmps[30]?.getD undef = us 2).trans (hJ.val 2 (by decide) (hon 2 (by decide +kernel)))
            have cc := (hJ.far (w.heap.size + 1) 2 (by omega) (by omega)).trans w2L
            clear hA hK hon hJ
            go_simp
        · have hi' := Option.some.inj hi
          subst hi'
          refine wp_enter (f := 26) (args := #[.int .i64 hh, .int .i64 (zn : Int)]) (w' := W) ?_ ((HmkH.out W).mono ?_)
          · skip
            have e29 : A.tmps[29]?.getD undef = (.int .i64 hh) := (by rw [hA]; kernel_rfl : A.tmps[29]?.getD undef = us 1).trans (hJ.val 1 (by decide) (hon 1 (by decide +kernel)))
            have e31 : A.tmps[31]?.getD undef = (.int .i64 (zn : Int)) := (by rw [hA]; kernel_rfl : A.tmps[31]?.getD undef = us 3).trans (hJ.val 3 (by decide) (hon 3 (by decide +kernel)))
            clear hA hK hon hJ
            go_simp
          · rintro r' wC ⟨rfl, hbC⟩
            exact ⟨_, rfl, hK _ _ (hJ.pure (i := 4) (by decide) hb0 hRB hbC)⟩
        · have hi' := Option.some.inj hi
          subst hi'
          refine wp_val (v := (.tuple #[(.agg #[.int .i64 (rN hh zn), .int .i64 (rD hh zn)]), .int .i64 0])) (w' := W) ?_ (hK _ _ (hJ.pure (i := 5) (by decide) hb0 hRB (Below.refl _ _)))
          · skip
            have e32 : A.tmps[32]?.getD undef = (.tuple #[(.agg #[.int .i64 (rN hh zn), .int .i64 (rD hh zn)]), .int .i64 0]) := (by rw [hA]; kernel_rfl : A.tmps[32]?.getD undef = us 4).trans (hJ.val 4 (by decide) (hon 4 (by decide +kernel)))
            clear hA hK hon hJ
            go_simp
        · have hi' := Option.some.inj hi
          subst hi'
          refine wp_val (v := (.agg #[.int .i64 (rN hh zn), .int .i64 (rD hh zn)])) (w' := W) ?_ (hK _ _ (hJ.pure (i := 6) (by decide) hb0 hRB (Below.refl _ _)))
          · skip
            have e27 : A.tmps[27]?.getD undef = (.tuple #[(.agg #[.int .i64 (rN hh zn), .int .i64 (rD hh zn)]), .int .i64 0]) := (by rw [hA]; kernel_rfl : A.tmps[27]?.getD undef = us 5).trans (hJ.val 5 (by decide) (hon 5 (by decide +kernel)))
            clear hA hK hon hJ
            go_simp
        · have hi' := Option.some.inj hi
          subst hi'
          refine wp_val (v := (.int .i64 0)) (w' := W) ?_ (hK _ _ (hJ.pure (i := 7) (by decide) hb0 hRB (Below.refl _ _)))
          · skip
            have e27 : A.tmps[27]?.getD undef = (.tuple #[(.agg #[.int .i64 (rN hh zn), .int .i64 (rD hh zn)]), .int .i64 0]) := (by rw [hA]; kernel_rfl : A.tmps[27]?.getD undef = us 5).trans (hJ.val 5 (by decide) (hon 5 (by decide +kernel)))
            clear hA hK hon hJ
            go_simp
        · have hi' := Option.some.inj hi
          subst hi'
          have ht := hJ.two hnD
          refine wp_skip (w' := (W.setCell ⟨w.heap.size + 2 + 1, 0, none⟩ (.int .i64 (rN hh zn))).setCell ⟨w.heap.size + 2 + 1, 1, none⟩ (.int .i64 (rD hh zn))) ?_ (hK _ _ (hJ.store hnD hbR undef))
          · skip
            have e5 : A.tmps[5]?.getD undef = (.pointer (some ⟨w.heap.size + 2 + 1, 0, none⟩)) := by rw [hA]; kernel_rfl
            have e33 : A.tmps[33]?.getD undef = (.agg #[.int .i64 (rN hh zn), .int .i64 (rD hh zn)]) := (by rw [hA]; kernel_rfl : A.tmps[33]?.getD undef = us 6).trans (hJ.val 6 (by decide) (hon 6 (by decide +kernel)))
            have c0 := ht.c0
            have c1 := ht.c1
            have f0 := ht.f0
            have f1 := ht.f1
            clear ht
            clear hA hK hon hJ
            go_simp
      · intro us2 D2 w3 hJ hall
        have t3 := hJ.put (hall 8 (by decide))
        have t2' := hJ.other t2 (by omega) (by omega)
        have hb3 := hJ.bel
        clear hJ hall
        have hB3 := (hB.trans hb2).trans hb3
        replace t2' : Two w3 (w.heap.size + 1 + 1) (.int .i64 (rN lo zn)) (.int .i64 (rD lo zn)) := t2'
        replace t3 : Two w3 (w.heap.size + 1 + 1 + 1) (.int .i64 (rN hh zn)) (.int .i64 (rD hh zn)) := t3
        have HB3 := Lib.hid hB3
        have HA3 := Lib.hid t2'
        have HC3 := Lib.hid t3
        have hsz3 : w2.heap.size ≤ w3.heap.size := hb3.size
        obtain ⟨x0, x1, y0, y1⟩ := t2'
        obtain ⟨z0, z1, s0, s1⟩ := t3
        clear hB hb2 hb3 hB3 ta tb tR t2 tb2 tR2 hI hI2 hfar w1L w2L hlt Hmin Hmax HMin HMax HmkL HmkH
        simp only [actL, slotL, putL, List.setIfInBounds_toArray, List.set_cons_zero, List.set_cons_succ]
        go_wp2_with fail
        go_region
        all_goals
          go_wp2_with fail
          clear x0 x1 y0 y1 z0 z1 s0 s1
          obtain ⟨hA5, hB5⟩ := four HA3.out HC3.out (.int .i64 (rN lo zn)) (.int .i64 (rD lo zn)) (.int .i64 (rN hh zn)) (.int .i64 (rD hh zn))
          obtain ⟨x0, x1, _, _⟩ := hA5
          obtain ⟨z0, z1, _, _⟩ := hB5
          refine bodyPost_ret (v := .tuple #[ratV lo zn, ratV hh zn, .int .i64 0]) (by simp [results, Try.results10, go_sem, x0, x1, z0, z1, ratV]) rfl ⟨?_, ?_⟩
          · rw [HLo.out, HHi.out, HF.out]
          · exact (below_four' HB3.out (by omega) _ _ _ _).drew
  · have hcz : (vldR v r al ps z != 0) = true := by rw [bne_iff_ne]; exact hF
    have HLo : Hid (wLo v r al ps z = zeroR) := by unfold Hid wLo; rw [if_neg hF]
    have HHi : Hid (wHi v r al ps z = zeroR) := by unfold Hid wHi; rw [if_neg hF]
    replace ta : Two w1 (w.heap.size + 1 + 1) (.int .i64 0) (.int .i64 0) := ta
    replace tb : Two w1 (w.heap.size + 1 + 1 + 1) (.int .i64 0) (.int .i64 0) := tb
    have HA := Lib.hid ta
    have HC := Lib.hid tb
    have HW := Lib.hid hB
    obtain ⟨x0, x1, y0, y1⟩ := ta
    obtain ⟨z0, z1, t0, t1⟩ := tb
    clear hF hB hI hlt w1L
    go_wp2_with fail
    clear x0 x1 y0 y1 z0 z1 t0 t1
    obtain ⟨hA5, hB5⟩ := four HA.out HC.out (.int .i64 0) (.int .i64 0) (.int .i64 0) (.int .i64 0)
    obtain ⟨x0, x1, _, _⟩ := hA5
    obtain ⟨z0, z1, _, _⟩ := hB5
    refine bodyPost_ret (v := .tuple #[zeroR, zeroR, .int .i64 (vldR v r al ps z)]) (by simp [results, Try.results10, go_sem, x0, x1, z0, z1, zeroR]) rfl ⟨?_, ?_⟩
    · rw [HLo.out, HHi.out]
    · exact below_four' HW.out (by omega) _ _ _ _
end Go.Proofs.Ytllcbcanohdepaa

/-
  DERIVED: THE SHELF's CONTRACTS AT THIS DUMP, IN PLAIN WORDS (tools/lay-plain.mjs out of 'TryShelf.lean', which tools/lay-shelf.mjs wrote): THE SAME DECLARATIONS UNDER THE SAME NAMES: 'import', 'namespace', 'open', 'def', 'theorem' AND NOTHING ELSE: no command of the shelf's: FOR A HAND-IN. Each laying: the table of numbers ('.._ren') and one theorem, a field a fact of the dump's own or the kernel's comparison; each contract: ONE APPLICATION.
-/
namespace Go.Proofs
open Go.Shelf
def Try.lays264_ren : Go.Shelf.Ren := ⟨fun | 264 => 59 | n => n, fun | 53 => 63 | 46 => 82 | n => n, fun | n => n⟩
theorem Try.lays264 : Go.Proofs.Lays.n264 Try.prog Try.lays264_ren := {
  mixed := by kernel_rfl
  f264 := Try.func59.trans (congrArg some (by kernel_rfl))
  t46 := Try.underlying82
  a46 := Try.isAgg82
  z46 := Try.sizeOf82
  v46 := Try.zeroValue82
  t53 := Try.underlying63
  a53 := Try.isAgg63
  z53 := Try.sizeOf63
  v53 := Try.zeroValue63 }
open Go.RowKit Go.Lib in
theorem Try.bits_Mul64 (x y : Nat) (hx : x < 18446744073709551616) (hy : y < 18446744073709551616) (w : World) :
    Calls Try.prog 59 #[.int .u64 x, .int .u64 y] w fun e w' => e = .returned (.tuple #[.int .u64 ((x * y / 18446744073709551616 : Nat) : Int), .int .u64 ((x * y % 18446744073709551616 : Nat) : Int)]) ∧ w' = w := Any.bits_Mul64 Try.lays264 x y hx hy w
end Go.Proofs
