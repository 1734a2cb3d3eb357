/- The walks of Trade (the program's and the reference's), for every allocation and rankings; no condition but sizes. -/
import Derived.Test.YtknincjfcicjfaaKeepD
import Derived.Test.YtknincjfcicjfaaKeepW
import Derived.Test.YtknincjfcicjfaaKeepX
namespace Go.Proofs.Ytknincjfcicjfaa
set_option linter.unusedVariables false
set_option linter.unusedSimpArgs false
open Go.ChangeShapes Go.WideShapes Go.ChangeAt Go.RowKit Go.Deep

theorem plcM_ok {a : List Int} {v : List (List Int)} (h : Lkd a v) : PlcOk (plcM v) v a.length := by
  refine ⟨plcM_len v, fun i hi => ?_, fun i hi y hy => ?_⟩
  · rw [plcM_row hi, plcR_len]; exact (h.2.2.2.1 i hi).1
  · rw [plcM_row hi, plcR_get (by rw [(h.2.2.2.1 i hi).1]; exact hy)]
/-- What Trade answers. -/
def trdE (a : List Int) (v : List (List Int)) : Int := if Lkd a v then if (exT a v).isSome then 0 else 6 else lkdI a v
def trdX (a : List Int) (v : List (List Int)) : Option (Nat × Nat × Nat × Nat) := if Lkd a v then exT a v else none
def GivesXE (w : World) (t : Option (Nat × Nat × Nat × Nat)) (k : Int) (e : Ending) (w' : World) : Prop := e = .returned (.tuple #[exV t, .int .i64 k]) ∧ Below w.heap.size w w'
/-- The cells of an exchange. -/
def exC (t : Option (Nat × Nat × Nat × Nat)) : List Value := match t with
  | some (i, j, x, y) => [.int .i64 (i : Int), .int .i64 (j : Int), .int .i64 (x : Int), .int .i64 (y : Int)]
  | none => [.int .i64 0, .int .i64 0, .int .i64 0, .int .i64 0]
theorem exV_eq (t : Option (Nat × Nat × Nat × Nat)) : ∃ i j x y : Int, exV t = .agg #[.int .i64 i, .int .i64 j, .int .i64 x, .int .i64 y] := by
  cases t with
  | none => exact ⟨0, 0, 0, 0, rfl⟩
  | some t => obtain ⟨i, j, x, y⟩ := t; exact ⟨i, j, x, y, rfl⟩
/-- A block that may be written, whose first cells are known. -/
structure BoxF (w : World) (S : Nat) (vs : List Value) : Prop where
  lt : S < w.heap.size
  cell : ∀ (k : Nat) (v : Value), vs[k]? = some v → w.cell? ⟨S, k, none⟩ = some v
  free : ∀ k, w.frozen? ⟨S, k, none⟩ = false
theorem BoxF.below {w w' : World} {S : Nat} {vs : List Value} (h : BoxF w S vs) (hb : Below w.heap.size w w') : BoxF w' S vs :=
  ⟨Nat.lt_of_lt_of_le h.lt hb.size, fun k v hk => (hb.cell (p := ⟨S, k, none⟩) h.lt).trans (h.cell k v hk), fun k => (hb.frozen (p := ⟨S, k, none⟩) h.lt).trans (h.free k)⟩
theorem BoxF.new {w w' : World} {S : Nat} {vs : List Value} {t : TypeId} (hS : w.heap.size = S) (hw : w.alloc (.cells vs.toArray t) = w') : BoxF w' S vs := by
  subst hS hw
  exact ⟨by simp, fun k v hk => (World.cell?_alloc_at _ _ _ _ rfl).trans (by simpa using hk), fun k => World.frozen?_alloc_at _ _ _ _ rfl⟩
theorem BoxF.set {w : World} {S : Nat} {vs : List Value} (h : BoxF w S vs) {k : Nat} (hk : k < vs.length) (u : Value) : BoxF (w.setCell ⟨S, k, none⟩ u) S (vs.set k u) := by
  refine ⟨by simpa [World.setCell] using h.lt, fun j v hj => ?_, fun j => by rw [World.frozen?_setCell]; exact h.free j⟩
  by_cases e : k = j
  · subst e
    rw [List.getElem?_set_self hk] at hj
    have hv : u = v := by simpa using hj
    rw [← hv]
    exact World.cell?_setCell_same _ _ _ (h.cell k vs[k] (by rw [List.getElem?_eq_getElem hk]))
  · rw [List.getElem?_set_ne e] at hj
    exact (World.cell?_setCell_other w ⟨S, k, none⟩ ⟨S, j, none⟩ u (fun h => e (by cases h; rfl))).trans (h.cell j v hj)
set_option maxHeartbeats 4000000 in
set_option maxRecDepth 100000 in
theorem keepTrade_any (pa : Option Addr) (ca : Nat) (a : List Int) (p : Option Addr) (c : Nat) (v : List (List Int)) (w : World) (ha : Ints w pa ca a) (hx : Mat w p c v)
    (hrl : Hid (∀ i, i < v.length → (rget v i).length ≤ 1000000)) :
    Calls Try.prog 20 #[.slice pa a.length ca, .slice p v.length c] w (GivesXE w (trdX a v) (trdE a v)) := by
  obtain ⟨W0, hW0⟩ : ∃ W, w.alloc (.cells #[.int .i64 0, .int .i64 0, .int .i64 0, .int .i64 0] 37) = W := ⟨_, rfl⟩
  have hB : Below w.heap.size w W0 := below_alloc hW0
  have bX : BoxF W0 w.heap.size [.int .i64 0, .int .i64 0, .int .i64 0, .int .i64 0] := BoxF.new rfl hW0
  replace ha := ha.below hB (Nat.le_refl _)
  replace hx := hx.below hB (Nat.le_refl _)
  have HW0 := Lib.hid hW0
  clear hW0
  have hla := ha.length_le
  have hlv := hx.length_le
  have hC := fun W h1 h2 => looked_any pa ca a p c v W (h1 : Ints W pa ca a) (h2 : Mat W p c v) hrl
  by_cases hN : ¬ Lkd a v
  · have h0 : lkdI a v ≠ 0 := fun h => hN (lkdI_zero.1 h)
    have hX : Hid (trdX a v = none) := by unfold Hid trdX; rw [if_neg hN]
    have hE : trdE a v = lkdI a v := by unfold trdE; rw [if_neg hN]
    rw [hE]
    obtain ⟨k, hk⟩ : ∃ k, lkdI a v = k := ⟨_, rfl⟩
    rw [hk] at hC h0 ⊢
    have hd : (k != 0) = true := by rw [bne_iff_ne]; exact h0
    have HC := Lib.hid hC
    clear hC hN h0 hk hE
    go_enter Try.func20, Try.ntmps20
    go_wp2_with fail
    rw [HW0.out]
    refine (HC.out _ ha hx).mono ?_
    rintro e w2 ⟨rfl, hb⟩
    replace hB := hB.trans (hb.mono hB.size)
    replace bX := bX.below hb
    have x0 := bX.cell 0 _ rfl
    have x1 := bX.cell 1 _ rfl
    have x2 := bX.cell 2 _ rfl
    have x3 := bX.cell 3 _ rfl
    have f0 := bX.free 0
    have f1 := bX.free 1
    have f2 := bX.free 2
    have f3 := bX.free 3
    have l0 := bX.lt
    clear hb
    go_wp2_with fail
    refine bodyPost_ret (v := .tuple #[.agg #[.int .i64 0, .int .i64 0, .int .i64 0, .int .i64 0], .int .i64 k]) (by simp [results, Try.results20, go_sem, x0, x1, x2, x3, l0]) rfl ?_
    unfold GivesXE
    rw [hX.out]
    exact ⟨rfl, ((((hB.setCell (p := ⟨w.heap.size, 0, none⟩) (Nat.le_refl _) _).setCell (p := ⟨w.heap.size, 1, none⟩) (Nat.le_refl _) _).setCell (p := ⟨w.heap.size, 2, none⟩) (Nat.le_refl _) _).setCell (p := ⟨w.heap.size, 3, none⟩) (Nat.le_refl _) _)⟩
  have hL := Classical.not_not.1 hN
  have hX : trdX a v = exT a v := by unfold trdX; rw [if_pos hL]
  have hE : trdE a v = if (exT a v).isSome then 0 else 6 := by unfold trdE; rw [if_pos hL]
  rw [lkdI_zero.2 hL] at hC
  rw [hX, hE]
  have HC := Lib.hid hC
  have HL := Lib.hid hL
  have Hr3 : Hid (∀ i, i < v.length → (rget v i).length ≤ 1000) := fun i hi => by have := (hL.2.2.2.1 i hi).1; have := hL.2.1; omega
  have HPl := Lib.hid (fun W h => places_any p c v W h hL.1 (Lib.hid fun i hi => ⟨by rw [(hL.2.2.2.1 i hi).1]; exact hL.2.2.2.1 i hi, Hr3.out i hi⟩))
  have hTr := fun W q d h1 h2 => trade_any pa ca a q d (plcM v) v W h1 h2 (plcM_ok hL) Hr3
  have HLen := Lib.hid (plcM_len v)
  clear hC hN hL hX hE
  cases hex : exT a v with
  | none =>
    rw [hex] at hTr
    have HTr := Lib.hid hTr
    clear hTr hex
    go_enter Try.func20, Try.ntmps20
    go_wp2_with fail
    rw [HW0.out]
    refine (HC.out _ ha hx).mono ?_
    rintro e w2 ⟨rfl, hb⟩
    replace ha := ha.below hb (Nat.le_refl _)
    replace hx := hx.below hb (Nat.le_refl _)
    replace hB := hB.trans (hb.mono hB.size)
    replace bX := bX.below hb
    clear hb
    go_wp2_with fail
    refine (HPl.out _ hx).mono ?_
    rintro e w3 ⟨pp, cp, Q, D, rfl, oD, hb⟩
    replace ha := ha.below hb (Nat.le_refl _)
    replace hB := hB.trans (hb.mono hB.size)
    replace bX := bX.below hb
    clear hb
    have mD := oD.mat
    clear oD
    rw [HLen.out]
    go_wp2_with fail
    refine (HTr.out _ _ _ ha mD).mono ?_
    rintro e w4 ⟨he, hb⟩
    have he2 : e = .returned (.tuple #[.agg #[.int .i64 0, .int .i64 0, .int .i64 0, .int .i64 0], .bool false]) := he
    clear he
    subst he2
    replace hB := hB.trans (hb.mono hB.size)
    replace bX := bX.below hb
    clear hb
    have x0 := bX.cell 0 _ rfl
    have x1 := bX.cell 1 _ rfl
    have x2 := bX.cell 2 _ rfl
    have x3 := bX.cell 3 _ rfl
    have f0 := bX.free 0
    have f1 := bX.free 1
    have f2 := bX.free 2
    have f3 := bX.free 3
    have l0 := bX.lt
    have ls0 : w4.heap.size ≠ w.heap.size := by omega
    go_wp2_with fail
    refine bodyPost_ret (v := .tuple #[.agg #[.int .i64 0, .int .i64 0, .int .i64 0, .int .i64 0], .int .i64 6]) (by simp [results, Try.results20, go_sem, x0, x1, x2, x3, l0, ls0]) rfl ?_
    unfold GivesXE
    exact ⟨rfl, ((((hB.setCell (p := ⟨w.heap.size, 0, none⟩) (Nat.le_refl _) _).setCell (p := ⟨w.heap.size, 1, none⟩) (Nat.le_refl _) _).setCell (p := ⟨w.heap.size, 2, none⟩) (Nat.le_refl _) _).setCell (p := ⟨w.heap.size, 3, none⟩) (Nat.le_refl _) _).alloc (by simp [World.setCell]; omega) _⟩
  | some t =>
    obtain ⟨i, j, x, y⟩ := t
    rw [hex] at hTr
    have HTr := Lib.hid hTr
    clear hTr hex
    go_enter Try.func20, Try.ntmps20
    go_wp2_with fail
    rw [HW0.out]
    refine (HC.out _ ha hx).mono ?_
    rintro e w2 ⟨rfl, hb⟩
    replace ha := ha.below hb (Nat.le_refl _)
    replace hx := hx.below hb (Nat.le_refl _)
    replace hB := hB.trans (hb.mono hB.size)
    replace bX := bX.below hb
    clear hb
    go_wp2_with fail
    refine (HPl.out _ hx).mono ?_
    rintro e w3 ⟨pp, cp, Q, D, rfl, oD, hb⟩
    replace ha := ha.below hb (Nat.le_refl _)
    replace hB := hB.trans (hb.mono hB.size)
    replace bX := bX.below hb
    clear hb
    have mD := oD.mat
    clear oD
    rw [HLen.out]
    go_wp2_with fail
    refine (HTr.out _ _ _ ha mD).mono ?_
    rintro e w4 ⟨he, hb⟩
    have he2 : e = .returned (.tuple #[.agg #[.int .i64 (i : Int), .int .i64 (j : Int), .int .i64 (x : Int), .int .i64 (y : Int)], .bool true]) := he
    clear he
    subst he2
    replace hB := hB.trans (hb.mono hB.size)
    replace bX := bX.below hb
    clear hb
    have x0 := bX.cell 0 _ rfl
    have x1 := bX.cell 1 _ rfl
    have x2 := bX.cell 2 _ rfl
    have x3 := bX.cell 3 _ rfl
    have f0 := bX.free 0
    have f1 := bX.free 1
    have f2 := bX.free 2
    have f3 := bX.free 3
    have l0 := bX.lt
    have ls0 : w4.heap.size ≠ w.heap.size := by omega
    go_wp2_with fail
    refine bodyPost_ret (v := .tuple #[.agg #[.int .i64 (i : Int), .int .i64 (j : Int), .int .i64 (x : Int), .int .i64 (y : Int)], .int .i64 0]) (by simp [results, Try.results20, go_sem, x0, x1, x2, x3, l0, ls0]) rfl ?_
    unfold GivesXE
    exact ⟨rfl, ((((hB.setCell (p := ⟨w.heap.size, 0, none⟩) (Nat.le_refl _) _).setCell (p := ⟨w.heap.size, 1, none⟩) (Nat.le_refl _) _).setCell (p := ⟨w.heap.size, 2, none⟩) (Nat.le_refl _) _).setCell (p := ⟨w.heap.size, 3, none⟩) (Nat.le_refl _) _).alloc (by simp [World.setCell]; omega) _⟩
set_option maxHeartbeats 4000000 in
set_option maxRecDepth 100000 in
theorem ref29Trade_any (pa : Option Addr) (ca : Nat) (a : List Int) (p : Option Addr) (c : Nat) (v : List (List Int)) (w : World) (ha : Ints w pa ca a) (hx : Mat w p c v) :
    Calls Try.prog 21 #[.slice pa a.length ca, .slice p v.length c] w (GivesXE w (trdX a v) (trdE a v)) := by
  obtain ⟨W0, hW0⟩ : ∃ W, w.alloc (.cells #[.int .i64 0, .int .i64 0, .int .i64 0, .int .i64 0] 37) = W := ⟨_, rfl⟩
  have hB : Below w.heap.size w W0 := below_alloc hW0
  have bX : BoxF W0 w.heap.size [.int .i64 0, .int .i64 0, .int .i64 0, .int .i64 0] := BoxF.new rfl hW0
  replace ha := ha.below hB (Nat.le_refl _)
  replace hx := hx.below hB (Nat.le_refl _)
  have HW0 := Lib.hid hW0
  clear hW0
  have hla := ha.length_le
  have hlv := hx.length_le
  have hC := fun W h1 h2 => ref29Looked_any pa ca a p c v W (h1 : Ints W pa ca a) (h2 : Mat W p c v)
  by_cases hN : ¬ Lkd a v
  · have h0 : lkdI a v ≠ 0 := fun h => hN (lkdI_zero.1 h)
    have hX : Hid (trdX a v = none) := by unfold Hid trdX; rw [if_neg hN]
    have hE : trdE a v = lkdI a v := by unfold trdE; rw [if_neg hN]
    rw [hE]
    obtain ⟨k, hk⟩ : ∃ k, lkdI a v = k := ⟨_, rfl⟩
    rw [hk] at hC h0 ⊢
    have hd : (k != 0) = true := by rw [bne_iff_ne]; exact h0
    have HC := Lib.hid hC
    clear hC hN h0 hk hE
    go_enter Try.func21, Try.ntmps21
    go_wp2_with fail
    rw [HW0.out]
    refine (HC.out _ ha hx).mono ?_
    rintro e w2 ⟨rfl, hw⟩
    have hb : Below W0.heap.size W0 w2 := by obtain ⟨n, rfl⟩ := hw; exact below_drewN _ _ _
    replace ha := ha.below hb (Nat.le_refl _)
    replace hx := hx.below hb (Nat.le_refl _)
    replace hB := hB.trans (hb.mono hB.size)
    replace bX := bX.below hb
    clear hb hw
    go_wp2_with fail
    refine (HC.out _ ha hx).mono ?_
    rintro e w3 ⟨rfl, hw⟩
    have hb : Below w2.heap.size w2 w3 := by obtain ⟨n, rfl⟩ := hw; exact below_drewN _ _ _
    replace hB := hB.trans (hb.mono hB.size)
    replace bX := bX.below hb
    have x0 := bX.cell 0 _ rfl
    have x1 := bX.cell 1 _ rfl
    have x2 := bX.cell 2 _ rfl
    have x3 := bX.cell 3 _ rfl
    have f0 := bX.free 0
    have f1 := bX.free 1
    have f2 := bX.free 2
    have f3 := bX.free 3
    have l0 := bX.lt
    clear hb hw
    go_wp2_with fail
    refine bodyPost_ret (v := .tuple #[.agg #[.int .i64 0, .int .i64 0, .int .i64 0, .int .i64 0], .int .i64 k]) (by simp [results, Try.results21, go_sem, x0, x1, x2, x3, l0]) rfl ?_
    unfold GivesXE
    rw [hX.out]
    exact ⟨rfl, ((((hB.setCell (p := ⟨w.heap.size, 0, none⟩) (Nat.le_refl _) _).setCell (p := ⟨w.heap.size, 1, none⟩) (Nat.le_refl _) _).setCell (p := ⟨w.heap.size, 2, none⟩) (Nat.le_refl _) _).setCell (p := ⟨w.heap.size, 3, none⟩) (Nat.le_refl _) _)⟩
  have hL := Classical.not_not.1 hN
  have hX : trdX a v = exT a v := by unfold trdX; rw [if_pos hL]
  have hE : trdE a v = if (exT a v).isSome then 0 else 6 := by unfold trdE; rw [if_pos hL]
  rw [lkdI_zero.2 hL] at hC
  rw [hX, hE]
  have HC := Lib.hid hC
  have HL := Lib.hid hL
  have Hr3 : Hid (∀ i, i < v.length → (rget v i).length ≤ 1000) := fun i hi => by have := (hL.2.2.2.1 i hi).1; have := hL.2.1; omega
  have hTr := fun W h1 h2 => first29_any pa ca a p c v W h1 h2 Hr3
  clear hC hN hL hX hE
  cases hex : exT a v with
  | none =>
    rw [hex] at hTr
    have HTr := Lib.hid hTr
    clear hTr hex
    go_enter Try.func21, Try.ntmps21
    go_wp2_with fail
    rw [HW0.out]
    refine (HC.out _ ha hx).mono ?_
    rintro e w2 ⟨rfl, hw⟩
    have hb : Below W0.heap.size W0 w2 := by obtain ⟨n, rfl⟩ := hw; exact below_drewN _ _ _
    clear hw
    replace ha := ha.below hb (Nat.le_refl _)
    replace hx := hx.below hb (Nat.le_refl _)
    replace hB := hB.trans (hb.mono hB.size)
    replace bX := bX.below hb
    clear hb
    go_wp2_with fail
    refine (HTr.out _ ha hx).mono ?_
    rintro e w4 ⟨he, hb⟩
    have he2 : e = .returned (.tuple #[.agg #[.int .i64 0, .int .i64 0, .int .i64 0, .int .i64 0], .bool false]) := he
    clear he
    subst he2
    replace hB := hB.trans (hb.mono hB.size)
    replace bX := bX.below hb
    clear hb
    have x0 := bX.cell 0 _ rfl
    have x1 := bX.cell 1 _ rfl
    have x2 := bX.cell 2 _ rfl
    have x3 := bX.cell 3 _ rfl
    have f0 := bX.free 0
    have f1 := bX.free 1
    have f2 := bX.free 2
    have f3 := bX.free 3
    have l0 := bX.lt
    have ls0 : w4.heap.size ≠ w.heap.size := by omega
    go_wp2_with fail
    refine bodyPost_ret (v := .tuple #[.agg #[.int .i64 0, .int .i64 0, .int .i64 0, .int .i64 0], .int .i64 6]) (by simp [results, Try.results21, go_sem, x0, x1, x2, x3, l0, ls0]) rfl ?_
    unfold GivesXE
    exact ⟨rfl, ((((hB.setCell (p := ⟨w.heap.size, 0, none⟩) (Nat.le_refl _) _).setCell (p := ⟨w.heap.size, 1, none⟩) (Nat.le_refl _) _).setCell (p := ⟨w.heap.size, 2, none⟩) (Nat.le_refl _) _).setCell (p := ⟨w.heap.size, 3, none⟩) (Nat.le_refl _) _).alloc (by simp [World.setCell]; omega) _⟩
  | some t =>
    obtain ⟨i, j, x, y⟩ := t
    rw [hex] at hTr
    have HTr := Lib.hid hTr
    clear hTr hex
    go_enter Try.func21, Try.ntmps21
    go_wp2_with fail
    rw [HW0.out]
    refine (HC.out _ ha hx).mono ?_
    rintro e w2 ⟨rfl, hw⟩
    have hb : Below W0.heap.size W0 w2 := by obtain ⟨n, rfl⟩ := hw; exact below_drewN _ _ _
    clear hw
    replace ha := ha.below hb (Nat.le_refl _)
    replace hx := hx.below hb (Nat.le_refl _)
    replace hB := hB.trans (hb.mono hB.size)
    replace bX := bX.below hb
    clear hb
    go_wp2_with fail
    refine (HTr.out _ ha hx).mono ?_
    rintro e w4 ⟨he, hb⟩
    have he2 : e = .returned (.tuple #[.agg #[.int .i64 (i : Int), .int .i64 (j : Int), .int .i64 (x : Int), .int .i64 (y : Int)], .bool true]) := he
    clear he
    subst he2
    replace hB := hB.trans (hb.mono hB.size)
    replace bX := bX.below hb
    clear hb
    have x0 := bX.cell 0 _ rfl
    have x1 := bX.cell 1 _ rfl
    have x2 := bX.cell 2 _ rfl
    have x3 := bX.cell 3 _ rfl
    have f0 := bX.free 0
    have f1 := bX.free 1
    have f2 := bX.free 2
    have f3 := bX.free 3
    have l0 := bX.lt
    have ls0 : w4.heap.size ≠ w.heap.size := by omega
    go_wp2_with fail
    refine bodyPost_ret (v := .tuple #[.agg #[.int .i64 (i : Int), .int .i64 (j : Int), .int .i64 (x : Int), .int .i64 (y : Int)], .int .i64 0]) (by simp [results, Try.results21, go_sem, x0, x1, x2, x3, l0, ls0]) rfl ?_
    unfold GivesXE
    exact ⟨rfl, ((((hB.setCell (p := ⟨w.heap.size, 0, none⟩) (Nat.le_refl _) _).setCell (p := ⟨w.heap.size, 1, none⟩) (Nat.le_refl _) _).setCell (p := ⟨w.heap.size, 2, none⟩) (Nat.le_refl _) _).setCell (p := ⟨w.heap.size, 3, none⟩) (Nat.le_refl _) _).alloc (by simp [World.setCell]; omega) _⟩
end Go.Proofs.Ytknincjfcicjfaa
