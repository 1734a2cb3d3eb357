/- Rows of structs of three ints that a call itself makes: how they are read and appended to; no condition but sizes. -/
import Derived.Test.YtmcncflieoolmaaGreatTopTopGoodsm5
import Derived.Test.YtmcncflieoolmaaGreatTopTopGoodsm3
import Derived.Deep.RegionHeld3
import Derived.Deep.AppendLies
/- Rows of structs of three ints that a call itself makes: how they are read and appended to; no condition but sizes. -/
namespace Go.Proofs.YtmcncflieoolmaaGreat
set_option linter.unusedVariables false
set_option linter.unusedSimpArgs false
open Go.ChangeShapes Go.WideShapes Go.ChangeAt Go.RowKit Go.Deep

abbrev Trip := Nat × Nat × Int
/-- The cells of a list of triples. -/
def cellsT (xs : List Trip) : List Value := xs.flatMap fun x => [.int .i64 x.1, .int .i64 x.2.1, .int .i64 x.2.2]
def tget (xs : List Trip) (j : Nat) : Trip := xs.getD j (0, 0, 0)
theorem cellsT_append (xs ys : List Trip) : cellsT (xs ++ ys) = cellsT xs ++ cellsT ys := by simp [cellsT]
theorem cellsT_get : ∀ (xs : List Trip) (j : Nat), j < xs.length → (cellsT xs)[j * 3]? = some (.int .i64 (tget xs j).1) ∧ (cellsT xs)[j * 3 + 1]? = some (.int .i64 (tget xs j).2.1) ∧ (cellsT xs)[j * 3 + 2]? = some (.int .i64 (tget xs j).2.2)
  | x :: xs, 0, _ => ⟨rfl, rfl, rfl⟩
  | x :: xs, j + 1, h => by
    have ih := cellsT_get xs j (by simpa using h)
    have e : cellsT (x :: xs) = Value.int .i64 x.1 :: Value.int .i64 x.2.1 :: Value.int .i64 x.2.2 :: cellsT xs := rfl
    have e1 : (j + 1) * 3 = j * 3 + 1 + 1 + 1 := by omega
    have e2 : tget (x :: xs) (j + 1) = tget xs j := rfl
    rw [e, e1, e2]
    exact ih
/-- The slice (p, xs.length, c) is a row of the call's own, of structs E, in a block from base on, and holds the triples xs. -/
structure OwnT (E : TypeId) (w : World) (base : Nat) (p : Option Addr) (c : Nat) (xs : List Trip) : Prop where
  row : w.ownsRow base E 3 (.slice p xs.length c) xs.length (cellsT xs)
section
variable {E : TypeId}
theorem OwnT.ofNil (w : World) (base : Nat) : OwnT E w base none 0 [] := ⟨World.ownsRow_nil w base _ _⟩
theorem OwnT.lt {w : World} {base : Nat} {p : Option Addr} {c : Nat} {xs : List Trip} (h : OwnT E w base p c xs) : ∀ k, blk p = some k → base ≤ k ∧ k < w.heap.size := fun k hk => h.row.lt k (by rw [ownBlock_slice]; exact hk)
theorem OwnT.lower {w : World} {base base' : Nat} {p : Option Addr} {c : Nat} {xs : List Trip} (h : OwnT E w base p c xs) (hb : base' ≤ base) : OwnT E w base' p c xs := by
  refine ⟨⟨h.row.1, ?_⟩⟩
  rcases h.row.2 with h1 | ⟨g, cap, cur, h1, h2, r⟩
  · exact .inl h1
  · exact .inr ⟨g, cap, cur, h1, Nat.le_trans hb h2, r⟩
theorem OwnT.keptBy {w w' : World} {base : Nat} {p : Option Addr} {c : Nat} {xs : List Trip} (h : OwnT E w base p c xs) {row : Option Nat} (hg : w.grownBy w' row) (hne : ∀ k, blk p = some k → row ≠ some k) : OwnT E w' base p c xs :=
  ⟨h.row.kept hg (by
    rw [ownBlock_slice]
    cases hb : blk p with
    | none => exact .inl rfl
    | some k => exact .inr fun e => hne k hb e.symm)⟩
theorem OwnT.below {w w' : World} {base B : Nat} {p : Option Addr} {c : Nat} {xs : List Trip} (h : OwnT E w base p c xs) (hb : Below B w w') (hB : w.heap.size ≤ B) : OwnT E w' base p c xs :=
  h.keptBy (grownBy_of_below hb hB none) (fun _ _ h => by cases h)
theorem OwnT.drew {w w' : World} {base : Nat} {p : Option Addr} {c : Nat} {xs : List Trip} (h : OwnT E w base p c xs) (hw : ∃ n, w' = w.drewN n) : OwnT E w' base p c xs := by
  obtain ⟨n, rfl⟩ := hw
  exact h.below (below_drewN w.heap.size w n) (Nat.le_refl _)
theorem OwnT.alloc {w : World} {base : Nat} {p : Option Addr} {c : Nat} {xs : List Trip} (h : OwnT E w base p c xs) (o : Obj) : OwnT E (w.alloc o) base p c xs := ⟨h.row.alloc o⟩
theorem OwnT.cap {w : World} {base : Nat} {p : Option Addr} {c : Nat} {xs : List Trip} (h : OwnT E w base p c xs) : xs.length ≤ 9223372036854775807 := by
  rcases h.row.2 with ⟨_, h2⟩ | ⟨g, cap, cur, _, _, _, h4, h5, _, _⟩
  · omega
  · simp only [maxLen] at h5; omega
theorem OwnT.get {w : World} {base : Nat} {p : Option Addr} {c : Nat} {xs : List Trip} (h : OwnT E w base p c xs) {j : Nat} (hj : j < xs.length) :
    ∃ g, p = some ⟨g, 0, none⟩ ∧ base ≤ g ∧ g < w.heap.size ∧ w.cell? ⟨g, j * 3, none⟩ = some (.int .i64 (tget xs j).1) ∧ w.cell? ⟨g, j * 3 + 1, none⟩ = some (.int .i64 (tget xs j).2.1) ∧ w.cell? ⟨g, j * 3 + 2, none⟩ = some (.int .i64 (tget xs j).2.2) := by
  obtain ⟨g, cap, hv, hb, hlt⟩ := h.row.form (by omega)
  simp only [Value.slice.injEq] at hv
  obtain ⟨rfl, _, rfl⟩ := hv
  obtain ⟨e1, e2, e3⟩ := cellsT_get xs j hj
  exact ⟨g, rfl, hb, hlt, (h.row.cellAt (j * 3) (by omega)).trans e1, (h.row.cellAt (j * 3 + 1) (by omega)).trans e2, (h.row.cellAt (j * 3 + 2) (by omega)).trans e3⟩

/-- 'append(s, E{x, y, z})', the struct laid in a new block. -/
theorem wpList_appT {w : World} {ops : Array Oper} {rest : List Oper} {o : Oper} {a : Act} {Q : Exit → Act → World → Prop} (hgd : o.guard = none) (s x : Operand) (T : TypeId)
    (ho : o.op = .call { callee := .builtin .append, args := #[s, x], argTypes := #[T, T] }) (ht : Tryz.prog.underlying T = some (.slice E))
    (hinfo : (Tryz.prog.info? E).map (fun i => (i.zero, i.size, i.bytes)) = some (some (.agg #[.int .i64 0, .int .i64 0, .int .i64 0]), 3, 24))
    (base : Nat) (p : Option Addr) (c : Nat) (xs : List Trip) (y0 y1 : Nat) (y2 : Int) (hs : a.eval s = .slice p xs.length c) {B : Nat} (hx : a.eval x = .slice (some ⟨B, 0, none⟩) 1 1) (hB : w.heap.size = B) (hown : OwnT E w base p c xs)
    (hsz : xs.length ≤ 900000) (hbase : base ≤ w.heap.size)
    (h : ∀ p' c' w' zs, Hid (zs = xs ++ [(y0, y1, y2)]) → OwnT E w' base p' c' zs → w.grownBy w' (blk p) → Fresh w p p' → wpList Tryz.prog ops Q rest (a.put o.dst (.slice p' zs.length c')) w') : wpList Tryz.prog ops Q (o :: rest) a (w.alloc (.cells #[.int .i64 y0, .int .i64 y1, .int .i64 y2] E)) := by
  subst hB
  refine wpList_appG (w := w.alloc (.cells #[.int .i64 y0, .int .i64 y1, .int .i64 y2] E)) hgd s x T E ho (.agg #[.int .i64 0, .int .i64 0, .int .i64 0]) 3 24 ht hinfo (by kernel_rfl) (by decide) base p (some ⟨w.heap.size, 0, none⟩) xs.length 1 c 1 (cellsT xs) [.int .i64 y0, .int .i64 y1, .int .i64 y2] hs hx (hown.row.alloc _)
    (fun e => (by cases e)) rfl ?_ (by simp [Value.oneCell']) (by simp [maxLen]; omega) (by omega) (by simp; omega) ?_
  · rintro ad ⟨⟩ j u hu
    rw [add_plain, World.cell?_alloc_at _ _ _ _ rfl]
    simpa using hu
  · intro p' c' w' h2 h3 h4
    have hg : w.grownBy w' (blk p) := ⟨h3.os, h3.tape, h3.output, by have := h3.size; simp at this; omega, fun k hk hne => by
      rw [h3.block k (by simp; omega) hne]
      exact Below.heap_alloc _ _ _ hk⟩
    have hfr : Fresh w p p' := fun k hk => by
      rcases h4 k hk with h5 | h5
      · exact .inl h5
      · exact .inr (by simp at h5; omega)
    have := h p' c' w' (xs ++ [(y0, y1, y2)]) rfl ⟨by rw [List.length_append, cellsT_append]; exact h2⟩ hg hfr
    rw [List.length_append] at this
    exact this
end
end Go.Proofs.YtmcncflieoolmaaGreat

/- The walks of near.envies, first and One, for valid goods and allocations. -/
namespace Go.Proofs.YtmcncflieoolmaaGreat
set_option linter.unusedVariables false
set_option linter.unusedSimpArgs false
open Go.ChangeShapes Go.WideShapes Go.ChangeAt Go.RowKit Go.Deep

/-- Who envies whom, and by how much. -/
def envT (v : List (List Int)) (a : List Int) : List Trip := (prTo (gP v a) v.length v.length).map fun x => (x.1, x.2, worth v a x.1 (x.2 : Int) - worth v a x.1 (x.1 : Int))
theorem pget_of {xs : List (Nat × Nat)} {j : Nat} (h : j < xs.length) : pget xs j = xs[j] := by simp [pget, h]
theorem envT_take {v : List (List Int)} {a : List Int} {k i j : Nat} (hk : k < (prTo (gP v a) v.length v.length).length) (hi : (pget (prTo (gP v a) v.length v.length) k).1 = i) (hj : (pget (prTo (gP v a) v.length v.length) k).2 = j) :
    (envT v a).take (k + 1) = (envT v a).take k ++ [(i, j, worth v a i (j : Int) - worth v a i (i : Int))] := by
  rw [pget_of hk] at hi hj
  rw [List.take_add_one]
  congr 1
  unfold envT
  rw [List.getElem?_map, List.getElem?_eq_getElem hk]
  simp [hi, hj]
theorem pget_in {v : List (List Int)} {a : List Int} {k : Nat} (hk : k < (prTo (gP v a) v.length v.length).length) : (pget (prTo (gP v a) v.length v.length) k).1 < v.length ∧ (pget (prTo (gP v a) v.length v.length) k).2 < v.length := by
  have : pget (prTo (gP v a) v.length v.length) k ∈ prTo (gP v a) v.length v.length := by rw [pget_of hk]; exact List.getElem_mem hk
  obtain ⟨h1, h2, _⟩ := prTo_mem.1 this
  exact ⟨h1, h2⟩

def GivesT (E : TypeId) (w : World) (xs : List Trip) (k : Int) (e : Ending) (w' : World) : Prop :=
  ∃ p c, e = .returned (.tuple #[.slice p xs.length c, .int .i64 k]) ∧ OwnT E w' w.heap.size p c xs ∧ Below w.heap.size w w'

theorem OwnT.drewN {E : TypeId} {w : World} {base : Nat} {p : Option Addr} {c : Nat} {xs : List Trip} (h : OwnT E w base p c xs) (n : Nat) : OwnT E (w.drewN n) base p c xs := h.drew ⟨n, rfl⟩
theorem OwnT.drew1 {E : TypeId} {w : World} {base : Nat} {p : Option Addr} {c : Nat} {xs : List Trip} (h : OwnT E w base p c xs) : OwnT E w.drew base p c xs := h.drew ⟨1, rfl⟩
theorem cell_three_new (W : World) (x y z : Value) (t : TypeId) : ∀ (j : Nat) (u : Value), [x, y, z][j]? = some u → (W.alloc (.cells #[x, y, z] t)).cell? ((⟨W.heap.size, 0, none⟩ : Addr).add j) = some u := fun j u hu => by
  rw [add_plain, World.cell?_alloc_at _ _ _ _ rfl]
  simpa using hu
theorem grown_cell {w w' : World} {row : Option Nat} (h : w.grownBy w' row) {k t : Nat} (hk : k < w.heap.size) (hne : row ≠ some k) : w'.cell? ⟨k, t, none⟩ = w.cell? ⟨k, t, none⟩ := by
  simp only [World.cell?]
  rw [h.block k hk (Ne.symm hne)]
theorem ownT_snoc {E : TypeId} {w : World} {base : Nat} {p : Option Addr} {c : Nat} {xs : List Trip} {i j : Nat} {y : Int} (h : w.ownsRow base E 3 (.slice p (xs.length + 1) c) (xs.length + 1) (cellsT xs ++ [.int .i64 (i : Int), .int .i64 (j : Int), .int .i64 y])) :
    OwnT E w base p c (xs ++ [(i, j, y)]) := ⟨by rw [List.length_append, cellsT_append]; exact h⟩

set_option maxHeartbeats 8000000 in
set_option maxRecDepth 100000 in
theorem nearEnvies_any (p : Option Addr) (c : Nat) (v : List (List Int)) (q : Option Addr) (d : Nat) (a : List Int) (w : World) (hx : Mat w p c v) (hi : Ints w q d a) (hF : chkA v a = 0) :
    Calls Tryz.prog 72 #[.agg #[.slice p v.length c], .slice q a.length d] w (GivesT 116 w (envT v a) 0) := by
  obtain ⟨W0, hW0⟩ : ∃ W0, w.alloc (.cells #[.slice p v.length c] 24) = W0 := ⟨_, rfl⟩
  have hB : Below w.heap.size w W0 := below_alloc hW0
  have bX : BoxV W0 w.heap.size [.slice p v.length c] := BoxV.new rfl hW0
  have hx := hx.below hB (Nat.le_refl _)
  have hi := hi.below hB (Nat.le_refl _)
  have x0 := bX.cell 0 _ rfl
  have HW0 := Lib.hid hW0
  clear hW0
  have hl1 := hx.length_le
  have hl2 := hi.length_le
  have C1 := Lib.hid (fun W hX hI => goodsValues_any p c v q d a W hX hI)
  have C2 := Lib.hid (fun W hX hI => goodsEnvies_any p c v q d a W hX hI)
  rw [valsL_ok hF, hF] at C1
  rw [envG_ok hF, hF] at C2
  obtain ⟨hg, ha⟩ := chkA_zero.1 hF
  have Hg := Lib.hid hg
  have Ha := Lib.hid ha
  clear hF hg ha
  go_enter Tryz.func72, Tryz.ntmps72
  go_wp2_with fail
  rw [HW0.out]
  refine (C1.out _ hx hi).mono ?_
  rintro e w1 ⟨pv, cv, rfl, mV, hb1⟩
  rw [valsG_len]
  replace hx := hx.below hb1 (Nat.le_refl _)
  replace hi := hi.below hb1 (Nat.le_refl _)
  replace bX := bX.below hb1
  replace x0 := bX.cell 0 _ rfl
  replace hB := hB.trans (hb1.mono hB.size)
  clear hb1
  go_wp2_with fail
  refine (C2.out _ hx hi).mono ?_
  rintro e w2 ⟨pe, ce, rfl, oE, hb1⟩
  replace mV := mV.below hb1 (Nat.le_refl _)
  replace hB := hB.trans (hb1.mono hB.size)
  clear hb1 C1 C2 bX x0 hx hi
  have hcap := oE.cap
  have hElen := prTo_len (gP v a) v.length v.length
  have h66 : v.length * v.length ≤ 6 * 6 := Nat.mul_le_mul Hg.out.2.1 Hg.out.2.1
  have Hst := Lib.hid (fun k i j h1 h2 h3 => envT_take (v := v) (a := a) (k := k) (i := i) (j := j) h1 h2 h3)
  have Hin := Lib.hid (fun k h => pget_in (v := v) (a := a) (k := k) h)
  have HTl : Hid ((envT v a).length = (prTo (gP v a) v.length v.length).length) := by unfold Hid envT; simp
  obtain ⟨E, eE⟩ : ∃ E, prTo (gP v a) v.length v.length = E := ⟨_, rfl⟩
  rw [eE] at oE hcap hElen HTl ⊢
  simp only [eE] at Hst Hin
  clear eE
  obtain ⟨B, hBB⟩ : ∃ B, w2.heap.size = B := ⟨_, rfl⟩
  have HBB := Lib.hid hBB
  have hwB : w.heap.size ≤ B := by have := hB.size; omega
  clear hBB
  go_wp2_with fail
  go_loopw [10, 30] (fun s t wr => ∃ k : Nat, k ≤ E.length ∧ t = .int .i64 k ∧ (∃ zs q d, Hid (zs = (envT v a).take k) ∧ s = .slice q (zs : List Trip).length d ∧ OwnT 116 wr B q d zs) ∧ Below B w2 wr) (fun _ t _ => E.length - (intOf t).toNat)
  case atStart => exact ⟨0, Nat.zero_le _, rfl, ⟨[], none, 0, rfl, rfl, OwnT.ofNil _ _⟩, Below.refl _ _⟩
  case round =>
    obtain ⟨k, hk, rfl, ⟨zs, qz, dz, hz, rfl, hO⟩, hbr⟩ := hrel
    by_cases hlt : k < E.length
    · have hk1 : (k : Int) < E.length := by omega
      obtain ⟨ge, rfl, _, _, hce, hce2⟩ := (oE.below hbr (Nat.le_of_eq HBB.out)).get hlt
      obtain ⟨h1, h2⟩ := Hin.out k hlt
      obtain ⟨i, ei⟩ : ∃ i, (pget E k).1 = i := ⟨_, rfl⟩
      obtain ⟨j, ej⟩ : ∃ j, (pget E k).2 = j := ⟨_, rfl⟩
      have HS := Lib.hid (Hst.out k i j hlt ei ej)
      rw [ei] at hce h1
      rw [ej] at hce2 h2
      clear ei ej
      go_wp2_with fail
      have hszB := hbr.size
      rw [HBB.out] at hszB
      obtain ⟨W1, hW1⟩ : ∃ W, wr.alloc (.cells #[.int .i64 (i : Int), .int .i64 (j : Int)] 88) = W := ⟨_, rfl⟩
      have hb1 : Below wr.heap.size wr W1 := below_alloc hW1
      have bP : BoxV W1 wr.heap.size [.int .i64 (i : Int), .int .i64 (j : Int)] := BoxV.new rfl hW1
      have p0 := bP.cell 0 _ rfl
      have p1 := bP.cell 1 _ rfl
      have hbw : Below B w2 W1 := hbr.trans (hb1.mono hszB)
      obtain ⟨bv, ov, rfl, hlV2, qi, di, hcv, hI⟩ := mV.get (j := i) (by rw [valsG_len]; exact h1)
      rw [valsG_row h1] at hcv hI
      rw [worthRow_len] at hcv
      obtain ⟨br, or', rfl, hlR2, hci⟩ := hI.get (j := i) (by rw [worthRow_len]; exact h1)
      have hcj := hI.at (j := j) (by rw [worthRow_len]; exact h2)
      rw [worthRow_get h1] at hci
      rw [worthRow_get h2] at hcj
      rw [HBB.out] at hlV2 hlR2
      have hy := worth_in Hg.out Ha.out h1 (j : Int)
      have hzz := worth_in Hg.out Ha.out h1 (i : Int)
      have hVl := valsG_len v a
      have hi1 : (i : Int) < v.length := by omega
      have hj1 : (j : Int) < v.length := by omega
      have hzl : zs.length ≤ 900000 := by rw [hz.out, List.length_take]; omega
      have HO1 := Lib.hid (hO.below hb1 (Nat.le_refl _))
      have hsz1 : B ≤ W1.heap.size := Nat.le_trans hszB hb1.size
      have hlP := bP.lt
      obtain ⟨y, ey⟩ : ∃ y, worth v a i (j : Int) = y := ⟨_, rfl⟩
      obtain ⟨z, ez⟩ : ∃ z, worth v a i (i : Int) = z := ⟨_, rfl⟩
      rw [ey] at hcj hy HS
      rw [ez] at hci hzz HS
      have hcv2 := hcv
      have hci2 := hci
      have hcj2 := hcj
      replace hcv := (hbw.cell (p := ⟨bv, ov + i, none⟩) hlV2).trans hcv
      replace hci := (hbw.cell (p := ⟨br, or' + i, none⟩) hlR2).trans hci
      replace hcj := (hbw.cell (p := ⟨br, or' + j, none⟩) hlR2).trans hcj
      have hlV : bv < W1.heap.size := by have := hbw.size; have := HBB.out; omega
      have hlR : br < W1.heap.size := by have := hbw.size; have := HBB.out; omega
      have hOlt := hO.lt
      rw [hW1]
      clear ey ez hO hce hce2 hI hVl
      have Hwr : Hid (IntKind.i64.wrap (y - z) = y - z) := IntWalk.i64_in _ (by omega)
      have Hmk : Hid (∀ W, Below W1.heap.size W1 W → (W.cell? ⟨wr.heap.size, 0, none⟩ = some (.int .i64 (i : Int)) ∧ W.cell? ⟨wr.heap.size, 1, none⟩ = some (.int .i64 (j : Int)) ∧ W.cell? ⟨bv, ov + i, none⟩ = some (.slice (some ⟨br, or', none⟩) v.length di) ∧ W.cell? ⟨br, or' + i, none⟩ = some (.int .i64 z) ∧ W.cell? ⟨br, or' + j, none⟩ = some (.int .i64 y))) := fun W hG =>
        ⟨(hG.cell (p := ⟨wr.heap.size, 0, none⟩) hlP).trans p0, (hG.cell (p := ⟨wr.heap.size, 1, none⟩) hlP).trans p1, (hG.cell (p := ⟨bv, ov + i, none⟩) hlV).trans hcv, (hG.cell (p := ⟨br, or' + i, none⟩) hlR).trans hci, (hG.cell (p := ⟨br, or' + j, none⟩) hlR).trans hcj⟩
      have Hmk2 : Hid (∀ W, Below B w2 W → W.cell? ⟨wr.heap.size, 0, none⟩ = some (.int .i64 (i : Int)) → W.cell? ⟨wr.heap.size, 1, none⟩ = some (.int .i64 (j : Int)) → (W.cell? ⟨wr.heap.size, 0, none⟩ = some (.int .i64 (i : Int)) ∧ W.cell? ⟨wr.heap.size, 1, none⟩ = some (.int .i64 (j : Int)) ∧ W.cell? ⟨bv, ov + i, none⟩ = some (.slice (some ⟨br, or', none⟩) v.length di) ∧ W.cell? ⟨br, or' + i, none⟩ = some (.int .i64 z) ∧ W.cell? ⟨br, or' + j, none⟩ = some (.int .i64 y))) := fun W hG g0 g1 =>
        ⟨g0, g1, (hG.cell (p := ⟨bv, ov + i, none⟩) hlV2).trans hcv2, (hG.cell (p := ⟨br, or' + i, none⟩) hlR2).trans hci2, (hG.cell (p := ⟨br, or' + j, none⟩) hlR2).trans hcj2⟩
      have Hne : Hid ((Value.slice qz zs.length dz).ownBlock ≠ some wr.heap.size) := fun e => by rw [ownBlock_slice] at e; have := (hOlt _ e).2; omega
      obtain ⟨i0, hi0, hz0, hz1, hz2⟩ := info_parts (show (Tryz.prog.info? 116).map (fun i => (i.zero, i.size, i.bytes)) = some (some (.agg #[.int .i64 0, .int .i64 0, .int .i64 0]), 3, 24) by kernel_rfl)
      clear hcv2 hci2 hcj2 hOlt
      go_region_held3 (fun W => W.cell? ⟨wr.heap.size, 0, none⟩ = some (Value.int .i64 (i : Int)) ∧ W.cell? ⟨wr.heap.size, 1, none⟩ = some (Value.int .i64 (j : Int)) ∧ W.cell? ⟨bv, ov + i, none⟩ = some (Value.slice (some ⟨br, or', none⟩) v.length di) ∧ W.cell? ⟨br, or' + i, none⟩ = some (Value.int .i64 z) ∧ W.cell? ⟨br, or' + j, none⟩ = some (Value.int .i64 y))
        (first | assumption | exact hS4 | exact Hmk.out _ (by repeat (first | exact Below.refl _ _ | apply Below.drewN' | apply Below.drew | refine Below.alloc ?_ (by first | omega | (simp; omega)) _)))
        (first
          | (refine step_append_lies _ rfl (.tmp 34) (.tmp 59) 112 rfl B 116 i0 (.agg #[.int .i64 0, .int .i64 0, .int .i64 0]) 3 24 (by kernel_rfl) hi0 hz0 hz1 hz2 rfl (by decide) (.slice qz zs.length dz) zs.length (cellsT zs) (by simp [Act.eval, Act.put]) (show OwnT 116 _ B _ _ zs from by repeat (first | exact HO1.out | apply OwnT.drewN | apply OwnT.drew1 | apply OwnT.alloc)).row ⟨W1.heap.size, 0, none⟩ 1 1 [.int .i64 (i : Int), .int .i64 (j : Int), .int .i64 (IntKind.i64.wrap (y - z))] (by simp [Act.eval, Act.put]) rfl (cell_three_new _ _ _ _ _) (by simp [Value.oneCell']) (by decide) (by simp [maxLen]; omega) (by omega) (by simp; omega) _ rfl ?_; intro g cap w4 hown3 hg3 hor3 hlt3; have hb4 : Below B w2 w4 := Below.grown (show Below B w2 _ from by repeat (first | exact hbw | apply Below.drewN' | apply Below.drew | refine Below.alloc ?_ (by first | omega | (simp; omega)) _)) hg3 (by simp; omega) (fun k' e => by rw [ownBlock_slice] at e; exact (HO1.out.lt k' e).1); have hS4 := Hmk2.out w4 hb4 ((grown_cell hg3 (by simp; omega) Hne.out).trans (((show Below W1.heap.size W1 _ from by repeat (first | exact Below.refl _ _ | apply Below.drewN' | apply Below.drew | refine Below.alloc ?_ (by first | omega | (simp; omega)) _)).cell (p := ⟨wr.heap.size, 0, none⟩) hlP).trans p0)) ((grown_cell hg3 (by simp; omega) Hne.out).trans (((show Below W1.heap.size W1 _ from by repeat (first | exact Below.refl _ _ | apply Below.drewN' | apply Below.drew | refine Below.alloc ?_ (by first | omega | (simp; omega)) _)).cell (p := ⟨wr.heap.size, 1, none⟩) hlP).trans p1))))
      all_goals
        rw [Hwr.out] at hown3
        go_wp2_with fail
        go_roundw
        case rel => exact ⟨k + 1, by omega, by go_num, ⟨zs ++ [(i, j, y - z)], _, cap, by unfold Hid; rw [hz.out, HS.out], by simp, ownT_snoc hown3⟩, hb4⟩
        case measure => simp [intOf]; omega
    · have hk1 : ¬ (k : Int) < E.length := by omega
      obtain rfl : k = E.length := by omega
      have hzr : zs = envT v a := by rw [hz.out, List.take_of_length_le (by rw [HTl.out]; exact Nat.le_refl _)]
      subst hzr
      go_wp2_with fail
      go_ret2
      exact ⟨qz, dz, rfl, hO.lower hwB, hB.trans (hbr.mono hwB)⟩
end Go.Proofs.YtmcncflieoolmaaGreat

/- The walks of first and near.One, where each who envies is content up to one good. -/
namespace Go.Proofs.YtmcncflieoolmaaGreat
set_option linter.unusedVariables false
set_option linter.unusedSimpArgs false
open Go.ChangeShapes Go.WideShapes Go.ChangeAt Go.RowKit Go.Deep

/-- Good j is k's, and worth at least m for i. -/
def fgP (v : List (List Int)) (a : List Int) (i k : Nat) (m : Int) (j : Nat) : Bool := decide (iget a j = (k : Int) ∧ m ≤ iget (rget v i) j)
set_option maxHeartbeats 4000000 in
set_option maxRecDepth 100000 in
theorem first_any (i k : Nat) (m : Int) (p : Option Addr) (c : Nat) (v : List (List Int)) (q : Option Addr) (d : Nat) (a : List Int) (w : World) (hx : Mat w p c v) (hi : Ints w q d a) (hiv : i < v.length) (hrl : (rget v i).length = a.length) :
    Calls Tryz.prog 73 #[.agg #[.int .i64 i, .int .i64 k, .int .i64 m], .agg #[.slice p v.length c], .slice q a.length d, .bool true] w fun e w' => e = .returned (.int .i64 (firstN (fgP v a i k m) a.length)) ∧ Below w.heap.size w w' := by
  obtain ⟨Wx, hWx⟩ : ∃ W, w.alloc (.cells #[.int .i64 (i : Int), .int .i64 (k : Int), .int .i64 m] 116) = W := ⟨_, rfl⟩
  have hBx : Below w.heap.size w Wx := below_alloc hWx
  have bT : BoxV Wx w.heap.size [.int .i64 (i : Int), .int .i64 (k : Int), .int .i64 m] := BoxV.new rfl hWx
  obtain ⟨W0, hW0⟩ : ∃ W, Wx.alloc (.cells #[.slice p v.length c] 24) = W := ⟨_, rfl⟩
  have hB0 : Below Wx.heap.size Wx W0 := below_alloc hW0
  have bX : BoxV W0 Wx.heap.size [.slice p v.length c] := BoxV.new rfl hW0
  have bT := bT.below hB0
  have hB : Below w.heap.size w W0 := hBx.trans (hB0.mono hBx.size)
  have hx := (hx.below hBx (Nat.le_refl _)).below hB0 (Nat.le_refl _)
  have hi := (hi.below hBx (Nat.le_refl _)).below hB0 (Nat.le_refl _)
  have hxs : Wx.heap.size = w.heap.size + 1 := by rw [← hWx]; simp
  rw [hxs] at bX
  have t0 := bT.cell 0 _ rfl
  have t1 := bT.cell 1 _ rfl
  have t2 := bT.cell 2 _ rfl
  have x0 := bX.cell 0 _ rfl
  have HWx := Lib.hid hWx
  have HW0 := Lib.hid hW0
  clear hWx hW0 hBx hB0 hxs
  have hl1 := hx.length_le
  have hl2 := hi.length_le
  have Hrl := Lib.hid hrl
  clear hrl
  obtain ⟨b, o, rfl, _, qi, di, hc0, hr0⟩ := hx.get hiv
  have hiv1 : (i : Int) < v.length := by omega
  go_enter Tryz.func73, Tryz.ntmps73
  go_wp2_with fail
  rw [HWx.out, HW0.out]
  go_loopw [13] (fun t wr => ∃ j : Nat, j ≤ a.length ∧ t = .int .i64 j ∧ Hid (∀ s, s < j → fgP v a i k m s = false) ∧ ∃ n, wr = W0.drewN n) (fun t _ => a.length - (intOf t).toNat)
  case atStart => exact ⟨0, Nat.zero_le _, rfl, (fun s hs => absurd hs (Nat.not_lt_zero s)), drew_refl _⟩
  case round =>
    obtain ⟨j, hj, rfl, ht, hw⟩ := hrel
    have hi := hi.drew hw
    have hr0 := hr0.drew hw
    have t0 : wr.cell? ⟨w.heap.size, 0, none⟩ = some (.int .i64 (i : Int)) := by obtain ⟨n, rfl⟩ := hw; exact t0
    have t1 : wr.cell? ⟨w.heap.size, 1, none⟩ = some (.int .i64 (k : Int)) := by obtain ⟨n, rfl⟩ := hw; exact t1
    have t2 : wr.cell? ⟨w.heap.size, 2, none⟩ = some (.int .i64 m) := by obtain ⟨n, rfl⟩ := hw; exact t2
    have x0 : wr.cell? ⟨w.heap.size + 1, 0, none⟩ = some (.slice (some ⟨b, o, none⟩) v.length c) := by obtain ⟨n, rfl⟩ := hw; exact x0
    have hc0 : wr.cell? ⟨b, o + i, none⟩ = some (.slice qi (rget v i).length di) := by obtain ⟨n, rfl⟩ := hw; exact hc0
    have Hw := Lib.hid hw
    clear hw
    by_cases hlt : j < a.length
    · have hj1 : (j : Int) < a.length := by omega
      obtain ⟨b2, o2, rfl, _, hc2⟩ := hi.get hlt
      have hjr : j < (rget v i).length := by rw [Hrl.out]; exact hlt
      have hj2 : (j : Int) < (rget v i).length := by omega
      obtain ⟨b3, o3, rfl, _, hc3⟩ := hr0.get hjr
      have HP : Hid (fgP v a i k m j = decide (iget a j = (k : Int) ∧ m ≤ iget (rget v i) j)) := rfl
      obtain ⟨y, ey⟩ : ∃ y, iget (rget v i) j = y := ⟨_, rfl⟩
      obtain ⟨z, ez⟩ : ∃ z, iget a j = z := ⟨_, rfl⟩
      rw [ey] at hc3 HP
      rw [ez] at hc2 HP
      clear ey ez hjr
      by_cases he : z = (k : Int)
      · have hb : (z == (k : Int)) = true := by simpa using he
        cases hm : decide (m ≤ y) with
        | true =>
          have HR : Hid (fgP v a i k m j = true) := by unfold Hid; rw [HP.out]; simp at hm; simp [he, hm]
          clear he
          go_wp2_with fail
          go_quiet (fail)
          go_wp2_with fail
          go_ret
          exact ⟨ret_int (firstN_of hlt HR.out ht.out).symm, (hB.drewP Hw.out).drewN' _⟩
        | false =>
          have HR : Hid (fgP v a i k m j = false) := by unfold Hid; rw [HP.out]; simp at hm; simp [he]; omega
          clear he
          go_wp2_with fail
          go_quiet (fail)
          go_wp2_with fail
          go_roundw
          case rel => exact ⟨j + 1, by omega, by go_num, snoc_all' ht.out HR.out, drew_drewN _ Hw.out⟩
          case measure => simp [intOf]; omega
      · have hb : (z == (k : Int)) = false := by simpa using he
        have HR : Hid (fgP v a i k m j = false) := by unfold Hid; rw [HP.out]; simp [he]
        clear he
        go_wp2_with fail
        go_quiet (fail)
        go_wp2_with fail
        go_roundw
        case rel => exact ⟨j + 1, by omega, by go_num, snoc_all' ht.out HR.out, drew_drewN _ Hw.out⟩
        case measure => simp [intOf]; omega
    · have hj1 : ¬ (j : Int) < a.length := by omega
      go_wp2_with fail
      go_ret
      exact ⟨ret_int (firstN_none (fun s hs => ht.out s (by omega))).symm, hB.drewP Hw.out⟩

theorem tget_of {xs : List Trip} {j : Nat} (h : j < xs.length) : tget xs j = xs[j] := by simp [tget, h]
/-- Each who envies is content up to one good. -/
def CalmOne (v : List (List Int)) (a : List Int) : Prop := ∀ t ∈ envT v a, anyN (fgP v a t.1 t.2.1 t.2.2) a.length = true
set_option maxHeartbeats 8000000 in
set_option maxRecDepth 100000 in
theorem nearOne_calm (p : Option Addr) (c : Nat) (v : List (List Int)) (q : Option Addr) (d : Nat) (a : List Int) (w : World) (hx : Mat w p c v) (hi : Ints w q d a) (hF : chkA v a = 0) (hC : CalmOne v a) :
    Calls Tryz.prog 37 #[.agg #[.slice p v.length c], .slice q a.length d] w fun e w' => ∃ pm n cm, e = .returned (.tuple #[.slice pm n cm, .slice none 0 0, .int .i64 0]) ∧ Below w.heap.size w w' := by
  obtain ⟨W0, hW0⟩ : ∃ W0, w.alloc (.cells #[.slice p v.length c] 24) = W0 := ⟨_, rfl⟩
  have hB : Below w.heap.size w W0 := below_alloc hW0
  have bX : BoxV W0 w.heap.size [.slice p v.length c] := BoxV.new rfl hW0
  have hx := hx.below hB (Nat.le_refl _)
  have hi := hi.below hB (Nat.le_refl _)
  have x0 := bX.cell 0 _ rfl
  have HW0 := Lib.hid hW0
  clear hW0
  have hl1 := hx.length_le
  have hl2 := hi.length_le
  obtain ⟨hg, ha⟩ := chkA_zero.1 hF
  have C1 := Lib.hid (fun W hX hI => nearEnvies_any p c v q d a W hX hI hF)
  have h66 : v.length * v.length ≤ 6 * 6 := Nat.mul_le_mul hg.2.1 hg.2.1
  have hTl : (envT v a).length ≤ 36 := by have := prTo_len (gP v a) v.length v.length; unfold envT; rw [List.length_map]; omega
  have hIn : ∀ t ∈ envT v a, t.1 < v.length := fun t ht => by
    unfold envT at ht
    obtain ⟨x, hx, rfl⟩ := List.mem_map.1 ht
    exact (prTo_mem.1 hx).1
  have Hrow := Lib.hid (fun i (h : i < v.length) => ((hg.2.2.2 i h).1.trans ha.1.symm : (rget v i).length = a.length))
  unfold CalmOne at hC
  obtain ⟨T, eT⟩ : ∃ T, envT v a = T := ⟨_, rfl⟩
  rw [eT] at C1 hTl hIn hC
  have HIn := Lib.hid hIn
  have HC := Lib.hid hC
  clear hg ha hF hIn hC eT
  go_enter Tryz.func37, Tryz.ntmps37
  go_wp2_with fail
  rw [HW0.out]
  refine (C1.out _ hx hi).mono ?_
  rintro e w1 ⟨pe, ce, rfl, oT, hb1⟩
  replace hx := hx.below hb1 (Nat.le_refl _)
  replace hi := hi.below hb1 (Nat.le_refl _)
  replace bX := bX.below hb1
  replace hB := hB.trans (hb1.mono hB.size)
  clear hb1 C1 x0
  have hcap := oT.cap
  obtain ⟨B, hBB⟩ : ∃ B, w1.heap.size = B := ⟨_, rfl⟩
  have HBB := Lib.hid hBB
  have hwB : w.heap.size ≤ B := by have := hB.size; omega
  have hlX := bX.lt
  rw [hBB] at hlX
  clear hBB
  go_wp2_with fail
  go_loopw [4, 5, 22] (fun s u t wr => ∃ k : Nat, k ≤ T.length ∧ t = .int .i64 k ∧ u = .slice none 0 0 ∧ (∃ zs q d, Hid ((zs : List Trip).length = k) ∧ s = .slice q zs.length d ∧ OwnT 119 wr B q d zs) ∧ Below B w1 wr) (fun _ _ t _ => T.length - (intOf t).toNat)
  case atStart => exact ⟨0, Nat.zero_le _, rfl, rfl, ⟨[], none, 0, rfl, rfl, OwnT.ofNil _ _⟩, Below.refl _ _⟩
  case round =>
    obtain ⟨k, hk, rfl, rfl, ⟨zs, qz, dz, hz, rfl, hO⟩, hbr⟩ := hrel
    by_cases hlt : k < T.length
    · have hk1 : (k : Int) < T.length := by omega
      obtain ⟨ge, rfl, _, _, hc0, hc1, hc2⟩ := (oT.below hbr (Nat.le_of_eq HBB.out)).get hlt
      have hmem : tget T k ∈ T := by rw [tget_of hlt]; exact List.getElem_mem hlt
      have h1 := HIn.out _ hmem
      have h2 := HC.out _ hmem
      obtain ⟨i, ei⟩ : ∃ i, (tget T k).1 = i := ⟨_, rfl⟩
      obtain ⟨j, ej⟩ : ∃ j, (tget T k).2.1 = j := ⟨_, rfl⟩
      obtain ⟨m, em⟩ : ∃ m, (tget T k).2.2 = m := ⟨_, rfl⟩
      rw [ei] at hc0 h1 h2
      rw [ej] at hc1 h2
      rw [em] at hc2 h2
      obtain ⟨x, ex, hxa, _, _⟩ := firstN_lt h2
      have hszB := hbr.size
      rw [HBB.out] at hszB
      obtain ⟨W1, hW1⟩ : ∃ W, wr.alloc (.cells #[.int .i64 (i : Int), .int .i64 (j : Int), .int .i64 m] 116) = W := ⟨_, rfl⟩
      have hb1 : Below wr.heap.size wr W1 := below_alloc hW1
      have bP : BoxV W1 wr.heap.size [.int .i64 (i : Int), .int .i64 (j : Int), .int .i64 m] := BoxV.new rfl hW1
      have p0 := bP.cell 0 _ rfl
      have p1 := bP.cell 1 _ rfl
      have p2 := bP.cell 2 _ rfl
      have hbw : Below B w1 W1 := hbr.trans (hb1.mono hszB)
      have x0 := (bX.below (by rw [HBB.out]; exact hbw)).cell 0 _ rfl
      have CF := first_any i j m p c v q d a W1 (hx.below hbw (Nat.le_of_eq HBB.out)) (hi.below hbw (Nat.le_of_eq HBB.out)) h1 (Hrow.out i h1)
      rw [ex] at CF
      have CF := Lib.hid CF
      have x0' := x0
      rw [← hW1] at x0'
      have HW1 := Lib.hid hW1
      have hszW : B ≤ W1.heap.size := Nat.le_trans hszB hb1.size
      have hzl : zs.length ≤ 900000 := by rw [hz.out]; omega
      have HO1 := Lib.hid (hO.below hb1 (Nat.le_refl _))
      clear ei ej em ex h1 h2 hmem hO hW1 hb1
      go_wp2_with fail
      rw [HW1.out]
      refine CF.out.mono ?_
      rintro e w2 ⟨rfl, hbC⟩
      have bP := bP.below hbC
      have p0 := bP.cell 0 _ rfl
      have p1 := bP.cell 1 _ rfl
      have hO2 := HO1.out.below hbC (Nat.le_refl _)
      have hsz2 : B ≤ w2.heap.size := Nat.le_trans hszW hbC.size
      have hbw2 := hbw.trans (hbC.mono hszW)
      have hx0 : (0 : Int) ≤ (x : Int) := by omega
      go_wp2_with (at_builtin; refine wpList_appT rfl (.tmp 32) (.tmp 39) 78 rfl (by kernel_rfl) (by kernel_rfl) B _ _ zs i j (x : Int) rfl rfl rfl hO2 hzl hsz2 ?_; intro p3 c3 w3 u3 hu3 hO3 hg3 hf3)
      go_roundw
      case rel => exact ⟨k + 1, by omega, by go_num, rfl, ⟨u3, _, _, by unfold Hid; rw [hu3.out, List.length_append, hz.out]; rfl, rfl, hO3⟩, hbw2.grown hg3 hsz2 (fun k' e => (hO2.lt k' e).1)⟩
      case measure => simp [intOf]; omega
    · have hk1 : ¬ (k : Int) < T.length := by omega
      go_wp2_with fail
      go_ret3
      exact ⟨⟨qz, zs.length, dz, rfl⟩, hB.trans (hbr.mono hwB)⟩
end Go.Proofs.YtmcncflieoolmaaGreat

/- Balanced turns: the first good that an agent takes is all that anyone may envy it for; plain, no program. -/
namespace Go.Proofs.YtmcncflieoolmaaGreat
set_option linter.unusedVariables false
set_option linter.unusedSimpArgs false
/-- From turn m on, f is what k takes first, or -1. -/
def IsF (ts T : List Int) (k m : Nat) (f : Int) : Prop :=
  (f = -1 ∧ ∀ t, m ≤ t → t < ts.length → ¬ (iget ts t = (k : Int) ∧ 0 ≤ iget T t)) ∨
  (∃ t0, m ≤ t0 ∧ t0 < ts.length ∧ iget ts t0 = (k : Int) ∧ 0 ≤ iget T t0 ∧ f = iget T t0 ∧ ∀ t, m ≤ t → t < t0 → ¬ (iget ts t = (k : Int) ∧ 0 ≤ iget T t))
theorem isF_end (ts T : List Int) (k : Nat) : IsF ts T k ts.length (-1) := .inl ⟨rfl, fun t h1 h2 => by omega⟩
theorem isF_yes {ts T : List Int} {k m : Nat} (hm : m < ts.length) (h1 : iget ts m = (k : Int)) (h2 : 0 ≤ iget T m) : IsF ts T k m (iget T m) :=
  .inr ⟨m, Nat.le_refl _, hm, h1, h2, rfl, fun t h3 h4 => by omega⟩
theorem isF_no {ts T : List Int} {k m : Nat} {f : Int} (h : IsF ts T k (m + 1) f) (hn : ¬ (iget ts m = (k : Int) ∧ 0 ≤ iget T m)) : IsF ts T k m f := by
  have hx : ∀ t, m ≤ t → m + 1 ≤ t ∨ t = m := fun t ht => by omega
  rcases h with ⟨h1, h2⟩ | ⟨t0, h1, h2, h3, h4, h5, h6⟩
  · refine .inl ⟨h1, fun t a b => ?_⟩
    rcases hx t a with c | rfl
    · exact h2 t c b
    · exact hn
  · refine .inr ⟨t0, by omega, h2, h3, h4, h5, fun t a b => ?_⟩
    rcases hx t a with c | rfl
    · exact h6 t c b
    · exact hn
theorem isF_ex (ts T : List Int) (k : Nat) : ∀ j m, m + j = ts.length → ∃ f, IsF ts T k m f
  | 0, m, h => ⟨-1, by have : m = ts.length := by omega
                       subst this; exact isF_end _ _ _⟩
  | j + 1, m, h => by
    obtain ⟨f, hf⟩ := isF_ex ts T k j (m + 1) (by omega)
    by_cases hc : iget ts m = (k : Int) ∧ 0 ≤ iget T m
    · exact ⟨_, isF_yes (by omega) hc.1 hc.2⟩
    · exact ⟨f, isF_no hf hc⟩
section
variable {v : List (List Int)} {ts : List Int}
theorem took_at {t : Nat} (ht : t < ts.length) : iget (pkT v ts ts.length) t = tkX v ts t := pkT_get v ts _ t ht
/-- Nothing was taken: nothing to envy. -/
theorem one_none (h : TurnOk v ts) (hb : BalTo v.length ts ts.length) {i k : Nat} (hi : i < v.length) (hf : ∀ t, t < ts.length → ¬ (iget ts t = (k : Int) ∧ 0 ≤ iget (pkT v ts ts.length) t)) :
    worth v (pkA v ts ts.length) i (k : Int) ≤ worth v (pkA v ts ts.length) i (i : Int) := by
  rw [worth_pk h (by omega) _ (Nat.le_refl _), worth_pk h (by omega) _ (Nat.le_refl _)]
  have := bal_one h hb (k := k) hi (M := 0) (Int.le_refl _) (fun t h1 h2 h3 => by
    have hn := hf t h2
    rw [took_at h2] at hn
    unfold tkV
    rw [if_neg (fun h0 => hn ⟨h3, h0⟩)]
    exact Int.le_refl _)
  omega
theorem one_first (h : TurnOk v ts) (hb : BalTo v.length ts ts.length) {i k t0 : Nat} (hi : i < v.length) (ht : t0 < ts.length) (hk : iget ts t0 = (k : Int)) (h0 : 0 ≤ iget (pkT v ts ts.length) t0)
    (hmin : ∀ t, t < t0 → ¬ (iget ts t = (k : Int) ∧ 0 ≤ iget (pkT v ts ts.length) t)) :
    worth v (pkA v ts ts.length) i (k : Int) - iget (rget v i) (iget (pkT v ts ts.length) t0).toNat ≤ worth v (pkA v ts ts.length) i (i : Int) := by
  rw [worth_pk h (by omega) _ (Nat.le_refl _), worth_pk h (by omega) _ (Nat.le_refl _), took_at ht]
  rw [took_at ht] at h0
  have hM : tkV v ts i t0 = iget (rget v i) (tkX v ts t0).toNat := by unfold tkV; rw [if_pos h0]
  have h00 := tkV_nonneg (ts := ts) h.gds hi t0
  have := bal_one h hb (k := k) hi (M := tkV v ts i t0) h00 (fun t h1 h2 h3 => by
    by_cases hx : 0 ≤ tkX v ts t
    · by_cases e : t = t0
      · rw [e]; exact Int.le_refl _
      · by_cases hlt : t < t0
        · exact absurd ⟨h3, by rw [took_at h2]; exact hx⟩ (hmin t hlt)
        · exact absurd ⟨by rw [h3, hk], by rw [Nat.div_eq_of_lt h1, Nat.div_eq_of_lt (by omega)]⟩ (hb t h2 t0 (by omega))
    · have : tkV v ts i t = 0 := by unfold tkV; rw [if_neg hx]
      omega)
  omega
theorem calm_one (h : TurnOk v ts) (hb : BalTo v.length ts ts.length) : CalmOne v (pkA v ts ts.length) := by
  intro t ht
  unfold envT at ht
  obtain ⟨⟨i, k⟩, hx, rfl⟩ := List.mem_map.1 ht
  obtain ⟨hi, hk, hp⟩ := prTo_mem.1 hx
  simp only at hi hk hp ⊢
  unfold gP at hp
  rw [decide_eq_true_iff] at hp
  obtain ⟨f, hf⟩ := isF_ex ts (pkT v ts ts.length) k ts.length 0 (by omega)
  rcases hf with ⟨_, h2⟩ | ⟨t0, _, h2, h3, h4, h5, h6⟩
  · have := one_none h hb hi (fun t => h2 t (Nat.zero_le _))
    omega
  · have h7 := one_first h hb hi h2 h3 h4 (fun t => h6 t (Nat.zero_le _))
    rcases pk_step (v := v) h.turn h2 with ⟨_, e, _⟩ | ⟨_, x, e, hxw, _, hfin, _⟩
    · rw [e] at h4; omega
    · rw [e, Int.toNat_natCast] at h7
      exact anyN_true.2 ⟨x, by rw [pkA_len]; exact hxw, decide_eq_true ⟨by rw [hfin, h3], by omega⟩⟩
end
end Go.Proofs.YtmcncflieoolmaaGreat
