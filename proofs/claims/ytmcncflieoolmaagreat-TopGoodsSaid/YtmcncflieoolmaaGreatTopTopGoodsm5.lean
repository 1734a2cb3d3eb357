/- The walks of goods.Values and of the reference's Worth, for every goods and allocation; no condition. -/
import Derived.Test.YtmcncflieoolmaaGreatTopTopGoodsm4
import Derived.StillTailTactics
import Derived.Test.YtmcncflieoolmaaGreatTopTopGoodsm2
import Derived.Deep.AppendLies
import Derived.Laws.StructEq
/- The walks of goods.Values and of the reference's Worth, for every goods and allocation; no condition. -/
namespace Go.Proofs.YtmcncflieoolmaaGreat
set_option linter.unusedVariables false
set_option linter.unusedSimpArgs false
open Go.ChangeShapes Go.WideShapes Go.ChangeAt Go.RowKit Go.Deep

/-- A table, and an error. -/
def GivesV (w : World) (v : List (List Int)) (k : Int) (e : Ending) (w' : World) : Prop :=
  ∃ p c, e = .returned (.tuple #[.slice p v.length c, .int .i64 k]) ∧ Mat w' p c v ∧ Below w.heap.size w w'
theorem wpList_appRowN {w : World} {ops : Array Oper} {rest : List Oper} {o : Oper} {a : Act} {K : Exit → Act → World → Prop} (hgd : o.guard = none) (s x : Operand)
    (ho : o.op = .call { callee := .builtin .append, args := #[s, x], argTypes := #[22, 22] })
    (base : Nat) (p : Option Addr) (c : Nat) (v : List (List Int)) (Q : Nat → Option Addr) (D : Nat → Nat) (q : Option Addr) (d n : Nat) (r : List Int) (hn : r.length = n)
    (hs : a.eval s = .slice p v.length c) {B : Nat} (hx : a.eval x = .slice (some ⟨B, 0, none⟩) 1 1) (hB : w.heap.size = B) (hown : TMat w base p c v Q D) (hr : Ints w q d r) (hsep : 0 < r.length → ∀ k, blk q = some k → blk p ≠ some k)
    (hsz : v.length ≤ 900000) (hbase : base ≤ w.heap.size)
    (h : ∀ p' c' w' u, Hid (u = v ++ [r]) → TMat w' base p' c' u (fun j => if j < v.length then Q j else q) (fun j => if j < v.length then D j else d) → w.grownBy w' (blk p) → Fresh w p p' →
      wpList Tryz.prog ops K rest (a.put o.dst (.slice p' u.length c')) w') :
    wpList Tryz.prog ops K (o :: rest) a (w.alloc (.cells #[.slice q n d] 25)) := by
  subst hn
  exact wpList_appRow hgd s x ho base p c v Q D q d r hs hx hB hown hr hsep hsz hbase h

set_option maxHeartbeats 8000000 in
set_option maxRecDepth 100000 in
theorem goodsValues_any (p : Option Addr) (c : Nat) (v : List (List Int)) (q : Option Addr) (d : Nat) (a : List Int) (w : World) (hx : Mat w p c v) (hi : Ints w q d a) :
    Calls Tryz.prog 39 #[.agg #[.slice p v.length c], .slice q a.length d] w (GivesV w (valsL v a) (chkA v a)) := by
  obtain ⟨W0, hW0⟩ : ∃ W0, w.alloc (.cells #[.slice p v.length c] 24) = W0 := ⟨_, rfl⟩
  have hB : Below w.heap.size w W0 := below_alloc hW0
  have bX : BoxV W0 w.heap.size [.slice p v.length c] := BoxV.new rfl hW0
  have hx := hx.below hB (Nat.le_refl _)
  have hi := hi.below hB (Nat.le_refl _)
  have x0 := bX.cell 0 _ rfl
  have HW0 := Lib.hid hW0
  clear hW0
  have hl1 := hx.length_le
  have hl2 := hi.length_le
  go_enter Tryz.func39, Tryz.ntmps39
  go_wp2_with fail
  rw [HW0.out]
  refine (goodsValid_any p c v q d a _ hx hi).mono ?_
  rintro e w1 ⟨rfl, hb1⟩
  have hx := hx.below hb1 (Nat.le_refl _)
  have hi := hi.below hb1 (Nat.le_refl _)
  have bX := bX.below hb1
  have x0 := bX.cell 0 _ rfl
  have hB := hB.trans (hb1.mono hB.size)
  by_cases hF : chkA v a = 0
  · have HL := Lib.hid (valsL_ok hF)
    have HF := Lib.hid hF
    rw [hF]
    obtain ⟨hg, ha⟩ := chkA_zero.1 hF
    have h0 : 0 < v.length := hg.1
    have h6 := hg.2.1
    obtain ⟨b, o, rfl, _, q0, d0, hc0, hi0⟩ := hx.get h0
    clear hc0 hi0
    obtain ⟨B1, hB1⟩ : ∃ B1, w1.heap.size = B1 := ⟨_, rfl⟩
    have Hg := Lib.hid hg
    have Ha := Lib.hid ha
    have HB1 := Lib.hid hB1
    have HB := Lib.hid hB
    clear hg ha hF hb1 hB hB1
    go_wp2_with fail
    go_loopw [7, 22] (fun s t wr => ∃ k : Nat, k ≤ v.length ∧ t = .int .i64 k ∧ (∃ u p' c' Q D, Hid (u = (valsG v a).take k) ∧ s = .slice p' (u : List (List Int)).length c' ∧ TMat wr B1 p' c' u Q D) ∧ Below B1 w1 wr) (fun _ t _ => v.length - (intOf t).toNat)
    case atStart => exact ⟨0, Nat.zero_le _, rfl, ⟨[], none, 0, fun _ => none, fun _ => 0, rfl, rfl, TMat.ofNil _ _⟩, Below.refl _ _⟩
    case round =>
      obtain ⟨k, hk, rfl, ⟨u, p', c', Q, D, hu, rfl, hT⟩, hbr⟩ := hrel
      have x0 := (bX.below (by rw [HB1.out]; exact hbr)).cell 0 _ rfl
      by_cases hlt : k < v.length
      · have hk1 : (k : Int) < v.length := by omega
        obtain ⟨qk, dk, hc, hik⟩ := (hx.below hbr (Nat.le_of_eq HB1.out)).at hlt
        have hir := hi.below hbr (Nat.le_of_eq HB1.out)
        obtain ⟨B2, hB2⟩ : ∃ B2, wr.heap.size = B2 := ⟨_, rfl⟩
        have hszo : B1 ≤ B2 := by have := hbr.size; have := HB1.out; omega
        have HB2 := Lib.hid hB2
        have hx0 : w.heap.size < B2 := by have := bX.lt; have := HB1.out; omega
        have hkl := Lib.hid ((Hg.out.2.2.2 k hlt).1.trans Ha.out.1.symm)
        clear hB2
        go_wp2_with (at_make; refine wpList_mk rfl (.tmp 28) (.tmp 28) rfl B2 v.length rfl rfl (by omega) (Nat.le_of_eq HB2.out.symm) ?_; intro w2 hO2 hg2 hs2)
        have hb2 : Below B2 wr w2 := Below.grown (Below.refl B2 wr) hg2 (Nat.le_of_eq HB2.out.symm) (fun k e => (by cases e))
        have hik2 := hik.below hb2 (Nat.le_of_eq HB2.out)
        have hir2 := hir.below hb2 (Nat.le_of_eq HB2.out)
        rw [HB2.out] at hO2 ⊢
        go_loopw [32] (fun t wj => ∃ m : Nat, m ≤ a.length ∧ t = .int .i64 m ∧ Own wj B2 (some ⟨B2, 0, none⟩) v.length (rowUp v a k m) ∧ Below B2 wr wj) (fun t _ => a.length - (intOf t).toNat)
        case atStart => exact ⟨0, Nat.zero_le _, rfl, by rw [rowUp_zero]; exact hO2, hb2⟩
        case round =>
          obtain ⟨m, hm, rfl, hO, hbj⟩ := hrel
          by_cases hml : m < a.length
          · have hm1 : (m : Int) < a.length := by omega
            have hm2 : (m : Int) < (rget v k).length := by have := hkl.out; omega
            obtain ⟨b2, o2, rfl, _, hc2⟩ := (hir.below hbj (Nat.le_of_eq HB2.out)).get hml
            obtain ⟨b3, o3, rfl, _, hc3⟩ := (hik.below hbj (Nat.le_of_eq HB2.out)).get (j := m) (by omega)
            have hr2 := (Hg.out.2.2.2 k hlt).2 m (by omega)
            have hal := Ha.out.2 m hml
            by_cases hneg : iget a m < 0
            · have hd : decide (0 ≤ iget a m) = false := by simpa using hneg
              have Hst := Lib.hid (rowUp_none (v := v) (i := k) hneg)
              have HO := Lib.hid hO
              clear hneg hO
              go_wp2_with fail
              go_roundw
              case rel => exact ⟨m + 1, by omega, by go_num, by rw [Hst.out]; exact HO.out, hbj⟩
              case measure => simp [intOf]; omega
            · have hd : decide (0 ≤ iget a m) = true := by simpa using hneg
              obtain ⟨x, hxx⟩ : ∃ x : Nat, iget a m = (x : Int) := ⟨(iget a m).toNat, by omega⟩
              have hxl : x < v.length := by omega
              have hx1 : (x : Int) < v.length := by omega
              have Hst := Lib.hid (rowUp_set (v := v) (i := k) hxx hxl)
              have hc4 := hO.at (j := x) (by rw [rowUp_len]; exact hxl)
              have hr1 := worthUp_in Hg.out hlt (x : Int) m (by have := Ha.out.1; omega) (a := a)
              rw [← rowUp_get hxl] at hr1
              have hfz := hO.free x
              rw [hxx] at hc2 hd
              have hmm : m ≤ 10 := by have := Ha.out.1; have := Hg.out.2.2.1; omega
              obtain ⟨y1, e1⟩ : ∃ y, iget (rowUp v a k m) x = y := ⟨_, rfl⟩
              obtain ⟨y2, e2⟩ : ∃ y, iget (rget v k) m = y := ⟨_, rfl⟩
              rw [e1] at hc4 hr1 Hst
              rw [e2] at hc3 hr2 Hst
              clear e1 e2 hxx hal hneg
              have hin : in64 (y1 + y2) := ⟨by omega, by omega⟩
              have HO := Lib.hid hO
              clear hO
              go_wp2_with fail
              go_still_tail 10, (by kernel_rfl)
              go_wp2_with fail
              go_roundw
              case rel => exact ⟨m + 1, by omega, by go_num, by rw [Hst.out]; exact (HO.out.set x hin).1.drew1, (hbj.setCell (p := ⟨B2, x, none⟩) (Nat.le_refl _) _).drew⟩
              case measure => simp [intOf]; omega
          · have hm1 : ¬ (m : Int) < a.length := by omega
            obtain rfl : m = a.length := by omega
            have hw2 : rowUp v a k a.length = worthRow v a k := rfl
            rw [hw2] at hO
            have hul : u.length ≤ 900000 := by rw [hu.out, List.length_take, valsG_len]; omega
            have hszj := hbj.size
            rw [HB2.out] at hszj
            have hT2 := hT.below hbj (Nat.le_of_eq HB2.out)
            have hsep : 0 < (worthRow v a k).length → ∀ k', blk (some ⟨B2, 0, none⟩) = some k' → blk p' ≠ some k' := fun _ k' e1 e2 => by
              have h1 := (hT.lt k' e2).2
              have h2 := HB2.out
              simp [blk] at e1
              omega
            have Hsep := Lib.hid hsep
            clear hsep
            go_wp2_with (at_builtin; refine wpList_appRowN rfl (.tmp 50) (.tmp 52) rfl B1 _ _ u Q D (some ⟨B2, 0, none⟩) v.length v.length (worthRow v a k) (worthRow_len v a k) rfl rfl rfl hT2 hO.ints Hsep.out hul (by omega) ?_; intro p3 c3 w3 u3 hu3 hT3 hg3 hf3)
            go_roundw
            case rel => exact ⟨k + 1, by omega, by go_num, ⟨u3, _, _, _, _, by unfold Hid; rw [hu3.out, hu.out, valsG_take hlt], rfl, hT3⟩, (hbr.trans (hbj.mono hszo)).grown hg3 (by omega) (fun k' e => (hT2.lt k' e).1)⟩
            case measure => simp [intOf]; omega
      · have hk1 : ¬ (k : Int) < v.length := by omega
        obtain rfl : k = v.length := by omega
        have hul : u = valsG v a := by rw [hu.out, List.take_of_length_le (by rw [valsG_len]; exact Nat.le_refl _)]
        subst hul
        go_wp2_with fail
        go_ret2
        rw [HL.out, HF.out]
        exact ⟨_, _, rfl, hT.mat, HB.out.trans (hbr.mono (by have := HB.out.size; have := HB1.out; omega))⟩
  · have HL := Lib.hid (valsL_err hF)
    have hz : (chkA v a != 0) = true := by rw [bne_iff_ne]; exact hF
    clear hF
    go_wp2_with fail
    go_ret2
    rw [HL.out]
    exact ⟨none, 0, rfl, Mat.ofNil _, hB⟩

set_option maxHeartbeats 4000000 in
theorem worth_any (p : Option Addr) (c : Nat) (v : List (List Int)) (q : Option Addr) (d : Nat) (a : List Int) (i : Nat) (x : Int) (w : World) (hx : Mat w p c v) (hi : Ints w q d a) (hg : Gds v) (ha : AlcOk v a) (hiv : i < v.length) :
    Calls Tryz.prog 42 #[.agg #[.slice p v.length c], .slice q a.length d, .int .i64 i, .int .i64 x] w fun e w' => e = .returned (.int .i64 (worth v a i x)) ∧ Below w.heap.size w w' := by
  obtain ⟨W0, hW0⟩ : ∃ W0, w.alloc (.cells #[.slice p v.length c] 24) = W0 := ⟨_, rfl⟩
  have hB : Below w.heap.size w W0 := below_alloc hW0
  have bX : BoxV W0 w.heap.size [.slice p v.length c] := BoxV.new rfl hW0
  have hx := hx.below hB (Nat.le_refl _)
  have hi := hi.below hB (Nat.le_refl _)
  have x0 := bX.cell 0 _ rfl
  have HW0 := Lib.hid hW0
  clear hW0
  have hl1 := hx.length_le
  have hl2 := hi.length_le
  have h10 : a.length ≤ 10 := by have := ha.1; have := hg.2.2.1; omega
  have hrl := Lib.hid ((hg.2.2.2 i hiv).1.trans ha.1.symm)
  obtain ⟨b, o, rfl, _, q0, d0, hc0, hi0⟩ := hx.get hiv
  have hi1 : (i : Int) < v.length := by omega
  have Hg := Lib.hid hg
  have Ha := Lib.hid ha
  clear hg ha
  go_enter Tryz.func42, Tryz.ntmps42
  go_wp2_with fail
  rw [HW0.out]
  go_loop [9, 10] (fun s t => ∃ k : Nat, k ≤ a.length ∧ t = .int .i64 k ∧ s = .int .i64 (worthUp v a i x k)) (fun _ t => a.length - (intOf t).toNat)
  case atStart => exact ⟨0, Nat.zero_le _, rfl, rfl⟩
  case round =>
    obtain ⟨k, hk, rfl, rfl⟩ := hrel
    by_cases hlt : k < a.length
    · have hk1 : (k : Int) < a.length := by omega
      obtain ⟨b2, o2, rfl, _, hc2⟩ := hi.get hlt
      obtain ⟨b3, o3, rfl, _, hc3⟩ := hi0.get (j := k) (by have := hrl.out; omega)
      have hk2 : (k : Int) < (rget v i).length := by have := hrl.out; omega
      have hr1 := worthUp_in Hg.out hiv x k (by have := Ha.out.1; omega) (a := a)
      have hr2 := (Hg.out.2.2.2 i hiv).2 k (by omega)
      by_cases he : iget a k = x
      · have hb : (iget a k == x) = true := by simpa using he
        have Hst := Lib.hid (worthUp_eq (v := v) (i := i) he)
        clear he
        generalize worthUp v a i x k = y at *
        go_wp2_with fail
        go_round
        case rel => exact ⟨k + 1, by omega, by go_num, by rw [Hst.out]⟩
        case measure => simp [intOf]; omega
      · have hb : (iget a k == x) = false := by simpa using he
        have Hst := Lib.hid (worthUp_ne (v := v) (i := i) he)
        clear he
        go_wp2_with fail
        go_round
        case rel => exact ⟨k + 1, by omega, by go_num, by rw [Hst.out]⟩
        case measure => simp [intOf]; omega
    · have hk1 : ¬ (k : Int) < a.length := by omega
      obtain rfl : k = a.length := by omega
      go_wp2_with fail
      go_ret
      exact ⟨rfl, hB⟩
end Go.Proofs.YtmcncflieoolmaaGreat

/- Rows of pairs that a call itself makes: how they are read, appended to, compared; no condition but sizes. -/
namespace Go.Proofs.YtmcncflieoolmaaGreat
set_option linter.unusedVariables false
set_option linter.unusedSimpArgs false
open Go.ChangeShapes Go.WideShapes Go.ChangeAt Go.RowKit Go.Deep

theorem infoPair : (Tryz.prog.info? 88).map (fun i => (i.zero, i.size, i.bytes)) = some (some (.agg #[.int .i64 0, .int .i64 0]), 2, 16) := by kernel_rfl
/-- The cells of a list of pairs. -/
def cellsP (xs : List (Nat × Nat)) : List Value := xs.flatMap fun x => [.int .i64 x.1, .int .i64 x.2]
def pget (xs : List (Nat × Nat)) (j : Nat) : Nat × Nat := xs.getD j (0, 0)
theorem cellsP_append (xs ys : List (Nat × Nat)) : cellsP (xs ++ ys) = cellsP xs ++ cellsP ys := by simp [cellsP]
theorem cellsP_get : ∀ (xs : List (Nat × Nat)) (j : Nat), j < xs.length → (cellsP xs)[j * 2]? = some (.int .i64 (pget xs j).1) ∧ (cellsP xs)[j * 2 + 1]? = some (.int .i64 (pget xs j).2)
  | x :: xs, 0, _ => ⟨rfl, rfl⟩
  | x :: xs, j + 1, h => by
    have ih := cellsP_get xs j (by simpa using h)
    have e : cellsP (x :: xs) = Value.int .i64 x.1 :: Value.int .i64 x.2 :: cellsP xs := rfl
    have e1 : (j + 1) * 2 = j * 2 + 1 + 1 := by omega
    have e2 : pget (x :: xs) (j + 1) = pget xs j := rfl
    rw [e, e1, e2, List.getElem?_cons_succ, List.getElem?_cons_succ, List.getElem?_cons_succ, List.getElem?_cons_succ]
    exact ih

/-- The slice (p, xs.length, c) is a row of the call's own, in a block from base on, and holds the pairs xs. -/
structure OwnP (w : World) (base : Nat) (p : Option Addr) (c : Nat) (xs : List (Nat × Nat)) : Prop where
  row : w.ownsRow base 88 2 (.slice p xs.length c) xs.length (cellsP xs)
theorem OwnP.ofNil (w : World) (base : Nat) : OwnP w base none 0 [] := ⟨World.ownsRow_nil w base _ _⟩
theorem OwnP.lt {w : World} {base : Nat} {p : Option Addr} {c : Nat} {xs : List (Nat × Nat)} (h : OwnP w base p c xs) : ∀ k, blk p = some k → base ≤ k ∧ k < w.heap.size := fun k hk => h.row.lt k (by rw [ownBlock_slice]; exact hk)
theorem OwnP.lower {w : World} {base base' : Nat} {p : Option Addr} {c : Nat} {xs : List (Nat × Nat)} (h : OwnP w base p c xs) (hb : base' ≤ base) : OwnP w base' p c xs := by
  refine ⟨⟨h.row.1, ?_⟩⟩
  rcases h.row.2 with h1 | ⟨g, cap, cur, h1, h2, r⟩
  · exact .inl h1
  · exact .inr ⟨g, cap, cur, h1, Nat.le_trans hb h2, r⟩
theorem OwnP.keptBy {w w' : World} {base : Nat} {p : Option Addr} {c : Nat} {xs : List (Nat × Nat)} (h : OwnP w base p c xs) {row : Option Nat} (hg : w.grownBy w' row) (hne : ∀ k, blk p = some k → row ≠ some k) : OwnP w' base p c xs :=
  ⟨h.row.kept hg (by
    rw [ownBlock_slice]
    cases hb : blk p with
    | none => exact .inl rfl
    | some k => exact .inr fun e => hne k hb e.symm)⟩
theorem OwnP.below {w w' : World} {base B : Nat} {p : Option Addr} {c : Nat} {xs : List (Nat × Nat)} (h : OwnP w base p c xs) (hb : Below B w w') (hB : w.heap.size ≤ B) : OwnP w' base p c xs :=
  h.keptBy (grownBy_of_below hb hB none) (fun _ _ h => by cases h)
theorem OwnP.drew {w w' : World} {base : Nat} {p : Option Addr} {c : Nat} {xs : List (Nat × Nat)} (h : OwnP w base p c xs) (hw : ∃ n, w' = w.drewN n) : OwnP w' base p c xs := by
  obtain ⟨n, rfl⟩ := hw
  exact h.below (below_drewN w.heap.size w n) (Nat.le_refl _)
theorem OwnP.alloc {w : World} {base : Nat} {p : Option Addr} {c : Nat} {xs : List (Nat × Nat)} (h : OwnP w base p c xs) (o : Obj) : OwnP (w.alloc o) base p c xs := ⟨h.row.alloc o⟩
theorem OwnP.cap {w : World} {base : Nat} {p : Option Addr} {c : Nat} {xs : List (Nat × Nat)} (h : OwnP w base p c xs) : xs.length ≤ 9223372036854775807 := by
  rcases h.row.2 with ⟨_, h2⟩ | ⟨g, cap, cur, _, _, _, h4, h5, _, _⟩
  · omega
  · simp only [maxLen] at h5; omega
theorem OwnP.get {w : World} {base : Nat} {p : Option Addr} {c : Nat} {xs : List (Nat × Nat)} (h : OwnP w base p c xs) {j : Nat} (hj : j < xs.length) :
    ∃ g, p = some ⟨g, 0, none⟩ ∧ base ≤ g ∧ g < w.heap.size ∧ w.cell? ⟨g, j * 2, none⟩ = some (.int .i64 (pget xs j).1) ∧ w.cell? ⟨g, j * 2 + 1, none⟩ = some (.int .i64 (pget xs j).2) := by
  obtain ⟨g, cap, hv, hb, hlt⟩ := h.row.form (by omega)
  simp only [Value.slice.injEq] at hv
  obtain ⟨rfl, _, rfl⟩ := hv
  obtain ⟨e1, e2⟩ := cellsP_get xs j hj
  exact ⟨g, rfl, hb, hlt, (h.row.cellAt (j * 2) (by omega)).trans e1, (h.row.cellAt (j * 2 + 1) (by omega)).trans e2⟩

/-- 'append(s, [2]int{i, k})', the pair laid in a new block. -/
theorem wpList_appP {w : World} {ops : Array Oper} {rest : List Oper} {o : Oper} {a : Act} {Q : Exit → Act → World → Prop} (hgd : o.guard = none) (s x : Operand)
    (ho : o.op = .call { callee := .builtin .append, args := #[s, x], argTypes := #[79, 79] })
    (base : Nat) (p : Option Addr) (c : Nat) (xs : List (Nat × Nat)) (y0 y1 : Nat) (hs : a.eval s = .slice p xs.length c) {B : Nat} (hx : a.eval x = .slice (some ⟨B, 0, none⟩) 1 1) (hB : w.heap.size = B) (hown : OwnP w base p c xs)
    (hsz : xs.length ≤ 900000) (hbase : base ≤ w.heap.size)
    (h : ∀ p' c' w' zs, Hid (zs = xs ++ [(y0, y1)]) → OwnP w' base p' c' zs → w.grownBy w' (blk p) → Fresh w p p' → wpList Tryz.prog ops Q rest (a.put o.dst (.slice p' zs.length c')) w') : wpList Tryz.prog ops Q (o :: rest) a (w.alloc (.cells #[.int .i64 y0, .int .i64 y1] 88)) := by
  subst hB
  refine wpList_appG (w := w.alloc (.cells #[.int .i64 y0, .int .i64 y1] 88)) hgd s x 79 88 ho (.agg #[.int .i64 0, .int .i64 0]) 2 16 Tryz.underlying79 infoPair (by kernel_rfl) (by decide) base p (some ⟨w.heap.size, 0, none⟩) xs.length 1 c 1 (cellsP xs) [.int .i64 y0, .int .i64 y1] hs hx (hown.row.alloc _)
    (fun e => (by cases e)) rfl ?_ (by simp [Value.oneCell']) (by simp [maxLen]; omega) (by omega) (by simp; omega) ?_
  · rintro ad ⟨⟩ j u hu
    rw [add_plain, World.cell?_alloc_at _ _ _ _ rfl]
    simpa using hu
  · intro p' c' w' h2 h3 h4
    have hg : w.grownBy w' (blk p) := ⟨h3.os, h3.tape, h3.output, by have := h3.size; simp at this; omega, fun k hk hne => by
      rw [h3.block k (by simp; omega) hne]
      exact Below.heap_alloc _ _ _ hk⟩
    have hfr : Fresh w p p' := fun k hk => by
      rcases h4 k hk with h5 | h5
      · exact .inl h5
      · exact .inr (by simp at h5; omega)
    have := h p' c' w' (xs ++ [(y0, y1)]) rfl ⟨by rw [List.length_append, cellsP_append]; exact h2⟩ hg hfr
    rw [List.length_append] at this
    exact this

end Go.Proofs.YtmcncflieoolmaaGreat

/- Lists of the pairs, or numbers, of which a property holds, in order; who envies whom, who is burdened; no program. -/
namespace Go.Proofs.YtmcncflieoolmaaGreat
set_option linter.unusedVariables false
set_option linter.unusedSimpArgs false

def prRow (P : Nat → Nat → Bool) (m : Nat) : Nat → List (Nat × Nat)
  | 0 => []
  | k + 1 => prRow P m k ++ (if P m k then [(m, k)] else [])
def prTo (P : Nat → Nat → Bool) (n : Nat) : Nat → List (Nat × Nat)
  | 0 => []
  | m + 1 => prTo P n m ++ prRow P m n
theorem prRow_yes {P : Nat → Nat → Bool} {m k : Nat} (h : P m k = true) : prRow P m (k + 1) = prRow P m k ++ [(m, k)] := by simp [prRow, h]
theorem prRow_no {P : Nat → Nat → Bool} {m k : Nat} (h : P m k = false) : prRow P m (k + 1) = prRow P m k := by simp [prRow, h]
theorem prTo_succ (P : Nat → Nat → Bool) (n m : Nat) : prTo P n (m + 1) = prTo P n m ++ prRow P m n := rfl
theorem prRow_len (P : Nat → Nat → Bool) (m : Nat) : ∀ k, (prRow P m k).length ≤ k
  | 0 => by simp [prRow]
  | k + 1 => by
    have := prRow_len P m k
    rw [prRow, List.length_append]
    split <;> simp <;> omega
theorem prTo_len (P : Nat → Nat → Bool) (n : Nat) : ∀ m, (prTo P n m).length ≤ m * n
  | 0 => by simp [prTo]
  | m + 1 => by
    have h1 := prTo_len P n m
    have h2 := prRow_len P m n
    rw [prTo, List.length_append, Nat.add_mul]
    omega
theorem prRow_mem {P : Nat → Nat → Bool} {m : Nat} {x : Nat × Nat} : ∀ {k : Nat}, x ∈ prRow P m k ↔ x.1 = m ∧ x.2 < k ∧ P x.1 x.2 = true
  | 0 => by simp [prRow]
  | k + 1 => by
    rw [prRow, List.mem_append, prRow_mem]
    obtain ⟨a, b⟩ := x
    constructor
    · rintro (⟨h1, h2, h3⟩ | h)
      · exact ⟨h1, by omega, h3⟩
      · split at h
        · rename_i hp
          simp at h
          obtain ⟨rfl, rfl⟩ := h
          exact ⟨rfl, by simp, hp⟩
        · simp at h
    · rintro ⟨h1, h2, h3⟩
      simp only at h1 h2 h3
      subst h1
      by_cases hb : b = k
      · subst hb; right; rw [if_pos h3]; simp
      · left; exact ⟨rfl, by simp only; omega, h3⟩
theorem prTo_mem {P : Nat → Nat → Bool} {n : Nat} {x : Nat × Nat} : ∀ {m : Nat}, x ∈ prTo P n m ↔ x.1 < m ∧ x.2 < n ∧ P x.1 x.2 = true
  | 0 => by simp [prTo]
  | m + 1 => by
    rw [prTo, List.mem_append, prTo_mem, prRow_mem]
    constructor
    · rintro (⟨h1, h2, h3⟩ | ⟨h1, h2, h3⟩)
      · exact ⟨by omega, h2, h3⟩
      · exact ⟨by omega, h2, h3⟩
    · rintro ⟨h1, h2, h3⟩
      by_cases h : x.1 = m
      · exact .inr ⟨h, h2, h3⟩
      · exact .inl ⟨by omega, h2, h3⟩
/-- Goods: i would rather have k's bundle. -/
def gP (v : List (List Int)) (a : List Int) (i k : Nat) : Bool := decide (worth v a i (i : Int) < worth v a i (k : Int))
/-- Chores: i would rather have k's bundle. -/
def cP (v : List (List Int)) (a : List Int) (i k : Nat) : Bool := decide (worth v a i (k : Int) < worth v a i (i : Int))
def envG (P : List (List Int) → List Int → Nat → Nat → Bool) (v : List (List Int)) (a : List Int) : List (Nat × Nat) := if chkA v a = 0 then prTo (P v a) v.length v.length else []
theorem envG_ok {P : List (List Int) → List Int → Nat → Nat → Bool} {v : List (List Int)} {a : List Int} (h : chkA v a = 0) : envG P v a = prTo (P v a) v.length v.length := by simp [envG, h]
theorem envG_err {P : List (List Int) → List Int → Nat → Nat → Bool} {v : List (List Int)} {a : List Int} (h : chkA v a ≠ 0) : envG P v a = [] := by simp [envG, h]

def sumUp (xs : List Int) : Nat → Int
  | 0 => 0
  | m + 1 => sumUp xs m + iget xs m
theorem sumUp_in {v : List (List Int)} (hg : Gds v) {i : Nat} (hi : i < v.length) : ∀ m, m ≤ wid v → 0 ≤ sumUp (rget v i) m ∧ sumUp (rget v i) m ≤ 1000 * m
  | 0, _ => by simp [sumUp]
  | m + 1, hm => by
    have h1 := sumUp_in hg hi m (by omega)
    have h2 := gds_bid hg hi (j := m) (by omega)
    rw [sumUp]; omega
def allG (v : List (List Int)) (i : Nat) : Int := sumUp (rget v i) (rget v i).length
/-- Chores: i bears more than its share. -/
def bP (v : List (List Int)) (a : List Int) (i : Nat) : Bool := decide (allG v i < worth v a i (i : Int) * v.length)
end Go.Proofs.YtmcncflieoolmaaGreat

/- The walks of goods.Envies and chores.Envies, for every goods and allocation; no condition.  (Printed by wip/genenv.py.) -/
namespace Go.Proofs.YtmcncflieoolmaaGreat
set_option linter.unusedVariables false
set_option linter.unusedSimpArgs false
open Go.ChangeShapes Go.WideShapes Go.ChangeAt Go.RowKit Go.Deep

/-- A list of pairs, and an error. -/
def GivesQ (w : World) (xs : List (Nat × Nat)) (k : Int) (e : Ending) (w' : World) : Prop :=
  ∃ p c, e = .returned (.tuple #[.slice p xs.length c, .int .i64 k]) ∧ OwnP w' w.heap.size p c xs ∧ Below w.heap.size w w'

set_option maxHeartbeats 8000000 in
set_option maxRecDepth 100000 in
theorem goodsEnvies_any (p : Option Addr) (c : Nat) (v : List (List Int)) (q : Option Addr) (d : Nat) (a : List Int) (w : World) (hx : Mat w p c v) (hi : Ints w q d a) :
    Calls Tryz.prog 67 #[.agg #[.slice p v.length c], .slice q a.length d] w (GivesQ w (envG gP v a) (chkA v a)) := by
  obtain ⟨W0, hW0⟩ : ∃ W0, w.alloc (.cells #[.slice p v.length c] 24) = W0 := ⟨_, rfl⟩
  have hB : Below w.heap.size w W0 := below_alloc hW0
  have bX : BoxV W0 w.heap.size [.slice p v.length c] := BoxV.new rfl hW0
  have hx := hx.below hB (Nat.le_refl _)
  have hi := hi.below hB (Nat.le_refl _)
  have x0 := bX.cell 0 _ rfl
  have HW0 := Lib.hid hW0
  clear hW0
  have hl1 := hx.length_le
  have hl2 := hi.length_le
  go_enter Tryz.func67, Tryz.ntmps67
  go_wp2_with fail
  rw [HW0.out]
  refine (goodsValues_any p c v q d a _ hx hi).mono ?_
  rintro e w1 ⟨pv, cv, rfl, mV, hb1⟩
  have hB := hB.trans (hb1.mono hB.size)
  by_cases hF : chkA v a = 0
  · have HL := Lib.hid (envG_ok (P := gP) hF)
    have HF := Lib.hid hF
    rw [valsL_ok hF] at mV
    rw [valsL_ok hF, valsG_len, hF]
    obtain ⟨hg, ha⟩ := chkA_zero.1 hF
    have h0 : 0 < v.length := hg.1
    have h6 := hg.2.1
    obtain ⟨B1, hB1⟩ : ∃ B1, w1.heap.size = B1 := ⟨_, rfl⟩
    have Hg := Lib.hid hg
    have Ha := Lib.hid ha
    have HB1 := Lib.hid hB1
    have HB := Lib.hid hB
    obtain ⟨bv, ov, rfl, hbv, _, _, _, _⟩ := mV.get (j := 0) (by rw [valsG_len]; exact h0)
    rw [hB1] at hbv
    clear hg ha hF hb1 hB hB1
    go_wp2_with fail
    go_loopw [8, 24] (fun s t wr => ∃ m : Nat, m ≤ v.length ∧ t = .int .i64 m ∧ (∃ zs q d, Hid (zs = prTo (gP v a) v.length m) ∧ s = .slice q (zs : List (Nat × Nat)).length d ∧ OwnP wr B1 q d zs) ∧ Below B1 w1 wr) (fun _ t _ => v.length - (intOf t).toNat)
    case atStart => exact ⟨0, Nat.zero_le _, rfl, ⟨[], none, 0, rfl, rfl, OwnP.ofNil _ _⟩, Below.refl _ _⟩
    case round =>
      obtain ⟨m, hm, rfl, ⟨zs, qz, dz, hz, rfl, hO⟩, hbr⟩ := hrel
      by_cases hlt : m < v.length
      · have hm1 : (m : Int) < v.length := by omega
        obtain ⟨qm, dm, hc, hI⟩ := mV.at (j := m) (by rw [valsG_len]; exact hlt)
        rw [valsG_row hlt] at hc hI
        rw [worthRow_len] at hc
        have hc := (hbr.cell (p := ⟨bv, ov + m, none⟩) hbv).trans hc
        have hz1 := hz.out
        go_wp2_with fail
        go_loopw [8, 31] (fun s t wk => ∃ k : Nat, k ≤ v.length ∧ t = .int .i64 k ∧ (∃ ys q d, Hid (ys = prTo (gP v a) v.length m ++ prRow (gP v a) m k) ∧ s = .slice q (ys : List (Nat × Nat)).length d ∧ OwnP wk B1 q d ys) ∧ Below B1 w1 wk) (fun _ t _ => v.length - (intOf t).toNat)
        case atStart => exact ⟨0, Nat.zero_le _, rfl, ⟨zs, qz, dz, by unfold Hid; rw [prRow, List.append_nil]; exact hz1, rfl, hO⟩, hbr⟩
        case round =>
          clear hO hz1 hz hc hbr
          obtain ⟨k, hk, rfl, ⟨ys, qy, dy, hy, rfl, hO⟩, hbk⟩ := hrel
          have hszk := hbk.size
          rw [HB1.out] at hszk
          by_cases hkl : k < v.length
          · have hk1 : (k : Int) < v.length := by omega
            have hIk := hI.below hbk (Nat.le_of_eq HB1.out)
            obtain ⟨b2, o2, rfl, _, hc2⟩ := hIk.get (j := k) (by rw [worthRow_len]; exact hkl)
            have hc3 := hIk.at (j := m) (by rw [worthRow_len]; exact hlt)
            rw [worthRow_get hkl] at hc2
            rw [worthRow_get hlt] at hc3
            have hyl : ys.length ≤ 900000 := by
              rw [hy.out, List.length_append]
              have h1 := prTo_len (gP v a) v.length m
              have h2 := prRow_len (gP v a) m k
              have h3 : m * v.length ≤ 6 * 6 := Nat.mul_le_mul (by omega) h6
              omega
            have hP : gP v a m k = decide (worth v a m (m : Int) < worth v a m (k : Int)) := rfl
            have HR1 := Lib.hid (show gP v a m k = true → _ from fun h => prRow_yes (P := gP v a) (m := m) (k := k) h)
            have HR2 := Lib.hid (show gP v a m k = false → _ from fun h => prRow_no (P := gP v a) (m := m) (k := k) h)
            obtain ⟨y, ey⟩ : ∃ y, worth v a m (k : Int) = y := ⟨_, rfl⟩
            obtain ⟨z, ez⟩ : ∃ z, worth v a m (m : Int) = z := ⟨_, rfl⟩
            rw [ey] at hc2 hP
            rw [ez] at hc3 hP
            clear ey ez hIk
            cases hd : decide (z < y) with
            | true =>
              have HR := Lib.hid (HR1.out (hP.trans hd))
              have HO := Lib.hid hO
              clear hP hO
              go_wp2_with (at_builtin; refine wpList_appP rfl (.tmp 42) (.tmp 46) rfl B1 _ _ ys m k rfl rfl rfl HO.out hyl hszk ?_; intro p3 c3 w3 u3 hu3 hO3 hg3 hf3)
              go_roundw
              case rel => exact ⟨k + 1, by omega, by go_num, ⟨u3, _, _, by unfold Hid; rw [hu3.out, hy.out, HR.out, List.append_assoc], rfl, hO3⟩, hbk.grown hg3 hszk (fun k' e => (HO.out.lt k' e).1)⟩
              case measure => simp [intOf]; omega
            | false =>
              have HR := Lib.hid (HR2.out (hP.trans hd))
              have HO := Lib.hid hO
              clear hP hO
              go_wp2_with fail
              go_roundw
              case rel => exact ⟨k + 1, by omega, by go_num, ⟨ys, _, _, by unfold Hid; rw [hy.out, HR.out], rfl, HO.out⟩, hbk⟩
              case measure => simp [intOf]; omega
          · have hk1 : ¬ (k : Int) < v.length := by omega
            obtain rfl : k = v.length := by omega
            have HS := Lib.hid (prTo_succ (gP v a) v.length m)
            go_wp2_with fail
            go_roundw
            case rel => exact ⟨m + 1, by omega, by go_num, ⟨ys, _, _, by unfold Hid; rw [hy.out, HS.out], rfl, hO⟩, hbk⟩
            case measure => simp [intOf]; omega
      · have hm1 : ¬ (m : Int) < v.length := by omega
        obtain rfl : m = v.length := by omega
        have hzr := hz.out
        subst hzr
        have hsz := HB.out.size
        go_wp2_with fail
        go_ret2
        rw [HL.out, HF.out]
        exact ⟨qz, dz, rfl, hO.lower (by have := HB1.out; omega), HB.out.trans (hbr.mono (by have := HB1.out; omega))⟩
  · have HL := Lib.hid (envG_err (P := gP) hF)
    have hz : (chkA v a != 0) = true := by rw [bne_iff_ne]; exact hF
    clear hF
    go_wp2_with fail
    go_ret2
    rw [HL.out]
    exact ⟨none, 0, rfl, OwnP.ofNil _ _, hB⟩

set_option maxHeartbeats 8000000 in
set_option maxRecDepth 100000 in
theorem choresEnvies_any (p : Option Addr) (c : Nat) (v : List (List Int)) (q : Option Addr) (d : Nat) (a : List Int) (w : World) (hx : Mat w p c v) (hi : Ints w q d a) :
    Calls Tryz.prog 91 #[.agg #[.slice p v.length c], .slice q a.length d] w (GivesQ w (envG cP v a) (chkA v a)) := by
  obtain ⟨W0, hW0⟩ : ∃ W0, w.alloc (.cells #[.slice p v.length c] 24) = W0 := ⟨_, rfl⟩
  have hB : Below w.heap.size w W0 := below_alloc hW0
  have bX : BoxV W0 w.heap.size [.slice p v.length c] := BoxV.new rfl hW0
  have hx := hx.below hB (Nat.le_refl _)
  have hi := hi.below hB (Nat.le_refl _)
  have x0 := bX.cell 0 _ rfl
  have HW0 := Lib.hid hW0
  clear hW0
  have hl1 := hx.length_le
  have hl2 := hi.length_le
  go_enter Tryz.func91, Tryz.ntmps91
  go_wp2_with fail
  rw [HW0.out]
  refine (goodsValues_any p c v q d a _ hx hi).mono ?_
  rintro e w1 ⟨pv, cv, rfl, mV, hb1⟩
  have hB := hB.trans (hb1.mono hB.size)
  by_cases hF : chkA v a = 0
  · have HL := Lib.hid (envG_ok (P := cP) hF)
    have HF := Lib.hid hF
    rw [valsL_ok hF] at mV
    rw [valsL_ok hF, valsG_len, hF]
    obtain ⟨hg, ha⟩ := chkA_zero.1 hF
    have h0 : 0 < v.length := hg.1
    have h6 := hg.2.1
    obtain ⟨B1, hB1⟩ : ∃ B1, w1.heap.size = B1 := ⟨_, rfl⟩
    have Hg := Lib.hid hg
    have Ha := Lib.hid ha
    have HB1 := Lib.hid hB1
    have HB := Lib.hid hB
    obtain ⟨bv, ov, rfl, hbv, _, _, _, _⟩ := mV.get (j := 0) (by rw [valsG_len]; exact h0)
    rw [hB1] at hbv
    clear hg ha hF hb1 hB hB1
    go_wp2_with fail
    go_loopw [8, 24] (fun s t wr => ∃ m : Nat, m ≤ v.length ∧ t = .int .i64 m ∧ (∃ zs q d, Hid (zs = prTo (cP v a) v.length m) ∧ s = .slice q (zs : List (Nat × Nat)).length d ∧ OwnP wr B1 q d zs) ∧ Below B1 w1 wr) (fun _ t _ => v.length - (intOf t).toNat)
    case atStart => exact ⟨0, Nat.zero_le _, rfl, ⟨[], none, 0, rfl, rfl, OwnP.ofNil _ _⟩, Below.refl _ _⟩
    case round =>
      obtain ⟨m, hm, rfl, ⟨zs, qz, dz, hz, rfl, hO⟩, hbr⟩ := hrel
      by_cases hlt : m < v.length
      · have hm1 : (m : Int) < v.length := by omega
        obtain ⟨qm, dm, hc, hI⟩ := mV.at (j := m) (by rw [valsG_len]; exact hlt)
        rw [valsG_row hlt] at hc hI
        rw [worthRow_len] at hc
        have hc := (hbr.cell (p := ⟨bv, ov + m, none⟩) hbv).trans hc
        have hz1 := hz.out
        go_wp2_with fail
        go_loopw [8, 31] (fun s t wk => ∃ k : Nat, k ≤ v.length ∧ t = .int .i64 k ∧ (∃ ys q d, Hid (ys = prTo (cP v a) v.length m ++ prRow (cP v a) m k) ∧ s = .slice q (ys : List (Nat × Nat)).length d ∧ OwnP wk B1 q d ys) ∧ Below B1 w1 wk) (fun _ t _ => v.length - (intOf t).toNat)
        case atStart => exact ⟨0, Nat.zero_le _, rfl, ⟨zs, qz, dz, by unfold Hid; rw [prRow, List.append_nil]; exact hz1, rfl, hO⟩, hbr⟩
        case round =>
          clear hO hz1 hz hc hbr
          obtain ⟨k, hk, rfl, ⟨ys, qy, dy, hy, rfl, hO⟩, hbk⟩ := hrel
          have hszk := hbk.size
          rw [HB1.out] at hszk
          by_cases hkl : k < v.length
          · have hk1 : (k : Int) < v.length := by omega
            have hIk := hI.below hbk (Nat.le_of_eq HB1.out)
            obtain ⟨b2, o2, rfl, _, hc2⟩ := hIk.get (j := k) (by rw [worthRow_len]; exact hkl)
            have hc3 := hIk.at (j := m) (by rw [worthRow_len]; exact hlt)
            rw [worthRow_get hkl] at hc2
            rw [worthRow_get hlt] at hc3
            have hyl : ys.length ≤ 900000 := by
              rw [hy.out, List.length_append]
              have h1 := prTo_len (cP v a) v.length m
              have h2 := prRow_len (cP v a) m k
              have h3 : m * v.length ≤ 6 * 6 := Nat.mul_le_mul (by omega) h6
              omega
            have hP : cP v a m k = decide (worth v a m (k : Int) < worth v a m (m : Int)) := rfl
            have HR1 := Lib.hid (show cP v a m k = true → _ from fun h => prRow_yes (P := cP v a) (m := m) (k := k) h)
            have HR2 := Lib.hid (show cP v a m k = false → _ from fun h => prRow_no (P := cP v a) (m := m) (k := k) h)
            obtain ⟨y, ey⟩ : ∃ y, worth v a m (k : Int) = y := ⟨_, rfl⟩
            obtain ⟨z, ez⟩ : ∃ z, worth v a m (m : Int) = z := ⟨_, rfl⟩
            rw [ey] at hc2 hP
            rw [ez] at hc3 hP
            clear ey ez hIk
            cases hd : decide (y < z) with
            | true =>
              have HR := Lib.hid (HR1.out (hP.trans hd))
              have HO := Lib.hid hO
              clear hP hO
              go_wp2_with (at_builtin; refine wpList_appP rfl (.tmp 42) (.tmp 46) rfl B1 _ _ ys m k rfl rfl rfl HO.out hyl hszk ?_; intro p3 c3 w3 u3 hu3 hO3 hg3 hf3)
              go_roundw
              case rel => exact ⟨k + 1, by omega, by go_num, ⟨u3, _, _, by unfold Hid; rw [hu3.out, hy.out, HR.out, List.append_assoc], rfl, hO3⟩, hbk.grown hg3 hszk (fun k' e => (HO.out.lt k' e).1)⟩
              case measure => simp [intOf]; omega
            | false =>
              have HR := Lib.hid (HR2.out (hP.trans hd))
              have HO := Lib.hid hO
              clear hP hO
              go_wp2_with fail
              go_roundw
              case rel => exact ⟨k + 1, by omega, by go_num, ⟨ys, _, _, by unfold Hid; rw [hy.out, HR.out], rfl, HO.out⟩, hbk⟩
              case measure => simp [intOf]; omega
          · have hk1 : ¬ (k : Int) < v.length := by omega
            obtain rfl : k = v.length := by omega
            have HS := Lib.hid (prTo_succ (cP v a) v.length m)
            go_wp2_with fail
            go_roundw
            case rel => exact ⟨m + 1, by omega, by go_num, ⟨ys, _, _, by unfold Hid; rw [hy.out, HS.out], rfl, hO⟩, hbk⟩
            case measure => simp [intOf]; omega
      · have hm1 : ¬ (m : Int) < v.length := by omega
        obtain rfl : m = v.length := by omega
        have hzr := hz.out
        subst hzr
        have hsz := HB.out.size
        go_wp2_with fail
        go_ret2
        rw [HL.out, HF.out]
        exact ⟨qz, dz, rfl, hO.lower (by have := HB1.out; omega), HB.out.trans (hbr.mono (by have := HB1.out; omega))⟩
  · have HL := Lib.hid (envG_err (P := cP) hF)
    have hz : (chkA v a != 0) = true := by rw [bne_iff_ne]; exact hF
    clear hF
    go_wp2_with fail
    go_ret2
    rw [HL.out]
    exact ⟨none, 0, rfl, OwnP.ofNil _ _, hB⟩
end Go.Proofs.YtmcncflieoolmaaGreat
