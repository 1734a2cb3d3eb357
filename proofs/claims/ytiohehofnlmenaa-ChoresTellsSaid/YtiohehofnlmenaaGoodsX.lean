/- The walks of goods.Values and of the reference's Worth, for every goods and allocation; no condition. -/
import Derived.Test.YtiohehofnlmenaaGoodsV
import Derived.StillTailTactics
namespace Go.Proofs.Ytiohehofnlmenaa
set_option linter.unusedVariables false
set_option linter.unusedSimpArgs false
open Go.ChangeShapes Go.WideShapes Go.ChangeAt Go.RowKit Go.Deep

/-- A table, and an error. -/
def GivesV (w : World) (v : List (List Int)) (k : Int) (e : Ending) (w' : World) : Prop :=
  ∃ p c, e = .returned (.tuple #[.slice p v.length c, .int .i64 k]) ∧ Mat w' p c v ∧ Below w.heap.size w w'
theorem wpList_appRowN {w : World} {ops : Array Oper} {rest : List Oper} {o : Oper} {a : Act} {K : Exit → Act → World → Prop} (hgd : o.guard = none) (s x : Operand)
    (ho : o.op = .call { callee := .builtin .append, args := #[s, x], argTypes := #[22, 22] })
    (base : Nat) (p : Option Addr) (c : Nat) (v : List (List Int)) (Q : Nat → Option Addr) (D : Nat → Nat) (q : Option Addr) (d n : Nat) (r : List Int) (hn : r.length = n)
    (hs : a.eval s = .slice p v.length c) {B : Nat} (hx : a.eval x = .slice (some ⟨B, 0, none⟩) 1 1) (hB : w.heap.size = B) (hown : TMat w base p c v Q D) (hr : Ints w q d r) (hsep : 0 < r.length → ∀ k, blk q = some k → blk p ≠ some k)
    (hsz : v.length ≤ 900000) (hbase : base ≤ w.heap.size)
    (h : ∀ p' c' w' u, Hid (u = v ++ [r]) → TMat w' base p' c' u (fun j => if j < v.length then Q j else q) (fun j => if j < v.length then D j else d) → w.grownBy w' (blk p) → Fresh w p p' →
      wpList Try.prog ops K rest (a.put o.dst (.slice p' u.length c')) w') :
    wpList Try.prog ops K (o :: rest) a (w.alloc (.cells #[.slice q n d] 25)) := by
  subst hn
  exact wpList_appRow hgd s x ho base p c v Q D q d r hs hx hB hown hr hsep hsz hbase h

set_option maxHeartbeats 8000000 in
set_option maxRecDepth 100000 in
theorem goodsValues_any (p : Option Addr) (c : Nat) (v : List (List Int)) (q : Option Addr) (d : Nat) (a : List Int) (w : World) (hx : Mat w p c v) (hi : Ints w q d a) :
    Calls Try.prog 40 #[.agg #[.slice p v.length c], .slice q a.length d] w (GivesV w (valsL v a) (chkA v a)) := by
  obtain ⟨W0, hW0⟩ : ∃ W0, w.alloc (.cells #[.slice p v.length c] 24) = W0 := ⟨_, rfl⟩
  have hB : Below w.heap.size w W0 := below_alloc hW0
  have bX : BoxV W0 w.heap.size [.slice p v.length c] := BoxV.new rfl hW0
  have hx := hx.below hB (Nat.le_refl _)
  have hi := hi.below hB (Nat.le_refl _)
  have x0 := bX.cell 0 _ rfl
  have HW0 := Lib.hid hW0
  clear hW0
  have hl1 := hx.length_le
  have hl2 := hi.length_le
  go_enter Try.func40, Try.ntmps40
  go_wp2_with fail
  rw [HW0.out]
  refine (goodsValid_any p c v q d a _ hx hi).mono ?_
  rintro e w1 ⟨rfl, hb1⟩
  have hx := hx.below hb1 (Nat.le_refl _)
  have hi := hi.below hb1 (Nat.le_refl _)
  have bX := bX.below hb1
  have x0 := bX.cell 0 _ rfl
  have hB := hB.trans (hb1.mono hB.size)
  by_cases hF : chkA v a = 0
  · have HL := Lib.hid (valsL_ok hF)
    have HF := Lib.hid hF
    rw [hF]
    obtain ⟨hg, ha⟩ := chkA_zero.1 hF
    have h0 : 0 < v.length := hg.1
    have h6 := hg.2.1
    obtain ⟨b, o, rfl, _, q0, d0, hc0, hi0⟩ := hx.get h0
    clear hc0 hi0
    obtain ⟨B1, hB1⟩ : ∃ B1, w1.heap.size = B1 := ⟨_, rfl⟩
    have Hg := Lib.hid hg
    have Ha := Lib.hid ha
    have HB1 := Lib.hid hB1
    have HB := Lib.hid hB
    clear hg ha hF hb1 hB hB1
    go_wp2_with fail
    go_loopw [7, 22] (fun s t wr => ∃ k : Nat, k ≤ v.length ∧ t = .int .i64 k ∧ (∃ u p' c' Q D, Hid (u = (valsG v a).take k) ∧ s = .slice p' (u : List (List Int)).length c' ∧ TMat wr B1 p' c' u Q D) ∧ Below B1 w1 wr) (fun _ t _ => v.length - (intOf t).toNat)
    case atStart => exact ⟨0, Nat.zero_le _, rfl, ⟨[], none, 0, fun _ => none, fun _ => 0, rfl, rfl, TMat.ofNil _ _⟩, Below.refl _ _⟩
    case round =>
      obtain ⟨k, hk, rfl, ⟨u, p', c', Q, D, hu, rfl, hT⟩, hbr⟩ := hrel
      have x0 := (bX.below (by rw [HB1.out]; exact hbr)).cell 0 _ rfl
      by_cases hlt : k < v.length
      · have hk1 : (k : Int) < v.length := by omega
        obtain ⟨qk, dk, hc, hik⟩ := (hx.below hbr (Nat.le_of_eq HB1.out)).at hlt
        have hir := hi.below hbr (Nat.le_of_eq HB1.out)
        obtain ⟨B2, hB2⟩ : ∃ B2, wr.heap.size = B2 := ⟨_, rfl⟩
        have hszo : B1 ≤ B2 := by have := hbr.size; have := HB1.out; omega
        have HB2 := Lib.hid hB2
        have hx0 : w.heap.size < B2 := by have := bX.lt; have := HB1.out; omega
        have hkl := Lib.hid ((Hg.out.2.2.2 k hlt).1.trans Ha.out.1.symm)
        clear hB2
        go_wp2_with (at_make; refine wpList_mk rfl (.tmp 28) (.tmp 28) rfl B2 v.length rfl rfl (by omega) (Nat.le_of_eq HB2.out.symm) ?_; intro w2 hO2 hg2 hs2)
        have hb2 : Below B2 wr w2 := Below.grown (Below.refl B2 wr) hg2 (Nat.le_of_eq HB2.out.symm) (fun k e => (by cases e))
        have hik2 := hik.below hb2 (Nat.le_of_eq HB2.out)
        have hir2 := hir.below hb2 (Nat.le_of_eq HB2.out)
        rw [HB2.out] at hO2 ⊢
        go_loopw [32] (fun t wj => ∃ m : Nat, m ≤ a.length ∧ t = .int .i64 m ∧ Own wj B2 (some ⟨B2, 0, none⟩) v.length (rowUp v a k m) ∧ Below B2 wr wj) (fun t _ => a.length - (intOf t).toNat)
        case atStart => exact ⟨0, Nat.zero_le _, rfl, by rw [rowUp_zero]; exact hO2, hb2⟩
        case round =>
          obtain ⟨m, hm, rfl, hO, hbj⟩ := hrel
          by_cases hml : m < a.length
          · have hm1 : (m : Int) < a.length := by omega
            have hm2 : (m : Int) < (rget v k).length := by have := hkl.out; omega
            obtain ⟨b2, o2, rfl, _, hc2⟩ := (hir.below hbj (Nat.le_of_eq HB2.out)).get hml
            obtain ⟨b3, o3, rfl, _, hc3⟩ := (hik.below hbj (Nat.le_of_eq HB2.out)).get (j := m) (by omega)
            have hr2 := (Hg.out.2.2.2 k hlt).2 m (by omega)
            have hal := Ha.out.2 m hml
            by_cases hneg : iget a m < 0
            · have hd : decide (0 ≤ iget a m) = false := by simpa using hneg
              have Hst := Lib.hid (rowUp_none (v := v) (i := k) hneg)
              have HO := Lib.hid hO
              clear hneg hO
              go_wp2_with fail
              go_roundw
              case rel => exact ⟨m + 1, by omega, by go_num, by rw [Hst.out]; exact HO.out, hbj⟩
              case measure => simp [intOf]; omega
            · have hd : decide (0 ≤ iget a m) = true := by simpa using hneg
              obtain ⟨x, hxx⟩ : ∃ x : Nat, iget a m = (x : Int) := ⟨(iget a m).toNat, by omega⟩
              have hxl : x < v.length := by omega
              have hx1 : (x : Int) < v.length := by omega
              have Hst := Lib.hid (rowUp_set (v := v) (i := k) hxx hxl)
              have hc4 := hO.at (j := x) (by rw [rowUp_len]; exact hxl)
              have hr1 := worthUp_in Hg.out hlt (x : Int) m (by have := Ha.out.1; omega) (a := a)
              rw [← rowUp_get hxl] at hr1
              have hfz := hO.free x
              rw [hxx] at hc2 hd
              have hmm : m ≤ 10 := by have := Ha.out.1; have := Hg.out.2.2.1; omega
              obtain ⟨y1, e1⟩ : ∃ y, iget (rowUp v a k m) x = y := ⟨_, rfl⟩
              obtain ⟨y2, e2⟩ : ∃ y, iget (rget v k) m = y := ⟨_, rfl⟩
              rw [e1] at hc4 hr1 Hst
              rw [e2] at hc3 hr2 Hst
              clear e1 e2 hxx hal hneg
              have hin : in64 (y1 + y2) := ⟨by omega, by omega⟩
              have HO := Lib.hid hO
              clear hO
              go_wp2_with fail
              go_still_tail 10, (by kernel_rfl)
              go_wp2_with fail
              go_roundw
              case rel => exact ⟨m + 1, by omega, by go_num, by rw [Hst.out]; exact (HO.out.set x hin).1.drew1, (hbj.setCell (p := ⟨B2, x, none⟩) (Nat.le_refl _) _).drew⟩
              case measure => simp [intOf]; omega
          · have hm1 : ¬ (m : Int) < a.length := by omega
            obtain rfl : m = a.length := by omega
            have hw2 : rowUp v a k a.length = worthRow v a k := rfl
            rw [hw2] at hO
            have hul : u.length ≤ 900000 := by rw [hu.out, List.length_take, valsG_len]; omega
            have hszj := hbj.size
            rw [HB2.out] at hszj
            have hT2 := hT.below hbj (Nat.le_of_eq HB2.out)
            have hsep : 0 < (worthRow v a k).length → ∀ k', blk (some ⟨B2, 0, none⟩) = some k' → blk p' ≠ some k' := fun _ k' e1 e2 => by
              have h1 := (hT.lt k' e2).2
              have h2 := HB2.out
              simp [blk] at e1
              omega
            have Hsep := Lib.hid hsep
            clear hsep
            go_wp2_with (at_builtin; refine wpList_appRowN rfl (.tmp 50) (.tmp 52) rfl B1 _ _ u Q D (some ⟨B2, 0, none⟩) v.length v.length (worthRow v a k) (worthRow_len v a k) rfl rfl rfl hT2 hO.ints Hsep.out hul (by omega) ?_; intro p3 c3 w3 u3 hu3 hT3 hg3 hf3)
            go_roundw
            case rel => exact ⟨k + 1, by omega, by go_num, ⟨u3, _, _, _, _, by unfold Hid; rw [hu3.out, hu.out, valsG_take hlt], rfl, hT3⟩, (hbr.trans (hbj.mono hszo)).grown hg3 (by omega) (fun k' e => (hT2.lt k' e).1)⟩
            case measure => simp [intOf]; omega
      · have hk1 : ¬ (k : Int) < v.length := by omega
        obtain rfl : k = v.length := by omega
        have hul : u = valsG v a := by rw [hu.out, List.take_of_length_le (by rw [valsG_len]; exact Nat.le_refl _)]
        subst hul
        go_wp2_with fail
        go_ret2
        rw [HL.out, HF.out]
        exact ⟨_, _, rfl, hT.mat, HB.out.trans (hbr.mono (by have := HB.out.size; have := HB1.out; omega))⟩
  · have HL := Lib.hid (valsL_err hF)
    have hz : (chkA v a != 0) = true := by rw [bne_iff_ne]; exact hF
    clear hF
    go_wp2_with fail
    go_ret2
    rw [HL.out]
    exact ⟨none, 0, rfl, Mat.ofNil _, hB⟩

set_option maxHeartbeats 4000000 in
theorem worth_any (p : Option Addr) (c : Nat) (v : List (List Int)) (q : Option Addr) (d : Nat) (a : List Int) (i : Nat) (x : Int) (w : World) (hx : Mat w p c v) (hi : Ints w q d a) (hg : Gds v) (ha : AlcOk v a) (hiv : i < v.length) :
    Calls Try.prog 42 #[.agg #[.slice p v.length c], .slice q a.length d, .int .i64 i, .int .i64 x] w fun e w' => e = .returned (.int .i64 (worth v a i x)) ∧ Below w.heap.size w w' := by
  obtain ⟨W0, hW0⟩ : ∃ W0, w.alloc (.cells #[.slice p v.length c] 24) = W0 := ⟨_, rfl⟩
  have hB : Below w.heap.size w W0 := below_alloc hW0
  have bX : BoxV W0 w.heap.size [.slice p v.length c] := BoxV.new rfl hW0
  have hx := hx.below hB (Nat.le_refl _)
  have hi := hi.below hB (Nat.le_refl _)
  have x0 := bX.cell 0 _ rfl
  have HW0 := Lib.hid hW0
  clear hW0
  have hl1 := hx.length_le
  have hl2 := hi.length_le
  have h10 : a.length ≤ 10 := by have := ha.1; have := hg.2.2.1; omega
  have hrl := Lib.hid ((hg.2.2.2 i hiv).1.trans ha.1.symm)
  obtain ⟨b, o, rfl, _, q0, d0, hc0, hi0⟩ := hx.get hiv
  have hi1 : (i : Int) < v.length := by omega
  have Hg := Lib.hid hg
  have Ha := Lib.hid ha
  clear hg ha
  go_enter Try.func42, Try.ntmps42
  go_wp2_with fail
  rw [HW0.out]
  go_loop [9, 10] (fun s t => ∃ k : Nat, k ≤ a.length ∧ t = .int .i64 k ∧ s = .int .i64 (worthUp v a i x k)) (fun _ t => a.length - (intOf t).toNat)
  case atStart => exact ⟨0, Nat.zero_le _, rfl, rfl⟩
  case round =>
    obtain ⟨k, hk, rfl, rfl⟩ := hrel
    by_cases hlt : k < a.length
    · have hk1 : (k : Int) < a.length := by omega
      obtain ⟨b2, o2, rfl, _, hc2⟩ := hi.get hlt
      obtain ⟨b3, o3, rfl, _, hc3⟩ := hi0.get (j := k) (by have := hrl.out; omega)
      have hk2 : (k : Int) < (rget v i).length := by have := hrl.out; omega
      have hr1 := worthUp_in Hg.out hiv x k (by have := Ha.out.1; omega) (a := a)
      have hr2 := (Hg.out.2.2.2 i hiv).2 k (by omega)
      by_cases he : iget a k = x
      · have hb : (iget a k == x) = true := by simpa using he
        have Hst := Lib.hid (worthUp_eq (v := v) (i := i) he)
        clear he
        generalize worthUp v a i x k = y at *
        go_wp2_with fail
        go_round
        case rel => exact ⟨k + 1, by omega, by go_num, by rw [Hst.out]⟩
        case measure => simp [intOf]; omega
      · have hb : (iget a k == x) = false := by simpa using he
        have Hst := Lib.hid (worthUp_ne (v := v) (i := i) he)
        clear he
        go_wp2_with fail
        go_round
        case rel => exact ⟨k + 1, by omega, by go_num, by rw [Hst.out]⟩
        case measure => simp [intOf]; omega
    · have hk1 : ¬ (k : Int) < a.length := by omega
      obtain rfl : k = a.length := by omega
      go_wp2_with fail
      go_ret
      exact ⟨rfl, hB⟩
end Go.Proofs.Ytiohehofnlmenaa
