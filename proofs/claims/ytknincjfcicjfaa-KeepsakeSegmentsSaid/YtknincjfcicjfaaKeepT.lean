/- The walks of Turns (the program's and the reference's), for every allocation, list and rankings; no condition but sizes. -/
import Derived.Test.YtknincjfcicjfaaKeepQ
import Derived.Test.YtknincjfcicjfaaClone
import Derived.StillTailTactics
namespace Go.Proofs.Ytknincjfcicjfaa
set_option linter.unusedVariables false
set_option linter.unusedSimpArgs false
open Go.ChangeShapes Go.WideShapes Go.ChangeAt Go.RowKit Go.Deep

/-- What Turns answers. -/
def trnE (a o : List Int) (v : List (List Int)) : Int := if Lkd a v then if IsA o v.length then 0 else 2 else lkdI a v
def trnsL (a o : List Int) (v : List (List Int)) : List Int := if Lkd a v ∧ IsA o v.length then trnL a o v else []
theorem enter_turns1 (args : Array Value) (W : World) : (callFunc 38 args).run Try.prog W = .ok (.enter 38 args) W := by kernel_rfl
theorem turns1_any (x : Nat) (B : Nat) (q : Option Addr) (d : Nat) (out : List Int) (W : World) (hc : W.cell? ⟨B, 0, none⟩ = some (.slice q out.length d)) (hI : Ints W q d out) (hx : x < out.length) :
    Calls Try.prog 38 #[.int .i64 (x : Int), .pointer (some ⟨B, 0, none⟩)] W fun e w' => e = .returned (.bool (decide (iget out x < 0))) ∧ w' = W := by
  have hl := hI.length_le
  obtain ⟨b, o, rfl, _, h⟩ := hI.get hx
  have hx1 : (x : Int) < out.length := by omega
  go_enter Try.func38, Try.ntmps38
  go_wp2_with fail
  go_ret
  exact ⟨rfl, rfl⟩
set_option maxHeartbeats 4000000 in
set_option maxRecDepth 100000 in
theorem keepTurns_any (pa : Option Addr) (ca : Nat) (a : List Int) (po : Option Addr) (co : Nat) (o : List Int) (p : Option Addr) (c : Nat) (v : List (List Int)) (w : World) (ha : Ints w pa ca a) (ho : Ints w po co o) (hx : Mat w p c v)
    (hrl : Hid (∀ i, i < v.length → (rget v i).length ≤ 1000000)) (hol : o.length ≤ 1000000) :
    Calls Try.prog 18 #[.slice pa a.length ca, .slice po o.length co, .slice p v.length c] w (Gives2 w (trnsL a o v) (trnE a o v)) := by
  have hla := ha.length_le
  have hlo := ho.length_le
  have hlv := hx.length_le
  have hC := looked_any pa ca a p c v w ha hx hrl
  by_cases hN : ¬ Lkd a v
  · have h0 : lkdI a v ≠ 0 := fun h => hN (lkdI_zero.1 h)
    have hL : Hid (trnsL a o v = []) := by unfold Hid trnsL; rw [if_neg (fun h => hN h.1)]
    have hE : trnE a o v = lkdI a v := by unfold trnE; rw [if_neg hN]
    rw [hE]
    obtain ⟨k, hk⟩ : ∃ k, lkdI a v = k := ⟨_, rfl⟩
    rw [hk] at hC h0 ⊢
    have hd : (k != 0) = true := by rw [bne_iff_ne]; exact h0
    have HC := Lib.hid hC
    clear hC hN h0 hk hE
    go_enter Try.func18, Try.ntmps18
    go_wp2_with fail
    refine HC.out.mono ?_
    rintro e w2 ⟨rfl, hb⟩
    go_wp2_with fail
    go_ret2
    unfold Gives2
    rw [hL.out]
    exact ⟨none, 0, rfl, Own.ofNil _ _, hb⟩
  have hM := Classical.not_not.1 hN
  rw [lkdI_zero.2 hM] at hC
  have HC := Lib.hid hC
  have HO := Lib.hid (fun W (h : Ints W po co o) => isOrder_any po co o v.length W hlv h hol)
  clear hC hN
  by_cases hAN : ¬ IsA o v.length
  · have hL : Hid (trnsL a o v = []) := by unfold Hid trnsL; rw [if_neg (fun h => hAN h.2)]
    have hE : trnE a o v = 2 := by unfold trnE; rw [if_pos hM, if_neg hAN]
    have hF := kAB_false hAN
    rw [hE]
    rw [hF] at HO
    clear hAN hM hE hF
    go_enter Try.func18, Try.ntmps18
    go_wp2_with fail
    refine HC.out.mono ?_
    rintro e w2 ⟨rfl, hb⟩
    go_wp2_with fail
    refine (HO.out _ (ho.below hb (Nat.le_refl _))).mono ?_
    rintro e w3 ⟨rfl, hb3⟩
    go_wp2_with fail
    go_ret2
    unfold Gives2
    rw [hL.out]
    exact ⟨none, 0, rfl, Own.ofNil _ _, hb.trans (hb3.mono hb.size)⟩
  have hA := Classical.not_not.1 hAN
  have hL : Hid (trnsL a o v = trnL a o v) := by unfold Hid trnsL; rw [if_pos ⟨hM, hA⟩]
  have hE : trnE a o v = 0 := by unfold trnE; rw [if_pos hM, if_pos hA]
  have hT := kAB_true hA
  rw [hE]
  rw [hT] at HO
  have hnl : nLeft a ≤ a.length := nLeft_le a
  have ha30 : a.length ≤ 30 := hM.2.1
  have hv6 : v.length ≤ 6 := hM.1
  have hv0 : 0 < v.length := hM.2.2.1
  have Hol := Lib.hid hA.1
  have Hlen := Lib.hid (fun t => trnTo_len a o v t)
  have Hhas := Lib.hid (fun t (h : t ≤ nLeft a) => trnTo_has hM hA h)
  have Hat := Lib.hid (fun t => turn_at hA hv0 t)
  have Hfav := Lib.hid (fun t i (hi : i < v.length) hm => goodK_some hM (trnTo_good hM hA t) (i := i) hi hm)
  have Hrk := Lib.hid (fun i (hi : i < v.length) j (hj : j < (rget v i).length) => isA_lt (hM.2.2.2.1 i hi) j (by rw [← (hM.2.2.2.1 i hi).1]; exact hj))
  have Hst : Hid (∀ t, trnTo a o v (t + 1) = takeK (trnTo a o v t) (rget v (itm o (t % o.length))) (iget o (t % o.length))) := fun _ => rfl
  have H0 : Hid (trnTo a o v 0 = a) := rfl
  have hol0 : 0 < o.length := by rw [hA.1]; exact hv0
  clear hM hA hAN hE hT
  go_enter Try.func18, Try.ntmps18
  go_wp2_with fail
  refine HC.out.mono ?_
  rintro e w2 ⟨rfl, hb⟩
  go_wp2_with fail
  refine (HO.out _ (ho.below hb (Nat.le_refl _))).mono ?_
  rintro e w3 ⟨rfl, hb3⟩
  have hB3 := hb.trans (hb3.mono hb.size)
  clear hb hb3
  go_wp2_with fail
  refine (clone_any pa ca a w3 (ha.below hB3 (Nat.le_refl _)) (by omega)).mono ?_
  rintro e w4 ⟨p4, c4, rfl, hO4, hb4⟩
  have hB4 := hB3.trans (hb4.mono hB3.size)
  replace hO4 := hO4.lower hB3.size
  obtain ⟨W5, hW5⟩ : ∃ W, w4.alloc (.cells #[.slice p4 a.length c4] 23) = W := ⟨_, rfl⟩
  have hB5 := below_alloc hW5
  have b9 : BoxV W5 w4.heap.size [.slice p4 a.length c4] := BoxV.new rfl hW5
  have hO5 := hO4.below hB5 (Nat.le_refl _)
  have hBw : Below w.heap.size w W5 := hB4.trans (hB5.mono hB4.size)
  have k9 := b9.cell 0 _ rfl
  have l9 := b9.lt
  have hne9 : blk p4 ≠ some w4.heap.size := fun e => by have := (hO4.lt _ e).2; omega
  have HW5 := Lib.hid hW5
  clear hW5 hB3 hb4 hB4 hO4 hB5 b9
  go_upto_region 7 with fail
  rw [HW5.out]
  go_wp2_with fail
  go_loopw [10] (fun s wr => ∃ t : Nat, t ≤ nLeft a ∧ s = .int .i64 t ∧ Own wr w.heap.size p4 c4 (trnTo a o v t) ∧ wr.cell? ⟨w4.heap.size, 0, none⟩ = some (.slice p4 a.length c4) ∧ w4.heap.size < wr.heap.size ∧ Below w.heap.size w wr) (fun s _ => nLeft a - (intOf s).toNat)
  case atStart => exact ⟨0, Nat.zero_le _, rfl, by rw [H0.out]; exact hO5, k9, l9, hBw⟩
  case round =>
    clear hO5 k9 l9 hBw
    obtain ⟨t, ht, rfl, hO, k9, l9, hBr⟩ := hrel
    have hI := hO.ints
    have hlt := Hlen.out t
    obtain ⟨out, hout⟩ : ∃ l, trnTo a o v t = l := ⟨_, rfl⟩
    rw [hout] at hI hO hlt
    have hCon := contains_any p4 c4 out (-1) wr hI
    rw [hlt] at hCon
    have hhas := Hhas.out t ht
    rw [hout] at hhas
    have hHst := Hst.out t
    rw [hout] at hHst
    have Hlt := Lib.hid hlt
    rw [hhas] at hCon
    by_cases hmore : t < nLeft a
    · rw [decide_eq_true hmore] at hCon hhas
      have HCon := Lib.hid hCon
      obtain ⟨i, hi1, hi2, hi3⟩ := Hat.out t
      have hfav := Hfav.out t i hi2 (by rw [hout]; unfold hasB at hhas; simpa using hhas)
      rw [hout] at hfav
      obtain ⟨k, hk1, hk2, hk3, hk4, hk5, hk6, _⟩ := hfav
      have hio : itm o (t % o.length) = i := by unfold itm; rw [hi1]; simp
      rw [hio, hi1, takeK, hk2] at hHst
      have HHst := Lib.hid hHst
      obtain ⟨bo, oo, rfl, _, hco⟩ := (ho.below hBr (Nat.le_refl _)).get hi3
      rw [hi1] at hco
      obtain ⟨m, hm⟩ : ∃ m, t % o.length = m := ⟨_, rfl⟩
      rw [hm] at hco hi3
      have hmod : (t : Int) % (o.length : Int) = (m : Int) := by rw [← hm]; simp [Int.natCast_emod]
      have hmod2 : (t : Int).tmod (o.length : Int) = (m : Int) := by rw [Int.tmod_eq_emod_of_nonneg (by omega), hmod]
      have hm1 : (m : Int) < o.length := by omega
      have hl0 : ((o.length : Int) == 0) = false := by rw [beq_eq_false_iff_ne]; omega
      obtain ⟨bv, ov, rfl, _, q, d, hcr, hIr⟩ := (hx.below hBr (Nat.le_refl _)).get hi2
      have hi2' : (i : Int) < v.length := by omega
      obtain ⟨rl, hrl2⟩ : ∃ l, rget v i = l := ⟨_, rfl⟩
      have hrk := Hrk.out i hi2
      rw [hrl2] at hcr hIr hk1 hk3 hk4 hk5 hrk HHst
      have hIF := indexFunc1_any 38 (.pointer (some ⟨w4.heap.size, 0, none⟩)) (isLeft out rl) (fun W => W = wr) enter_turns1 q d rl wr rfl (Lib.hid fun W h => h ▸ hIr) (fun j W hj hW => by
        subst hW
        have h1 := hrk j hj
        have h2 : iget rl j = ((itm rl j : Nat) : Int) := by unfold itm; omega
        rw [h2]
        exact turns1_any (itm rl j) w4.heap.size p4 c4 out _ (by rw [Hlt.out]; exact k9) hI (by rw [Hlt.out]; exact h1.2))
      rw [hk1] at hIF
      have HIF := Lib.hid hIF
      obtain ⟨x, hxx⟩ : ∃ x, itm rl k = x := ⟨_, rfl⟩
      rw [hxx] at hk4 hk5 HHst
      obtain ⟨b6, o6, rfl, _, hc6⟩ := hIr.get hk3
      rw [hk5] at hc6
      have hk3' : (k : Int) < rl.length := by omega
      obtain ⟨g, rfl, hg1, hg2, hcx, hfx⟩ := hO.get hk4
      have hgne : g ≠ w4.heap.size := fun e => hne9 (by rw [← e]; rfl)
      have hxa : (x : Int) < a.length := by rw [← Hlt.out]; omega
      have HO2 := Lib.hid hO
      clear hout hlt hhas hCon hHst hi1 hio hm hrl2 hIF hxx hk1 hk2 hk5 hk6 hrk hO hIr hI
      go_wp2_with fail
      refine HCon.out.mono ?_
      rintro e w6 ⟨rfl, rfl⟩
      go_wp2_with fail
      refine HIF.out.mono ?_
      rintro e w7 ⟨rfl, rfl⟩
      go_wp2_with fail
      go_still_tail 10, (by kernel_rfl)
      go_wp2_with fail
      go_roundw
      case rel => exact ⟨t + 1, by omega, by go_num, by rw [HHst.out]; exact ((HO2.out.set x (x := (i : Int)) ⟨by omega, by omega⟩).1).drew1, (World.cell?_setCell_far _ ⟨g, x, none⟩ ⟨w4.heap.size, 0, none⟩ _ hgne).trans k9, by simpa using l9, (hBr.setCell (p := ⟨g, x, none⟩) hg1 _).drew⟩
      case measure => (simp [intOf] <;> omega)
    · rw [decide_eq_false hmore] at hCon
      have HCon := Lib.hid hCon
      obtain rfl : t = nLeft a := by omega
      have HL2 : Hid (trnL a o v = out) := by unfold Hid trnL; exact hout
      clear hout hlt hhas hCon hHst
      go_wp2_with fail
      refine HCon.out.mono ?_
      rintro e w6 ⟨rfl, rfl⟩
      go_wp2_with fail
      go_ret2
      unfold Gives2
      rw [hL.out, HL2.out, Hlt.out]
      exact ⟨p4, c4, rfl, hO, hBr⟩
theorem app0_below {w w' : World} (hg : (w.alloc (.cells #[] 3)).grownBy w' (some w.heap.size)) : Below w.heap.size w w' :=
  ((Below.refl w.heap.size w).alloc (Nat.le_refl _) _).grown hg (by simp) (fun k e => by cases e; exact Nat.le_refl _)
set_option maxHeartbeats 4000000 in
set_option maxRecDepth 100000 in
theorem ref29Turns_any (pa : Option Addr) (ca : Nat) (a : List Int) (po : Option Addr) (co : Nat) (o : List Int) (p : Option Addr) (c : Nat) (v : List (List Int)) (w : World) (ha : Ints w pa ca a) (ho : Ints w po co o) (hx : Mat w p c v) :
    Calls Try.prog 19 #[.slice pa a.length ca, .slice po o.length co, .slice p v.length c] w (Gives2 w (trnsL a o v) (trnE a o v)) := by
  have hla := ha.length_le
  have hlo := ho.length_le
  have hlv := hx.length_le
  have hC := fun W h1 h2 => ref29Looked_any pa ca a p c v W (h1 : Ints W pa ca a) (h2 : Mat W p c v)
  by_cases hN : ¬ Lkd a v
  · have h0 : lkdI a v ≠ 0 := fun h => hN (lkdI_zero.1 h)
    have hL : Hid (trnsL a o v = []) := by unfold Hid trnsL; rw [if_neg (fun h => hN h.1)]
    have hE : trnE a o v = lkdI a v := by unfold trnE; rw [if_neg hN]
    rw [hE]
    obtain ⟨k, hk⟩ : ∃ k, lkdI a v = k := ⟨_, rfl⟩
    rw [hk] at hC h0 ⊢
    have hd : (k != 0) = true := by rw [bne_iff_ne]; exact h0
    have HC := Lib.hid hC
    clear hC hN h0 hk hE
    go_enter Try.func19, Try.ntmps19
    go_wp2_with fail
    refine (HC.out _ ha hx).mono ?_
    rintro e w2 ⟨rfl, n2, rfl⟩
    go_wp2_with fail
    refine (HC.out _ (ha.drewN _) (hx.drewN _)).mono ?_
    rintro e w3 ⟨rfl, n3, rfl⟩
    go_wp2_with fail
    go_ret2
    unfold Gives2
    rw [hL.out]
    exact ⟨none, 0, rfl, Own.ofNil _ _, below_drewN _ _ _⟩
  have hM := Classical.not_not.1 hN
  rw [lkdI_zero.2 hM] at hC
  have HC := Lib.hid hC
  have HO := Lib.hid (fun W (h : Ints W po co o) => order29_any po co o v.length W hlv h)
  clear hC hN
  by_cases hAN : ¬ IsA o v.length
  · have hL : Hid (trnsL a o v = []) := by unfold Hid trnsL; rw [if_neg (fun h => hAN h.2)]
    have hE : trnE a o v = 2 := by unfold trnE; rw [if_pos hM, if_neg hAN]
    have hF := kAB_false hAN
    rw [hE]
    rw [hF] at HO
    clear hAN hM hE hF
    go_enter Try.func19, Try.ntmps19
    go_wp2_with fail
    refine (HC.out _ ha hx).mono ?_
    rintro e w2 ⟨rfl, n2, rfl⟩
    go_wp2_with fail
    refine (HO.out _ (ho.drewN _)).mono ?_
    rintro e w3 ⟨rfl, rfl⟩
    go_wp2_with fail
    go_ret2
    unfold Gives2
    rw [hL.out]
    exact ⟨none, 0, rfl, Own.ofNil _ _, below_drewN _ _ _⟩
  have hA := Classical.not_not.1 hAN
  have hL : Hid (trnsL a o v = trnL a o v) := by unfold Hid trnsL; rw [if_pos ⟨hM, hA⟩]
  have hE : trnE a o v = 0 := by unfold trnE; rw [if_pos hM, if_pos hA]
  have hT := kAB_true hA
  rw [hE]
  rw [hT] at HO
  have hnl : nLeft a ≤ a.length := nLeft_le a
  have ha30 : a.length ≤ 30 := hM.2.1
  have hv6 : v.length ≤ 6 := hM.1
  have hv0 : 0 < v.length := hM.2.2.1
  have Hlen := Lib.hid (fun t => trnTo_len a o v t)
  have Hhas := Lib.hid (fun t (h : t ≤ nLeft a) => trnTo_has hM hA h)
  have Hat := Lib.hid (fun t => turn_at hA hv0 t)
  have Hfav := Lib.hid (fun t i (hi : i < v.length) hm => goodK_some hM (trnTo_good hM hA t) (i := i) hi hm)
  have Hrk := Lib.hid (fun i (hi : i < v.length) j (hj : j < a.length) => isA_lt (hM.2.2.2.1 i hi) j hj)
  have Hrl := Lib.hid (fun i (hi : i < v.length) => (hM.2.2.2.1 i hi).1)
  have Hst : Hid (∀ t, trnTo a o v (t + 1) = takeK (trnTo a o v t) (rget v (itm o (t % o.length))) (iget o (t % o.length))) := fun _ => rfl
  have H0 : Hid (trnTo a o v 0 = a) := rfl
  have hol0 : 0 < o.length := by rw [hA.1]; exact hv0
  clear hM hA hAN hE hT
  go_enter Try.func19, Try.ntmps19
  go_wp2_with fail
  refine (HC.out _ ha hx).mono ?_
  rintro e w2 ⟨rfl, n2, rfl⟩
  go_wp2_with fail
  refine (HO.out _ (ho.drewN _)).mono ?_
  rintro e w3 ⟨rfl, rfl⟩
  obtain ⟨W3, hW3⟩ : ∃ W, w.drewN n2 = W := ⟨_, rfl⟩
  have hB3 : Below w.heap.size w W3 := by rw [← hW3]; exact below_drewN _ _ _
  have hsz3 : w.heap.size ≤ W3.heap.size := hB3.size
  rw [hW3]
  clear hW3
  have ha3 := ha.below hB3 (Nat.le_refl _)
  go_wp2_with (at_builtin; refine wpList_app rfl (.tmp 24) (.tmp 25) rfl W3.heap.size _ _ _ _ [] a rfl rfl (Own.made _ _ (Nat.le_refl _)) (ha3.below ((Below.refl _ _).alloc (Nat.le_refl _) _) (Nat.le_refl _)) (by simp; omega) (by simp) ?_; intro p4 c4 w4 zs hz hO4 hg hf)
  obtain rfl : zs = a := hz.out
  have hB4 : Below w.heap.size w w4 := hB3.trans ((app0_below hg).mono (by omega))
  replace hO4 := hO4.lower (show w.heap.size ≤ W3.heap.size by omega)
  clear hz hf hg ha3 hB3
  go_wp2_with fail
  go_loopw [9] (fun s wr => ∃ t : Nat, t ≤ nLeft zs ∧ s = .int .i64 t ∧ Own wr w.heap.size p4 c4 (trnTo zs o v t) ∧ Below w.heap.size w wr) (fun s _ => nLeft zs - (intOf s).toNat)
  case atStart => exact ⟨0, Nat.zero_le _, rfl, by rw [H0.out]; exact hO4, hB4⟩
  case round =>
    clear hO4 hB4
    obtain ⟨t, ht, rfl, hO, hBr⟩ := hrel
    obtain ⟨wo, rfl⟩ : ∃ wo : World, wo = wr := ⟨_, rfl⟩
    have hI := hO.ints
    have hlt := Hlen.out t
    obtain ⟨out, hout⟩ : ∃ l, trnTo zs o v t = l := ⟨_, rfl⟩
    rw [hout] at hI hO hlt
    have hCon := has29_any p4 c4 out (-1) wo hI
    rw [hlt] at hCon
    have hhas := Hhas.out t ht
    rw [hout] at hhas
    have hHst := Hst.out t
    rw [hout] at hHst
    have Hlt := Lib.hid hlt
    rw [hhas] at hCon
    by_cases hmore : t < nLeft zs
    · rw [decide_eq_true hmore] at hCon hhas
      have HCon := Lib.hid hCon
      obtain ⟨i, hi1, hi2, hi3⟩ := Hat.out t
      have hfav := Hfav.out t i hi2 (by rw [hout]; unfold hasB at hhas; simpa using hhas)
      rw [hout] at hfav
      obtain ⟨k, hk1, hk2, hk3, hk4, hk5, hk6, hk7⟩ := hfav
      have hio : itm o (t % o.length) = i := by unfold itm; rw [hi1]; simp
      rw [hio, hi1, takeK, hk2] at hHst
      have HHst := Lib.hid hHst
      obtain ⟨bo, oo, rfl, _, hco⟩ := (ho.below hBr (Nat.le_refl _)).get hi3
      rw [hi1] at hco
      obtain ⟨m, hm⟩ : ∃ m, t % o.length = m := ⟨_, rfl⟩
      rw [hm] at hco hi3
      have hmod : (t : Int) % (o.length : Int) = (m : Int) := by rw [← hm]; simp [Int.natCast_emod]
      have hmod2 : (t : Int).tmod (o.length : Int) = (m : Int) := by rw [Int.tmod_eq_emod_of_nonneg (by omega), hmod]
      have hm1 : (m : Int) < o.length := by omega
      have hl0 : ((o.length : Int) == 0) = false := by rw [beq_eq_false_iff_ne]; omega
      obtain ⟨bv, ov, rfl, _, q, d, hcr, hIr⟩ := (hx.below hBr (Nat.le_refl _)).get hi2
      have hi2' : (i : Int) < v.length := by omega
      obtain ⟨rl, hrl2⟩ : ∃ l, rget v i = l := ⟨_, rfl⟩
      have hrk := Hrk.out i hi2
      have hrle := Hrl.out i hi2
      rw [hrl2] at hcr hIr hk3 hk4 hk5 hk6 hk7 hrk HHst hrle
      rw [hrle] at hk3
      have Hrle := Lib.hid hrle
      have Hk6 := Lib.hid hk6
      have Hk7 := Lib.hid hk7
      have HO2 := Lib.hid hO
      have Hrk2 := Lib.hid hrk
      clear hout hlt hhas hCon hHst hi1 hio hm hrl2 hk1 hk2 hrk hO hrle hk6 hk7
      go_wp2_with fail
      refine HCon.out.mono ?_
      rintro e w6 ⟨rfl, rfl⟩
      go_wp2_with fail
      go_loopw [11] (fun s wk => ∃ j : Nat, j ≤ k ∧ s = .int .i64 j ∧ wk = w6) (fun s _ => k - (intOf s).toNat)
      case atStart => exact ⟨0, Nat.zero_le _, rfl, rfl⟩
      case round =>
        obtain ⟨j, hj, rfl, rfl⟩ := hrel
        have hja : (j : Int) < zs.length := by omega
        have h1 := Hrk2.out j (by omega)
        have hjr : j < rl.length := by rw [Hrle.out]; omega
        obtain ⟨b6, o6, rfl, _, hc6⟩ := hIr.get hjr
        have hjr' : (j : Int) < rl.length := by omega
        have h2 : iget rl j = ((itm rl j : Nat) : Int) := by unfold itm; omega
        rw [h2] at hc6
        have hxo : itm rl j < out.length := by rw [Hlt.out]; exact h1.2
        obtain ⟨g, rfl, hg1, hg2, hcx, hfx⟩ := HO2.out.get hxo
        have HS2 := Lib.hid (HO2.out.set (itm rl j) (x := (i : Int)) ⟨by omega, by omega⟩)
        by_cases hjk : j < k
        · have hf := Hk7.out j hjk
          unfold isLeft at hf
          obtain ⟨x, hxx⟩ : ∃ x, itm rl j = x := ⟨_, rfl⟩
          rw [hxx] at hf hc6 hcx hfx h1
          obtain ⟨y, hyy⟩ : ∃ y, iget out x = y := ⟨_, rfl⟩
          rw [hyy] at hf hcx
          have hx1 : (x : Int) < zs.length := by omega
          clear hyy hxx h2 HS2
          go_wp2_with fail
          go_roundw
          case rel => exact ⟨j + 1, by omega, by go_num, by trivial⟩
          case measure => (simp [intOf] <;> omega)
        · obtain rfl : j = k := by omega
          obtain ⟨x, hxx⟩ : ∃ x, itm rl j = x := ⟨_, rfl⟩
          rw [hxx] at hc6 hcx hfx h1 HHst HS2
          have hk6 := Hk6.out
          rw [hxx] at hk6
          rw [hk6] at hcx
          have hx1 : (x : Int) < zs.length := by omega
          clear hxx h2 hk6
          go_wp2_with fail
          go_roundw
          case rel => exact ⟨t + 1, by omega, by go_num, by rw [HHst.out]; exact HS2.out.1, hBr.setCell (p := ⟨g, x, none⟩) hg1 _⟩
          case measure => (simp [intOf] <;> omega)
    · rw [decide_eq_false hmore] at hCon
      have HCon := Lib.hid hCon
      obtain rfl : t = nLeft zs := by omega
      have HL2 : Hid (trnL zs o v = out) := by unfold Hid trnL; exact hout
      clear hout hlt hhas hCon hHst
      go_wp2_with fail
      refine HCon.out.mono ?_
      rintro e w6 ⟨rfl, rfl⟩
      go_wp2_with fail
      go_ret2
      unfold Gives2
      rw [hL.out, HL2.out, Hlt.out]
      exact ⟨p4, c4, rfl, hO, hBr⟩
end Go.Proofs.Ytknincjfcicjfaa
