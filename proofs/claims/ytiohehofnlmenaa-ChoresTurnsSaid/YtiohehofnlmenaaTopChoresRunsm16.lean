/- The walk of the reference's Run, for every chores and order; no condition.  (Printed by wip/genrunr.py.) -/
import Derived.Test.YtiohehofnlmenaaTopChoresRunsm14
import Derived.Test.YtiohehofnlmenaaTopChoresRunsm6
import Derived.Test.YtiohehofnlmenaaTopChoresRunsm8
import Derived.Test.YtiohehofnlmenaaTopChoresRunsm2
import Derived.Test.YtiohehofnlmenaaTopChoresRunsm9
/- The walk of the reference's Run, for every chores and order; no condition.  (Printed by wip/genrunr.py.) -/
namespace Go.Proofs.Ytiohehofnlmenaa
set_option linter.unusedVariables false
set_option linter.unusedSimpArgs false
open Go.ChangeShapes Go.WideShapes Go.ChangeAt Go.RowKit Go.Deep

theorem freeQ (p : Option Addr) (c : Nat) (v : List (List Int)) (q : Option Addr) (d m : Nat) (A : List Int) (hm : A.length = m) (hg : Gds v) (ha : AlcOk v A) (W : World) (hx : Mat W p c v) (hi : Ints W q d A) :
    Calls Try.prog 56 #[.agg #[.slice p v.length c], .slice q m d] W fun e w' => e = .returned (.int .i64 (freeI v A)) ∧ Below W.heap.size W w' := by
  subst hm
  exact ref24Free_any p c v q d A W hx hi hg ha
theorem topQ (p : Option Addr) (c : Nat) (v : List (List Int)) (q : Option Addr) (d m : Nat) (A : List Int) (hm : A.length = m) (hg : Gds v) (ha : AlcOk v A) (W : World) (hx : Mat W p c v) (hi : Ints W q d A) :
    Calls Try.prog 44 #[.agg #[.slice p v.length c], .slice q m d] W fun e w' => ∃ p c l, Hid (l = topG v A) ∧ e = .returned (.slice p (l : List Int).length c) ∧ Own w' W.heap.size p c l ∧ Below W.heap.size W w' := by
  subst hm
  refine (ref24top_any p c v q d A W hx hi hg ha).mono ?_
  rintro e w' ⟨p2, c2, rfl, hO, hb⟩
  exact ⟨p2, c2, topG v A, rfl, rfl, hO, hb⟩
theorem passQ (q : Option Addr) (d m : Nat) (A : List Int) (s : Option Addr) (f : Nat) (l : List Int) (hm : A.length = m) (hmp : 0 < m) (hm10 : m ≤ 10) (hl : l.length ≤ 6) (W : World) (hi : Ints W q d A) (ho : Ints W s f l) :
    Calls Try.prog 34 #[.slice q m d, .slice s l.length f] W fun e w' => ∃ g c, e = .returned (.slice (some ⟨g, 0, none⟩) m c) ∧ Own w' W.heap.size (some ⟨g, 0, none⟩) c (passL A l) ∧ Below W.heap.size W w' := by
  subst hm
  refine (passed_any q s d f A l W hi ho (by omega) (by omega)).mono ?_
  rintro e w' ⟨p2, c2, rfl, hO, hb⟩
  obtain ⟨g, rfl, _⟩ := hO.get (j := 0) (by rw [passL_len]; exact hmp)
  exact ⟨g, c2, by rw [passL_len], hO, hb⟩

set_option maxHeartbeats 16000000 in
set_option maxRecDepth 100000 in
theorem ref24Run_any (p q : Option Addr) (c d : Nat) (v : List (List Int)) (o : List Int) (w : World) (hx : Mat w p c v) (hy : Ints w q d o) :
    Calls Try.prog 27 #[.agg #[.slice p v.length c], .slice q o.length d] w (GivesLS w (runA v o) (runS v o) (runE v o)) := by
  obtain ⟨W0, hW0⟩ : ∃ W0, w.alloc (.cells #[.slice p v.length c] 24) = W0 := ⟨_, rfl⟩
  have hB : Below w.heap.size w W0 := below_alloc hW0
  have bX : BoxV W0 w.heap.size [.slice p v.length c] := BoxV.new rfl hW0
  have x0 := bX.cell 0 _ rfl
  have HW0 := Lib.hid hW0
  clear hW0
  have hl1 := hx.length_le
  have hl2 := hy.length_le
  go_enter Try.func27, Try.ntmps27
  go_wp2_with fail
  rw [HW0.out]
  refine (ref16Check_any p c v _ (hx.below hB (Nat.le_refl _))).mono ?_
  rintro e w1 ⟨rfl, hb1⟩
  clear x0
  replace bX := bX.below hb1
  replace hB := hB.trans (hb1.mono hB.size)
  clear hb1
  have x0 := bX.cell 0 _ rfl
  by_cases hG : chkG v = 0
  · have hgz : (chkG v != 0) = false := by rw [hG]; rfl
    have hg := chkG_zero.1 hG
    have Hg := Lib.hid hg
    have HG := Lib.hid hG
    have Hx := Lib.hid hx
    have Hy := Lib.hid hy
    have h0v : 0 < v.length := hg.1
    have hv6 : v.length ≤ 6 := hg.2.1
    have hm10 : wid v ≤ 10 := hg.2.2.1
    have HN := Lib.hid (none24_any p c v _ (hx.below hB (Nat.le_refl _)) hg.1 hg.2.2.1)
    obtain ⟨m, hm⟩ : ∃ m, wid v = m := ⟨_, rfl⟩
    rw [hm] at hm10
    simp only [hm] at HN
    have Hm := Lib.hid hm
    clear hx hy hG hg hm
    go_wp2_with fail
    refine HN.out.mono ?_
    rintro e w3 ⟨g0, c1, rfl, hO, hb⟩
    have lX := bX.lt
    replace hO := hO.lower (base' := w.heap.size + 1) (by omega)
    clear x0 HN
    replace bX := bX.below hb
    replace hB := hB.trans (hb.mono hB.size)
    have hgw := (hO.lt g0 rfl).1
    clear hb lX
    have x0 := bX.cell 0 _ rfl
    have HOr := Lib.hid (ordered_any q d o (m : Int) w3 (Hy.out.below hB (Nat.le_refl _)))
    go_wp2_with fail
    refine HOr.out.mono ?_
    rintro e w4 ⟨rfl, hw4⟩
    clear x0 HOr
    replace hO := hO.drew hw4
    replace bX := bX.below (drew_below hw4)
    replace hB := hB.drewP hw4
    clear hw4
    by_cases hOrd : OrdP o (m : Int)
    · have hob : ordB o (m : Int) = true := by unfold ordB; exact decide_eq_true hOrd
      rw [hob]
      clear hob
      have HE : Hid (runE v o = 0) := by unfold Hid runE; rw [if_pos HG.out, Hm.out, if_pos hOrd]
      have hOl : o.length ≤ 10 := by have := ordP_len hOrd; omega
      have Hrt := Lib.hid (fun k (h : k ≤ o.length) => runTo_ok h0v (by rw [Hm.out]; exact hOrd : OrdP o (wid v)) k h)
      have Hord := Lib.hid hOrd
      have hO0 : Hid (Own w4 (w.heap.size + 1) (some ⟨g0, 0, none⟩) c1 (runTo v o 0).1) := by unfold Hid runTo; rw [Hm.out]; exact hO
      clear hOrd hO
      go_wp2_with fail
      go_loopw [7, 8, 9] (fun s4 s5 t wr => ∃ k : Nat, k ≤ o.length ∧ t = .int .i64 k ∧ ∃ A S g cA pz cz Q D, Hid (runTo v o k = (A, S)) ∧ s4 = .slice (some ⟨g, 0, none⟩) m cA ∧ s5 = .slice pz (S : List Stp).length cz ∧ Own wr (w.heap.size + 1) (some ⟨g, 0, none⟩) cA A ∧ OwnS wr (w.heap.size + 1) pz cz S Q D ∧ Hid (∀ k', blk pz = some k' → k' ≠ g) ∧ Hid (∀ j, j < S.length → 0 < (sget S j).1.length → ∀ k', blk (Q j) = some k' → k' < g) ∧ BoxV wr w.heap.size [.slice p v.length c] ∧ Below w.heap.size w wr) (fun _ _ t _ => o.length - (intOf t).toNat)
      case atStart => exact ⟨0, Nat.zero_le _, rfl, (runTo v o 0).1, [], g0, c1, none, 0, fun _ => none, fun _ => 0, rfl, rfl, rfl, hO0.out, OwnS.ofNil _ _, fun _ h => (by cases h), fun _ h => (by simp at h), bX, hB⟩
      case round =>
        clear hO0 hB bX
        obtain ⟨k, hk, rfl, A, S, g, cA, pz, cz, Q, D, hR, rfl, rfl, hO, hS, hneg, hqg, bX, hbw⟩ := hrel
        by_cases hlt : k < o.length
        · have hk1 : (k : Int) < o.length := by omega
          obtain ⟨n1, n2, _⟩ := Hord.out k hlt
          obtain ⟨x, hx⟩ : ∃ x : Nat, iget o k = x := ⟨(iget o k).toNat, by omega⟩
          have hxm : x < m := by omega
          have hxm1 : (x : Int) < m := by omega
          have hx0 : (0 : Int) ≤ x := by omega
          obtain ⟨hAok, hSlen⟩ := Hrt.out k hk
          rw [hR.out] at hAok hSlen
          simp only at hAok hSlen
          have hAl : A.length = m := by rw [hAok.1]; exact Hm.out
          have Alen := Lib.hid hAl
          have HA := Lib.hid hAok
          have Hx0 := Lib.hid hx
          have HFq := Lib.hid (fun W hX hI => freeQ p c v (some ⟨g, 0, none⟩) cA m A hAl Hg.out hAok W hX hI)
          have HTq := Lib.hid (fun W hX hI => topQ p c v (some ⟨g, 0, none⟩) cA m A hAl Hg.out hAok W hX hI)
          have x0 := bX.cell 0 _ rfl
          have hxm' : Hid (x < m) := hxm
          clear hAl hAok hx n1 n2
          have HFr := Lib.hid (HFq.out _ (Hx.out.below hbw (Nat.le_refl _)) hO.ints)
          by_cases hfr : freeI v A < 0
          · have hd : decide (freeI v A < 0) = true := by simpa using hfr
            have Hfr := Lib.hid hfr
            clear hfr
            go_wp2_with fail
            refine HFr.out.mono ?_
            rintro e wf ⟨rfl, hb⟩
            clear x0
            replace hO := hO.below hb (Nat.le_refl _)
            replace hS := hS.below hb (Nat.le_refl _)
            replace bX := bX.below hb
            replace hbw := hbw.trans (hb.mono hbw.size)
            clear hb HFr
            have x0 := bX.cell 0 _ rfl
            have HCi := Lib.hid (HTq.out _ (Hx.out.below hbw (Nat.le_refl _)) hO.ints)
            go_wp2_with fail
            refine HCi.out.mono ?_
            rintro e wl ⟨pl, cl, l, hl, rfl, hL, hb⟩
            have hpz := Lib.hid hS.lt
            have hgf := (hO.lt g rfl).2
            have hpl := Lib.hid hL.lt
            have hfl := hb.size
            obtain ⟨hlc, hln⟩ := topG_circ (a := A) h0v
            rw [← hl.out] at hlc hln
            have Hlc := Lib.hid hlc
            replace hO := hO.below hb (Nat.le_refl _)
            replace hS := hS.below hb (Nat.le_refl _)
            clear x0
            replace bX := bX.below hb
            replace hbw := hbw.trans (hb.mono hbw.size)
            clear hb HCi hlc
            have hSl1 : S.length ≤ 900000 := by omega
            have hsp : 0 < l.length → ∀ k', blk pl = some k' → blk pz ≠ some k' := fun _ k' e1 e2 => by have := (hpl.out k' e1).1; have := (hpz.out k' e2).2; omega
            have hw5 : w.heap.size + 1 ≤ wl.heap.size := by have := bX.lt; omega
            have hln6 : l.length ≤ 6 := by omega
            have HS := Lib.hid hS
            have HX := Lib.hid bX
            have HBw := Lib.hid hbw
            have HO2 := Lib.hid hO
            have HiL := Lib.hid hL.ints
            have Hsp := Lib.hid hsp
            have hmp : 0 < m := by omega
            have HPq := Lib.hid (fun W hI hT => passQ (some ⟨g, 0, none⟩) cA m A pl cl l Alen.out hmp hm10 hln6 W hI hT)
            clear hO hS bX hbw hL hsp hln
            go_wp2_with (at_builtin; refine wpList_appS rfl (.tmp 37) (.tmp 40) rfl (w.heap.size + 1) _ _ S _ _ pl cl _ l rfl (-1) (-1) rfl rfl rfl HS.out HiL.out Hsp.out hSl1 hw5 ?_; intro p2 cz2 w6 u2 hu2 hS2 hg6 hf6; have hX6 := HX.out.heap hg6.size (hg6.block _ (by omega) (fun e => by have := (HS.out.lt _ e.symm).1; omega)); have hO6 := HO2.out.keptBy hg6 (fun k1 e e2 => by simp [blk] at e; subst e; exact hneg.out _ e2 rfl); have hB6 := below_grown HBw.out hg6 (by omega) HS.out.lt (by omega); have hL6 := HiL.out.keep hg6.size (fun a ha hlp => hg6.block _ (HiL.out.plain a ha (by have := HiL.out.le; omega)).2 (fun e => Hsp.out hlp a.block (by rw [ha]; rfl) e.symm)); have HCv2 := Lib.hid (HPq.out _ hO6.ints hL6))
            refine HCv2.out.mono ?_
            rintro e wf2 ⟨g2, c2, rfl, hO2, hb⟩
            have hg2 := hO2.lt g2 rfl
            have hO := hO2.lower (base' := w.heap.size + 1) (by have := hg6.size; omega)
            have hS := hS2.below hb (Nat.le_refl _)
            have bX := hX6.below hb
            have hbw := hB6.trans (hb.mono hB6.size)
            have hAok2 : AlcOk v (passL A l) := ⟨by rw [passL_len]; exact HA.out.1, passL_ok Hlc.out HA.out.2⟩
            have HR := run_yes hR.out Hfr.out hl.out
            rw [← hu2.out] at HR
            obtain ⟨A2, hA2⟩ : ∃ A2, passL A l = A2 := ⟨_, rfl⟩
            have hAl2 : A2.length = m := by rw [← hA2, passL_len]; exact Alen.out
            rw [hA2] at hO hAok2 HR
            have Alen2 := Lib.hid hAl2
            have HFq2 := Lib.hid (fun W hX hI => freeQ p c v (some ⟨g2, 0, none⟩) c2 m A2 hAl2 Hg.out hAok2 W hX hI)
            have hneg2 : Hid (∀ k', blk p2 = some k' → k' ≠ g2) := fun k' e e2 => by
              have := (hS2.lt k' e).2
              omega
            have hqg2 : Hid (∀ j, j < u2.length → 0 < (sget u2 j).1.length → ∀ k', blk (if j < S.length then Q j else pl) = some k' → k' < g2) := fun j hj hlj k' e => by
              have hs6 := hg6.size
              by_cases hjl : j < S.length
              · simp only [hjl, if_true] at e
                rw [hu2.out, sget_append, if_pos hjl] at hlj
                have := hqg.out j hjl hlj k' e
                omega
              · simp only [hjl, if_false] at e
                have := (hpl.out k' e).2
                omega
            have hu2l : u2.length ≤ 1000 := by rw [hu2.out, List.length_append, List.length_singleton]; omega
            rw [Hx0.out, Int.toNat_natCast] at HR
            clear hb hO6 hB6 hX6 hg6 hf6 HCv2 hS2 HO2 hO2 HS HX HBw HiL hA2 hAl2 hAok2 hL6
            have HF := Lib.hid (HFq2.out _ (Hx.out.below hbw (Nat.le_refl _)) hO.ints)
            have hfr2 : in64 (freeI v A2) := by have := firstN_range (calmB v A2) v.length; unfold freeI; exact ⟨by omega, by omega⟩
            obtain ⟨y, ey⟩ : ∃ y, freeI v A2 = y := ⟨_, rfl⟩
            rw [ey] at HF hfr2 HR
            have HR := Lib.hid HR
            have Hyr := Lib.hid hfr2
            have x0 := bX.cell 0 _ rfl
            clear ey hfr2
            go_wp2_with fail
            refine HF.out.mono ?_
            rintro e wg ⟨rfl, hb⟩
            clear x0 HF
            replace hO := hO.below hb (Nat.le_refl _)
            replace hS := hS.below hb (Nat.le_refl _)
            replace bX := bX.below hb
            replace hbw := hbw.trans (hb.mono hbw.size)
            clear hb
            obtain ⟨b3, o3, hq3, _, hc⟩ := (Hy.out.below hbw (Nat.le_refl _)).get hlt
            rw [Hx0.out] at hc
            obtain ⟨hgw2, hgl2, hcA, hfA⟩ := own_cell hO (j := x) (by rw [Alen2.out]; exact hxm'.out)
            have HO := Lib.hid hO
            have HS := Lib.hid hS
            have HX := Lib.hid bX
            have HBw := Lib.hid hbw
            have hSl : (u2 : List Stp).length ≤ 900000 := by omega
            obtain ⟨W6, hW6⟩ : ∃ W6, wg.setCell ⟨g2, x, none⟩ (.int .i64 y) = W6 := ⟨_, rfl⟩
            have hO6 := (HO.out.set x Hyr.out).1
            have hgr6 := (HO.out.set x Hyr.out).2
            have hS6 := HS.out.kept hgr6 (fun k' e e2 => by cases e2; exact hneg2.out _ e rfl) (fun j hj hl k' e e2 => by cases e2; exact Nat.lt_irrefl _ (hqg2.out j hj hl _ e))
            have hX6 := HX.out.heap hgr6.size (heap_set_ne _ (g := g2) (x := x) (u := .int .i64 y) (by omega))
            have hB6 := HBw.out.setCell (p := ⟨g2, x, none⟩) (by simp only; omega) (.int .i64 y)
            have hs6 : W6.heap.size = _ := (congrArg (fun W => W.heap.size) hW6).symm.trans (size_set _)
            rw [hW6] at hO6 hS6 hX6 hB6
            have hc6 := ((Hy.out.below hB6 (Nat.le_refl _)).cell b3 o3 hq3 k hlt)
            rw [Hx0.out] at hc6
            have HW6 := Lib.hid hW6
            rw [← hW6] at hc6
            have HO6 := Lib.hid hO6
            have HS6 := Lib.hid hS6
            have HX6 := Lib.hid hX6
            have HB6 := Lib.hid hB6
            have Hs6 := Lib.hid hs6
            have hs7 : w.heap.size + 1 ≤ W6.heap.size := by have := hB6.size; have := (HX6.out).lt; omega
            subst hq3
            clear hW6 hgr6 hO6 hS6 hX6 hB6 hs6 HO HS HX HBw hO hS bX hbw
            go_wp2_with (at_builtin; rw [HW6.out]; refine wpList_appS rfl (.tmp 55) (.tmp 62) rfl (w.heap.size + 1) _ _ u2 _ _ none 0 0 [] rfl y (x : Int) rfl rfl Hs6.out HS6.out (Ints.ofNil _) (fun h => (by simp at h)) hSl hs7 ?_; intro p3 c3 w7 u3 hu3 hS7 hg7 hf7)
            go_roundw
            case rel =>
              have hzl := HS6.out.lt
              have hgl := (HO6.out.lt g2 rfl).2
              exact ⟨k + 1, by omega, by go_num, _, u3, g2, _, p3, c3, _, _, by unfold Hid; rw [HR.out, hu3.out], rfl, rfl, HO6.out.keptBy hg7 (fun k' e e2 => by cases e; exact hneg2.out _ e2 rfl), hS7,
                (fun k' e => by
                  rcases hf7 k' e with h | h
                  · exact hneg2.out k' h
                  · omega),
                (fun j hj hl k' e => by
                  rw [hu3.out] at hj hl
                  rw [List.length_append, List.length_singleton] at hj
                  rw [sget_append] at hl
                  by_cases hjl : j < (u2 : List Stp).length
                  · simp only [hjl, if_true] at hl e
                    exact hqg2.out j hjl hl k' e
                  · rw [if_neg hjl, show j - (u2 : List Stp).length = 0 by omega] at hl
                    simp [sget] at hl),
                HX6.out.heap hg7.size (hg7.block _ (by omega) (fun e => by have := (hzl _ e.symm).1; omega)), below_grown HB6.out hg7 (by omega) hzl (by omega)⟩
            case measure => (simp [intOf] <;> omega)
          · have hd : decide (freeI v A < 0) = false := by simpa using hfr
            have HR := run_no hR.out hfr
            rw [Hx0.out, Int.toNat_natCast] at HR
            clear hfr
            go_wp2_with fail
            refine HFr.out.mono ?_
            rintro e wf ⟨rfl, hb⟩
            clear x0
            replace hO := hO.below hb (Nat.le_refl _)
            replace hS := hS.below hb (Nat.le_refl _)
            replace bX := bX.below hb
            replace hbw := hbw.trans (hb.mono hbw.size)
            clear hb HFr
            have HF := Lib.hid (HFq.out _ (Hx.out.below hbw (Nat.le_refl _)) hO.ints)
            have hfr2 : in64 (freeI v A) := by have := firstN_range (calmB v A) v.length; unfold freeI; exact ⟨by omega, by omega⟩
            obtain ⟨y, ey⟩ : ∃ y, freeI v A = y := ⟨_, rfl⟩
            rw [ey] at HF hfr2 HR
            have HR := Lib.hid HR
            have Hyr := Lib.hid hfr2
            have x0 := bX.cell 0 _ rfl
            clear ey hfr2
            go_wp2_with fail
            refine HF.out.mono ?_
            rintro e wg ⟨rfl, hb⟩
            clear x0 HF
            replace hO := hO.below hb (Nat.le_refl _)
            replace hS := hS.below hb (Nat.le_refl _)
            replace bX := bX.below hb
            replace hbw := hbw.trans (hb.mono hbw.size)
            clear hb
            obtain ⟨b3, o3, hq3, _, hc⟩ := (Hy.out.below hbw (Nat.le_refl _)).get hlt
            rw [Hx0.out] at hc
            obtain ⟨hgw2, hgl2, hcA, hfA⟩ := own_cell hO (j := x) (by rw [Alen.out]; exact hxm'.out)
            have HO := Lib.hid hO
            have HS := Lib.hid hS
            have HX := Lib.hid bX
            have HBw := Lib.hid hbw
            have hSl : (S : List Stp).length ≤ 900000 := by omega
            obtain ⟨W6, hW6⟩ : ∃ W6, wg.setCell ⟨g, x, none⟩ (.int .i64 y) = W6 := ⟨_, rfl⟩
            have hO6 := (HO.out.set x Hyr.out).1
            have hgr6 := (HO.out.set x Hyr.out).2
            have hS6 := HS.out.kept hgr6 (fun k' e e2 => by cases e2; exact hneg.out _ e rfl) (fun j hj hl k' e e2 => by cases e2; exact Nat.lt_irrefl _ (hqg.out j hj hl _ e))
            have hX6 := HX.out.heap hgr6.size (heap_set_ne _ (g := g) (x := x) (u := .int .i64 y) (by omega))
            have hB6 := HBw.out.setCell (p := ⟨g, x, none⟩) (by simp only; omega) (.int .i64 y)
            have hs6 : W6.heap.size = _ := (congrArg (fun W => W.heap.size) hW6).symm.trans (size_set _)
            rw [hW6] at hO6 hS6 hX6 hB6
            have hc6 := ((Hy.out.below hB6 (Nat.le_refl _)).cell b3 o3 hq3 k hlt)
            rw [Hx0.out] at hc6
            have HW6 := Lib.hid hW6
            rw [← hW6] at hc6
            have HO6 := Lib.hid hO6
            have HS6 := Lib.hid hS6
            have HX6 := Lib.hid hX6
            have HB6 := Lib.hid hB6
            have Hs6 := Lib.hid hs6
            have hs7 : w.heap.size + 1 ≤ W6.heap.size := by have := hB6.size; have := (HX6.out).lt; omega
            subst hq3
            clear hW6 hgr6 hO6 hS6 hX6 hB6 hs6 HO HS HX HBw hO hS bX hbw
            go_wp2_with (at_builtin; rw [HW6.out]; refine wpList_appS rfl (.tmp 55) (.tmp 62) rfl (w.heap.size + 1) _ _ S _ _ none 0 0 [] rfl y (x : Int) rfl rfl Hs6.out HS6.out (Ints.ofNil _) (fun h => (by simp at h)) hSl hs7 ?_; intro p3 c3 w7 u3 hu3 hS7 hg7 hf7)
            go_roundw
            case rel =>
              have hzl := HS6.out.lt
              have hgl := (HO6.out.lt g rfl).2
              exact ⟨k + 1, by omega, by go_num, _, u3, g, _, p3, c3, _, _, by unfold Hid; rw [HR.out, hu3.out], rfl, rfl, HO6.out.keptBy hg7 (fun k' e e2 => by cases e; exact hneg.out _ e2 rfl), hS7,
                (fun k' e => by
                  rcases hf7 k' e with h | h
                  · exact hneg.out k' h
                  · omega),
                (fun j hj hl k' e => by
                  rw [hu3.out] at hj hl
                  rw [List.length_append, List.length_singleton] at hj
                  rw [sget_append] at hl
                  by_cases hjl : j < (S : List Stp).length
                  · simp only [hjl, if_true] at hl e
                    exact hqg.out j hjl hl k' e
                  · rw [if_neg hjl, show j - (S : List Stp).length = 0 by omega] at hl
                    simp [sget] at hl),
                HX6.out.heap hg7.size (hg7.block _ (by omega) (fun e => by have := (hzl _ e.symm).1; omega)), below_grown HB6.out hg7 (by omega) hzl (by omega)⟩
            case measure => (simp [intOf] <;> omega)
        · have hk1 : ¬ (k : Int) < o.length := by omega
          obtain rfl : k = o.length := by omega
          have HL : Hid (runA v (o) = A) := by unfold Hid runA; rw [if_pos HE.out, hR.out]
          have HLS : Hid (runS v o = S) := by unfold Hid runS; rw [if_pos HE.out, hR.out]
          have hAl : Hid (A.length = m) := by
            have := (Hrt.out o.length (Nat.le_refl _)).1.1
            rw [hR.out] at this
            exact this.trans Hm.out
          go_wp2_with fail
          go_ret3
          rw [HL.out, HLS.out, HE.out]
          exact ⟨_, cA, pz, cz, Q, D, by rw [hAl.out]; rfl, hO.lower (by omega), hS.lower (by omega), hbw⟩
    · have hob : ordB o (m : Int) = false := by unfold ordB; exact decide_eq_false hOrd
      rw [hob]
      have HE : Hid (runE v o = 8) := by unfold Hid runE; rw [if_pos HG.out, Hm.out, if_neg hOrd]
      have HL : Hid (runA v o = []) := by unfold Hid runA; rw [HE.out]; rfl
      have HLT : Hid (runS v o = []) := by unfold Hid runS; rw [HE.out]; rfl
      clear hOrd hob
      go_wp2_with fail
      go_ret3
      rw [HL.out, HLT.out, HE.out]
      exact ⟨none, 0, none, 0, fun _ => none, fun _ => 0, rfl, Own.ofNil _ _, OwnS.ofNil _ _, hB⟩
  · have hgz : (chkG v != 0) = true := by rw [bne_iff_ne]; exact hG
    have HE : Hid (runE v o = chkG v) := by unfold Hid runE; rw [if_neg hG]
    have HL : Hid (runA v o = []) := by unfold Hid runA; rw [HE.out, if_neg hG]
    have HLT : Hid (runS v o = []) := by unfold Hid runS; rw [HE.out, if_neg hG]
    have HC := Lib.hid (ref16Check_any p c v _ (hx.below hB (Nat.le_refl _)))
    clear hG
    go_wp2_with fail
    refine HC.out.mono ?_
    rintro e w2 ⟨rfl, hb2⟩
    go_wp2_with fail
    go_ret3
    rw [HL.out, HLT.out, HE.out]
    exact ⟨none, 0, none, 0, fun _ => none, fun _ => 0, rfl, Own.ofNil _ _, OwnS.ofNil _ _, hB.trans (hb2.mono hB.size)⟩
end Go.Proofs.Ytiohehofnlmenaa

/- The walks of the reference's Circle, and of its comparing of marks, at equal rows. -/
namespace Go.Proofs.Ytiohehofnlmenaa
set_option linter.unusedVariables false
set_option linter.unusedSimpArgs false
open Go.ChangeShapes Go.WideShapes Go.ChangeAt Go.RowKit Go.Deep

set_option maxHeartbeats 4000000 in
set_option maxRecDepth 100000 in
theorem ref24Circle_any (p : Option Addr) (c : Nat) (v : List (List Int)) (q : Option Addr) (d : Nat) (a : List Int) (w : World) (hx : Mat w p c v) (hi : Ints w q d a) :
    Calls Try.prog 20 #[.agg #[.slice p v.length c], .slice q a.length d] w (Gives2 w (circL v a) (chkA v a)) := by
  obtain ⟨W0, hW0⟩ : ∃ W0, w.alloc (.cells #[.slice p v.length c] 24) = W0 := ⟨_, rfl⟩
  have hB : Below w.heap.size w W0 := below_alloc hW0
  have bX : BoxV W0 w.heap.size [.slice p v.length c] := BoxV.new rfl hW0
  have hx := hx.below hB (Nat.le_refl _)
  have hi := hi.below hB (Nat.le_refl _)
  have x0 := bX.cell 0 _ rfl
  have HW0 := Lib.hid hW0
  clear hW0
  have hl1 := hx.length_le
  have hl2 := hi.length_le
  go_enter Try.func20, Try.ntmps20
  go_wp2_with fail
  rw [HW0.out]
  refine (ref16Valid_any p c v q d a _ hx hi).mono ?_
  rintro e w1 ⟨rfl, hb1⟩
  replace hx := hx.below hb1 (Nat.le_refl _)
  replace hi := hi.below hb1 (Nat.le_refl _)
  replace bX := bX.below hb1
  replace x0 := bX.cell 0 _ rfl
  replace hB := hB.trans (hb1.mono hB.size)
  clear hb1
  by_cases hF : chkA v a = 0
  · have HL := Lib.hid (circL_ok hF)
    have HF := Lib.hid hF
    have hz : (chkA v a != 0) = false := by rw [hF]; rfl
    obtain ⟨hg, ha⟩ := chkA_zero.1 hF
    have HC := Lib.hid (ref24top_any p c v q d a _ hx hi hg ha)
    clear hg ha hF
    go_wp2_with fail
    refine HC.out.mono ?_
    rintro e w2 ⟨p2, c2, rfl, hO, hb2⟩
    go_wp2_with fail
    go_ret2
    rw [HL.out, HF.out]
    exact ⟨p2, c2, rfl, hO.lower hB.size, hB.trans (hb2.mono hB.size)⟩
  · have hz : (chkA v a != 0) = true := by rw [bne_iff_ne]; exact hF
    have HL := Lib.hid (circL_err hF)
    have HC := Lib.hid (ref16Valid_any p c v q d a _ hx hi)
    clear hF
    go_wp2_with fail
    refine HC.out.mono ?_
    rintro e w2 ⟨rfl, hb2⟩
    go_wp2_with fail
    go_ret2
    rw [HL.out]
    exact ⟨none, 0, rfl, Own.ofNil _ _, hB.trans (hb2.mono hB.size)⟩

set_option maxHeartbeats 800000 in
theorem sameMarks_any (p q : Option Addr) (c d b0 b1 : Nat) (xs : List Trip) (w : World) (hx : OwnT 75 w b0 p c xs) (hy : OwnT 75 w b1 q d xs) :
    Calls Try.prog 21 #[.slice p xs.length c, .slice q xs.length d] w fun e w' => e = .returned (.bool true) ∧ ∃ n, w' = w.drewN n := by
  have hl := hx.cap
  have he : ((xs.length : Int) != (xs.length : Int)) = false := by simp
  go_enter Try.func21, Try.ntmps21
  go_wp2_with fail
  go_loopw [5] (fun i wr => ∃ k : Nat, k ≤ xs.length ∧ i = .int .i64 k ∧ ∃ n, wr = w.drewN n) (fun i _ => xs.length - (intOf i).toNat)
  case atStart => exact ⟨0, by omega, rfl, drew_refl w⟩
  case round =>
    obtain ⟨k, hk, rfl, hw⟩ := hrel
    have hx := hx.drew hw
    have hy := hy.drew hw
    have Hw := Lib.hid hw
    clear hw
    by_cases hlt : k < xs.length
    · obtain ⟨g, rfl, _, _, c1, c2, c3⟩ := hx.get hlt
      obtain ⟨g', rfl, _, _, c4, c5, c6⟩ := hy.get hlt
      have hk1 : (k : Int) < xs.length := by omega
      generalize (tget xs k).1 = y0 at *
      generalize (tget xs k).2.1 = y1 at *
      generalize (tget xs k).2.2 = y2 at *
      go_wp2_with fail
      go_quiet (fail)
      go_wp2_with fail
      go_roundw
      case rel => exact ⟨k + 1, by omega, by go_num, drew_drewN _ Hw.out⟩
      case measure => simp [intOf]; omega
    · have hk1 : ¬ (k : Int) < xs.length := by omega
      go_wp2_with fail
      go_ret
      exact ⟨rfl, Hw.out⟩
end Go.Proofs.Ytiohehofnlmenaa

/- The walk of the reference's Twin: a copy, every row in a block of its own; at most 900000 rows, each of at most 900000 numbers. -/
namespace Go.Proofs.Ytiohehofnlmenaa
set_option linter.unusedVariables false
set_option linter.unusedSimpArgs false
open Go.ChangeShapes Go.WideShapes Go.ChangeAt Go.RowKit Go.Deep

theorem take_row (v : List (List Int)) {k : Nat} (h : k < v.length) : v.take (k + 1) = v.take k ++ [rget v k] := by
  rw [List.take_succ_eq_append_getElem h, rget_of h]

theorem twin_step {w wr w2 : World} {p' p2 : Option Addr} {c' : Nat} {v : List (List Int)} {Q : Nat → Option Addr} {D : Nat → Nat} (hb : Below w.heap.size w wr)
    (hD : DMat wr w.heap.size p' c' v Q D) (hg : (wr.alloc (.cells #[] 3)).grownBy w2 (blk (some ⟨wr.heap.size, 0, none⟩))) (hf : Fresh (wr.alloc (.cells #[] 3)) (some ⟨wr.heap.size, 0, none⟩) p2) :
    DMat w2 w.heap.size p' c' v Q D ∧ (∀ j, j < v.length → ∀ b, blk (Q j) = some b → blk p2 ≠ some b) ∧ Below w.heap.size w w2 := by
  have hsz := hb.size
  have hb1 : Below wr.heap.size wr w2 := by
    refine ((Below.refl _ _).alloc (Nat.le_refl _) _).grown hg (by simp) ?_
    intro b hbb
    simp [blk] at hbb; omega
  refine ⟨hD.below hb1 (Nat.le_refl _), ?_, hb.trans (hb1.mono hsz)⟩
  intro j hj b hbq e
  have h1 := (hD.lt j hj b hbq).2
  rcases hf b e with h2 | h2
  · simp [blk] at h2; omega
  · simp at h2; omega
theorem twin_step2 {w w2 w3 : World} {p' : Option Addr} {c' : Nat} {v : List (List Int)} {Q : Nat → Option Addr} {D : Nat → Nat} (hb : Below w.heap.size w w2)
    (hD : DMat w2 w.heap.size p' c' v Q D) (hg : w2.grownBy w3 (blk p')) (hsz : w.heap.size ≤ w2.heap.size) : Below w.heap.size w w3 :=
  hb.grown hg hsz (fun k hk => (hD.tmat.lt k hk).1)

set_option maxHeartbeats 800000 in
theorem twin_any (p : Option Addr) (c : Nat) (v : List (List Int)) (w : World) (hx : Mat w p c v) (hlen : v.length ≤ 900000) (hrow : ∀ j, j < v.length → (rget v j).length ≤ 900000) :
    Calls Try.prog 10 #[.slice p v.length c] w (GivesD w v) := by
  go_enter Try.func10, Try.ntmps10
  go_wp2
  go_loopw [3, 4] (fun t i wr => ∃ k : Nat, k ≤ v.length ∧ i = .int .i64 k ∧ (∃ u p' c' Q D, Hid (u = v.take k) ∧ t = .slice p' (u : List (List Int)).length c' ∧ DMat wr w.heap.size p' c' u Q D) ∧ Below w.heap.size w wr) (fun _ i _ => v.length - (intOf i).toNat)
  case atStart => exact ⟨0, by omega, rfl, ⟨[], none, 0, fun _ => none, fun _ => 0, rfl, rfl, DMat.ofNil _ _⟩, Below.refl _ _⟩
  case round =>
    obtain ⟨k, hk, rfl, ⟨u, p', c', Q, D, hu, rfl, hD⟩, hb⟩ := hrel
    have hx := hx.below hb (Nat.le_refl _)
    have hl1 := hx.length_le
    by_cases hlt : k < v.length
    · obtain ⟨b, o, rfl, _, q1, d1, hc, hi⟩ := hx.get hlt
      have hk1 : (k : Int) < v.length := by omega
      have hsz := hb.size
      have hr := hrow k hlt
      go_wp2_with (first
        | (at_builtin; refine wpList_app rfl (.tmp 12) (.tmp 16) rfl w.heap.size _ _ _ _ [] (rget v k) rfl rfl (Own.made _ _ hsz) (hi.below ((Below.refl _ _).alloc (Nat.le_refl _) _) (Nat.le_refl _)) (by simp; omega) (by simp; omega) ?_; intro p2 c2 w2 r2 hr2 hO2 hg2 hf2; obtain rfl : r2 = rget v k := hr2.out; obtain ⟨hD2, hn2, hb2⟩ := twin_step hb hD hg2 hf2; have hsz2 := hb2.size)
        | (at_builtin; refine wpList_appOwnRow rfl (.tmp 11) (.tmp 18) rfl w.heap.size _ _ _ Q D _ _ (rget v k) rfl rfl rfl hD2 hO2 hn2 (by have := congrArg List.length hu.out; rw [List.length_take] at this; omega) hsz2 ?_; intro p3 c3 w3 u3 hu3 hD3 hg3 hf3))
      have hb3 := twin_step2 hb2 hD2 hg3 hsz2
      go_wp2
      go_roundw
      case rel => exact ⟨k + 1, by omega, by go_num, ⟨_, _, _, _, _, by rw [take_row v hlt, ← hu.out]; exact hu3, rfl, hD3⟩, hb3⟩
      case measure => simp [intOf]; omega
    · have hk1 : ¬ (k : Int) < v.length := by omega
      obtain rfl : k = v.length := by omega
      obtain rfl : u = v := by rw [hu.out, List.take_length]
      go_wp2
      go_ret
      exact ⟨_, _, _, _, rfl, hD, hb⟩
end Go.Proofs.Ytiohehofnlmenaa
