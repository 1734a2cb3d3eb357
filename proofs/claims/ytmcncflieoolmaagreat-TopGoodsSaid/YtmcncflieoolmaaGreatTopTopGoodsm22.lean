/- The walk of chores.Run, for every chores and order; no condition.  (Printed by wip/genrun.py.) -/
import Derived.Test.YtmcncflieoolmaaGreatTopTopGoodsm21
/- The walk of chores.Run, for every chores and order; no condition.  (Printed by wip/genrun.py.) -/
namespace Go.Proofs.YtmcncflieoolmaaGreat
set_option linter.unusedVariables false
set_option linter.unusedSimpArgs false
open Go.ChangeShapes Go.WideShapes Go.ChangeAt Go.RowKit Go.Deep

set_option maxHeartbeats 16000000 in
set_option maxRecDepth 100000 in
theorem choresRun_any (p q : Option Addr) (c d : Nat) (v : List (List Int)) (o : List Int) (w : World) (hx : Mat w p c v) (hy : Ints w q d o) :
    Calls Tryz.prog 48 #[.agg #[.slice p v.length c], .slice q o.length d] w (GivesLS w (runA v o) (runS v o) (runE v o)) := by
  obtain ⟨W0, hW0⟩ : ∃ W0, w.alloc (.cells #[.slice p v.length c] 24) = W0 := ⟨_, rfl⟩
  have hB : Below w.heap.size w W0 := below_alloc hW0
  have bX : BoxV W0 w.heap.size [.slice p v.length c] := BoxV.new rfl hW0
  have x0 := bX.cell 0 _ rfl
  have HW0 := Lib.hid hW0
  clear hW0
  have hl1 := hx.length_le
  have hl2 := hy.length_le
  go_enter Tryz.func48, Tryz.ntmps48
  go_wp2_with fail
  rw [HW0.out]
  refine (goodsCheck_any p c v _ (hx.below hB (Nat.le_refl _))).mono ?_
  rintro e w1 ⟨rfl, hb1⟩
  clear x0
  replace bX := bX.below hb1
  replace hB := hB.trans (hb1.mono hB.size)
  clear hb1
  have x0 := bX.cell 0 _ rfl
  by_cases hG : chkG v = 0
  · have hgz : (chkG v != 0) = false := by rw [hG]; rfl
    have hg := chkG_zero.1 hG
    have Hg := Lib.hid hg
    have HG := Lib.hid hG
    have Hx := Lib.hid hx
    have Hy := Lib.hid hy
    have h0v : 0 < v.length := hg.1
    obtain ⟨b, o', rfl, _, q0, d0, hc0, hi0⟩ := (hx.below hB (Nat.le_refl _)).get (j := 0) h0v
    rw [Nat.add_zero] at hc0
    obtain ⟨m, hm⟩ : ∃ m, wid v = m := ⟨_, rfl⟩
    have hm0 : (rget v 0).length = m := hm
    rw [hm0] at hc0
    have Hm := Lib.hid hm
    have hm10 : m ≤ 10 := by have := hg.2.2.1; omega
    have hv1 : (0 : Int) < v.length := by omega
    have hv6 : v.length ≤ 6 := hg.2.1
    clear hm hm0 hi0 hx hy hG hg
    have hI1 := ints_one w1 (x := -1) ⟨by omega, by omega⟩ 3
    have hBa : Below w1.heap.size w1 (w1.alloc (.cells #[.int .i64 (-1)] 3)) := (Below.refl _ _).alloc (Nat.le_refl _) _
    have hc0' : (w1.alloc (.cells #[.int .i64 (-1)] 3)).cell? ⟨b, o', none⟩ = _ := (hBa.cell (p := ⟨b, o', none⟩) (World.block_lt_of_cell? _ _ hc0)).trans hc0
    have x0' : (w1.alloc (.cells #[.int .i64 (-1)] 3)).cell? ⟨w.heap.size, 0, none⟩ = _ := (hBa.cell (p := ⟨w.heap.size, 0, none⟩) (World.block_lt_of_cell? _ _ x0)).trans x0
    go_wp2_with fail
    refine (repeat1_any _ _ (-1) m _ hI1 (by omega) ⟨by omega, by omega⟩).mono ?_
    rintro e w3 ⟨g0, c1, rfl, hO, hb'⟩
    have hb := hBa.trans (hb'.mono hBa.size)
    have hbs := hBa.size
    have lX := bX.lt
    replace hO := hO.lower (base' := w.heap.size + 1) (by omega)
    clear x0 x0' hc0 hc0' hI1 hb' hBa
    replace bX := bX.below hb
    replace hB := hB.trans (hb.mono hB.size)
    have hgw := (hO.lt g0 rfl).1
    clear hb hbs lX
    have hiv : Ints w3 q d o := Hy.out.below hB (Nat.le_refl _)
    have HNew : Hid (∀ n, NewAt o (m : Int) n ↔ 0 ≤ iget o n ∧ iget o n < m ∧ ∀ j, j < n → iget o j ≠ iget o n) := fun n => Iff.rfl
    have HE8 : Hid (¬ OrdP o (m : Int) → runE v o = 8 ∧ runA v o = [] ∧ runS v o = []) := fun h => by
      have he : runE v o = 8 := by unfold runE; rw [if_pos HG.out, Hm.out, if_neg h]
      refine ⟨he, ?_, ?_⟩
      · unfold runA; rw [he]; rfl
      · unfold runS; rw [he]; rfl
    go_wp2_with fail
    go_loop [4, 5, 6, 33] (fun s4 s5 s6 t => s4 = .slice (some ⟨g0, 0, none⟩) m c1 ∧ s5 = .slice none 0 0 ∧ s6 = .int .i64 0 ∧ ∃ n : Nat, n ≤ o.length ∧ t = .int .i64 n ∧ Hid (∀ j, j < n → NewAt o m j)) (fun _ _ _ t => o.length - (intOf t).toNat)
    case atStart => exact ⟨rfl, rfl, rfl, 0, Nat.zero_le _, rfl, fun j hj => absurd hj (Nat.not_lt_zero j)⟩
    case round =>
      obtain ⟨rfl, rfl, rfl, n, hn, rfl, ht⟩ := hrel
      by_cases hlt : n < o.length
      · have hn1 : (n : Int) < o.length := by omega
        obtain ⟨b3, o3, rfl, _, hc⟩ := hiv.get hlt
        have hsl := run_pre (some ⟨b3, o3, none⟩) o.length d n (by have := hiv.le; omega)
        have HN := Lib.hid (HNew.out n)
        have HB := Lib.hid (hasB_take (xs := o) (i := n) (by omega) (iget o n))
        have HC := Lib.hid (containsR (some ⟨b3, o3, none⟩) d n o (iget o n) (by omega) w3 hiv)
        obtain ⟨x, ex⟩ : ∃ x, iget o n = x := ⟨_, rfl⟩
        rw [ex] at hc HN HB HC
        clear ex
        by_cases h0 : x < 0
        · have hd : decide (x < 0) = true := by simpa using h0
          obtain ⟨e1, e2, e3⟩ := HE8.out (fun h => by have := (HN.out.1 (h n hlt)).1; omega)
          have E1 := Lib.hid e1
          have E2 := Lib.hid e2
          have E3 := Lib.hid e3
          clear h0 e1 e2 e3
          go_wp2_with fail
          go_ret3
          rw [E1.out, E2.out, E3.out]
          exact ⟨none, 0, none, 0, fun _ => none, fun _ => 0, rfl, Own.ofNil _ _, OwnS.ofNil _ _, hB⟩
        · have hd : decide (x < 0) = false := by simpa using h0
          by_cases hM : (m : Int) ≤ x
          · have hd2 : decide ((m : Int) ≤ x) = true := by simpa using hM
            obtain ⟨e1, e2, e3⟩ := HE8.out (fun h => by have := (HN.out.1 (h n hlt)).2.1; omega)
            have E1 := Lib.hid e1
            have E2 := Lib.hid e2
            have E3 := Lib.hid e3
            clear h0 hM e1 e2 e3
            go_wp2_with fail
            go_ret3
            rw [E1.out, E2.out, E3.out]
            exact ⟨none, 0, none, 0, fun _ => none, fun _ => 0, rfl, Own.ofNil _ _, OwnS.ofNil _ _, hB⟩
          · have hd2 : decide ((m : Int) ≤ x) = false := by simpa using hM
            have H0 := Lib.hid h0
            have HM := Lib.hid hM
            clear h0 hM
            cases hH : hasB (o.take n) x with
            | true =>
              obtain ⟨e1, e2, e3⟩ := HE8.out (fun h => by
                obtain ⟨j, hj, e⟩ := HB.out.1 hH
                exact (HN.out.1 (h n hlt)).2.2 j hj e)
              have E1 := Lib.hid e1
              have E2 := Lib.hid e2
              have E3 := Lib.hid e3
              rw [hH] at HC
              clear e1 e2 e3 hH
              go_wp2_with fail
              refine HC.out.mono ?_
              rintro e w' ⟨rfl, rfl⟩
              go_wp2_with fail
              go_ret3
              rw [E1.out, E2.out, E3.out]
              exact ⟨none, 0, none, 0, fun _ => none, fun _ => 0, rfl, Own.ofNil _ _, OwnS.ofNil _ _, hB⟩
            | false =>
              have HNn : Hid (NewAt o m n) := HN.out.2 ⟨by have := H0.out; omega, by have := HM.out; omega, fun j hj e => by
                have := HB.out.2 ⟨j, hj, e⟩
                rw [hH] at this; cases this⟩
              rw [hH] at HC
              clear hH
              go_wp2_with fail
              refine HC.out.mono ?_
              rintro e w' ⟨rfl, rfl⟩
              go_wp2_with fail
              go_round
              case rel => exact ⟨rfl, rfl, rfl, n + 1, by omega, by go_num, snoc_all' ht.out HNn.out⟩
              case measure => (simp [intOf] <;> omega)
      · have hn1 : ¬ (n : Int) < o.length := by omega
        obtain rfl : n = o.length := by omega
        have hOrd : OrdP o (m : Int) := fun j hj => ht.out j hj
        have HE : Hid (runE v o = 0) := by unfold Hid runE; rw [if_pos HG.out, Hm.out, if_pos hOrd]
        have hOl : o.length ≤ 10 := by have := ordP_len hOrd; omega
        have Hrt := Lib.hid (fun k (h : k ≤ o.length) => runTo_ok h0v (by rw [Hm.out]; exact hOrd : OrdP o (wid v)) k h)
        have Hord := Lib.hid hOrd
        have hO0 : Hid (Own w3 (w.heap.size + 1) (some ⟨g0, 0, none⟩) c1 (runTo v o 0).1) := by unfold Hid runTo; rw [Hm.out]; exact hO
        have hS0 : Hid ((runTo v o 0).2 = []) := rfl
        clear hOrd ht hO hn hiv
        go_wp2_with fail
        go_loopw [4, 5, 56] (fun s4 s5 t wr => ∃ k : Nat, k ≤ o.length ∧ t = .int .i64 k ∧ ∃ A S g cA pz cz Q D, Hid (runTo v o k = (A, S)) ∧ s4 = .slice (some ⟨g, 0, none⟩) m cA ∧ s5 = .slice pz (S : List Stp).length cz ∧ Own wr (w.heap.size + 1) (some ⟨g, 0, none⟩) cA A ∧ OwnS wr (w.heap.size + 1) pz cz S Q D ∧ Hid (∀ k', blk pz = some k' → k' ≠ g) ∧ Hid (∀ j, j < S.length → 0 < (sget S j).1.length → ∀ k', blk (Q j) = some k' → k' < g) ∧ BoxV wr w.heap.size [.slice (some ⟨b, o', none⟩) v.length c] ∧ Below w.heap.size w wr) (fun _ _ t _ => o.length - (intOf t).toNat)
        case atStart => exact ⟨0, Nat.zero_le _, rfl, (runTo v o 0).1, [], g0, c1, none, 0, fun _ => none, fun _ => 0, rfl, rfl, rfl, hO0.out, OwnS.ofNil _ _, fun _ h => (by cases h), fun _ h => (by simp at h), bX, hB⟩
        case round =>
          clear hO0 hB bX hS0
          obtain ⟨k, hk, rfl, A, S, g, cA, pz, cz, Q, D, hR, rfl, rfl, hO, hS, hneg, hqg, bX, hbw⟩ := hrel
          by_cases hlt : k < o.length
          · have hk1 : (k : Int) < o.length := by omega
            obtain ⟨b3, o3, rfl, _, hc⟩ := (Hy.out.below hbw (Nat.le_refl _)).get hlt
            obtain ⟨n1, n2, _⟩ := Hord.out k hlt
            obtain ⟨x, hx⟩ : ∃ x : Nat, iget o k = x := ⟨(iget o k).toNat, by omega⟩
            have hxm : x < m := by omega
            have hxm1 : (x : Int) < m := by omega
            have hx0 : (0 : Int) ≤ x := by omega
            obtain ⟨hAok, hSlen⟩ := Hrt.out k hk
            rw [hR.out] at hAok hSlen
            simp only at hAok hSlen
            have hAl : A.length = m := by rw [hAok.1]; exact Hm.out
            have Alen := Lib.hid hAl
            have HA := Lib.hid hAok
            rw [hx] at hc
            have Hx0 := Lib.hid hx
            have HV := Lib.hid (fun W hX hI => valuesR (some ⟨b, o', none⟩) c v (some ⟨g, 0, none⟩) cA m A hAl Hg.out hAok W hX hI)
            have x0 := bX.cell 0 _ rfl
            have hxm' : Hid (x < m) := hxm
            clear hAl hAok hx n1 n2
            have HCv := Lib.hid (HV.out _ (Hx.out.below hbw (Nat.le_refl _)) hO.ints)
            go_wp2_with fail
            refine HCv.out.mono ?_
            rintro e wv ⟨pv, cv, rfl, mV, hb⟩
            clear x0 HCv hc
            replace hO := hO.below hb (Nat.le_refl _)
            replace hS := hS.below hb (Nat.le_refl _)
            replace bX := bX.below hb
            replace hbw := hbw.trans (hb.mono hbw.size)
            clear hb
            have HFr := Lib.hid (freeR pv cv v A _ mV)
            by_cases hfr : freeI v A < 0
            · have hd : decide (freeI v A < 0) = true := by simpa using hfr
              have Hfr := Lib.hid hfr
              clear hfr
              go_wp2_with fail
              refine HFr.out.mono ?_
              rintro e wf ⟨rfl, hwf⟩
              replace mV := mV.drew hwf
              replace hO := hO.drew hwf
              replace hS := hS.drew hwf
              replace bX := bX.below (drew_below hwf)
              replace hbw := hbw.drewP hwf
              clear hwf HFr
              have HCi := Lib.hid (circleR pv cv v A Hg.out _ mV)
              go_wp2_with fail
              refine HCi.out.mono ?_
              rintro e wl ⟨pl, cl, l, hl, rfl, hL, hb⟩
              have hpz := Lib.hid hS.lt
              have hgf := (hO.lt g rfl).2
              have hpl := Lib.hid hL.lt
              have hfl := hb.size
              obtain ⟨hlc, hln⟩ := topG_circ (a := A) h0v
              rw [← hl.out] at hlc hln
              have Hlc := Lib.hid hlc
              replace hO := hO.below hb (Nat.le_refl _)
              replace hS := hS.below hb (Nat.le_refl _)
              replace bX := bX.below hb
              replace hbw := hbw.trans (hb.mono hbw.size)
              clear hb HCi mV hlc
              have iL := hL.ints
              obtain ⟨n, hn⟩ : ∃ n, v.length = n := ⟨_, rfl⟩
              have Hn := Lib.hid hn
              have hn6 : n ≤ 6 := by omega
              have hn1 : 1 ≤ n := by omega
              have hln2 : l.length ≤ n := by omega
              have hlB := bX.lt
              obtain ⟨B3, hB3⟩ : ∃ B3, wl.heap.size = B3 := ⟨_, rfl⟩
              have HB3 := Lib.hid hB3
              have x0 := bX.cell 0 _ rfl
              have hIs : Hid (∀ j, idL (j + 1) = idL j ++ [(j : Int)]) := fun j => idL_snoc j
              have hI0 : Hid (idL 0 = []) := rfl
              have hIl := Lib.hid (fun j => idL_len j)
              have HO := Lib.hid hO
              have HS := Lib.hid hS
              have HIL := Lib.hid iL
              have Hbw := Lib.hid hbw
              have hll := iL.length_le
              rw [hB3] at hlB hfl
              have hnv : (n : Int) = v.length := by omega
              have HpV := Lib.hid (fun (t : List Int) (s : Option Addr) (f : Nat) (ht : t = toL l n) W hX hI hT => passR (some ⟨b, o', none⟩) c n v hn (some ⟨g, 0, none⟩) cA m A s f l t Alen.out Hg.out HA.out Hlc.out (by rw [hn]; exact ht) (by have := hxm'.out; omega) W hX hI hT)
              have Hlc2 : Hid (CircOk l n) := by unfold Hid; rw [← hn]; exact Hlc.out
              clear hn hB3 hO hS iL hL hln hnv
              go_wp2_with fail
              go_loopw [15, 74] (fun s t wk => ∃ j : Nat, j ≤ v.length ∧ t = .int .i64 j ∧ (∃ zs pt ct, Hid (zs = idL j) ∧ s = .slice pt (zs : List Int).length ct ∧ Own wk B3 pt ct zs) ∧ Below B3 wl wk) (fun _ t _ => v.length - (intOf t).toNat)
              case atStart => exact ⟨0, Nat.zero_le _, rfl, ⟨[], none, 0, hI0.out.symm, rfl, Own.ofNil _ _⟩, Below.refl _ _⟩
              case round =>
                obtain ⟨j, hj, rfl, ⟨zs, pt, ct, hz, rfl, hT⟩, hbk⟩ := hrel
                by_cases hjn : j < v.length
                · have hj1 : (j : Int) < v.length := by omega
                  have hzl : zs.length ≤ 900000 := by rw [hz.out, hIl.out]; omega
                  have hsk : B3 ≤ wr.heap.size := by have := hbk.size; have := HB3.out; omega
                  have hji : in64 (j : Int) := ⟨by omega, by omega⟩
                  have Hji := Lib.hid hji
                  have HT := Lib.hid hT
                  clear hji hT
                  go_wp2_with (at_builtin; refine wpList_app1 rfl (.tmp 77) (.tmp 79) rfl B3 _ _ zs (j : Int) rfl rfl rfl HT.out Hji.out hzl hsk ?_; intro p3 c3 w3' u3 hu3 hO3 hg3 hf3)
                  go_roundw
                  case rel => exact ⟨j + 1, by omega, by go_num, ⟨u3, _, _, by unfold Hid; rw [hu3.out, hz.out, hIs.out], rfl, hO3⟩, hbk.grown hg3 hsk (fun k' e => (HT.out.lt k' e).1)⟩
                  case measure => (simp [intOf] <;> omega)
                · have hj1 : ¬ (j : Int) < v.length := by omega
                  obtain rfl : j = v.length := by omega
                  have hz2 : zs = toN l n 0 := by rw [hz.out, Hn.out]; rfl
                  clear hz
                  subst hz2
                  have hTl := Lib.hid (fun i => toN_len l n i)
                  obtain ⟨gt, rfl, hgt1, hgt2, _, _⟩ := hT.get (j := 0) (by rw [hTl.out]; omega)
                  have hTn : Hid (∀ i, toN l n (i + 1) = (toN l n i).set (iget l i).toNat (iget l ((i + 1) % l.length))) := fun i => rfl
                  have hsk : B3 ≤ wr.heap.size := by have := hbk.size; have := HB3.out; omega
                  rw [hTl.out] 
                  go_wp2_with fail
                  go_loopw [84] (fun t wk => ∃ i : Nat, i ≤ l.length ∧ t = .int .i64 i ∧ Own wk B3 (some ⟨gt, 0, none⟩) ct (toN l n i) ∧ Below B3 wl wk) (fun t _ => l.length - (intOf t).toNat)
                  case atStart => exact ⟨0, Nat.zero_le _, rfl, hT, hbk⟩
                  case round =>
                    clear hT hbk hsk
                    obtain ⟨i, hi, rfl, hT, hbk⟩ := hrel
                    have hsk : B3 ≤ wr.heap.size := by have := hbk.size; have := HB3.out; omega
                    by_cases hil : i < l.length
                    · have hi1 : (i : Int) < l.length := by omega
                      obtain ⟨u, hu⟩ : ∃ u, (i + 1) % l.length = u := ⟨_, rfl⟩
                      have hul : u < l.length := by rw [← hu]; exact Nat.mod_lt _ (by omega)
                      have hmod : ((i : Int) + 1) % (l.length : Int) = (u : Int) := by rw [← hu]; simp [Int.natCast_emod]
                      have hmod2 : ((i : Int) + 1).tmod (l.length : Int) = (u : Int) := by rw [Int.tmod_eq_emod_of_nonneg (by omega), hmod]
                      have hu1 : (u : Int) < l.length := by omega
                      have hu0 : (0 : Int) ≤ u := by omega
                      have hl0 : ((l.length : Int) == 0) = false := by rw [beq_eq_false_iff_ne]; omega
                      have iL := HIL.out.below hbk (Nat.le_of_eq HB3.out)
                      obtain ⟨b2, o2, rfl, _, hc2⟩ := iL.get hil
                      have hc3 := iL.at hul
                      have hr3 := iL.rng u hul
                      obtain ⟨z, hz⟩ : ∃ z : Nat, iget l i = z := ⟨(iget l i).toNat, by have := (Hlc2.out.at' i hil).1; omega⟩
                      have hzn : z < n := by have := (Hlc2.out.at' i hil).2; omega
                      have hz1 : (z : Int) < n := by omega
                      have hz0 : (0 : Int) ≤ z := by omega
                      have HTs := hTn.out i
                      rw [hu, hz, Int.toNat_natCast] at HTs
                      rw [hz] at hc2
                      obtain ⟨y, ey⟩ : ∃ y, iget l u = y := ⟨_, rfl⟩
                      rw [ey] at hc3 hr3 HTs
                      obtain ⟨_, _, hcT, hfT⟩ := own_cell hT (j := z) (by rw [hTl.out]; exact hzn)
                      have HT2 := Lib.hid ((hT.set z hr3).1)
                      have HBk := Lib.hid (hbk.setCell (p := ⟨gt, z, none⟩) hgt1 (.int .i64 y))
                      have HTs := Lib.hid HTs
                      clear hu hz ey hr3 iL hT hbk
                      go_wp2_with fail
                      go_roundw
                      case rel => exact ⟨i + 1, by omega, by go_num, by rw [HTs.out]; exact HT2.out, HBk.out⟩
                      case measure => (simp [intOf] <;> omega)
                    · have hi1 : ¬ (i : Int) < l.length := by omega
                      obtain rfl : i = l.length := by omega
                      have hO := HO.out.below hbk (Nat.le_of_eq HB3.out)
                      have hS := HS.out.below hbk (Nat.le_of_eq HB3.out)
                      have iL := HIL.out.below hbk (Nat.le_of_eq HB3.out)
                      have hbw := Hbw.out.trans (hbk.mono (by have := Hbw.out.size; omega))
                      replace bX := bX.below (by rw [HB3.out]; exact hbk)
                      clear x0
                      have x0 := bX.cell 0 _ rfl
                      have HP := HpV.out (toL l n) (some ⟨gt, 0, none⟩) ct rfl _ (Hx.out.below hbw (Nat.le_refl _)) hO.ints hT.ints
                      have HP := Lib.hid HP
                      have hT2 := (hT.lt gt rfl).2
                      have hBk := hbk.size
                      have hwB := HB3.out
                      clear hT hbk
                      obtain ⟨wk, hwk⟩ : ∃ wk : World, wk = wr := ⟨_, rfl⟩
                      rw [← hwk] at hO hS iL hbw bX x0 HP hT2 hBk ⊢
                      clear hwk
                      go_wp2_with fail
                      refine HP.out.mono ?_
                      rintro e w5 ⟨g2, c2, rfl, hO2, hb⟩
                      clear x0 HP
                      have hg2 := hO2.lt g2 rfl
                      have hO3 := hO2.lower (base' := w.heap.size + 1) (by omega)
                      replace hS := hS.below hb (Nat.le_refl _)
                      replace iL := iL.below hb (Nat.le_refl _)
                      replace bX := bX.below hb
                      replace hbw := hbw.trans (hb.mono hbw.size)
                      have hs5 := hb.size
                      clear hb hO hO2
                      have hAok2 : AlcOk v (passL A l) := ⟨by rw [passL_len]; exact HA.out.1, passL_ok Hlc.out HA.out.2⟩
                      have hR2 := run_yes hR.out Hfr.out hl.out
                      obtain ⟨A2, hA2⟩ : ∃ A2, passL A l = A2 := ⟨_, rfl⟩
                      have hAl2 : A2.length = m := by rw [← hA2, passL_len]; exact Alen.out
                      rw [hA2] at hO3 hAok2 hR2
                      have Alen2 := Lib.hid hAl2
                      have HV2 := Lib.hid (fun W hX hI => valuesR (some ⟨b, o', none⟩) c v (some ⟨g2, 0, none⟩) c2 m A2 hAl2 Hg.out hAok2 W hX hI)
                      have hSz : S.length ≤ 100 := by omega
                      have hSl1 : S.length ≤ 900000 := by omega
                      have hsp : 0 < l.length → ∀ k', blk pl = some k' → blk pz ≠ some k' := fun _ k' e1 e2 => by have := (hpl.out k' e1).1; have := (hpz.out k' e2).2; omega
                      have hw5 : w.heap.size + 1 ≤ w5.heap.size := by omega
                      have HO2 := Lib.hid hO3
                      have HS := Lib.hid hS
                      have HX := Lib.hid bX
                      have HBw := Lib.hid hbw
                      have HiL := Lib.hid iL
                      have Hsp := Lib.hid hsp
                      have HR2 := Lib.hid hR2
                      clear hA2 hAl2 hAok2 hR2 hO3 hS bX hbw iL hsp
                      go_wp2_with (at_builtin; go_loud (refine wpList_appS rfl (.tmp 108) (.tmp 111) rfl (w.heap.size + 1) _ _ S _ _ pl cl _ l rfl (-1) (-1) rfl rfl rfl HS.out HiL.out Hsp.out hSl1 hw5 ?_; intro p2 cz2 w6 u2 hu2 hS2 hg6 hf6; have hX6 := HX.out.heap hg6.size (hg6.block _ (by omega) (fun e => by have := (HS.out.lt _ e.symm).1; omega)); have x6 := hX6.cell 0 _ rfl; have hO6 := HO2.out.keptBy hg6 (fun k1 e e2 => by simp [blk] at e; subst e; have := (hpz.out _ e2).2; omega); have hB6 := below_grown HBw.out hg6 (by omega) HS.out.lt (by omega); have HCv2 := Lib.hid (HV2.out _ (Hx.out.below hB6 (Nat.le_refl _)) hO6.ints)))
                      refine HCv2.out.mono ?_
                      rintro e wf ⟨pv, cv, rfl, mV, hb⟩
                      have hneg2 : Hid (∀ k', blk p2 = some k' → k' ≠ g2) := fun k' e e2 => by
                        subst e2
                        rcases hf6 _ e with h | h
                        · have := (hpz.out _ h).2; omega
                        · omega
                      have hqg2 : Hid (∀ j, j < u2.length → 0 < (sget u2 j).1.length → ∀ k', blk (if j < S.length then Q j else pl) = some k' → k' < g2) := fun j hj hlj k' e => by
                        by_cases hjl : j < S.length
                        · simp only [hjl, if_true] at e
                          rw [hu2.out, sget_append, if_pos hjl] at hlj
                          have := hqg.out j hjl hlj k' e
                          omega
                        · simp only [hjl, if_false] at e
                          have := (hpl.out k' e).2
                          omega
                      have hO := hO6.below hb (Nat.le_refl _)
                      have hS := hS2.below hb (Nat.le_refl _)
                      have bX := hX6.below hb
                      have hbw := hB6.trans (hb.mono hB6.size)
                      have HR := HR2.out
                      rw [← hu2.out, Hx0.out, Int.toNat_natCast] at HR
                      have hu2l : u2.length ≤ 1000 := by rw [hu2.out, List.length_append, List.length_singleton]; omega
                      have hg2w : g2 < wf.heap.size := by have := hb.size; have := hg6.size; omega
                      clear hb x6 hO6 hB6 hX6 hg6 hf6 HCv2 HV2 HR2 hS2 HO2 HS HX HBw HiL
                      go_wp2_with fail
                      have HF := Lib.hid (freeR pv cv v A2 _ mV)
                      have hfr2 : in64 (freeI v A2) := by have := firstN_range (calmB v A2) v.length; unfold freeI; exact ⟨by omega, by omega⟩
                      obtain ⟨y, ey⟩ : ∃ y, freeI v A2 = y := ⟨_, rfl⟩
                      rw [ey] at HF hfr2 HR
                      have HR := Lib.hid HR
                      have Hyr := Lib.hid hfr2
                      have hszW := hbw.size
                      have Hin := Lib.hid (fun (N : Nat) => hO.drewN N)
                      obtain ⟨hgw2, hgl2, hcA, hfA⟩ := own_cell hO (j := x) (by rw [Alen2.out]; exact hxm'.out)
                      have HO := Lib.hid hO
                      have HS := Lib.hid hS
                      have HX := Lib.hid bX
                      have HBw := Lib.hid hbw
                      have hSl : (u2 : List Stp).length ≤ 900000 := by omega
                      clear ey hfr2 hO hS bX hbw mV
                      refine HF.out.mono ?_
                      rintro e wg ⟨rfl, hwg⟩
                      obtain ⟨N, rfl⟩ := hwg
                      obtain ⟨W6, hW6⟩ : ∃ W6, (wf.drewN N).setCell ⟨g2, x, none⟩ (.int .i64 y) = W6 := ⟨_, rfl⟩
                      have hO6 := ((HO.out.drewN N).set x Hyr.out).1
                      have hgr6 := ((HO.out.drewN N).set x Hyr.out).2
                      have hS6 := (HS.out.drew ⟨N, rfl⟩).kept hgr6 (fun k' e e2 => by cases e2; exact hneg2.out _ e rfl) (fun j hj hl k' e e2 => by cases e2; exact Nat.lt_irrefl _ (hqg2.out j hj hl _ e))
                      have hX6 := (HX.out.below (below_drewN _ _ N)).heap hgr6.size (heap_set_ne _ (g := g2) (x := x) (u := .int .i64 y) (by omega))
                      have hB6 := (HBw.out.drewN' N).setCell (p := ⟨g2, x, none⟩) (by simp only; omega) (.int .i64 y)
                      have hs6 : W6.heap.size = _ := (congrArg (fun W => W.heap.size) hW6).symm.trans (size_set _)
                      rw [hW6] at hO6 hS6 hX6 hB6
                      have HW6 := Lib.hid hW6
                      have HO6 := Lib.hid hO6
                      have HS6 := Lib.hid hS6
                      have HX6 := Lib.hid hX6
                      have HB6 := Lib.hid hB6
                      have Hs6 := Lib.hid hs6
                      have hs7 : w.heap.size + 1 ≤ W6.heap.size := by have := hB6.size; have := (HX6.out).lt; omega
                      clear hW6 hgr6 hO6 hS6 hX6 hB6 hs6 HO HS HX HBw
                      go_wp2_with (at_builtin; rw [HW6.out]; refine wpList_appS rfl (.tmp 124) (.tmp 131) rfl (w.heap.size + 1) _ _ u2 _ _ none 0 0 [] rfl y (x : Int) rfl rfl Hs6.out HS6.out (Ints.ofNil _) (fun h => (by simp at h)) hSl hs7 ?_; intro p3 c3 w7 u3 hu3 hS7 hg7 hf7)
                      go_roundw
                      case rel =>
                        have hzl := HS6.out.lt
                        have hgl := (HO6.out.lt g2 rfl).2
                        exact ⟨k + 1, by omega, by go_num, _, u3, g2, _, p3, c3, _, _, by unfold Hid; rw [HR.out, hu3.out], rfl, rfl, HO6.out.keptBy hg7 (fun k' e e2 => by cases e; exact hneg2.out _ e2 rfl), hS7,
                          (fun k' e => by
                            rcases hf7 k' e with h | h
                            · exact hneg2.out k' h
                            · omega),
                          (fun j hj hl k' e => by
                            rw [hu3.out] at hj hl
                            rw [List.length_append, List.length_singleton] at hj
                            rw [sget_append] at hl
                            by_cases hjl : j < (u2 : List Stp).length
                            · simp only [hjl, if_true] at hl e
                              exact hqg2.out j hjl hl k' e
                            · rw [if_neg hjl, show j - (u2 : List Stp).length = 0 by omega] at hl
                              simp [sget] at hl),
                          HX6.out.heap hg7.size (hg7.block _ (by omega) (fun e => by have := (hzl _ e.symm).1; omega)), below_grown HB6.out hg7 (by omega) hzl (by omega)⟩
                      case measure => (simp [intOf] <;> omega)
            · have hd : decide (freeI v A < 0) = false := by simpa using hfr
              have HR := run_no hR.out hfr
              rw [Hx0.out, Int.toNat_natCast] at HR
              clear hfr
              go_wp2_with fail
              refine HFr.out.mono ?_
              rintro e wf ⟨rfl, hwf⟩
              replace mV := mV.drew hwf
              replace hO := hO.drew hwf
              replace hS := hS.drew hwf
              replace bX := bX.below (drew_below hwf)
              replace hbw := hbw.drewP hwf
              clear hwf HFr
              go_wp2_with fail
              have HF := Lib.hid (freeR pv cv v A _ mV)
              have hfr2 : in64 (freeI v A) := by have := firstN_range (calmB v A) v.length; unfold freeI; exact ⟨by omega, by omega⟩
              obtain ⟨y, ey⟩ : ∃ y, freeI v A = y := ⟨_, rfl⟩
              rw [ey] at HF hfr2 HR
              have HR := Lib.hid HR
              have Hyr := Lib.hid hfr2
              have hszW := hbw.size
              have Hin := Lib.hid (fun (N : Nat) => hO.drewN N)
              obtain ⟨hgw2, hgl2, hcA, hfA⟩ := own_cell hO (j := x) (by rw [Alen.out]; exact hxm'.out)
              have HO := Lib.hid hO
              have HS := Lib.hid hS
              have HX := Lib.hid bX
              have HBw := Lib.hid hbw
              have hSl : (S : List Stp).length ≤ 900000 := by omega
              clear ey hfr2 hO hS bX hbw mV
              refine HF.out.mono ?_
              rintro e wg ⟨rfl, hwg⟩
              obtain ⟨N, rfl⟩ := hwg
              obtain ⟨W6, hW6⟩ : ∃ W6, (wf.drewN N).setCell ⟨g, x, none⟩ (.int .i64 y) = W6 := ⟨_, rfl⟩
              have hO6 := ((HO.out.drewN N).set x Hyr.out).1
              have hgr6 := ((HO.out.drewN N).set x Hyr.out).2
              have hS6 := (HS.out.drew ⟨N, rfl⟩).kept hgr6 (fun k' e e2 => by cases e2; exact hneg.out _ e rfl) (fun j hj hl k' e e2 => by cases e2; exact Nat.lt_irrefl _ (hqg.out j hj hl _ e))
              have hX6 := (HX.out.below (below_drewN _ _ N)).heap hgr6.size (heap_set_ne _ (g := g) (x := x) (u := .int .i64 y) (by omega))
              have hB6 := (HBw.out.drewN' N).setCell (p := ⟨g, x, none⟩) (by simp only; omega) (.int .i64 y)
              have hs6 : W6.heap.size = _ := (congrArg (fun W => W.heap.size) hW6).symm.trans (size_set _)
              rw [hW6] at hO6 hS6 hX6 hB6
              have HW6 := Lib.hid hW6
              have HO6 := Lib.hid hO6
              have HS6 := Lib.hid hS6
              have HX6 := Lib.hid hX6
              have HB6 := Lib.hid hB6
              have Hs6 := Lib.hid hs6
              have hs7 : w.heap.size + 1 ≤ W6.heap.size := by have := hB6.size; have := (HX6.out).lt; omega
              clear hW6 hgr6 hO6 hS6 hX6 hB6 hs6 HO HS HX HBw
              go_wp2_with (at_builtin; rw [HW6.out]; refine wpList_appS rfl (.tmp 124) (.tmp 131) rfl (w.heap.size + 1) _ _ S _ _ none 0 0 [] rfl y (x : Int) rfl rfl Hs6.out HS6.out (Ints.ofNil _) (fun h => (by simp at h)) hSl hs7 ?_; intro p3 c3 w7 u3 hu3 hS7 hg7 hf7)
              go_roundw
              case rel =>
                have hzl := HS6.out.lt
                have hgl := (HO6.out.lt g rfl).2
                exact ⟨k + 1, by omega, by go_num, _, u3, g, _, p3, c3, _, _, by unfold Hid; rw [HR.out, hu3.out], rfl, rfl, HO6.out.keptBy hg7 (fun k' e e2 => by cases e; exact hneg.out _ e2 rfl), hS7,
                  (fun k' e => by
                    rcases hf7 k' e with h | h
                    · exact hneg.out k' h
                    · omega),
                  (fun j hj hl k' e => by
                    rw [hu3.out] at hj hl
                    rw [List.length_append, List.length_singleton] at hj
                    rw [sget_append] at hl
                    by_cases hjl : j < (S : List Stp).length
                    · simp only [hjl, if_true] at hl e
                      exact hqg.out j hjl hl k' e
                    · rw [if_neg hjl, show j - (S : List Stp).length = 0 by omega] at hl
                      simp [sget] at hl),
                  HX6.out.heap hg7.size (hg7.block _ (by omega) (fun e => by have := (hzl _ e.symm).1; omega)), below_grown HB6.out hg7 (by omega) hzl (by omega)⟩
              case measure => (simp [intOf] <;> omega)
          · have hk1 : ¬ (k : Int) < o.length := by omega
            obtain rfl : k = o.length := by omega
            have HL : Hid (runA v (o) = A) := by unfold Hid runA; rw [if_pos HE.out, hR.out]
            have HLS : Hid (runS v o = S) := by unfold Hid runS; rw [if_pos HE.out, hR.out]
            have hAl : Hid (A.length = m) := by
              have := (Hrt.out o.length (Nat.le_refl _)).1.1
              rw [hR.out] at this
              exact this.trans Hm.out
            go_wp2_with fail
            go_ret3
            rw [HL.out, HLS.out, HE.out]
            exact ⟨_, cA, pz, cz, Q, D, by rw [hAl.out]; rfl, hO.lower (by omega), hS.lower (by omega), hbw⟩
  · have hgz : (chkG v != 0) = true := by rw [bne_iff_ne]; exact hG
    have HE : Hid (runE v o = chkG v) := by unfold Hid runE; rw [if_neg hG]
    have HL : Hid (runA v o = []) := by unfold Hid runA; rw [HE.out, if_neg hG]
    have HLT : Hid (runS v o = []) := by unfold Hid runS; rw [HE.out, if_neg hG]
    clear hG
    go_wp2_with fail
    go_ret3
    rw [HL.out, HLT.out, HE.out]
    exact ⟨none, 0, none, 0, fun _ => none, fun _ => 0, rfl, Own.ofNil _ _, OwnS.ofNil _ _, hB⟩
end Go.Proofs.YtmcncflieoolmaaGreat
