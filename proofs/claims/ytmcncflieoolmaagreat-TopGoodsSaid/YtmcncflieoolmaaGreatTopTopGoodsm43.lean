/- The walk of the law TopGoods: for every goods, first round and allocation it returns true, and changes nothing that was there.  (Printed by wip/genlawgoods.py.) -/
import Derived.Test.YtmcncflieoolmaaGreatTopTopGoodsm15
import Derived.Test.YtmcncflieoolmaaGreatTopTopGoodsm23
import Derived.Test.YtmcncflieoolmaaGreatTopTopGoodsm37
import Derived.Test.YtmcncflieoolmaaGreatTopTopGoodsm41
import Derived.Test.YtmcncflieoolmaaGreatTopTopGoodsm42
import Derived.Test.YtmcncflieoolmaaGreatTopTopGoodsm7
import Derived.Test.YtmcncflieoolmaaGreatTopTopGoodsm9
/- The walk of the law TopGoods: for every goods, first round and allocation it returns true, and changes nothing that was there.  (Printed by wip/genlawgoods.py.) -/
namespace Go.Proofs.YtmcncflieoolmaaGreat
set_option linter.unusedVariables false
set_option linter.unusedSimpArgs false
open Go.ChangeShapes Go.WideShapes Go.ChangeAt Go.RowKit Go.Deep

theorem pick_as2 {v : List (List Int)} {ts A : List Int} {m : Nat} (hg : chkG v = 0) (ht : chkT v.length ts = 0) (hl : ts.length = m) (hA : pkA v ts ts.length = A) (hAl : A.length = m) (p q : Option Addr) (c d : Nat) (w : World) (hx : Mat w p c v) (hy : Ints w q d ts) :
    Calls Tryz.prog 11 #[.agg #[.slice p v.length c], .slice q m d] w fun e w' => ∃ pa ca pt ct nt, e = .returned (.tuple #[.slice pa m ca, .slice pt nt ct, .int .i64 0]) ∧ Ints w' pa ca A ∧ Below w.heap.size w w' := by
  have hE : pickE v ts = 0 := by rw [pickE_ok hg]; exact ht
  have hL : pickL v ts = A := by unfold pickL; rw [if_pos hE, hA]
  subst hl
  refine (robinPick_any p q c d v ts w hx hy).mono ?_
  rintro e w' ⟨pa, ca, pt, ct, rfl, oA, oT, hb⟩
  rw [hL] at oA ⊢
  rw [hE, hAl]
  exact ⟨pa, ca, pt, ct, _, rfl, oA.ints, hb⟩
theorem isA_ofB {f : List Int} {n : Nat} (h : isAB f n = true) : IsA f n := by
  apply Classical.byContradiction
  intro hn
  rw [isAB_false hn] at h
  cases h
theorem ordT_id {v : List (List Int)} {m : Nat} (hm : wid v = m) : OrdT (idL m) (wid v) := by rw [hm]; exact ordT_of (ordP_id m)
theorem mem_idL {m j : Nat} (h : j < m) : (j : Int) ∈ idL m := by
  unfold idL
  exact List.mem_map.2 ⟨j, List.mem_range.2 h, rfl⟩
theorem above_le {v : List (List Int)} {a b : List Int} (h : AboveP (ownL v a) (ownL v b)) : ∀ k, k < v.length → worth v a k (k : Int) ≤ worth v b k (k : Int) := fun k hk => by
  have := h.1 k (by rw [ownL_len]; exact hk)
  rw [ownL_get hk, ownL_get hk] at this
  exact this
theorem above_lt {v : List (List Int)} {a b : List Int} (h : AboveP (ownL v a) (ownL v b)) : ∃ k, k < v.length ∧ worth v a k (k : Int) < worth v b k (k : Int) := by
  apply Classical.byContradiction
  intro hno
  refine h.2 (ext_iget (by rw [ownL_len, ownL_len]) fun k hk => ?_)
  rw [ownL_len] at hk
  have h1 := above_le h k hk
  rw [ownL_get hk, ownL_get hk]
  by_cases e : worth v a k (k : Int) < worth v b k (k : Int)
  · exact absurd ⟨k, hk, e⟩ hno
  · omega
theorem run_as2 {v : List (List Int)} {m : Nat} (hg : Gds v) (hm : wid v = m) (p q : Option Addr) (c d : Nat) (w : World) (hx : Mat w p c v) (hy : Ints w q d (idL m)) :
    Calls Tryz.prog 12 #[.agg #[.slice p v.length c], .slice q m d] w fun e w' => ∃ p' c' A ps ns cs, e = .returned (.tuple #[.slice p' m c', .slice ps ns cs, .int .i64 0]) ∧ Ints w' p' c' A ∧ RunTo v (idL m) A ∧ Below w.heap.size w w' := by
  have h := roundsRun_any p q c d v (idL m) w hx hy hg (by rw [hm]; exact ordP_id m)
  rw [idL_len] at h
  refine h.mono ?_
  rintro e w' ⟨p', c', A, ps, ns, cs, rfl, hO, hR, hb⟩
  have hl : A.length = m := by rw [(run_inv hg hR (ordT_id hm)).ok.1, hm]
  rw [hl]
  exact ⟨p', c', A, ps, ns, cs, rfl, hO.ints, hR, hb⟩
set_option maxHeartbeats 16000000 in
set_option maxRecDepth 100000 in
theorem topGoods_walk (p : Option Addr) (c : Nat) (v : List (List Int)) (s : Option Addr) (u : Nat) (f : List Int) (q : Option Addr) (d : Nat) (a : List Int) (w : World) (hx : Mat w p c v) (hz : Ints w s u f) (hy : Ints w q d a) :
    Calls Tryz.prog 3 #[.agg #[.slice p v.length c], .slice s f.length u, .slice q a.length d] w fun e w' => e = .returned (.bool true) ∧ Below w.heap.size w w' := by
  obtain ⟨W0, hW0⟩ : ∃ W0, w.alloc (.cells #[.slice p v.length c] 24) = W0 := ⟨_, rfl⟩
  have hB : Below w.heap.size w W0 := below_alloc hW0
  have bX : BoxV W0 w.heap.size [.slice p v.length c] := BoxV.new rfl hW0
  have hx := hx.below hB (Nat.le_refl _)
  have hz := hz.below hB (Nat.le_refl _)
  have hy := hy.below hB (Nat.le_refl _)
  have HX := Lib.hid hx
  have HZ := Lib.hid hz
  have HY := Lib.hid hy
  have HW0 := Lib.hid hW0
  have HB : Hid (Below W0.heap.size W0 W0) := Below.refl _ _
  have hl1 := hx.length_le
  have hl2 := hy.length_le
  obtain ⟨m, em⟩ : ∃ m, a.length = m := ⟨_, rfl⟩
  obtain ⟨kf, ekf⟩ : ∃ kf, f.length = kf := ⟨_, rfl⟩
  rw [em, ekf]
  rw [em] at hl2
  have Hem := Lib.hid em
  have Hekf := Lib.hid ekf
  clear hW0 hx hz hy em ekf
  go_enter Tryz.func3, Tryz.ntmps3
  have x0 : True := trivial
  go_upto_region 1 with (fail)
  rw [HW0.out]
  have K := aliveTop24_any W0
  go_wp2_with fail
  refine K.mono ?_
  rintro e w1 ⟨rfl, hbn⟩
  have hbb := HB.out.trans (hbn.mono HB.out.size)
  have HX := Lib.hid (HX.out.below hbn (Nat.le_refl _))
  have HZ := Lib.hid (HZ.out.below hbn (Nat.le_refl _))
  have HY := Lib.hid (HY.out.below hbn (Nat.le_refl _))
  clear K x0 hbn HB 
  have x0 := (bX.below hbb).cell 0 _ rfl
  have HB := Lib.hid hbb
  clear hbb
  have K := great16_any p q c d v a _ HX.out
  rw [Hem.out] at K
  go_wp2_with fail
  refine K.mono ?_
  rintro e w2 ⟨rfl, hbn⟩
  have hbb := HB.out.trans (hbn.mono HB.out.size)
  have HX := Lib.hid (HX.out.below hbn (Nat.le_refl _))
  have HZ := Lib.hid (HZ.out.below hbn (Nat.le_refl _))
  have HY := Lib.hid (HY.out.below hbn (Nat.le_refl _))
  clear K x0 hbn HB 
  have x0 := (bX.below hbb).cell 0 _ rfl
  have HB := Lib.hid hbb
  clear hbb
  cases hG : greatG v a with
  | true =>
    clear hG
    go_wp2_with fail
    go_ret
    exact ⟨rfl, hB.trans (HB.out.mono hB.size)⟩
  | false =>
    clear hG
    have K := ref16Valid_any p c v q d a _ HX.out HY.out
    rw [Hem.out] at K
    go_wp2_with fail
    refine K.mono ?_
    rintro e w3 ⟨rfl, hbn⟩
    have hbb := HB.out.trans (hbn.mono HB.out.size)
    have HX := Lib.hid (HX.out.below hbn (Nat.le_refl _))
    have HZ := Lib.hid (HZ.out.below hbn (Nat.le_refl _))
    have HY := Lib.hid (HY.out.below hbn (Nat.le_refl _))
    clear K x0 hbn HB 
    have x0 := (bX.below hbb).cell 0 _ rfl
    have HB := Lib.hid hbb
    clear hbb
    by_cases hV : chkA v a = 0
    · have hVb : (chkA v a != 0) = false := by rw [hV]; rfl
      have HV := Lib.hid hV
      clear hV
      have K := complete_any q d a _ HY.out
      rw [Hem.out] at K
      go_wp2_with fail
      refine K.mono ?_
      rintro e w9 ⟨rfl, rfl⟩
      clear K
      cases hC : decide (complP a) with
      | false =>
        clear hC
        go_wp2_with fail
        go_ret
        exact ⟨rfl, hB.trans (HB.out.mono hB.size)⟩
      | true =>
        have hC2 : complP a := of_decide_eq_true hC
        have HC := Lib.hid hC2
        clear hC hC2
        have K := assigned_any s u f v.length _ (by omega) HZ.out
        rw [Hekf.out] at K
        go_wp2_with fail
        refine K.mono ?_
        rintro e w9 ⟨rfl, rfl⟩
        clear K
        cases hI : isAB f v.length with
        | false =>
          clear hI
          go_wp2_with fail
          go_ret
          exact ⟨rfl, hB.trans (HB.out.mono hB.size)⟩
        | true =>
          have HI := Lib.hid hI
          clear hI
          by_cases h4 : v.length ≤ 4
          · have h4d : decide ((4 : Int) < (v.length : Int)) = false := by rw [decide_eq_false_iff_not]; omega
            have h4n : decide (4 < v.length) = false := by rw [decide_eq_false_iff_not]; omega
            by_cases h6 : m ≤ 6
            · have h6d : decide ((6 : Int) < (m : Int)) = false := by rw [decide_eq_false_iff_not]; omega
              have h6n : decide (6 < m) = false := by rw [decide_eq_false_iff_not]; omega
              obtain ⟨hg, ha⟩ := chkA_zero.1 HV.out
              have em := Hem.out
              have hm : wid v = m := by rw [← ha.1, em]
              have hw6 : wid v ≤ 6 := by omega
              have hfull : FullA v.length a := fun j hj => ⟨HC.out j hj, (ha.2 j hj).2⟩
              have hIs : IsA f v.length := isA_ofB HI.out
              have hcg := chkG_ok hg
              have ekf := Hekf.out
              have hn0 : 0 < v.length := hg.1
              -- the picks
              obtain ⟨k1, k2, k3, k4⟩ := pick_full hg hIs
              rw [hm] at k1 k2 k3 k4
              obtain ⟨ts, ets⟩ : ∃ ts, seqL f false m = ts := ⟨_, rfl⟩
              obtain ⟨A1, eA1⟩ : ∃ A, pkA v ts ts.length = A := ⟨_, rfl⟩
              rw [ets] at k1 k2 k3 k4
              rw [eA1] at k2 k3 k4
              have hts : ts.length = m := by rw [← ets, seqL_len]
              have hA1 : A1.length = m := by rw [k2.1, hm]
              have CT := Lib.hid (fun W (hX : Mat W p c v) => tries_any p c v W hX hn0 h4 hw6)
              have CR := Lib.hid (fun W (hZ : Ints W s u f) => by
                have := rounds_c2 v.length m kf f s u hIs ekf hg.1 hg.2.1 (by omega) W hZ
                rw [ets] at this
                exact this)
              have CP := Lib.hid (fun W pt ct (hX : Mat W p c v) (hT : Ints W pt ct ts) => pick_as2 hcg k1 hts eA1 hA1 p pt c ct W hX hT)
              have CH1 := Lib.hid (fun W pt ct (hX : Mat W p c v) (hI : Ints W pt ct A1) => shared_walk p c v pt ct m A1 W hX hI hA1 hg k2 k3 k4)
              -- the rounds
              have CU := Lib.hid (fun W pt ct (hX : Mat W p c v) (hI : Ints W pt ct (idL m)) => run_as2 hg hm p pt c ct W hX hI)
              have CH2 := Lib.hid (fun W pt ct (A2 : List Int) (hR : RunTo v (idL m) A2) (hX : Mat W p c v) (hI : Ints W pt ct A2) => by
                have hinv := run_inv hg hR (ordT_id hm)
                exact shared_walk p c v pt ct m A2 W hX hI (by rw [hinv.ok.1, hm]) hg hinv.ok (fun j hj => ⟨(hinv.got j (by rw [← hinv.ok.1]; exact hj)).2 (mem_idL (by rw [hinv.ok.1, hm] at hj; exact hj)), (hinv.ok.2 j hj).2⟩) (ef_calm hinv.ef))
              -- the Nash allocation
              have CN := Lib.hid (fun W (hX : Mat W p c v) => by
                have := nashBest_any p c v W hX hg h4 hw6
                rw [hm] at this
                exact this)
              have CH3 := Lib.hid (fun W pt ct (B : List Int) (hD : DigL v.length m B) (hK : ∀ C, DigL v.length m C → keyLe v C B) (hX : Mat W p c v) (hI : Ints W pt ct B) => by
                rw [← hm] at hD hK
                have hal : AlcOk v B := ⟨hD.1, fun j hj => by have := hD.2 j (by rw [← hD.1]; exact hj); omega⟩
                exact shared_walk p c v pt ct m B W hX hI (by rw [hD.1, hm]) hg hal (fun j hj => hD.2 j (by rw [← hD.1]; exact hj)) (ef_calm (nash_ef1 hg hD hK)))
              have CF1 := Lib.hid (fun W pt ct (B : List Int) (hD : DigL v.length m B) (hK : ∀ C, DigL v.length m C → keyLe v C B) (hX : Mat W p c v) (hI : Ints W pt ct B) => by
                rw [← hm] at hD hK
                have hal : AlcOk v B := ⟨hD.1, fun j hj => by have := hD.2 j (by rw [← hD.1]; exact hj); omega⟩
                have := find_none p c v pt ct B W hX hI (chkA_ok hg hal) h4 hw6 (fun C hC => nash_top hg hal hK hC)
                rw [hD.1, hm] at this
                exact this)
              have CC := Lib.hid (fun W (hX : Mat W p c v) (hI : Ints W q d a) => by
                have := chain_any p c v q d a W hX hI HV.out h4 hw6
                rw [em] at this
                exact this)
              have CV2 := Lib.hid (fun W pt ct (E : List Int) (hE : AlcOk v E) (hX : Mat W p c v) (hI : Ints W pt ct E) => by
                have := ref16Valid_any p c v pt ct E W hX hI
                rw [chkA_ok hg hE, hE.1, hm] at this
                exact this)
              have CF2 := Lib.hid (fun W pt ct (E : List Int) (hE : AlcOk v E) (hno : ∀ b, DigL v.length (wid v) b → ¬ AboveP (ownL v E) (ownL v b)) (hX : Mat W p c v) (hI : Ints W pt ct E) => by
                have := find_none p c v pt ct E W hX hI (chkA_ok hg hE) h4 hw6 hno
                rw [hE.1, hm] at this
                exact this)
              have CA := Lib.hid (fun W pt ct (E : List Int) (hE : AlcOk v E) (hab : AboveP (ownL v a) (ownL v E)) (hX : Mat W p c v) (hA : Ints W q d a) (hI : Ints W pt ct E) => above22_any p c v q pt d ct m a E W hX hA hI hg ha hE em (by rw [hE.1, hm]) (above_le hab) (above_lt hab))
              have CS := Lib.hid (fun W (hX : Mat W p c v) (hI : Ints W q d a) => split_walk p c v q d m a W hX hI em hg ha hfull h4 hw6)
              have CW := Lib.hid (fun W pt ct (hX : Mat W p c v) (hZ : Ints W s u f) (hI : Ints W pt ct (idL m)) => worked_walk p c v s u kf f pt ct m (idL m) W hX hZ hI hg hIs ekf hm rfl)
              have hm6 : m ≤ 6 := by omega
              have Hm := Lib.hid hm
              have Hha := Lib.hid ha
              have HD1 : Hid (∀ E, DigL v.length (wid v) E → AlcOk v E) := fun E hD => ⟨hD.1, fun j hj => by have := hD.2 j (by rw [← hD.1]; exact hj); omega⟩
              clear hg ha hm hw6 hfull hIs hcg k1 k2 k3 k4 ets eA1 hts hA1 hn0 em ekf
              have K := CT.out _ HX.out
              go_wp2_with fail
              refine K.mono ?_
              rintro e w4 ⟨rfl, hbn⟩
              have hbb := HB.out.trans (hbn.mono HB.out.size)
              have HX := Lib.hid (HX.out.below hbn (Nat.le_refl _))
              have HZ := Lib.hid (HZ.out.below hbn (Nat.le_refl _))
              have HY := Lib.hid (HY.out.below hbn (Nat.le_refl _))
              clear K x0 hbn HB 
              have x0 := (bX.below hbb).cell 0 _ rfl
              have HB := Lib.hid hbb
              clear hbb
              have K := CR.out _ HZ.out
              go_wp2_with fail
              refine K.mono ?_
              rintro e w5 ⟨pT, cT, rfl, iT, hbn⟩
              have hbb := HB.out.trans (hbn.mono HB.out.size)
              have HX := Lib.hid (HX.out.below hbn (Nat.le_refl _))
              have HZ := Lib.hid (HZ.out.below hbn (Nat.le_refl _))
              have HY := Lib.hid (HY.out.below hbn (Nat.le_refl _))
              have IT := Lib.hid (iT)
              clear K x0 hbn HB iT
              have x0 := (bX.below hbb).cell 0 _ rfl
              have HB := Lib.hid hbb
              clear hbb
              have K := CP.out _ pT cT HX.out IT.out
              go_wp2_with fail
              refine K.mono ?_
              rintro e w6 ⟨pA, cA, pt, ct, nt, rfl, iA, hbn⟩
              have hbb := HB.out.trans (hbn.mono HB.out.size)
              have HX := Lib.hid (HX.out.below hbn (Nat.le_refl _))
              have HZ := Lib.hid (HZ.out.below hbn (Nat.le_refl _))
              have HY := Lib.hid (HY.out.below hbn (Nat.le_refl _))
              have IT := Lib.hid (IT.out.below hbn (Nat.le_refl _))
              have IA := Lib.hid (iA)
              clear K x0 hbn HB iA
              have x0 := (bX.below hbb).cell 0 _ rfl
              have HB := Lib.hid hbb
              clear hbb
              go_wp2_with fail
              go_loopw [14, 13] (fun t s wr => ∃ k : Nat, k ≤ m ∧ t = .int .i64 (k : Int) ∧ ∃ po co zs, s = .slice po zs.length co ∧ Hid (zs = idL k) ∧ Own wr w6.heap.size po co zs ∧ Below w6.heap.size w6 wr) (fun t _ _ => m - (intOf t).toNat)
              case atStart => exact ⟨0, Nat.zero_le _, rfl, none, 0, [], rfl, rfl, Own.ofNil _ _, Below.refl _ _⟩
              case round =>
                obtain ⟨k, hk, rfl, po, co, zs, rfl, hz, hO, hbr⟩ := hrel
                by_cases hlt : k < m
                · have hk1 : (k : Int) < (m : Int) := by omega
                  have ik : in64 (k : Int) := ⟨by omega, by omega⟩
                  have hzl : zs.length ≤ 900000 := by rw [hz.out, idL_len]; omega
                  have hsz := hbr.size
                  have HO := Lib.hid hO
                  have HBR := Lib.hid hbr
                  clear hO hbr
                  go_wp2_with (at_builtin; refine wpList_app1 rfl (.tmp 91) (.tmp 93) rfl w6.heap.size _ _ zs (k : Int) rfl rfl rfl HO.out ik hzl hsz ?_; intro q3 d3 w3 zs3 hz3 hO3 hg3 hf3)
                  go_roundw
                  case rel => exact ⟨k + 1, by omega, by go_num, q3, d3, zs3, rfl, by unfold Hid; rw [hz3.out, hz.out, idL_snoc], hO3, below_grown HBR.out hg3 hsz HO.out.lt (Nat.le_refl _)⟩
                  case measure => simp [intOf]; omega
                · have hk1 : ¬ (k : Int) < (m : Int) := by omega
                  obtain rfl : k = m := by omega
                  have hz := hz.out
                  subst hz
                  have iO := hO.ints
                  have hbb := HB.out.trans (hbr.mono HB.out.size)
                  have HX := Lib.hid (HX.out.below hbr (Nat.le_refl _))
                  have HZ := Lib.hid (HZ.out.below hbr (Nat.le_refl _))
                  have HY := Lib.hid (HY.out.below hbr (Nat.le_refl _))
                  have IT := Lib.hid (IT.out.below hbr (Nat.le_refl _))
                  have IA := Lib.hid (IA.out.below hbr (Nat.le_refl _))
                  have IO := Lib.hid iO
                  rw [idL_len]
                  clear iO hO hbr x0 HB
                  have x0 := (bX.below hbb).cell 0 _ rfl
                  have HB := Lib.hid hbb
                  clear hbb
                  have K := CU.out _ po co HX.out IO.out
                  go_wp2_with fail
                  refine K.mono ?_
                  rintro e w7 ⟨p2, c2, A2, ps2, ns2, cs2, rfl, iA2, hR2, hbn⟩
                  have hbb := HB.out.trans (hbn.mono HB.out.size)
                  have HX := Lib.hid (HX.out.below hbn (Nat.le_refl _))
                  have HZ := Lib.hid (HZ.out.below hbn (Nat.le_refl _))
                  have HY := Lib.hid (HY.out.below hbn (Nat.le_refl _))
                  have IT := Lib.hid (IT.out.below hbn (Nat.le_refl _))
                  have IA := Lib.hid (IA.out.below hbn (Nat.le_refl _))
                  have IO := Lib.hid (IO.out.below hbn (Nat.le_refl _))
                  have IA2 := Lib.hid (iA2)
                  clear K x0 hbn HB iA2
                  have x0 := (bX.below hbb).cell 0 _ rfl
                  have HB := Lib.hid hbb
                  clear hbb
                  have HR2 := Lib.hid hR2
                  clear hR2
                  have K := CN.out _ HX.out
                  go_wp2_with fail
                  refine K.mono ?_
                  rintro e w8 ⟨B, pB, cB, x1, x2, x3, rfl, iB, hD, hKm, hbn⟩
                  have hbb := HB.out.trans (hbn.mono HB.out.size)
                  have HX := Lib.hid (HX.out.below hbn (Nat.le_refl _))
                  have HZ := Lib.hid (HZ.out.below hbn (Nat.le_refl _))
                  have HY := Lib.hid (HY.out.below hbn (Nat.le_refl _))
                  have IT := Lib.hid (IT.out.below hbn (Nat.le_refl _))
                  have IA := Lib.hid (IA.out.below hbn (Nat.le_refl _))
                  have IO := Lib.hid (IO.out.below hbn (Nat.le_refl _))
                  have IA2 := Lib.hid (IA2.out.below hbn (Nat.le_refl _))
                  have IB := Lib.hid (iB)
                  clear K x0 hbn HB iB
                  have x0 := (bX.below hbb).cell 0 _ rfl
                  have HB := Lib.hid hbb
                  clear hbb
                  have HD := Lib.hid hD
                  have HKm := Lib.hid hKm
                  clear hD hKm
                  go_upto_region 13 with (fail)
                  obtain ⟨wn, hwn⟩ : ∃ W, w8.alloc (.cells #[.int .i64 x1, .int .i64 x2, .int .i64 x3] 41) = W := ⟨_, rfl⟩
                  have hbn : Below w8.heap.size w8 wn := below_alloc hwn
                  rw [hwn]
                  clear hwn
                  have hbb := HB.out.trans (hbn.mono HB.out.size)
                  have HX := Lib.hid (HX.out.below hbn (Nat.le_refl _))
                  have HZ := Lib.hid (HZ.out.below hbn (Nat.le_refl _))
                  have HY := Lib.hid (HY.out.below hbn (Nat.le_refl _))
                  have IT := Lib.hid (IT.out.below hbn (Nat.le_refl _))
                  have IA := Lib.hid (IA.out.below hbn (Nat.le_refl _))
                  have IO := Lib.hid (IO.out.below hbn (Nat.le_refl _))
                  have IA2 := Lib.hid (IA2.out.below hbn (Nat.le_refl _))
                  have IB := Lib.hid (IB.out.below hbn (Nat.le_refl _))
                  clear hbn x0 HB
                  have x0 := (bX.below hbb).cell 0 _ rfl
                  have HB := Lib.hid hbb
                  clear hbb
                  have K := CH1.out _ pA cA HX.out IA.out
                  go_wp2_with fail
                  refine K.mono ?_
                  rintro e w9 ⟨rfl, hbn⟩
                  have hbb := HB.out.trans (hbn.mono HB.out.size)
                  have HX := Lib.hid (HX.out.below hbn (Nat.le_refl _))
                  have HZ := Lib.hid (HZ.out.below hbn (Nat.le_refl _))
                  have HY := Lib.hid (HY.out.below hbn (Nat.le_refl _))
                  have IT := Lib.hid (IT.out.below hbn (Nat.le_refl _))
                  have IA := Lib.hid (IA.out.below hbn (Nat.le_refl _))
                  have IO := Lib.hid (IO.out.below hbn (Nat.le_refl _))
                  have IA2 := Lib.hid (IA2.out.below hbn (Nat.le_refl _))
                  have IB := Lib.hid (IB.out.below hbn (Nat.le_refl _))
                  clear K x0 hbn HB 
                  have x0 := (bX.below hbb).cell 0 _ rfl
                  have HB := Lib.hid hbb
                  clear hbb
                  have K := CH2.out _ p2 c2 A2 HR2.out HX.out IA2.out
                  go_wp2_with fail
                  refine K.mono ?_
                  rintro e w10 ⟨rfl, hbn⟩
                  have hbb := HB.out.trans (hbn.mono HB.out.size)
                  have HX := Lib.hid (HX.out.below hbn (Nat.le_refl _))
                  have HZ := Lib.hid (HZ.out.below hbn (Nat.le_refl _))
                  have HY := Lib.hid (HY.out.below hbn (Nat.le_refl _))
                  have IT := Lib.hid (IT.out.below hbn (Nat.le_refl _))
                  have IA := Lib.hid (IA.out.below hbn (Nat.le_refl _))
                  have IO := Lib.hid (IO.out.below hbn (Nat.le_refl _))
                  have IA2 := Lib.hid (IA2.out.below hbn (Nat.le_refl _))
                  have IB := Lib.hid (IB.out.below hbn (Nat.le_refl _))
                  clear K x0 hbn HB 
                  have x0 := (bX.below hbb).cell 0 _ rfl
                  have HB := Lib.hid hbb
                  clear hbb
                  have K := CH3.out _ pB cB B HD.out HKm.out HX.out IB.out
                  go_wp2_with fail
                  refine K.mono ?_
                  rintro e w11 ⟨rfl, hbn⟩
                  have hbb := HB.out.trans (hbn.mono HB.out.size)
                  have HX := Lib.hid (HX.out.below hbn (Nat.le_refl _))
                  have HZ := Lib.hid (HZ.out.below hbn (Nat.le_refl _))
                  have HY := Lib.hid (HY.out.below hbn (Nat.le_refl _))
                  have IT := Lib.hid (IT.out.below hbn (Nat.le_refl _))
                  have IA := Lib.hid (IA.out.below hbn (Nat.le_refl _))
                  have IO := Lib.hid (IO.out.below hbn (Nat.le_refl _))
                  have IA2 := Lib.hid (IA2.out.below hbn (Nat.le_refl _))
                  have IB := Lib.hid (IB.out.below hbn (Nat.le_refl _))
                  clear K x0 hbn HB 
                  have x0 := (bX.below hbb).cell 0 _ rfl
                  have HB := Lib.hid hbb
                  clear hbb
                  have K := CF1.out _ pB cB B HD.out HKm.out HX.out IB.out
                  go_wp2_with fail
                  refine K.mono ?_
                  rintro e w12 ⟨rfl, hbn⟩
                  have hbb := HB.out.trans (hbn.mono HB.out.size)
                  have HX := Lib.hid (HX.out.below hbn (Nat.le_refl _))
                  have HZ := Lib.hid (HZ.out.below hbn (Nat.le_refl _))
                  have HY := Lib.hid (HY.out.below hbn (Nat.le_refl _))
                  have IT := Lib.hid (IT.out.below hbn (Nat.le_refl _))
                  have IA := Lib.hid (IA.out.below hbn (Nat.le_refl _))
                  have IO := Lib.hid (IO.out.below hbn (Nat.le_refl _))
                  have IA2 := Lib.hid (IA2.out.below hbn (Nat.le_refl _))
                  have IB := Lib.hid (IB.out.below hbn (Nat.le_refl _))
                  clear K x0 hbn HB 
                  have x0 := (bX.below hbb).cell 0 _ rfl
                  have HB := Lib.hid hbb
                  clear hbb
                  have K := CC.out _ HX.out HY.out
                  go_wp2_with fail
                  refine K.mono ?_
                  rintro e w13 ⟨L, cu, pL, cL, rfl, mL, hL, hno, hbn⟩
                  have hbb := HB.out.trans (hbn.mono HB.out.size)
                  have HX := Lib.hid (HX.out.below hbn (Nat.le_refl _))
                  have HZ := Lib.hid (HZ.out.below hbn (Nat.le_refl _))
                  have HY := Lib.hid (HY.out.below hbn (Nat.le_refl _))
                  have IT := Lib.hid (IT.out.below hbn (Nat.le_refl _))
                  have IA := Lib.hid (IA.out.below hbn (Nat.le_refl _))
                  have IO := Lib.hid (IO.out.below hbn (Nat.le_refl _))
                  have IA2 := Lib.hid (IA2.out.below hbn (Nat.le_refl _))
                  have IB := Lib.hid (IB.out.below hbn (Nat.le_refl _))
                  have ML := Lib.hid (mL)
                  clear K x0 hbn HB mL
                  have x0 := (bX.below hbb).cell 0 _ rfl
                  have HB := Lib.hid hbb
                  clear hbb
                  have Hno := Lib.hid hno
                  have hL1 := hL.1
                  clear hno hL
                  rcases hL1 with ⟨hLe, hcu⟩ | ⟨h0, hlast, hDc, hAb⟩
                  · subst hLe hcu
                    have K := CV2.out _ q d cu Hha.out HX.out HY.out
                    go_wp2_with fail
                    refine K.mono ?_
                    rintro e w14 ⟨rfl, hbn⟩
                    have hbb := HB.out.trans (hbn.mono HB.out.size)
                    have HX := Lib.hid (HX.out.below hbn (Nat.le_refl _))
                    have HZ := Lib.hid (HZ.out.below hbn (Nat.le_refl _))
                    have HY := Lib.hid (HY.out.below hbn (Nat.le_refl _))
                    have IT := Lib.hid (IT.out.below hbn (Nat.le_refl _))
                    have IA := Lib.hid (IA.out.below hbn (Nat.le_refl _))
                    have IO := Lib.hid (IO.out.below hbn (Nat.le_refl _))
                    have IA2 := Lib.hid (IA2.out.below hbn (Nat.le_refl _))
                    have IB := Lib.hid (IB.out.below hbn (Nat.le_refl _))
                    have ML := Lib.hid (ML.out.below hbn (Nat.le_refl _))
                    clear K x0 hbn HB 
                    have x0 := (bX.below hbb).cell 0 _ rfl
                    have HB := Lib.hid hbb
                    clear hbb
                    have K := CF2.out _ q d cu Hha.out Hno.out HX.out HY.out
                    go_wp2_with fail
                    refine K.mono ?_
                    rintro e w15 ⟨rfl, hbn⟩
                    have hbb := HB.out.trans (hbn.mono HB.out.size)
                    have HX := Lib.hid (HX.out.below hbn (Nat.le_refl _))
                    have HZ := Lib.hid (HZ.out.below hbn (Nat.le_refl _))
                    have HY := Lib.hid (HY.out.below hbn (Nat.le_refl _))
                    have IT := Lib.hid (IT.out.below hbn (Nat.le_refl _))
                    have IA := Lib.hid (IA.out.below hbn (Nat.le_refl _))
                    have IO := Lib.hid (IO.out.below hbn (Nat.le_refl _))
                    have IA2 := Lib.hid (IA2.out.below hbn (Nat.le_refl _))
                    have IB := Lib.hid (IB.out.below hbn (Nat.le_refl _))
                    have ML := Lib.hid (ML.out.below hbn (Nat.le_refl _))
                    clear K x0 hbn HB 
                    have x0 := (bX.below hbb).cell 0 _ rfl
                    have HB := Lib.hid hbb
                    clear hbb
                    have K := CS.out _ HX.out HY.out
                    go_wp2_with fail
                    refine K.mono ?_
                    rintro e w16 ⟨rfl, hbn⟩
                    have hbb := HB.out.trans (hbn.mono HB.out.size)
                    have HX := Lib.hid (HX.out.below hbn (Nat.le_refl _))
                    have HZ := Lib.hid (HZ.out.below hbn (Nat.le_refl _))
                    have HY := Lib.hid (HY.out.below hbn (Nat.le_refl _))
                    have IT := Lib.hid (IT.out.below hbn (Nat.le_refl _))
                    have IA := Lib.hid (IA.out.below hbn (Nat.le_refl _))
                    have IO := Lib.hid (IO.out.below hbn (Nat.le_refl _))
                    have IA2 := Lib.hid (IA2.out.below hbn (Nat.le_refl _))
                    have IB := Lib.hid (IB.out.below hbn (Nat.le_refl _))
                    have ML := Lib.hid (ML.out.below hbn (Nat.le_refl _))
                    clear K x0 hbn HB 
                    have x0 := (bX.below hbb).cell 0 _ rfl
                    have HB := Lib.hid hbb
                    clear hbb
                    have K := CW.out _ po co HX.out HZ.out IO.out
                    go_wp2_with fail
                    refine K.mono ?_
                    rintro e w17 ⟨rfl, hbn⟩
                    have hbb := HB.out.trans (hbn.mono HB.out.size)
                    have HX := Lib.hid (HX.out.below hbn (Nat.le_refl _))
                    have HZ := Lib.hid (HZ.out.below hbn (Nat.le_refl _))
                    have HY := Lib.hid (HY.out.below hbn (Nat.le_refl _))
                    have IT := Lib.hid (IT.out.below hbn (Nat.le_refl _))
                    have IA := Lib.hid (IA.out.below hbn (Nat.le_refl _))
                    have IO := Lib.hid (IO.out.below hbn (Nat.le_refl _))
                    have IA2 := Lib.hid (IA2.out.below hbn (Nat.le_refl _))
                    have IB := Lib.hid (IB.out.below hbn (Nat.le_refl _))
                    have ML := Lib.hid (ML.out.below hbn (Nat.le_refl _))
                    clear K x0 hbn HB 
                    have x0 := (bX.below hbb).cell 0 _ rfl
                    have HB := Lib.hid hbb
                    clear hbb
                    clear CT CR CP CH1 CU CH2 CN CH3 CF1 CC CV2 CF2 CA CS CW HD HKm HR2 Hno HX HZ HY IT IA IO IA2 IB ML HD1 Hha x0
                    go_wp2_with fail
                    go_ret
                    exact ⟨rfl, hB.trans (HB.out.mono hB.size)⟩
                  · obtain ⟨nn, enn⟩ : ∃ nn, L.length = nn + 1 := ⟨L.length - 1, by omega⟩
                    have hwn : IntKind.i64.wrap ((L.length : Int) - 1) = (nn : Int) := by rw [show (L.length : Int) - 1 = (nn : Int) by omega]; exact IntWalk.i64_in _ (by have := ML.out.length_le; omega)
                    have hLp : (0 : Int) < (L.length : Int) := by omega
                    have hnl : (nn : Int) < (L.length : Int) := by omega
                    have hLpn : 0 < L.length := h0
                    have hlen : (rget L nn).length = k := by
                      have e : nn = L.length - 1 := by omega
                      rw [e, hlast, hDc.1, Hm.out]
                    obtain ⟨bL, oL, rfl, hbl, qe, de, hce, hie⟩ := ML.out.get (j := nn) (by omega)
                    rw [hlen] at hce
                    have ecu : rget L nn = cu := by rw [← hlast]; congr 1; omega
                    rw [ecu] at hie
                    have IE := Lib.hid hie
                    have HDc := Lib.hid (HD1.out cu hDc)
                    have HAb := Lib.hid hAb
                    have ll9 := ML.out.length_le
                    clear enn hie hlast hDc hAb h0 hlen ecu hbl
                    go_upto_region 20 with (fail)
                    clear hce
                    have K := CV2.out _ qe de cu HDc.out HX.out IE.out
                    go_wp2_with fail
                    refine K.mono ?_
                    rintro e w14 ⟨rfl, hbn⟩
                    have hbb := HB.out.trans (hbn.mono HB.out.size)
                    have HX := Lib.hid (HX.out.below hbn (Nat.le_refl _))
                    have HZ := Lib.hid (HZ.out.below hbn (Nat.le_refl _))
                    have HY := Lib.hid (HY.out.below hbn (Nat.le_refl _))
                    have IT := Lib.hid (IT.out.below hbn (Nat.le_refl _))
                    have IA := Lib.hid (IA.out.below hbn (Nat.le_refl _))
                    have IO := Lib.hid (IO.out.below hbn (Nat.le_refl _))
                    have IA2 := Lib.hid (IA2.out.below hbn (Nat.le_refl _))
                    have IB := Lib.hid (IB.out.below hbn (Nat.le_refl _))
                    have ML := Lib.hid (ML.out.below hbn (Nat.le_refl _))
                    have IE := Lib.hid (IE.out.below hbn (Nat.le_refl _))
                    clear K x0 hbn HB 
                    have x0 := (bX.below hbb).cell 0 _ rfl
                    have HB := Lib.hid hbb
                    clear hbb
                    have K := CA.out _ qe de cu HDc.out HAb.out HX.out HY.out IE.out
                    go_wp2_with fail
                    refine K.mono ?_
                    rintro e w15 ⟨rfl, hbn⟩
                    have hbb := HB.out.trans (hbn.mono HB.out.size)
                    have HX := Lib.hid (HX.out.below hbn (Nat.le_refl _))
                    have HZ := Lib.hid (HZ.out.below hbn (Nat.le_refl _))
                    have HY := Lib.hid (HY.out.below hbn (Nat.le_refl _))
                    have IT := Lib.hid (IT.out.below hbn (Nat.le_refl _))
                    have IA := Lib.hid (IA.out.below hbn (Nat.le_refl _))
                    have IO := Lib.hid (IO.out.below hbn (Nat.le_refl _))
                    have IA2 := Lib.hid (IA2.out.below hbn (Nat.le_refl _))
                    have IB := Lib.hid (IB.out.below hbn (Nat.le_refl _))
                    have ML := Lib.hid (ML.out.below hbn (Nat.le_refl _))
                    have IE := Lib.hid (IE.out.below hbn (Nat.le_refl _))
                    clear K x0 hbn HB 
                    have x0 := (bX.below hbb).cell 0 _ rfl
                    have HB := Lib.hid hbb
                    clear hbb
                    have K := CF2.out _ qe de cu HDc.out Hno.out HX.out IE.out
                    go_wp2_with fail
                    refine K.mono ?_
                    rintro e w16 ⟨rfl, hbn⟩
                    have hbb := HB.out.trans (hbn.mono HB.out.size)
                    have HX := Lib.hid (HX.out.below hbn (Nat.le_refl _))
                    have HZ := Lib.hid (HZ.out.below hbn (Nat.le_refl _))
                    have HY := Lib.hid (HY.out.below hbn (Nat.le_refl _))
                    have IT := Lib.hid (IT.out.below hbn (Nat.le_refl _))
                    have IA := Lib.hid (IA.out.below hbn (Nat.le_refl _))
                    have IO := Lib.hid (IO.out.below hbn (Nat.le_refl _))
                    have IA2 := Lib.hid (IA2.out.below hbn (Nat.le_refl _))
                    have IB := Lib.hid (IB.out.below hbn (Nat.le_refl _))
                    have ML := Lib.hid (ML.out.below hbn (Nat.le_refl _))
                    have IE := Lib.hid (IE.out.below hbn (Nat.le_refl _))
                    clear K x0 hbn HB 
                    have x0 := (bX.below hbb).cell 0 _ rfl
                    have HB := Lib.hid hbb
                    clear hbb
                    have K := CS.out _ HX.out HY.out
                    go_wp2_with fail
                    refine K.mono ?_
                    rintro e w17 ⟨rfl, hbn⟩
                    have hbb := HB.out.trans (hbn.mono HB.out.size)
                    have HX := Lib.hid (HX.out.below hbn (Nat.le_refl _))
                    have HZ := Lib.hid (HZ.out.below hbn (Nat.le_refl _))
                    have HY := Lib.hid (HY.out.below hbn (Nat.le_refl _))
                    have IT := Lib.hid (IT.out.below hbn (Nat.le_refl _))
                    have IA := Lib.hid (IA.out.below hbn (Nat.le_refl _))
                    have IO := Lib.hid (IO.out.below hbn (Nat.le_refl _))
                    have IA2 := Lib.hid (IA2.out.below hbn (Nat.le_refl _))
                    have IB := Lib.hid (IB.out.below hbn (Nat.le_refl _))
                    have ML := Lib.hid (ML.out.below hbn (Nat.le_refl _))
                    have IE := Lib.hid (IE.out.below hbn (Nat.le_refl _))
                    clear K x0 hbn HB 
                    have x0 := (bX.below hbb).cell 0 _ rfl
                    have HB := Lib.hid hbb
                    clear hbb
                    have K := CW.out _ po co HX.out HZ.out IO.out
                    go_wp2_with fail
                    refine K.mono ?_
                    rintro e w18 ⟨rfl, hbn⟩
                    have hbb := HB.out.trans (hbn.mono HB.out.size)
                    have HX := Lib.hid (HX.out.below hbn (Nat.le_refl _))
                    have HZ := Lib.hid (HZ.out.below hbn (Nat.le_refl _))
                    have HY := Lib.hid (HY.out.below hbn (Nat.le_refl _))
                    have IT := Lib.hid (IT.out.below hbn (Nat.le_refl _))
                    have IA := Lib.hid (IA.out.below hbn (Nat.le_refl _))
                    have IO := Lib.hid (IO.out.below hbn (Nat.le_refl _))
                    have IA2 := Lib.hid (IA2.out.below hbn (Nat.le_refl _))
                    have IB := Lib.hid (IB.out.below hbn (Nat.le_refl _))
                    have ML := Lib.hid (ML.out.below hbn (Nat.le_refl _))
                    have IE := Lib.hid (IE.out.below hbn (Nat.le_refl _))
                    clear K x0 hbn HB 
                    have x0 := (bX.below hbb).cell 0 _ rfl
                    have HB := Lib.hid hbb
                    clear hbb
                    clear CT CR CP CH1 CU CH2 CN CH3 CF1 CC CV2 CF2 CA CS CW HD HKm HR2 Hno HX HZ HY IT IA IO IA2 IB ML IE HD1 Hha x0 HDc HAb
                    go_wp2_with fail
                    go_ret
                    exact ⟨rfl, hB.trans (HB.out.mono hB.size)⟩
            · have h6d : decide ((6 : Int) < (m : Int)) = true := by rw [decide_eq_true_iff]; omega
              have h6n : decide (6 < m) = true := by rw [decide_eq_true_iff]; omega
              go_wp2_with fail
              go_ret
              exact ⟨rfl, hB.trans (HB.out.mono hB.size)⟩
          · have h4d : decide ((4 : Int) < (v.length : Int)) = true := by rw [decide_eq_true_iff]; omega
            have h4n : decide (4 < v.length) = true := by rw [decide_eq_true_iff]; omega
            go_wp2_with fail
            go_ret
            exact ⟨rfl, hB.trans (HB.out.mono hB.size)⟩
    · have hVb : (chkA v a != 0) = true := by rw [bne_iff_ne]; exact hV
      go_wp2_with fail
      go_ret
      exact ⟨rfl, hB.trans (HB.out.mono hB.size)⟩
end Go.Proofs.YtmcncflieoolmaaGreat
