/- ChoresTop: for every input the law returns true, and each argument reads as it read before; no condition. -/
import Derived.Test.YtiohehofnlmenaaTopChoresTopm1
import Derived.Test.YtiohehofnlmenaaTopChoresTopm2
import Derived.Test.YtiohehofnlmenaaTopChoresRunsm17
import Derived.ChangeOld
/- The walk of the law ChoresTop: for every chores and allocation it returns true, and changes nothing that was there. -/
namespace Go.Proofs.Ytiohehofnlmenaa
set_option linter.unusedVariables false
set_option linter.unusedSimpArgs false
open Go.ChangeShapes Go.WideShapes Go.ChangeAt Go.RowKit Go.Deep

theorem pget_cP {v : List (List Int)} {a : List Int} {j : Nat} (h : j < (prTo (cP v a) v.length v.length).length) :
    (pget (prTo (cP v a) v.length v.length) j).1 < v.length ∧ (pget (prTo (cP v a) v.length v.length) j).2 < v.length ∧ cP v a (pget (prTo (cP v a) v.length v.length) j).1 (pget (prTo (cP v a) v.length v.length) j).2 = true := by
  have : pget (prTo (cP v a) v.length v.length) j ∈ prTo (cP v a) v.length v.length := by
    have e : pget (prTo (cP v a) v.length v.length) j = (prTo (cP v a) v.length v.length)[j] := by simp [pget, h]
    rw [e]; exact List.getElem_mem h
  obtain ⟨h1, h2, h3⟩ := prTo_mem.1 this
  exact ⟨h1, h2, h3⟩
theorem pget_ex {v : List (List Int)} {a : List Int} {i k : Nat} (hi : i < v.length) (hk : k < v.length) (h : cP v a i k = true) : ∃ j, j < (prTo (cP v a) v.length v.length).length ∧ (pget (prTo (cP v a) v.length v.length) j).1 = i := by
  have : (i, k) ∈ prTo (cP v a) v.length v.length := prTo_mem.2 ⟨hi, hk, h⟩
  obtain ⟨j, hj, e⟩ := List.getElem_of_mem this
  exact ⟨j, hj, by simp [pget, hj, e]⟩
theorem topG_hid {v : List (List Int)} {a : List Int} (h0 : 0 < v.length) : ∃ l, topG v a = l ∧ CircOk l v.length ∧ l.length ≤ v.length ∧ l.length ≠ 1 ∧ ordB l (v.length : Int) = true ∧ ((∀ i, i < v.length → ∃ k, k < v.length ∧ cP v a i k = true) → l.length ≠ 0) := by
  obtain ⟨h1, h2⟩ := topG_circ (v := v) (a := a) h0
  refine ⟨_, rfl, h1, h2, (topG_facts h0).1, ?_, fun h => top_some h0 h⟩
  unfold ordB
  refine decide_eq_true fun n hn => ⟨(h1.at' n hn).1, (h1.at' n hn).2, fun m hm => h1.inj m n hm hn⟩

set_option maxHeartbeats 16000000 in
set_option maxRecDepth 100000 in
theorem choresTop_walk (p : Option Addr) (c : Nat) (v : List (List Int)) (q : Option Addr) (d : Nat) (a : List Int) (w : World) (hx : Mat w p c v) (hy : Ints w q d a) :
    Calls Try.prog 5 #[.agg #[.slice p v.length c], .slice q a.length d] w fun e w' => e = .returned (.bool true) ∧ Below w.heap.size w w' := by
  obtain ⟨W0, hW0⟩ : ∃ W, w.alloc (.cells #[.slice p v.length c] 24) = W := ⟨_, rfl⟩
  have hB : Below w.heap.size w W0 := below_alloc hW0
  have bX : BoxV W0 w.heap.size [.slice p v.length c] := BoxV.new rfl hW0
  have mX := hx.below hB (Nat.le_refl _)
  have mT := hy.below hB (Nat.le_refl _)
  have HW0 := Lib.hid hW0
  clear hW0 hx hy
  go_enter Try.func5, Try.ntmps5
  go_wp2_with fail
  rw [HW0.out]
  refine (alive24_any _).mono ?_
  rintro e w1 ⟨rfl, hb⟩
  replace mX := mX.below hb (Nat.le_refl _)
  replace mT := mT.below hb (Nat.le_refl _)
  replace bX := bX.below hb
  replace hB := hB.trans (hb.mono hB.size)
  clear hb
  have x0 := bX.cell 0 _ rfl
  go_wp2_with fail
  refine (fit24_any p q c d v a _ mX mT).mono ?_
  rintro e w2 ⟨rfl, hb⟩
  replace mX := mX.below hb (Nat.le_refl _)
  replace mT := mT.below hb (Nat.le_refl _)
  replace bX := bX.below hb
  replace hB := hB.trans (hb.mono hB.size)
  clear hb x0
  have x0 := bX.cell 0 _ rfl
  by_cases hfit : fit24 v a = true
  · rw [hfit]
    have hgz : chkG v = 0 := by unfold fit24 at hfit; rw [decide_eq_true_iff] at hfit; exact hfit.2
    have hG : ¬ GreatG v a := by unfold fit24 at hfit; rw [decide_eq_true_iff] at hfit; exact hfit.1
    have ha50 : a.length ≤ 100 := by
      have : ¬ 50 < a.length := fun h => hG (.inr (.inr h))
      omega
    have Hgz := Lib.hid hgz
    clear hfit hG hgz
    go_wp2_with fail
    refine (ref16Valid_any p c v q d a _ mX mT).mono ?_
    rintro e w3 ⟨rfl, hb⟩
    replace mX := mX.below hb (Nat.le_refl _)
    replace mT := mT.below hb (Nat.le_refl _)
    replace bX := bX.below hb
    replace hB := hB.trans (hb.mono hB.size)
    clear hb x0
    have x0 := bX.cell 0 _ rfl
    by_cases hF : chkA v a = 0
    · have hz : (chkA v a != 0) = false := by rw [hF]; rfl
      have HF := Lib.hid hF
      obtain ⟨hg, hac⟩ := chkA_zero.1 hF
      have Hg := Lib.hid hg
      have Hac := Lib.hid hac
      have h0v : 0 < v.length := hg.1
      have hv6 : v.length ≤ 6 := hg.2.1
      have HLe := Lib.hid (circL_ok hF)
      have HEe := Lib.hid (envG_ok (P := cP) hF)
      have HUe := Lib.hid (burdL_ok hF)
      clear hF hg hac
      have K1 := choresCircle_any p c v q d a _ mX mT
      unfold Gives2 at K1
      rw [HLe.out] at K1
      obtain ⟨l, hl, hlc, hln, hl1, hlo, hls⟩ := topG_hid (a := a) h0v
      rw [hl] at K1
      have Hl := Lib.hid hl
      have Hlc := Lib.hid hlc
      have Hls := Lib.hid hls
      have Hlo := Lib.hid hlo
      have hl1b : ((l.length : Int) == 1) = false := by rw [beq_eq_false_iff_ne]; omega
      have K1 := Lib.hid K1
      clear hl hlc hls hlo hl1
      go_wp2_with fail
      refine K1.out.mono ?_
      rintro e w4 ⟨pl, cl, rfl, oL, hb⟩
      have iL := oL.ints
      clear oL K1
      replace mX := mX.below hb (Nat.le_refl _)
      replace mT := mT.below hb (Nat.le_refl _)
      replace bX := bX.below hb
      replace hB := hB.trans (hb.mono hB.size)
      clear hb x0
      have x0 := bX.cell 0 _ rfl
      have K2 := choresEnvies_any p c v q d a _ mX mT
      unfold GivesQ at K2
      rw [HEe.out] at K2
      have hpE := fun j h => pget_cP (v := v) (a := a) (j := j) h
      have hpX := fun i k h1 h2 h3 => pget_ex (v := v) (a := a) (i := i) (k := k) h1 h2 h3
      have hEl := prTo_len (cP v a) v.length v.length
      obtain ⟨E, hE⟩ : ∃ E, prTo (cP v a) v.length v.length = E := ⟨_, rfl⟩
      simp only [hE] at K2 hpE hpX hEl
      have K2 := Lib.hid K2
      have HpE := Lib.hid hpE
      have HpX := Lib.hid hpX
      have h66 : v.length * v.length ≤ 6 * 6 := Nat.mul_le_mul hv6 hv6
      have hE36 : E.length ≤ 36 := by omega
      clear hE hpE hpX hEl h66
      go_wp2_with fail
      refine K2.out.mono ?_
      rintro e w5 ⟨pe, ce, rfl, oE, hb⟩
      clear K2
      replace mX := mX.below hb (Nat.le_refl _)
      replace mT := mT.below hb (Nat.le_refl _)
      replace iL := iL.below hb (Nat.le_refl _)
      replace bX := bX.below hb
      replace hB := hB.trans (hb.mono hB.size)
      clear hb x0
      have x0 := bX.cell 0 _ rfl
      have K3 := choresBurdened_any p c v q d a _ mX mT
      unfold Gives2 at K3
      rw [HUe.out] at K3
      have hU : ∀ j, j < (fUp (bP v a) v.length).length → ∃ i : Nat, iget (fUp (bP v a) v.length) j = i ∧ i < v.length ∧ bP v a i = true := fun j hj => fUp_mem.1 (iget_mem hj)
      have hUl := fUp_len (bP v a) v.length
      obtain ⟨U, hUe⟩ : ∃ U, fUp (bP v a) v.length = U := ⟨_, rfl⟩
      rw [hUe] at K3 hU hUl
      have K3 := Lib.hid K3
      have HU := Lib.hid hU
      clear hUe hU
      go_wp2_with fail
      refine K3.out.mono ?_
      rintro e w6 ⟨pu, cu, rfl, oU, hb⟩
      have iU := oU.ints
      clear K3 oU
      replace mX := mX.below hb (Nat.le_refl _)
      replace mT := mT.below hb (Nat.le_refl _)
      replace iL := iL.below hb (Nat.le_refl _)
      replace oE := oE.below hb (Nat.le_refl _)
      replace bX := bX.below hb
      replace hB := hB.trans (hb.mono hB.size)
      clear hb x0
      have x0 := bX.cell 0 _ rfl
      have K4 := ordered_any pl cl l (v.length : Int) w6 iL
      rw [Hlo.out] at K4
      have K4 := Lib.hid K4
      rw [HF.out]
      go_wp2_with fail
      refine K4.out.mono ?_
      rintro e w7 ⟨rfl, hw⟩
      have hb : Below _ _ _ := drew_below hw
      clear hw K4
      replace mX := mX.below hb (Nat.le_refl _)
      replace mT := mT.below hb (Nat.le_refl _)
      replace iL := iL.below hb (Nat.le_refl _)
      replace iU := iU.below hb (Nat.le_refl _)
      replace oE := oE.below hb (Nat.le_refl _)
      replace bX := bX.below hb
      replace hB := hB.trans (hb.mono hB.size)
      clear hb x0
      have x0 := bX.cell 0 _ rfl
      obtain ⟨n, hn⟩ : ∃ n, v.length = n := ⟨_, rfl⟩
      have Hn := Lib.hid hn
      obtain ⟨B0, hB0⟩ : ∃ B0, w7.heap.size = B0 := ⟨_, rfl⟩
      have HB0 := Lib.hid hB0
      have hn6 : n ≤ 6 := by omega
      have hvl : v.length ≤ 1000000 := by omega
      have hwB : w.heap.size < B0 := by have := bX.lt; omega
      have hcapE := oE.cap
      have hcapU := iU.length_le
      clear hn hB0
      go_wp2_with (at_make; refine wpList_mkB rfl (.tmp 81) (.tmp 81) rfl B0 v.length rfl rfl hvl (Nat.le_of_eq HB0.out.symm) ?_; intro w8 hO8 hg8 hs8)
      rw [HB0.out] at hO8 ⊢
      have hb8 : Below B0 w7 w8 := (Below.refl _ _).grown hg8 (Nat.le_of_eq HB0.out.symm) (fun k' e => by cases e)
      clear hg8 hs8
      go_wp2_with fail
      go_loopw [13] (fun t wr => ∃ m : Nat, m ≤ E.length ∧ t = .int .i64 m ∧ ∃ bs, Hid (bs.length = n) ∧ OwnB wr B0 (some ⟨B0, 0, none⟩) v.length bs ∧ Hid (∀ i, i < n → (bget bs i = true ↔ ∃ j, j < m ∧ (pget E j).1 = i)) ∧ Below B0 w7 wr) (fun t _ => E.length - (intOf t).toNat)
      case atStart => exact ⟨0, Nat.zero_le _, rfl, List.replicate v.length false, by unfold Hid; rw [List.length_replicate, Hn.out], hO8, fun i hi => by simp [bget, List.getD]; rw [List.getElem?_replicate]; split <;> simp, hb8⟩
      case round =>
        clear hO8 hb8 x0
        obtain ⟨m, hm, rfl, bs, hbl, hO, hbs, hbr⟩ := hrel
        have bXr := bX.below (by rw [HB0.out]; exact hbr)
        have x0 := bXr.cell 0 _ rfl
        by_cases hlt : m < E.length
        · have hm1 : (m : Int) < E.length := by omega
          obtain ⟨ge, rfl, _, hgl, hce, _⟩ := (oE.below hbr (Nat.le_of_eq HB0.out)).get hlt
          obtain ⟨h1, _, _⟩ := HpE.out m hlt
          obtain ⟨i, ei⟩ : ∃ i, (pget E m).1 = i := ⟨_, rfl⟩
          rw [ei] at hce h1
          have hi1 : (i : Int) < v.length := by omega
          have hi0 : (0 : Int) ≤ i := by omega
          have hd1 : decide ((i : Int) < 0) = false := by rw [decide_eq_false_iff_not]; omega
          have hd2 : decide ((v.length : Int) ≤ i) = false := by rw [decide_eq_false_iff_not]; omega
          have hin : i < n := by have := Hn.out; omega
          have hib : i < bs.length := by rw [hbl.out]; exact hin
          obtain ⟨g', hg', _, _, hcA, hfA⟩ := hO.get hib
          obtain rfl : B0 = g' := by simpa using hg'
          have Ei := Lib.hid ei
          have HO := Lib.hid hO
          clear ei hg' hO
          go_wp2_with fail
          go_quiet (fail)
          go_wp2_with fail
          go_roundw
          case rel =>
            have h5 := ((HO.out.drewN nq).set i true).1
            exact ⟨m + 1, by omega, by go_num, bs.set i true, by unfold Hid; rw [List.length_set]; exact hbl.out, h5, fun k hk => by
              rw [bget_set hib]
              by_cases e : i = k
              · subst e
                simp only [if_true, true_iff]
                exact ⟨m, by omega, Ei.out⟩
              · rw [if_neg e, hbs.out k hk]
                exact ⟨fun ⟨j, h1, h2⟩ => ⟨j, by omega, h2⟩, fun ⟨j, h1, h2⟩ => ⟨j, by
                  by_cases ej : j = m
                  · subst ej; exact absurd (Ei.out.symm.trans h2) e
                  · omega, h2⟩⟩, (hbr.drewN' _).setCell (p := ⟨B0, i, none⟩) (Nat.le_refl _) _⟩
          case measure => (simp [intOf] <;> omega)
        · have hm1 : ¬ (m : Int) < E.length := by omega
          obtain rfl : m = E.length := by omega
          -- who envies
          have henv : Hid (∀ i, i < v.length → (bget bs i = true ↔ ∃ k, k < v.length ∧ cP v a i k = true)) := fun i hi => by
            rw [hbs.out i (by rw [← Hn.out]; exact hi)]
            constructor
            · rintro ⟨j, hj, e⟩
              obtain ⟨h1, h2, h3⟩ := HpE.out j hj
              rw [e] at h3
              exact ⟨_, h2, h3⟩
            · rintro ⟨k, hk, h⟩
              exact HpX.out i k hi hk h
          clear hm
          have hAll : Hid (∀ k, allTo (bget bs) (k + 1) = (allTo (bget bs) k && bget bs k)) := fun k => rfl
          have hAll0 : Hid (allTo (bget bs) 0 = true) := rfl
          have hcb : ∀ k, k < v.length → wr.cell? ⟨B0, k, none⟩ = some (.bool (bget bs k)) := fun k hk => hO.at (by rw [hbl.out, ← Hn.out]; exact hk)
          have Hcb := Lib.hid hcb
          obtain ⟨wo, hwo⟩ : ∃ wo, wr = wo := ⟨_, rfl⟩
          rw [hwo] at hO hbr bXr x0 Hcb ⊢
          clear hwo hcb
          go_wp2_with fail
          go_loop [14, 15] (fun s t => ∃ k : Nat, k ≤ v.length ∧ t = .int .i64 k ∧ s = .bool (allTo (bget bs) k)) (fun _ t => v.length - (intOf t).toNat)
          case atStart => exact ⟨0, Nat.zero_le _, rfl, by rw [hAll0.out]⟩
          case round =>
            obtain ⟨k, hk, rfl, rfl⟩ := hrel
            by_cases hkl : k < v.length
            · have hk1 : (k : Int) < v.length := by omega
              have hc := Hcb.out k hkl
              have HS := hAll.out k
              cases hA : allTo (bget bs) k with
              | true =>
                rw [hA, Bool.true_and] at HS
                have HS := Lib.hid HS
                clear hA
                go_wp2_with fail
                go_round
                case rel => exact ⟨k + 1, by omega, by go_num, by rw [HS.out]⟩
                case measure => (simp [intOf] <;> omega)
              | false =>
                rw [hA, Bool.false_and] at HS
                have HS := Lib.hid HS
                clear hA
                go_wp2_with fail
                go_round
                case rel => exact ⟨k + 1, by omega, by go_num, by rw [HS.out]⟩
                case measure => (simp [intOf] <;> omega)
            · have hk1 : ¬ (k : Int) < v.length := by omega
              obtain rfl : k = v.length := by omega
              have hgo : Hid (allTo (bget bs) v.length = true → l.length ≠ 0) := fun hA => Hls.out (fun i hi => (henv.out i hi).1 (allTo_true.1 hA i hi))
              have K5 := Lib.hid (fun W hI => complete_any q d a W hI)
              have HB := Lib.hid (fun i (hi : i < v.length) hc (hb : bP v a i = true) => (henv.out i hi).2 (burd_envy Hg.out Hac.out hi hc hb))
              have hw8 := hbr
              have hcU : Hid (∀ W, Below B0 w7 W → Ints W pu cu U) := fun W h => iU.below h (Nat.le_of_eq HB0.out)
              have hcX : Hid (∀ W, Below B0 w7 W → W.cell? ⟨w.heap.size, 0, none⟩ = some (.slice p v.length c)) := fun W h => (bX.below (by rw [HB0.out]; exact h)).cell 0 _ rfl
              have hcT : Hid (∀ W, Below B0 w7 W → Ints W q d a) := fun W h => mT.below h (Nat.le_of_eq HB0.out)
              have HM := Lib.hid mX
              have HT := Lib.hid mT
              have HL := Lib.hid iL
              have HBx := Lib.hid bX
              have HBw := Lib.hid hB
              clear hO iU mX mT iL oE bX hB bXr
              have Hbr := Lib.hid hbr
              have Hcb2 := Lib.hid (fun k h N => (show (wo.drewN N).cell? ⟨B0, k, none⟩ = some (.bool (bget bs k)) from Hcb.out k h))
              cases hbv : allTo (bget bs) v.length with
              | true =>
                have hl0 : ((l.length : Int) == 0) = false := by have := hgo.out hbv; rw [beq_eq_false_iff_ne]; omega
                clear hbv hgo
                go_wp2_with fail
                go_loopw [16] (fun t wr => ∃ m : Nat, m ≤ U.length ∧ t = .int .i64 m ∧ ∃ N, wr = wo.drewN N) (fun t _ => U.length - (intOf t).toNat)
                case atStart => exact ⟨0, Nat.zero_le _, rfl, drew_refl _⟩
                case round =>
                  clear x0
                  obtain ⟨m, hm, rfl, hw⟩ := hrel
                  have hbd := Hbr.out.drewP hw
                  have x0 := hcX.out _ hbd
                  by_cases hlt : m < U.length
                  · have hm1 : (m : Int) < U.length := by omega
                    obtain ⟨b2, o2, rfl, _, hcu⟩ := (hcU.out _ hbd).get hlt
                    obtain ⟨i, ei, hi, hbi⟩ := HU.out m hlt
                    rw [ei] at hcu
                    have hi1 : (i : Int) < v.length := by omega
                    have hi0 : (0 : Int) ≤ i := by omega
                    have hd1 : decide ((i : Int) < 0) = false := by rw [decide_eq_false_iff_not]; omega
                    have hd2 : decide ((v.length : Int) ≤ i) = false := by rw [decide_eq_false_iff_not]; omega
                    have hd3 : decide (v.length ≤ i) = false := by rw [decide_eq_false_iff_not]; omega
                    have hd4 : ¬ (v.length : Int) ≤ i := by omega
                    have hcb : wr.cell? ⟨B0, i, none⟩ = some (.bool (bget bs i)) := by obtain ⟨N, rfl⟩ := hw; exact Hcb2.out i hi N
                    have HIT := Lib.hid (hcT.out _ hbd)
                    have Hw := Lib.hid hw
                    cases hco : decide (complP a) with
                    | true =>
                      have henvi : bget bs i = true := HB.out i hi (of_decide_eq_true hco) hbi
                      rw [henvi] at hcb
                      have K5 : Hid (∀ W, Ints W q d a → Calls Try.prog 33 #[.slice q a.length d] W fun e w' => e = .returned (.bool true) ∧ w' = W) := fun W hI => by have := K5.out W hI; rw [hco] at this; exact this
                      clear hco henvi ei hbi hw
                      go_wp2_with fail
                      go_quiet ((go_at_call 33; exact Calls.quiet_of_same (K5.out _ (HIT.out.drewN _))))
                      go_wp2_with fail
                      go_roundw
                      case rel => exact ⟨m + 1, by omega, by go_num, drew_drewN _ Hw.out⟩
                      case measure => (simp [intOf] <;> omega)
                    | false =>
                      have K5 : Hid (∀ W, Ints W q d a → Calls Try.prog 33 #[.slice q a.length d] W fun e w' => e = .returned (.bool false) ∧ w' = W) := fun W hI => by have := K5.out W hI; rw [hco] at this; exact this
                      clear hco ei hbi hw
                      go_wp2_with fail
                      go_quiet ((go_at_call 33; exact Calls.quiet_of_same (K5.out _ (HIT.out.drewN _))))
                      go_wp2_with fail
                      go_roundw
                      case rel => exact ⟨m + 1, by omega, by go_num, drew_drewN _ Hw.out⟩
                      case measure => (simp [intOf] <;> omega)
                  · have hm1 : ¬ (m : Int) < U.length := by omega
                    obtain rfl : m = U.length := by omega
                    have hszr := hbd.size
                    have HbU := Lib.hid hbd
                    have KP := Lib.hid (passed_any q pl d cl a l _ (hcT.out _ hbd) (HL.out.below hbd (Nat.le_of_eq HB0.out)) (by omega) (by omega))
                    have hsB := HB0.out
                    clear hw hbd x0 hm1 hm
                    go_wp2_with fail
                    refine KP.out.mono ?_
                    rintro e w9 ⟨pb, cb, rfl, oB, hb⟩
                    have hb9 := HbU.out.trans (hb.mono (by omega : B0 ≤ _))
                    have x0 := hcX.out _ hb9
                    have hac2 : AlcOk v (passL a l) := ⟨by rw [passL_len]; exact Hac.out.1, passL_ok Hlc.out Hac.out.2⟩
                    have hF2 := chkA_ok Hg.out hac2
                    have hcalm : ∀ j k, j < l.length → k < v.length → cP v (passL a l) (iget l j).toNat k = false := fun j k hj hk => by
                      have := top_calm (v := v) (a := a) Hac.out h0v (j := j) (k := k) (by rw [Hl.out]; exact hj) hk
                      rwa [Hl.out] at this
                    have KE := choresEnvies_any p c v pb cb (passL a l) w9 (HM.out.below hb9 (Nat.le_of_eq HB0.out)) oB.ints
                    unfold GivesQ at KE
                    rw [envG_ok hF2, hF2] at KE
                    have hpE2 := fun j h => pget_cP (v := v) (a := passL a l) (j := j) h
                    obtain ⟨A2, hA2⟩ : ∃ A2, passL a l = A2 := ⟨_, rfl⟩
                    rw [hA2] at KE hcalm ⊢
                    simp only [hA2] at hpE2
                    obtain ⟨E2, hE2⟩ : ∃ E2, prTo (cP v A2) v.length v.length = E2 := ⟨_, rfl⟩
                    rw [hE2] at KE
                    simp only [hE2] at hpE2
                    have HpE2 := Lib.hid hpE2
                    have Hcalm := Lib.hid hcalm
                    have KE := Lib.hid KE
                    have Hb9 := Lib.hid hb9
                    have hs9 := hb9.size
                    clear hE2 hpE2 hcalm hA2 hF2 hac2 oB hb KP hb9 hszr
                    go_wp2_with fail
                    refine KE.out.mono ?_
                    rintro e w10 ⟨py, cy, rfl, oY, hb⟩
                    have hb10 := Hb9.out.trans (hb.mono (by omega : B0 ≤ _))
                    have iL := HL.out.below hb10 (Nat.le_of_eq HB0.out)
                    have hcapY := oY.cap
                    have hcapL := iL.length_le
                    have HbT := Lib.hid hb10
                    clear x0 hb KE hb10 hs9
                    go_wp2_with fail
                    go_loopw [20] (fun t wr => ∃ m : Nat, m ≤ E2.length ∧ t = .int .i64 m ∧ ∃ N, wr = w10.drewN N) (fun t _ => E2.length - (intOf t).toNat)
                    case atStart => exact ⟨0, Nat.zero_le _, rfl, drew_refl _⟩
                    case round =>
                      obtain ⟨m, hm, rfl, hw⟩ := hrel
                      by_cases hlt : m < E2.length
                      · have hm1 : (m : Int) < E2.length := by omega
                        go_wp2_with fail
                        go_loopw [21] (fun t wr => ∃ k : Nat, k ≤ l.length ∧ t = .int .i64 k ∧ ∃ N, wr = w10.drewN N) (fun t _ => l.length - (intOf t).toNat)
                        case atStart => exact ⟨0, Nat.zero_le _, rfl, hw⟩
                        case round =>
                          clear hw
                          obtain ⟨k, hk, rfl, hw⟩ := hrel
                          by_cases hkl : k < l.length
                          · have hk1 : (k : Int) < l.length := by omega
                            obtain ⟨gy, rfl, _, _, hcy, _⟩ := (oY.drew hw).get hlt
                            obtain ⟨bl, ol, rfl, _, hcl⟩ := (iL.drew hw).get hkl
                            obtain ⟨h1, h2, h3⟩ := HpE2.out m hlt
                            have h4 := Hcalm.out k _ hkl h2
                            have h5 := Hlc.out.at' k hkl
                            obtain ⟨i, ei⟩ : ∃ i, (pget E2 m).1 = i := ⟨_, rfl⟩
                            obtain ⟨z, ez⟩ : ∃ z : Nat, iget l k = z := ⟨(iget l k).toNat, by omega⟩
                            rw [ei] at hcy h3
                            rw [ez] at hcl h4
                            have hne : ((i : Int) == (z : Int)) = false := by
                              rw [beq_eq_false_iff_ne]
                              intro e
                              have : i = z := by omega
                              subst this
                              rw [Int.toNat_natCast, h3] at h4
                              cases h4
                            have Hw := Lib.hid hw
                            clear ei ez h1 h2 h3 h4 h5 hw
                            go_wp2_with fail
                            go_quiet (fail)
                            go_wp2_with fail
                            go_roundw
                            case rel => exact ⟨k + 1, by omega, by go_num, drew_drewN _ Hw.out⟩
                            case measure => (simp [intOf] <;> omega)
                          · have hk1 : ¬ (k : Int) < l.length := by omega
                            have Hw := Lib.hid hw
                            clear hw
                            go_wp2_with fail
                            go_roundw
                            case rel => exact ⟨m + 1, by omega, by go_num, Hw.out⟩
                            case measure => (simp [intOf] <;> omega)
                      · have hm1 : ¬ (m : Int) < E2.length := by omega
                        have hbf := HbT.out.drewP hw
                        have hBf := HBw.out
                        clear hw
                        go_wp2_with fail
                        go_ret
                        exact ⟨rfl, hBf.trans (hbf.mono (by omega))⟩
              | false =>
                clear hbv hgo
                go_wp2_with fail
                go_loopw [16] (fun t wr => ∃ m : Nat, m ≤ U.length ∧ t = .int .i64 m ∧ ∃ N, wr = wo.drewN N) (fun t _ => U.length - (intOf t).toNat)
                case atStart => exact ⟨0, Nat.zero_le _, rfl, drew_refl _⟩
                case round =>
                  clear x0
                  obtain ⟨m, hm, rfl, hw⟩ := hrel
                  have hbd := Hbr.out.drewP hw
                  have x0 := hcX.out _ hbd
                  by_cases hlt : m < U.length
                  · have hm1 : (m : Int) < U.length := by omega
                    obtain ⟨b2, o2, rfl, _, hcu⟩ := (hcU.out _ hbd).get hlt
                    obtain ⟨i, ei, hi, hbi⟩ := HU.out m hlt
                    rw [ei] at hcu
                    have hi1 : (i : Int) < v.length := by omega
                    have hi0 : (0 : Int) ≤ i := by omega
                    have hd1 : decide ((i : Int) < 0) = false := by rw [decide_eq_false_iff_not]; omega
                    have hd2 : decide ((v.length : Int) ≤ i) = false := by rw [decide_eq_false_iff_not]; omega
                    have hd3 : decide (v.length ≤ i) = false := by rw [decide_eq_false_iff_not]; omega
                    have hd4 : ¬ (v.length : Int) ≤ i := by omega
                    have hcb : wr.cell? ⟨B0, i, none⟩ = some (.bool (bget bs i)) := by obtain ⟨N, rfl⟩ := hw; exact Hcb2.out i hi N
                    have HIT := Lib.hid (hcT.out _ hbd)
                    have Hw := Lib.hid hw
                    cases hco : decide (complP a) with
                    | true =>
                      have henvi : bget bs i = true := HB.out i hi (of_decide_eq_true hco) hbi
                      rw [henvi] at hcb
                      have K5 : Hid (∀ W, Ints W q d a → Calls Try.prog 33 #[.slice q a.length d] W fun e w' => e = .returned (.bool true) ∧ w' = W) := fun W hI => by have := K5.out W hI; rw [hco] at this; exact this
                      clear hco henvi ei hbi hw
                      go_wp2_with fail
                      go_quiet ((go_at_call 33; exact Calls.quiet_of_same (K5.out _ (HIT.out.drewN _))))
                      go_wp2_with fail
                      go_roundw
                      case rel => exact ⟨m + 1, by omega, by go_num, drew_drewN _ Hw.out⟩
                      case measure => (simp [intOf] <;> omega)
                    | false =>
                      have K5 : Hid (∀ W, Ints W q d a → Calls Try.prog 33 #[.slice q a.length d] W fun e w' => e = .returned (.bool false) ∧ w' = W) := fun W hI => by have := K5.out W hI; rw [hco] at this; exact this
                      clear hco ei hbi hw
                      go_wp2_with fail
                      go_quiet ((go_at_call 33; exact Calls.quiet_of_same (K5.out _ (HIT.out.drewN _))))
                      go_wp2_with fail
                      go_roundw
                      case rel => exact ⟨m + 1, by omega, by go_num, drew_drewN _ Hw.out⟩
                      case measure => (simp [intOf] <;> omega)
                  · have hm1 : ¬ (m : Int) < U.length := by omega
                    obtain rfl : m = U.length := by omega
                    have hszr := hbd.size
                    have HbU := Lib.hid hbd
                    have KP := Lib.hid (passed_any q pl d cl a l _ (hcT.out _ hbd) (HL.out.below hbd (Nat.le_of_eq HB0.out)) (by omega) (by omega))
                    have hsB := HB0.out
                    clear hw hbd x0 hm1 hm
                    go_wp2_with fail
                    refine KP.out.mono ?_
                    rintro e w9 ⟨pb, cb, rfl, oB, hb⟩
                    have hb9 := HbU.out.trans (hb.mono (by omega : B0 ≤ _))
                    have x0 := hcX.out _ hb9
                    have hac2 : AlcOk v (passL a l) := ⟨by rw [passL_len]; exact Hac.out.1, passL_ok Hlc.out Hac.out.2⟩
                    have hF2 := chkA_ok Hg.out hac2
                    have hcalm : ∀ j k, j < l.length → k < v.length → cP v (passL a l) (iget l j).toNat k = false := fun j k hj hk => by
                      have := top_calm (v := v) (a := a) Hac.out h0v (j := j) (k := k) (by rw [Hl.out]; exact hj) hk
                      rwa [Hl.out] at this
                    have KE := choresEnvies_any p c v pb cb (passL a l) w9 (HM.out.below hb9 (Nat.le_of_eq HB0.out)) oB.ints
                    unfold GivesQ at KE
                    rw [envG_ok hF2, hF2] at KE
                    have hpE2 := fun j h => pget_cP (v := v) (a := passL a l) (j := j) h
                    obtain ⟨A2, hA2⟩ : ∃ A2, passL a l = A2 := ⟨_, rfl⟩
                    rw [hA2] at KE hcalm ⊢
                    simp only [hA2] at hpE2
                    obtain ⟨E2, hE2⟩ : ∃ E2, prTo (cP v A2) v.length v.length = E2 := ⟨_, rfl⟩
                    rw [hE2] at KE
                    simp only [hE2] at hpE2
                    have HpE2 := Lib.hid hpE2
                    have Hcalm := Lib.hid hcalm
                    have KE := Lib.hid KE
                    have Hb9 := Lib.hid hb9
                    have hs9 := hb9.size
                    clear hE2 hpE2 hcalm hA2 hF2 hac2 oB hb KP hb9 hszr
                    go_wp2_with fail
                    refine KE.out.mono ?_
                    rintro e w10 ⟨py, cy, rfl, oY, hb⟩
                    have hb10 := Hb9.out.trans (hb.mono (by omega : B0 ≤ _))
                    have iL := HL.out.below hb10 (Nat.le_of_eq HB0.out)
                    have hcapY := oY.cap
                    have hcapL := iL.length_le
                    have HbT := Lib.hid hb10
                    clear x0 hb KE hb10 hs9
                    go_wp2_with fail
                    go_loopw [20] (fun t wr => ∃ m : Nat, m ≤ E2.length ∧ t = .int .i64 m ∧ ∃ N, wr = w10.drewN N) (fun t _ => E2.length - (intOf t).toNat)
                    case atStart => exact ⟨0, Nat.zero_le _, rfl, drew_refl _⟩
                    case round =>
                      obtain ⟨m, hm, rfl, hw⟩ := hrel
                      by_cases hlt : m < E2.length
                      · have hm1 : (m : Int) < E2.length := by omega
                        go_wp2_with fail
                        go_loopw [21] (fun t wr => ∃ k : Nat, k ≤ l.length ∧ t = .int .i64 k ∧ ∃ N, wr = w10.drewN N) (fun t _ => l.length - (intOf t).toNat)
                        case atStart => exact ⟨0, Nat.zero_le _, rfl, hw⟩
                        case round =>
                          clear hw
                          obtain ⟨k, hk, rfl, hw⟩ := hrel
                          by_cases hkl : k < l.length
                          · have hk1 : (k : Int) < l.length := by omega
                            obtain ⟨gy, rfl, _, _, hcy, _⟩ := (oY.drew hw).get hlt
                            obtain ⟨bl, ol, rfl, _, hcl⟩ := (iL.drew hw).get hkl
                            obtain ⟨h1, h2, h3⟩ := HpE2.out m hlt
                            have h4 := Hcalm.out k _ hkl h2
                            have h5 := Hlc.out.at' k hkl
                            obtain ⟨i, ei⟩ : ∃ i, (pget E2 m).1 = i := ⟨_, rfl⟩
                            obtain ⟨z, ez⟩ : ∃ z : Nat, iget l k = z := ⟨(iget l k).toNat, by omega⟩
                            rw [ei] at hcy h3
                            rw [ez] at hcl h4
                            have hne : ((i : Int) == (z : Int)) = false := by
                              rw [beq_eq_false_iff_ne]
                              intro e
                              have : i = z := by omega
                              subst this
                              rw [Int.toNat_natCast, h3] at h4
                              cases h4
                            have Hw := Lib.hid hw
                            clear ei ez h1 h2 h3 h4 h5 hw
                            go_wp2_with fail
                            go_quiet (fail)
                            go_wp2_with fail
                            go_roundw
                            case rel => exact ⟨k + 1, by omega, by go_num, drew_drewN _ Hw.out⟩
                            case measure => (simp [intOf] <;> omega)
                          · have hk1 : ¬ (k : Int) < l.length := by omega
                            have Hw := Lib.hid hw
                            clear hw
                            go_wp2_with fail
                            go_roundw
                            case rel => exact ⟨m + 1, by omega, by go_num, Hw.out⟩
                            case measure => (simp [intOf] <;> omega)
                      · have hm1 : ¬ (m : Int) < E2.length := by omega
                        have hbf := HbT.out.drewP hw
                        have hBf := HBw.out
                        clear hw
                        go_wp2_with fail
                        go_ret
                        exact ⟨rfl, hBf.trans (hbf.mono (by omega))⟩
    · have hz : (chkA v a != 0) = true := by rw [bne_iff_ne]; exact hF
      clear hF
      go_wp2_with fail
      go_ret
      exact ⟨rfl, hB⟩
  · have hfit : fit24 v a = false := by simpa using hfit
    rw [hfit]
    clear hfit
    go_wp2_with fail
    go_ret
    exact ⟨rfl, hB⟩
end Go.Proofs.Ytiohehofnlmenaa

/- ChoresTop: for every input the law returns true, and each argument reads as it read before; no condition. -/
namespace Go.Proofs.Ytiohehofnlmenaa.ChoresTopTop
open Go.ChangeShapes Go.WideShapes Go.ChangeAt Go.RowKit Go.Deep
set_option linter.unusedVariables false

set_option maxRecDepth 100000 in
theorem lifted (os : Os) (started : os.Started) (H : Type) (enc : TypeId × Value → H) :
    ReturnsInHanded {} Try.checked os 5 .any (Rows.choresTopSpec.pre6 enc Try.prog Try.f5 Rows.choresTopRow.domain false) (Rows.choresTopSpec.post enc Try.prog Try.f5 false true false false) := by
  refine returnsInHanded_of_change (C := Try.checked) own started (by kernel_rfl) Try.func5
    (ChangeSpec.witness6 (enc := enc) (C := Try.checked) false ⟨#[], #[.agg #[.slice none 0 0], .slice none 0 0], []⟩ 8 (by kernel_rfl) (by kernel_rfl) (by kernel_rfl) (by kernel_rfl)) ?_
  intro W base args ds gs before hval0 hW hcnd _
  have hval : ∀ (j : Nat) t v, Try.f5.params[j]? = some t → args[j]? = some v → Value.okWide Try.prog W .any base t v := hval0
  have hW' := hW
  obtain ⟨p, q, hA0, hV, rfl, hfz, hnd⟩ := hW
  have hA : DataW.TrodAll enc Try.prog W 0 (fun _ => true) true Try.f5.params.toList args.toList ds p := hA0
  rw [Try.params5] at hA hval
  obtain ⟨v0, vs0, d0, ds0, p0, q0, hargs, rfl, rfl, h0, r0⟩ := trodAll_cons hA
  obtain ⟨v1, vs1, d1, ds1, p1, q1, rfl, rfl, rfl, h1, r1⟩ := trodAll_cons r0
  obtain ⟨rfl, rfl, rfl⟩ := trodAll_nil r1
  obtain rfl : args = #[v0, v1] := by cases args; simp_all
  obtain ⟨rfl, rfl⟩ := trodVars_none hV
  have k0 := h0
  have lt0 : ∀ x ∈ p0, x.block < W.heap.size := by obtain ⟨m, hm⟩ := k0; exact DataW.trod_lt m _ _ _ hm
  obtain ⟨a0, c0, x0, rfl, w0⟩ := open_goodsV (hval 0 24 v0 rfl rfl) h0
  have k1 := h1
  have lt1 : ∀ x ∈ p1, x.block < W.heap.size := by obtain ⟨m, hm⟩ := k1; exact DataW.trod_lt m _ _ _ hm
  obtain ⟨a1, c1, x1, rfl, w1⟩ := open_intsV (hval 1 25 v1 rfl rfl) h1
  clear hA0 hval0
  refine (choresTop_walk a0 c0 x0 a1 c1 x1 W w0 w1).mono fun e W' ⟨he, bel⟩ => ?_
  subst he
  exact ⟨_, rfl, _, _, _, [], _, [], hW', trodAll_mk1 (shut_bool Try.underlying4 _), (trodAll_cons_mk (Below.trod laidOut (by kernel_rfl) (of_decide_eq_true (by kernel_rfl)) k0 bel lt0) (trodAll_cons_mk (Below.trod laidOut (by kernel_rfl) (of_decide_eq_true (by kernel_rfl)) k1 bel lt1) trodAll_mk0)), rfl, bel.frame _, fun h => by cases h⟩

theorem over : Rows.choresTopRow.holds Try.pinned (OpenSpec.ofChange Rows.choresTopSpec) :=
  OpenClaim.holds_of_wide 5 Try.f5 rfl rfl rfl rfl rfl rfl rfl ⟨rfl, rfl, rfl, rfl, rfl⟩ rfl rfl rfl rfl rfl (by kernel_rfl) Try.func5 (by kernel_rfl)
    (of_decide_eq_true (by kernel_rfl)) (by unfold Func.isWrapper; first | (rw [if_pos (by decide +kernel)]; kernel_rfl) | (rw [if_neg (by decide +kernel)]; exact ⟨rfl, rfl⟩))
    (fun os started H enc _ => lifted os started H enc)
end Go.Proofs.Ytiohehofnlmenaa.ChoresTopTop
namespace Go.Proofs.Ytiohehofnlmenaa
/-- The statement. -/
theorem choresTop_holds : Rows.ChoresTopSaid := ChoresTopTop.over
#print axioms choresTop_holds
end Go.Proofs.Ytiohehofnlmenaa
