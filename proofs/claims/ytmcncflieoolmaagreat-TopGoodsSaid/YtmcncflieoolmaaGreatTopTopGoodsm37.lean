/- The walk of parcenertop.split: true for every goods and complete allocation.  (A region is printed by wip/gentopg.py.) -/
import Derived.Test.YtmcncflieoolmaaGreatTopTopGoodsm33
import Derived.Test.YtmcncflieoolmaaGreatTopTopGoodsm34
import Derived.Test.YtmcncflieoolmaaGreatTopTopGoodsm35
import Derived.Test.YtmcncflieoolmaaGreatTopTopGoodsm36
import Derived.Test.YtmcncflieoolmaaGreatTopTopGoodsm24
/- The walk of parcenertop.split: true for every goods and complete allocation.  (A region is printed by wip/gentopg.py.) -/
namespace Go.Proofs.YtmcncflieoolmaaGreat
set_option linter.unusedVariables false
set_option linter.unusedSimpArgs false
open Go.ChangeShapes Go.WideShapes Go.ChangeAt Go.RowKit Go.Deep

theorem rg12 {i : Nat} (h : i < 12) : i = 0 ∨ i = 1 ∨ i = 2 ∨ i = 3 ∨ i = 4 ∨ i = 5 ∨ i = 6 ∨ i = 7 ∨ i = 8 ∨ i = 9 ∨ i = 10 ∨ i = 11 := by omega
/-- Two numbers that are the same fraction. -/
theorem rat_of {S : Int} {d : Nat} (h0 : 0 ≤ S) (hd : 0 < d) : ∃ (n m g : Nat), rN S d = (n : Int) ∧ rD S d = (m : Int) ∧ 0 < g ∧ (n : Int) * g = S ∧ (m : Int) * g = d := by
  obtain ⟨s, rfl⟩ : ∃ s : Nat, S = (s : Int) := ⟨S.toNat, by omega⟩
  have hgp := rG_pos (x := (s : Int)) (d := d) hd
  have e1 : rG (s : Int) d = Nat.gcd s d := by unfold rG; rw [Int.natAbs_natCast]
  have hd1 : Nat.gcd s d ∣ s := Nat.gcd_dvd_left _ _
  have hd2 : Nat.gcd s d ∣ d := Nat.gcd_dvd_right _ _
  rw [e1] at hgp
  refine ⟨s / Nat.gcd s d, d / Nat.gcd s d, Nat.gcd s d, ?_, ?_, hgp, ?_, ?_⟩
  · unfold rN
    rw [e1, Int.natAbs_natCast]
    have : decide ((s : Int) < 0) = false := by simp
    rw [this]; rfl
  · unfold rD; rw [e1]
  · have := Nat.div_mul_cancel hd1
    rw [← Int.natCast_mul, this]
  · have := Nat.div_mul_cancel hd2
    rw [← Int.natCast_mul, this]
set_option maxHeartbeats 8000000 in
set_option maxRecDepth 100000 in
theorem split_walk (p : Option Addr) (c : Nat) (v : List (List Int)) (q : Option Addr) (d m : Nat) (a : List Int) (w : World) (hx : Mat w p c v) (hi : Ints w q d a) (hm : a.length = m) (hg : Gds v) (ha : AlcOk v a) (hf : FullA v.length a) (h4 : v.length ≤ 4) (hw6 : wid v ≤ 6) :
    Calls Tryz.prog 18 #[.agg #[.slice p v.length c], .slice q m d] w fun e w' => e = .returned (.bool true) ∧ Below w.heap.size w w' := by
  obtain ⟨W0, hW0⟩ : ∃ W0, w.alloc (.cells #[.slice p v.length c] 24) = W0 := ⟨_, rfl⟩
  have hB : Below w.heap.size w W0 := below_alloc hW0
  have bX : BoxV W0 w.heap.size [.slice p v.length c] := BoxV.new rfl hW0
  have hx := hx.below hB (Nat.le_refl _)
  have hi := hi.below hB (Nat.le_refl _)
  have x0 := bX.cell 0 _ rfl
  have HW0 := Lib.hid hW0
  by_cases h2 : v.length = 2
  · have hne : ((v.length : Int) != 2) = false := by rw [h2]; rfl
    have CF := Lib.hid (fun W (h : Below W0.heap.size W0 W) => shFind_any p c v W (hx.below h (Nat.le_refl _)) hg h4 hw6 (fun L hL => cut_choose hg h2 L hL))
    have CS := Lib.hid (fun W q' d' (A : List Int) (h : Below W0.heap.size W0 W) (hA : Ints W q' d' A) (hD : DigL v.length (wid v) A) (hno : ∀ L, ShrL v L v.length → ∀ i, i < v.length → iget L i ≤ worth v A i (i : Int)) => by
      have := shShort_any p c v q' d' A W (hx.below h (Nat.le_refl _)) hA (chkA_ok hg ⟨hD.1, fun j hj => by have := hD.2 j (by rw [← hD.1]; exact hj); omega⟩) hno
      rw [hD.1] at this
      exact this)
    have CK := Lib.hid (fun W (h : Below W0.heap.size W0 W) => check23_any p c v W (hx.below h (Nat.le_refl _)) hg h2)
    have CD := Lib.hid (fun W (h : Below W0.heap.size W0 W) (h1 : allG v 0 = allG v 1) (h3 : allG v 0 ≠ 0) => divide_any p c v W (hx.below h (Nat.le_refl _)) hg h2 h1 h3)
    have CV := Lib.hid (fun W q' d' n (A : List Int) s pn pd (h : Below W0.heap.size W0 W) (hA : Ints W q' d' A) (hn : A.length = n) (h1 : allG v 0 = allG v 1) (h3 : allG v 0 ≠ 0) (hD : DivOk v A s pn pd) => adjValues_any p c v q' d' n A s pn pd W (hx.below h (Nat.le_refl _)) hA hn hg h2 h1 h3 hD)
    have CWa := Lib.hid (fun (i : Nat) W (hiv : i < v.length) (h : Below W0.heap.size W0 W) => by
      have := worth_any p c v q d a i (i : Int) W (hx.below h (Nat.le_refl _)) (hi.below h (Nat.le_refl _)) hg ha hiv
      rw [hm] at this
      exact this)
    have Hg := Lib.hid hg
    have Ha := Lib.hid ha
    have Hf := Lib.hid hf
    have H2 := Lib.hid h2
    have Hm := Lib.hid hm
    clear hW0 hx hi h2 hg ha hf hm
    go_enter Tryz.func18, Tryz.ntmps18
    go_upto_region 1 with (fail)
    rw [HW0.out]
    go_wp2_with fail
    refine (CF.out W0 (Below.refl _ _)).mono ?_
    rintro e w1 ⟨A, qA, dA, rfl, iA, dgA, hno, hb1⟩
    clear x0
    have x0 := (bX.below hb1).cell 0 _ rfl
    have K := CS.out w1 qA dA A hb1 iA dgA hno
    have HB1 := Lib.hid hb1
    clear iA dgA hno hb1
    go_wp2_with fail
    refine K.mono ?_
    rintro e w2 ⟨rfl, hb2⟩
    have hb := HB1.out.trans (hb2.mono HB1.out.size)
    clear x0 K hb2
    have x0 := (bX.below hb).cell 0 _ rfl
    have K := CK.out w2 hb
    have HB2 := Lib.hid hb
    clear hb
    go_wp2_with fail
    refine K.mono ?_
    rintro e w3 ⟨kk, rfl, hkk, hb3⟩
    have hb := HB2.out.trans (hb3.mono HB2.out.size)
    clear x0 K hb3
    have x0 := (bX.below hb).cell 0 _ rfl
    have Hkk := Lib.hid hkk
    have HB3 := Lib.hid hb
    clear hkk hb
    by_cases hk0 : kk = 0
    · have hkb : (kk != 0) = false := by rw [hk0]; rfl
      obtain ⟨hall, hnz⟩ := Hkk.out hk0
      have K := CD.out w3 HB3.out hall hnz
      have Hall := Lib.hid hall
      have Hnz := Lib.hid hnz
      clear hk0 hall hnz Hkk
      go_wp2_with fail
      refine K.mono ?_
      rintro e w4 ⟨qD, dD, D, n, s, pn, pd, rfl, hDn, hDi, iD, hb4⟩
      have hb := HB3.out.trans (hb4.mono HB3.out.size)
      have HDi := Lib.hid hDi
      have hOk := divIs_ok Hg.out H2.out hDi
      have K2 := fun W (h : Below W0.heap.size W0 W) (hA : Ints W qD dD D) => CV.out W qD dD n D s pn pd h hA hDn Hall.out Hnz.out hOk
      have K2 := Lib.hid K2
      have HOk := Lib.hid hOk
      have HDn := Lib.hid hDn
      have ID := Lib.hid iD
      have HB4 := Lib.hid hb
      clear x0 K hb4 hDi hOk hDn iD hb
      go_upto_region 10 with (fail)
      obtain ⟨E, eE⟩ : ∃ E, w4.heap.size = E := ⟨_, rfl⟩
      obtain ⟨w5, hw5⟩ : ∃ W, w4.alloc (.cells #[.slice qD n dD, .int .i64 s, .int .i64 pn, .int .i64 pd] 52) = W := ⟨_, rfl⟩
      have hb5 : Below w4.heap.size w4 w5 := below_alloc hw5
      have bP : Arr w5 E [.slice qD n dD, .int .i64 s, .int .i64 pn, .int .i64 pd] 52 := Arr.new eE hw5
      rw [eE, hw5]
      have hb := HB4.out.trans (hb5.mono HB4.out.size)
      have x0 := (bX.below hb).cell 0 _ rfl
      have z0 := bP.cell (j := 0) rfl
      have z1 := bP.cell (j := 1) rfl
      have z2 := bP.cell (j := 2) rfl
      have z3 := bP.cell (j := 3) rfl
      have K := K2.out w5 hb (ID.out.below hb5 (Nat.le_refl _))
      have HB5 := Lib.hid hb
      have hden := HOk.out.den
      have heq := HOk.out.eq
      have hnw : n = wid v := by rw [← HDn.out]; exact HOk.out.len
      obtain ⟨pb, hpb⟩ : ∃ pb : Nat, pd = (pb : Int) := ⟨pd.toNat, by omega⟩
      have hin := sv_in (A := D) (s := s) Hg.out H2.out HOk.out.num.1 (Int.le_of_lt HOk.out.num.2) hden.2 n (by omega)
      rw [← hnw] at heq
      rw [← heq, show pd.toNat = pb by omega] at K
      obtain ⟨n1, m1, g, en, em, hg0, hgn, hgm⟩ := rat_of (S := sv0 v D s pn pd n) (d := pb) hin.1.1 (by omega)
      unfold ratV at K
      rw [en, em] at K
      have hbd : (n1 : Int) ≤ 20000000 ∧ 0 < m1 ∧ m1 ≤ 2000 := by
        have h1 : (n1 : Int) * 1 ≤ (n1 : Int) * g := Int.mul_le_mul_of_nonneg_left (by omega) (by omega)
        have h2 : (m1 : Int) * 1 ≤ (m1 : Int) * g := Int.mul_le_mul_of_nonneg_left (by omega) (by omega)
        have h3 : m1 ≠ 0 := by
          intro h; rw [h] at hgm; simp at hgm; omega
        have h4 := hw6
        refine ⟨?_, by omega, by omega⟩
        have : sv0 v D s pn pd n ≤ 2000000 * 6 := by have := hin.1.2; omega
        omega
      have Hbd := Lib.hid hbd
      have Hgn := Lib.hid (And.intro hg0 (And.intro hgn hgm))
      have Hpb := Lib.hid hpb
      have Hnw := Lib.hid hnw
      have Heq := Lib.hid heq
      clear hw5 hb5 bP hb hden heq hnw hpb hin en em hg0 hgn hgm hbd
      go_wp2_with fail
      refine K.mono ?_
      rintro e w6 ⟨rfl, hb6⟩
      have hb := HB5.out.trans (hb6.mono HB5.out.size)
      have HB6 := Lib.hid hb
      clear x0 z0 z1 z2 z3 K hb6 hb
      go_upto_region 11 with (fail)
      obtain ⟨R6, eR⟩ : ∃ R, w6.heap.size = R := ⟨_, rfl⟩
      obtain ⟨w6b, hw6b⟩ : ∃ W, w6.alloc (.cells #[.int .i64 (n1 : Int), .int .i64 (m1 : Int)] 50) = W := ⟨_, rfl⟩
      obtain ⟨wr, hwr⟩ : ∃ W, w6b.alloc (.cells #[.int .i64 (n1 : Int), .int .i64 (m1 : Int)] 50) = W := ⟨_, rfl⟩
      have b1 : Below w6.heap.size w6 w6b := below_alloc hw6b
      have b2 : Below w6b.heap.size w6b wr := below_alloc hwr
      have hs6 : w6b.heap.size = R6 + 1 := by rw [← hw6b]; simp [eR]
      have aX : Arr w6b R6 [.int .i64 (n1 : Int), .int .i64 (m1 : Int)] 50 := Arr.new eR hw6b
      have aY : Arr wr (R6 + 1) [.int .i64 (n1 : Int), .int .i64 (m1 : Int)] 50 := Arr.new hs6 hwr
      have aX := aX.below b2 aX.lt
      rw [hw6b, hwr, eR]
      have hb := (HB6.out.trans (b1.mono HB6.out.size)).trans (b2.mono (Nat.le_trans HB6.out.size b1.size))
      have x0 := (bX.below hb).cell 0 _ rfl
      obtain ⟨y1, ey1⟩ : ∃ y, worth v a 0 ((0 : Nat) : Int) = y := ⟨_, rfl⟩
      obtain ⟨y2, ey2⟩ : ∃ y, worth v a 1 ((1 : Nat) : Int) = y := ⟨_, rfl⟩
      have lv0 : 0 < v.length := by rw [H2.out]; omega
      have lv1 : 1 < v.length := by rw [H2.out]; omega
      have CW0 : Hid (∀ W, Below wr.heap.size wr W → Calls Tryz.prog 42 #[.agg #[.slice p v.length c], .slice q m d, .int .i64 0, .int .i64 0] W fun e w' => e = .returned (.int .i64 y1) ∧ Below W.heap.size W w') := fun W h => by
        rw [← ey1]; exact CWa.out 0 W lv0 (hb.trans (h.mono hb.size))
      have CW1 : Hid (∀ W, Below wr.heap.size wr W → Calls Tryz.prog 42 #[.agg #[.slice p v.length c], .slice q m d, .int .i64 1, .int .i64 1] W fun e w' => e = .returned (.int .i64 y2) ∧ Below W.heap.size W w') := fun W h => by
        rw [← ey2]; exact CWa.out 1 W lv1 (hb.trans (h.mono hb.size))
      have Hmk : Hid (∀ W, Below wr.heap.size wr W → W.cell? ⟨w.heap.size, 0, none⟩ = some (.slice p v.length c)) := fun W h => (h.cell (p := ⟨w.heap.size, 0, none⟩) (bX.below hb).lt).trans x0
      have hyb : (0 ≤ y1 ∧ y1 ≤ 10000) ∧ (0 ≤ y2 ∧ y2 ≤ 10000) := by
        have h1 := worthUp_in Hg.out lv0 ((0 : Nat) : Int) a.length (by rw [Ha.out.1]; exact Nat.le_refl _) (a := a)
        have h2 := worthUp_in Hg.out lv1 ((1 : Nat) : Int) a.length (by rw [Ha.out.1]; exact Nat.le_refl _) (a := a)
        have h3 := Hg.out.2.2.1
        have h4 := Ha.out.1
        rw [← ey1, ← ey2]
        unfold worth
        omega
      have htop : ¬ ((n1 : Int) * 1 < y1 * (m1 : Int) ∧ (n1 : Int) * 1 < y2 * (m1 : Int)) := by
        rintro ⟨t1, t2⟩
        refine HOk.out.top a Ha.out.1 (fun k hk => by
          have h1 := Hf.out k (by rw [Ha.out.1]; exact hk)
          have h2 := H2.out
          omega) ?_
        rw [← Hnw.out, ← Heq.out, ← Hgn.out.2.1, Hpb.out, ← Hgn.out.2.2]
        have e1 : worth v a 0 0 = y1 := ey1
        have e2 : worth v a 1 1 = y2 := ey2
        rw [e1, e2, ← Int.mul_assoc, ← Int.mul_assoc]
        rw [Int.mul_one] at t1 t2
        have g0 : (0 : Int) < g := by have := Hgn.out.1; omega
        exact ⟨Int.mul_lt_mul_of_pos_right t1 g0, Int.mul_lt_mul_of_pos_right t2 g0⟩
      have L1 : Hid (∀ W, Calls Tryz.prog 46 #[.agg #[.int .i64 (n1 : Int), .int .i64 (m1 : Int)], .agg #[.int .i64 y1, .int .i64 1]] W fun r w' => r = .returned (.bool (decide ((n1 : Int) * 1 < y1 * (m1 : Int)))) ∧ Below W.heap.size W w') := fun W => refLess_any (n1 : Int) y1 m1 1 W (by have := Hbd.out; omega) (by omega) (by have := Hbd.out; omega) (by omega)
      have L2 : Hid (∀ W, Calls Tryz.prog 46 #[.agg #[.int .i64 (n1 : Int), .int .i64 (m1 : Int)], .agg #[.int .i64 y2, .int .i64 1]] W fun r w' => r = .returned (.bool (decide ((n1 : Int) * 1 < y2 * (m1 : Int)))) ∧ Below W.heap.size W w') := fun W => refLess_any (n1 : Int) y2 m1 1 W (by have := Hbd.out; omega) (by omega) (by have := Hbd.out; omega) (by omega)
      obtain ⟨r1, er1⟩ : ∃ r, decide ((n1 : Int) * 1 < y1 * (m1 : Int)) = r := ⟨_, rfl⟩
      obtain ⟨r2, er2⟩ : ∃ r, decide ((n1 : Int) * 1 < y2 * (m1 : Int)) = r := ⟨_, rfl⟩
      have hrr : r1 = true → r2 = false := by
        intro h
        rw [← er2, decide_eq_false_iff_not]
        rw [← er1, decide_eq_true_iff] at h
        exact fun h2 => htop ⟨h, h2⟩
      rw [er1] at L1
      rw [er2] at L2
      have Hrr := Lib.hid hrr
      have HBr := Lib.hid hb
      have AX := Lib.hid aX
      have AY := Lib.hid aY
      clear hw6b hwr b1 b2 hs6 aX aY ey1 ey2 hyb htop er1 er2 hrr hb eR
      refine wp_region_inv (by kernel_rfl) (by decide +kernel) (by decide +kernel) _ _ (ManyJ wr [(8, 10), (9, 11)] (fun kk => match kk with | 0 => (.agg #[.slice p v.length c]) | 1 => (.slice q m d) | 2 => (.int .i64 y1) | 3 => (.agg #[.int .i64 y1, .int .i64 1]) | 4 => (.agg #[.slice p v.length c]) | 5 => (.slice q m d) | 6 => (.int .i64 y2) | 7 => (.agg #[.int .i64 y2, .int .i64 1]) | _ => undef) (fun kk => match kk with | 8 => (.int .i64 y1) | 9 => (.int .i64 y2) | _ => undef) (fun kk => match kk with | 8 => (.int .i64 1) | 9 => (.int .i64 1) | _ => undef)) ?_ ?_ ?_
      · exact fun us => ManyJ.start us
      · intro us D W i o A hA hi hJ hnD hon K hK
        have hlt : i < 12 := (Array.getElem?_eq_some_iff.1 hi).1
        rcases rg12 hlt with rfl | rfl | rfl | rfl | rfl | rfl | rfl | rfl | rfl | rfl | rfl | rfl
        · have hi' := Option.some.inj hi
          subst hi'
          refine wp_val (v := (.agg #[.slice p v.length c])) (w' := W) ?_ (hK _ _ (hJ.pure (i := 0) (by decide) (Below.refl _ _)))
          · skip
            have e2 : A.tmps[2]?.getD undef = (.pointer (some ⟨w.heap.size, 0, none⟩)) := by rw [hA]; kernel_rfl
            have cc := Hmk.out W hJ.bel
            clear hA hK hon hJ
            go_simp
        · have hi' := Option.some.inj hi
          subst hi'
          refine wp_val (v := (.slice q m d)) (w' := W) ?_ (hK _ _ (hJ.pure (i := 1) (by decide) (Below.refl _ _)))
          · skip
            have e1 : A.tmps[1]?.getD undef = (.slice q m d) := by rw [hA]; kernel_rfl
            clear hA hK hon hJ
            go_simp
        · have hi' := Option.some.inj hi
          subst hi'
          refine wp_enter (f := 42) (args := #[(.agg #[.slice p v.length c]), (.slice q m d), .int .i64 0, .int .i64 0]) (w' := W) ?_ ((CW0.out W hJ.bel).mono ?_)
          · skip
            have e57 : A.tmps[57]?.getD undef = (.agg #[.slice p v.length c]) := (by rw [hA]; kernel_rfl : A.tmps[57]?.getD undef = us 0).trans (hJ.val 0 (by decide) (hon 0 (by decide +kernel)))
            have e58 : A.tmps[58]?.getD undef = (.slice q m d) := (by rw [hA]; kernel_rfl : A.tmps[58]?.getD undef = us 1).trans (hJ.val 1 (by decide) (hon 1 (by decide +kernel)))
            clear hA hK hon hJ
            go_simp
          · rintro r' wC ⟨rfl, hbC⟩
            exact ⟨_, rfl, hK _ _ (hJ.pure (i := 2) (by decide) hbC)⟩
        · have hi' := Option.some.inj hi
          subst hi'
          refine wp_enter (f := 24) (args := #[.int .i64 y1]) (w' := W) ?_ ((of_any y1 W).mono ?_)
          · skip
            have e59 : A.tmps[59]?.getD undef = (.int .i64 y1) := (by rw [hA]; kernel_rfl : A.tmps[59]?.getD undef = us 2).trans (hJ.val 2 (by decide) (hon 2 (by decide +kernel)))
            clear hA hK hon hJ
            go_simp
          · rintro r' wC ⟨rfl, hbC⟩
            exact ⟨_, rfl, hK _ _ (hJ.pure (i := 3) (by decide) hbC)⟩
        · have hi' := Option.some.inj hi
          subst hi'
          refine wp_val (v := (.agg #[.slice p v.length c])) (w' := W) ?_ (hK _ _ (hJ.pure (i := 4) (by decide) (Below.refl _ _)))
          · skip
            have e2 : A.tmps[2]?.getD undef = (.pointer (some ⟨w.heap.size, 0, none⟩)) := by rw [hA]; kernel_rfl
            have cc := Hmk.out W hJ.bel
            clear hA hK hon hJ
            go_simp
        · have hi' := Option.some.inj hi
          subst hi'
          refine wp_val (v := (.slice q m d)) (w' := W) ?_ (hK _ _ (hJ.pure (i := 5) (by decide) (Below.refl _ _)))
          · skip
            have e1 : A.tmps[1]?.getD undef = (.slice q m d) := by rw [hA]; kernel_rfl
            clear hA hK hon hJ
            go_simp
        · have hi' := Option.some.inj hi
          subst hi'
          refine wp_enter (f := 42) (args := #[(.agg #[.slice p v.length c]), (.slice q m d), .int .i64 1, .int .i64 1]) (w' := W) ?_ ((CW1.out W hJ.bel).mono ?_)
          · skip
            have e61 : A.tmps[61]?.getD undef = (.agg #[.slice p v.length c]) := (by rw [hA]; kernel_rfl : A.tmps[61]?.getD undef = us 4).trans (hJ.val 4 (by decide) (hon 4 (by decide +kernel)))
            have e62 : A.tmps[62]?.getD undef = (.slice q m d) := (by rw [hA]; kernel_rfl : A.tmps[62]?.getD undef = us 5).trans (hJ.val 5 (by decide) (hon 5 (by decide +kernel)))
            clear hA hK hon hJ
            go_simp
          · rintro r' wC ⟨rfl, hbC⟩
            exact ⟨_, rfl, hK _ _ (hJ.pure (i := 6) (by decide) hbC)⟩
        · have hi' := Option.some.inj hi
          subst hi'
          refine wp_enter (f := 24) (args := #[.int .i64 y2]) (w' := W) ?_ ((of_any y2 W).mono ?_)
          · skip
            have e63 : A.tmps[63]?.getD undef = (.int .i64 y2) := (by rw [hA]; kernel_rfl : A.tmps[63]?.getD undef = us 6).trans (hJ.val 6 (by decide) (hon 6 (by decide +kernel)))
            clear hA hK hon hJ
            go_simp
          · rintro r' wC ⟨rfl, hbC⟩
            exact ⟨_, rfl, hK _ _ (hJ.pure (i := 7) (by decide) hbC)⟩
        · have hi' := Option.some.inj hi
          subst hi'
          refine wp_val (v := .pointer (some ⟨W.heap.size, 0, none⟩)) (w' := W.alloc (.cells #[.int .i64 0, .int .i64 0] 50)) ?_ (hK _ _ (hJ.alloc (ai := 8) (si := 10) (by decide) (by decide) hnD _ _ _))
          · skip
            clear hA hK hon hJ
            go_simp
        · have hi' := Option.some.inj hi
          subst hi'
          refine wp_val (v := .pointer (some ⟨W.heap.size, 0, none⟩)) (w' := W.alloc (.cells #[.int .i64 0, .int .i64 0] 50)) ?_ (hK _ _ (hJ.alloc (ai := 9) (si := 11) (by decide) (by decide) hnD _ _ _))
          · skip
            clear hA hK hon hJ
            go_simp
        · have hi' := Option.some.inj hi
          subst hi'
          obtain ⟨g, x', y', hg, _, hlt, ht, _⟩ := hJ.blk (8, 10) (by decide) (hon 8 (by decide +kernel))
          refine wp_skip (w' := (W.setCell ⟨g, 0, none⟩ (.int .i64 y1)).setCell ⟨g, 1, none⟩ (.int .i64 1)) ?_ (hK _ _ (hJ.store (ai := 8) (si := 10) (by decide) (by decide) (hon 8 (by decide +kernel)) hg undef))
          · skip
            have e14 : A.tmps[14]?.getD undef = .pointer (some ⟨g, 0, none⟩) := (by rw [hA]; kernel_rfl : A.tmps[14]?.getD undef = us 8).trans hg
            have e60 : A.tmps[60]?.getD undef = (.agg #[.int .i64 y1, .int .i64 1]) := (by rw [hA]; kernel_rfl : A.tmps[60]?.getD undef = us 3).trans (hJ.val 3 (by decide) (hon 3 (by decide +kernel)))
            have c0 := ht.c0
            have c1 := ht.c1
            have f0 := ht.f0
            have f1 := ht.f1
            clear ht
            clear hA hK hon hJ
            go_simp
        · have hi' := Option.some.inj hi
          subst hi'
          obtain ⟨g, x', y', hg, _, hlt, ht, _⟩ := hJ.blk (9, 11) (by decide) (hon 9 (by decide +kernel))
          refine wp_skip (w' := (W.setCell ⟨g, 0, none⟩ (.int .i64 y2)).setCell ⟨g, 1, none⟩ (.int .i64 1)) ?_ (hK _ _ (hJ.store (ai := 9) (si := 11) (by decide) (by decide) (hon 9 (by decide +kernel)) hg undef))
          · skip
            have e15 : A.tmps[15]?.getD undef = .pointer (some ⟨g, 0, none⟩) := (by rw [hA]; kernel_rfl : A.tmps[15]?.getD undef = us 9).trans hg
            have e64 : A.tmps[64]?.getD undef = (.agg #[.int .i64 y2, .int .i64 1]) := (by rw [hA]; kernel_rfl : A.tmps[64]?.getD undef = us 7).trans (hJ.val 7 (by decide) (hon 7 (by decide +kernel)))
            have c0 := ht.c0
            have c1 := ht.c1
            have f0 := ht.f0
            have f1 := ht.f1
            clear ht
            clear hA hK hon hJ
            go_simp
      · intro us D' w7 hJ hall
        obtain ⟨g1, u14, g1l, g1h, t14⟩ := hJ.get (ai := 8) (si := 10) (by decide) (hall 8 (by decide)) (hall 10 (by decide))
        obtain ⟨g2, u15, g2l, g2h, t15⟩ := hJ.get (ai := 9) (si := 11) (by decide) (hall 9 (by decide)) (hall 11 (by decide))
        have hb := hJ.bel
        clear hJ hall
        have zX := AX.out.below hb AX.out.lt
        have zY := AY.out.below hb AY.out.lt
        have HB7 := Lib.hid (HBr.out.trans (hb.mono HBr.out.size))
        have T14 := Lib.hid t14
        have T15 := Lib.hid t15
        clear hb t14 t15
        simp only [actL, slotL, putL, List.setIfInBounds_toArray, List.set_cons_zero, List.set_cons_succ, Nat.zero_add, Nat.reduceAdd, u14, u15]
        have a0 := zX.cell (j := 0) rfl
        have a1 := zX.cell (j := 1) rfl
        have b0 := zY.cell (j := 0) rfl
        have b1 := zY.cell (j := 1) rfl
        have c0 := T14.out.c0
        have c1 := T14.out.c1
        go_wp2_with fail
        refine (L1.out w7).mono ?_
        rintro e w8 ⟨rfl, hb8⟩
        cases r1 with
        | false =>
          go_wp2_with fail
          go_ret
          exact ⟨rfl, hB.trans ((HB7.out.trans (hb8.mono HB7.out.size)).mono hB.size)⟩
        | true =>
          have hr2 := Hrr.out rfl
          subst hr2
          have zY8 := zY.below hb8 zY.lt
          have T158 := T15.out.below hb8 g2h
          clear a0 a1 b0 b1 c0 c1
          have b0 := zY8.cell (j := 0) rfl
          have b1 := zY8.cell (j := 1) rfl
          have c0 := T158.c0
          have c1 := T158.c1
          go_wp2_with fail
          refine (L2.out w8).mono ?_
          rintro e w9 ⟨rfl, hb9⟩
          go_wp2_with fail
          go_ret
          exact ⟨rfl, hB.trans (((HB7.out.trans (hb8.mono HB7.out.size)).trans (hb9.mono (Nat.le_trans HB7.out.size hb8.size))).mono hB.size)⟩
    · have hkb : (kk != 0) = true := by rw [bne_iff_ne]; exact hk0
      clear hk0
      go_wp2_with fail
      go_ret
      exact ⟨rfl, hB.trans (HB3.out.mono hB.size)⟩
  · have hne : ((v.length : Int) != 2) = true := by rw [bne_iff_ne]; omega
    clear hW0 hx hi h2 hg ha hf hm
    go_enter Tryz.func18, Tryz.ntmps18
    go_upto_region 1 with (fail)
    rw [HW0.out]
    go_wp2_with fail
    go_ret
    exact ⟨rfl, hB⟩
end Go.Proofs.YtmcncflieoolmaaGreat
