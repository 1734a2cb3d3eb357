/- The walk of alive24 (top): the example holds; no condition.  (Printed by wip/gentopga.py.) -/
import Derived.Test.YtmcncflieoolmaaGreatTopTopGoodsm40
import Derived.Test.YtmcncflieoolmaaGreatTopTopGoodsm18
import Derived.Test.YtmcncflieoolmaaGreatTopTopGoodsm35
import Derived.Test.YtmcncflieoolmaaGreatTopTopGoodsm11
import Derived.Test.YtmcncflieoolmaaGreatTopTopGoodsm24
import Derived.Deep.RegionHeld3
import Derived.Deep.DeepCutAuto
import Derived.BigQuiet
/- The walk of alive24 (top): the example holds; no condition.  (Printed by wip/gentopga.py.) -/
namespace Go.Proofs.YtmcncflieoolmaaGreat
set_option linter.unusedVariables false
set_option linter.unusedSimpArgs false
open Go.ChangeShapes Go.WideShapes Go.ChangeAt Go.RowKit Go.Deep

theorem runP_e {p q : Option Addr} {c d : Nat} {w : World} (hx : Mat w p c PV) (hy : Ints w q d [0, 1, 2]) :
    Calls Tryz.prog 12 #[.agg #[.slice p 2 c], .slice q 3 d] w fun e w' => ∃ pa ca ps ns cs, e = .returned (.tuple #[.slice pa 3 ca, .slice ps ns cs, .int .i64 0]) ∧ Ints w' pa ca [0, 1, 0] ∧ Below w.heap.size w w' := by
  refine (roundsRun_any p q c d PV [0, 1, 2] w hx hy pv_gds (by decide +kernel)).mono ?_
  rintro e w' ⟨p', c', A, ps, ns, cs, rfl, hO, hR, hb⟩
  have := (pv_run hR).2.2.2 rfl
  subst this
  exact ⟨p', c', ps, ns, cs, rfl, hO.ints, hb⟩
theorem nashP_e {p : Option Addr} {c : Nat} {w : World} (hx : Mat w p c PV) :
    Calls Tryz.prog 13 #[.agg #[.slice p 2 c]] w fun e w' => ∃ q d x1 x2 x3, e = .returned (.tuple #[.slice q 3 d, .agg #[.int .i64 x1, .int .i64 x2, .int .i64 x3], .int .i64 0]) ∧ Ints w' q d [0, 1, 1] ∧ Below w.heap.size w w' := by
  refine (nashBest_any p c PV w hx pv_gds (by decide) (by decide)).mono ?_
  rintro e w' ⟨B, q, d, x1, x2, x3, rfl, hI, hD, hm, hb⟩
  have := pv_nash hD (hm [0, 1, 1] ⟨rfl, by decide +kernel⟩)
  subst this
  exact ⟨q, d, x1, x2, x3, rfl, hI, hb⟩
theorem pickP_e {p q : Option Addr} {c d : Nat} {w : World} (hx : Mat w p c PV) (hy : Ints w q d [0, 1, 0]) :
    Calls Tryz.prog 11 #[.agg #[.slice p 2 c], .slice q 3 d] w fun e w' => ∃ pa ca pt ct, e = .returned (.tuple #[.slice pa 3 ca, .slice pt 3 ct, .int .i64 0]) ∧ Ints w' pa ca [0, 0, 1] ∧ Below w.heap.size w w' := by
  have hE : pickE PV [0, 1, 0] = 0 := by rw [pickE_ok (chkG_ok pv_gds)]; exact pv_turns
  have hL : pickL PV [0, 1, 0] = [0, 0, 1] := by unfold pickL; rw [if_pos hE]; exact pv_pick
  have hT : (pickT PV [0, 1, 0]).length = 3 := by unfold pickT; rw [if_pos hE, pkT_len]; rfl
  refine (robinPick_any p q c d PV [0, 1, 0] w hx hy).mono ?_
  rintro e w' ⟨pa, ca, pt, ct, rfl, oA, oT, hb⟩
  rw [hL] at oA ⊢
  rw [hT, hE]
  exact ⟨pa, ca, pt, ct, rfl, oA.ints, hb⟩
theorem pv_same : allG PV 0 = allG PV 1 ∧ allG PV 0 ≠ 0 := by decide +kernel
theorem divP_e {p : Option Addr} {c : Nat} {w : World} (hx : Mat w p c PV) :
    Calls Tryz.prog 21 #[.agg #[.slice p 2 c]] w fun e w' => ∃ q d, e = .returned (.tuple #[.agg #[.slice q 3 d, .int .i64 1, .int .i64 1, .int .i64 3], .int .i64 0]) ∧ Ints w' q d [0, 0, 1] ∧ DivIs PV [0, 0, 1] 1 1 3 ∧ Below w.heap.size w w' := by
  refine (divide_any p c PV w hx pv_gds rfl pv_same.1 pv_same.2).mono ?_
  rintro e w' ⟨q, d, A, n, s, pn, pd, rfl, hn, hD, hI, hb⟩
  obtain ⟨rfl, rfl, rfl, rfl⟩ := pv_div hD
  subst hn
  exact ⟨q, d, rfl, hI, hD, hb⟩
theorem valsP_e {p q : Option Addr} {c d : Nat} {w : World} (hD : DivIs PV [0, 0, 1] 1 1 3) (hx : Mat w p c PV) (hI : Ints w q d [0, 0, 1]) :
    Calls Tryz.prog 22 #[.agg #[.slice p 2 c], .agg #[.slice q 3 d, .int .i64 1, .int .i64 1, .int .i64 3]] w fun e w' => e = .returned (.tuple #[.agg #[.int .i64 7, .int .i64 1], .agg #[.int .i64 7, .int .i64 1], .int .i64 0]) ∧ Below w.heap.size w w' := by
  refine (adjValues_any p c PV q d 3 [0, 0, 1] 1 1 3 w hx hI rfl pv_gds rfl pv_same.1 pv_same.2 (divIs_ok pv_gds rfl hD)).mono ?_
  rintro e w' ⟨rfl, hb⟩
  rw [pv_value.1, pv_value.2]
  exact ⟨rfl, hb⟩
/-- Goods that a call handed back. -/
def ExtG (v : List (List Int)) (u : Value) (W : World) : Prop := ∃ p c, u = .agg #[.slice p 2 c] ∧ Mat W p c v
theorem ExtG.step {v : List (List Int)} {u : Value} {W W' : World} (h : ExtG v u W) (hb : Below W.heap.size W W') : ExtG v u W' := by
  obtain ⟨p, c, h1, h2⟩ := h
  exact ⟨p, c, h1, h2.below hb (Nat.le_refl _)⟩
theorem rgb39 {i : Nat} (h : i < 39) : i = 0 ∨ i = 1 ∨ i = 2 ∨ i = 3 ∨ i = 4 ∨ i = 5 ∨ i = 6 ∨ i = 7 ∨ i = 8 ∨ i = 9 ∨ i = 10 ∨ i = 11 ∨ i = 12 ∨ i = 13 ∨ i = 14 ∨ i = 15 ∨ i = 16 ∨ i = 17 ∨ i = 18 ∨ i = 19 ∨ i = 20 ∨ i = 21 ∨ i = 22 ∨ i = 23 ∨ i = 24 ∨ i = 25 ∨ i = 26 ∨ i = 27 ∨ i = 28 ∨ i = 29 ∨ i = 30 ∨ i = 31 ∨ i = 32 ∨ i = 33 ∨ i = 34 ∨ i = 35 ∨ i = 36 ∨ i = 37 ∨ i = 38 := by omega
theorem rga12 {i : Nat} (h : i < 12) : i = 0 ∨ i = 1 ∨ i = 2 ∨ i = 3 ∨ i = 4 ∨ i = 5 ∨ i = 6 ∨ i = 7 ∨ i = 8 ∨ i = 9 ∨ i = 10 ∨ i = 11 := by omega
set_option maxHeartbeats 8000000 in
set_option maxRecDepth 100000 in
theorem aliveTop24_any (w : World) : Calls Tryz.prog 4 #[] w fun e w' => e = .returned (.bool true) ∧ Below w.heap.size w w' := by
  go_enter Tryz.func4, Tryz.ntmps4
  have hS := St.start w
  go_wp2_with fail
  refine (pair_any _).mono ?_
  rintro e w1 ⟨p1, c1, rfl, hM, hb⟩
  replace hS := hS.step hb
  replace hS := hS.addM rfl hM
  clear hb hM
  replace hS := hS.lit [0, 1, 2] 3
  go_wp2_with fail
  refine (runP_e (hS.matAt 1 rfl) (hS.intsAt 0 rfl)).mono ?_
  rintro e w2 ⟨pa, ca, ps, ns, cs, rfl, hA, hb⟩
  replace hS := hS.step hb
  replace hS := hS.addI rfl hA
  clear hb hA
  go_wp2_with fail
  refine (pair_any _).mono ?_
  rintro e w3 ⟨p2, c2, rfl, hM, hb⟩
  replace hS := hS.step hb
  replace hS := hS.addM rfl hM
  clear hb hM
  go_wp2_with fail
  refine (nashP_e (hS.matAt 0 rfl)).mono ?_
  rintro e w4 ⟨pb, cb, x1, x2, x3, rfl, hA, hb⟩
  replace hS := hS.step hb
  replace hS := hS.addI rfl hA
  clear hb hA
  replace hS := hS.box [.int .i64 x1, .int .i64 x2, .int .i64 x3] 41
  go_wp2_with fail
  refine (pair_any _).mono ?_
  rintro e w5 ⟨p3, c3, rfl, hM, hb⟩
  replace hS := hS.step hb
  replace hS := hS.addM rfl hM
  clear hb hM
  replace hS := hS.lit [0, 1, 0] 3
  go_wp2_with fail
  refine (pickP_e (hS.matAt 1 rfl) (hS.intsAt 0 rfl)).mono ?_
  rintro e w6 ⟨pc, cc, pk, ck, rfl, hA, hb⟩
  replace hS := hS.step hb
  replace hS := hS.addI rfl hA
  clear hb hA
  go_wp2_with fail
  refine (pair_any _).mono ?_
  rintro e w7 ⟨p4, c4, rfl, hM, hb⟩
  replace hS := hS.step hb
  replace hS := hS.addM rfl hM
  clear hb hM
  go_wp2_with fail
  refine (divP_e (hS.matAt 0 rfl)).mono ?_
  rintro e w8 ⟨pd, cd, rfl, hA, hDi, hb⟩
  replace hS := hS.step hb
  replace hS := hS.addI rfl hA
  clear hb hA
  replace hS := hS.box [.slice pd 3 cd, .int .i64 1, .int .i64 1, .int .i64 3] 52
  have HDi := Lib.hid hDi
  clear hDi
  obtain ⟨W2, hW2⟩ : ∃ W, w8.alloc (.cells #[.slice pd 3 cd, .int .i64 1, .int .i64 1, .int .i64 3] 52) = W := ⟨_, rfl⟩
  have hS1 : St w W2 W2.heap.size _ := hW2 ▸ (hS.step (below_drewN _ _ 0))
  clear hS
  have HW2 := Lib.hid hW2
  clear hW2
  have HB := Lib.hid (hS1.intsAt 1 rfl)
  have km_0 := hS1.boxAt 0 0 rfl rfl
  have km_1 := hS1.boxAt 0 1 rfl rfl
  have km_2 := hS1.boxAt 0 2 rfl rfl
  have km_3 := hS1.boxAt 0 3 rfl rfl
  have lm := hS1.boxLt 0 rfl
  go_upto_region 5 with (fail)
  rw [HW2.out]
  have Hmk : Hid (∀ W, Below W2.heap.size W2 W → (W.cell? ⟨w8.heap.size, 0, none⟩ = some (.slice pd 3 cd) ∧ W.cell? ⟨w8.heap.size, 1, none⟩ = some (.int .i64 1) ∧ W.cell? ⟨w8.heap.size, 2, none⟩ = some (.int .i64 1) ∧ W.cell? ⟨w8.heap.size, 3, none⟩ = some (.int .i64 3))) := fun W hG => ⟨(hG.cell (p := ⟨w8.heap.size, 0, none⟩) lm).trans km_0, (hG.cell (p := ⟨w8.heap.size, 1, none⟩) lm).trans km_1, (hG.cell (p := ⟨w8.heap.size, 2, none⟩) lm).trans km_2, (hG.cell (p := ⟨w8.heap.size, 3, none⟩) lm).trans km_3⟩
  clear km_0 km_1 km_2 km_3 lm
  refine wp_region_inv (by kernel_rfl) (by decide +kernel) (by decide +kernel) _ _ (ManyE W2 [(7, 9), (8, 10)] (fun kk => match kk with | 1 => (.agg #[.slice pd 3 cd, .int .i64 1, .int .i64 1, .int .i64 3]) | 2 => (.tuple #[(.agg #[.int .i64 7, .int .i64 1]), (.agg #[.int .i64 7, .int .i64 1]), .int .i64 0]) | 3 => (.tuple #[(.agg #[.int .i64 7, .int .i64 1]), (.agg #[.int .i64 7, .int .i64 1]), .int .i64 0]) | 4 => (.agg #[.int .i64 7, .int .i64 1]) | 5 => (.agg #[.int .i64 7, .int .i64 1]) | 6 => (.int .i64 0) | 11 => (.int .i64 0) | _ => undef) (fun kk => match kk with | 7 => (.int .i64 7) | 8 => (.int .i64 7) | _ => undef) (fun kk => match kk with | 7 => (.int .i64 1) | 8 => (.int .i64 1) | _ => undef) 0 2 [3, 4, 5, 6, 9, 10, 11] (ExtG PV)) ?_ ?_ ?_
  · exact fun us => ManyE.start us
  · intro us D W i o A hA hi hJ hnD hon K hK
    have hlt : i < 12 := (Array.getElem?_eq_some_iff.1 hi).1
    rcases rga12 hlt with rfl | rfl | rfl | rfl | rfl | rfl | rfl | rfl | rfl | rfl | rfl | rfl
    · have hi' := Option.some.inj hi
      subst hi'
      refine wp_enter (f := 20) (args := #[]) (w' := W) ?_ ((pair_any W).mono ?_)
      · skip
        clear hA hK hon hJ
        go_simp
      · rintro r' wC ⟨pz, cz, rfl, hMz, hbC⟩
        exact ⟨_, rfl, hK _ _ (hJ.first (by decide) (by decide) (by decide) _ ⟨pz, cz, rfl, hMz⟩ hbC)⟩
    · have hi' := Option.some.inj hi
      subst hi'
      refine wp_val (v := (.agg #[.slice pd 3 cd, .int .i64 1, .int .i64 1, .int .i64 3])) (w' := W) ?_ (hK _ _ (hJ.pure (i := 1) (by decide) (by decide) (fun _ h => h) (Below.refl _ _)))
      · skip
        have e10 : A.tmps[10]?.getD undef = (.pointer (some ⟨w8.heap.size, 0, none⟩)) := by rw [hA]; kernel_rfl
        obtain ⟨cc0, cc1, cc2, cc3⟩ := Hmk.out W hJ.bel
        clear hA hK hon hJ
        go_simp
    · have hi' := Option.some.inj hi
      subst hi'
      obtain ⟨pz, cz, hz, hMz⟩ := hJ.ext (hon 0 (by decide +kernel)) hnD
      refine wp_enter (f := 22) (args := #[.agg #[.slice pz 2 cz], (.agg #[.slice pd 3 cd, .int .i64 1, .int .i64 1, .int .i64 3])]) (w' := W) ?_ ((valsP_e HDi.out hMz (HB.out.below hJ.bel (Nat.le_refl _))).mono ?_)
      · skip
        have e41 : A.tmps[41]?.getD undef = (.agg #[.slice pz 2 cz]) := (by rw [hA]; kernel_rfl : A.tmps[41]?.getD undef = us 0).trans hz
        have e42 : A.tmps[42]?.getD undef = (.agg #[.slice pd 3 cd, .int .i64 1, .int .i64 1, .int .i64 3]) := (by rw [hA]; kernel_rfl : A.tmps[42]?.getD undef = us 1).trans (hJ.value 1 (by decide) (hon 1 (by decide +kernel)))
        clear hA hK hon hJ
        go_simp
      · rintro r' wC ⟨rfl, hbC⟩
        exact ⟨_, rfl, hK _ _ (hJ.use (by decide) (by decide) hbC)⟩
    · have hi' := Option.some.inj hi
      subst hi'
      have hc : D 2 := (hon 2 (by decide +kernel))
      refine wp_val (v := (.tuple #[(.agg #[.int .i64 7, .int .i64 1]), (.agg #[.int .i64 7, .int .i64 1]), .int .i64 0])) (w' := W) ?_ (hK _ _ (hJ.later (i := 3) (by decide) hc (by decide) (Below.refl _ _)))
      · skip
        have e43 : A.tmps[43]?.getD undef = (.tuple #[(.agg #[.int .i64 7, .int .i64 1]), (.agg #[.int .i64 7, .int .i64 1]), .int .i64 0]) := (by rw [hA]; kernel_rfl : A.tmps[43]?.getD undef = us 2).trans (hJ.value 2 (by decide) (hon 2 (by decide +kernel)))
        clear hA hK hon hJ
        go_simp
    · have hi' := Option.some.inj hi
      subst hi'
      have hc : D 2 := (hJ.ch 3 (by decide) (hon 3 (by decide +kernel)))
      refine wp_val (v := (.agg #[.int .i64 7, .int .i64 1])) (w' := W) ?_ (hK _ _ (hJ.later (i := 4) (by decide) hc (by decide) (Below.refl _ _)))
      · skip
        have e40 : A.tmps[40]?.getD undef = (.tuple #[(.agg #[.int .i64 7, .int .i64 1]), (.agg #[.int .i64 7, .int .i64 1]), .int .i64 0]) := (by rw [hA]; kernel_rfl : A.tmps[40]?.getD undef = us 3).trans (hJ.value 3 (by decide) (hon 3 (by decide +kernel)))
        clear hA hK hon hJ
        go_simp
    · have hi' := Option.some.inj hi
      subst hi'
      have hc : D 2 := (hJ.ch 3 (by decide) (hon 3 (by decide +kernel)))
      refine wp_val (v := (.agg #[.int .i64 7, .int .i64 1])) (w' := W) ?_ (hK _ _ (hJ.later (i := 5) (by decide) hc (by decide) (Below.refl _ _)))
      · skip
        have e40 : A.tmps[40]?.getD undef = (.tuple #[(.agg #[.int .i64 7, .int .i64 1]), (.agg #[.int .i64 7, .int .i64 1]), .int .i64 0]) := (by rw [hA]; kernel_rfl : A.tmps[40]?.getD undef = us 3).trans (hJ.value 3 (by decide) (hon 3 (by decide +kernel)))
        clear hA hK hon hJ
        go_simp
    · have hi' := Option.some.inj hi
      subst hi'
      have hc : D 2 := (hJ.ch 3 (by decide) (hon 3 (by decide +kernel)))
      refine wp_val (v := (.int .i64 0)) (w' := W) ?_ (hK _ _ (hJ.later (i := 6) (by decide) hc (by decide) (Below.refl _ _)))
      · skip
        have e40 : A.tmps[40]?.getD undef = (.tuple #[(.agg #[.int .i64 7, .int .i64 1]), (.agg #[.int .i64 7, .int .i64 1]), .int .i64 0]) := (by rw [hA]; kernel_rfl : A.tmps[40]?.getD undef = us 3).trans (hJ.value 3 (by decide) (hon 3 (by decide +kernel)))
        clear hA hK hon hJ
        go_simp
    · have hi' := Option.some.inj hi
      subst hi'
      refine wp_val (v := .pointer (some ⟨W.heap.size, 0, none⟩)) (w' := W.alloc (.cells #[.int .i64 0, .int .i64 0] 50)) ?_ (hK _ _ (hJ.alloc (ai := 7) (si := 9) (by decide) (by decide) (by decide) hnD _ _ _ (fun _ h => h.step ((Below.refl _ _).alloc (Nat.le_refl _) _))))
      · skip
        clear hA hK hon hJ
        go_simp
    · have hi' := Option.some.inj hi
      subst hi'
      refine wp_val (v := .pointer (some ⟨W.heap.size, 0, none⟩)) (w' := W.alloc (.cells #[.int .i64 0, .int .i64 0] 50)) ?_ (hK _ _ (hJ.alloc (ai := 8) (si := 10) (by decide) (by decide) (by decide) hnD _ _ _ (fun _ h => h.step ((Below.refl _ _).alloc (Nat.le_refl _) _))))
      · skip
        clear hA hK hon hJ
        go_simp
    · have hi' := Option.some.inj hi
      subst hi'
      have hc : D 2 := (hJ.ch 4 (by decide) (hon 4 (by decide +kernel)))
      obtain ⟨g, x', y', hg, _, hlt, ht, _⟩ := hJ.blk (ai := 7) (si := 9) (by decide) (by decide) (hon 7 (by decide +kernel))
      refine wp_skip (w' := (W.setCell ⟨g, 0, none⟩ (.int .i64 7)).setCell ⟨g, 1, none⟩ (.int .i64 1)) ?_ (hK _ _ (hJ.store (ai := 7) (si := 9) (by decide) (by decide) (by decide) hc (hon 7 (by decide +kernel)) hg undef))
      · skip
        have e12 : A.tmps[12]?.getD undef = .pointer (some ⟨g, 0, none⟩) := (by rw [hA]; kernel_rfl : A.tmps[12]?.getD undef = us 7).trans hg
        have e44 : A.tmps[44]?.getD undef = (.agg #[.int .i64 7, .int .i64 1]) := (by rw [hA]; kernel_rfl : A.tmps[44]?.getD undef = us 4).trans (hJ.value 4 (by decide) (hon 4 (by decide +kernel)))
        have c0 := ht.c0
        have c1 := ht.c1
        have f0 := ht.f0
        have f1 := ht.f1
        clear ht
        clear hA hK hon hJ
        go_simp
    · have hi' := Option.some.inj hi
      subst hi'
      have hc : D 2 := (hJ.ch 5 (by decide) (hon 5 (by decide +kernel)))
      obtain ⟨g, x', y', hg, _, hlt, ht, _⟩ := hJ.blk (ai := 8) (si := 10) (by decide) (by decide) (hon 8 (by decide +kernel))
      refine wp_skip (w' := (W.setCell ⟨g, 0, none⟩ (.int .i64 7)).setCell ⟨g, 1, none⟩ (.int .i64 1)) ?_ (hK _ _ (hJ.store (ai := 8) (si := 10) (by decide) (by decide) (by decide) hc (hon 8 (by decide +kernel)) hg undef))
      · skip
        have e13 : A.tmps[13]?.getD undef = .pointer (some ⟨g, 0, none⟩) := (by rw [hA]; kernel_rfl : A.tmps[13]?.getD undef = us 8).trans hg
        have e45 : A.tmps[45]?.getD undef = (.agg #[.int .i64 7, .int .i64 1]) := (by rw [hA]; kernel_rfl : A.tmps[45]?.getD undef = us 5).trans (hJ.value 5 (by decide) (hon 5 (by decide +kernel)))
        have c0 := ht.c0
        have c1 := ht.c1
        have f0 := ht.f0
        have f1 := ht.f1
        clear ht
        clear hA hK hon hJ
        go_simp
    · have hi' := Option.some.inj hi
      subst hi'
      have hc : D 2 := (hJ.ch 6 (by decide) (hon 6 (by decide +kernel)))
      refine wp_val (v := (.int .i64 0)) (w' := W) ?_ (hK _ _ (hJ.later (i := 11) (by decide) hc (by decide) (Below.refl _ _)))
      · skip
        have e46 : A.tmps[46]?.getD undef = (.int .i64 0) := (by rw [hA]; kernel_rfl : A.tmps[46]?.getD undef = us 6).trans (hJ.value 6 (by decide) (hon 6 (by decide +kernel)))
        clear hA hK hon hJ
        go_simp
  · intro us D W6 hJ hall
    obtain ⟨g1, u12, g1l, g1h, t12⟩ := hJ.get (ai := 7) (si := 9) (by decide) (by decide) (hall 7 (by decide)) (hall 9 (by decide))
    obtain ⟨g2, u13, g2l, g2h, t13⟩ := hJ.get (ai := 8) (si := 10) (by decide) (by decide) (hall 8 (by decide)) (hall 10 (by decide))
    have u14 : us 11 = (.int .i64 0) := hJ.value 11 (by decide) (hall 11 (by decide))
    have hS := hS1.step hJ.bel
    replace hS := hS.add (.box g1 [.int .i64 7, .int .i64 1]) ⟨g1h, (boxOfTwo g1h t12).cell⟩
    replace hS := hS.add (.box g2 [.int .i64 7, .int .i64 1]) ⟨g2h, (boxOfTwo g2h t13).cell⟩
    clear hJ hall hS1 t12 t13 g1l g2l g1h g2h HB Hmk
    simp only [actL, slotL, putL, List.setIfInBounds_toArray, List.set_cons_zero, List.set_cons_succ, Nat.zero_add, Nat.reduceAdd, u12, u13, u14]
    clear u12 u13 u14
    go_upto_region 6 with (fail)
    have HIa := Lib.hid (hS.intsAt 11 rfl)
    have HIb := Lib.hid (hS.intsAt 9 rfl)
    have HIc := Lib.hid (hS.intsAt 5 rfl)
    have lo0 := hS.boxAt 1 0 rfl rfl
    have lo1 := hS.boxAt 1 1 rfl rfl
    have ll := hS.boxLt 1 rfl
    have HSb := Lib.hid hS.bel
    clear hS
    have Hlo : Hid (∀ W, Below W6.heap.size W6 W → W.cell? ⟨g1, 0, none⟩ = some (.int .i64 7) ∧ W.cell? ⟨g1, 1, none⟩ = some (.int .i64 1)) := fun W h => ⟨(h.cell (p := ⟨g1, 0, none⟩) ll).trans lo0, (h.cell (p := ⟨g1, 1, none⟩) ll).trans lo1⟩
    clear lo0 lo1 ll
    refine wp_region_invG (by kernel_rfl) (by decide +kernel) (by decide +kernel) _ _ (LitJ W6 [(20, [0, 1, 0]), (25, [0, 1, 1]), (30, [0, 0, 1])] (fun kk => match kk with | 0 => (.int .i64 0) | 1 => (.bool true) | 2 => (.bool true) | 3 => (.int .i64 0) | 4 => (.bool true) | 5 => (.bool true) | 6 => (.bool true) | 7 => (.int .i64 0) | 8 => (.bool true) | 9 => (.bool true) | 10 => (.bool true) | 11 => (.int .i64 0) | 12 => (.bool true) | 13 => (.bool true) | 14 => (.bool true) | 15 => (.int .i64 0) | 16 => (.bool true) | 17 => (.bool true) | 18 => (.bool true) | 19 => (.slice pa 3 ca) | 21 => (.bool true) | 22 => (.bool true) | 23 => (.bool true) | 24 => (.slice pb 3 cb) | 26 => (.bool true) | 27 => (.bool true) | 28 => (.bool true) | 29 => (.slice pc 3 cc) | 31 => (.bool true) | 32 => (.bool true) | 33 => (.bool true) | 34 => (.agg #[.int .i64 7, .int .i64 1]) | 35 => (.agg #[.int .i64 7, .int .i64 1]) | 36 => (.bool true) | 37 => (.bool true) | 38 => (.bool true) | _ => undef)) ?_ ?_ ?_
    · exact fun us => LitJ.start us
    · intro us D W i o A hA hi hJ hnD hon K hK
      have hlt : i < 39 := (Array.getElem?_eq_some_iff.1 hi).1
      rcases rgb39 hlt with rfl | rfl | rfl | rfl | rfl | rfl | rfl | rfl | rfl | rfl | rfl | rfl | rfl | rfl | rfl | rfl | rfl | rfl | rfl | rfl | rfl | rfl | rfl | rfl | rfl | rfl | rfl | rfl | rfl | rfl | rfl | rfl | rfl | rfl | rfl | rfl | rfl | rfl | rfl
      · have hi' := Option.some.inj hi
        subst hi'
        refine want_yes (wanted_none rfl) ?_
        refine wp_val (v := (.int .i64 0)) (w' := W) ?_ (hK _ _ (hJ.pure (i := 0) (by decide) (Below.refl _ _)))
        · skip
          have e3 : A.tmps[3]?.getD undef = (.int .i64 0) := by rw [hA]; kernel_rfl
          clear hA hK hon hJ
          go_simp
      · have hi' := Option.some.inj hi
        subst hi'
        refine want_yes (wanted_none rfl) ?_
        refine wp_val (v := (.bool true)) (w' := W) ?_ (hK _ _ (hJ.pure (i := 1) (by decide) (Below.refl _ _)))
        · skip
          have e47 : A.tmps[47]?.getD undef = (.int .i64 0) := (by rw [hA]; kernel_rfl : A.tmps[47]?.getD undef = us 0).trans (hJ.val 0 (by decide) (hon 0 (by decide +kernel)))
          clear hA hK hon hJ
          go_simp
      · have hi' := Option.some.inj hi
        subst hi'
        refine want_yes (wanted_none rfl) ?_
        refine wp_val (v := (.bool true)) (w' := W) ?_ (hK _ _ (hJ.pure (i := 2) (by decide) (Below.refl _ _)))
        · skip
          have e48 : A.tmps[48]?.getD undef = (.bool true) := (by rw [hA]; kernel_rfl : A.tmps[48]?.getD undef = us 1).trans (hJ.val 1 (by decide) (hon 1 (by decide +kernel)))
          clear hA hK hon hJ
          go_simp
      · have hi' := Option.some.inj hi
        subst hi'
        refine want_yes (wanted_of (t := true) rfl rfl ((by rw [hA]; kernel_rfl : A.tmps[49]?.getD undef = us 2).trans (hJ.val 2 (by decide) (hon 2 (by decide +kernel)))) : _ = (true == true)) ?_
        refine wp_val (v := (.int .i64 0)) (w' := W) ?_ (hK _ _ (hJ.pure (i := 3) (by decide) (Below.refl _ _)))
        · skip
          have e6 : A.tmps[6]?.getD undef = (.int .i64 0) := by rw [hA]; kernel_rfl
          clear hA hK hon hJ
          go_simp
      · have hi' := Option.some.inj hi
        subst hi'
        refine want_yes (wanted_of (t := true) rfl rfl ((by rw [hA]; kernel_rfl : A.tmps[49]?.getD undef = us 2).trans (hJ.val 2 (by decide) (hon 2 (by decide +kernel)))) : _ = (true == true)) ?_
        refine wp_val (v := (.bool true)) (w' := W) ?_ (hK _ _ (hJ.pure (i := 4) (by decide) (Below.refl _ _)))
        · skip
          have e50 : A.tmps[50]?.getD undef = (.int .i64 0) := (by rw [hA]; kernel_rfl : A.tmps[50]?.getD undef = us 3).trans (hJ.val 3 (by decide) (hon 3 (by decide +kernel)))
          clear hA hK hon hJ
          go_simp
      · have hi' := Option.some.inj hi
        subst hi'
        refine want_yes (wanted_none rfl) ?_
        refine wp_val (v := (.bool true)) (w' := W) ?_ (hK _ _ (hJ.pure (i := 5) (by decide) (Below.refl _ _)))
        · skip
          have e49 : A.tmps[49]?.getD undef = (.bool true) := (by rw [hA]; kernel_rfl : A.tmps[49]?.getD undef = us 2).trans (hJ.val 2 (by decide) (hon 2 (by decide +kernel)))
          have e51 : A.tmps[51]?.getD undef = (.bool true) := (by rw [hA]; kernel_rfl : A.tmps[51]?.getD undef = us 4).trans (hJ.val 4 (by decide) (hon 4 (by decide +kernel)))
          clear hA hK hon hJ
          go_simp
      · have hi' := Option.some.inj hi
        subst hi'
        refine want_yes (wanted_none rfl) ?_
        refine wp_val (v := (.bool true)) (w' := W) ?_ (hK _ _ (hJ.pure (i := 6) (by decide) (Below.refl _ _)))
        · skip
          have e52 : A.tmps[52]?.getD undef = (.bool true) := (by rw [hA]; kernel_rfl : A.tmps[52]?.getD undef = us 5).trans (hJ.val 5 (by decide) (hon 5 (by decide +kernel)))
          clear hA hK hon hJ
          go_simp
      · have hi' := Option.some.inj hi
        subst hi'
        refine want_yes (wanted_of (t := true) rfl rfl ((by rw [hA]; kernel_rfl : A.tmps[53]?.getD undef = us 6).trans (hJ.val 6 (by decide) (hon 6 (by decide +kernel)))) : _ = (true == true)) ?_
        refine wp_val (v := (.int .i64 0)) (w' := W) ?_ (hK _ _ (hJ.pure (i := 7) (by decide) (Below.refl _ _)))
        · skip
          have e9 : A.tmps[9]?.getD undef = (.int .i64 0) := by rw [hA]; kernel_rfl
          clear hA hK hon hJ
          go_simp
      · have hi' := Option.some.inj hi
        subst hi'
        refine want_yes (wanted_of (t := true) rfl rfl ((by rw [hA]; kernel_rfl : A.tmps[53]?.getD undef = us 6).trans (hJ.val 6 (by decide) (hon 6 (by decide +kernel)))) : _ = (true == true)) ?_
        refine wp_val (v := (.bool true)) (w' := W) ?_ (hK _ _ (hJ.pure (i := 8) (by decide) (Below.refl _ _)))
        · skip
          have e54 : A.tmps[54]?.getD undef = (.int .i64 0) := (by rw [hA]; kernel_rfl : A.tmps[54]?.getD undef = us 7).trans (hJ.val 7 (by decide) (hon 7 (by decide +kernel)))
          clear hA hK hon hJ
          go_simp
      · have hi' := Option.some.inj hi
        subst hi'
        refine want_yes (wanted_none rfl) ?_
        refine wp_val (v := (.bool true)) (w' := W) ?_ (hK _ _ (hJ.pure (i := 9) (by decide) (Below.refl _ _)))
        · skip
          have e53 : A.tmps[53]?.getD undef = (.bool true) := (by rw [hA]; kernel_rfl : A.tmps[53]?.getD undef = us 6).trans (hJ.val 6 (by decide) (hon 6 (by decide +kernel)))
          have e55 : A.tmps[55]?.getD undef = (.bool true) := (by rw [hA]; kernel_rfl : A.tmps[55]?.getD undef = us 8).trans (hJ.val 8 (by decide) (hon 8 (by decide +kernel)))
          clear hA hK hon hJ
          go_simp
      · have hi' := Option.some.inj hi
        subst hi'
        refine want_yes (wanted_none rfl) ?_
        refine wp_val (v := (.bool true)) (w' := W) ?_ (hK _ _ (hJ.pure (i := 10) (by decide) (Below.refl _ _)))
        · skip
          have e56 : A.tmps[56]?.getD undef = (.bool true) := (by rw [hA]; kernel_rfl : A.tmps[56]?.getD undef = us 9).trans (hJ.val 9 (by decide) (hon 9 (by decide +kernel)))
          clear hA hK hon hJ
          go_simp
      · have hi' := Option.some.inj hi
        subst hi'
        refine want_yes (wanted_of (t := true) rfl rfl ((by rw [hA]; kernel_rfl : A.tmps[57]?.getD undef = us 10).trans (hJ.val 10 (by decide) (hon 10 (by decide +kernel)))) : _ = (true == true)) ?_
        refine wp_val (v := (.int .i64 0)) (w' := W) ?_ (hK _ _ (hJ.pure (i := 11) (by decide) (Below.refl _ _)))
        · skip
          have e11 : A.tmps[11]?.getD undef = (.int .i64 0) := by rw [hA]; kernel_rfl
          clear hA hK hon hJ
          go_simp
      · have hi' := Option.some.inj hi
        subst hi'
        refine want_yes (wanted_of (t := true) rfl rfl ((by rw [hA]; kernel_rfl : A.tmps[57]?.getD undef = us 10).trans (hJ.val 10 (by decide) (hon 10 (by decide +kernel)))) : _ = (true == true)) ?_
        refine wp_val (v := (.bool true)) (w' := W) ?_ (hK _ _ (hJ.pure (i := 12) (by decide) (Below.refl _ _)))
        · skip
          have e58 : A.tmps[58]?.getD undef = (.int .i64 0) := (by rw [hA]; kernel_rfl : A.tmps[58]?.getD undef = us 11).trans (hJ.val 11 (by decide) (hon 11 (by decide +kernel)))
          clear hA hK hon hJ
          go_simp
      · have hi' := Option.some.inj hi
        subst hi'
        refine want_yes (wanted_none rfl) ?_
        refine wp_val (v := (.bool true)) (w' := W) ?_ (hK _ _ (hJ.pure (i := 13) (by decide) (Below.refl _ _)))
        · skip
          have e57 : A.tmps[57]?.getD undef = (.bool true) := (by rw [hA]; kernel_rfl : A.tmps[57]?.getD undef = us 10).trans (hJ.val 10 (by decide) (hon 10 (by decide +kernel)))
          have e59 : A.tmps[59]?.getD undef = (.bool true) := (by rw [hA]; kernel_rfl : A.tmps[59]?.getD undef = us 12).trans (hJ.val 12 (by decide) (hon 12 (by decide +kernel)))
          clear hA hK hon hJ
          go_simp
      · have hi' := Option.some.inj hi
        subst hi'
        refine want_yes (wanted_none rfl) ?_
        refine wp_val (v := (.bool true)) (w' := W) ?_ (hK _ _ (hJ.pure (i := 14) (by decide) (Below.refl _ _)))
        · skip
          have e60 : A.tmps[60]?.getD undef = (.bool true) := (by rw [hA]; kernel_rfl : A.tmps[60]?.getD undef = us 13).trans (hJ.val 13 (by decide) (hon 13 (by decide +kernel)))
          clear hA hK hon hJ
          go_simp
      · have hi' := Option.some.inj hi
        subst hi'
        refine want_yes (wanted_of (t := true) rfl rfl ((by rw [hA]; kernel_rfl : A.tmps[61]?.getD undef = us 14).trans (hJ.val 14 (by decide) (hon 14 (by decide +kernel)))) : _ = (true == true)) ?_
        refine wp_val (v := (.int .i64 0)) (w' := W) ?_ (hK _ _ (hJ.pure (i := 15) (by decide) (Below.refl _ _)))
        · skip
          have e14 : A.tmps[14]?.getD undef = (.int .i64 0) := by rw [hA]; kernel_rfl
          clear hA hK hon hJ
          go_simp
      · have hi' := Option.some.inj hi
        subst hi'
        refine want_yes (wanted_of (t := true) rfl rfl ((by rw [hA]; kernel_rfl : A.tmps[61]?.getD undef = us 14).trans (hJ.val 14 (by decide) (hon 14 (by decide +kernel)))) : _ = (true == true)) ?_
        refine wp_val (v := (.bool true)) (w' := W) ?_ (hK _ _ (hJ.pure (i := 16) (by decide) (Below.refl _ _)))
        · skip
          have e62 : A.tmps[62]?.getD undef = (.int .i64 0) := (by rw [hA]; kernel_rfl : A.tmps[62]?.getD undef = us 15).trans (hJ.val 15 (by decide) (hon 15 (by decide +kernel)))
          clear hA hK hon hJ
          go_simp
      · have hi' := Option.some.inj hi
        subst hi'
        refine want_yes (wanted_none rfl) ?_
        refine wp_val (v := (.bool true)) (w' := W) ?_ (hK _ _ (hJ.pure (i := 17) (by decide) (Below.refl _ _)))
        · skip
          have e61 : A.tmps[61]?.getD undef = (.bool true) := (by rw [hA]; kernel_rfl : A.tmps[61]?.getD undef = us 14).trans (hJ.val 14 (by decide) (hon 14 (by decide +kernel)))
          have e63 : A.tmps[63]?.getD undef = (.bool true) := (by rw [hA]; kernel_rfl : A.tmps[63]?.getD undef = us 16).trans (hJ.val 16 (by decide) (hon 16 (by decide +kernel)))
          clear hA hK hon hJ
          go_simp
      · have hi' := Option.some.inj hi
        subst hi'
        refine want_yes (wanted_none rfl) ?_
        refine wp_val (v := (.bool true)) (w' := W) ?_ (hK _ _ (hJ.pure (i := 18) (by decide) (Below.refl _ _)))
        · skip
          have e64 : A.tmps[64]?.getD undef = (.bool true) := (by rw [hA]; kernel_rfl : A.tmps[64]?.getD undef = us 17).trans (hJ.val 17 (by decide) (hon 17 (by decide +kernel)))
          clear hA hK hon hJ
          go_simp
      · have hi' := Option.some.inj hi
        subst hi'
        refine want_yes (wanted_of (t := true) rfl rfl ((by rw [hA]; kernel_rfl : A.tmps[65]?.getD undef = us 18).trans (hJ.val 18 (by decide) (hon 18 (by decide +kernel)))) : _ = (true == true)) ?_
        refine wp_val (v := (.slice pa 3 ca)) (w' := W) ?_ (hK _ _ (hJ.pure (i := 19) (by decide) (Below.refl _ _)))
        · skip
          have e1 : A.tmps[1]?.getD undef = (.slice pa 3 ca) := by rw [hA]; kernel_rfl
          clear hA hK hon hJ
          go_simp
      · have hi' := Option.some.inj hi
        subst hi'
        refine want_yes (wanted_of (t := true) rfl rfl ((by rw [hA]; kernel_rfl : A.tmps[65]?.getD undef = us 18).trans (hJ.val 18 (by decide) (hon 18 (by decide +kernel)))) : _ = (true == true)) ?_
        refine wp_val (v := .slice (some ⟨W.heap.size, 0, none⟩) 3 3) (w' := W.alloc (.cells #[.int .i64 0, .int .i64 1, .int .i64 0] 3)) ?_ (hK _ _ (hJ.lay (t := (20, [0, 1, 0])) (by decide) (by decide) (below_alloc rfl) (ints_lit W [0, 1, 0] (by decide) (in64_all (by decide +kernel)))))
        · skip
          clear hA hK hon hJ
          go_simp
      · have hi' := Option.some.inj hi
        subst hi'
        refine want_yes (wanted_of (t := true) rfl rfl ((by rw [hA]; kernel_rfl : A.tmps[65]?.getD undef = us 18).trans (hJ.val 18 (by decide) (hon 18 (by decide +kernel)))) : _ = (true == true)) ?_
        obtain ⟨b, hz, hIl⟩ := hJ.lit (20, [0, 1, 0]) (by decide) (hon 20 (by decide +kernel))
        refine wp_enter (f := 23) (args := #[(.slice pa 3 ca), .slice (some ⟨b, 0, none⟩) 3 3]) (w' := W) ?_ ((sameI_true rfl rfl rfl (HIa.out.below hJ.bel (Nat.le_refl _)) hIl).mono ?_)
        · skip
          have e67 : A.tmps[67]?.getD undef = .slice (some ⟨b, 0, none⟩) 3 3 := (by rw [hA]; kernel_rfl : A.tmps[67]?.getD undef = us 20).trans hz
          have e66 : A.tmps[66]?.getD undef = (.slice pa 3 ca) := (by rw [hA]; kernel_rfl : A.tmps[66]?.getD undef = us 19).trans (hJ.val 19 (by decide) (hon 19 (by decide +kernel)))
          clear hIl hz
          clear hA hK hon hJ
          go_simp
        · rintro r' wC ⟨rfl, hwC⟩
          exact ⟨_, rfl, hK _ _ (hJ.pure (i := 21) (by decide) ((Below.refl _ _).drewP hwC))⟩
      · have hi' := Option.some.inj hi
        subst hi'
        refine want_yes (wanted_none rfl) ?_
        refine wp_val (v := (.bool true)) (w' := W) ?_ (hK _ _ (hJ.pure (i := 22) (by decide) (Below.refl _ _)))
        · skip
          have e65 : A.tmps[65]?.getD undef = (.bool true) := (by rw [hA]; kernel_rfl : A.tmps[65]?.getD undef = us 18).trans (hJ.val 18 (by decide) (hon 18 (by decide +kernel)))
          have e68 : A.tmps[68]?.getD undef = (.bool true) := (by rw [hA]; kernel_rfl : A.tmps[68]?.getD undef = us 21).trans (hJ.val 21 (by decide) (hon 21 (by decide +kernel)))
          clear hA hK hon hJ
          go_simp
      · have hi' := Option.some.inj hi
        subst hi'
        refine want_yes (wanted_none rfl) ?_
        refine wp_val (v := (.bool true)) (w' := W) ?_ (hK _ _ (hJ.pure (i := 23) (by decide) (Below.refl _ _)))
        · skip
          have e69 : A.tmps[69]?.getD undef = (.bool true) := (by rw [hA]; kernel_rfl : A.tmps[69]?.getD undef = us 22).trans (hJ.val 22 (by decide) (hon 22 (by decide +kernel)))
          clear hA hK hon hJ
          go_simp
      · have hi' := Option.some.inj hi
        subst hi'
        refine want_yes (wanted_of (t := true) rfl rfl ((by rw [hA]; kernel_rfl : A.tmps[70]?.getD undef = us 23).trans (hJ.val 23 (by decide) (hon 23 (by decide +kernel)))) : _ = (true == true)) ?_
        refine wp_val (v := (.slice pb 3 cb)) (w' := W) ?_ (hK _ _ (hJ.pure (i := 24) (by decide) (Below.refl _ _)))
        · skip
          have e4 : A.tmps[4]?.getD undef = (.slice pb 3 cb) := by rw [hA]; kernel_rfl
          clear hA hK hon hJ
          go_simp
      · have hi' := Option.some.inj hi
        subst hi'
        refine want_yes (wanted_of (t := true) rfl rfl ((by rw [hA]; kernel_rfl : A.tmps[70]?.getD undef = us 23).trans (hJ.val 23 (by decide) (hon 23 (by decide +kernel)))) : _ = (true == true)) ?_
        refine wp_val (v := .slice (some ⟨W.heap.size, 0, none⟩) 3 3) (w' := W.alloc (.cells #[.int .i64 0, .int .i64 1, .int .i64 1] 3)) ?_ (hK _ _ (hJ.lay (t := (25, [0, 1, 1])) (by decide) (by decide) (below_alloc rfl) (ints_lit W [0, 1, 1] (by decide) (in64_all (by decide +kernel)))))
        · skip
          clear hA hK hon hJ
          go_simp
      · have hi' := Option.some.inj hi
        subst hi'
        refine want_yes (wanted_of (t := true) rfl rfl ((by rw [hA]; kernel_rfl : A.tmps[70]?.getD undef = us 23).trans (hJ.val 23 (by decide) (hon 23 (by decide +kernel)))) : _ = (true == true)) ?_
        obtain ⟨b, hz, hIl⟩ := hJ.lit (25, [0, 1, 1]) (by decide) (hon 25 (by decide +kernel))
        refine wp_enter (f := 23) (args := #[(.slice pb 3 cb), .slice (some ⟨b, 0, none⟩) 3 3]) (w' := W) ?_ ((sameI_true rfl rfl rfl (HIb.out.below hJ.bel (Nat.le_refl _)) hIl).mono ?_)
        · skip
          have e72 : A.tmps[72]?.getD undef = .slice (some ⟨b, 0, none⟩) 3 3 := (by rw [hA]; kernel_rfl : A.tmps[72]?.getD undef = us 25).trans hz
          have e71 : A.tmps[71]?.getD undef = (.slice pb 3 cb) := (by rw [hA]; kernel_rfl : A.tmps[71]?.getD undef = us 24).trans (hJ.val 24 (by decide) (hon 24 (by decide +kernel)))
          clear hIl hz
          clear hA hK hon hJ
          go_simp
        · rintro r' wC ⟨rfl, hwC⟩
          exact ⟨_, rfl, hK _ _ (hJ.pure (i := 26) (by decide) ((Below.refl _ _).drewP hwC))⟩
      · have hi' := Option.some.inj hi
        subst hi'
        refine want_yes (wanted_none rfl) ?_
        refine wp_val (v := (.bool true)) (w' := W) ?_ (hK _ _ (hJ.pure (i := 27) (by decide) (Below.refl _ _)))
        · skip
          have e70 : A.tmps[70]?.getD undef = (.bool true) := (by rw [hA]; kernel_rfl : A.tmps[70]?.getD undef = us 23).trans (hJ.val 23 (by decide) (hon 23 (by decide +kernel)))
          have e73 : A.tmps[73]?.getD undef = (.bool true) := (by rw [hA]; kernel_rfl : A.tmps[73]?.getD undef = us 26).trans (hJ.val 26 (by decide) (hon 26 (by decide +kernel)))
          clear hA hK hon hJ
          go_simp
      · have hi' := Option.some.inj hi
        subst hi'
        refine want_yes (wanted_none rfl) ?_
        refine wp_val (v := (.bool true)) (w' := W) ?_ (hK _ _ (hJ.pure (i := 28) (by decide) (Below.refl _ _)))
        · skip
          have e74 : A.tmps[74]?.getD undef = (.bool true) := (by rw [hA]; kernel_rfl : A.tmps[74]?.getD undef = us 27).trans (hJ.val 27 (by decide) (hon 27 (by decide +kernel)))
          clear hA hK hon hJ
          go_simp
      · have hi' := Option.some.inj hi
        subst hi'
        refine want_yes (wanted_of (t := true) rfl rfl ((by rw [hA]; kernel_rfl : A.tmps[75]?.getD undef = us 28).trans (hJ.val 28 (by decide) (hon 28 (by decide +kernel)))) : _ = (true == true)) ?_
        refine wp_val (v := (.slice pc 3 cc)) (w' := W) ?_ (hK _ _ (hJ.pure (i := 29) (by decide) (Below.refl _ _)))
        · skip
          have e7 : A.tmps[7]?.getD undef = (.slice pc 3 cc) := by rw [hA]; kernel_rfl
          clear hA hK hon hJ
          go_simp
      · have hi' := Option.some.inj hi
        subst hi'
        refine want_yes (wanted_of (t := true) rfl rfl ((by rw [hA]; kernel_rfl : A.tmps[75]?.getD undef = us 28).trans (hJ.val 28 (by decide) (hon 28 (by decide +kernel)))) : _ = (true == true)) ?_
        refine wp_val (v := .slice (some ⟨W.heap.size, 0, none⟩) 3 3) (w' := W.alloc (.cells #[.int .i64 0, .int .i64 0, .int .i64 1] 3)) ?_ (hK _ _ (hJ.lay (t := (30, [0, 0, 1])) (by decide) (by decide) (below_alloc rfl) (ints_lit W [0, 0, 1] (by decide) (in64_all (by decide +kernel)))))
        · skip
          clear hA hK hon hJ
          go_simp
      · have hi' := Option.some.inj hi
        subst hi'
        refine want_yes (wanted_of (t := true) rfl rfl ((by rw [hA]; kernel_rfl : A.tmps[75]?.getD undef = us 28).trans (hJ.val 28 (by decide) (hon 28 (by decide +kernel)))) : _ = (true == true)) ?_
        obtain ⟨b, hz, hIl⟩ := hJ.lit (30, [0, 0, 1]) (by decide) (hon 30 (by decide +kernel))
        refine wp_enter (f := 23) (args := #[(.slice pc 3 cc), .slice (some ⟨b, 0, none⟩) 3 3]) (w' := W) ?_ ((sameI_true rfl rfl rfl (HIc.out.below hJ.bel (Nat.le_refl _)) hIl).mono ?_)
        · skip
          have e77 : A.tmps[77]?.getD undef = .slice (some ⟨b, 0, none⟩) 3 3 := (by rw [hA]; kernel_rfl : A.tmps[77]?.getD undef = us 30).trans hz
          have e76 : A.tmps[76]?.getD undef = (.slice pc 3 cc) := (by rw [hA]; kernel_rfl : A.tmps[76]?.getD undef = us 29).trans (hJ.val 29 (by decide) (hon 29 (by decide +kernel)))
          clear hIl hz
          clear hA hK hon hJ
          go_simp
        · rintro r' wC ⟨rfl, hwC⟩
          exact ⟨_, rfl, hK _ _ (hJ.pure (i := 31) (by decide) ((Below.refl _ _).drewP hwC))⟩
      · have hi' := Option.some.inj hi
        subst hi'
        refine want_yes (wanted_none rfl) ?_
        refine wp_val (v := (.bool true)) (w' := W) ?_ (hK _ _ (hJ.pure (i := 32) (by decide) (Below.refl _ _)))
        · skip
          have e75 : A.tmps[75]?.getD undef = (.bool true) := (by rw [hA]; kernel_rfl : A.tmps[75]?.getD undef = us 28).trans (hJ.val 28 (by decide) (hon 28 (by decide +kernel)))
          have e78 : A.tmps[78]?.getD undef = (.bool true) := (by rw [hA]; kernel_rfl : A.tmps[78]?.getD undef = us 31).trans (hJ.val 31 (by decide) (hon 31 (by decide +kernel)))
          clear hA hK hon hJ
          go_simp
      · have hi' := Option.some.inj hi
        subst hi'
        refine want_yes (wanted_none rfl) ?_
        refine wp_val (v := (.bool true)) (w' := W) ?_ (hK _ _ (hJ.pure (i := 33) (by decide) (Below.refl _ _)))
        · skip
          have e79 : A.tmps[79]?.getD undef = (.bool true) := (by rw [hA]; kernel_rfl : A.tmps[79]?.getD undef = us 32).trans (hJ.val 32 (by decide) (hon 32 (by decide +kernel)))
          clear hA hK hon hJ
          go_simp
      · have hi' := Option.some.inj hi
        subst hi'
        refine want_yes (wanted_of (t := true) rfl rfl ((by rw [hA]; kernel_rfl : A.tmps[80]?.getD undef = us 33).trans (hJ.val 33 (by decide) (hon 33 (by decide +kernel)))) : _ = (true == true)) ?_
        refine wp_val (v := (.agg #[.int .i64 7, .int .i64 1])) (w' := W) ?_ (hK _ _ (hJ.pure (i := 34) (by decide) (Below.refl _ _)))
        · skip
          have e12 : A.tmps[12]?.getD undef = (.pointer (some ⟨g1, 0, none⟩)) := by rw [hA]; kernel_rfl
          obtain ⟨cc0, cc1⟩ := Hlo.out W hJ.bel
          clear hA hK hon hJ
          go_simp
      · have hi' := Option.some.inj hi
        subst hi'
        refine want_yes (wanted_of (t := true) rfl rfl ((by rw [hA]; kernel_rfl : A.tmps[80]?.getD undef = us 33).trans (hJ.val 33 (by decide) (hon 33 (by decide +kernel)))) : _ = (true == true)) ?_
        refine wp_enter (f := 24) (args := #[.int .i64 7]) (w' := W) ?_ ((of_any 7 W).mono ?_)
        · skip
          clear hA hK hon hJ
          go_simp
        · rintro r' wC ⟨rfl, hbC⟩
          exact ⟨_, rfl, hK _ _ (hJ.pure (i := 35) (by decide) hbC)⟩
      · have hi' := Option.some.inj hi
        subst hi'
        refine want_yes (wanted_of (t := true) rfl rfl ((by rw [hA]; kernel_rfl : A.tmps[80]?.getD undef = us 33).trans (hJ.val 33 (by decide) (hon 33 (by decide +kernel)))) : _ = (true == true)) ?_
        refine wp_val (v := (.bool true)) (w' := W) ?_ (hK _ _ (hJ.pure (i := 36) (by decide) (Below.refl _ _)))
        · skip
          have e81 : A.tmps[81]?.getD undef = (.agg #[.int .i64 7, .int .i64 1]) := (by rw [hA]; kernel_rfl : A.tmps[81]?.getD undef = us 34).trans (hJ.val 34 (by decide) (hon 34 (by decide +kernel)))
          have e82 : A.tmps[82]?.getD undef = (.agg #[.int .i64 7, .int .i64 1]) := (by rw [hA]; kernel_rfl : A.tmps[82]?.getD undef = us 35).trans (hJ.val 35 (by decide) (hon 35 (by decide +kernel)))
          clear hA hK hon hJ
          go_simp
      · have hi' := Option.some.inj hi
        subst hi'
        refine want_yes (wanted_none rfl) ?_
        refine wp_val (v := (.bool true)) (w' := W) ?_ (hK _ _ (hJ.pure (i := 37) (by decide) (Below.refl _ _)))
        · skip
          have e80 : A.tmps[80]?.getD undef = (.bool true) := (by rw [hA]; kernel_rfl : A.tmps[80]?.getD undef = us 33).trans (hJ.val 33 (by decide) (hon 33 (by decide +kernel)))
          have e83 : A.tmps[83]?.getD undef = (.bool true) := (by rw [hA]; kernel_rfl : A.tmps[83]?.getD undef = us 36).trans (hJ.val 36 (by decide) (hon 36 (by decide +kernel)))
          clear hA hK hon hJ
          go_simp
      · have hi' := Option.some.inj hi
        subst hi'
        refine want_yes (wanted_none rfl) ?_
        refine wp_val (v := (.bool true)) (w' := W) ?_ (hK _ _ (hJ.pure (i := 38) (by decide) (Below.refl _ _)))
        · skip
          have e84 : A.tmps[84]?.getD undef = (.bool true) := (by rw [hA]; kernel_rfl : A.tmps[84]?.getD undef = us 37).trans (hJ.val 37 (by decide) (hon 37 (by decide +kernel)))
          clear hA hK hon hJ
          go_simp
    · intro us D W7 hJ hall
      have u38 : us 38 = (.bool true) := hJ.val 38 (by decide) (hall 38 (by decide))
      have hb := hJ.bel
      clear hJ hall
      simp only [actL, slotL, putL, List.setIfInBounds_toArray, List.set_cons_zero, List.set_cons_succ, Nat.zero_add, Nat.reduceAdd, u38]
      go_wp2_with fail
      go_ret
      exact ⟨rfl, HSb.out.trans (hb.mono HSb.out.size)⟩
end Go.Proofs.YtmcncflieoolmaaGreat
