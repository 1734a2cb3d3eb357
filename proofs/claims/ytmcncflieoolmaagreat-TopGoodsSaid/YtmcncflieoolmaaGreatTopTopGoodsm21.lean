/- The walk of chores.Pick, for every chores and turns; no condition. -/
import Derived.Test.YtmcncflieoolmaaGreatTopTopGoodsm19
import Derived.Test.YtmcncflieoolmaaGreatTopTopGoodsm18
import Derived.Test.YtmcncflieoolmaaGreatTopTopGoodsm7
import Derived.Test.YtmcncflieoolmaaGreatTopTopGoodsm17
import Derived.Test.YtmcncflieoolmaaGreatTopTopGoodsm16
/- The walk of chores.Pick, for every chores and turns; no condition. -/
namespace Go.Proofs.YtmcncflieoolmaaGreat
set_option linter.unusedVariables false
set_option linter.unusedSimpArgs false
open Go.ChangeShapes Go.WideShapes Go.ChangeAt Go.RowKit Go.Deep

theorem enter_cpick1 (args : Array Value) (W : World) : (callFunc 87 args).run Tryz.prog W = .ok (.enter 87 args) W := by kernel_rfl
set_option maxHeartbeats 400000 in
theorem cpick1_any (S : Nat) (p : Option Addr) (c j : Nat) (a : List Int) (w : World) (hS : w.cell? ⟨S, 0, none⟩ = some (.slice p a.length c)) (hI : Ints w p c a) (hj : j < a.length) :
    Calls Tryz.prog 87 #[.int .i64 (j : Nat), .pointer (some ⟨S, 0, none⟩)] w fun e w' => e = .returned (.bool (freeP a j)) ∧ w' = w := by
  have hl := hI.length_le
  obtain ⟨b, o, rfl, _, hc⟩ := hI.get hj
  have hj1 : (j : Int) < a.length := by omega
  have HF : Hid (freeP a j = decide (iget a j < 0)) := rfl
  go_enter Tryz.func87, Tryz.ntmps87
  go_wp2_with fail
  go_ret
  exact ⟨ret_bool HF.out.symm, rfl⟩

set_option maxHeartbeats 8000000 in
set_option maxRecDepth 100000 in
theorem choresPick_any (p q : Option Addr) (c d : Nat) (v : List (List Int)) (ts : List Int) (w : World) (hx : Mat w p c v) (hy : Ints w q d ts) :
    Calls Tryz.prog 47 #[.agg #[.slice p v.length c], .slice q ts.length d] w (GivesLL w (cpickL v ts) (cpickT v ts) (pickE v ts)) := by
  obtain ⟨W00, hW00⟩ : ∃ W0, w.alloc (.cells #[.slice p v.length c] 24) = W0 := ⟨_, rfl⟩
  obtain ⟨W0, hW0⟩ : ∃ W0, W00.alloc (.cells #[.slice none 0 0] 25) = W0 := ⟨_, rfl⟩
  have hB1 : Below w.heap.size w W00 := below_alloc hW00
  have hB2 := below_alloc hW0
  have hs : W00.heap.size = w.heap.size + 1 := by rw [← hW00]; simp
  have bX : BoxV W0 w.heap.size [.slice p v.length c] := (BoxV.new rfl hW00).below hB2
  have bA : OneV W0 (w.heap.size + 1) (.slice none 0 0) 25 := OneV.new hs hW0
  have hB : Below w.heap.size w W0 := hB1.trans (hB2.mono hB1.size)
  have mX := hx.below hB (Nat.le_refl _)
  have mT := hy.below hB (Nat.le_refl _)
  have x0 := bX.cell 0 _ rfl
  have HW00 := Lib.hid hW00
  have HW0 := Lib.hid hW0
  clear hW0 hW00 hB1 hB2 hs
  have hl1 := mX.length_le
  have hl2 := mT.length_le
  have a0 := bA.cell
  have f0 := bA.free
  go_enter Tryz.func47, Tryz.ntmps47
  go_wp2_with fail
  rw [HW00.out, HW0.out]
  refine (goodsCheck_any p c v _ mX).mono ?_
  rintro e w1 ⟨rfl, hb1⟩
  by_cases hG : chkG v = 0
  · have hgz : (chkG v != 0) = false := by rw [hG]; rfl
    have HG := Lib.hid hG
    clear hG
    clear x0
    replace bX := bX.below hb1
    replace bA := bA.below hb1 bA.lt
    replace hB := hB.trans (hb1.mono hB.size)
    clear hb1 mX mT a0 f0
    have x0 := bX.cell 0 _ rfl
    go_wp2_with fail
    refine (robinCheck_any v.length q d ts _ (hy.below hB (Nat.le_refl _))).mono ?_
    rintro e w2 ⟨rfl, hb⟩
    clear x0
    replace bX := bX.below hb
    replace bA := bA.below hb bA.lt
    replace hB := hB.trans (hb.mono hB.size)
    clear hb
    have x0 := bX.cell 0 _ rfl
    have lX := bX.lt
    have lA := bA.lt
    by_cases hT : chkT v.length ts = 0
    · have htz : (chkT v.length ts != 0) = false := by rw [hT]; rfl
      have HT := Lib.hid hT
      have HP := Lib.hid (picks_of HG.out hT)
      have HE : Hid (pickE v ts = 0) := (pickE_ok HG.out).trans HT.out
      clear hT
      have Hx := Lib.hid hx
      have Hy := Lib.hid hy
      obtain ⟨b, o, rfl, _, q0, d0, hc0, hi0⟩ := (hx.below hB (Nat.le_refl _)).get (j := 0) HP.out.n1
      rw [Nat.add_zero] at hc0
      obtain ⟨m, hm⟩ : ∃ m, wid v = m := ⟨_, rfl⟩
      have hm0 : (rget v 0).length = m := hm
      rw [hm0] at hc0
      have Hm := Lib.hid hm
      have hm10 : m ≤ 10 := by have := HP.out.m10; omega
      have hv1 : (0 : Int) < v.length := by have := HP.out.n1; omega
      clear hm hm0 hi0 hx hy
      have hI1 := ints_one w2 (x := -1) ⟨by omega, by omega⟩ 3
      have hBa : Below w2.heap.size w2 (w2.alloc (.cells #[.int .i64 (-1)] 3)) := (Below.refl _ _).alloc (Nat.le_refl _) _
      have hc0' : (w2.alloc (.cells #[.int .i64 (-1)] 3)).cell? ⟨b, o, none⟩ = _ := (hBa.cell (p := ⟨b, o, none⟩) (World.block_lt_of_cell? _ _ hc0)).trans hc0
      have x0' : (w2.alloc (.cells #[.int .i64 (-1)] 3)).cell? ⟨w.heap.size, 0, none⟩ = _ := (hBa.cell (p := ⟨w.heap.size, 0, none⟩) (World.block_lt_of_cell? _ _ x0)).trans x0
      go_wp2_with fail
      refine (repeat1_any _ _ (-1) m _ hI1 (by omega) ⟨by omega, by omega⟩).mono ?_
      rintro e w3 ⟨g, c1, rfl, hO, hb'⟩
      have hb := hBa.trans (hb'.mono hBa.size)
      have hgs := hO.lt g rfl
      have hbs := hBa.size
      have hgA : w.heap.size + 1 < g := by omega
      replace hO := hO.lower (base' := w.heap.size + 2) (by omega)
      clear x0 x0' hc0 hc0' hI1 hb' hBa hbs lX lA
      replace bX := bX.below hb
      replace bA := bA.below hb bA.lt
      replace hB := hB.trans (hb.mono hB.size)
      clear hb
      have fA := bA.free
      have aA := bA.cell
      have lA := bA.lt
      have bX4 := Lib.hid (bX.heap (w' := w3.setCell ⟨w.heap.size + 1, 0, none⟩ (.slice (some ⟨g, 0, none⟩) m c1)) (by rw [size_set]; exact Nat.le_refl _) (heap_set_ne _ (by omega)))
      have bA4 := Lib.hid (bA.set (u := .slice (some ⟨g, 0, none⟩) m c1))
      have hO4 := Lib.hid (hO.beside (g := w.heap.size + 1) (x := 0) (u := .slice (some ⟨g, 0, none⟩) m c1) (by simp [blk]; omega))
      have hB4 := Lib.hid (hB.setCell (p := ⟨w.heap.size + 1, 0, none⟩) (by simp) (.slice (some ⟨g, 0, none⟩) m c1))
      obtain ⟨W4, hW4⟩ : ∃ W4, w3.setCell ⟨w.heap.size + 1, 0, none⟩ (.slice (some ⟨g, 0, none⟩) m c1) = W4 := ⟨_, rfl⟩
      have hs4 : W4.heap.size = w3.heap.size := by rw [← hW4]; exact size_set _
      rw [hW4] at bX4 bA4 hO4 hB4
      have HW4 := Lib.hid hW4
      obtain ⟨G, hGe⟩ : ∃ G, W4.heap.size = G := ⟨_, rfl⟩
      have HGs := Lib.hid hGe
      have hgG : g < G := by omega
      clear hW4 hGe hs4 hgs bX bA hB hO
      have hO0 : Hid (Own W4 (w.heap.size + 2) (some ⟨g, 0, none⟩) c1 (cpA v ts 0)) := by
        unfold Hid cpA; rw [Hm.out]; exact hO4.out
      clear hO4
      have Hgs : Hid (w.heap.size + 1 < g) := hgA
      go_wp2_with fail
      rw [HW4.out]
      go_loopw [5, 34] (fun s i wr => ∃ k : Nat, k ≤ ts.length ∧ i = .int .i64 k ∧ (∃ zs pz cz, Hid (zs = cpT v ts k) ∧ s = .slice pz (zs : List Int).length cz ∧ Own wr G pz cz zs) ∧ Own wr (w.heap.size + 2) (some ⟨g, 0, none⟩) c1 (cpA v ts k) ∧ BoxV wr w.heap.size [.slice (some ⟨b, o, none⟩) v.length c] ∧ OneV wr (w.heap.size + 1) (.slice (some ⟨g, 0, none⟩) m c1) 25 ∧ Below w.heap.size w wr ∧ G ≤ wr.heap.size) (fun _ i _ => ts.length - (intOf i).toNat)
      case atStart => exact ⟨0, by omega, rfl, ⟨[], none, 0, rfl, rfl, Own.ofNil _ _⟩, hO0.out, bX4.out, bA4.out, hB4.out, by rw [HGs.out]; exact Nat.le_refl _⟩
      case round =>
        clear hO0 bX4 bA4 hB4 fA lA aA
        obtain ⟨k, hk, rfl, ⟨zs, pz, cz, hzz, rfl, hZ⟩, hO, bX, bA, hBr, hGw⟩ := hrel
        by_cases hkl : k < ts.length
        · have hk1 : (k : Int) < ts.length := by omega
          obtain ⟨i, hti, hiv⟩ := HP.out.turn k hkl
          obtain ⟨bt, ot, rfl, hbt, hct⟩ := (Hy.out.below hBr (Nat.le_refl _)).get hkl
          rw [hti] at hct
          have Hti := Lib.hid hti
          obtain ⟨qi, di, hci, hri⟩ := (Hx.out.below hBr (Nat.le_refl _)).at hiv
          have hrow : (rget v i).length = m := (HP.out.row i hiv).trans Hm.out
          have hiv1 : (i : Int) < v.length := by omega
          obtain ⟨A, hA⟩ : ∃ A, cpA v ts k = A := ⟨_, rfl⟩
          have hAl : A.length = m := by rw [← hA, cpA_len]; exact Hm.out
          rw [hA] at hO
          have HA := Lib.hid hA
          have HAl := Lib.hid hAl
          have Hrow := Lib.hid hrow
          rw [hrow] at hci
          have x0 := bX.cell 0 _ rfl
          have a0 := bA.cell
          have a0' := a0
          rw [← hAl] at a0'
          have HC := least1_any 87 (.pointer (some ⟨w.heap.size + 1, 0, none⟩)) (freeP A) (fun W => W = wr) enter_cpick1 qi di (rget v i) wr rfl (Lib.hid (fun W h => h ▸ hri)) (fun j W hj hR => by
            subst hR
            exact cpick1_any (w.heap.size + 1) (some ⟨g, 0, none⟩) c1 j A _ a0' hO.ints (by omega))
          rw [show leastTo (rget v i) (freeP A) (rget v i).length = cpick (rget v i) A by unfold cpick; rw [hrow, hAl], hrow] at HC
          have hpr := cpick_range (rget v i) A
          rw [hAl] at hpr
          obtain ⟨y, hyy⟩ : ∃ y, cpick (rget v i) A = y := ⟨_, rfl⟩
          rw [hyy] at HC hpr
          have HTk : Hid (cpT v ts (k + 1) = zs ++ [y]) := by unfold Hid; rw [cpT, ← hzz.out, HA.out, Hti.out, Int.toNat_natCast, hyy]
          have HAk : Hid (cpA v ts (k + 1) = if 0 ≤ y then A.set y.toNat i else A) := by unfold Hid; rw [cpA, cstep, HA.out, Hti.out, Int.toNat_natCast, hyy]
          have hyr : in64 y := ⟨by omega, by omega⟩
          have hzl : zs.length ≤ 900000 := by rw [hzz.out, cpT_len]; have := HP.out.few; omega
          have hzg : Hid (blk pz ≠ some g) := fun e => by have := (hZ.lt g e).1; omega
          have HC := Lib.hid HC
          clear hA hAl hrow hti hyy a0' hri
          go_wp2_with fail
          refine HC.out.mono ?_
          rintro e w' ⟨rfl, rfl⟩
          clear HC
          by_cases h0 : 0 ≤ y
          · obtain ⟨x, rfl⟩ : ∃ x : Nat, y = x := ⟨y.toNat, by omega⟩
            have hxm : (x : Int) < m := by omega
            have hx0 : (0 : Int) ≤ x := by omega
            have hyr := Lib.hid hyr
            unfold Hid at HAk
            rw [if_pos h0, Int.toNat_natCast] at HAk
            have HAk := Lib.hid HAk
            obtain ⟨g', hg', _, _, hcA, hfA⟩ := hO.get (j := x) (by rw [HAl.out]; omega)
            obtain rfl : g = g' := by simpa using hg'
            clear hg' h0
            have HO2 := Lib.hid (hO.set x (x := i) ⟨by omega, by omega⟩).1
            have HZ2 := Lib.hid (hZ.beside (x := x) (u := .int .i64 i) hzg.out)
            have HB2 := Lib.hid (hBr.setCell (p := ⟨g, x, none⟩) (by have := Hgs.out; simp only; omega) (.int .i64 i))
            have HX2 := Lib.hid (bX.heap (Nat.le_of_eq (size_set _).symm) (heap_set_ne _ (g := g) (x := x) (u := .int .i64 i) (by have := Hgs.out; omega)))
            have HA2 := Lib.hid (bA.heap (heap_set_ne _ (g := g) (x := x) (u := .int .i64 i) (by have := Hgs.out; omega)))
            obtain ⟨W5, hW5⟩ : ∃ W5, w'.setCell ⟨g, x, none⟩ (.int .i64 i) = W5 := ⟨_, rfl⟩
            have hG2 : G ≤ W5.heap.size := by rw [← hW5, size_set]; exact hGw
            have hsz2 : w'.heap.size = W5.heap.size := by rw [← hW5, size_set]
            rw [hW5] at HO2 HZ2 HB2 HX2 HA2
            have Hsz2 := Lib.hid hsz2.symm
            have HW5 := Lib.hid hW5
            clear hO hZ hBr hsz2 hW5 bX bA
            go_wp2_with (at_builtin; rw [HW5.out]; refine wpList_app1 rfl (.tmp 51) (.tmp 53) rfl G _ _ zs x rfl rfl Hsz2.out HZ2.out hyr.out hzl hG2 ?_; intro p2 c2 w2 r2 hr2 hO3 hg3 hf3)
            go_roundw
            case rel =>
              have hz := HZ2.out.lt
              have hg5 := hzg.out
              have hgs := Hgs.out
              exact ⟨k + 1, by omega, by go_num, ⟨r2, p2, c2, by unfold Hid; rw [hr2.out, HTk.out], rfl, hO3⟩, by rw [HAk.out]; exact HO2.out.keptBy hg3 (fun k' e => by simp [blk] at e; subst e; exact hg5),
                HX2.out.heap hg3.size (hg3.block _ (by omega) (fun e => by have := (hz _ e.symm).1; omega)), HA2.out.heap (hg3.block _ (by omega) (fun e => by have := (hz _ e.symm).1; omega)), below_grown HB2.out hg3 (by omega) hz (by omega), Nat.le_trans hG2 hg3.size⟩
            case measure => simp [intOf]; omega
          · have hd0 : decide (0 ≤ y) = false := by simpa using h0
            unfold Hid at HAk
            rw [if_neg h0] at HAk
            have HAk := Lib.hid HAk
            have hZ2 := Lib.hid hZ
            have hyr := Lib.hid hyr
            clear h0
            go_wp2_with (at_builtin; refine wpList_app1 rfl (.tmp 51) (.tmp 53) rfl G _ _ zs y rfl rfl rfl hZ2.out hyr.out hzl hGw ?_; intro p2 c2 w2 r2 hr2 hO3 hg3 hf3)
            go_roundw
            case rel =>
              have hz := hZ2.out.lt
              have hg5 := hzg.out
              have hgs := Hgs.out
              exact ⟨k + 1, by omega, by go_num, ⟨r2, p2, c2, by unfold Hid; rw [hr2.out, HTk.out], rfl, hO3⟩, by rw [HAk.out]; exact hO.keptBy hg3 (fun k' e => by simp [blk] at e; subst e; exact hg5),
                bX.heap hg3.size (hg3.block _ (by omega) (fun e => by have := (hz _ e.symm).1; omega)), bA.heap (hg3.block _ (by omega) (fun e => by have := (hz _ e.symm).1; omega)), below_grown hBr hg3 (by omega) hz (by omega), Nat.le_trans hGw hg3.size⟩
            case measure => simp [intOf]; omega
        · have hk1 : ¬ (k : Int) < ts.length := by omega
          obtain rfl : k = ts.length := by omega
          have HL : Hid (cpickL v ts = cpA v ts ts.length) := by unfold Hid cpickL; rw [if_pos HE.out]
          have HLT : Hid (cpickT v ts = zs) := by unfold Hid cpickT; rw [if_pos HE.out, hzz.out]
          have hAl : Hid ((cpA v ts ts.length).length = m) := by unfold Hid; rw [cpA_len]; exact Hm.out
          have a0 := bA.cell
          have f0 := bA.free
          have a2 := bA.set (u := .slice (some ⟨g, 0, none⟩) m c1)
          have Ha2 := a2.cell
          have hgs := Hgs.out
          have hO5 := Lib.hid ((hO.beside (g := w.heap.size + 1) (x := 0) (u := .slice (some ⟨g, 0, none⟩) m c1) (by simp [blk]; omega)).lower (base' := w.heap.size) (by omega))
          have hZ5 := Lib.hid ((hZ.beside (g := w.heap.size + 1) (x := 0) (u := .slice (some ⟨g, 0, none⟩) m c1) (fun e => by have := (hZ.lt _ e).1; omega)).lower (base' := w.heap.size) (by omega))
          have hB5 := Lib.hid (hBr.setCell (p := ⟨w.heap.size + 1, 0, none⟩) (by simp) (.slice (some ⟨g, 0, none⟩) m c1))
          clear a2 hO hZ hBr hgs
          go_wp2_with fail
          refine bodyPost_ret (v := .tuple #[.slice (some ⟨g, 0, none⟩) m c1, .slice pz zs.length cz, .int .i64 0]) (by simp [results, Tryz.results47, go_sem, Ha2]) rfl ?_
          rw [HL.out, HLT.out, HE.out]
          exact ⟨some ⟨g, 0, none⟩, c1, pz, cz, by rw [hAl.out], hO5.out, hZ5.out, hB5.out⟩
    · have htz : (chkT v.length ts != 0) = true := by rw [bne_iff_ne]; exact hT
      have HE : Hid (pickE v ts = chkT v.length ts) := pickE_ok HG.out
      have HL : Hid (cpickL v ts = []) := by unfold Hid cpickL; rw [HE.out, if_neg hT]
      have HLT : Hid (cpickT v ts = []) := by unfold Hid cpickT; rw [HE.out, if_neg hT]
      clear hT
      have a1 := bA.cell
      have f1 := bA.free
      have a2 := bA.set (u := .slice none 0 0)
      have Ha2 := a2.cell
      clear a2
      go_wp2_with fail
      refine bodyPost_ret (v := .tuple #[.slice none 0 0, .slice none 0 0, .int .i64 (chkT v.length ts)]) (by simp [results, Tryz.results47, go_sem, Ha2]) rfl ?_
      rw [HL.out, HLT.out, HE.out]
      exact ⟨none, 0, none, 0, rfl, Own.ofNil _ _, Own.ofNil _ _, hB.setCell (p := ⟨w.heap.size + 1, 0, none⟩) (by simp) _⟩
  · have hgz : (chkG v != 0) = true := by rw [bne_iff_ne]; exact hG
    have HE : Hid (pickE v ts = chkG v) := pickE_bad hG
    have HL : Hid (cpickL v ts = []) := by unfold Hid cpickL; rw [HE.out, if_neg hG]
    have HLT : Hid (cpickT v ts = []) := by unfold Hid cpickT; rw [HE.out, if_neg hG]
    clear hG
    have bA1 := bA.below hb1 bA.lt
    have a1 := bA1.cell
    have f1 := bA1.free
    have a2 := bA1.set (u := .slice none 0 0)
    have Ha2 := a2.cell
    clear a2
    go_wp2_with fail
    refine bodyPost_ret (v := .tuple #[.slice none 0 0, .slice none 0 0, .int .i64 (chkG v)]) (by simp [results, Tryz.results47, go_sem, Ha2]) rfl ?_
    rw [HL.out, HLT.out, HE.out]
    exact ⟨none, 0, none, 0, rfl, Own.ofNil _ _, Own.ofNil _ _, (hB.trans (hb1.mono hB.size)).setCell (p := ⟨w.heap.size + 1, 0, none⟩) (by simp) _⟩
end Go.Proofs.YtmcncflieoolmaaGreat

/- The walks of the reference's none and Pick, for every chores and turns; no condition. -/
namespace Go.Proofs.YtmcncflieoolmaaGreat
set_option linter.unusedVariables false
set_option linter.unusedSimpArgs false
open Go.ChangeShapes Go.WideShapes Go.ChangeAt Go.RowKit Go.Deep

end Go.Proofs.YtmcncflieoolmaaGreat

/- The parts of chores.Run as its walk calls them. -/
namespace Go.Proofs.YtmcncflieoolmaaGreat
set_option linter.unusedVariables false
set_option linter.unusedSimpArgs false
open Go.ChangeShapes Go.WideShapes Go.ChangeAt Go.RowKit Go.Deep

theorem valuesR (p : Option Addr) (c : Nat) (v : List (List Int)) (q : Option Addr) (d m : Nat) (A : List Int) (hm : A.length = m) (hg : Gds v) (ha : AlcOk v A) (W : World) (hx : Mat W p c v) (hi : Ints W q d A) :
    Calls Tryz.prog 39 #[.agg #[.slice p v.length c], .slice q m d] W fun e w' => ∃ pv cv, e = .returned (.tuple #[.slice pv v.length cv, .int .i64 0]) ∧ Mat w' pv cv (valsG v A) ∧ Below W.heap.size W w' := by
  subst hm
  have hF := chkA_zero.2 ⟨hg, ha⟩
  refine (goodsValues_any p c v q d A W hx hi).mono ?_
  rintro e w' ⟨pv, cv, rfl, mV, hb⟩
  rw [valsL_ok hF] at mV ⊢
  rw [hF, valsG_len]
  exact ⟨pv, cv, rfl, mV, hb⟩
theorem freeR (p : Option Addr) (c : Nat) (v : List (List Int)) (A : List Int) (W : World) (hx : Mat W p c (valsG v A)) :
    Calls Tryz.prog 88 #[.slice p v.length c] W fun e w' => e = .returned (.int .i64 (freeI v A)) ∧ ∃ n, w' = W.drewN n := by
  have := free_any p c (valsG v A) W hx (fun i hi => by rw [valsG_len] at hi ⊢; rw [valsG_row hi, worthRow_len])
  rw [free_valsG, valsG_len] at this
  exact this
theorem circleR (p : Option Addr) (c : Nat) (v : List (List Int)) (A : List Int) (hg : Gds v) (W : World) (hx : Mat W p c (valsG v A)) :
    Calls Tryz.prog 89 #[.slice p v.length c] W fun e w' => ∃ p c l, Hid (l = topG v A) ∧ e = .returned (.slice p (l : List Int).length c) ∧ Own w' W.heap.size p c l ∧ Below W.heap.size W w' := by
  have hl := valsG_len v A
  have h0 := hg.1
  have h6 := hg.2.1
  have := circle_any p c (valsG v A) W hx (by omega) (by omega) (fun i hi => by rw [hl] at hi ⊢; rw [valsG_row hi, worthRow_len])
  rw [hl] at this
  refine this.mono ?_
  rintro e w' ⟨p2, c2, rfl, hO, hb⟩
  exact ⟨p2, c2, topG v A, rfl, rfl, hO, hb⟩
theorem passR (p : Option Addr) (c n : Nat) (v : List (List Int)) (hn : v.length = n) (q : Option Addr) (d m : Nat) (A : List Int) (s : Option Addr) (f : Nat) (l t : List Int) (hm : A.length = m) (hg : Gds v) (ha : AlcOk v A) (hl : CircOk l v.length) (ht : t = toL l v.length) (hmp : 0 < m) (W : World) (hx : Mat W p c v) (hi : Ints W q d A) (ho : Ints W s f t) :
    Calls Tryz.prog 69 #[.agg #[.slice p v.length c], .slice q m d, .slice s n f] W fun e w' => ∃ g c, e = .returned (.tuple #[.slice (some ⟨g, 0, none⟩) m c, .int .i64 0]) ∧ Own w' W.heap.size (some ⟨g, 0, none⟩) c (passL A l) ∧ Below W.heap.size W w' := by
  subst hm ht hn
  have hF := chkA_zero.2 ⟨hg, ha⟩
  refine (goodsPass_any p c v q d A s f (toL l v.length) W hx hi ho hF (toL_isA hl)).mono ?_
  rintro e w' ⟨p2, c2, rfl, hO, hb⟩
  rw [passG_passL hl ha.2] at hO ⊢
  obtain ⟨g, rfl, _⟩ := hO.get (j := 0) (by rw [passL_len]; exact hmp)
  exact ⟨g, c2, by rw [passL_len], hO, hb⟩
theorem run_yes {v : List (List Int)} {o : List Int} {k : Nat} {A l : List Int} {S : List Stp} (h : runTo v o k = (A, S)) (hf : freeI v A < 0) (hl : l = topG v A) :
    runTo v o (k + 1) = ((passL A l).set (iget o k).toNat (freeI v (passL A l)), (S ++ [(l, -1, -1)]) ++ [([], freeI v (passL A l), iget o k)]) := by
  subst hl
  rw [runTo, runStep, h, runS1]
  simp only [if_pos hf]
theorem run_no {v : List (List Int)} {o : List Int} {k : Nat} {A : List Int} {S : List Stp} (h : runTo v o k = (A, S)) (hf : ¬ freeI v A < 0) :
    runTo v o (k + 1) = (A.set (iget o k).toNat (freeI v A), S ++ [([], freeI v A, iget o k)]) := by
  rw [runTo, runStep, h, runS1]
  simp only [if_neg hf]
theorem hasB_take {xs : List Int} {i : Nat} (hi : i ≤ xs.length) (x : Int) : hasB (xs.take i) x = true ↔ ∃ j, j < i ∧ iget xs j = x := by
  unfold hasB
  rw [decide_eq_true_iff]
  constructor
  · intro h
    obtain ⟨j, hj, rfl⟩ := List.getElem_of_mem h
    rw [List.length_take] at hj
    exact ⟨j, by omega, by rw [iget_of (by omega), List.getElem_take]⟩
  · rintro ⟨j, hj, rfl⟩
    rw [iget_of (by omega)]
    exact List.mem_iff_getElem.2 ⟨j, by rw [List.length_take]; omega, by rw [List.getElem_take]⟩
theorem containsR (q : Option Addr) (d n : Nat) (o : List Int) (x : Int) (hn : n ≤ o.length) (W : World) (hI : Ints W q d o) :
    Calls Tryz.prog 30 #[.slice q n d, .int .i64 x] W fun e w' => e = .returned (.bool (hasB (o.take n) x)) ∧ w' = W := by
  have := contains_any q d (o.take n) x W (hI.cutPre n)
  rw [List.length_take, Nat.min_eq_left hn] at this
  exact this

theorem own_cell {w : World} {base g c : Nat} {xs : List Int} (h : Own w base (some ⟨g, 0, none⟩) c xs) {j : Nat} (hj : j < xs.length) :
    base ≤ g ∧ g < w.heap.size ∧ w.cell? ⟨g, j, none⟩ = some (.int .i64 (iget xs j)) ∧ w.frozen? ⟨g, j, none⟩ = false := by
  obtain ⟨g', hg', a1, a2, a3, a4⟩ := h.get hj
  obtain rfl : g = g' := by simpa using hg'
  exact ⟨a1, a2, a3, a4⟩

end Go.Proofs.YtmcncflieoolmaaGreat
