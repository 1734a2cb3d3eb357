/- The walk of robin.Pick, for every goods and turns; no condition. -/
import Derived.Test.YtmcncflieoolmaaGreatTopTopGoodsm7
import Derived.Test.YtmcncflieoolmaaGreatTopTopGoodsm17
import Derived.Test.YtmcncflieoolmaaGreatTopTopGoodsm4
import Derived.Test.YtmcncflieoolmaaGreatTopTopGoodsm9
/- The walk of robin.Pick, for every goods and turns; no condition. -/
namespace Go.Proofs.YtmcncflieoolmaaGreat
set_option linter.unusedVariables false
set_option linter.unusedSimpArgs false
open Go.ChangeShapes Go.WideShapes Go.ChangeAt Go.RowKit Go.Deep

/-- Two rows of the call's own, and an error. -/
def GivesLL (w : World) (xs ys : List Int) (k : Int) (e : Ending) (w' : World) : Prop :=
  ∃ p c q d, e = .returned (.tuple #[.slice p xs.length c, .slice q ys.length d, .int .i64 k]) ∧ Own w' w.heap.size p c xs ∧ Own w' w.heap.size q d ys ∧ Below w.heap.size w w'
/-- What valid goods and turns bring. -/
structure Picks (v : List (List Int)) (ts : List Int) : Prop where
  n1 : 1 ≤ v.length
  n6 : v.length ≤ 6
  m10 : wid v ≤ 10
  row : ∀ i, i < v.length → (rget v i).length = wid v
  few : ts.length ≤ 60
  turn : ∀ k, k < ts.length → ∃ i : Nat, iget ts k = i ∧ i < v.length
theorem picks_of {v : List (List Int)} {ts : List Int} (hg : chkG v = 0) (ht : chkT v.length ts = 0) : Picks v ts := by
  obtain ⟨h1, h2, h3, h4⟩ := chkG_zero.1 hg
  obtain ⟨_, _, h5, h6⟩ := chkT_zero.1 ht
  exact ⟨h1, h2, h3, fun i hi => (h4 i hi).1, h5, fun k hk => ⟨(iget ts k).toNat, by have := h6 k hk; omega, by have := h6 k hk; omega⟩⟩

/-- A store into one row leaves another one. -/
theorem Own.beside {w : World} {base : Nat} {p : Option Addr} {c : Nat} {xs : List Int} {g x : Nat} {u : Value} (h : Own w base p c xs) (hne : blk p ≠ some g) : Own (w.setCell ⟨g, x, none⟩ u) base p c xs :=
  h.keptBy (row := some g) ⟨rfl, rfl, rfl, by simp [World.setCell], fun k _ hk => Below.heap_setCell w ⟨g, x, none⟩ _ k (fun e => hk (by simp only at e; rw [e]))⟩ (fun k hk e => hne (by rw [hk]; exact e.symm))

set_option maxHeartbeats 8000000 in
set_option maxRecDepth 100000 in
theorem robinPick_any (p q : Option Addr) (c d : Nat) (v : List (List Int)) (ts : List Int) (w : World) (hx : Mat w p c v) (hy : Ints w q d ts) :
    Calls Tryz.prog 11 #[.agg #[.slice p v.length c], .slice q ts.length d] w (GivesLL w (pickL v ts) (pickT v ts) (pickE v ts)) := by
  obtain ⟨W0, hW0⟩ : ∃ W0, w.alloc (.cells #[.slice p v.length c] 24) = W0 := ⟨_, rfl⟩
  have hB : Below w.heap.size w W0 := below_alloc hW0
  have bX : BoxV W0 w.heap.size [.slice p v.length c] := BoxV.new rfl hW0
  have mX := hx.below hB (Nat.le_refl _)
  have mT := hy.below hB (Nat.le_refl _)
  have x0 := bX.cell 0 _ rfl
  have HW0 := Lib.hid hW0
  clear hW0 hx hy
  have hl1 := mX.length_le
  have hl2 := mT.length_le
  go_enter Tryz.func11, Tryz.ntmps11
  go_wp2_with fail
  rw [HW0.out]
  refine (goodsCheck_any p c v _ mX).mono ?_
  rintro e w1 ⟨rfl, hb1⟩
  clear x0
  have x0 := (bX.below hb1).cell 0 _ rfl
  by_cases hG : chkG v = 0
  · have hgz : (chkG v != 0) = false := by rw [hG]; rfl
    have HG := Lib.hid hG
    clear hG
    go_wp2_with fail
    refine (robinCheck_any v.length q d ts _ (mT.below hb1 (Nat.le_refl _))).mono ?_
    rintro e w2 ⟨rfl, hb⟩
    have hb2 := hb1.trans (hb.mono hb1.size)
    clear x0 hb hb1
    have x0 := (bX.below hb2).cell 0 _ rfl
    by_cases hT : chkT v.length ts = 0
    · have htz : (chkT v.length ts != 0) = false := by rw [hT]; rfl
      have HT := Lib.hid hT
      have HP := Lib.hid (picks_of HG.out hT)
      have HE : Hid (pickE v ts = 0) := (pickE_ok HG.out).trans HT.out
      clear hT
      obtain ⟨b, o, rfl, _, _⟩ := mX.get (j := 0) HP.out.n1
      obtain ⟨q0, d0, hc0, hi0⟩ := (mX.below hb2 (Nat.le_refl _)).at (j := 0) HP.out.n1
      rw [Nat.add_zero] at hc0
      obtain ⟨m, hm⟩ : ∃ m, wid v = m := ⟨_, rfl⟩
      have hm0 : (rget v 0).length = m := hm
      rw [hm0] at hc0
      have Hm := Lib.hid hm
      have hm10 : m ≤ 10 := by have := HP.out.m10; omega
      have hv1 : (0 : Int) < v.length := by have := HP.out.n1; omega
      clear hm hm0 hi0
      have hI1 := ints_one w2 (x := -1) ⟨by omega, by omega⟩ 3
      have hBa : Below w2.heap.size w2 (w2.alloc (.cells #[.int .i64 (-1)] 3)) := (Below.refl _ _).alloc (Nat.le_refl _) _
      have hc0' : (w2.alloc (.cells #[.int .i64 (-1)] 3)).cell? ⟨b, o, none⟩ = _ := (hBa.cell (p := ⟨b, o, none⟩) (World.block_lt_of_cell? _ _ hc0)).trans hc0
      have x0' : (w2.alloc (.cells #[.int .i64 (-1)] 3)).cell? ⟨w.heap.size, 0, none⟩ = _ := (hBa.cell (p := ⟨w.heap.size, 0, none⟩) (World.block_lt_of_cell? _ _ x0)).trans x0
      go_wp2_with fail
      refine (repeat1_any _ _ (-1) m _ hI1 (by omega) ⟨by omega, by omega⟩).mono ?_
      rintro e w3 ⟨g, c1, rfl, hO, hb'⟩
      have hb := hBa.trans (hb'.mono hBa.size)
      have hb3 := hb2.trans (hb.mono hb2.size)
      have hgs := hO.lt g rfl
      have hwg : W0.heap.size ≤ g := by have := hBa.size; have := hb2.size; omega
      replace hO := hO.lower (base' := W0.heap.size) (by have := hBa.size; have := hb2.size; omega)
      clear x0 x0' hc0 hc0' hI1 hb hb' hBa hb2
      obtain ⟨G, hG⟩ : ∃ G, w3.heap.size = G := ⟨_, rfl⟩
      have HGs := Lib.hid hG
      have hgG : g < G := by rw [← hG]; exact hgs.2
      have hWG : W0.heap.size ≤ G := by omega
      clear hG hgs
      have hO0 : Own w3 W0.heap.size (some ⟨g, 0, none⟩) c1 (pkA v ts 0) := by
        unfold pkA; rw [Hm.out]; exact hO
      clear hO
      go_wp2_with fail
      go_loopw [5, 36] (fun s i wr => ∃ k : Nat, k ≤ ts.length ∧ i = .int .i64 k ∧ (∃ zs pz cz, Hid (zs = pkT v ts k) ∧ s = .slice pz (zs : List Int).length cz ∧ Own wr G pz cz zs) ∧ Own wr W0.heap.size (some ⟨g, 0, none⟩) c1 (pkA v ts k) ∧ Below W0.heap.size W0 wr ∧ G ≤ wr.heap.size) (fun _ i _ => ts.length - (intOf i).toNat)
      case atStart => exact ⟨0, by omega, rfl, ⟨[], none, 0, rfl, rfl, Own.ofNil _ _⟩, hO0, hb3, by rw [HGs.out]; exact Nat.le_refl _⟩
      case round =>
        clear hO0 hb3
        obtain ⟨k, hk, rfl, ⟨zs, pz, cz, hzz, rfl, hZ⟩, hO, hBr, hGw⟩ := hrel
        have hTr := mT.below hBr (Nat.le_refl _)
        by_cases hkl : k < ts.length
        · have hk1 : (k : Int) < ts.length := by omega
          obtain ⟨i, hti, hiv⟩ := HP.out.turn k hkl
          have hXr := mX.below hBr (Nat.le_refl _)
          obtain ⟨bt, ot, rfl, hbt, hct⟩ := hTr.get hkl
          rw [hti] at hct
          have Hti := Lib.hid hti
          obtain ⟨qi, di, hci, hri⟩ := hXr.at hiv
          have hrow : (rget v i).length = m := (HP.out.row i hiv).trans Hm.out
          have hiv1 : (i : Int) < v.length := by omega
          obtain ⟨A, hA⟩ : ∃ A, pkA v ts k = A := ⟨_, rfl⟩
          have hAl : A.length = m := by rw [← hA, pkA_len]; exact Hm.out
          rw [hA] at hO
          have HA := Lib.hid hA
          have HAl := Lib.hid hAl
          have Hrow := Lib.hid hrow
          rw [hrow] at hci
          have x0 := (bX.below hBr).cell 0 _ rfl
          clear hA hAl hrow hti hTr hXr
          go_wp2_with fail
          obtain ⟨wo, rfl⟩ : ∃ wo : World, wo = wr := ⟨_, rfl⟩
          go_loopw [11, 42] (fun s j wk => ∃ n : Nat, n ≤ m ∧ j = .int .i64 n ∧ s = .int .i64 (pickTo (rget v i) A n) ∧ ∃ N, wk = wo.drewN N) (fun _ j _ => m - (intOf j).toNat)
          case atStart => exact ⟨0, by omega, rfl, rfl, drew_refl _⟩
          case round =>
            obtain ⟨n, hn, rfl, rfl, hN⟩ := hrel
            have hpr := pickTo_range (rget v i) A n
            by_cases hnm : n < m
            · have hn1 : (n : Int) < m := by omega
              obtain ⟨g', hg', _, _, hcA, _⟩ := (hO.drew hN).get (j := n) (by rw [HAl.out]; exact hnm)
              obtain rfl : g = g' := by simpa using hg'
              clear hg'
              obtain ⟨N, rfl⟩ := hN
              by_cases how : iget A n < 0
              · have hdo : decide (iget A n < 0) = true := by simpa using how
                by_cases hbest : pickTo (rget v i) A n < 0
                · have hdb : decide (pickTo (rget v i) A n < 0) = true := by simpa using hbest
                  have HS := Lib.hid (pickTo_yes how (.inl hbest))
                  clear how hbest
                  go_wp2_with fail
                  go_quiet (fail)
                  go_wp2_with fail
                  go_roundw
                  case rel => exact ⟨n + 1, by omega, by go_num, by rw [HS.out], (by first | exact ⟨_, rfl⟩ | exact ⟨_, World.drewN_drewN _ _ _⟩)⟩
                  case measure => simp [intOf]; omega
                · have hdb : decide (pickTo (rget v i) A n < 0) = false := by simpa using hbest
                  obtain ⟨x, hx⟩ : ∃ x : Nat, pickTo (rget v i) A n = x := ⟨(pickTo (rget v i) A n).toNat, by omega⟩
                  have hxn : x < n := by omega
                  have hxm : (x : Int) < m := by omega
                  have hx0 : (0 : Int) ≤ x := by omega
                  obtain ⟨b2, o2, rfl, _, hcx⟩ := hri.get (j := x) (by rw [Hrow.out]; omega)
                  have hcn := hri.at (j := n) (by rw [Hrow.out]; omega)
                  rw [hx] at hdb
                  by_cases hgt : iget (rget v i) x < iget (rget v i) n
                  · have hdg : decide (iget (rget v i) x < iget (rget v i) n) = true := by simpa using hgt
                    have HS := Lib.hid (pickTo_yes how (.inr (by rw [hx, Int.toNat_natCast]; exact hgt)))
                    rw [hx]
                    have Hx := Lib.hid hx
                    clear how hbest hx hgt hpr
                    go_wp2_with fail
                    go_quiet (fail)
                    go_wp2_with fail
                    go_roundw
                    case rel => exact ⟨n + 1, by omega, by go_num, by rw [HS.out], (by first | exact ⟨_, rfl⟩ | exact ⟨_, World.drewN_drewN _ _ _⟩)⟩
                    case measure => simp [intOf]; omega
                  · have hdg : decide (iget (rget v i) x < iget (rget v i) n) = false := by simpa using hgt
                    have HS := Lib.hid (pickTo_no (r := rget v i) (a := A) (k := n) (fun h => by
                      rcases h.2 with h2 | h2
                      · exact hbest h2
                      · rw [hx, Int.toNat_natCast] at h2; exact hgt h2))
                    rw [hx]
                    have Hx := Lib.hid hx
                    clear how hbest hx hgt hpr
                    go_wp2_with fail
                    go_quiet (fail)
                    go_wp2_with fail
                    go_roundw
                    case rel => exact ⟨n + 1, by omega, by go_num, by rw [HS.out, Hx.out], (by first | exact ⟨_, rfl⟩ | exact ⟨_, World.drewN_drewN _ _ _⟩)⟩
                    case measure => simp [intOf]; omega
              · have hdo : decide (iget A n < 0) = false := by simpa using how
                have HS := Lib.hid (pickTo_no (r := rget v i) (a := A) (k := n) (fun h => how h.1))
                clear how
                go_wp2_with fail
                go_quiet (fail)
                go_wp2_with fail
                go_roundw
                case rel => exact ⟨n + 1, by omega, by go_num, by rw [HS.out], (by first | exact ⟨_, rfl⟩ | exact ⟨_, World.drewN_drewN _ _ _⟩)⟩
                case measure => simp [intOf]; omega
            · have hn1 : ¬ (n : Int) < m := by omega
              obtain rfl : n = m := by omega
              have hP : pick (rget v i) A = pickTo (rget v i) A n := by unfold pick; rw [HAl.out]
              obtain ⟨y, hy⟩ : ∃ y, pickTo (rget v i) A n = y := ⟨_, rfl⟩
              rw [hy] at hpr hP ⊢
              have HTk : Hid (pkT v ts (k + 1) = zs ++ [y]) := by unfold Hid; rw [pkT, ← hzz.out, HA.out, Hti.out, Int.toNat_natCast, hP]
              have HAk : Hid (pkA v ts (k + 1) = if 0 ≤ y then A.set y.toNat i else A) := by unfold Hid; rw [pkA, stepA, HA.out, Hti.out, Int.toNat_natCast, hP]
              have hyr : in64 y := ⟨by omega, by omega⟩
              have hzl : zs.length ≤ 900000 := by rw [hzz.out, pkT_len]; have := HP.out.few; omega
              clear hy hP x0 hci hct hri
              obtain ⟨hO', hZ', hB', hGw'⟩ : Own wr W0.heap.size (some ⟨g, 0, none⟩) c1 A ∧ Own wr G pz cz zs ∧ Below W0.heap.size W0 wr ∧ G ≤ wr.heap.size := by
                obtain ⟨N, rfl⟩ := hN
                exact ⟨hO.drewN N, hZ.drewN N, hBr.drewN' N, hGw⟩
              clear hN hO hZ hBr hGw
              have hzg : blk pz ≠ some g := fun e => by have := (hZ'.lt g e).1; omega
              by_cases h0 : 0 ≤ y
              · obtain ⟨x, rfl⟩ : ∃ x : Nat, y = x := ⟨y.toNat, by omega⟩
                have hxm : (x : Int) < n := by omega
                have hx0 : (0 : Int) ≤ x := by omega
                have hyr := Lib.hid hyr
                unfold Hid at HAk
                rw [if_pos h0, Int.toNat_natCast] at HAk
                have HAk := Lib.hid HAk
                obtain ⟨g', hg', _, _, hcA, hfA⟩ := hO'.get (j := x) (by rw [HAl.out]; omega)
                obtain rfl : g = g' := by simpa using hg'
                clear hg' h0
                have HO2 := Lib.hid (hO'.set x (x := i) ⟨by omega, by omega⟩).1
                have HZ2 := Lib.hid (hZ'.beside (x := x) (u := .int .i64 i) hzg)
                have HB2 := Lib.hid (hB'.setCell (p := ⟨g, x, none⟩) hwg (.int .i64 i))
                have hG2 : G ≤ (wr.setCell ⟨g, x, none⟩ (.int .i64 i)).heap.size := by simpa [World.setCell] using hGw'
                have hsz2 : (wr.setCell ⟨g, x, none⟩ (.int .i64 i)).heap.size = wr.heap.size := by simp [World.setCell]
                have Hsz2 := Lib.hid hsz2
                clear hO' hZ' hB' hsz2
                go_wp2_with (at_builtin; refine wpList_app1 rfl (.tmp 80) (.tmp 82) rfl G _ _ zs x rfl rfl Hsz2.out HZ2.out hyr.out hzl hG2 ?_; intro p2 c2 w2 r2 hr2 hO3 hg3 hf3)
                have hpb : ∀ k', blk pz = some k' → G ≤ k' ∧ k' < (wr.setCell ⟨g, x, none⟩ (.int .i64 i)).heap.size := HZ2.out.lt
                go_roundw
                case rel => exact ⟨k + 1, by omega, by go_num, ⟨r2, p2, c2, by unfold Hid; rw [hr2.out, HTk.out], rfl, hO3⟩, by rw [HAk.out]; exact HO2.out.keptBy hg3 (fun k' e => by simp [blk] at e; subst e; exact hzg), below_grown HB2.out hg3 (by omega) hpb hWG, Nat.le_trans hG2 hg3.size⟩
                case measure => simp [intOf]; omega
              · have hd0 : decide (0 ≤ y) = false := by simpa using h0
                unfold Hid at HAk
                rw [if_neg h0] at HAk
                have HAk := Lib.hid HAk
                have hZ2 := Lib.hid hZ'
                have hyr := Lib.hid hyr
                clear h0
                go_wp2_with (at_builtin; refine wpList_app1 rfl (.tmp 80) (.tmp 82) rfl G _ _ zs y rfl rfl rfl hZ2.out hyr.out hzl hGw' ?_; intro p2 c2 w2 r2 hr2 hO3 hg3 hf3)
                go_roundw
                case rel => exact ⟨k + 1, by omega, by go_num, ⟨r2, p2, c2, by unfold Hid; rw [hr2.out, HTk.out], rfl, hO3⟩, by rw [HAk.out]; exact hO'.keptBy hg3 (fun k' e => by simp [blk] at e; subst e; exact hzg), below_grown hB' hg3 (by omega) hZ2.out.lt hWG, Nat.le_trans hGw' hg3.size⟩
                case measure => simp [intOf]; omega
        · have hk1 : ¬ (k : Int) < ts.length := by omega
          obtain rfl : k = ts.length := by omega
          have HL : Hid (pickL v ts = pkA v ts ts.length) := by unfold Hid pickL; rw [if_pos HE.out]
          have HLT : Hid (pickT v ts = zs) := by unfold Hid pickT; rw [if_pos HE.out, hzz.out]
          have hAl : Hid ((pkA v ts ts.length).length = m) := by unfold Hid; rw [pkA_len]; exact Hm.out
          go_wp2_with fail
          go_ret3
          rw [HL.out, HLT.out, HE.out]
          exact ⟨some ⟨g, 0, none⟩, c1, pz, cz, by rw [hAl.out]; rfl, hO.lower hB.size, hZ.lower (by have := hB.size; omega), hB.trans (hBr.mono hB.size)⟩
    · have htz : (chkT v.length ts != 0) = true := by rw [bne_iff_ne]; exact hT
      have HE : Hid (pickE v ts = chkT v.length ts) := pickE_ok HG.out
      have HL : Hid (pickL v ts = []) := by unfold Hid pickL; rw [HE.out, if_neg hT]
      have HLT : Hid (pickT v ts = []) := by unfold Hid pickT; rw [HE.out, if_neg hT]
      clear hT
      go_wp2_with fail
      go_ret3
      rw [HL.out, HLT.out, HE.out]
      exact ⟨none, 0, none, 0, rfl, Own.ofNil _ _, Own.ofNil _ _, hB.trans (hb2.mono hB.size)⟩
  · have hgz : (chkG v != 0) = true := by rw [bne_iff_ne]; exact hG
    have HE : Hid (pickE v ts = chkG v) := pickE_bad hG
    have HL : Hid (pickL v ts = []) := by unfold Hid pickL; rw [HE.out, if_neg hG]
    have HLT : Hid (pickT v ts = []) := by unfold Hid pickT; rw [HE.out, if_neg hG]
    clear hG
    go_wp2_with fail
    go_ret3
    rw [HL.out, HLT.out, HE.out]
    exact ⟨none, 0, none, 0, rfl, Own.ofNil _ _, Own.ofNil _ _, hB.trans (hb1.mono hB.size)⟩
end Go.Proofs.YtmcncflieoolmaaGreat

/- The walk of goods.Pass at valid goods and allocations and an order of all agents. -/
namespace Go.Proofs.YtmcncflieoolmaaGreat
set_option linter.unusedVariables false
set_option linter.unusedSimpArgs false
open Go.ChangeShapes Go.WideShapes Go.ChangeAt Go.RowKit Go.Deep

/-- Who stands where in an order, after its first m. -/
def toUp (o : List Int) (n : Nat) : Nat → List Int
  | 0 => List.replicate n (-1)
  | m + 1 => (toUp o n m).set (iget o m).toNat m
theorem toUp_len (o : List Int) (n : Nat) : ∀ m, (toUp o n m).length = n
  | 0 => by simp [toUp]
  | m + 1 => by rw [toUp, List.length_set, toUp_len o n m]
theorem isA_at {o : List Int} {n k : Nat} (h : IsA o n) (hk : k < n) : ∃ i, i < n ∧ iget o i = (k : Int) ∧ firstN (idxP o (k : Int)) o.length = (i : Int) := by
  obtain ⟨i, hi, e⟩ := (isA_per h).surj hk
  have h0 := (isA_lt h i hi).1
  have e2 : iget o i = (k : Int) := by simp only [itm] at e; omega
  refine ⟨i, hi, e2, firstN_of (by rw [h.1]; exact hi) (by unfold idxP; rw [decide_eq_true_iff]; exact e2.symm) (fun j hj => ?_)⟩
  unfold idxP
  rw [decide_eq_false_iff_not]
  intro e3
  have := isA_inj h (i := j) (j := i) (by omega) hi (by rw [e2]; exact e3.symm)
  omega
theorem toUp_get {o : List Int} {n k i : Nat} (h : IsA o n) (hk : k < n) (hi : i < n) (he : iget o i = (k : Int)) : ∀ m, m ≤ n → iget (toUp o n m) k = if i < m then (i : Int) else -1
  | 0, _ => by simp [toUp, iget, List.getD, hk]
  | m + 1, hm => by
    have ih := toUp_get h hk hi he m (by omega)
    obtain ⟨h1, h2⟩ := isA_lt h m (by omega)
    rw [toUp, iget_set (by rw [toUp_len]; exact h2)]
    by_cases e : (iget o m).toNat = k
    · rw [if_pos e]
      have : m = i := isA_inj h (by omega) hi (by rw [he]; omega)
      subst this
      rw [if_pos (by omega)]
    · rw [if_neg e, ih]
      have : m ≠ i := fun e2 => e (by subst e2; rw [he]; simp)
      by_cases e3 : i < m
      · rw [if_pos e3, if_pos (by omega)]
      · rw [if_neg e3, if_neg (by omega)]
theorem toUp_full {o : List Int} {n k : Nat} (h : IsA o n) (hk : k < n) : iget (toUp o n n) k = firstN (idxP o (k : Int)) o.length ∧ 0 ≤ iget (toUp o n n) k ∧ iget (toUp o n n) k < n := by
  obtain ⟨i, hi, he, hf⟩ := isA_at h hk
  have := toUp_get h hk hi he n (Nat.le_refl _)
  rw [if_pos hi] at this
  rw [this, hf]
  exact ⟨rfl, by omega, by omega⟩
theorem toUp_has {o : List Int} {n : Nat} (h : IsA o n) : hasB (toUp o n n) (-1) = false := by
  unfold hasB
  rw [decide_eq_false_iff_not]
  intro hm
  obtain ⟨k, hk, e⟩ := List.getElem_of_mem hm
  rw [toUp_len] at hk
  rw [← iget_of (by rw [toUp_len]; exact hk)] at e
  have := (toUp_full h hk).2.1
  omega
/-- Bundles passed: what one stood at k in the order has. -/
def passG (a o : List Int) : List Int := a.map fun x => if 0 ≤ x then firstN (idxP o x) o.length else x
theorem passG_take {a o : List Int} {k : Nat} (h : k < a.length) : passG (a.take (k + 1)) o = passG (a.take k) o ++ [if 0 ≤ iget a k then firstN (idxP o (iget a k)) o.length else iget a k] := by
  unfold passG
  rw [List.take_succ_eq_append_getElem h, List.map_append, iget_of h]; rfl

set_option maxHeartbeats 8000000 in
set_option maxRecDepth 100000 in
theorem goodsPass_any (p : Option Addr) (c : Nat) (v : List (List Int)) (q : Option Addr) (d : Nat) (a : List Int) (s : Option Addr) (f : Nat) (o : List Int) (w : World) (hx : Mat w p c v) (hi : Ints w q d a) (ho : Ints w s f o) (hF : chkA v a = 0) (hA : IsA o v.length) :
    Calls Tryz.prog 69 #[.agg #[.slice p v.length c], .slice q a.length d, .slice s v.length f] w (Gives2 w (passG a o) 0) := by
  obtain ⟨W0, hW0⟩ : ∃ W0, w.alloc (.cells #[.slice p v.length c] 24) = W0 := ⟨_, rfl⟩
  have hB : Below w.heap.size w W0 := below_alloc hW0
  have bX : BoxV W0 w.heap.size [.slice p v.length c] := BoxV.new rfl hW0
  have Hi0 := Lib.hid hi
  have Ho0 := Lib.hid ho
  replace hx := hx.below hB (Nat.le_refl _)
  replace hi := hi.below hB (Nat.le_refl _)
  replace ho := ho.below hB (Nat.le_refl _)
  have x0 := bX.cell 0 _ rfl
  have HW0 := Lib.hid hW0
  clear hW0
  obtain ⟨hg, ha⟩ := chkA_zero.1 hF
  obtain ⟨n, hn⟩ : ∃ n, v.length = n := ⟨_, rfl⟩
  have h6 : n ≤ 6 := by have := hg.2.1; omega
  have h1 : 1 ≤ n := by have := hg.1; omega
  have hol : o.length = n := by rw [hA.1, hn]
  rw [hn] at hA
  have hwn : withinB 0 n o = true := withinB_true.2 fun j hj => by
    rw [hol] at hj
    obtain ⟨h3, h4⟩ := isA_lt hA j hj
    simp only [itm] at h4
    omega
  have HV := goodsValid_any p c v q d a W0 hx hi
  have HW := Lib.hid (fun W (h : Ints W s f o) => within_any 0 n s f o W h)
  rw [hF] at HV
  rw [hol, hwn] at HW
  rw [hn] at HV x0 HW0 bX ⊢
  have ha2 : a.length ≤ 10 := by rw [ha.1]; exact hg.2.2.1
  have hr : ∀ k, k < a.length → -1 ≤ iget a k ∧ iget a k < n := fun k hk => by have := ha.2 k hk; omega
  have Hr := Lib.hid hr
  have HA := Lib.hid hA
  have Hol := Lib.hid hol
  have HV := Lib.hid HV
  have HR := Lib.hid (fun (W : World) hI => repeat1_any (some ⟨W.heap.size, 0, none⟩) 1 (-1) n (W.alloc (.cells #[.int .i64 (-1)] 3)) hI (by omega) ⟨by omega, by omega⟩)
  have HI1 := Lib.hid (fun (W : World) => ints_one W (x := -1) ⟨by omega, by omega⟩ 3)
  have hl2 := hi.length_le
  have hl3 := ho.length_le
  have hne : ((n : Int) != (n : Int)) = false := by simp
  clear hx hF hg ha hn hA hol hwn hr hl3
  go_enter Tryz.func69, Tryz.ntmps69
  go_wp2_with fail
  rw [HW0.out]
  refine HV.out.mono ?_
  rintro e w1 ⟨rfl, hb1⟩
  clear x0
  replace hi := hi.below hb1 (Nat.le_refl _)
  replace ho := ho.below hb1 (Nat.le_refl _)
  replace bX := bX.below hb1
  replace hB := hB.trans (hb1.mono hB.size)
  clear hb1
  have x0 := bX.cell 0 _ rfl
  have hBa : Below w1.heap.size w1 (w1.alloc (.cells #[.int .i64 (-1)] 3)) := (Below.refl _ _).alloc (Nat.le_refl _) _
  have x0' : (w1.alloc (.cells #[.int .i64 (-1)] 3)).cell? ⟨w.heap.size, 0, none⟩ = _ := (hBa.cell (p := ⟨w.heap.size, 0, none⟩) (World.block_lt_of_cell? _ _ x0)).trans x0
  go_wp2_with fail
  refine (HR.out w1 (HI1.out w1)).mono ?_
  rintro e w3 ⟨g, c1, rfl, hO, hb'⟩
  have hb := hBa.trans (hb'.mono hBa.size)
  have hgs := hO.lt g rfl
  have hbs := hBa.size
  have hlX := bX.lt
  replace hO := hO.lower (base' := w.heap.size + 1) (by omega)
  replace hi := hi.below hb (Nat.le_refl _)
  replace ho := ho.below hb (Nat.le_refl _)
  replace hB := hB.trans (hb.mono hB.size)
  have hgw : w.heap.size < g := by omega
  clear x0 x0' hb' hBa hb hbs hgs hlX bX HV HR HI1
  have HC := Lib.hid (HW.out w3 ho)
  go_wp2_with fail
  refine HC.out.mono ?_
  rintro e w4 ⟨rfl, hb4⟩
  replace hO := hO.below hb4 (Nat.le_refl _)
  replace hi := hi.below hb4 (Nat.le_refl _)
  replace ho := ho.below hb4 (Nat.le_refl _)
  replace hB := hB.trans (hb4.mono hB.size)
  have hgs := (hO.lt g rfl).2
  clear hb4 HC HW
  obtain ⟨G, hGe⟩ : ∃ G, w4.heap.size = G := ⟨_, rfl⟩
  have HGs := Lib.hid hGe
  have hgG : g < G := by omega
  have hO0 : Hid (Own w4 (w.heap.size + 1) (some ⟨g, 0, none⟩) c1 (toUp o n 0)) := hO
  have Hlen := Lib.hid (fun k => toUp_len o n k)
  have Hst : Hid (∀ k, toUp o n (k + 1) = (toUp o n k).set (iget o k).toNat k) := fun k => rfl
  have Hful := Lib.hid (fun k (h : k < n) => toUp_full HA.out h)
  have Hlt := Lib.hid (fun k (h : k < n) => isA_lt HA.out k h)
  have Hhas := Lib.hid (toUp_has HA.out)
  clear hgs hGe hO hi ho
  go_wp2_with fail
  go_loopw [40] (fun t wr => ∃ k : Nat, k ≤ n ∧ t = .int .i64 k ∧ Own wr (w.heap.size + 1) (some ⟨g, 0, none⟩) c1 (toUp o n k) ∧ Below w.heap.size w wr) (fun t _ => n - (intOf t).toNat)
  case atStart => exact ⟨0, Nat.zero_le _, rfl, hO0.out, hB⟩
  case round =>
    clear hO0 hB
    obtain ⟨k, hk, rfl, hO, hbr⟩ := hrel
    by_cases hlt : k < n
    · have hk1 : (k : Int) < n := by omega
      obtain ⟨b, o', rfl, _, hc⟩ := (Ho0.out.below hbr (Nat.le_refl _)).get (j := k) (by rw [Hol.out]; exact hlt)
      obtain ⟨x, hx⟩ : ∃ x : Nat, iget o k = x := ⟨(iget o k).toNat, by have := (Hlt.out k hlt).1; omega⟩
      have hxn : x < n := by have := (Hlt.out k hlt).2; simp only [itm] at this; omega
      have HS := Hst.out k
      rw [hx, Int.toNat_natCast] at HS
      rw [hx] at hc
      have hx1 : (x : Int) < n := by omega
      have hx0 : (0 : Int) ≤ x := by omega
      obtain ⟨g', hg', _, _, hcA, hfA⟩ := hO.get (j := x) (by rw [Hlen.out]; exact hxn)
      obtain rfl : g = g' := by simpa using hg'
      have HO2 := (hO.set x (x := (k : Int)) ⟨by omega, by omega⟩).1
      rw [← HS] at HO2
      have HO2 := Lib.hid HO2
      have HB := Lib.hid (hbr.setCell (p := ⟨g, x, none⟩) (by simp only; omega) (.int .i64 (k : Int)))
      clear hg' HS hO hbr hx
      go_wp2_with fail
      go_roundw
      case rel => exact ⟨k + 1, by omega, by go_num, HO2.out, HB.out⟩
      case measure => (simp [intOf] <;> omega)
    · have hk1 : ¬ (k : Int) < n := by omega
      obtain rfl : k = n := by omega
      have HC := contains_any (some ⟨g, 0, none⟩) c1 (toUp o k k) (-1) _ hO.ints
      rw [Hhas.out, Hlen.out] at HC
      have HC := Lib.hid HC
      have HO := Lib.hid hO
      have hsz := hbr.size
      obtain ⟨B2, hB2⟩ : ∃ B2, wr.heap.size = B2 := ⟨_, rfl⟩
      have HB2 := Lib.hid hB2
      have hgB : g < B2 := by have := (hO.lt g rfl).2; omega
      clear hO hB2 hk
      go_wp2_with fail
      refine HC.out.mono ?_
      rintro e w5 ⟨rfl, rfl⟩
      go_wp2_with fail
      go_loopw [12, 54] (fun s t wr => ∃ j : Nat, j ≤ a.length ∧ t = .int .i64 j ∧ (∃ zs pz cz, Hid (zs = passG (a.take j) o) ∧ s = .slice pz (zs : List Int).length cz ∧ Own wr B2 pz cz zs) ∧ Below B2 w5 wr) (fun _ t _ => a.length - (intOf t).toNat)
      case atStart => exact ⟨0, Nat.zero_le _, rfl, ⟨[], none, 0, rfl, rfl, Own.ofNil _ _⟩, Below.refl _ _⟩
      case round =>
        obtain ⟨j, hj, rfl, ⟨zs, pz, cz, hz, rfl, hZ⟩, hbk⟩ := hrel
        have hbw := hbr.trans (hbk.mono (by rw [← HB2.out]; exact hsz))
        by_cases hja : j < a.length
        · have hj1 : (j : Int) < a.length := by omega
          obtain ⟨b, o', rfl, _, hc⟩ := (Hi0.out.below hbw (Nat.le_refl _)).get hja
          have hTk := passG_take (o := o) hja
          have hrg := Hr.out j hja
          have hzl : zs.length ≤ 900000 := by rw [hz.out]; simp [passG]; omega
          have hsz2 : B2 ≤ wr.heap.size := by have := hbk.size; have := HB2.out; omega
          obtain ⟨x, hx⟩ : ∃ x, iget a j = x := ⟨_, rfl⟩
          rw [hx] at hTk hrg hc
          clear hx
          by_cases h0 : 0 ≤ x
          · have hd : decide (0 ≤ x) = true := by simpa using h0
            obtain ⟨y, rfl⟩ : ∃ y : Nat, x = y := ⟨x.toNat, by omega⟩
            have hyn : y < k := by omega
            have hy1 : (y : Int) < k := by omega
            obtain ⟨h3, h4, h5⟩ := Hful.out y hyn
            obtain ⟨g', hg', _, _, hcA, _⟩ := (HO.out.below hbk (Nat.le_of_eq HB2.out)).get (j := y) (by rw [Hlen.out]; exact hyn)
            obtain rfl : g = g' := by simpa using hg'
            rw [if_pos h0, ← h3] at hTk
            obtain ⟨z, ez⟩ : ∃ z, iget (toUp o k k) y = z := ⟨_, rfl⟩
            rw [ez] at hTk hcA h4 h5
            have hzi : in64 z := ⟨by omega, by omega⟩
            have HT := Lib.hid hTk
            have HZ := Lib.hid hZ
            have Hz := Lib.hid hzi
            clear hTk h3 ez hg' h0 hZ hzi h4 h5
            go_wp2_with (at_builtin; refine wpList_app1 rfl (.tmp 64) (.tmp 66) rfl B2 _ _ zs z rfl rfl rfl HZ.out Hz.out hzl hsz2 ?_; intro p3 c3 w3 u3 hu3 hO3 hg3 hf3)
            go_roundw
            case rel => exact ⟨j + 1, by omega, by go_num, ⟨u3, _, _, by unfold Hid; rw [hu3.out, hz.out, HT.out], rfl, hO3⟩, hbk.grown hg3 hsz2 (fun k' e => (HZ.out.lt k' e).1)⟩
            case measure => (simp [intOf] <;> omega)
          · have hd : decide (0 ≤ x) = false := by simpa using h0
            rw [if_neg h0] at hTk
            have hzi : in64 x := ⟨by omega, by omega⟩
            have HT := Lib.hid hTk
            have HZ := Lib.hid hZ
            have Hz := Lib.hid hzi
            clear hTk h0 hZ hzi
            go_wp2_with (at_builtin; refine wpList_app1 rfl (.tmp 64) (.tmp 66) rfl B2 _ _ zs x rfl rfl rfl HZ.out Hz.out hzl hsz2 ?_; intro p3 c3 w3 u3 hu3 hO3 hg3 hf3)
            go_roundw
            case rel => exact ⟨j + 1, by omega, by go_num, ⟨u3, _, _, by unfold Hid; rw [hu3.out, hz.out, HT.out], rfl, hO3⟩, hbk.grown hg3 hsz2 (fun k' e => (HZ.out.lt k' e).1)⟩
            case measure => (simp [intOf] <;> omega)
        · have hj1 : ¬ (j : Int) < a.length := by omega
          obtain rfl : j = a.length := by omega
          have hzr : zs = passG a o := by rw [hz.out, List.take_of_length_le (Nat.le_refl _)]
          subst hzr
          go_wp2_with fail
          go_ret2
          exact ⟨_, _, rfl, hZ.lower (by rw [← HB2.out]; exact hsz), hbw⟩
end Go.Proofs.YtmcncflieoolmaaGreat
