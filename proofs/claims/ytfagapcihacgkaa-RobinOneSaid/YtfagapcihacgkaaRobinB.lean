/- The walk of robin.Pick, for every goods and turns; no condition. -/
import Derived.Test.YtfagapcihacgkaaRobinA
import Derived.Test.YtfagapcihacgkaaRepeat
namespace Go.Proofs.Ytfagapcihacgkaa
set_option linter.unusedVariables false
set_option linter.unusedSimpArgs false
open Go.ChangeShapes Go.WideShapes Go.ChangeAt Go.RowKit Go.Deep

/-- Two rows of the call's own, and an error. -/
def GivesLL (w : World) (xs ys : List Int) (k : Int) (e : Ending) (w' : World) : Prop :=
  ∃ p c q d, e = .returned (.tuple #[.slice p xs.length c, .slice q ys.length d, .int .i64 k]) ∧ Own w' w.heap.size p c xs ∧ Own w' w.heap.size q d ys ∧ Below w.heap.size w w'
/-- What valid goods and turns bring. -/
structure Picks (v : List (List Int)) (ts : List Int) : Prop where
  n1 : 1 ≤ v.length
  n6 : v.length ≤ 6
  m10 : wid v ≤ 10
  row : ∀ i, i < v.length → (rget v i).length = wid v
  few : ts.length ≤ 60
  turn : ∀ k, k < ts.length → ∃ i : Nat, iget ts k = i ∧ i < v.length
theorem picks_of {v : List (List Int)} {ts : List Int} (hg : chkG v = 0) (ht : chkT v.length ts = 0) : Picks v ts := by
  obtain ⟨h1, h2, h3, h4⟩ := chkG_zero.1 hg
  obtain ⟨_, _, h5, h6⟩ := chkT_zero.1 ht
  exact ⟨h1, h2, h3, fun i hi => (h4 i hi).1, h5, fun k hk => ⟨(iget ts k).toNat, by have := h6 k hk; omega, by have := h6 k hk; omega⟩⟩

/-- A store into one row leaves another one. -/
theorem Own.beside {w : World} {base : Nat} {p : Option Addr} {c : Nat} {xs : List Int} {g x : Nat} {u : Value} (h : Own w base p c xs) (hne : blk p ≠ some g) : Own (w.setCell ⟨g, x, none⟩ u) base p c xs :=
  h.keptBy (row := some g) ⟨rfl, rfl, rfl, by simp [World.setCell], fun k _ hk => Below.heap_setCell w ⟨g, x, none⟩ _ k (fun e => hk (by simp only at e; rw [e]))⟩ (fun k hk e => hne (by rw [hk]; exact e.symm))

set_option maxHeartbeats 8000000 in
set_option maxRecDepth 100000 in
theorem robinPick_any (p q : Option Addr) (c d : Nat) (v : List (List Int)) (ts : List Int) (w : World) (hx : Mat w p c v) (hy : Ints w q d ts) :
    Calls Try.prog 12 #[.agg #[.slice p v.length c], .slice q ts.length d] w (GivesLL w (pickL v ts) (pickT v ts) (pickE v ts)) := by
  obtain ⟨W0, hW0⟩ : ∃ W0, w.alloc (.cells #[.slice p v.length c] 24) = W0 := ⟨_, rfl⟩
  have hB : Below w.heap.size w W0 := below_alloc hW0
  have bX : BoxV W0 w.heap.size [.slice p v.length c] := BoxV.new rfl hW0
  have mX := hx.below hB (Nat.le_refl _)
  have mT := hy.below hB (Nat.le_refl _)
  have x0 := bX.cell 0 _ rfl
  have HW0 := Lib.hid hW0
  clear hW0 hx hy
  have hl1 := mX.length_le
  have hl2 := mT.length_le
  go_enter Try.func12, Try.ntmps12
  go_wp2_with fail
  rw [HW0.out]
  refine (goodsCheck_any p c v _ mX).mono ?_
  rintro e w1 ⟨rfl, hb1⟩
  clear x0
  have x0 := (bX.below hb1).cell 0 _ rfl
  by_cases hG : chkG v = 0
  · have hgz : (chkG v != 0) = false := by rw [hG]; rfl
    have HG := Lib.hid hG
    clear hG
    go_wp2_with fail
    refine (robinCheck_any v.length q d ts _ (mT.below hb1 (Nat.le_refl _))).mono ?_
    rintro e w2 ⟨rfl, hb⟩
    have hb2 := hb1.trans (hb.mono hb1.size)
    clear x0 hb hb1
    have x0 := (bX.below hb2).cell 0 _ rfl
    by_cases hT : chkT v.length ts = 0
    · have htz : (chkT v.length ts != 0) = false := by rw [hT]; rfl
      have HT := Lib.hid hT
      have HP := Lib.hid (picks_of HG.out hT)
      have HE : Hid (pickE v ts = 0) := (pickE_ok HG.out).trans HT.out
      clear hT
      obtain ⟨b, o, rfl, _, _⟩ := mX.get (j := 0) HP.out.n1
      obtain ⟨q0, d0, hc0, hi0⟩ := (mX.below hb2 (Nat.le_refl _)).at (j := 0) HP.out.n1
      rw [Nat.add_zero] at hc0
      obtain ⟨m, hm⟩ : ∃ m, wid v = m := ⟨_, rfl⟩
      have hm0 : (rget v 0).length = m := hm
      rw [hm0] at hc0
      have Hm := Lib.hid hm
      have hm10 : m ≤ 10 := by have := HP.out.m10; omega
      have hv1 : (0 : Int) < v.length := by have := HP.out.n1; omega
      clear hm hm0 hi0
      have hI1 := ints_one w2 (x := -1) ⟨by omega, by omega⟩ 3
      have hBa : Below w2.heap.size w2 (w2.alloc (.cells #[.int .i64 (-1)] 3)) := (Below.refl _ _).alloc (Nat.le_refl _) _
      have hc0' : (w2.alloc (.cells #[.int .i64 (-1)] 3)).cell? ⟨b, o, none⟩ = _ := (hBa.cell (p := ⟨b, o, none⟩) (World.block_lt_of_cell? _ _ hc0)).trans hc0
      have x0' : (w2.alloc (.cells #[.int .i64 (-1)] 3)).cell? ⟨w.heap.size, 0, none⟩ = _ := (hBa.cell (p := ⟨w.heap.size, 0, none⟩) (World.block_lt_of_cell? _ _ x0)).trans x0
      go_wp2_with fail
      refine (repeat1_any _ _ (-1) m _ hI1 (by omega) ⟨by omega, by omega⟩).mono ?_
      rintro e w3 ⟨g, c1, rfl, hO, hb'⟩
      have hb := hBa.trans (hb'.mono hBa.size)
      have hb3 := hb2.trans (hb.mono hb2.size)
      have hgs := hO.lt g rfl
      have hwg : W0.heap.size ≤ g := by have := hBa.size; have := hb2.size; omega
      replace hO := hO.lower (base' := W0.heap.size) (by have := hBa.size; have := hb2.size; omega)
      clear x0 x0' hc0 hc0' hI1 hb hb' hBa hb2
      obtain ⟨G, hG⟩ : ∃ G, w3.heap.size = G := ⟨_, rfl⟩
      have HGs := Lib.hid hG
      have hgG : g < G := by rw [← hG]; exact hgs.2
      have hWG : W0.heap.size ≤ G := by omega
      clear hG hgs
      have hO0 : Own w3 W0.heap.size (some ⟨g, 0, none⟩) c1 (pkA v ts 0) := by
        unfold pkA; rw [Hm.out]; exact hO
      clear hO
      go_wp2_with fail
      go_loopw [5, 36] (fun s i wr => ∃ k : Nat, k ≤ ts.length ∧ i = .int .i64 k ∧ (∃ zs pz cz, Hid (zs = pkT v ts k) ∧ s = .slice pz (zs : List Int).length cz ∧ Own wr G pz cz zs) ∧ Own wr W0.heap.size (some ⟨g, 0, none⟩) c1 (pkA v ts k) ∧ Below W0.heap.size W0 wr ∧ G ≤ wr.heap.size) (fun _ i _ => ts.length - (intOf i).toNat)
      case atStart => exact ⟨0, by omega, rfl, ⟨[], none, 0, rfl, rfl, Own.ofNil _ _⟩, hO0, hb3, by rw [HGs.out]; exact Nat.le_refl _⟩
      case round =>
        clear hO0 hb3
        obtain ⟨k, hk, rfl, ⟨zs, pz, cz, hzz, rfl, hZ⟩, hO, hBr, hGw⟩ := hrel
        have hTr := mT.below hBr (Nat.le_refl _)
        by_cases hkl : k < ts.length
        · have hk1 : (k : Int) < ts.length := by omega
          obtain ⟨i, hti, hiv⟩ := HP.out.turn k hkl
          have hXr := mX.below hBr (Nat.le_refl _)
          obtain ⟨bt, ot, rfl, hbt, hct⟩ := hTr.get hkl
          rw [hti] at hct
          have Hti := Lib.hid hti
          obtain ⟨qi, di, hci, hri⟩ := hXr.at hiv
          have hrow : (rget v i).length = m := (HP.out.row i hiv).trans Hm.out
          have hiv1 : (i : Int) < v.length := by omega
          obtain ⟨A, hA⟩ : ∃ A, pkA v ts k = A := ⟨_, rfl⟩
          have hAl : A.length = m := by rw [← hA, pkA_len]; exact Hm.out
          rw [hA] at hO
          have HA := Lib.hid hA
          have HAl := Lib.hid hAl
          have Hrow := Lib.hid hrow
          rw [hrow] at hci
          have x0 := (bX.below hBr).cell 0 _ rfl
          clear hA hAl hrow hti hTr hXr
          go_wp2_with fail
          obtain ⟨wo, rfl⟩ : ∃ wo : World, wo = wr := ⟨_, rfl⟩
          go_loopw [11, 42] (fun s j wk => ∃ n : Nat, n ≤ m ∧ j = .int .i64 n ∧ s = .int .i64 (pickTo (rget v i) A n) ∧ ∃ N, wk = wo.drewN N) (fun _ j _ => m - (intOf j).toNat)
          case atStart => exact ⟨0, by omega, rfl, rfl, drew_refl _⟩
          case round =>
            obtain ⟨n, hn, rfl, rfl, hN⟩ := hrel
            have hpr := pickTo_range (rget v i) A n
            by_cases hnm : n < m
            · have hn1 : (n : Int) < m := by omega
              obtain ⟨g', hg', _, _, hcA, _⟩ := (hO.drew hN).get (j := n) (by rw [HAl.out]; exact hnm)
              obtain rfl : g = g' := by simpa using hg'
              clear hg'
              obtain ⟨N, rfl⟩ := hN
              by_cases how : iget A n < 0
              · have hdo : decide (iget A n < 0) = true := by simpa using how
                by_cases hbest : pickTo (rget v i) A n < 0
                · have hdb : decide (pickTo (rget v i) A n < 0) = true := by simpa using hbest
                  have HS := Lib.hid (pickTo_yes how (.inl hbest))
                  clear how hbest
                  go_wp2_with fail
                  go_quiet (fail)
                  go_wp2_with fail
                  go_roundw
                  case rel => exact ⟨n + 1, by omega, by go_num, by rw [HS.out], (by first | exact ⟨_, rfl⟩ | exact ⟨_, World.drewN_drewN _ _ _⟩)⟩
                  case measure => simp [intOf]; omega
                · have hdb : decide (pickTo (rget v i) A n < 0) = false := by simpa using hbest
                  obtain ⟨x, hx⟩ : ∃ x : Nat, pickTo (rget v i) A n = x := ⟨(pickTo (rget v i) A n).toNat, by omega⟩
                  have hxn : x < n := by omega
                  have hxm : (x : Int) < m := by omega
                  have hx0 : (0 : Int) ≤ x := by omega
                  obtain ⟨b2, o2, rfl, _, hcx⟩ := hri.get (j := x) (by rw [Hrow.out]; omega)
                  have hcn := hri.at (j := n) (by rw [Hrow.out]; omega)
                  rw [hx] at hdb
                  by_cases hgt : iget (rget v i) x < iget (rget v i) n
                  · have hdg : decide (iget (rget v i) x < iget (rget v i) n) = true := by simpa using hgt
                    have HS := Lib.hid (pickTo_yes how (.inr (by rw [hx, Int.toNat_natCast]; exact hgt)))
                    rw [hx]
                    have Hx := Lib.hid hx
                    clear how hbest hx hgt hpr
                    go_wp2_with fail
                    go_quiet (fail)
                    go_wp2_with fail
                    go_roundw
                    case rel => exact ⟨n + 1, by omega, by go_num, by rw [HS.out], (by first | exact ⟨_, rfl⟩ | exact ⟨_, World.drewN_drewN _ _ _⟩)⟩
                    case measure => simp [intOf]; omega
                  · have hdg : decide (iget (rget v i) x < iget (rget v i) n) = false := by simpa using hgt
                    have HS := Lib.hid (pickTo_no (r := rget v i) (a := A) (k := n) (fun h => by
                      rcases h.2 with h2 | h2
                      · exact hbest h2
                      · rw [hx, Int.toNat_natCast] at h2; exact hgt h2))
                    rw [hx]
                    have Hx := Lib.hid hx
                    clear how hbest hx hgt hpr
                    go_wp2_with fail
                    go_quiet (fail)
                    go_wp2_with fail
                    go_roundw
                    case rel => exact ⟨n + 1, by omega, by go_num, by rw [HS.out, Hx.out], (by first | exact ⟨_, rfl⟩ | exact ⟨_, World.drewN_drewN _ _ _⟩)⟩
                    case measure => simp [intOf]; omega
              · have hdo : decide (iget A n < 0) = false := by simpa using how
                have HS := Lib.hid (pickTo_no (r := rget v i) (a := A) (k := n) (fun h => how h.1))
                clear how
                go_wp2_with fail
                go_quiet (fail)
                go_wp2_with fail
                go_roundw
                case rel => exact ⟨n + 1, by omega, by go_num, by rw [HS.out], (by first | exact ⟨_, rfl⟩ | exact ⟨_, World.drewN_drewN _ _ _⟩)⟩
                case measure => simp [intOf]; omega
            · have hn1 : ¬ (n : Int) < m := by omega
              obtain rfl : n = m := by omega
              have hP : pick (rget v i) A = pickTo (rget v i) A n := by unfold pick; rw [HAl.out]
              obtain ⟨y, hy⟩ : ∃ y, pickTo (rget v i) A n = y := ⟨_, rfl⟩
              rw [hy] at hpr hP ⊢
              have HTk : Hid (pkT v ts (k + 1) = zs ++ [y]) := by unfold Hid; rw [pkT, ← hzz.out, HA.out, Hti.out, Int.toNat_natCast, hP]
              have HAk : Hid (pkA v ts (k + 1) = if 0 ≤ y then A.set y.toNat i else A) := by unfold Hid; rw [pkA, stepA, HA.out, Hti.out, Int.toNat_natCast, hP]
              have hyr : in64 y := ⟨by omega, by omega⟩
              have hzl : zs.length ≤ 900000 := by rw [hzz.out, pkT_len]; have := HP.out.few; omega
              clear hy hP x0 hci hct hri
              obtain ⟨hO', hZ', hB', hGw'⟩ : Own wr W0.heap.size (some ⟨g, 0, none⟩) c1 A ∧ Own wr G pz cz zs ∧ Below W0.heap.size W0 wr ∧ G ≤ wr.heap.size := by
                obtain ⟨N, rfl⟩ := hN
                exact ⟨hO.drewN N, hZ.drewN N, hBr.drewN' N, hGw⟩
              clear hN hO hZ hBr hGw
              have hzg : blk pz ≠ some g := fun e => by have := (hZ'.lt g e).1; omega
              by_cases h0 : 0 ≤ y
              · obtain ⟨x, rfl⟩ : ∃ x : Nat, y = x := ⟨y.toNat, by omega⟩
                have hxm : (x : Int) < n := by omega
                have hx0 : (0 : Int) ≤ x := by omega
                have hyr := Lib.hid hyr
                unfold Hid at HAk
                rw [if_pos h0, Int.toNat_natCast] at HAk
                have HAk := Lib.hid HAk
                obtain ⟨g', hg', _, _, hcA, hfA⟩ := hO'.get (j := x) (by rw [HAl.out]; omega)
                obtain rfl : g = g' := by simpa using hg'
                clear hg' h0
                have HO2 := Lib.hid (hO'.set x (x := i) ⟨by omega, by omega⟩).1
                have HZ2 := Lib.hid (hZ'.beside (x := x) (u := .int .i64 i) hzg)
                have HB2 := Lib.hid (hB'.setCell (p := ⟨g, x, none⟩) hwg (.int .i64 i))
                have hG2 : G ≤ (wr.setCell ⟨g, x, none⟩ (.int .i64 i)).heap.size := by simpa [World.setCell] using hGw'
                have hsz2 : (wr.setCell ⟨g, x, none⟩ (.int .i64 i)).heap.size = wr.heap.size := by simp [World.setCell]
                have Hsz2 := Lib.hid hsz2
                clear hO' hZ' hB' hsz2
                go_wp2_with (at_builtin; refine wpList_app1 rfl (.tmp 80) (.tmp 82) rfl G _ _ zs x rfl rfl Hsz2.out HZ2.out hyr.out hzl hG2 ?_; intro p2 c2 w2 r2 hr2 hO3 hg3 hf3)
                have hpb : ∀ k', blk pz = some k' → G ≤ k' ∧ k' < (wr.setCell ⟨g, x, none⟩ (.int .i64 i)).heap.size := HZ2.out.lt
                go_roundw
                case rel => exact ⟨k + 1, by omega, by go_num, ⟨r2, p2, c2, by unfold Hid; rw [hr2.out, HTk.out], rfl, hO3⟩, by rw [HAk.out]; exact HO2.out.keptBy hg3 (fun k' e => by simp [blk] at e; subst e; exact hzg), below_grown HB2.out hg3 (by omega) hpb hWG, Nat.le_trans hG2 hg3.size⟩
                case measure => simp [intOf]; omega
              · have hd0 : decide (0 ≤ y) = false := by simpa using h0
                unfold Hid at HAk
                rw [if_neg h0] at HAk
                have HAk := Lib.hid HAk
                have hZ2 := Lib.hid hZ'
                have hyr := Lib.hid hyr
                clear h0
                go_wp2_with (at_builtin; refine wpList_app1 rfl (.tmp 80) (.tmp 82) rfl G _ _ zs y rfl rfl rfl hZ2.out hyr.out hzl hGw' ?_; intro p2 c2 w2 r2 hr2 hO3 hg3 hf3)
                go_roundw
                case rel => exact ⟨k + 1, by omega, by go_num, ⟨r2, p2, c2, by unfold Hid; rw [hr2.out, HTk.out], rfl, hO3⟩, by rw [HAk.out]; exact hO'.keptBy hg3 (fun k' e => by simp [blk] at e; subst e; exact hzg), below_grown hB' hg3 (by omega) hZ2.out.lt hWG, Nat.le_trans hGw' hg3.size⟩
                case measure => simp [intOf]; omega
        · have hk1 : ¬ (k : Int) < ts.length := by omega
          obtain rfl : k = ts.length := by omega
          have HL : Hid (pickL v ts = pkA v ts ts.length) := by unfold Hid pickL; rw [if_pos HE.out]
          have HLT : Hid (pickT v ts = zs) := by unfold Hid pickT; rw [if_pos HE.out, hzz.out]
          have hAl : Hid ((pkA v ts ts.length).length = m) := by unfold Hid; rw [pkA_len]; exact Hm.out
          go_wp2_with fail
          go_ret3
          rw [HL.out, HLT.out, HE.out]
          exact ⟨some ⟨g, 0, none⟩, c1, pz, cz, by rw [hAl.out]; rfl, hO.lower hB.size, hZ.lower (by have := hB.size; omega), hB.trans (hBr.mono hB.size)⟩
    · have htz : (chkT v.length ts != 0) = true := by rw [bne_iff_ne]; exact hT
      have HE : Hid (pickE v ts = chkT v.length ts) := pickE_ok HG.out
      have HL : Hid (pickL v ts = []) := by unfold Hid pickL; rw [HE.out, if_neg hT]
      have HLT : Hid (pickT v ts = []) := by unfold Hid pickT; rw [HE.out, if_neg hT]
      clear hT
      go_wp2_with fail
      go_ret3
      rw [HL.out, HLT.out, HE.out]
      exact ⟨none, 0, none, 0, rfl, Own.ofNil _ _, Own.ofNil _ _, hB.trans (hb2.mono hB.size)⟩
  · have hgz : (chkG v != 0) = true := by rw [bne_iff_ne]; exact hG
    have HE : Hid (pickE v ts = chkG v) := pickE_bad hG
    have HL : Hid (pickL v ts = []) := by unfold Hid pickL; rw [HE.out, if_neg hG]
    have HLT : Hid (pickT v ts = []) := by unfold Hid pickT; rw [HE.out, if_neg hG]
    clear hG
    go_wp2_with fail
    go_ret3
    rw [HL.out, HLT.out, HE.out]
    exact ⟨none, 0, none, 0, rfl, Own.ofNil _ _, Own.ofNil _ _, hB.trans (hb1.mono hB.size)⟩
end Go.Proofs.Ytfagapcihacgkaa
