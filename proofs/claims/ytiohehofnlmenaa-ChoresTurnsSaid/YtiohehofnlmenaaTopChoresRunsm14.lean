/- The walks of the reference's none and Pick, for every chores and turns; no condition. -/
import Derived.Test.YtiohehofnlmenaaTopChoresRunsm13
import Derived.Test.YtiohehofnlmenaaTopChoresRunsm12
import Derived.Test.YtiohehofnlmenaaTopChoresRunsm9
import Derived.Test.YtiohehofnlmenaaTopChoresRunsm5
/- The walks of the reference's none and Pick, for every chores and turns; no condition. -/
namespace Go.Proofs.Ytiohehofnlmenaa
set_option linter.unusedVariables false
set_option linter.unusedSimpArgs false
open Go.ChangeShapes Go.WideShapes Go.ChangeAt Go.RowKit Go.Deep

def fillTo (m k : Nat) : List Int := (List.range m).map fun (j : Nat) => if j < k then -1 else 0
theorem fillTo_len (m k : Nat) : (fillTo m k).length = m := by simp [fillTo]
theorem fillTo_get {m k j : Nat} (h : j < m) : iget (fillTo m k) j = if j < k then -1 else 0 := by simp [fillTo, iget, h]
theorem fillTo_zero (m : Nat) : fillTo m 0 = List.replicate m 0 := by
  apply ext_iget
  · simp [fillTo]
  · intro k hk
    rw [fillTo_len] at hk
    rw [fillTo_get hk]; simp [iget, List.getD, hk]
theorem fillTo_full (m : Nat) : fillTo m m = List.replicate m (-1) := by
  apply ext_iget
  · simp [fillTo]
  · intro k hk
    rw [fillTo_len] at hk
    rw [fillTo_get hk, if_pos hk]; simp [iget, List.getD, hk]
theorem fillTo_set {m k : Nat} (h : k < m) : (fillTo m k).set k (-1) = fillTo m (k + 1) := by
  apply ext_iget
  · simp [fillTo]
  · intro j hj
    rw [List.length_set, fillTo_len] at hj
    rw [iget_set (by rw [fillTo_len]; exact h), fillTo_get hj, fillTo_get hj]
    by_cases e : k = j
    · subst e; simp
    · rw [if_neg e]
      by_cases e2 : j < k
      · rw [if_pos e2, if_pos (by omega)]
      · rw [if_neg e2, if_neg (by omega)]

set_option maxHeartbeats 4000000 in
set_option maxRecDepth 100000 in
theorem none24_any (p : Option Addr) (c : Nat) (v : List (List Int)) (w : World) (hx : Mat w p c v) (h0 : 0 < v.length) (h10 : wid v ≤ 10) :
    Calls Try.prog 52 #[.agg #[.slice p v.length c]] w fun e w' => ∃ g c', e = .returned (.slice (some ⟨g, 0, none⟩) (wid v) c') ∧ Own w' w.heap.size (some ⟨g, 0, none⟩) c' (List.replicate (wid v) (-1)) ∧ Below w.heap.size w w' := by
  obtain ⟨W0, hW0⟩ : ∃ W0, w.alloc (.cells #[.slice p v.length c] 24) = W0 := ⟨_, rfl⟩
  have hB : Below w.heap.size w W0 := below_alloc hW0
  have bX : BoxV W0 w.heap.size [.slice p v.length c] := BoxV.new rfl hW0
  have x0 := bX.cell 0 _ rfl
  have HW0 := Lib.hid hW0
  clear hW0
  have hl1 := hx.length_le
  obtain ⟨b, o, rfl, _, q0, d0, hc0, hi0⟩ := (hx.below hB (Nat.le_refl _)).get (j := 0) h0
  rw [Nat.add_zero] at hc0
  obtain ⟨m, hm⟩ : ∃ m, wid v = m := ⟨_, rfl⟩
  have hm0 : (rget v 0).length = m := hm
  rw [hm0] at hc0
  rw [hm] at h10 ⊢
  have hv1 : (0 : Int) < v.length := by omega
  have hm00 : (0 : Int) ≤ m := by omega
  clear hm hm0 hi0 hx
  have hsz := hB.size
  go_enter Try.func52, Try.ntmps52
  have x0' : (w.alloc (.cells #[.slice (some ⟨b, o, none⟩) v.length c] 24)).cell? ⟨w.heap.size, 0, none⟩ = some (.slice (some ⟨b, o, none⟩) v.length c) := by rw [HW0.out]; exact x0
  have hc0' : (w.alloc (.cells #[.slice (some ⟨b, o, none⟩) v.length c] 24)).cell? ⟨b, o, none⟩ = some (.slice q0 m d0) := by rw [HW0.out]; exact hc0
  go_wp2_with (at_make; rw [HW0.out]; refine wpList_mk rfl (.tmp 9) (.tmp 9) rfl w.heap.size m rfl rfl (by omega) hsz ?_; intro w2 hO2 hg2 hs2)
  obtain ⟨g, hg⟩ : ∃ g, W0.heap.size = g := ⟨_, rfl⟩
  rw [hg] at hO2 ⊢
  have hB2 : Below w.heap.size w w2 := hB.grown hg2 hsz (fun k' e => by cases e)
  rw [← fillTo_zero] at hO2
  have hwg : w.heap.size ≤ g := by omega
  have Hst := Lib.hid (fun k h => fillTo_set (m := m) (k := k) h)
  have Hful := Lib.hid (fillTo_full m)
  have Hlen := Lib.hid (fun k => fillTo_len m k)
  clear hg hg2 hs2
  go_wp2_with fail
  go_loopw [4] (fun i wr => ∃ k : Nat, k ≤ m ∧ i = .int .i64 k ∧ Own wr w.heap.size (some ⟨g, 0, none⟩) m (fillTo m k) ∧ Below w.heap.size w wr) (fun i _ => m - (intOf i).toNat)
  case atStart => exact ⟨0, by omega, rfl, hO2, hB2⟩
  case round =>
    obtain ⟨k, hk, rfl, hO, hbr⟩ := hrel
    by_cases hlt : k < m
    · have hk1 : (k : Int) < m := by omega
      obtain ⟨g', hg', _, _, hcA, hfA⟩ := hO.get (j := k) (by rw [Hlen.out]; exact hlt)
      obtain rfl : g = g' := by simpa using hg'
      clear hg'
      have HO := hO.set k (x := -1) ⟨by omega, by omega⟩
      rw [Hst.out k hlt] at HO
      have HO2 := Lib.hid HO.1
      have HB := Lib.hid (hbr.setCell (p := ⟨g, k, none⟩) (by simp only; omega) (.int .i64 (-1)))
      clear HO hO hbr
      go_wp2_with fail
      go_roundw
      case rel => exact ⟨k + 1, by omega, by go_num, HO2.out, HB.out⟩
      case measure => (simp [intOf] <;> omega)
    · have hk1 : ¬ (k : Int) < m := by omega
      obtain rfl : k = m := by omega
      rw [Hful.out] at hO
      go_wp2_with fail
      go_ret
      exact ⟨g, k, rfl, hO, hbr⟩

set_option maxHeartbeats 8000000 in
set_option maxRecDepth 100000 in
theorem ref24Pick_any (p q : Option Addr) (c d : Nat) (v : List (List Int)) (ts : List Int) (w : World) (hx : Mat w p c v) (hy : Ints w q d ts) :
    Calls Try.prog 25 #[.agg #[.slice p v.length c], .slice q ts.length d] w (GivesLL w (cpickL v ts) (cpickT v ts) (pickE v ts)) := by
  obtain ⟨W0, hW0⟩ : ∃ W0, w.alloc (.cells #[.slice p v.length c] 24) = W0 := ⟨_, rfl⟩
  have hB : Below w.heap.size w W0 := below_alloc hW0
  have bX : BoxV W0 w.heap.size [.slice p v.length c] := BoxV.new rfl hW0
  have mX := hx.below hB (Nat.le_refl _)
  have mT := hy.below hB (Nat.le_refl _)
  have x0 := bX.cell 0 _ rfl
  have HW0 := Lib.hid hW0
  clear hW0 hx hy
  have hl1 := mX.length_le
  have hl2 := mT.length_le
  go_enter Try.func25, Try.ntmps25
  go_wp2_with fail
  rw [HW0.out]
  refine (ref16Check_any p c v _ mX).mono ?_
  rintro e w1 ⟨rfl, hb1⟩
  clear x0
  have x0 := (bX.below hb1).cell 0 _ rfl
  by_cases hG : chkG v = 0
  · have hgz : (chkG v != 0) = false := by rw [hG]; rfl
    have HG := Lib.hid hG
    clear hG
    go_wp2_with fail
    refine (ref18Check_any v.length q d ts _ (mT.below hb1 (Nat.le_refl _))).mono ?_
    rintro e w2 ⟨rfl, rfl⟩
    by_cases hT : chkT v.length ts = 0
    · have htz : (chkT v.length ts != 0) = false := by rw [hT]; rfl
      have HT := Lib.hid hT
      have HP := Lib.hid (picks_of HG.out hT)
      have HE : Hid (pickE v ts = 0) := (pickE_ok HG.out).trans HT.out
      have HN := Lib.hid (none24_any p c v _ (mX.below hb1 (Nat.le_refl _)) HP.out.n1 HP.out.m10)
      clear hT
      go_wp2_with fail
      refine HN.out.mono ?_
      rintro e w3 ⟨g, c1, rfl, hO, hb3⟩
      obtain ⟨m, hm⟩ : ∃ m, wid v = m := ⟨_, rfl⟩
      rw [hm] at hO ⊢
      have Hm := Lib.hid hm
      have hm10 : m ≤ 10 := by have := HP.out.m10; omega
      have hgs := hO.lt g rfl
      have hb13 := hb1.trans (hb3.mono hb1.size)
      have hwg : W0.heap.size ≤ g := by have := hb1.size; omega
      replace hO := hO.lower (base' := W0.heap.size) hb1.size
      obtain ⟨G, hGe⟩ : ∃ G, w3.heap.size = G := ⟨_, rfl⟩
      have HGs := Lib.hid hGe
      have hgG : g < G := by omega
      have hO0 : Hid (Own w3 W0.heap.size (some ⟨g, 0, none⟩) c1 (cpA v ts 0)) := by
        unfold Hid cpA; rw [Hm.out]; exact hO
      have hWG : W0.heap.size ≤ G := by omega
      clear hm hO hgs hGe HN x0 hb3
      go_wp2_with fail
      go_loopw [8, 9] (fun s i wr => ∃ k : Nat, k ≤ ts.length ∧ i = .int .i64 k ∧ (∃ zs pz cz, Hid (zs = cpT v ts k) ∧ s = .slice pz (zs : List Int).length cz ∧ Own wr G pz cz zs) ∧ Own wr W0.heap.size (some ⟨g, 0, none⟩) c1 (cpA v ts k) ∧ Below W0.heap.size W0 wr ∧ G ≤ wr.heap.size) (fun _ i _ => ts.length - (intOf i).toNat)
      case atStart => exact ⟨0, by omega, rfl, ⟨[], none, 0, rfl, rfl, Own.ofNil _ _⟩, hO0.out, hb13, by rw [HGs.out]; exact Nat.le_refl _⟩
      case round =>
        clear hO0 hb13 hb1
        obtain ⟨k, hk, rfl, ⟨zs, pz, cz, hzz, rfl, hZ⟩, hO, hBr, hGw⟩ := hrel
        by_cases hkl : k < ts.length
        · have hk1 : (k : Int) < ts.length := by omega
          obtain ⟨i, hti, hiv⟩ := HP.out.turn k hkl
          have hrow : (rget v i).length = m := (HP.out.row i hiv).trans Hm.out
          have hiv1 : (i : Int) < v.length := by omega
          obtain ⟨A, hA⟩ : ∃ A, cpA v ts k = A := ⟨_, rfl⟩
          have hAl : A.length = m := by rw [← hA, cpA_len]; exact Hm.out
          rw [hA] at hO
          have HA := Lib.hid hA
          have HAl := Lib.hid hAl
          have Hrow := Lib.hid hrow
          have Hti := Lib.hid hti
          have Hst : Hid (∀ j, backTo (rget v i) (freeP A) m (j + 1) = if freeP A (m - 1 - j) = true ∧ (backTo (rget v i) (freeP A) m j < 0 ∨ iget (rget v i) (m - 1 - j) ≤ iget (rget v i) (backTo (rget v i) (freeP A) m j).toNat) then ((m - 1 - j : Nat) : Int) else backTo (rget v i) (freeP A) m j) := fun j => rfl
          have Hrg := Lib.hid (fun j (h : j ≤ m) => backTo_range (rget v i) (freeP A) m h)
          have Hb0 : Hid (backTo (rget v i) (freeP A) m 0 = -1) := rfl
          have HF : Hid (∀ j, freeP A j = decide (iget A j < 0)) := fun j => rfl
          have HZ := Lib.hid hZ
          clear hA hAl hrow hti hZ
          obtain ⟨wo, hwo⟩ : ∃ wo : World, wo = wr := ⟨_, rfl⟩
          rw [← hwo] at hO HZ hBr hGw ⊢
          clear hwo
          go_wp2_with fail
          go_loopw [10, 11] (fun s t wk => ∃ j : Nat, j ≤ m ∧ t = .int .i64 ((m : Int) - 1 - j) ∧ s = .int .i64 (backTo (rget v i) (freeP A) m j) ∧ ∃ N, wk = wo.drewN N) (fun _ t _ => (intOf t + 1).toNat)
          case atStart => exact ⟨0, by omega, by (congr 1; omega), by rw [Hb0.out], drew_refl _⟩
          case round =>
            obtain ⟨j, hj, rfl, rfl, hN⟩ := hrel
            have hpr := Hrg.out j hj
            by_cases hjm : j < m
            · obtain ⟨n, hn⟩ : ∃ n : Nat, m - 1 - j = n := ⟨_, rfl⟩
              have hni : (m : Int) - 1 - j = n := by omega
              have hnm : n < m := by omega
              have hn1 : (n : Int) < m := by omega
              have hn0 : (0 : Int) ≤ n := by omega
              have hS := Hst.out j
              rw [hn, HF.out] at hS
              rw [hni]
              obtain ⟨B, eB⟩ : ∃ B, backTo (rget v i) (freeP A) m j = B := ⟨_, rfl⟩
              rw [eB] at hS hpr ⊢
              obtain ⟨g', hg', _, _, hcA, _⟩ := (hO.drew hN).get (j := n) (by rw [HAl.out]; exact hnm)
              obtain rfl : g = g' := by simpa using hg'
              have HS := Lib.hid hS
              have Hn := Lib.hid hn
              have Hni := Lib.hid hni
              obtain ⟨Z, hZz⟩ : ∃ Z, iget A n = Z := ⟨_, rfl⟩
              rw [hZz] at hcA HS
              clear hg' eB hS hn hni hZz
              by_cases how : Z < 0
              · have hdo : decide (Z < 0) = true := by simpa using how
                have HS2 := Lib.hid HS.out
                by_cases hbest : B < 0
                · have hdb : decide (B < 0) = true := by simpa using hbest
                  have HR : Hid (backTo (rget v i) (freeP A) m (j + 1) = n) := by unfold Hid; rw [HS.out, if_pos ⟨hdo, .inl hbest⟩]
                  have HN := Lib.hid hN
                  clear how hbest HS HS2 hN
                  go_wp2_with fail
                  go_quiet (fail)
                  go_wp2_with fail
                  go_roundw
                  case rel => exact ⟨j + 1, by omega, by have := Hni.out; first | (congr 1; omega) | go_num, by rw [HR.out], drew_drewN _ HN.out⟩
                  case measure => have := Hni.out; (simp [intOf] <;> omega)
                · have hdb : decide (B < 0) = false := by simpa using hbest
                  obtain ⟨x, rfl⟩ : ∃ x : Nat, B = x := ⟨B.toNat, by omega⟩
                  have hxm : (x : Int) < m := by omega
                  have hx0 : (0 : Int) ≤ x := by omega
                  have hBn := hBr.drewP hN
                  have x0 := (bX.below hBn).cell 0 _ rfl
                  obtain ⟨b, o, rfl, _, qi, di, hci, hri⟩ := (mX.below hBn (Nat.le_refl _)).get hiv
                  obtain ⟨bt, ot, rfl, hbt, hct⟩ := (mT.below hBn (Nat.le_refl _)).get hkl
                  rw [Hti.out] at hct
                  rw [Hrow.out] at hci
                  obtain ⟨b2, o2, rfl, _, hcx⟩ := hri.get (j := x) (by rw [Hrow.out]; omega)
                  have hcn := hri.at (j := n) (by rw [Hrow.out]; omega)
                  have HS2 := HS.out
                  rw [Int.toNat_natCast] at HS2
                  obtain ⟨X, eX⟩ : ∃ X, iget (rget v i) x = X := ⟨_, rfl⟩
                  obtain ⟨Y, eY⟩ : ∃ Y, iget (rget v i) n = Y := ⟨_, rfl⟩
                  rw [eX] at hcx HS2
                  rw [eY] at hcn HS2
                  have HN := Lib.hid hN
                  by_cases hgt : Y ≤ X
                  · have hdg : decide (Y ≤ X) = true := by simpa using hgt
                    have HR : Hid (backTo (rget v i) (freeP A) m (j + 1) = n) := by unfold Hid; rw [HS2, if_pos ⟨hdo, .inr hgt⟩]
                    clear how hbest HS HS2 hN eX eY hgt hri
                    go_wp2_with fail
                    go_quiet (fail)
                    go_wp2_with fail
                    go_roundw
                    case rel => exact ⟨j + 1, by omega, by have := Hni.out; first | (congr 1; omega) | go_num, by rw [HR.out], drew_drewN _ HN.out⟩
                    case measure => have := Hni.out; (simp [intOf] <;> omega)
                  · have hdg : decide (Y ≤ X) = false := by simpa using hgt
                    have HR : Hid (backTo (rget v i) (freeP A) m (j + 1) = x) := by unfold Hid; rw [HS2, if_neg (fun h => by rcases h.2 with h | h; exact hbest h; exact hgt h)]
                    clear how hbest HS HS2 hN eX eY hgt hri
                    go_wp2_with fail
                    go_quiet (fail)
                    go_wp2_with fail
                    go_roundw
                    case rel => exact ⟨j + 1, by omega, by have := Hni.out; first | (congr 1; omega) | go_num, by rw [HR.out], drew_drewN _ HN.out⟩
                    case measure => have := Hni.out; (simp [intOf] <;> omega)
              · have hdo : decide (Z < 0) = false := by simpa using how
                have HR : Hid (backTo (rget v i) (freeP A) m (j + 1) = B) := by unfold Hid; rw [HS.out, if_neg (fun h => how (by simpa using h.1))]
                have HN := Lib.hid hN
                clear how HS hN
                go_wp2_with fail
                go_quiet (fail)
                go_wp2_with fail
                go_roundw
                case rel => exact ⟨j + 1, by omega, by have := Hni.out; first | (congr 1; omega) | go_num, by rw [HR.out], drew_drewN _ HN.out⟩
                case measure => have := Hni.out; (simp [intOf] <;> omega)
            · obtain rfl : j = m := by omega
              have hm0 : ((j : Int) - 1 - j) = -1 := by omega
              rw [hm0]
              have hfull : backTo (rget v i) (freeP A) j j = cpick (rget v i) A := by rw [backTo_full]; unfold cpick; rw [HAl.out]
              rw [hfull] at hpr ⊢
              obtain ⟨y, hyy⟩ : ∃ y, cpick (rget v i) A = y := ⟨_, rfl⟩
              rw [hyy] at hpr ⊢
              have HTk : Hid (cpT v ts (k + 1) = zs ++ [y]) := by unfold Hid; rw [cpT, ← hzz.out, HA.out, Hti.out, Int.toNat_natCast, hyy]
              have HAk : Hid (cpA v ts (k + 1) = if 0 ≤ y then A.set y.toNat i else A) := by unfold Hid; rw [cpA, cstep, HA.out, Hti.out, Int.toNat_natCast, hyy]
              have hyr : in64 y := ⟨by omega, by omega⟩
              have hzl : zs.length ≤ 900000 := by rw [hzz.out, cpT_len]; have := HP.out.few; omega
              have hO' := hO.drew hN
              have hZ' := HZ.out.drew hN
              have hB' := hBr.drewP hN
              have hGw' : G ≤ wr.heap.size := by obtain ⟨N, rfl⟩ := hN; exact hGw
              clear hN hO HZ hBr hGw hyy hfull hm0
              have hzg : blk pz ≠ some g := fun e => by have := (hZ'.lt g e).1; omega
              by_cases h0 : 0 ≤ y
              · obtain ⟨x, rfl⟩ : ∃ x : Nat, y = x := ⟨y.toNat, by omega⟩
                have hxm : (x : Int) < j := by omega
                have hx0 : (0 : Int) ≤ x := by omega
                have hyr := Lib.hid hyr
                unfold Hid at HAk
                rw [if_pos h0, Int.toNat_natCast] at HAk
                have HAk := Lib.hid HAk
                obtain ⟨g', hg', _, _, hcA, hfA⟩ := hO'.get (j := x) (by rw [HAl.out]; omega)
                obtain rfl : g = g' := by simpa using hg'
                obtain ⟨bt, ot, rfl, hbt, hct⟩ := (mT.below hB' (Nat.le_refl _)).get hkl
                have Hti2 := Hti.out
                rw [Hti2] at hct
                clear hg' h0 Hti2
                have HO2 := Lib.hid (hO'.set x (x := i) ⟨by omega, by omega⟩).1
                have HZ2 := Lib.hid (hZ'.beside (x := x) (u := .int .i64 i) hzg)
                have HB2 := Lib.hid (hB'.setCell (p := ⟨g, x, none⟩) hwg (.int .i64 i))
                have hG2 : G ≤ (wr.setCell ⟨g, x, none⟩ (.int .i64 i)).heap.size := by simpa [World.setCell] using hGw'
                have hsz2 : (wr.setCell ⟨g, x, none⟩ (.int .i64 i)).heap.size = wr.heap.size := by simp [World.setCell]
                have Hsz2 := Lib.hid hsz2
                clear hO' hZ' hB' hsz2
                go_wp2_with (at_builtin; refine wpList_app1 rfl (.tmp 87) (.tmp 89) rfl G _ _ zs x rfl rfl Hsz2.out HZ2.out hyr.out hzl hG2 ?_; intro p2 c2 w2 r2 hr2 hO3 hg3 hf3)
                have hpb : ∀ k', blk pz = some k' → G ≤ k' ∧ k' < (wr.setCell ⟨g, x, none⟩ (.int .i64 i)).heap.size := HZ2.out.lt
                go_roundw
                case rel => exact ⟨k + 1, by omega, by go_num, ⟨r2, p2, c2, by unfold Hid; rw [hr2.out, HTk.out], rfl, hO3⟩, by rw [HAk.out]; exact HO2.out.keptBy hg3 (fun k' e => by simp [blk] at e; subst e; exact hzg), below_grown HB2.out hg3 (by omega) hpb hWG, Nat.le_trans hG2 hg3.size⟩
                case measure => simp [intOf]; omega
              · have hd0 : decide (0 ≤ y) = false := by simpa using h0
                unfold Hid at HAk
                rw [if_neg h0] at HAk
                have HAk := Lib.hid HAk
                have hZ2 := Lib.hid hZ'
                have hyr := Lib.hid hyr
                clear h0
                go_wp2_with (at_builtin; refine wpList_app1 rfl (.tmp 87) (.tmp 89) rfl G _ _ zs y rfl rfl rfl hZ2.out hyr.out hzl hGw' ?_; intro p2 c2 w2 r2 hr2 hO3 hg3 hf3)
                go_roundw
                case rel => exact ⟨k + 1, by omega, by go_num, ⟨r2, p2, c2, by unfold Hid; rw [hr2.out, HTk.out], rfl, hO3⟩, by rw [HAk.out]; exact hO'.keptBy hg3 (fun k' e => by simp [blk] at e; subst e; exact hzg), below_grown hB' hg3 (by omega) hZ2.out.lt hWG, Nat.le_trans hGw' hg3.size⟩
                case measure => simp [intOf]; omega
        · have hk1 : ¬ (k : Int) < ts.length := by omega
          obtain rfl : k = ts.length := by omega
          have HL : Hid (cpickL v ts = cpA v ts ts.length) := by unfold Hid cpickL; rw [if_pos HE.out]
          have HLT : Hid (cpickT v ts = zs) := by unfold Hid cpickT; rw [if_pos HE.out, hzz.out]
          have hAl : Hid ((cpA v ts ts.length).length = m) := by unfold Hid; rw [cpA_len]; exact Hm.out
          go_wp2_with fail
          go_ret3
          rw [HL.out, HLT.out, HE.out]
          exact ⟨some ⟨g, 0, none⟩, c1, pz, cz, by rw [hAl.out]; rfl, hO.lower hB.size, hZ.lower (by have := hB.size; omega), hB.trans (hBr.mono hB.size)⟩
    · have htz : (chkT v.length ts != 0) = true := by rw [bne_iff_ne]; exact hT
      have HE : Hid (pickE v ts = chkT v.length ts) := pickE_ok HG.out
      have HL : Hid (cpickL v ts = []) := by unfold Hid cpickL; rw [HE.out, if_neg hT]
      have HLT : Hid (cpickT v ts = []) := by unfold Hid cpickT; rw [HE.out, if_neg hT]
      clear hT
      go_wp2_with fail
      refine (ref18Check_any v.length q d ts _ (mT.below hb1 (Nat.le_refl _))).mono ?_
      rintro e w3 ⟨rfl, rfl⟩
      go_wp2_with fail
      go_ret3
      rw [HL.out, HLT.out, HE.out]
      exact ⟨none, 0, none, 0, rfl, Own.ofNil _ _, Own.ofNil _ _, hB.trans (hb1.mono hB.size)⟩
  · have hgz : (chkG v != 0) = true := by rw [bne_iff_ne]; exact hG
    have HE : Hid (pickE v ts = chkG v) := pickE_bad hG
    have HL : Hid (cpickL v ts = []) := by unfold Hid cpickL; rw [HE.out, if_neg hG]
    have HLT : Hid (cpickT v ts = []) := by unfold Hid cpickT; rw [HE.out, if_neg hG]
    clear hG
    go_wp2_with fail
    refine (ref16Check_any p c v _ (mX.below hb1 (Nat.le_refl _))).mono ?_
    rintro e w2 ⟨rfl, hb2⟩
    go_wp2_with fail
    go_ret3
    rw [HL.out, HLT.out, HE.out]
    exact ⟨none, 0, none, 0, rfl, Own.ofNil _ _, Own.ofNil _ _, hB.trans ((hb1.trans (hb2.mono hb1.size)).mono hB.size)⟩
end Go.Proofs.Ytiohehofnlmenaa

/- The parts of chores.Run as its walk calls them. -/
namespace Go.Proofs.Ytiohehofnlmenaa
set_option linter.unusedVariables false
set_option linter.unusedSimpArgs false
open Go.ChangeShapes Go.WideShapes Go.ChangeAt Go.RowKit Go.Deep

theorem valuesR (p : Option Addr) (c : Nat) (v : List (List Int)) (q : Option Addr) (d m : Nat) (A : List Int) (hm : A.length = m) (hg : Gds v) (ha : AlcOk v A) (W : World) (hx : Mat W p c v) (hi : Ints W q d A) :
    Calls Try.prog 40 #[.agg #[.slice p v.length c], .slice q m d] W fun e w' => ∃ pv cv, e = .returned (.tuple #[.slice pv v.length cv, .int .i64 0]) ∧ Mat w' pv cv (valsG v A) ∧ Below W.heap.size W w' := by
  subst hm
  have hF := chkA_zero.2 ⟨hg, ha⟩
  refine (goodsValues_any p c v q d A W hx hi).mono ?_
  rintro e w' ⟨pv, cv, rfl, mV, hb⟩
  rw [valsL_ok hF] at mV ⊢
  rw [hF, valsG_len]
  exact ⟨pv, cv, rfl, mV, hb⟩
theorem freeR (p : Option Addr) (c : Nat) (v : List (List Int)) (A : List Int) (W : World) (hx : Mat W p c (valsG v A)) :
    Calls Try.prog 54 #[.slice p v.length c] W fun e w' => e = .returned (.int .i64 (freeI v A)) ∧ ∃ n, w' = W.drewN n := by
  have := free_any p c (valsG v A) W hx (fun i hi => by rw [valsG_len] at hi ⊢; rw [valsG_row hi, worthRow_len])
  rw [free_valsG, valsG_len] at this
  exact this
theorem circleR (p : Option Addr) (c : Nat) (v : List (List Int)) (A : List Int) (hg : Gds v) (W : World) (hx : Mat W p c (valsG v A)) :
    Calls Try.prog 43 #[.slice p v.length c] W fun e w' => ∃ p c l, Hid (l = topG v A) ∧ e = .returned (.slice p (l : List Int).length c) ∧ Own w' W.heap.size p c l ∧ Below W.heap.size W w' := by
  have hl := valsG_len v A
  have h0 := hg.1
  have h6 := hg.2.1
  have := circle_any p c (valsG v A) W hx (by omega) (by omega) (fun i hi => by rw [hl] at hi ⊢; rw [valsG_row hi, worthRow_len])
  rw [hl] at this
  refine this.mono ?_
  rintro e w' ⟨p2, c2, rfl, hO, hb⟩
  exact ⟨p2, c2, topG v A, rfl, rfl, hO, hb⟩
theorem passR (p : Option Addr) (c n : Nat) (v : List (List Int)) (hn : v.length = n) (q : Option Addr) (d m : Nat) (A : List Int) (s : Option Addr) (f : Nat) (l t : List Int) (hm : A.length = m) (hg : Gds v) (ha : AlcOk v A) (hl : CircOk l v.length) (ht : t = toL l v.length) (hmp : 0 < m) (W : World) (hx : Mat W p c v) (hi : Ints W q d A) (ho : Ints W s f t) :
    Calls Try.prog 55 #[.agg #[.slice p v.length c], .slice q m d, .slice s n f] W fun e w' => ∃ g c, e = .returned (.tuple #[.slice (some ⟨g, 0, none⟩) m c, .int .i64 0]) ∧ Own w' W.heap.size (some ⟨g, 0, none⟩) c (passL A l) ∧ Below W.heap.size W w' := by
  subst hm ht hn
  have hF := chkA_zero.2 ⟨hg, ha⟩
  refine (goodsPass_any p c v q d A s f (toL l v.length) W hx hi ho hF (toL_isA hl)).mono ?_
  rintro e w' ⟨p2, c2, rfl, hO, hb⟩
  rw [passG_passL hl ha.2] at hO ⊢
  obtain ⟨g, rfl, _⟩ := hO.get (j := 0) (by rw [passL_len]; exact hmp)
  exact ⟨g, c2, by rw [passL_len], hO, hb⟩
theorem run_yes {v : List (List Int)} {o : List Int} {k : Nat} {A l : List Int} {S : List Stp} (h : runTo v o k = (A, S)) (hf : freeI v A < 0) (hl : l = topG v A) :
    runTo v o (k + 1) = ((passL A l).set (iget o k).toNat (freeI v (passL A l)), (S ++ [(l, -1, -1)]) ++ [([], freeI v (passL A l), iget o k)]) := by
  subst hl
  rw [runTo, runStep, h, runS1]
  simp only [if_pos hf]
theorem run_no {v : List (List Int)} {o : List Int} {k : Nat} {A : List Int} {S : List Stp} (h : runTo v o k = (A, S)) (hf : ¬ freeI v A < 0) :
    runTo v o (k + 1) = (A.set (iget o k).toNat (freeI v A), S ++ [([], freeI v A, iget o k)]) := by
  rw [runTo, runStep, h, runS1]
  simp only [if_neg hf]
theorem hasB_take {xs : List Int} {i : Nat} (hi : i ≤ xs.length) (x : Int) : hasB (xs.take i) x = true ↔ ∃ j, j < i ∧ iget xs j = x := by
  unfold hasB
  rw [decide_eq_true_iff]
  constructor
  · intro h
    obtain ⟨j, hj, rfl⟩ := List.getElem_of_mem h
    rw [List.length_take] at hj
    exact ⟨j, by omega, by rw [iget_of (by omega), List.getElem_take]⟩
  · rintro ⟨j, hj, rfl⟩
    rw [iget_of (by omega)]
    exact List.mem_iff_getElem.2 ⟨j, by rw [List.length_take]; omega, by rw [List.getElem_take]⟩
theorem containsR (q : Option Addr) (d n : Nat) (o : List Int) (x : Int) (hn : n ≤ o.length) (W : World) (hI : Ints W q d o) :
    Calls Try.prog 53 #[.slice q n d, .int .i64 x] W fun e w' => e = .returned (.bool (hasB (o.take n) x)) ∧ w' = W := by
  have := contains_any q d (o.take n) x W (hI.cutPre n)
  rw [List.length_take, Nat.min_eq_left hn] at this
  exact this

theorem own_cell {w : World} {base g c : Nat} {xs : List Int} (h : Own w base (some ⟨g, 0, none⟩) c xs) {j : Nat} (hj : j < xs.length) :
    base ≤ g ∧ g < w.heap.size ∧ w.cell? ⟨g, j, none⟩ = some (.int .i64 (iget xs j)) ∧ w.frozen? ⟨g, j, none⟩ = false := by
  obtain ⟨g', hg', a1, a2, a3, a4⟩ := h.get hj
  obtain rfl : g = g' := by simpa using hg'
  exact ⟨a1, a2, a3, a4⟩

set_option maxHeartbeats 1600000 in
theorem sameSteps_any (p q : Option Addr) (c d b0 b1 : Nat) (xs : List Stp) (Q Q' : Nat → Option Addr) (D D' : Nat → Nat) (w : World) (hx : OwnS w b0 p c xs Q D) (hy : OwnS w b1 q d xs Q' D') :
    Calls Try.prog 28 #[.slice p xs.length c, .slice q xs.length d] w fun e w' => e = .returned (.bool true) ∧ ∃ n, w' = w.drewN n := by
  have hl := hx.cap
  have he : ((xs.length : Int) != (xs.length : Int)) = false := by simp
  go_enter Try.func28, Try.ntmps28
  go_wp2_with fail
  go_loopw [5] (fun i wr => ∃ k : Nat, k ≤ xs.length ∧ i = .int .i64 k ∧ ∃ n, wr = w.drewN n) (fun i _ => xs.length - (intOf i).toNat)
  case atStart => exact ⟨0, by omega, rfl, drew_refl w⟩
  case round =>
    obtain ⟨k, hk, rfl, hw⟩ := hrel
    have hx := hx.drew hw
    have hy := hy.drew hw
    have Hw := Lib.hid hw
    clear hw
    by_cases hlt : k < xs.length
    · obtain ⟨g, rfl, _, _, c1, c2, c3, i1⟩ := hx.get hlt
      obtain ⟨g', rfl, _, _, c4, c5, c6, i2⟩ := hy.get hlt
      have hk1 : (k : Int) < xs.length := by omega
      generalize (sget xs k).1 = y0 at *
      generalize (sget xs k).2.1 = y1 at *
      generalize (sget xs k).2.2 = y2 at *
      have e1 : (y1 != y1) = false := by simp
      have e2 : (y2 != y2) = false := by simp
      have I1 := Lib.hid i1
      have I2 := Lib.hid i2
      clear i1 i2
      go_wp2_with fail
      go_quiet ((go_at_call 16; exact Calls.quiet_of (eqI_true (I1.out.drewN _) (I2.out.drewN _))))
      go_wp2_with fail
      go_roundw
      case rel => exact ⟨k + 1, by omega, by go_num, drew_drewN _ Hw.out⟩
      case measure => simp [intOf]; omega
    · have hk1 : ¬ (k : Int) < xs.length := by omega
      go_wp2_with fail
      go_ret
      exact ⟨rfl, Hw.out⟩
end Go.Proofs.Ytiohehofnlmenaa
