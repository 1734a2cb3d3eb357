/- The walks of the reference's Better and Pick, for every goods and turns; no condition (Better: the indices in range). -/
import Derived.Test.YtfagapcihacgkaaRobinB
import Derived.Deep.RegionHeld3
namespace Go.Proofs.Ytfagapcihacgkaa
set_option linter.unusedVariables false
set_option linter.unusedSimpArgs false
open Go.ChangeShapes Go.WideShapes Go.ChangeAt Go.RowKit Go.Deep

set_option maxHeartbeats 4000000 in
set_option maxRecDepth 100000 in
theorem better_any (p : Option Addr) (c : Nat) (v : List (List Int)) (i x y : Nat) (w : World) (hx : Mat w p c v) (hi : i < v.length) (hx1 : x < (rget v i).length) (hy1 : y < (rget v i).length) (hm : (rget v i).length ≤ 1000) :
    Calls Try.prog 27 #[.agg #[.slice p v.length c], .int .i64 i, .int .i64 x, .int .i64 y] w fun e w' => e = .returned (.bool (betterB (rget v i) x y)) ∧ Below w.heap.size w w' := by
  obtain ⟨W0, hW0⟩ : ∃ W0, w.alloc (.cells #[.slice p v.length c] 24) = W0 := ⟨_, rfl⟩
  have hB : Below w.heap.size w W0 := below_alloc hW0
  have bX : BoxV W0 w.heap.size [.slice p v.length c] := BoxV.new rfl hW0
  have mX := hx.below hB (Nat.le_refl _)
  have x0 := bX.cell 0 _ rfl
  have HW0 := Lib.hid hW0
  have hl1 := mX.length_le
  clear hW0 hx
  obtain ⟨b, o, rfl, _, q, d, hc, hr⟩ := mX.get hi
  obtain ⟨b2, o2, rfl, _, hcx⟩ := hr.get hx1
  have hcy := hr.at hy1
  have hi1 : (i : Int) < v.length := by omega
  have hx2 : (x : Int) < (rget v i).length := by omega
  have hy2 : (y : Int) < (rget v i).length := by omega
  have HB : Hid (betterB (rget v i) x y = decide (iget (rget v i) y < iget (rget v i) x ∨ (iget (rget v i) x = iget (rget v i) y ∧ x < y))) := rfl
  obtain ⟨X, hX⟩ : ∃ X, iget (rget v i) x = X := ⟨_, rfl⟩
  obtain ⟨Y, hY⟩ : ∃ Y, iget (rget v i) y = Y := ⟨_, rfl⟩
  rw [hX, hY] at HB
  rw [hX] at hcx
  rw [hY] at hcy
  obtain ⟨L, hL⟩ : ∃ L, (rget v i).length = L := ⟨_, rfl⟩
  rw [hL] at hc hx2 hy2
  clear hX hY hx1 hy1 hr hm hL
  by_cases hgt : Y < X
  · have hd : decide (Y < X) = true := by simpa using hgt
    have HR : Hid (betterB (rget v i) x y = true) := by unfold Hid; rw [HB.out]; simp [hgt]
    clear hgt
    go_enter Try.func27, Try.ntmps27
    go_wp2_with fail
    rw [HW0.out]
    go_quiet (fail)
    go_wp2_with fail
    go_ret
    exact ⟨ret_bool HR.out.symm, hB.drewN' _⟩
  · have hd : decide (Y < X) = false := by simpa using hgt
    by_cases he : X = Y
    · have hd2 : (X == Y) = true := by simpa using he
      have HR : Hid (betterB (rget v i) x y = decide ((x : Int) < y)) := by
        unfold Hid; rw [HB.out]; exact dec_congr ⟨fun h => by omega, fun h => .inr ⟨he, by omega⟩⟩
      clear hgt he
      go_enter Try.func27, Try.ntmps27
      go_wp2_with fail
      rw [HW0.out]
      go_quiet (fail)
      go_wp2_with fail
      go_ret
      rw [HR.out]
      exact ⟨ret_bool (by first | rfl | simp), hB.drewN' _⟩
    · have hd2 : (X == Y) = false := by simpa using he
      have HR : Hid (betterB (rget v i) x y = false) := by
        unfold Hid; rw [HB.out, decide_eq_false_iff_not]; rintro (h | h); exact hgt h; exact he h.1
      clear hgt he
      go_enter Try.func27, Try.ntmps27
      go_wp2_with fail
      rw [HW0.out]
      go_quiet (fail)
      go_wp2_with fail
      go_ret
      exact ⟨ret_bool HR.out.symm, hB.drewN' _⟩

theorem fillR_set {x : Int} {n k : Nat} (hk : k < n) : (fillR x n k).set k x = fillR x n (k + 1) := by
  unfold fillR
  rw [List.set_append_right _ _ (by simp), List.length_replicate, Nat.sub_self]
  obtain ⟨m, hm⟩ : ∃ m, n - k = m + 1 := ⟨n - k - 1, by omega⟩
  have e : n - (k + 1) = m := by omega
  rw [hm, e, List.replicate_succ, List.set_cons_zero, List.replicate_succ' (n := k), List.append_assoc]
  rfl

set_option maxHeartbeats 8000000 in
set_option maxRecDepth 100000 in
theorem ref18Pick_any (p q : Option Addr) (c d : Nat) (v : List (List Int)) (ts : List Int) (w : World) (hx : Mat w p c v) (hy : Ints w q d ts) :
    Calls Try.prog 13 #[.agg #[.slice p v.length c], .slice q ts.length d] w (GivesLL w (pickL v ts) (pickT v ts) (pickE v ts)) := by
  obtain ⟨W0, hW0⟩ : ∃ W0, w.alloc (.cells #[.slice p v.length c] 24) = W0 := ⟨_, rfl⟩
  have hB : Below w.heap.size w W0 := below_alloc hW0
  have bX : BoxV W0 w.heap.size [.slice p v.length c] := BoxV.new rfl hW0
  have mX := hx.below hB (Nat.le_refl _)
  have mT := hy.below hB (Nat.le_refl _)
  have x0 := bX.cell 0 _ rfl
  have HW0 := Lib.hid hW0
  clear hW0 hx hy
  have hl1 := mX.length_le
  have hl2 := mT.length_le
  go_enter Try.func13, Try.ntmps13
  go_wp2_with fail
  rw [HW0.out]
  refine (ref16Check_any p c v _ mX).mono ?_
  rintro e w1 ⟨rfl, hb1⟩
  clear x0
  have x0 := (bX.below hb1).cell 0 _ rfl
  by_cases hG : chkG v = 0
  · have hgz : (chkG v != 0) = false := by rw [hG]; rfl
    have HG := Lib.hid hG
    clear hG
    go_wp2_with fail
    refine (ref18Check_any v.length q d ts _ (mT.below hb1 (Nat.le_refl _))).mono ?_
    rintro e w2 ⟨rfl, rfl⟩
    by_cases hT : chkT v.length ts = 0
    · have htz : (chkT v.length ts != 0) = false := by rw [hT]; rfl
      have HT := Lib.hid hT
      have HP := Lib.hid (picks_of HG.out hT)
      have HE : Hid (pickE v ts = 0) := (pickE_ok HG.out).trans HT.out
      clear hT
      obtain ⟨b, o, rfl, _, _⟩ := mX.get (j := 0) HP.out.n1
      obtain ⟨q0, d0, hc0, hi0⟩ := (mX.below hb1 (Nat.le_refl _)).at (j := 0) HP.out.n1
      rw [Nat.add_zero] at hc0
      obtain ⟨m, hm⟩ : ∃ m, wid v = m := ⟨_, rfl⟩
      have hm0 : (rget v 0).length = m := hm
      rw [hm0] at hc0
      have Hm := Lib.hid hm
      have hm10 : m ≤ 10 := by have := HP.out.m10; omega
      have hv1 : (0 : Int) < v.length := by have := HP.out.n1; omega
      clear hm hm0 hi0
      go_wp2_with (at_make; refine wpList_mk rfl (.tmp 35) (.tmp 35) rfl w2.heap.size m rfl rfl (by omega) (Nat.le_refl _) ?_; intro w3 hO hg3 hs3)
      have hb3 : Below W0.heap.size W0 w3 := hb1.trans ((below_grown (p := none) (base := w2.heap.size) (Below.refl w2.heap.size w2) hg3 (Nat.le_refl _) (fun _ h => by cases h) (Nat.le_refl _)).mono hb1.size)
      obtain ⟨g, hgd⟩ : ∃ g, w2.heap.size = g := ⟨_, rfl⟩
      have hwg : W0.heap.size ≤ g := by have := hb1.size; omega
      have hO0 : Own w3 W0.heap.size (some ⟨g, 0, none⟩) m (fillR (-1) m 0) := by
        rw [fillR_zero, ← hgd]; exact hO.lower (by omega)
      rw [hgd]
      obtain ⟨G, hGd⟩ : ∃ G, w3.heap.size = G := ⟨_, rfl⟩
      have hgG : g < G := by omega
      have hWG : W0.heap.size ≤ G := by omega
      have hG3 : G ≤ w3.heap.size := by omega
      clear hO x0 hc0 hb1 hg3 hs3 hgd hGd
      go_wp2_with fail
      go_loopw [8] (fun i wr => ∃ k : Nat, k ≤ m ∧ i = .int .i64 k ∧ Own wr W0.heap.size (some ⟨g, 0, none⟩) m (fillR (-1) m k) ∧ Below W0.heap.size W0 wr ∧ G ≤ wr.heap.size) (fun i _ => m - (intOf i).toNat)
      case atStart => exact ⟨0, by omega, rfl, hO0, hb3, hG3⟩
      case round =>
        clear hO0 hb3 hG3
        obtain ⟨k, hk, rfl, hO, hBr, hGw⟩ := hrel
        by_cases hkm : k < m
        · have hk1 : (k : Int) < m := by omega
          obtain ⟨g', hg', _, _, hcA, hfA⟩ := hO.get (j := k) (by rw [fillR_len hk]; exact hkm)
          obtain rfl : g = g' := by simpa using hg'
          have HO2 := Lib.hid (hO.set k (x := -1) ⟨by omega, by omega⟩).1
          have HB2 := Lib.hid (hBr.setCell (p := ⟨g, k, none⟩) hwg (.int .i64 (-1)))
          have hG2 : G ≤ (wr.setCell ⟨g, k, none⟩ (.int .i64 (-1))).heap.size := by simpa [World.setCell] using hGw
          clear hg' hO hBr
          go_wp2_with fail
          go_roundw
          case rel => exact ⟨k + 1, by omega, by go_num, by rw [← fillR_set hkm]; exact HO2.out, HB2.out, hG2⟩
          case measure => simp [intOf]; omega
        · have hk1 : ¬ (k : Int) < m := by omega
          obtain rfl : k = m := by omega
          rw [fillR_full] at hO
          have hO0 : Own wr W0.heap.size (some ⟨g, 0, none⟩) k (pkA v ts 0) := by unfold pkA; rw [Hm.out]; exact hO
          obtain ⟨w5, rfl⟩ : ∃ w5 : World, w5 = wr := ⟨_, rfl⟩
          clear hO
          go_wp2_with fail
          go_loopw [9, 10] (fun s i wr => ∃ k' : Nat, k' ≤ ts.length ∧ i = .int .i64 k' ∧ (∃ zs pz cz, Hid (zs = pkT v ts k') ∧ s = .slice pz (zs : List Int).length cz ∧ Own wr G pz cz zs) ∧ Own wr W0.heap.size (some ⟨g, 0, none⟩) k (pkA v ts k') ∧ Below W0.heap.size W0 wr ∧ G ≤ wr.heap.size) (fun _ i _ => ts.length - (intOf i).toNat)
          case atStart => exact ⟨0, by omega, rfl, ⟨[], none, 0, rfl, rfl, Own.ofNil _ _⟩, hO0, hBr, hGw⟩
          case round =>
            clear hO0 hBr hGw
            obtain ⟨t, ht, rfl, ⟨zs, pz, cz, hzz, rfl, hZ⟩, hO, hBr, hGw⟩ := hrel
            by_cases htl : t < ts.length
            · have ht1 : (t : Int) < ts.length := by omega
              obtain ⟨i, hti, hiv⟩ := HP.out.turn t htl
              obtain ⟨A, hA⟩ : ∃ A, pkA v ts t = A := ⟨_, rfl⟩
              have hAl : A.length = k := by rw [← hA, pkA_len]; exact Hm.out
              rw [hA] at hO
              have hrow : (rget v i).length = k := (HP.out.row i hiv).trans Hm.out
              have HA := Lib.hid hA
              have HAl := Lib.hid hAl
              have Hrow := Lib.hid hrow
              have Hti := Lib.hid hti
              clear hA hAl hrow hti
              obtain ⟨wo, rfl⟩ : ∃ wo : World, wo = wr := ⟨_, rfl⟩
              go_wp2_with fail
              go_loopw [11, 12] (fun s j wr => ∃ n : Nat, n ≤ k ∧ j = .int .i64 n ∧ s = .int .i64 (refPick (rget v i) A n) ∧ Below wo.heap.size wo wr) (fun _ j _ => k - (intOf j).toNat)
              case atStart => exact ⟨0, by omega, rfl, rfl, Below.refl _ _⟩
              case round =>
                obtain ⟨n, hn, rfl, rfl, hbn⟩ := hrel
                by_cases hnk : n < k
                · have hn1 : (n : Int) < k := by omega
                  obtain ⟨g', hg', _, _, hcA, _⟩ := (hO.below hbn (Nat.le_refl _)).get (j := n) (by rw [HAl.out]; exact hnk)
                  obtain rfl : g = g' := by simpa using hg'
                  clear hg'
                  obtain ⟨wp, rfl⟩ : ∃ wp : World, wp = wr := ⟨_, rfl⟩
                  have HZ0 := Lib.hid (winB_zero (rget v i) A n)
                  go_wp2_with fail
                  go_loopw [13, 14] (fun s j wr => ∃ y : Nat, y ≤ k ∧ j = .int .i64 y ∧ s = .bool (winB (rget v i) A n y) ∧ Below wo.heap.size wo wr) (fun _ j _ => k - (intOf j).toNat)
                  case atStart => exact ⟨0, by omega, rfl, by rw [HZ0.out], hbn⟩
                  case round =>
                    clear hcA hbn
                    obtain ⟨y, hy, rfl, rfl, hby⟩ := hrel
                    have hBy : Below W0.heap.size W0 wr := hBr.trans (hby.mono hBr.size)
                    by_cases hyk : y < k
                    · have hy1 : (y : Int) < k := by omega
                      have HS := Lib.hid (winB_succ (rget v i) A n y)
                      obtain ⟨g', hg', _, hgl, hcA, _⟩ := (hO.below hby (Nat.le_refl _)).get (j := y) (by rw [HAl.out]; exact hyk)
                      obtain rfl : g = g' := by simpa using hg'
                      clear hg'
                      obtain ⟨B, hBB⟩ : ∃ B, winB (rget v i) A n y = B := ⟨_, rfl⟩
                      obtain ⟨Z, hZZ⟩ : ∃ Z, iget A y = Z := ⟨_, rfl⟩
                      rw [hBB] at HS ⊢
                      rw [hZZ] at HS hcA
                      clear hBB hZZ
                      cases B with
                      | false =>
                        have HS2 : Hid (winB (rget v i) A n (y + 1) = false) := by unfold Hid; rw [HS.out, Bool.false_and]
                        go_wp2_with fail
                        go_quiet (fail)
                        go_wp2_with fail
                        go_roundw
                        case rel => exact ⟨y + 1, by omega, by go_num, by rw [HS2.out], hby.drewN' _⟩
                        case measure => simp [intOf]; omega
                      | true =>
                        by_cases hz0 : 0 ≤ Z
                        · have hd1 : decide (0 ≤ Z) = true := by simpa using hz0
                          have HS2 : Hid (winB (rget v i) A n (y + 1) = true) := by unfold Hid; rw [HS.out, hd1]; rfl
                          clear hz0
                          go_wp2_with fail
                          go_quiet (fail)
                          go_wp2_with fail
                          go_roundw
                          case rel => exact ⟨y + 1, by omega, by go_num, by rw [HS2.out], hby.drewN' _⟩
                          case measure => simp [intOf]; omega
                        · have hd1 : decide (0 ≤ Z) = false := by simpa using hz0
                          by_cases hny : n = y
                          · have hd2 : ((n : Int) == y) = true := by rw [hny]; simp
                            have HS2 : Hid (winB (rget v i) A n (y + 1) = true) := by unfold Hid; rw [HS.out, hd1]; simp [hny]
                            clear hz0 hny
                            go_wp2_with fail
                            go_quiet (fail)
                            go_wp2_with fail
                            go_roundw
                            case rel => exact ⟨y + 1, by omega, by go_num, by rw [HS2.out], hby.drewN' _⟩
                            case measure => simp [intOf]; omega
                          · have hd2 : ((n : Int) == y) = false := by rw [beq_eq_false_iff_ne]; omega
                            have HS2 : Hid (winB (rget v i) A n (y + 1) = betterB (rget v i) n y) := by unfold Hid; rw [HS.out, hd1]; simp [hny]
                            have Hti2 := Hti.out
                            obtain ⟨bt, ot, rfl, hbt, hct⟩ := (mT.below hBy (Nat.le_refl _)).get htl
                            rw [Hti2] at hct
                            have bXy := bX.below hBy
                            have x0 := bXy.cell 0 _ rfl
                            have hlX := bXy.lt
                            have Hbt := Lib.hid (fun W (h : Below wr.heap.size wr W) => better_any (some ⟨b, o, none⟩) c v i n y W ((mX.below hBy (Nat.le_refl _)).below h (Nat.le_refl _)) hiv (by rw [Hrow.out]; exact hnk) (by rw [Hrow.out]; exact hyk) (by rw [Hrow.out]; omega))
                            have Hmk : Hid (∀ W, Below wr.heap.size wr W → (W.cell? ⟨w.heap.size, 0, none⟩ = some (Value.slice (some ⟨b, o, none⟩) v.length c) ∧ W.cell? ⟨bt, ot + t, none⟩ = some (Value.int .i64 i) ∧ W.cell? ⟨g, y, none⟩ = some (Value.int .i64 Z) ∧ Below wr.heap.size wr W)) := fun W hG => ⟨(hG.cell (p := ⟨w.heap.size, 0, none⟩) hlX).trans x0, (hG.cell (p := ⟨bt, ot + t, none⟩) hbt).trans hct, (hG.cell (p := ⟨g, y, none⟩) hgl).trans hcA, hG⟩
                            clear hz0 hny Hti2 bXy
                            go_wp2_with fail
                            go_region_held3 (fun W => W.cell? ⟨w.heap.size, 0, none⟩ = some (Value.slice (some ⟨b, o, none⟩) v.length c) ∧ W.cell? ⟨bt, ot + t, none⟩ = some (Value.int .i64 i) ∧ W.cell? ⟨g, y, none⟩ = some (Value.int .i64 Z) ∧ Below wr.heap.size wr W)
                              (first | assumption | exact Hmk.out _ hGb | exact Hmk.out _ (below_drewN wr.heap.size wr 1) | exact Hmk.out _ (Below.refl _ _))
                              (first | (go_at_call 27; refine (Hbt.out _ (by go_split_ands; assumption)).mono ?_; rintro e wC ⟨rfl, hbC⟩; have hGb : Below wr.heap.size wr wC := Below.trans (by go_split_ands; assumption) (hbC.mono (Below.size (B := wr.heap.size) (w := wr) (by go_split_ands; assumption)))))
                            go_wp2_with fail
                            go_roundw
                            case rel => exact ⟨y + 1, by omega, by go_num, by rw [HS2.out], hby.trans (hGb.mono hby.size)⟩
                            case measure => simp [intOf]; omega
                    · have hy1 : ¬ (y : Int) < k := by omega
                      obtain rfl : y = k := by omega
                      cases hW : winB (rget v i) A n y with
                      | true =>
                        have HR : Hid (refPick (rget v i) A (n + 1) = n) := by unfold Hid; rw [refPick, HAl.out, if_pos hW]
                        clear hW
                        go_wp2_with fail
                        go_roundw
                        case rel => exact ⟨n + 1, by omega, by go_num, by rw [HR.out], hby⟩
                        case measure => simp [intOf]; omega
                      | false =>
                        have HR : Hid (refPick (rget v i) A (n + 1) = refPick (rget v i) A n) := by unfold Hid; rw [refPick, HAl.out, if_neg (by rw [hW]; simp)]
                        clear hW
                        go_wp2_with fail
                        go_roundw
                        case rel => exact ⟨n + 1, by omega, by go_num, by rw [HR.out], hby⟩
                        case measure => simp [intOf]; omega
                · have hn1 : ¬ (n : Int) < k := by omega
                  obtain rfl : n = k := by omega
                  have hP : pick (rget v i) A = refPick (rget v i) A n := by rw [← refPick_full, HAl.out]
                  have hpr : -1 ≤ pick (rget v i) A ∧ pick (rget v i) A < n := by have := pickTo_range (rget v i) A A.length; unfold pick; rw [HAl.out] at this ⊢; exact this
                  rw [hP] at hpr
                  obtain ⟨y, hy⟩ : ∃ y, refPick (rget v i) A n = y := ⟨_, rfl⟩
                  rw [hy] at hpr hP ⊢
                  have HTk : Hid (pkT v ts (t + 1) = zs ++ [y]) := by unfold Hid; rw [pkT, ← hzz.out, HA.out, Hti.out, Int.toNat_natCast, hP]
                  have HAk : Hid (pkA v ts (t + 1) = if 0 ≤ y then A.set y.toNat i else A) := by unfold Hid; rw [pkA, stepA, HA.out, Hti.out, Int.toNat_natCast, hP]
                  have hyr : in64 y := ⟨by omega, by omega⟩
                  have hzl : zs.length ≤ 900000 := by rw [hzz.out, pkT_len]; have := HP.out.few; omega
                  clear hy hP
                  have hO' := hO.below hbn (Nat.le_refl _)
                  have hZ' := hZ.below hbn (Nat.le_refl _)
                  have hB' := hBr.trans (hbn.mono hBr.size)
                  have hGw' : G ≤ wr.heap.size := Nat.le_trans hGw hbn.size
                  clear hbn hO hZ hBr hGw
                  have hzg : blk pz ≠ some g := fun e => by have := (hZ'.lt g e).1; omega
                  by_cases h0 : 0 ≤ y
                  · obtain ⟨x, rfl⟩ : ∃ x : Nat, y = x := ⟨y.toNat, by omega⟩
                    have hxm : (x : Int) < n := by omega
                    have hx0 : (0 : Int) ≤ x := by omega
                    have hyr := Lib.hid hyr
                    unfold Hid at HAk
                    rw [if_pos h0, Int.toNat_natCast] at HAk
                    have HAk := Lib.hid HAk
                    obtain ⟨g', hg', _, _, hcA, hfA⟩ := hO'.get (j := x) (by rw [HAl.out]; omega)
                    obtain rfl : g = g' := by simpa using hg'
                    obtain ⟨bt, ot, rfl, hbt, hct⟩ := (mT.below hB' (Nat.le_refl _)).get htl
                    have Hti2 := Hti.out
                    rw [Hti2] at hct
                    clear hg' h0 Hti2
                    have HO2 := Lib.hid (hO'.set x (x := i) ⟨by omega, by omega⟩).1
                    have HZ2 := Lib.hid (hZ'.beside (x := x) (u := .int .i64 i) hzg)
                    have HB2 := Lib.hid (hB'.setCell (p := ⟨g, x, none⟩) hwg (.int .i64 i))
                    have hG2 : G ≤ (wr.setCell ⟨g, x, none⟩ (.int .i64 i)).heap.size := by simpa [World.setCell] using hGw'
                    have hsz2 : (wr.setCell ⟨g, x, none⟩ (.int .i64 i)).heap.size = wr.heap.size := by simp [World.setCell]
                    have Hsz2 := Lib.hid hsz2
                    clear hO' hZ' hB' hsz2
                    go_wp2_with (at_builtin; refine wpList_app1 rfl (.tmp 103) (.tmp 105) rfl G _ _ zs x rfl rfl Hsz2.out HZ2.out hyr.out hzl hG2 ?_; intro p2 c2 w2 r2 hr2 hO3 hg3 hf3)
                    have hpb : ∀ k', blk pz = some k' → G ≤ k' ∧ k' < (wr.setCell ⟨g, x, none⟩ (.int .i64 i)).heap.size := HZ2.out.lt
                    go_roundw
                    case rel => exact ⟨t + 1, by omega, by go_num, ⟨r2, p2, c2, by unfold Hid; rw [hr2.out, HTk.out], rfl, hO3⟩, by rw [HAk.out]; exact HO2.out.keptBy hg3 (fun k' e => by simp [blk] at e; subst e; exact hzg), below_grown HB2.out hg3 (by omega) hpb hWG, Nat.le_trans hG2 hg3.size⟩
                    case measure => simp [intOf]; omega
                  · have hd0 : decide (0 ≤ y) = false := by simpa using h0
                    unfold Hid at HAk
                    rw [if_neg h0] at HAk
                    have HAk := Lib.hid HAk
                    have hZ2 := Lib.hid hZ'
                    have hyr := Lib.hid hyr
                    clear h0
                    go_wp2_with (at_builtin; refine wpList_app1 rfl (.tmp 103) (.tmp 105) rfl G _ _ zs y rfl rfl rfl hZ2.out hyr.out hzl hGw' ?_; intro p2 c2 w2 r2 hr2 hO3 hg3 hf3)
                    go_roundw
                    case rel => exact ⟨t + 1, by omega, by go_num, ⟨r2, p2, c2, by unfold Hid; rw [hr2.out, HTk.out], rfl, hO3⟩, by rw [HAk.out]; exact hO'.keptBy hg3 (fun k' e => by simp [blk] at e; subst e; exact hzg), below_grown hB' hg3 (by omega) hZ2.out.lt hWG, Nat.le_trans hGw' hg3.size⟩
                    case measure => simp [intOf]; omega
            · have ht1 : ¬ (t : Int) < ts.length := by omega
              obtain rfl : t = ts.length := by omega
              have HL : Hid (pickL v ts = pkA v ts ts.length) := by unfold Hid pickL; rw [if_pos HE.out]
              have HLT : Hid (pickT v ts = zs) := by unfold Hid pickT; rw [if_pos HE.out, hzz.out]
              have hAl : Hid ((pkA v ts ts.length).length = k) := by unfold Hid; rw [pkA_len]; exact Hm.out
              go_wp2_with fail
              go_ret3
              rw [HL.out, HLT.out, HE.out]
              exact ⟨some ⟨g, 0, none⟩, k, pz, cz, by rw [hAl.out]; rfl, hO.lower hB.size, hZ.lower (by have := hB.size; omega), hB.trans (hBr.mono hB.size)⟩
    · have htz : (chkT v.length ts != 0) = true := by rw [bne_iff_ne]; exact hT
      have HE : Hid (pickE v ts = chkT v.length ts) := pickE_ok HG.out
      have HL : Hid (pickL v ts = []) := by unfold Hid pickL; rw [HE.out, if_neg hT]
      have HLT : Hid (pickT v ts = []) := by unfold Hid pickT; rw [HE.out, if_neg hT]
      clear hT
      go_wp2_with fail
      refine (ref18Check_any v.length q d ts _ (mT.below hb1 (Nat.le_refl _))).mono ?_
      rintro e w3 ⟨rfl, rfl⟩
      go_wp2_with fail
      go_ret3
      rw [HL.out, HLT.out, HE.out]
      exact ⟨none, 0, none, 0, rfl, Own.ofNil _ _, Own.ofNil _ _, hB.trans (hb1.mono hB.size)⟩
  · have hgz : (chkG v != 0) = true := by rw [bne_iff_ne]; exact hG
    have HE : Hid (pickE v ts = chkG v) := pickE_bad hG
    have HL : Hid (pickL v ts = []) := by unfold Hid pickL; rw [HE.out, if_neg hG]
    have HLT : Hid (pickT v ts = []) := by unfold Hid pickT; rw [HE.out, if_neg hG]
    clear hG
    go_wp2_with fail
    refine (ref16Check_any p c v _ (mX.below hb1 (Nat.le_refl _))).mono ?_
    rintro e w2 ⟨rfl, hb2⟩
    go_wp2_with fail
    go_ret3
    rw [HL.out, HLT.out, HE.out]
    exact ⟨none, 0, none, 0, rfl, Own.ofNil _ _, Own.ofNil _ _, hB.trans ((hb1.trans (hb2.mono hb1.size)).mono hB.size)⟩
end Go.Proofs.Ytfagapcihacgkaa
