/- The walks of assign.Harm and of the reference's Harm, for every bids. -/
import Derived.Test.YtjjbeccimeehfaaRefF
import Derived.Test.YtjjbeccimeehfaaTwin
namespace Go.Proofs.Ytjjbeccimeehfaa
set_option linter.unusedVariables false
set_option linter.unusedSimpArgs false
open Go.ChangeShapes Go.WideShapes Go.ChangeAt Go.RowKit Go.Deep

/-- The harm of the first k agents. -/
noncomputable def harmTo (v : List (List Int)) (k : Nat) : List Int := (List.range k).map fun i => harmN v (bestA v) i
theorem harmTo_succ (v : List (List Int)) (k : Nat) : harmTo v (k + 1) = harmTo v k ++ [harmN v (bestA v) k] := by simp [harmTo, List.range_succ]
theorem harmTo_length (v : List (List Int)) (k : Nat) : (harmTo v k).length = k := by simp [harmTo]
theorem worth_bound {v : List (List Int)} {a : List Int} (hv : Bids v) (ha : IsA a v.length) : 0 ≤ worthI v a ∧ worthI v a ≤ 6000000 := by
  have h := sumTo_bound (f := fun i => bid v i (itm a i)) (m := 1000000) (n := a.length) (fun i hi => (hv.2.2 i (by rw [← ha.1]; exact hi)).2 _ (isA_lt ha i (by rw [← ha.1]; exact hi)).2) a.length (Nat.le_refl _)
  have := ha.1
  have := hv.2.1
  unfold worthI; omega
theorem harm_parts {v : List (List Int)} (hv : Bids v) {i : Nat} (hi : i < v.length) : IsA (bestA v) v.length ∧ IsA (bestA (zeroed v i)) v.length ∧ 0 ≤ worthI (zeroed v i) (bestA (zeroed v i)) ∧ worthI (zeroed v i) (bestA (zeroed v i)) ≤ 6000000 ∧
    0 ≤ worthI (zeroed v i) (bestA v) ∧ worthI (zeroed v i) (bestA v) ≤ 6000000 := by
  have h1 := (bestA_best hv.1).1
  have h2 := (bestA_best (zeroed_bids hv hi).1).1
  have b1 := worth_bound (zeroed_bids hv hi) h2
  have b2 := worth_bound (zeroed_bids hv hi) (a := bestA v) (by rw [zeroed_length]; exact h1)
  rw [zeroed_length] at h2
  exact ⟨h1, h2, b1.1, b1.2, b2.1, b2.2⟩

set_option maxHeartbeats 1600000 in
set_option maxRecDepth 100000 in
theorem harm_any (p : Option Addr) (c : Nat) (v : List (List Int)) (w : World) (hx : Mat w p c v) :
    Calls Try.prog 16 #[.slice p v.length c] w (Gives2 w (harmL v) (chkI v)) := by
  by_cases hv : Bids v
  · have h6 := hv.2.1
    have HL : Hid (harmL v = harmTo v v.length) := by unfold Hid harmL; rw [if_pos hv]; rfl
    have HB : Hid (bestL v = bestA v) := by unfold Hid bestL; rw [if_pos hv]
    have HN : Hid (bestN v = worthI v (bestA v)) := by unfold Hid bestN; rw [if_pos hv]
    have hc := chkI_bids hv
    have Hc := Lib.hid hc
    clear hc
    have hcz : (chkI v != 0) = false := by rw [Hc.out]; rfl
    go_enter Try.func16, Try.ntmps16
    go_wp2_with fail
    refine (bestTop_any p c v w hx).mono ?_
    rintro e w1 ⟨q, d, rfl, hO, hb⟩
    have hA := (bestA_best hv.1).1
    have hwb := worth_bound hv hA
    rw [HB.out] at hO ⊢
    rw [HN.out]
    have HX := Lib.hid (hx.below hb (Nat.le_refl _))
    have HI := Lib.hid hO.ints
    have hsz := hb.size
    have hal := hA.1
    have Hal := Lib.hid hal
    clear hO hal
    go_wp2_with fail
    go_loopw [7, 23] (fun t7 t wr => ∃ k : Nat, k ≤ v.length ∧ t = .int .i64 k ∧ (∃ us po co, Hid (us = harmTo v k) ∧ t7 = .slice po (us : List Int).length co ∧ Own wr w1.heap.size po co us) ∧ Below w1.heap.size w1 wr) (fun _ t _ => v.length - (intOf t).toNat)
    case atStart => exact ⟨0, Nat.zero_le _, rfl, ⟨[], none, 0, rfl, rfl, Own.ofNil _ _⟩, Below.refl _ _⟩
    case round =>
      obtain ⟨k, hk, rfl, ⟨us, po, co, hus, rfl, hO⟩, hbr⟩ := hrel
      have hIr := HI.out.below hbr (Nat.le_refl _)
      have hxr := HX.out.below hbr (Nat.le_refl _)
      by_cases hkn : k < v.length
      · have hka : k < (bestA v).length := by rw [Hal.out]; exact hkn
        have hk1 : (k : Int) < (bestA v).length := by omega
        have hk2 : (k : Int) < v.length := by omega
        obtain ⟨b, o, rfl, _, hcell⟩ := hIr.get hka
        obtain ⟨i1, i2⟩ := isA_lt hA k hkn
        have hp := harm_parts hv hkn
        have hwz := worth_zeroed hkn (a := bestA v) hA.1
        have Hh : Hid (harmN v (bestA v) k = worthI (zeroed v k) (bestA (zeroed v k)) - (worthI v (bestA v) - bid v k (itm (bestA v) k))) := rfl
        obtain ⟨x, hxx⟩ : ∃ x : Nat, iget (bestA v) k = (x : Int) := ⟨(iget (bestA v) k).toNat, by omega⟩
        have hit : itm (bestA v) k = x := by simp [itm, hxx]
        rw [hit] at i2 hwz Hh
        rw [hxx] at hcell
        have hul : us.length ≤ 900000 := by rw [hus.out, harmTo_length]; omega
        have hszr : w1.heap.size ≤ wr.heap.size := hbr.size
        clear hxx hit i1
        go_wp2_with fail
        refine (best_any _ _ _ _ _ hxr hv ⟨by omega, by omega⟩).mono ?_
        rintro e w2 ⟨q2, d2, bb, rfl, hO2, hb2, hP, hF⟩
        have hoth := others_eq hv.1 hkn hP hF
        rw [hoth]
        clear hF hP hoth hO2
        have hb12 := hbr.trans (hb2.mono hszr)
        have hx2 := HX.out.below hb12 (Nat.le_refl _)
        have hOo := hO.below hb2 (Nat.le_refl _)
        have hsz2 : w1.heap.size ≤ w2.heap.size := hb12.size
        obtain ⟨b2, o2, rfl, _, q3, d3, hc3, hi3⟩ := hx2.get hkn
        have hrl := (hv.2.2 k hkn).1
        obtain ⟨b4, o4, rfl, _, hc4⟩ := hi3.get (j := x) (by omega)
        have hr4 := (hv.2.2 k hkn).2 x i2
        have hk5 : (x : Int) < (rget v k).length := by omega
        have Hg : Hid (bid v k x = iget (rget v k) x) := rfl
        rw [Hg.out] at Hh hwz
        clear hrl
        obtain ⟨y, hy⟩ : ∃ y, iget (rget v k) x = y := ⟨_, rfl⟩
        rw [hy] at hc4 hr4 Hh hwz
        clear hy
        obtain ⟨z, hz⟩ : ∃ z, worthI (zeroed v k) (bestA (zeroed v k)) = z := ⟨_, rfl⟩
        rw [hz] at Hh hp ⊢
        clear hz
        have hy64 : in64 (z - (worthI v (bestA v) - y)) := ⟨by omega, by omega⟩
        have Hwz := Lib.hid hwz
        clear hwz
        have Hp := Lib.hid hp
        have hz1 := hp.2.2.1
        have hz2 := hp.2.2.2.1
        clear hp
        go_wp2_with (at_builtin; refine wpList_app1 rfl (.tmp 34) (.tmp 46) rfl w1.heap.size _ _ us (z - (worthI v (bestA v) - y)) rfl rfl rfl hOo hy64 hul hsz2 ?_; intro p3 c3 w3 us3 hus3 hO3 hg3 hf3)
        have hb13 := hb12.grown hg3 hsz2 (fun k hk => (hOo.lt k hk).1)
        go_roundw
        case rel => exact ⟨k + 1, by omega, by go_num, ⟨us3, p3, c3, by rw [harmTo_succ, ← hus.out, Hh.out]; exact hus3, rfl, hO3⟩, hb13⟩
        case measure => simp [intOf]; omega
      · have hk1 : ¬ (k : Int) < (bestA v).length := by have := Hal.out; omega
        obtain rfl : k = v.length := by omega
        go_wp2_with fail
        go_ret2
        rw [HL.out, ← hus.out, Hc.out]
        exact ⟨po, co, rfl, hO.lower hsz, hb.trans (hbr.mono hsz)⟩
  · have hc : (chkI v != 0) = true := by rw [bne_iff_ne]; exact fun h => hv (chkI_zero.1 h)
    have HL : Hid (harmL v = []) := by unfold Hid harmL; rw [if_neg hv]
    go_enter Try.func16, Try.ntmps16
    go_wp2_with fail
    refine (bestTop_any p c v w hx).mono ?_
    rintro e w1 ⟨q, d, rfl, hO, hb⟩
    go_wp2_with fail
    go_ret2
    rw [HL.out]
    exact ⟨none, 0, rfl, Own.ofNil _ _, hb⟩
theorem take_mat {u v : List (List Int)} {k : Nat} (h : u = v.take k) (hk : k ≤ v.length) : u.length = k := by rw [h, List.length_take]; omega

/-- Behind the making of another row. -/
theorem harm_row {w w3 : World} {base g c : Nat} {v : List (List Int)} {Q : Nat → Option Addr} {D : Nat → Nat} (h : TMat w base (some ⟨g, 0, none⟩) c v Q D) {i : Nat} (hi : i < v.length) (hg : w.grownBy w3 none) :
    TMat w3 base (some ⟨g, 0, none⟩) c v Q D ∧ w3.cell? ⟨g, i, none⟩ = some (.slice (Q i) (rget v i).length (D i)) ∧ w3.frozen? ⟨g, i, none⟩ = false := by
  have h3 := h.below ((Below.refl w.heap.size w).grown hg (Nat.le_refl _) (fun _ e => by cases e)) (Nat.le_refl _)
  exact ⟨h3, h3.at hi, h3.free i⟩

set_option maxHeartbeats 3200000 in
set_option maxRecDepth 100000 in
theorem refHarm_any (p : Option Addr) (c : Nat) (v : List (List Int)) (w : World) (hx : Mat w p c v) :
    Calls Try.prog 17 #[.slice p v.length c] w (Gives2 w (harmL v) (chkI v)) := by
  by_cases hv : Bids v
  · have h6 := hv.2.1
    have HL : Hid (harmL v = harmTo v v.length) := by unfold Hid harmL; rw [if_pos hv]; rfl
    have hc := chkI_bids hv
    have Hc := Lib.hid hc
    clear hc
    have hcz : (chkI v != 0) = false := by rw [Hc.out]; rfl
    go_enter Try.func17, Try.ntmps17
    go_wp2_with fail
    refine (refCheck_any p c v w hx).mono ?_
    rintro e w' ⟨rfl, rfl⟩
    go_wp2_with fail
    refine (most_any p c v w' hx hv).mono ?_
    rintro e w1 ⟨q, d, rfl, hO, hb⟩
    have hA := (bestA_best hv.1).1
    have HX := Lib.hid (hx.below hb (Nat.le_refl _))
    have HI := Lib.hid hO.ints
    have hsz := hb.size
    have hal := hA.1
    have Hal := Lib.hid hal
    clear hO hal
    go_wp2_with fail
    go_loopw [5, 6] (fun t5 t wr => ∃ k : Nat, k ≤ v.length ∧ t = .int .i64 k ∧ (∃ us po co, Hid (us = harmTo v k) ∧ t5 = .slice po (us : List Int).length co ∧ Own wr w1.heap.size po co us) ∧ Below w1.heap.size w1 wr) (fun _ t _ => v.length - (intOf t).toNat)
    case atStart => exact ⟨0, Nat.zero_le _, rfl, ⟨[], none, 0, rfl, rfl, Own.ofNil _ _⟩, Below.refl _ _⟩
    case round =>
      obtain ⟨k, hk, rfl, ⟨us, po, co, hus, rfl, hO⟩, hbr⟩ := hrel
      by_cases hkn : k < v.length
      · have hk2 : (k : Int) < v.length := by omega
        have hp := harm_parts hv hkn
        have Hh : Hid (harmN v (bestA v) k = worthI (zeroed v k) (bestA (zeroed v k)) - worthI (zeroed v k) (bestA v)) := by unfold Hid harmN; rw [worth_zeroed hkn hA.1]
        have Hp := Lib.hid hp
        clear hp
        have hul : us.length ≤ 900000 := by rw [hus.out, harmTo_length]; omega
        have hszr : w1.heap.size ≤ wr.heap.size := hbr.size
        obtain ⟨wo, hwo⟩ : ∃ wo, wr = wo := ⟨_, rfl⟩
        rw [hwo] at hO hbr hszr ⊢
        clear hwo
        go_wp2_with fail
        go_loopw [7, 8] (fun t7 t wr => ∃ m : Nat, m ≤ v.length ∧ t = .int .i64 m ∧ (∃ u pw cw Q D, Hid (u = v.take m) ∧ t7 = .slice pw (u : List (List Int)).length cw ∧ TMat wr wo.heap.size pw cw u Q D) ∧ Below wo.heap.size wo wr) (fun _ t _ => v.length - (intOf t).toNat)
        case atStart => exact ⟨0, Nat.zero_le _, rfl, ⟨[], none, 0, fun _ => none, fun _ => 0, rfl, rfl, TMat.ofNil _ _⟩, Below.refl _ _⟩
        case round =>
          obtain ⟨m, hm, rfl, ⟨u, pw, cw, Q, D, hu, rfl, hT⟩, hbo⟩ := hrel
          have hbr2 := hbr.trans (hbo.mono hszr)
          have hxr := HX.out.below hbr2 (Nat.le_refl _)
          have hszo := hbo.size
          have hulen := take_mat hu.out hm
          have Hulen := Lib.hid hulen
          clear hulen
          by_cases hmn : m < v.length
          · have hm1 : (m : Int) < v.length := by omega
            obtain ⟨b, o, rfl, hblt, q1, d1, hcell0, hi0⟩ := HX.out.get hmn
            have hcell := (hbr2.cell (p := ⟨b, o + m, none⟩) hblt).trans hcell0
            have hi := hi0.below hbr2 (Nat.le_refl _)
            have hul9 : u.length ≤ 900000 := by rw [Hulen.out]; omega
            have hsep : 0 < (rget v m).length → ∀ k, blk q1 = some k → blk pw ≠ some k := by
              intro hl k hk e
              obtain ⟨b1, o1, e1, hb1, _⟩ := hi0.get hl
              rw [e1] at hk
              simp [blk] at hk
              have := (hT.lt k e).1
              omega
            go_wp2_with (at_builtin; refine wpList_appRow rfl (.tmp 28) (.tmp 33) rfl wo.heap.size _ _ u Q D q1 d1 (rget v m) rfl rfl rfl hT hi hsep hul9 hszo ?_; intro p3 c3 w3 u3 hu3 hT3 hg3 hf3)
            have hbo3 := hbo.grown hg3 hszo (fun k hk => (hT.lt k hk).1)
            go_roundw
            case rel => exact ⟨m + 1, by omega, by go_num, ⟨u3, p3, c3, _, _, by rw [take_row v hmn, ← hu.out]; exact hu3, rfl, hT3⟩, hbo3⟩
            case measure => simp [intOf]; omega
          · have hm1 : ¬ (m : Int) < v.length := by omega
            obtain rfl : m = v.length := by omega
            obtain rfl : u = v := by rw [hu.out, List.take_length]
            obtain ⟨g, rfl, hg1, hg2, hcg, hfg⟩ := hT.get hkn
            have hOo := hO.below hbo (Nat.le_refl _)
            clear Hulen hu
            go_wp2_with (at_make; refine wpList_mk rfl (.tmp 38) (.tmp 38) rfl wo.heap.size u.length rfl rfl (by omega) hszo ?_; intro w3 hO3 hg3 hs3; obtain ⟨hT3, hcg3, hfg3⟩ := harm_row hT hkn hg3)
            have hT4 := hT3.set hkn hO3.ints (fun _ e => by simp [blk] at e; omega)
            rw [List.length_replicate] at hT4
            have hb3 := (hbo.grown hg3 hszo (fun _ e => by cases e)).setCell (p := ⟨g, k, none⟩) hg1 (.slice (some ⟨wr.heap.size, 0, none⟩) u.length u.length)
            have hOo3 := hO.below hb3 (Nat.le_refl _)
            obtain ⟨W, hW⟩ : ∃ W, W = w3.setCell ⟨g, k, none⟩ (.slice (some ⟨wr.heap.size, 0, none⟩) u.length u.length) := ⟨_, rfl⟩
            rw [← hW] at hT4 hb3 hOo3 ⊢
            clear hW hT hT3 hO3 hg3 hs3 hcg hfg hcg3 hfg3 hxr hOo
            have hM : Mat W (some ⟨g, 0, none⟩) cw (zeroed u k) := hT4.mat
            clear hT4
            have hzb := zeroed_bids hv hkn
            have hcall1 : Calls Try.prog 34 #[.slice (some ⟨g, 0, none⟩) u.length cw] W (Gives W (bestA (zeroed u k))) := by
              have := most_any _ _ (zeroed u k) W hM hzb; rwa [zeroed_length] at this
            refine hcall1.mono ?_
            rintro e w5 ⟨q5, d5, rfl, hO5, hb5⟩
            clear hcall1
            have hM5 := hM.below hb5 (Nat.le_refl _)
            have hbr5 := hbr.trans ((hb3.trans (hb5.mono hb3.size)).mono hszr)
            have hOo5 := hOo3.below hb5 (Nat.le_refl _)
            have hI5 := HI.out.below hbr5 (Nat.le_refl _)
            have Hz : Hid (zeroed u k = zeroed u k) := rfl
            have hcall2 : Calls Try.prog 32 #[.slice (some ⟨g, 0, none⟩) u.length cw, .slice q5 (bestA (zeroed u k)).length d5] w5 fun e w' => e = .returned (.int .i64 (worthI (zeroed u k) (bestA (zeroed u k)))) ∧ ∃ n, w' = w5.drewN n := by
              have := worth_any _ _ _ _ (zeroed u k) _ w5 hM5 hO5.ints (fits_of hzb (by rw [zeroed_length]; exact Hp.out.2.1)); rwa [zeroed_length] at this
            go_wp2_with fail
            refine hcall2.mono ?_
            rintro e w6 ⟨rfl, hw6⟩
            clear hcall2
            have hM6 := hM5.drew hw6
            have hI6 := hI5.drew hw6
            have hcall3 : Calls Try.prog 32 #[.slice (some ⟨g, 0, none⟩) u.length cw, .slice q (bestA u).length d] w6 fun e w' => e = .returned (.int .i64 (worthI (zeroed u k) (bestA u))) ∧ ∃ n, w' = w6.drewN n := by
              have := worth_any _ _ _ _ (zeroed u k) _ w6 hM6 hI6 (fits_of hzb (by rw [zeroed_length]; exact Hp.out.1)); rwa [zeroed_length] at this
            go_wp2_with fail
            refine hcall3.mono ?_
            rintro e w7 ⟨rfl, hw7⟩
            clear hcall3
            have hw := drew_trans hw6 hw7
            have hbr7 := hbr5.drewP hw
            have hOo7 := hOo5.drew hw
            have hsz7 := hbr7.size
            have hpp := Hp.out
            obtain ⟨y1, hy1⟩ : ∃ y, worthI (zeroed u k) (bestA (zeroed u k)) = y := ⟨_, rfl⟩
            obtain ⟨y2, hy2⟩ : ∃ y, worthI (zeroed u k) (bestA u) = y := ⟨_, rfl⟩
            rw [hy1] at hpp Hh ⊢
            rw [hy2] at hpp Hh ⊢
            clear hy1 hy2 hM hM5 hM6 hI5 hI6 hw6 hw7 hw hOo3 hOo5 hO5
            obtain ⟨_, _, z1, z2, z3, z4⟩ := hpp
            have hy64 : in64 (y1 - y2) := ⟨by omega, by omega⟩
            go_wp2_with (at_builtin; refine wpList_app1 rfl (.tmp 41) (.tmp 50) rfl w1.heap.size _ _ us (y1 - y2) rfl rfl rfl hOo7 hy64 hul hsz7 ?_; intro p8 c8 w8 us8 hus8 hO8 hg8 hf8)
            have hb8 := hbr7.grown hg8 hsz7 (fun k hk => (hOo7.lt k hk).1)
            go_roundw
            case rel => exact ⟨k + 1, by omega, by go_num, ⟨us8, p8, c8, by rw [harmTo_succ, ← hus.out, Hh.out]; exact hus8, rfl, hO8⟩, hb8⟩
            case measure => simp [intOf]; omega
      · have hk1 : ¬ (k : Int) < v.length := by omega
        obtain rfl : k = v.length := by omega
        go_wp2_with fail
        go_ret2
        rw [HL.out, ← hus.out, Hc.out]
        exact ⟨po, co, rfl, hO.lower hsz, hb.trans (hbr.mono hsz)⟩
  · have hc : (chkI v != 0) = true := by rw [bne_iff_ne]; exact fun h => hv (chkI_zero.1 h)
    have HL : Hid (harmL v = []) := by unfold Hid harmL; rw [if_neg hv]
    go_enter Try.func17, Try.ntmps17
    go_wp2_with (go_at_call 19; refine (refCheck_any p c v _ hx).mono ?_; rintro e w' ⟨rfl, rfl⟩)
    go_ret2
    rw [HL.out]
    exact ⟨none, 0, rfl, Own.ofNil _ _, Below.refl _ _⟩
end Go.Proofs.Ytjjbeccimeehfaa
