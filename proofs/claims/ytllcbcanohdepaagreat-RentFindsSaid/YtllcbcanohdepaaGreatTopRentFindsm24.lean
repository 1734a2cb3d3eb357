/- The walks of the reference's Fair and Calm, for every flat. -/
import Derived.Test.YtllcbcanohdepaaGreatTopRentFindsm21
import Derived.Test.YtllcbcanohdepaaGreatTopRentFindsm22
import Derived.Test.YtllcbcanohdepaaGreatTopRentFindsm7
import Derived.Test.YtllcbcanohdepaaGreatTopRentFindsm9
import Derived.Test.YtllcbcanohdepaaGreatTopRentFindsm23
import Derived.Deep.RegionHeld3
import Derived.Deep.DeepCutAuto
import Derived.Test.YtllcbcanohdepaaGreatTopRentFindsm17
import Derived.Shelf.Bits.Mul64
import Derived.Test.YtllcbcanohdepaaGreatProg
/- The walks of the reference's Fair and Calm, for every flat. -/
namespace Go.Proofs.YtllcbcanohdepaaGreat
set_option linter.unusedVariables false
set_option linter.unusedSimpArgs false
open Go.ChangeShapes Go.WideShapes Go.ChangeAt Go.RowKit Go.Deep

theorem rf8 {i : Nat} (h : i < 8) : i = 0 ∨ i = 1 ∨ i = 2 ∨ i = 3 ∨ i = 4 ∨ i = 5 ∨ i = 6 ∨ i = 7 := by omega
set_option maxHeartbeats 8000000 in
set_option maxRecDepth 100000 in
theorem refFair_any (p : Option Addr) (c : Nat) (v : List (List Int)) (r : Int) (w : World) (hx : Mat w p c v) :
    Calls Tryz.prog 7 #[.agg #[.slice p v.length c, .int .i64 r]] w (GivesLease w (bestI v r) (leaY v r (fairG v)) (leaZ v r (fairG v)) (chkR v r)) := by
  obtain ⟨W0, hW0⟩ : ∃ W0, (w.alloc (.cells #[.slice p v.length c, .int .i64 r] 24)).alloc (.cells #[.slice none 0 0, .slice none 0 0, .int .i64 0] 27) = W0 := ⟨_, rfl⟩
  have hb0 : Below w.heap.size w W0 := by rw [← hW0]; exact ((Below.refl _ _).alloc (Nat.le_refl _) _).alloc (by simp) _
  have hx1 := hx.below hb0 (Nat.le_refl _)
  have hs0 : W0.heap.size = w.heap.size + 2 := by rw [← hW0]; simp
  have h3 : Three W0 (w.heap.size + 1) := Three.new (by simp) hW0.symm
  have H3 := Lib.hid h3
  clear h3
  have hbx0 : W0.cell? ⟨w.heap.size, 0, none⟩ = some (.slice p v.length c) := by rw [← hW0]; simp
  have hbx1 : W0.cell? ⟨w.heap.size, 1, none⟩ = some (.int .i64 r) := by rw [← hW0]; simp
  have HW0 := Lib.hid hW0
  have Hs0 := Lib.hid hs0
  clear hW0 hs0
  go_enter Tryz.func7, Tryz.ntmps7
  go_wp2_with fail
  rw [HW0.out]
  refine (refCheckR_any p c v r _ hx1).mono ?_
  rintro e w1 ⟨rfl, hb1⟩
  have hx2 := hx1.below hb1 (Nat.le_refl _)
  have c0 := (hb1.cell (p := ⟨w.heap.size, 0, none⟩) (by have := Hs0.out; simp only; omega)).trans hbx0
  have c1 := (hb1.cell (p := ⟨w.heap.size, 1, none⟩) (by have := Hs0.out; simp only; omega)).trans hbx1
  have H31 := Lib.hid (H3.out.below hb1 (by have := Hs0.out; omega))
  have hsz1 : w.heap.size + 2 ≤ w1.heap.size := by have := hb1.size; have := Hs0.out; omega
  have hBx := hb0.trans (hb1.mono hb0.size)
  have HBx := Lib.hid hBx
  clear hb1 hx1 hb0 hbx0 hbx1 H3 hBx
  by_cases hF : chkR v r = 0
  · have hcz : (chkR v r != 0) = false := by rw [hF]; rfl
    obtain ⟨hv, hr1, hr2⟩ := chkR_zero.1 hF
    have h0 := hv.1
    have h6 := hv.2.1
    have HX : Hid (bestI v r = bestA v) := by unfold Hid bestI; rw [if_pos hF]
    have HY : Hid (leaY v r (fairG v) = lowL v.length (leaseL v r (bestA v) (fairG v))) := by unfold Hid leaY; rw [if_pos hF]
    have HZ : Hid (leaZ v r (fairG v) = lowN v.length (leaseL v r (bestA v) (fairG v))) := by unfold Hid leaZ; rw [if_pos hF]
    have HA := Lib.hid (bestA_best h0).1
    have HF := Lib.hid hF
    have Hv := Lib.hid hv
    clear hF hv
    go_wp2_with fail
    refine (most_okR p c v w1 hx2 Hv.out).mono ?_
    rintro e w2 ⟨pa, ca, rfl, hAo, hb2⟩
    have hx3 := hx2.below hb2 (Nat.le_refl _)
    have d0 := (hb2.cell (p := ⟨w.heap.size, 0, none⟩) (by simp only; omega)).trans c0
    have d1 := (hb2.cell (p := ⟨w.heap.size, 1, none⟩) (by simp only; omega)).trans c1
    have h32 := H31.out.below hb2 (by omega)
    have HBy := Lib.hid (HBx.out.trans (hb2.mono (by omega)))
    have hsz2 : w.heap.size + 2 ≤ w2.heap.size := by have := hb2.size; omega
    have hI := hAo.ints
    have HAo := Lib.hid hAo
    have HSe : Hid (∀ W, Below w2.heap.size w2 W → Calls Tryz.prog 23 #[.agg #[.slice p v.length c, .int .i64 r], .slice pa v.length ca, .bool true] W fun e w' => ∃ s f, e = .returned (.slice s v.length f) ∧ Own w' W.heap.size s f (fairG v) ∧ Below W.heap.size W w') := fun W h => settle_any p pa c ca v r true W (hx3.below h (Nat.le_refl _)) (hI.below h (Nat.le_refl _)) Hv.out
    have HLe : Hid (∀ W s f, Below w2.heap.size w2 W → Ints W s f (fairG v) → Calls Tryz.prog 22 #[.agg #[.slice p v.length c, .int .i64 r], .slice pa v.length ca, .slice s v.length f] W fun e w' => ∃ t u, e = .returned (.agg #[.slice pa v.length ca, .slice t v.length u, .int .i64 (lowN v.length (leaseL v r (bestA v) (fairG v)))]) ∧ Own w' W.heap.size t u (lowL v.length (leaseL v r (bestA v) (fairG v))) ∧ Below W.heap.size W w') := fun W s f h hz => leased_any p pa s c ca f v r (bestA v) (fairG v) W (hx3.below h (Nat.le_refl _)) (hI.below h (Nat.le_refl _)) hz Hv.out hr1 hr2 HA.out (tgt_small Hv.out true)
    obtain ⟨Z, hZ⟩ : ∃ Z, lowN v.length (leaseL v r (bestA v) (fairG v)) = Z := ⟨_, rfl⟩
    rw [hZ] at HLe HZ
    have H32 := Lib.hid h32
    have hS3 : w.heap.size + 1 < w2.heap.size := by omega
    have Hmk : Hid (∀ W, Below (w.heap.size + 1) w2 W → (W.cell? ⟨w.heap.size, 0, none⟩ = some (.slice p v.length c) ∧ W.cell? ⟨w.heap.size, 1, none⟩ = some (.int .i64 r))) := fun W hG =>
      ⟨(hG.cell (p := ⟨w.heap.size, 0, none⟩) (by simp only; omega)).trans d0, (hG.cell (p := ⟨w.heap.size, 1, none⟩) (by simp only; omega)).trans d1⟩
    have hwS : w.heap.size ≤ w.heap.size + 1 := by omega
    have hbS : w.heap.size + 1 ≤ w2.heap.size := by omega
    have HY2 : Hid (∀ (t : Option Addr) (u : Nat) (t' : Option Addr) (u' : Nat), Value.slice t v.length u = Value.slice t' v.length u' → t = t' ∧ u = u') := fun t u t' u' h => by simp at h; exact h
    clear hb2 hx2 hx3 hAo hI c0 c1 hZ
    go_upto_region 4 with (fail)
    clear d0 d1
    refine wp_region_inv (by kernel_rfl) (by decide +kernel) (by decide +kernel) _ _ (RetJ w2 (w.heap.size + 1) (w.heap.size + 1) v.length (fun kk => match kk with | 0 => (.agg #[.slice p v.length c, .int .i64 r]) | 1 => (.slice pa v.length ca) | 2 => (.agg #[.slice p v.length c, .int .i64 r]) | 3 => (.slice pa v.length ca) | 7 => (.int .i64 0) | _ => undef) (.slice pa v.length ca) (fun t u => .slice t v.length u) (.int .i64 Z) (fairG v) (lowL v.length (leaseL v r (bestA v) (fairG v)))) ?_ ?_ ?_
    · exact fun us => RetJ.start us
    · intro us D W i o A hA hi hJ hnD hon K hK
      have hlt : i < 8 := (Array.getElem?_eq_some_iff.1 hi).1
      rcases rf8 hlt with rfl | rfl | rfl | rfl | rfl | rfl | rfl | rfl
      · have hi' := Option.some.inj hi
        subst hi'
        refine wp_val (v := (.agg #[.slice p v.length c, .int .i64 r])) (w' := W) ?_ (hK _ _ (hJ.pure (i := 0) (by decide) (by decide) (by decide)))
        · skip
          have e1 : A.tmps[1]?.getD undef = (.pointer (some ⟨w.heap.size, 0, none⟩)) := by rw [hA]; kernel_rfl
          obtain ⟨cc0, cc1⟩ := Hmk.out W hJ.bel
          clear hA hK hon hJ
          go_simp
      · have hi' := Option.some.inj hi
        subst hi'
        refine wp_val (v := (.slice pa v.length ca)) (w' := W) ?_ (hK _ _ (hJ.pure (i := 1) (by decide) (by decide) (by decide)))
        · skip
          have e4 : A.tmps[4]?.getD undef = (.slice pa v.length ca) := by rw [hA]; kernel_rfl
          clear hA hK hon hJ
          go_simp
      · have hi' := Option.some.inj hi
        subst hi'
        refine wp_val (v := (.agg #[.slice p v.length c, .int .i64 r])) (w' := W) ?_ (hK _ _ (hJ.pure (i := 2) (by decide) (by decide) (by decide)))
        · skip
          have e1 : A.tmps[1]?.getD undef = (.pointer (some ⟨w.heap.size, 0, none⟩)) := by rw [hA]; kernel_rfl
          obtain ⟨cc0, cc1⟩ := Hmk.out W hJ.bel
          clear hA hK hon hJ
          go_simp
      · have hi' := Option.some.inj hi
        subst hi'
        refine wp_val (v := (.slice pa v.length ca)) (w' := W) ?_ (hK _ _ (hJ.pure (i := 3) (by decide) (by decide) (by decide)))
        · skip
          have e4 : A.tmps[4]?.getD undef = (.slice pa v.length ca) := by rw [hA]; kernel_rfl
          clear hA hK hon hJ
          go_simp
      · have hi' := Option.some.inj hi
        subst hi'
        have n6 : ¬ D 6 := fun h6 => hnD (hJ.o5 (hJ.o6 h6))
        refine wp_enter (f := 23) (args := #[(.agg #[.slice p v.length c, .int .i64 r]), (.slice pa v.length ca), .bool true]) (w' := W) ?_ ((HSe.out W (hJ.pre n6)).mono ?_)
        · skip
          have e16 : A.tmps[16]?.getD undef = (.agg #[.slice p v.length c, .int .i64 r]) := (by rw [hA]; kernel_rfl : A.tmps[16]?.getD undef = us 2).trans (hJ.val 2 (by decide) (by decide) (by decide) (hon 2 (by decide +kernel)))
          have e17 : A.tmps[17]?.getD undef = (.slice pa v.length ca) := (by rw [hA]; kernel_rfl : A.tmps[17]?.getD undef = us 3).trans (hJ.val 3 (by decide) (by decide) (by decide) (hon 3 (by decide +kernel)))
          clear hA hK hon hJ
          go_simp
        · rintro r' wC ⟨s, f, rfl, hOs, hbC⟩
          exact ⟨_, rfl, hK _ _ (hJ.call4 hnD hbS hbC hOs.ints)⟩
      · have hi' := Option.some.inj hi
        subst hi'
        have n6 : ¬ D 6 := fun h6 => hnD (hJ.o6 h6)
        have h4 := hon 4 (by decide +kernel)
        obtain ⟨s, f, hu4, hIs⟩ := hJ.r4 h4 n6
        refine wp_enter (f := 22) (args := #[(.agg #[.slice p v.length c, .int .i64 r]), (.slice pa v.length ca), .slice s v.length f]) (w' := W) ?_ ((HLe.out W s f (hJ.pre n6) hIs).mono ?_)
        · skip
          have e14 : A.tmps[14]?.getD undef = (.agg #[.slice p v.length c, .int .i64 r]) := (by rw [hA]; kernel_rfl : A.tmps[14]?.getD undef = us 0).trans (hJ.val 0 (by decide) (by decide) (by decide) (hon 0 (by decide +kernel)))
          have e15 : A.tmps[15]?.getD undef = (.slice pa v.length ca) := (by rw [hA]; kernel_rfl : A.tmps[15]?.getD undef = us 1).trans (hJ.val 1 (by decide) (by decide) (by decide) (hon 1 (by decide +kernel)))
          have e18 : A.tmps[18]?.getD undef = .slice s v.length f := (by rw [hA]; kernel_rfl : A.tmps[18]?.getD undef = us 4).trans hu4
          clear hA hK hon hJ
          go_simp
        · rintro r' wC ⟨t, u, rfl, hOt, hbC⟩
          exact ⟨_, rfl, hK _ _ (hJ.call5 hnD h4 hbS hbC hOt)⟩
      · have hi' := Option.some.inj hi
        subst hi'
        have h5 := hon 5 (by decide +kernel)
        obtain ⟨t, u, hu5, hOt, _⟩ := hJ.r5 h5
        have h3W := H32.out.below (hJ.pre hnD) hS3
        refine wp_skip (w' := ((W.setCell ⟨w.heap.size + 1, 0, none⟩ (.slice pa v.length ca)).setCell ⟨w.heap.size + 1, 1, none⟩ (.slice t v.length u)).setCell ⟨w.heap.size + 1, 2, none⟩ (.int .i64 Z)) ?_ (hK _ _ (hJ.store6 hnD h5 hu5 (HY2.out t u) H32.out hS3 (Nat.le_refl _) undef))
        · skip
          have e2 : A.tmps[2]?.getD undef = (.pointer (some ⟨w.heap.size + 1, 0, none⟩)) := by rw [hA]; kernel_rfl
          have e19 : A.tmps[19]?.getD undef = (.agg #[.slice pa v.length ca, .slice t v.length u, .int .i64 Z]) := (by rw [hA]; kernel_rfl : A.tmps[19]?.getD undef = us 5).trans hu5
          obtain ⟨⟨y0, t0⟩, ⟨y1, t1⟩, ⟨y2, t2⟩, u0, u1, u2⟩ := h3W
          clear hA hK hon hJ
          go_simp
      · have hi' := Option.some.inj hi
        subst hi'
        refine wp_val (v := (.int .i64 0)) (w' := W) ?_ (hK _ _ (hJ.pure (i := 7) (by decide) (by decide) (by decide)))
        · skip
          clear hA hK hon hJ
          go_simp
    · intro us D w4 hJ hall
      have h7 : us 7 = (.int .i64 0) := hJ.val 7 (by decide) (by decide) (by decide) (hall 7 (by decide))
      obtain ⟨t, u, hu5, hOt, hc⟩ := hJ.r5 (hall 5 (by decide))
      obtain ⟨k0, k1, k2⟩ := hc (hall 6 (by decide))
      have hbl := hJ.bel
      have hIa := HAo.out.ints.far hJ.far hbl.size (fun a e _ => by have := (HAo.out.lt a.block (by rw [e]; rfl)).1; omega)
      clear hJ hall hc Hmk
      simp only [actL, slotL, putL, List.setIfInBounds_toArray, List.set_cons_zero, List.set_cons_succ, Nat.zero_add, Nat.reduceAdd, h7]
      clear h7
      go_wp2_with fail
      refine bodyPost_ret (v := .tuple #[.agg #[.slice pa v.length ca, .slice t v.length u, .int .i64 Z], .int .i64 0]) (by simp [results, Tryz.results7, go_sem, k0, k1, k2]) rfl ?_
      rw [HX.out, HY.out, HZ.out, HF.out]
      exact ⟨pa, ca, t, u, by rw [HA.out.1, lowL_length, leaseL_len], hIa, hOt.ints, HBy.out.trans (hbl.mono hwS)⟩
  · have hcz : (chkR v r != 0) = true := by rw [bne_iff_ne]; exact hF
    have HX : Hid (bestI v r = []) := by unfold Hid bestI; rw [if_neg hF]
    have HY : Hid (leaY v r (fairG v) = []) := by unfold Hid leaY; rw [if_neg hF]
    have HZ : Hid (leaZ v r (fairG v) = 0) := by unfold Hid leaZ; rw [if_neg hF]
    clear hF
    go_wp2_with fail
    refine (refCheckR_any p c v r w1 hx2).mono ?_
    rintro e w2 ⟨rfl, hb2⟩
    have h32 := H31.out.below hb2 (by omega)
    have H32 := Lib.hid h32
    have HBy := Lib.hid (HBx.out.trans (hb2.mono (by omega)))
    obtain ⟨⟨y0, t0⟩, ⟨y1, t1⟩, ⟨y2, t2⟩, u0, u1, u2⟩ := h32
    clear hb2 c0 c1 hx2
    go_wp2_with fail
    clear t0 t1 t2 u0 u1 u2
    obtain ⟨k0, k1, k2⟩ := H32.out.set (.slice none 0 0) (.slice none 0 0) (.int .i64 0)
    refine bodyPost_ret (v := .tuple #[.agg #[.slice none 0 0, .slice none 0 0, .int .i64 0], .int .i64 (chkR v r)]) (by simp [results, Tryz.results7, go_sem, k0, k1, k2]) rfl ?_
    rw [HX.out, HY.out, HZ.out]
    exact ⟨none, 0, none, 0, rfl, Ints.ofNil _, Ints.ofNil _, ((HBy.out.setCell (p := ⟨w.heap.size + 1, 0, none⟩) (by simp) _).setCell (p := ⟨w.heap.size + 1, 1, none⟩) (by simp) _).setCell (p := ⟨w.heap.size + 1, 2, none⟩) (by simp) _⟩
set_option maxHeartbeats 8000000 in
set_option maxRecDepth 100000 in
theorem refCalm_any (p : Option Addr) (c : Nat) (v : List (List Int)) (r : Int) (w : World) (hx : Mat w p c v) :
    Calls Tryz.prog 9 #[.agg #[.slice p v.length c, .int .i64 r]] w (GivesLease w (bestI v r) (leaY v r (calmG v)) (leaZ v r (calmG v)) (chkR v r)) := by
  obtain ⟨W0, hW0⟩ : ∃ W0, (w.alloc (.cells #[.slice p v.length c, .int .i64 r] 24)).alloc (.cells #[.slice none 0 0, .slice none 0 0, .int .i64 0] 27) = W0 := ⟨_, rfl⟩
  have hb0 : Below w.heap.size w W0 := by rw [← hW0]; exact ((Below.refl _ _).alloc (Nat.le_refl _) _).alloc (by simp) _
  have hx1 := hx.below hb0 (Nat.le_refl _)
  have hs0 : W0.heap.size = w.heap.size + 2 := by rw [← hW0]; simp
  have h3 : Three W0 (w.heap.size + 1) := Three.new (by simp) hW0.symm
  have H3 := Lib.hid h3
  clear h3
  have hbx0 : W0.cell? ⟨w.heap.size, 0, none⟩ = some (.slice p v.length c) := by rw [← hW0]; simp
  have hbx1 : W0.cell? ⟨w.heap.size, 1, none⟩ = some (.int .i64 r) := by rw [← hW0]; simp
  have HW0 := Lib.hid hW0
  have Hs0 := Lib.hid hs0
  clear hW0 hs0
  go_enter Tryz.func9, Tryz.ntmps9
  go_wp2_with fail
  rw [HW0.out]
  refine (refCheckR_any p c v r _ hx1).mono ?_
  rintro e w1 ⟨rfl, hb1⟩
  have hx2 := hx1.below hb1 (Nat.le_refl _)
  have c0 := (hb1.cell (p := ⟨w.heap.size, 0, none⟩) (by have := Hs0.out; simp only; omega)).trans hbx0
  have c1 := (hb1.cell (p := ⟨w.heap.size, 1, none⟩) (by have := Hs0.out; simp only; omega)).trans hbx1
  have H31 := Lib.hid (H3.out.below hb1 (by have := Hs0.out; omega))
  have hsz1 : w.heap.size + 2 ≤ w1.heap.size := by have := hb1.size; have := Hs0.out; omega
  have hBx := hb0.trans (hb1.mono hb0.size)
  have HBx := Lib.hid hBx
  clear hb1 hx1 hb0 hbx0 hbx1 H3 hBx
  by_cases hF : chkR v r = 0
  · have hcz : (chkR v r != 0) = false := by rw [hF]; rfl
    obtain ⟨hv, hr1, hr2⟩ := chkR_zero.1 hF
    have h0 := hv.1
    have h6 := hv.2.1
    have HX : Hid (bestI v r = bestA v) := by unfold Hid bestI; rw [if_pos hF]
    have HY : Hid (leaY v r (calmG v) = lowL v.length (leaseL v r (bestA v) (calmG v))) := by unfold Hid leaY; rw [if_pos hF]
    have HZ : Hid (leaZ v r (calmG v) = lowN v.length (leaseL v r (bestA v) (calmG v))) := by unfold Hid leaZ; rw [if_pos hF]
    have HA := Lib.hid (bestA_best h0).1
    have HF := Lib.hid hF
    have Hv := Lib.hid hv
    clear hF hv
    go_wp2_with fail
    refine (most_okR p c v w1 hx2 Hv.out).mono ?_
    rintro e w2 ⟨pa, ca, rfl, hAo, hb2⟩
    have hx3 := hx2.below hb2 (Nat.le_refl _)
    have d0 := (hb2.cell (p := ⟨w.heap.size, 0, none⟩) (by simp only; omega)).trans c0
    have d1 := (hb2.cell (p := ⟨w.heap.size, 1, none⟩) (by simp only; omega)).trans c1
    have h32 := H31.out.below hb2 (by omega)
    have HBy := Lib.hid (HBx.out.trans (hb2.mono (by omega)))
    have hsz2 : w.heap.size + 2 ≤ w2.heap.size := by have := hb2.size; omega
    have hI := hAo.ints
    have HAo := Lib.hid hAo
    have HSe : Hid (∀ W, Below w2.heap.size w2 W → Calls Tryz.prog 23 #[.agg #[.slice p v.length c, .int .i64 r], .slice pa v.length ca, .bool false] W fun e w' => ∃ s f, e = .returned (.slice s v.length f) ∧ Own w' W.heap.size s f (calmG v) ∧ Below W.heap.size W w') := fun W h => settle_any p pa c ca v r false W (hx3.below h (Nat.le_refl _)) (hI.below h (Nat.le_refl _)) Hv.out
    have HLe : Hid (∀ W s f, Below w2.heap.size w2 W → Ints W s f (calmG v) → Calls Tryz.prog 22 #[.agg #[.slice p v.length c, .int .i64 r], .slice pa v.length ca, .slice s v.length f] W fun e w' => ∃ t u, e = .returned (.agg #[.slice pa v.length ca, .slice t v.length u, .int .i64 (lowN v.length (leaseL v r (bestA v) (calmG v)))]) ∧ Own w' W.heap.size t u (lowL v.length (leaseL v r (bestA v) (calmG v))) ∧ Below W.heap.size W w') := fun W s f h hz => leased_any p pa s c ca f v r (bestA v) (calmG v) W (hx3.below h (Nat.le_refl _)) (hI.below h (Nat.le_refl _)) hz Hv.out hr1 hr2 HA.out (tgt_small Hv.out false)
    obtain ⟨Z, hZ⟩ : ∃ Z, lowN v.length (leaseL v r (bestA v) (calmG v)) = Z := ⟨_, rfl⟩
    rw [hZ] at HLe HZ
    have H32 := Lib.hid h32
    have hS3 : w.heap.size + 1 < w2.heap.size := by omega
    have Hmk : Hid (∀ W, Below (w.heap.size + 1) w2 W → (W.cell? ⟨w.heap.size, 0, none⟩ = some (.slice p v.length c) ∧ W.cell? ⟨w.heap.size, 1, none⟩ = some (.int .i64 r))) := fun W hG =>
      ⟨(hG.cell (p := ⟨w.heap.size, 0, none⟩) (by simp only; omega)).trans d0, (hG.cell (p := ⟨w.heap.size, 1, none⟩) (by simp only; omega)).trans d1⟩
    have hwS : w.heap.size ≤ w.heap.size + 1 := by omega
    have hbS : w.heap.size + 1 ≤ w2.heap.size := by omega
    have HY2 : Hid (∀ (t : Option Addr) (u : Nat) (t' : Option Addr) (u' : Nat), Value.slice t v.length u = Value.slice t' v.length u' → t = t' ∧ u = u') := fun t u t' u' h => by simp at h; exact h
    clear hb2 hx2 hx3 hAo hI c0 c1 hZ
    go_upto_region 4 with (fail)
    clear d0 d1
    refine wp_region_inv (by kernel_rfl) (by decide +kernel) (by decide +kernel) _ _ (RetJ w2 (w.heap.size + 1) (w.heap.size + 1) v.length (fun kk => match kk with | 0 => (.agg #[.slice p v.length c, .int .i64 r]) | 1 => (.slice pa v.length ca) | 2 => (.agg #[.slice p v.length c, .int .i64 r]) | 3 => (.slice pa v.length ca) | 7 => (.int .i64 0) | _ => undef) (.slice pa v.length ca) (fun t u => .slice t v.length u) (.int .i64 Z) (calmG v) (lowL v.length (leaseL v r (bestA v) (calmG v)))) ?_ ?_ ?_
    · exact fun us => RetJ.start us
    · intro us D W i o A hA hi hJ hnD hon K hK
      have hlt : i < 8 := (Array.getElem?_eq_some_iff.1 hi).1
      rcases rf8 hlt with rfl | rfl | rfl | rfl | rfl | rfl | rfl | rfl
      · have hi' := Option.some.inj hi
        subst hi'
        refine wp_val (v := (.agg #[.slice p v.length c, .int .i64 r])) (w' := W) ?_ (hK _ _ (hJ.pure (i := 0) (by decide) (by decide) (by decide)))
        · skip
          have e1 : A.tmps[1]?.getD undef = (.pointer (some ⟨w.heap.size, 0, none⟩)) := by rw [hA]; kernel_rfl
          obtain ⟨cc0, cc1⟩ := Hmk.out W hJ.bel
          clear hA hK hon hJ
          go_simp
      · have hi' := Option.some.inj hi
        subst hi'
        refine wp_val (v := (.slice pa v.length ca)) (w' := W) ?_ (hK _ _ (hJ.pure (i := 1) (by decide) (by decide) (by decide)))
        · skip
          have e4 : A.tmps[4]?.getD undef = (.slice pa v.length ca) := by rw [hA]; kernel_rfl
          clear hA hK hon hJ
          go_simp
      · have hi' := Option.some.inj hi
        subst hi'
        refine wp_val (v := (.agg #[.slice p v.length c, .int .i64 r])) (w' := W) ?_ (hK _ _ (hJ.pure (i := 2) (by decide) (by decide) (by decide)))
        · skip
          have e1 : A.tmps[1]?.getD undef = (.pointer (some ⟨w.heap.size, 0, none⟩)) := by rw [hA]; kernel_rfl
          obtain ⟨cc0, cc1⟩ := Hmk.out W hJ.bel
          clear hA hK hon hJ
          go_simp
      · have hi' := Option.some.inj hi
        subst hi'
        refine wp_val (v := (.slice pa v.length ca)) (w' := W) ?_ (hK _ _ (hJ.pure (i := 3) (by decide) (by decide) (by decide)))
        · skip
          have e4 : A.tmps[4]?.getD undef = (.slice pa v.length ca) := by rw [hA]; kernel_rfl
          clear hA hK hon hJ
          go_simp
      · have hi' := Option.some.inj hi
        subst hi'
        have n6 : ¬ D 6 := fun h6 => hnD (hJ.o5 (hJ.o6 h6))
        refine wp_enter (f := 23) (args := #[(.agg #[.slice p v.length c, .int .i64 r]), (.slice pa v.length ca), .bool false]) (w' := W) ?_ ((HSe.out W (hJ.pre n6)).mono ?_)
        · skip
          have e16 : A.tmps[16]?.getD undef = (.agg #[.slice p v.length c, .int .i64 r]) := (by rw [hA]; kernel_rfl : A.tmps[16]?.getD undef = us 2).trans (hJ.val 2 (by decide) (by decide) (by decide) (hon 2 (by decide +kernel)))
          have e17 : A.tmps[17]?.getD undef = (.slice pa v.length ca) := (by rw [hA]; kernel_rfl : A.tmps[17]?.getD undef = us 3).trans (hJ.val 3 (by decide) (by decide) (by decide) (hon 3 (by decide +kernel)))
          clear hA hK hon hJ
          go_simp
        · rintro r' wC ⟨s, f, rfl, hOs, hbC⟩
          exact ⟨_, rfl, hK _ _ (hJ.call4 hnD hbS hbC hOs.ints)⟩
      · have hi' := Option.some.inj hi
        subst hi'
        have n6 : ¬ D 6 := fun h6 => hnD (hJ.o6 h6)
        have h4 := hon 4 (by decide +kernel)
        obtain ⟨s, f, hu4, hIs⟩ := hJ.r4 h4 n6
        refine wp_enter (f := 22) (args := #[(.agg #[.slice p v.length c, .int .i64 r]), (.slice pa v.length ca), .slice s v.length f]) (w' := W) ?_ ((HLe.out W s f (hJ.pre n6) hIs).mono ?_)
        · skip
          have e14 : A.tmps[14]?.getD undef = (.agg #[.slice p v.length c, .int .i64 r]) := (by rw [hA]; kernel_rfl : A.tmps[14]?.getD undef = us 0).trans (hJ.val 0 (by decide) (by decide) (by decide) (hon 0 (by decide +kernel)))
          have e15 : A.tmps[15]?.getD undef = (.slice pa v.length ca) := (by rw [hA]; kernel_rfl : A.tmps[15]?.getD undef = us 1).trans (hJ.val 1 (by decide) (by decide) (by decide) (hon 1 (by decide +kernel)))
          have e18 : A.tmps[18]?.getD undef = .slice s v.length f := (by rw [hA]; kernel_rfl : A.tmps[18]?.getD undef = us 4).trans hu4
          clear hA hK hon hJ
          go_simp
        · rintro r' wC ⟨t, u, rfl, hOt, hbC⟩
          exact ⟨_, rfl, hK _ _ (hJ.call5 hnD h4 hbS hbC hOt)⟩
      · have hi' := Option.some.inj hi
        subst hi'
        have h5 := hon 5 (by decide +kernel)
        obtain ⟨t, u, hu5, hOt, _⟩ := hJ.r5 h5
        have h3W := H32.out.below (hJ.pre hnD) hS3
        refine wp_skip (w' := ((W.setCell ⟨w.heap.size + 1, 0, none⟩ (.slice pa v.length ca)).setCell ⟨w.heap.size + 1, 1, none⟩ (.slice t v.length u)).setCell ⟨w.heap.size + 1, 2, none⟩ (.int .i64 Z)) ?_ (hK _ _ (hJ.store6 hnD h5 hu5 (HY2.out t u) H32.out hS3 (Nat.le_refl _) undef))
        · skip
          have e2 : A.tmps[2]?.getD undef = (.pointer (some ⟨w.heap.size + 1, 0, none⟩)) := by rw [hA]; kernel_rfl
          have e19 : A.tmps[19]?.getD undef = (.agg #[.slice pa v.length ca, .slice t v.length u, .int .i64 Z]) := (by rw [hA]; kernel_rfl : A.tmps[19]?.getD undef = us 5).trans hu5
          obtain ⟨⟨y0, t0⟩, ⟨y1, t1⟩, ⟨y2, t2⟩, u0, u1, u2⟩ := h3W
          clear hA hK hon hJ
          go_simp
      · have hi' := Option.some.inj hi
        subst hi'
        refine wp_val (v := (.int .i64 0)) (w' := W) ?_ (hK _ _ (hJ.pure (i := 7) (by decide) (by decide) (by decide)))
        · skip
          clear hA hK hon hJ
          go_simp
    · intro us D w4 hJ hall
      have h7 : us 7 = (.int .i64 0) := hJ.val 7 (by decide) (by decide) (by decide) (hall 7 (by decide))
      obtain ⟨t, u, hu5, hOt, hc⟩ := hJ.r5 (hall 5 (by decide))
      obtain ⟨k0, k1, k2⟩ := hc (hall 6 (by decide))
      have hbl := hJ.bel
      have hIa := HAo.out.ints.far hJ.far hbl.size (fun a e _ => by have := (HAo.out.lt a.block (by rw [e]; rfl)).1; omega)
      clear hJ hall hc Hmk
      simp only [actL, slotL, putL, List.setIfInBounds_toArray, List.set_cons_zero, List.set_cons_succ, Nat.zero_add, Nat.reduceAdd, h7]
      clear h7
      go_wp2_with fail
      refine bodyPost_ret (v := .tuple #[.agg #[.slice pa v.length ca, .slice t v.length u, .int .i64 Z], .int .i64 0]) (by simp [results, Tryz.results9, go_sem, k0, k1, k2]) rfl ?_
      rw [HX.out, HY.out, HZ.out, HF.out]
      exact ⟨pa, ca, t, u, by rw [HA.out.1, lowL_length, leaseL_len], hIa, hOt.ints, HBy.out.trans (hbl.mono hwS)⟩
  · have hcz : (chkR v r != 0) = true := by rw [bne_iff_ne]; exact hF
    have HX : Hid (bestI v r = []) := by unfold Hid bestI; rw [if_neg hF]
    have HY : Hid (leaY v r (calmG v) = []) := by unfold Hid leaY; rw [if_neg hF]
    have HZ : Hid (leaZ v r (calmG v) = 0) := by unfold Hid leaZ; rw [if_neg hF]
    clear hF
    go_wp2_with fail
    refine (refCheckR_any p c v r w1 hx2).mono ?_
    rintro e w2 ⟨rfl, hb2⟩
    have h32 := H31.out.below hb2 (by omega)
    have H32 := Lib.hid h32
    have HBy := Lib.hid (HBx.out.trans (hb2.mono (by omega)))
    obtain ⟨⟨y0, t0⟩, ⟨y1, t1⟩, ⟨y2, t2⟩, u0, u1, u2⟩ := h32
    clear hb2 c0 c1 hx2
    go_wp2_with fail
    clear t0 t1 t2 u0 u1 u2
    obtain ⟨k0, k1, k2⟩ := H32.out.set (.slice none 0 0) (.slice none 0 0) (.int .i64 0)
    refine bodyPost_ret (v := .tuple #[.agg #[.slice none 0 0, .slice none 0 0, .int .i64 0], .int .i64 (chkR v r)]) (by simp [results, Tryz.results9, go_sem, k0, k1, k2]) rfl ?_
    rw [HX.out, HY.out, HZ.out]
    exact ⟨none, 0, none, 0, rfl, Ints.ofNil _, Ints.ofNil _, ((HBy.out.setCell (p := ⟨w.heap.size + 1, 0, none⟩) (by simp) _).setCell (p := ⟨w.heap.size + 1, 1, none⟩) (by simp) _).setCell (p := ⟨w.heap.size + 1, 2, none⟩) (by simp) _⟩
end Go.Proofs.YtllcbcanohdepaaGreat

/- The walk of the reference's Worst, for every flat and lease. -/
namespace Go.Proofs.YtllcbcanohdepaaGreat
set_option linter.unusedVariables false
set_option linter.unusedSimpArgs false
open Go.ChangeShapes Go.WideShapes Go.ChangeAt Go.RowKit Go.Deep

set_option maxHeartbeats 8000000 in
set_option maxRecDepth 100000 in
theorem refWorst_any (p q s : Option Addr) (c d f : Nat) (v : List (List Int)) (r : Int) (al ps : List Int) (z : Int) (w : World) (hx : Mat w p c v) (hy : Ints w q d al) (hz : Ints w s f ps) :
    Calls Tryz.prog 12 #[.agg #[.slice p v.length c, .int .i64 r], .agg #[.slice q al.length d, .slice s ps.length f, .int .i64 z]] w fun e w' => e = .returned (.tuple #[wLo v r al ps z, wHi v r al ps z, .int .i64 (vldR v r al ps z)]) ∧ Below w.heap.size w w' := by
  obtain ⟨Wx, hWx⟩ : ∃ W, w.alloc (.cells #[.slice p v.length c, .int .i64 r] 24) = W := ⟨_, rfl⟩
  obtain ⟨Wy, hWy⟩ : ∃ W, Wx.alloc (.cells #[.slice q al.length d, .slice s ps.length f, .int .i64 z] 27) = W := ⟨_, rfl⟩
  obtain ⟨Wz, hWz⟩ : ∃ W, Wy.alloc (.cells #[.int .i64 0, .int .i64 0] 37) = W := ⟨_, rfl⟩
  obtain ⟨W0, hW0⟩ : ∃ W, Wz.alloc (.cells #[.int .i64 0, .int .i64 0] 37) = W := ⟨_, rfl⟩
  have hB1 := below_alloc hWx
  have hB2 := below_alloc hWy
  have hB3 := below_alloc hWz
  have hB4 := below_alloc hW0
  have hs1 : Wx.heap.size = w.heap.size + 1 := by rw [← hWx]; simp
  have hs2 : Wy.heap.size = w.heap.size + 1 + 1 := by rw [← hWy]; simp; omega
  have hs3 : Wz.heap.size = w.heap.size + 1 + 1 + 1 := by rw [← hWz]; simp; omega
  have hs4 : W0.heap.size = w.heap.size + 4 := by rw [← hW0]; simp; omega
  have bX : BoxV W0 w.heap.size [.slice p v.length c, .int .i64 r] := (((BoxV.new rfl hWx).below hB2).below hB3).below hB4
  have bL : BoxV W0 (w.heap.size + 1) [.slice q al.length d, .slice s ps.length f, .int .i64 z] := ((BoxV.new hs1 hWy).below hB3).below hB4
  have ta : Two W0 (w.heap.size + 1 + 1) (.int .i64 0) (.int .i64 0) := (Two.new hs2 hWz.symm).below hB4 (by omega)
  have tb : Two W0 (w.heap.size + 1 + 1 + 1) (.int .i64 0) (.int .i64 0) := Two.new hs3 hW0.symm
  have hB : Below w.heap.size w W0 := ((hB1.trans (hB2.mono hB1.size)).trans (hB3.mono (by omega))).trans (hB4.mono (by omega))
  have mX := hx.below hB (Nat.le_refl _)
  have mA := hy.below hB (Nat.le_refl _)
  have mP := hz.below hB (Nat.le_refl _)
  have HWx := Lib.hid hWx
  have HWy := Lib.hid hWy
  have HWz := Lib.hid hWz
  have HW0 := Lib.hid hW0
  have Hta := Lib.hid ta
  have Htb := Lib.hid tb
  have k0 := bX.cell 0 _ rfl
  have k1 := bX.cell 1 _ rfl
  have m0 := bL.cell 0 _ rfl
  have m1 := bL.cell 1 _ rfl
  have m2 := bL.cell 2 _ rfl
  clear hWx hWy hWz hW0 hB1 hB2 hB3 hB4 hs1 hs2 hs3 hx hy hz bX bL ta tb
  go_enter Tryz.func12, Tryz.ntmps12
  go_wp2_with fail
  rw [HWx.out, HWy.out, HWz.out, HW0.out]
  refine (refGains_any p q s c d f v r al ps z _ mX mA mP).mono ?_
  rintro e w1 ⟨q1, d1, rfl, hO, hb⟩
  have ta := Hta.out.below hb (by omega)
  have tb := Htb.out.below hb (by omega)
  have w1L := (hb.cell (p := ⟨w.heap.size + 1, 2, none⟩) (by simp only; omega)).trans m2
  have hsz : w.heap.size + 4 ≤ w1.heap.size := by have := hb.size; omega
  replace hB := hB.trans (hb.mono hB.size)
  have hI := hO.ints
  clear hb Hta Htb k0 k1 m0 m1 m2 mX mA mP hO
  have HB := Lib.hid hB
  have HA := Lib.hid ta
  have HC := Lib.hid tb
  by_cases hF : vldR v r al ps z = 0
  · have hcz : (vldR v r al ps z != 0) = false := by rw [hF]; rfl
    have hg := good_of hF
    obtain ⟨zn, rfl⟩ : ∃ zn : Nat, z = zn := ⟨z.toNat, by have := hg.z1; omega⟩
    have hz1 := hg.z1
    have hz2 := hg.z2
    have h0 := hg.bids.1
    have h6 := hg.six
    have HLo : Hid (wLo v r al ps zn = ratV (lowTo (gainL v al ps zn) v.length) zn) := by unfold Hid wLo; rw [if_pos hF]; simp
    have HHi : Hid (wHi v r al ps zn = ratV (highTo (gainL v al ps zn) v.length) zn) := by unfold Hid wHi; rw [if_pos hF]; simp
    obtain ⟨⟨l1, l2⟩, l3, l4⟩ := wLo_bd hF
    have Hgb := Lib.hid (fun i (hi : i < v.length) => gainL_bd hF hi)
    have e1 : gnsL v r al ps zn = gainL v al ps zn := by unfold gnsL; rw [if_pos hF]
    have e2 : (gainL v al ps zn).length = v.length := by rw [gainL_len, hg.alen]
    rw [e1] at hI ⊢
    rw [e2]
    have HF := Lib.hid hF
    have He2 := Lib.hid e2
    obtain ⟨gs, hgs⟩ : ∃ gs, gainL v al ps zn = gs := ⟨_, rfl⟩
    rw [hgs] at hI HLo HHi l1 l2 l3 l4 Hgb He2
    clear hg hF e1 e2 hgs ta tb hB
    have HmkL := Lib.hid (fun W => refMake_any (lowTo gs v.length) zn W (by omega) (by omega) (by omega) (by omega))
    have HmkH := Lib.hid (fun W => refMake_any (highTo gs v.length) zn W (by omega) (by omega) (by omega) (by omega))
    unfold ratV at HmkL HmkH
    obtain ⟨b, o, rfl, _, hc0⟩ := hI.get (j := 0) (by rw [He2.out]; exact h0)
    have hl0 : (0 : Int) < v.length := by omega
    rw [Nat.add_zero] at hc0
    have HI := Lib.hid hI
    have H1 : Hid (iget gs 0 = lowTo gs 1 ∧ iget gs 0 = highTo gs 1) := ⟨(lowTo_one gs).symm, (highTo_one gs).symm⟩
    clear hI
    go_wp2_with fail
    go_region
    go_wp2_with fail
    go_loopw [9, 10, 11] (fun lo hh t wr => ∃ k : Nat, 1 ≤ k ∧ k ≤ v.length ∧ lo = .int .i64 (lowTo gs k) ∧ hh = .int .i64 (highTo gs k) ∧ t = .int .i64 k ∧ ∃ N, wr = w1.drewN N) (fun _ _ t _ => v.length - (intOf t).toNat)
    case atStart => exact ⟨1, Nat.le_refl _, h0, by rw [H1.out.1], by rw [H1.out.2], rfl, _, rfl⟩
    case round =>
      obtain ⟨k, hk1, hk, rfl, rfl, rfl, N, rfl⟩ := hrel
      by_cases hlt : k < v.length
      · have hki : (k : Int) < v.length := by omega
        have hck := HI.out.at (j := k) (by rw [He2.out]; exact hlt)
        have Hlo : Hid (lowTo gs (k + 1) = min (lowTo gs k) (iget gs k)) := rfl
        have Hhi : Hid (highTo gs (k + 1) = max (highTo gs k) (iget gs k)) := rfl
        obtain ⟨L', hL'⟩ : ∃ x, lowTo gs (k + 1) = x := ⟨_, rfl⟩
        obtain ⟨H', hH'⟩ : ∃ x, highTo gs (k + 1) = x := ⟨_, rfl⟩
        rw [hL'] at Hlo
        rw [hH'] at Hhi
        have HL' := Lib.hid hL'
        have HH' := Lib.hid hH'
        clear hL' hH'
        generalize lowTo gs k = L at *
        generalize highTo gs k = U at *
        generalize iget gs k = y at *
        have m1 : min L y = L' := Hlo.out.symm
        have m2 : (if y < L then y else L) = L' := by rw [Hlo.out]; split <;> omega
        have m3 : (if L ≤ y then L else y) = L' := by rw [Hlo.out]; split <;> omega
        have m4 : max U y = H' := Hhi.out.symm
        have m5 : (if U < y then y else U) = H' := by rw [Hhi.out]; split <;> omega
        have m6 : (if U ≤ y then y else U) = H' := by rw [Hhi.out]; split <;> omega
        have m7 : (if y > U then y else U) = H' := by rw [Hhi.out]; split <;> omega
        go_wp2_with fail
        go_region
        go_wp2_with fail
        go_roundw
        case rel => exact ⟨k + 1, by omega, by omega, by rw [HL'.out], by rw [HH'.out], by go_num, _, rfl⟩
        case measure => (simp [intOf] <;> omega)
      · have hki : ¬ (k : Int) < v.length := by omega
        obtain rfl : v.length = k := by omega
        generalize lowTo gs v.length = lo at *
        generalize highTo gs v.length = hh at *
        obtain ⟨w2, hw2⟩ : ∃ W, W = w1.drewN N := ⟨_, rfl⟩
        have hb2 : Below w1.heap.size w1 w2 := by rw [hw2]; exact below_drewN _ _ _
        rw [← hw2]
        have w2L := (hb2.cell (p := ⟨w.heap.size + 1, 2, none⟩) (by simp only; omega)).trans w1L
        have hB2 := HB.out.trans (hb2.mono (by omega))
        have ta2 := HA.out.below hb2 (by omega)
        have tb2 := HC.out.below hb2 (by omega)
        have hsz2 := hb2.size
        clear hc0 hw2 hb2 w1L HI
        have HB2 := Lib.hid hB2
        have HA2 := Lib.hid ta2
        have HC2 := Lib.hid tb2
        clear hB2 ta2 tb2
        go_wp2_with fail
        refine (HmkL.out _).mono ?_
        rintro e w3 ⟨rfl, hb3⟩
        obtain ⟨W4, hW4⟩ : ∃ W, w3.alloc (.cells #[.int .i64 (rN lo zn), .int .i64 (rD lo zn)] 37) = W := ⟨_, rfl⟩
        have hb4 := hb3.trans ((below_alloc hW4).mono hb3.size)
        have hb4s := hb4.size
        have bA : BoxV W4 w3.heap.size [.int .i64 (rN lo zn), .int .i64 (rD lo zn)] := BoxV.new rfl hW4
        have w4L := (hb4.cell (p := ⟨w.heap.size + 1, 2, none⟩) (by simp only; omega)).trans w2L
        have HB4 := Lib.hid (HB2.out.trans (hb4.mono (by omega)))
        have HA4 := Lib.hid (HA2.out.below hb4 (by omega))
        have HC4 := Lib.hid (HC2.out.below hb4 (by omega))
        have HW4 := Lib.hid hW4
        have hs3 : w.heap.size + 4 ≤ w3.heap.size := by have := hb3.size; omega
        clear hb3 hb4 hW4 w2L HB2 HA2 HC2
        go_upto_region 10 with (fail)
        rw [HW4.out]
        go_wp2_with fail
        refine (HmkH.out _).mono ?_
        rintro e w5 ⟨rfl, hb5⟩
        obtain ⟨W6, hW6⟩ : ∃ W, w5.alloc (.cells #[.int .i64 (rN hh zn), .int .i64 (rD hh zn)] 37) = W := ⟨_, rfl⟩
        have hb6 := hb5.trans ((below_alloc hW6).mono hb5.size)
        have bB : BoxV W6 w5.heap.size [.int .i64 (rN hh zn), .int .i64 (rD hh zn)] := BoxV.new rfl hW6
        have bA6 := bA.below hb6
        have HB6 := Lib.hid (HB4.out.trans (hb6.mono (by omega)))
        have ta6 := HA4.out.below hb6 (by omega)
        have tb6 := HC4.out.below hb6 (by omega)
        have HA6 := Lib.hid ta6
        have HC6 := Lib.hid tb6
        have HW6 := Lib.hid hW6
        have hs5 : w.heap.size + 4 ≤ w5.heap.size := by have := hb5.size; omega
        have hne : w3.heap.size ≠ w.heap.size + 1 + 1 := by omega
        clear hb5 hb6 hW6 bA w4L HB4 HA4 HC4
        go_upto_region 11 with (fail)
        rw [HW6.out]
        have kA0 := bA6.cell 0 _ rfl
        have kA1 := bA6.cell 1 _ rfl
        have kB0 := bB.cell 0 _ rfl
        have kB1 := bB.cell 1 _ rfl
        obtain ⟨x0, x1, y0, y1⟩ := ta6
        obtain ⟨z0, z1, t0, t1⟩ := tb6
        go_region
        all_goals
          go_wp2_with fail
          clear x0 x1 y0 y1 z0 z1 t0 t1
          obtain ⟨hA5, hB5⟩ := four HA6.out HC6.out (.int .i64 (rN lo zn)) (.int .i64 (rD lo zn)) (.int .i64 (rN hh zn)) (.int .i64 (rD hh zn))
          obtain ⟨x0, x1, _, _⟩ := hA5
          obtain ⟨z0, z1, _, _⟩ := hB5
          refine bodyPost_ret (v := .tuple #[ratV lo zn, ratV hh zn, .int .i64 0]) (by simp [results, Tryz.results12, go_sem, x0, x1, z0, z1, ratV]) rfl ⟨?_, ?_⟩
          · rw [HLo.out, HHi.out, HF.out]
          · exact (below_four' HB6.out (by omega) _ _ _ _).drew
  · have hcz : (vldR v r al ps z != 0) = true := by rw [bne_iff_ne]; exact hF
    have HLo : Hid (wLo v r al ps z = zeroR) := by unfold Hid wLo; rw [if_neg hF]
    have HHi : Hid (wHi v r al ps z = zeroR) := by unfold Hid wHi; rw [if_neg hF]
    obtain ⟨x0, x1, y0, y1⟩ := ta
    obtain ⟨z0, z1, t0, t1⟩ := tb
    clear hF hB hI w1L
    go_wp2_with fail
    clear x0 x1 y0 y1 z0 z1 t0 t1
    obtain ⟨hA5, hB5⟩ := four HA.out HC.out (.int .i64 0) (.int .i64 0) (.int .i64 0) (.int .i64 0)
    obtain ⟨x0, x1, _, _⟩ := hA5
    obtain ⟨z0, z1, _, _⟩ := hB5
    refine bodyPost_ret (v := .tuple #[zeroR, zeroR, .int .i64 (vldR v r al ps z)]) (by simp [results, Tryz.results12, go_sem, x0, x1, z0, z1, zeroR]) rfl ⟨?_, ?_⟩
    · rw [HLo.out, HHi.out]
    · exact below_four' HB.out (by omega) _ _ _ _
end Go.Proofs.YtllcbcanohdepaaGreat

/-
  DERIVED: THE SHELF's CONTRACTS AT THIS DUMP, IN PLAIN WORDS (tools/lay-plain.mjs out of 'TryzShelf.lean', which tools/lay-shelf.mjs wrote): THE SAME DECLARATIONS UNDER THE SAME NAMES: 'import', 'namespace', 'open', 'def', 'theorem' AND NOTHING ELSE: no command of the shelf's: FOR A HAND-IN. Each laying: the table of numbers ('.._ren') and one theorem, a field a fact of the dump's own or the kernel's comparison; each contract: ONE APPLICATION.
-/
namespace Go.Proofs
open Go.Shelf
def Tryz.lays264_ren : Go.Shelf.Ren := ⟨fun | 264 => 68 | n => n, fun | 53 => 78 | 46 => 118 | n => n, fun | n => n⟩
theorem Tryz.lays264 : Go.Proofs.Lays.n264 Tryz.prog Tryz.lays264_ren := {
  mixed := by kernel_rfl
  f264 := Tryz.func68.trans (congrArg some (by kernel_rfl))
  t46 := Tryz.underlying118
  a46 := Tryz.isAgg118
  z46 := Tryz.sizeOf118
  v46 := Tryz.zeroValue118
  t53 := Tryz.underlying78
  a53 := Tryz.isAgg78
  z53 := Tryz.sizeOf78
  v53 := Tryz.zeroValue78 }
open Go.RowKit Go.Lib in
theorem Tryz.bits_Mul64 (x y : Nat) (hx : x < 18446744073709551616) (hy : y < 18446744073709551616) (w : World) :
    Calls Tryz.prog 68 #[.int .u64 x, .int .u64 y] w fun e w' => e = .returned (.tuple #[.int .u64 ((x * y / 18446744073709551616 : Nat) : Int), .int .u64 ((x * y % 18446744073709551616 : Nat) : Int)]) ∧ w' = w := Any.bits_Mul64 Tryz.lays264 x y hx hy w
end Go.Proofs
