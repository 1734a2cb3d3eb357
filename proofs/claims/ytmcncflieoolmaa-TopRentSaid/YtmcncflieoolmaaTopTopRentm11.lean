/- The walk of rent.leads, for every flat. -/
import Derived.Test.YtmcncflieoolmaaTopTopRentm8
import Derived.Test.YtmcncflieoolmaaTopTopRentm9
import Derived.Test.YtmcncflieoolmaaTopTopRentm10
import Derived.Test.YtmcncflieoolmaaTopTopRentm1
/- The walk of rent.leads, for every flat. -/
namespace Go.Proofs.Ytmcncflieoolmaa
set_option linter.unusedVariables false
set_option linter.unusedSimpArgs false
open Go.ChangeShapes Go.WideShapes Go.ChangeAt Go.RowKit Go.Deep

theorem lt29 {i : Nat} (h : i < 29) : i = 0 ∨ i = 1 ∨ i = 2 ∨ i = 3 ∨ i = 4 ∨ i = 5 ∨ i = 6 ∨ i = 7 ∨ i = 8 ∨ i = 9 ∨ i = 10 ∨ i = 11 ∨ i = 12 ∨ i = 13 ∨ i = 14 ∨ i = 15 ∨ i = 16 ∨ i = 17 ∨ i = 18 ∨ i = 19 ∨ i = 20 ∨ i = 21 ∨ i = 22 ∨ i = 23 ∨ i = 24 ∨ i = 25 ∨ i = 26 ∨ i = 27 ∨ i = 28 := by omega
/-- By how much the gain of an agent is at least greater than that of another one. -/
noncomputable def ldF (v : List (List Int)) (a : List Int) (i k : Nat) : Int := bid v i (itm a i) - bid v k (itm a k) + bid (linkL v a) (itm a i) (itm a k)
noncomputable def ldL (v : List (List Int)) (a : List Int) : List (List Int) := (List.range v.length).map fun i => (List.range v.length).map fun k => ldF v a i k
noncomputable def leadsL (v : List (List Int)) (r : Int) : List (List Int) := if chkR v r = 0 then ldL v (bestA v) else []
noncomputable def bestI (v : List (List Int)) (r : Int) : List Int := if chkR v r = 0 then bestA v else []
theorem ldL_len (v : List (List Int)) (a : List Int) : (ldL v a).length = v.length := by simp [ldL]
theorem ldL_row {v : List (List Int)} {a : List Int} {k : Nat} (hk : k < v.length) : rget (ldL v a) k = (List.range v.length).map fun j => ldF v a k j := by simp [ldL, rget, hk]
theorem ldL_row_len {v : List (List Int)} {a : List Int} {k : Nat} (hk : k < v.length) : (rget (ldL v a) k).length = v.length := by rw [ldL_row hk]; simp
theorem ldL_get {v : List (List Int)} {a : List Int} {k m : Nat} (hk : k < v.length) (hm : m < v.length) : iget (rget (ldL v a) k) m = ldF v a k m := tab_bid (fun i k => ldF v a i k) hk hm
theorem ldL_snoc {v : List (List Int)} {a : List Int} {k m : Nat} (hk : k < v.length) (hm : m < v.length) : (rget (ldL v a) k).take (m + 1) = (rget (ldL v a) k).take m ++ [ldF v a k m] := by
  rw [List.take_succ_eq_append_getElem (by rw [ldL_row_len hk]; exact hm)]
  simp [ldL_row hk]
/-- The call hands back a row, a table, every row its own, and a number that is an error. -/
def GivesL (w : World) (a : List Int) (v : List (List Int)) (k : Int) (e : Ending) (w' : World) : Prop := ∃ q d p c Q D, e = .returned (.tuple #[.slice q a.length d, .slice p v.length c, .int .i64 k]) ∧ Own w' w.heap.size q d a ∧ DMat w' w.heap.size p c v Q D ∧ Below w.heap.size w w'

set_option maxHeartbeats 8000000 in
set_option maxRecDepth 100000 in
theorem leads_any (p : Option Addr) (c : Nat) (v : List (List Int)) (r : Int) (w : World) (hx : Mat w p c v) :
    Calls Try.prog 21 #[.agg #[.slice p v.length c, .int .i64 r]] w (GivesL w (bestI v r) (leadsL v r) (chkR v r)) := by
  have hb0 : Below w.heap.size w (w.alloc (.cells #[.slice p v.length c, .int .i64 r] 24)) := (Below.refl _ _).alloc (Nat.le_refl _) _
  have hx1 := hx.below hb0 (Nat.le_refl _)
  obtain ⟨i0, hi0, hz0, hz1, hz2⟩ := info_parts infoInt
  by_cases hF : chkR v r = 0
  · obtain ⟨hv, hr1, hr2⟩ := chkR_zero.1 hF
    have h6 := hv.2.1
    have h0 := hv.1
    have hcz : (chkR v r != 0) = false := by rw [hF]; rfl
    have HL : Hid (leadsL v r = ldL v (bestA v) ∧ bestI v r = bestA v) := by unfold Hid leadsL bestI; rw [if_pos hF, if_pos hF]; exact ⟨rfl, rfl⟩
    have HLK : Hid (linksL v r = linkL v (bestA v)) := by unfold Hid linksL; rw [if_pos hF]
    have HF := Lib.hid hF
    have Hv := Lib.hid hv
    have HB := Lib.hid (bestA_best hv.1)
    clear hF hv
    go_enter Try.func21, Try.ntmps21
    go_wp2_with fail
    refine (roomLinks_any p c v r _ hx1).mono ?_
    rintro e w1 ⟨pl, cl, Ql, Dl, rfl, hLD, hb1⟩
    have hx2 := hx1.below hb1 (Nat.le_refl _)
    have hB1 := hb0.trans (hb1.mono (by simp))
    have hbx : w1.cell? ⟨w.heap.size, 0, none⟩ = some (.slice p v.length c) := (hb1.cell (p := ⟨w.heap.size, 0, none⟩) (by simp)).trans (by simp)
    have hLM := hLD.mat
    rw [HLK.out] at hLM
    rw [HLK.out, linkL_len]
    clear hb0 hx1 hb1 hLD HLK
    go_wp2_with fail
    refine (best_okR p c v w1 hx2 Hv.out).mono ?_
    rintro e w2 ⟨pa, ca, rfl, hAo, hb2⟩
    have HAo := Lib.hid (hAo.lower hB1.size)
    have hA := hAo.ints
    clear hAo
    have hx3 := hx2.below hb2 (Nat.le_refl _)
    have hLM2 := hLM.below hb2 (Nat.le_refl _)
    have hbx2 := (hb2.cell (p := ⟨w.heap.size, 0, none⟩) (World.block_lt_of_cell? _ _ hbx)).trans hbx
    have hB2 := hB1.trans (hb2.mono hB1.size)
    have hlt2 := World.block_lt_of_cell? _ _ hbx2
    simp only at hlt2
    clear hb2 hx2 hbx hB1 hLM
    obtain ⟨a, ha⟩ : ∃ a, bestA v = a := ⟨_, rfl⟩
    obtain ⟨B0, hB0⟩ : ∃ B0, w2.heap.size = B0 := ⟨_, rfl⟩
    have hle0 : w.heap.size ≤ B0 := by omega
    rw [ha] at hA HAo HB HL hLM2
    have HB0 := Lib.hid hB0
    have Ha := Lib.hid ha
    have Hal := Lib.hid HB.out.1.1
    have Hlk := Lib.hid (fun x y (hx : x < v.length) (hy : y < v.length) => (ha ▸ linkL_bd Hv.out hx hy : -6000000 ≤ bid (linkL v a) x y ∧ bid (linkL v a) x y ≤ 6000000))
    have Hit := Lib.hid (isA_lt HB.out.1)
    clear hB0 ha
    go_wp2_with fail
    go_loopw [3, 28] (fun s i wr => ∃ k : Nat, k ≤ v.length ∧ i = .int .i64 k ∧ (∃ u p' c' Q D, Hid (u = (ldL v a).take k) ∧ s = .slice p' (u : List (List Int)).length c' ∧ DMat wr B0 p' c' u Q D) ∧ Below B0 w2 wr) (fun _ i _ => v.length - (intOf i).toNat)
    case atStart => exact ⟨0, by omega, rfl, ⟨[], none, 0, fun _ => none, fun _ => 0, rfl, rfl, DMat.ofNil _ _⟩, Below.refl _ _⟩
    case round =>
      obtain ⟨k, hk, rfl, ⟨u, p', c', Q, D, hu, rfl, hU⟩, hB⟩ := hrel
      have hxr := hx3.below hB (Nat.le_of_eq HB0.out)
      have hAr := hA.below hB (Nat.le_of_eq HB0.out)
      have hLr := hLM2.below hB (Nat.le_of_eq HB0.out)
      have hbr := (hB.cell (p := ⟨w.heap.size, 0, none⟩) (by have := HB0.out; simp only; omega)).trans hbx2
      have hszr := hB.size
      rw [HB0.out] at hszr
      by_cases hlt : k < v.length
      · have hk1 : (k : Int) < v.length := by omega
        obtain ⟨ia, oa, rfl, _, hca⟩ := hAr.get (j := k) (by rw [Hal.out]; exact hlt)
        obtain ⟨hi1, hi2⟩ := Hit.out k hlt
        obtain ⟨x, hxx⟩ : ∃ x : Nat, iget a k = (x : Int) := ⟨(iget a k).toNat, by omega⟩
        rw [hxx] at hca
        have hitx : itm a k = x := by simp [itm, hxx]
        have hxl : x < v.length := by omega
        obtain ⟨wo, rfl⟩ : ∃ W, W = wr := ⟨_, rfl⟩
        obtain ⟨B1, hB1⟩ : ∃ B1, wo.heap.size = B1 := ⟨_, rfl⟩
        have hle1 : B0 ≤ B1 := by omega
        have HB1 := Lib.hid hB1
        clear hB1
        go_wp2_with fail
        go_loopw [8, 35] (fun s i wj => ∃ m : Nat, m ≤ v.length ∧ i = .int .i64 m ∧ (∃ rr q' d', Hid (rr = (rget (ldL v a) k).take m) ∧ s = .slice q' (rr : List Int).length d' ∧ Own wj B1 q' d' rr) ∧ Below B1 wo wj) (fun _ i _ => v.length - (intOf i).toNat)
        case atStart => exact ⟨0, by omega, rfl, ⟨[], none, 0, rfl, rfl, Own.ofNil _ _⟩, Below.refl _ _⟩
        case round =>
          obtain ⟨m, hm, rfl, ⟨rr, q', d', hr, rfl, hR⟩, hbj⟩ := hrel
          have hszj := hbj.size
          rw [HB1.out] at hszj
          by_cases hlt2 : m < v.length
          · have hm1 : (m : Int) < v.length := by omega
            have hbxj := (hbj.cell (p := ⟨w.heap.size, 0, none⟩) (by have := HB0.out; simp only; omega)).trans hbr
            have hAj := hAr.below hbj (Nat.le_of_eq HB1.out)
            have hcaj := hAj.at (j := k) (by rw [Hal.out]; exact hlt)
            have hcam := hAj.at (j := m) (by rw [Hal.out]; exact hlt2)
            obtain ⟨hj1, hj2⟩ := Hit.out m hlt2
            obtain ⟨y, hyy⟩ : ∃ y : Nat, iget a m = (y : Int) := ⟨(iget a m).toNat, by omega⟩
            rw [hyy] at hcam
            have hity : itm a m = y := by simp [itm, hyy]
            have hyl : y < v.length := by omega
            obtain ⟨b, oo, rfl, _, q1, d1, hc, hi⟩ := hxr.get hlt
            obtain ⟨q2, d2, hc', hi'⟩ := hxr.at (j := m) hlt2
            obtain ⟨bl, ol, rfl, _, q3, d3, hcl, hil⟩ := hLr.get (j := x) (by rw [linkL_len]; exact hxl)
            have hrl : (rget v k).length = v.length := (Hv.out.2.2 k hlt).1
            have hrl2 : (rget v m).length = v.length := (Hv.out.2.2 m hlt2).1
            have hrl3 : (rget (linkL v a) x).length = v.length := linkL_row_len hxl
            obtain ⟨b1, o1, rfl, _, hc1⟩ := hi.get (j := x) (by omega)
            obtain ⟨b2, o2, rfl, _, hc2⟩ := hi'.get (j := y) (by omega)
            obtain ⟨b3, o3, rfl, _, hc3⟩ := hil.get (j := y) (by omega)
            have hr1 := (Hv.out.2.2 k hlt).2 x hxl
            have hr2 := (Hv.out.2.2 m hlt2).2 y hyl
            have hr3 := Hlk.out x y hxl hyl
            have hk2 : (x : Int) < (rget v k).length := by omega
            have hk3 : (y : Int) < (rget v m).length := by omega
            have hk4 : (y : Int) < (rget (linkL v a) x).length := by omega
            have hk5 : (x : Int) < v.length := by omega
            have Hs := Lib.hid (ldL_snoc (v := v) (a := a) hlt hlt2)
            unfold ldF at Hs
            rw [hitx, hity] at Hs
            have hrr : rr.length ≤ 900000 := by rw [hr.out, List.length_take]; omega
            clear hrl hrl2 hrl3
            unfold bid at Hs hr3
            obtain ⟨y1, e1⟩ : ∃ z, iget (rget v k) x = z := ⟨_, rfl⟩
            obtain ⟨y2, e2⟩ : ∃ z, iget (rget v m) y = z := ⟨_, rfl⟩
            obtain ⟨y3, e3⟩ : ∃ z, iget (rget (linkL v a) x) y = z := ⟨_, rfl⟩
            rw [e1] at hc1 hr1 Hs
            rw [e2] at hc2 hr2 Hs
            rw [e3] at hc3 hr3 Hs
            clear e1 e2 e3
            have hy64 : in64 (y1 - y2 + y3) := ⟨by omega, by omega⟩
            have hlw : w.heap.size < B1 := by have := HB0.out; omega
            have lt1 : ∀ (q : Addr) (u : Value), wo.cell? q = some u → q.block < B1 := fun q u h => by rw [← HB1.out]; exact World.block_lt_of_cell? _ _ h
            have hlb := lt1 _ _ hc
            have hlb1 := lt1 _ _ hc1
            have hlb2 := lt1 _ _ hc2
            have hlbl := lt1 _ _ hcl
            have hlb3 := lt1 _ _ hc3
            simp only at hlb hlb1 hlb2 hlbl hlb3
            clear lt1
            have Hmk : Hid (∀ W, Below B1 wo W → (W.cell? ⟨w.heap.size, 0, none⟩ = some (.slice (some ⟨b, oo, none⟩) v.length c) ∧ W.cell? ⟨b, oo + k, none⟩ = some (.slice (some ⟨b1, o1, none⟩) (rget v k).length d1) ∧ W.cell? ⟨b1, o1 + x, none⟩ = some (.int .i64 y1) ∧ W.cell? ⟨b, oo + m, none⟩ = some (.slice (some ⟨b2, o2, none⟩) (rget v m).length d2) ∧ W.cell? ⟨b2, o2 + y, none⟩ = some (.int .i64 y2) ∧ W.cell? ⟨bl, ol + x, none⟩ = some (.slice (some ⟨b3, o3, none⟩) (rget (linkL v a) x).length d3) ∧ W.cell? ⟨b3, o3 + y, none⟩ = some (.int .i64 y3))) := fun W hG => by
              have f := fun (q : Addr) (hq : q.block < B1) => hG.cell (p := q) hq
              exact ⟨(f ⟨w.heap.size, 0, none⟩ (by simp only; omega)).trans hbr, (f ⟨b, oo + k, none⟩ hlb).trans hc, (f ⟨b1, o1 + x, none⟩ hlb1).trans hc1, (f ⟨b, oo + m, none⟩ hlb).trans hc', (f ⟨b2, o2 + y, none⟩ hlb2).trans hc2, (f ⟨bl, ol + x, none⟩ hlbl).trans hcl, (f ⟨b3, o3 + y, none⟩ hlb3).trans hc3⟩
            have hszB : ∀ W, Below B1 wo W → Below wr.heap.size wr W → B1 ≤ W.heap.size := fun W _ h => by have := h.size; omega
            go_wp2_with fail
            -- <<region
            refine wp_region_inv2 (by kernel_rfl) (by decide +kernel) (by decide +kernel) _ _ (AppS B1 wo wr 0 26 27 28 (fun kk => match kk with | 0 => (.slice q' rr.length d') | 1 => (.pointer (some ⟨w.heap.size, 0, none⟩)) | 2 => (.slice (some ⟨b, oo, none⟩) v.length c) | 3 => (.int .i64 (k : Int)) | 4 => (.pointer (some ⟨b, oo + k, none⟩)) | 5 => (.slice (some ⟨b1, o1, none⟩) (rget v k).length d1) | 6 => (.int .i64 (x : Int)) | 7 => (.pointer (some ⟨b1, o1 + x, none⟩)) | 8 => (.int .i64 (y1 : Int)) | 9 => (.pointer (some ⟨w.heap.size, 0, none⟩)) | 10 => (.slice (some ⟨b, oo, none⟩) v.length c) | 11 => (.int .i64 (m : Int)) | 12 => (.pointer (some ⟨b, oo + m, none⟩)) | 13 => (.slice (some ⟨b2, o2, none⟩) (rget v m).length d2) | 14 => (.int .i64 (y : Int)) | 15 => (.pointer (some ⟨b2, o2 + y, none⟩)) | 16 => (.int .i64 (y2 : Int)) | 17 => (.int .i64 (y1 - y2 : Int)) | 18 => (.slice (some ⟨bl, ol, none⟩) v.length cl) | 19 => (.int .i64 (x : Int)) | 20 => (.pointer (some ⟨bl, ol + x, none⟩)) | 21 => (.slice (some ⟨b3, o3, none⟩) (rget (linkL v a) x).length d3) | 22 => (.int .i64 (y : Int)) | 23 => (.pointer (some ⟨b3, o3 + y, none⟩)) | 24 => (.int .i64 (y3 : Int)) | 25 => (.int .i64 (y1 - y2 + y3 : Int)) | _ => undef) (y1 - y2 + y3) rr.length (fun W p cap => Own W B1 p cap (rr ++ [(y1 - y2 + y3)])) (.slice q' rr.length d')) ?_ ?_ ?_
            · exact fun us hus => AppS.start us (hus 28 8 (by decide +kernel) (by simp)) hbj
            · intro us D W i o A hA hi hJ hnD hon K hK
              have hlt : i < 29 := (Array.getElem?_eq_some_iff.1 hi).1
              rcases lt29 hlt with rfl | rfl | rfl | rfl | rfl | rfl | rfl | rfl | rfl | rfl | rfl | rfl | rfl | rfl | rfl | rfl | rfl | rfl | rfl | rfl | rfl | rfl | rfl | rfl | rfl | rfl | rfl | rfl | rfl
              · have hi' := Option.some.inj hi
                subst hi'
                refine wp_val (v := (.slice q' rr.length d')) (w' := W) ?_ (hK _ _ (hJ.pure (i := 0) (by decide) (by decide) (by decide)))
                · skip
                  have e8 : A.tmps[8]?.getD undef = (.slice q' rr.length d') := (by rw [hA]; kernel_rfl : A.tmps[8]?.getD undef = us 28).trans (hJ.old fun h => hnD (hJ.o1 (hJ.o2 h)).2)
                  clear hA hK hon hJ
                  go_simp
              · have hi' := Option.some.inj hi
                subst hi'
                refine wp_val (v := (.pointer (some ⟨w.heap.size, 0, none⟩))) (w' := W) ?_ (hK _ _ (hJ.pure (i := 1) (by decide) (by decide) (by decide)))
                · skip
                  have e1 : A.tmps[1]?.getD undef = (.pointer (some ⟨w.heap.size, 0, none⟩)) := by rw [hA]; kernel_rfl
                  clear hA hK hon hJ
                  go_simp
              · have hi' := Option.some.inj hi
                subst hi'
                refine wp_val (v := (.slice (some ⟨b, oo, none⟩) v.length c)) (w' := W) ?_ (hK _ _ (hJ.pure (i := 2) (by decide) (by decide) (by decide)))
                · skip
                  have e41 : A.tmps[41]?.getD undef = (.pointer (some ⟨w.heap.size, 0, none⟩)) := (by rw [hA]; kernel_rfl : A.tmps[41]?.getD undef = us 1).trans (hJ.val 1 (by decide) (by decide) (by decide) (hon 1 (by decide +kernel)))
                  obtain ⟨cc0, cc1, cc2, cc3, cc4, cc5, cc6⟩ := Hmk.out W hJ.bel
                  clear hA hK hon hJ
                  go_simp
              · have hi' := Option.some.inj hi
                subst hi'
                refine wp_val (v := (.int .i64 (k : Int))) (w' := W) ?_ (hK _ _ (hJ.pure (i := 3) (by decide) (by decide) (by decide)))
                · skip
                  have e6 : A.tmps[6]?.getD undef = (.int .i64 (k : Int)) := by rw [hA]; kernel_rfl
                  clear hA hK hon hJ
                  go_simp
              · have hi' := Option.some.inj hi
                subst hi'
                refine wp_val (v := (.pointer (some ⟨b, oo + k, none⟩))) (w' := W) ?_ (hK _ _ (hJ.pure (i := 4) (by decide) (by decide) (by decide)))
                · skip
                  have e42 : A.tmps[42]?.getD undef = (.slice (some ⟨b, oo, none⟩) v.length c) := (by rw [hA]; kernel_rfl : A.tmps[42]?.getD undef = us 2).trans (hJ.val 2 (by decide) (by decide) (by decide) (hon 2 (by decide +kernel)))
                  have e43 : A.tmps[43]?.getD undef = (.int .i64 (k : Int)) := (by rw [hA]; kernel_rfl : A.tmps[43]?.getD undef = us 3).trans (hJ.val 3 (by decide) (by decide) (by decide) (hon 3 (by decide +kernel)))
                  clear hA hK hon hJ
                  go_simp
              · have hi' := Option.some.inj hi
                subst hi'
                refine wp_val (v := (.slice (some ⟨b1, o1, none⟩) (rget v k).length d1)) (w' := W) ?_ (hK _ _ (hJ.pure (i := 5) (by decide) (by decide) (by decide)))
                · skip
                  have e44 : A.tmps[44]?.getD undef = (.pointer (some ⟨b, oo + k, none⟩)) := (by rw [hA]; kernel_rfl : A.tmps[44]?.getD undef = us 4).trans (hJ.val 4 (by decide) (by decide) (by decide) (hon 4 (by decide +kernel)))
                  obtain ⟨cc0, cc1, cc2, cc3, cc4, cc5, cc6⟩ := Hmk.out W hJ.bel
                  clear hA hK hon hJ
                  go_simp
              · have hi' := Option.some.inj hi
                subst hi'
                refine wp_val (v := (.int .i64 (x : Int))) (w' := W) ?_ (hK _ _ (hJ.pure (i := 6) (by decide) (by decide) (by decide)))
                · skip
                  have e7 : A.tmps[7]?.getD undef = (.int .i64 (x : Int)) := by rw [hA]; kernel_rfl
                  clear hA hK hon hJ
                  go_simp
              · have hi' := Option.some.inj hi
                subst hi'
                refine wp_val (v := (.pointer (some ⟨b1, o1 + x, none⟩))) (w' := W) ?_ (hK _ _ (hJ.pure (i := 7) (by decide) (by decide) (by decide)))
                · skip
                  have e45 : A.tmps[45]?.getD undef = (.slice (some ⟨b1, o1, none⟩) (rget v k).length d1) := (by rw [hA]; kernel_rfl : A.tmps[45]?.getD undef = us 5).trans (hJ.val 5 (by decide) (by decide) (by decide) (hon 5 (by decide +kernel)))
                  have e46 : A.tmps[46]?.getD undef = (.int .i64 (x : Int)) := (by rw [hA]; kernel_rfl : A.tmps[46]?.getD undef = us 6).trans (hJ.val 6 (by decide) (by decide) (by decide) (hon 6 (by decide +kernel)))
                  clear hA hK hon hJ
                  go_simp
              · have hi' := Option.some.inj hi
                subst hi'
                refine wp_val (v := (.int .i64 (y1 : Int))) (w' := W) ?_ (hK _ _ (hJ.pure (i := 8) (by decide) (by decide) (by decide)))
                · skip
                  have e47 : A.tmps[47]?.getD undef = (.pointer (some ⟨b1, o1 + x, none⟩)) := (by rw [hA]; kernel_rfl : A.tmps[47]?.getD undef = us 7).trans (hJ.val 7 (by decide) (by decide) (by decide) (hon 7 (by decide +kernel)))
                  obtain ⟨cc0, cc1, cc2, cc3, cc4, cc5, cc6⟩ := Hmk.out W hJ.bel
                  clear hA hK hon hJ
                  go_simp
              · have hi' := Option.some.inj hi
                subst hi'
                refine wp_val (v := (.pointer (some ⟨w.heap.size, 0, none⟩))) (w' := W) ?_ (hK _ _ (hJ.pure (i := 9) (by decide) (by decide) (by decide)))
                · skip
                  have e1 : A.tmps[1]?.getD undef = (.pointer (some ⟨w.heap.size, 0, none⟩)) := by rw [hA]; kernel_rfl
                  clear hA hK hon hJ
                  go_simp
              · have hi' := Option.some.inj hi
                subst hi'
                refine wp_val (v := (.slice (some ⟨b, oo, none⟩) v.length c)) (w' := W) ?_ (hK _ _ (hJ.pure (i := 10) (by decide) (by decide) (by decide)))
                · skip
                  have e49 : A.tmps[49]?.getD undef = (.pointer (some ⟨w.heap.size, 0, none⟩)) := (by rw [hA]; kernel_rfl : A.tmps[49]?.getD undef = us 9).trans (hJ.val 9 (by decide) (by decide) (by decide) (hon 9 (by decide +kernel)))
                  obtain ⟨cc0, cc1, cc2, cc3, cc4, cc5, cc6⟩ := Hmk.out W hJ.bel
                  clear hA hK hon hJ
                  go_simp
              · have hi' := Option.some.inj hi
                subst hi'
                refine wp_val (v := (.int .i64 (m : Int))) (w' := W) ?_ (hK _ _ (hJ.pure (i := 11) (by decide) (by decide) (by decide)))
                · skip
                  have e9 : A.tmps[9]?.getD undef = (.int .i64 (m : Int)) := by rw [hA]; kernel_rfl
                  clear hA hK hon hJ
                  go_simp
              · have hi' := Option.some.inj hi
                subst hi'
                refine wp_val (v := (.pointer (some ⟨b, oo + m, none⟩))) (w' := W) ?_ (hK _ _ (hJ.pure (i := 12) (by decide) (by decide) (by decide)))
                · skip
                  have e50 : A.tmps[50]?.getD undef = (.slice (some ⟨b, oo, none⟩) v.length c) := (by rw [hA]; kernel_rfl : A.tmps[50]?.getD undef = us 10).trans (hJ.val 10 (by decide) (by decide) (by decide) (hon 10 (by decide +kernel)))
                  have e51 : A.tmps[51]?.getD undef = (.int .i64 (m : Int)) := (by rw [hA]; kernel_rfl : A.tmps[51]?.getD undef = us 11).trans (hJ.val 11 (by decide) (by decide) (by decide) (hon 11 (by decide +kernel)))
                  clear hA hK hon hJ
                  go_simp
              · have hi' := Option.some.inj hi
                subst hi'
                refine wp_val (v := (.slice (some ⟨b2, o2, none⟩) (rget v m).length d2)) (w' := W) ?_ (hK _ _ (hJ.pure (i := 13) (by decide) (by decide) (by decide)))
                · skip
                  have e52 : A.tmps[52]?.getD undef = (.pointer (some ⟨b, oo + m, none⟩)) := (by rw [hA]; kernel_rfl : A.tmps[52]?.getD undef = us 12).trans (hJ.val 12 (by decide) (by decide) (by decide) (hon 12 (by decide +kernel)))
                  obtain ⟨cc0, cc1, cc2, cc3, cc4, cc5, cc6⟩ := Hmk.out W hJ.bel
                  clear hA hK hon hJ
                  go_simp
              · have hi' := Option.some.inj hi
                subst hi'
                refine wp_val (v := (.int .i64 (y : Int))) (w' := W) ?_ (hK _ _ (hJ.pure (i := 14) (by decide) (by decide) (by decide)))
                · skip
                  have e10 : A.tmps[10]?.getD undef = (.int .i64 (y : Int)) := by rw [hA]; kernel_rfl
                  clear hA hK hon hJ
                  go_simp
              · have hi' := Option.some.inj hi
                subst hi'
                refine wp_val (v := (.pointer (some ⟨b2, o2 + y, none⟩))) (w' := W) ?_ (hK _ _ (hJ.pure (i := 15) (by decide) (by decide) (by decide)))
                · skip
                  have e53 : A.tmps[53]?.getD undef = (.slice (some ⟨b2, o2, none⟩) (rget v m).length d2) := (by rw [hA]; kernel_rfl : A.tmps[53]?.getD undef = us 13).trans (hJ.val 13 (by decide) (by decide) (by decide) (hon 13 (by decide +kernel)))
                  have e54 : A.tmps[54]?.getD undef = (.int .i64 (y : Int)) := (by rw [hA]; kernel_rfl : A.tmps[54]?.getD undef = us 14).trans (hJ.val 14 (by decide) (by decide) (by decide) (hon 14 (by decide +kernel)))
                  clear hA hK hon hJ
                  go_simp
              · have hi' := Option.some.inj hi
                subst hi'
                refine wp_val (v := (.int .i64 (y2 : Int))) (w' := W) ?_ (hK _ _ (hJ.pure (i := 16) (by decide) (by decide) (by decide)))
                · skip
                  have e55 : A.tmps[55]?.getD undef = (.pointer (some ⟨b2, o2 + y, none⟩)) := (by rw [hA]; kernel_rfl : A.tmps[55]?.getD undef = us 15).trans (hJ.val 15 (by decide) (by decide) (by decide) (hon 15 (by decide +kernel)))
                  obtain ⟨cc0, cc1, cc2, cc3, cc4, cc5, cc6⟩ := Hmk.out W hJ.bel
                  clear hA hK hon hJ
                  go_simp
              · have hi' := Option.some.inj hi
                subst hi'
                refine wp_val (v := (.int .i64 (y1 - y2 : Int))) (w' := W) ?_ (hK _ _ (hJ.pure (i := 17) (by decide) (by decide) (by decide)))
                · skip
                  have e48 : A.tmps[48]?.getD undef = (.int .i64 (y1 : Int)) := (by rw [hA]; kernel_rfl : A.tmps[48]?.getD undef = us 8).trans (hJ.val 8 (by decide) (by decide) (by decide) (hon 8 (by decide +kernel)))
                  have e56 : A.tmps[56]?.getD undef = (.int .i64 (y2 : Int)) := (by rw [hA]; kernel_rfl : A.tmps[56]?.getD undef = us 16).trans (hJ.val 16 (by decide) (by decide) (by decide) (hon 16 (by decide +kernel)))
                  have hwA : IntKind.i64.wrap (y1 - y2) = y1 - y2 := IntWalk.i64_in _ (by omega)
                  clear hA hK hon hJ
                  go_simp
              · have hi' := Option.some.inj hi
                subst hi'
                refine wp_val (v := (.slice (some ⟨bl, ol, none⟩) v.length cl)) (w' := W) ?_ (hK _ _ (hJ.pure (i := 18) (by decide) (by decide) (by decide)))
                · skip
                  have e5 : A.tmps[5]?.getD undef = (.slice (some ⟨bl, ol, none⟩) v.length cl) := by rw [hA]; kernel_rfl
                  clear hA hK hon hJ
                  go_simp
              · have hi' := Option.some.inj hi
                subst hi'
                refine wp_val (v := (.int .i64 (x : Int))) (w' := W) ?_ (hK _ _ (hJ.pure (i := 19) (by decide) (by decide) (by decide)))
                · skip
                  have e7 : A.tmps[7]?.getD undef = (.int .i64 (x : Int)) := by rw [hA]; kernel_rfl
                  clear hA hK hon hJ
                  go_simp
              · have hi' := Option.some.inj hi
                subst hi'
                refine wp_val (v := (.pointer (some ⟨bl, ol + x, none⟩))) (w' := W) ?_ (hK _ _ (hJ.pure (i := 20) (by decide) (by decide) (by decide)))
                · skip
                  have e58 : A.tmps[58]?.getD undef = (.slice (some ⟨bl, ol, none⟩) v.length cl) := (by rw [hA]; kernel_rfl : A.tmps[58]?.getD undef = us 18).trans (hJ.val 18 (by decide) (by decide) (by decide) (hon 18 (by decide +kernel)))
                  have e59 : A.tmps[59]?.getD undef = (.int .i64 (x : Int)) := (by rw [hA]; kernel_rfl : A.tmps[59]?.getD undef = us 19).trans (hJ.val 19 (by decide) (by decide) (by decide) (hon 19 (by decide +kernel)))
                  clear hA hK hon hJ
                  go_simp
              · have hi' := Option.some.inj hi
                subst hi'
                refine wp_val (v := (.slice (some ⟨b3, o3, none⟩) (rget (linkL v a) x).length d3)) (w' := W) ?_ (hK _ _ (hJ.pure (i := 21) (by decide) (by decide) (by decide)))
                · skip
                  have e60 : A.tmps[60]?.getD undef = (.pointer (some ⟨bl, ol + x, none⟩)) := (by rw [hA]; kernel_rfl : A.tmps[60]?.getD undef = us 20).trans (hJ.val 20 (by decide) (by decide) (by decide) (hon 20 (by decide +kernel)))
                  obtain ⟨cc0, cc1, cc2, cc3, cc4, cc5, cc6⟩ := Hmk.out W hJ.bel
                  clear hA hK hon hJ
                  go_simp
              · have hi' := Option.some.inj hi
                subst hi'
                refine wp_val (v := (.int .i64 (y : Int))) (w' := W) ?_ (hK _ _ (hJ.pure (i := 22) (by decide) (by decide) (by decide)))
                · skip
                  have e10 : A.tmps[10]?.getD undef = (.int .i64 (y : Int)) := by rw [hA]; kernel_rfl
                  clear hA hK hon hJ
                  go_simp
              · have hi' := Option.some.inj hi
                subst hi'
                refine wp_val (v := (.pointer (some ⟨b3, o3 + y, none⟩))) (w' := W) ?_ (hK _ _ (hJ.pure (i := 23) (by decide) (by decide) (by decide)))
                · skip
                  have e61 : A.tmps[61]?.getD undef = (.slice (some ⟨b3, o3, none⟩) (rget (linkL v a) x).length d3) := (by rw [hA]; kernel_rfl : A.tmps[61]?.getD undef = us 21).trans (hJ.val 21 (by decide) (by decide) (by decide) (hon 21 (by decide +kernel)))
                  have e62 : A.tmps[62]?.getD undef = (.int .i64 (y : Int)) := (by rw [hA]; kernel_rfl : A.tmps[62]?.getD undef = us 22).trans (hJ.val 22 (by decide) (by decide) (by decide) (hon 22 (by decide +kernel)))
                  clear hA hK hon hJ
                  go_simp
              · have hi' := Option.some.inj hi
                subst hi'
                refine wp_val (v := (.int .i64 (y3 : Int))) (w' := W) ?_ (hK _ _ (hJ.pure (i := 24) (by decide) (by decide) (by decide)))
                · skip
                  have e63 : A.tmps[63]?.getD undef = (.pointer (some ⟨b3, o3 + y, none⟩)) := (by rw [hA]; kernel_rfl : A.tmps[63]?.getD undef = us 23).trans (hJ.val 23 (by decide) (by decide) (by decide) (hon 23 (by decide +kernel)))
                  obtain ⟨cc0, cc1, cc2, cc3, cc4, cc5, cc6⟩ := Hmk.out W hJ.bel
                  clear hA hK hon hJ
                  go_simp
              · have hi' := Option.some.inj hi
                subst hi'
                refine wp_val (v := (.int .i64 (y1 - y2 + y3 : Int))) (w' := W) ?_ (hK _ _ (hJ.pure (i := 25) (by decide) (by decide) (by decide)))
                · skip
                  have e57 : A.tmps[57]?.getD undef = (.int .i64 (y1 - y2 : Int)) := (by rw [hA]; kernel_rfl : A.tmps[57]?.getD undef = us 17).trans (hJ.val 17 (by decide) (by decide) (by decide) (hon 17 (by decide +kernel)))
                  have e64 : A.tmps[64]?.getD undef = (.int .i64 (y3 : Int)) := (by rw [hA]; kernel_rfl : A.tmps[64]?.getD undef = us 24).trans (hJ.val 24 (by decide) (by decide) (by decide) (hon 24 (by decide +kernel)))
                  have hwA : IntKind.i64.wrap (y1 - y2 + y3) = y1 - y2 + y3 := IntWalk.i64_in _ (by omega)
                  clear hA hK hon hJ
                  go_simp
              · have hi' := Option.some.inj hi
                subst hi'
                have hsB := hszB W hJ.bel (hJ.pre (fun hd => hnD (hJ.o1 hd).1))
                refine wp_val (v := .slice (some ⟨W.heap.size, 0, none⟩) 1 1) (w' := W.alloc (.cells #[.int .i64 (y1 - y2 + y3)] 3)) ?_ (hK _ _ (hJ.build hnD (by decide) (by decide) hsB _))
                · skip
                  have e65 : A.tmps[65]?.getD undef = (.int .i64 (y1 - y2 + y3 : Int)) := (by rw [hA]; kernel_rfl : A.tmps[65]?.getD undef = us 25).trans (hJ.val 25 (by decide) (by decide) (by decide) (hon 25 (by decide +kernel)))
                  clear hA hK hon hJ
                  go_simp
              · have hi' := Option.some.inj hi
                subst hi'
                obtain ⟨b', hb', hc'⟩ := hJ.lit (hon 26 (by decide +kernel)) hnD
                have hP := hJ.pre hnD
                have e40 : A.tmps[40]?.getD undef = (.slice q' rr.length d') := (by rw [hA]; kernel_rfl : A.tmps[40]?.getD undef = us 0).trans (hJ.val 0 (by decide) (by decide) (by decide) (hon 0 (by decide +kernel)))
                have e66 : A.tmps[66]?.getD undef = .slice (some ⟨b', 0, none⟩) 1 1 := (by rw [hA]; kernel_rfl : A.tmps[66]?.getD undef = us 26).trans hb'
                refine wp_append_lies _ (.tmp 40) (.tmp 66) 27 (by rfl) B1 3 i0 (.int .i64 0) 1 8 Try.underlying27 hi0 hz0 hz1 hz2 rfl (by decide) (.slice q' rr.length d') rr.length (rr.map (Value.int .i64)) ((evalTmp A 40).trans e40) (hR.below hP (Nat.le_refl _)).row ⟨b', 0, none⟩ 1 1 [.int .i64 (y1 - y2 + y3)] ((evalTmp A 66).trans e66) rfl (newsOne hc') (by simp [Value.oneCell']) (by decide) (by simp [maxLen]; omega) (by omega) (by have := hP.size; omega) _ rfl ?_
                intro g4 cap4 w4 hO4 hg4 hor4 hlt4
                have hG4 : Below B1 W w4 := Below.grown (Below.refl _ _) hg4 (by have := hP.size; omega) (fun k' e => by rw [ownBlock_slice] at e; exact (hR.lt k' e).1)
                have hF1 := own_snocR hO4 hR.rng hy64
                have hF7 := hJ.bel.trans hG4
                have h26 := hon 26 (by decide +kernel)
                have h0' := hon 0 (by decide +kernel)
                have hJ2 := hJ.append (p := some ⟨g4, 0, none⟩) (cap := cap4) hnD h26 h0' (by decide) (by decide) hF7 hF1
                exact hK _ _ hJ2
              · have hi' := Option.some.inj hi
                subst hi'
                obtain ⟨p', cap', hu', hF', _⟩ := hJ.mid (hon 27 (by decide +kernel))
                refine wp_val (v := us 27) (w' := W) ?_ (hK _ _ (hJ.lay (hon 27 (by decide +kernel)) hnD (by decide) (by decide)))
                have e67 : A.tmps[67]?.getD undef = us 27 := by rw [hA]; kernel_rfl
                clear hA hK hon hJ
                go_simp
            -- >>region
            · intro us D wd hJ hall
              obtain ⟨p3, c3, h27, hO3, h28⟩ := hJ.mid (hall 27 (by decide))
              have h28' := h28 (hall 28 (by decide))
              have hb3 := hJ.bel
              clear hJ hall h28 h27 Hmk
              simp only [actL, slotL, putL, List.setIfInBounds_toArray, List.set_cons_zero, List.set_cons_succ, h28']
              go_wp2_with fail
              go_roundw
              case rel => exact ⟨m + 1, by omega, by go_num, ⟨rr ++ [y1 - y2 + y3], _, _, by unfold Hid; rw [Hs.out, hr.out], by simp, hO3⟩, hb3⟩
              case measure => simp [intOf]; omega
          · have hm1 : ¬ (m : Int) < v.length := by omega
            obtain rfl : m = v.length := by omega
            have hrw : rr = rget (ldL v a) k := by rw [hr.out, List.take_of_length_le (by rw [ldL_row_len hlt]; exact Nat.le_refl _)]
            have hU2 := hU.below hbj (Nat.le_of_eq HB1.out)
            have hul : u.length ≤ 900000 := by have := congrArg List.length hu.out; rw [List.length_take] at this; omega
            have hR2 := hR.lower hle1
            have hnew : ∀ j, j < u.length → ∀ k', blk (Q j) = some k' → blk q' ≠ some k' := fun j hj k' e1 e2 => by
              have h1 := (hU.lt j hj k' e1).2
              have h2 := (hR.lt k' e2).1
              have := HB1.out
              omega
            have hBj : Below B0 w2 wr := hB.trans (hbj.mono hle1)
            have Hrw := Lib.hid hrw
            clear hrw hr
            go_wp2_with (at_builtin; refine wpList_appOwnRow rfl (.tmp 69) (.tmp 71) rfl B0 _ _ _ Q D _ _ rr rfl rfl rfl hU2 hR2 hnew hul (by omega) ?_; intro p3 c3 w3 u3 hu3 hD3 hg3 hf3)
            go_roundw
            case rel => exact ⟨k + 1, by omega, by go_num, ⟨u3, _, _, _, _, by unfold Hid; rw [hu3.out, hu.out, Hrw.out, take_rows _ (by rw [ldL_len]; exact hlt)], rfl, hD3⟩, hBj.grown hg3 (by omega) (fun k' e => (hU2.tmat.lt k' e).1)⟩
            case measure => simp [intOf]; omega
      · have hk1 : ¬ (k : Int) < v.length := by omega
        obtain rfl : k = v.length := by omega
        have hul : u = ldL v a := by rw [hu.out, List.take_of_length_le (by rw [ldL_len]; exact Nat.le_refl _)]
        have hll : u.length = v.length := by rw [hul, ldL_len]
        have Hul := Lib.hid hul
        have Hll := Lib.hid hll
        have HU := Lib.hid hU
        have HBw := Lib.hid hB
        clear hul hll hu hU hB hxr hAr hLr hbr hx3 hA hLM2 hbx2
        go_wp2_with fail
        have hD := HU.out
        have hul := Hul.out
        subst hul
        refine bodyPost_ret (v := .tuple #[.slice pa v.length ca, .slice p' (ldL v a).length c', .int .i64 0]) (by simp [results, Try.results21, go_sem]) rfl ?_
        rw [HL.out.1, HL.out.2, HF.out]
        exact ⟨pa, ca, p', c', Q, D, by rw [Hal.out], HAo.out.below HBw.out (Nat.le_of_eq HB0.out), ⟨hD.tmat.top.lower' hle0, fun i hi => (hD.rows i hi).lower hle0, hD.apart⟩, hB2.trans (HBw.out.mono hle0)⟩
  · have hcz : (chkR v r != 0) = true := by rw [bne_iff_ne]; exact hF
    have HL : Hid (leadsL v r = [] ∧ bestI v r = []) := by unfold Hid leadsL bestI; rw [if_neg hF, if_neg hF]; exact ⟨rfl, rfl⟩
    have HLK : Hid (linksL v r = []) := by unfold Hid linksL; rw [if_neg hF]
    clear hF
    go_enter Try.func21, Try.ntmps21
    go_wp2_with fail
    refine (roomLinks_any p c v r _ hx1).mono ?_
    rintro e w1 ⟨pl, cl, Ql, Dl, rfl, _, hb1⟩
    go_wp2_with fail
    refine bodyPost_ret (v := .tuple #[.slice none 0 0, .slice none 0 0, .int .i64 (chkR v r)]) (by simp [results, Try.results21, go_sem]) rfl ?_
    rw [HL.out.1, HL.out.2]
    exact ⟨none, 0, none, 0, fun _ => none, fun _ => 0, rfl, Own.ofNil _ _, DMat.ofNil _ _, hb0.trans (hb1.mono (by simp))⟩
end Go.Proofs.Ytmcncflieoolmaa

/- The greatest divisor that numbers have in common, sought from above, and by remainders; plain, no program. -/
namespace Go.Proofs.Ytmcncflieoolmaa
set_option linter.unusedVariables false
set_option linter.unusedSimpArgs false

/-- The greatest common divisor of n and all numbers. -/
def gcdL (n : Nat) (l : List Int) : Nat := l.foldl (fun g x => Nat.gcd g x.natAbs) n
theorem gcdL_nil (n : Nat) : gcdL n [] = n := rfl
theorem gcdL_snoc (n : Nat) (l : List Int) (x : Int) : gcdL n (l ++ [x]) = Nat.gcd (gcdL n l) x.natAbs := by simp [gcdL]
theorem gcdL_dvd : ∀ (l : List Int) (n d : Nat), d ∣ gcdL n l ↔ d ∣ n ∧ ∀ x ∈ l, d ∣ x.natAbs
  | [], n, d => by simp [gcdL]
  | x :: l, n, d => by
    have h := gcdL_dvd l (Nat.gcd n x.natAbs) d
    show d ∣ gcdL (Nat.gcd n x.natAbs) l ↔ _
    rw [h, Nat.dvd_gcd_iff]
    constructor
    · rintro ⟨⟨h1, h2⟩, h3⟩
      refine ⟨h1, fun y hy => ?_⟩
      rcases List.mem_cons.1 hy with rfl | hy
      · exact h2
      · exact h3 y hy
    · rintro ⟨h1, h2⟩
      exact ⟨⟨h1, h2 x (by simp)⟩, fun y hy => h2 y (List.mem_cons_of_mem _ hy)⟩
theorem gcdL_pos {n : Nat} (l : List Int) (h : 0 < n) : 0 < gcdL n l := Nat.pos_of_dvd_of_pos ((gcdL_dvd l n _).1 (Nat.dvd_refl _)).1 h
theorem gcdL_le {n : Nat} (l : List Int) (h : 0 < n) : gcdL n l ≤ n := Nat.le_of_dvd h ((gcdL_dvd l n _).1 (Nat.dvd_refl _)).1
/-- d divides n and all numbers. -/
def Comm (n : Nat) (l : List Int) (d : Nat) : Prop := d ∣ n ∧ ∀ x ∈ l, d ∣ x.natAbs
theorem comm_gcd (n : Nat) (l : List Int) : Comm n l (gcdL n l) := (gcdL_dvd l n _).1 (Nat.dvd_refl _)
theorem comm_le {n : Nat} {l : List Int} {d : Nat} (hn : 0 < n) (h : Comm n l d) : d ≤ gcdL n l := Nat.le_of_dvd (gcdL_pos l hn) ((gcdL_dvd l n d).2 h)
theorem tmod_zero {x : Int} {d : Nat} : x.tmod d = 0 ↔ d ∣ x.natAbs := by
  rw [← Int.dvd_iff_tmod_eq_zero, ← Int.natAbs_dvd_natAbs]; simp
/-- The numbers, and the denominator, without what they have in common. -/
def lowL (n : Nat) (l : List Int) : List Int := l.map fun x => x.tdiv (gcdL n l)
def lowN (n : Nat) (l : List Int) : Int := ((n / gcdL n l : Nat) : Int)
theorem lowL_length (n : Nat) (l : List Int) : (lowL n l).length = l.length := by simp [lowL]
theorem low_one {n : Nat} {l : List Int} (h : gcdL n l = 1) : lowL n l = l ∧ lowN n l = n := by
  unfold lowL lowN; rw [h]; simp
end Go.Proofs.Ytmcncflieoolmaa
