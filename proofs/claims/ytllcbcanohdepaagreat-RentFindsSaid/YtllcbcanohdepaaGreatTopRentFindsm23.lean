/- The walk of rent.Worst, for every flat and lease.  (The regions are printed by wip/genrentw.py.) -/
import Derived.Test.YtllcbcanohdepaaGreatTopRentFindsm17
import Derived.Test.YtllcbcanohdepaaGreatTopRentFindsm14
import Derived.Test.YtllcbcanohdepaaGreatTopRentFindsm22
import Derived.Test.YtllcbcanohdepaaGreatTopRentFindsm10
/- The walk of rent.Worst, for every flat and lease.  (The regions are printed by wip/genrentw.py.) -/
namespace Go.Proofs.YtllcbcanohdepaaGreat
set_option linter.unusedVariables false
set_option linter.unusedSimpArgs false
open Go.ChangeShapes Go.WideShapes Go.ChangeAt Go.RowKit Go.Deep

theorem lt9 {i : Nat} (h : i < 9) : i = 0 ∨ i = 1 ∨ i = 2 ∨ i = 3 ∨ i = 4 ∨ i = 5 ∨ i = 6 ∨ i = 7 ∨ i = 8 := by omega
/-- Rows are read where all blocks but one keep their cells. -/
theorem Ints.far {B W : World} {R : Nat} {p : Option Addr} {c : Nat} {xs : List Int} (h : Ints B p c xs) (hf : ∀ S k, S < B.heap.size → S ≠ R → W.cell? ⟨S, k, none⟩ = B.cell? ⟨S, k, none⟩) (hs : B.heap.size ≤ W.heap.size) (hR : ∀ a, p = some a → 0 < c → a.block ≠ R) : Ints W p c xs := by
  refine ⟨h.le, h.max, h.nil, fun a e hc => ⟨(h.plain a e hc).1, Nat.lt_of_lt_of_le (h.plain a e hc).2 hs⟩, fun b o e j hj => ?_, h.rng⟩
  have hc : 0 < c := by have := h.le; omega
  have h1 := h.plain _ e hc
  have h2 := hR _ e hc
  rw [hf b (o + j) h1.2 h2]
  exact h.cell b o e j hj
/-- Two blocks written again. -/
theorem four' {X : World} {S : Nat} {x0 x1 y0 y1 : Value} (hA : Two X S x0 x1) (hB : Two X (S + 1) y0 y1) (u0 u1 v0 v1 : Value) :
    Two ((((X.setCell ⟨S, 0, none⟩ u0).setCell ⟨S, 1, none⟩ u1).setCell ⟨S + 1, 0, none⟩ v0).setCell ⟨S + 1, 1, none⟩ v1) S u0 u1 ∧
    Two ((((X.setCell ⟨S, 0, none⟩ u0).setCell ⟨S, 1, none⟩ u1).setCell ⟨S + 1, 0, none⟩ v0).setCell ⟨S + 1, 1, none⟩ v1) (S + 1) v0 v1 :=
  ⟨(hA.put.far (by omega)).far (by omega), ((hB.far (by omega)).far (by omega)).put⟩
theorem below_four' {w X : World} {B S : Nat} (hb : Below B w X) (hS : B ≤ S) (u0 u1 v0 v1 : Value) :
    Below B w ((((X.setCell ⟨S, 0, none⟩ u0).setCell ⟨S, 1, none⟩ u1).setCell ⟨S + 1, 0, none⟩ v0).setCell ⟨S + 1, 1, none⟩ v1) :=
  (((hb.setCell (p := ⟨S, 0, none⟩) hS _).setCell (p := ⟨S, 1, none⟩) hS _).setCell (p := ⟨S + 1, 0, none⟩) (by simp only; omega) _).setCell (p := ⟨S + 1, 1, none⟩) (by simp only; omega) _
def wLo (v : List (List Int)) (r : Int) (al ps : List Int) (z : Int) : Value := if vldR v r al ps z = 0 then ratV (lowTo (gainL v al ps z) v.length) z.toNat else zeroR
def wHi (v : List (List Int)) (r : Int) (al ps : List Int) (z : Int) : Value := if vldR v r al ps z = 0 then ratV (highTo (gainL v al ps z) v.length) z.toNat else zeroR
theorem gainL_bd {v : List (List Int)} {r : Int} {al ps : List Int} {z : Int} (h : vldR v r al ps z = 0) {i : Nat} (hi : i < v.length) : -700000000 ≤ iget (gainL v al ps z) i ∧ iget (gainL v al ps z) i ≤ 700000000 := by
  have hg := good_of h
  rw [gainL_get (by rw [hg.alen]; exact hi)]
  have h1 := hg.itm i hi
  have h2 := hg.bid i hi _ h1.2
  have h3 := bz_bd h2.1 h2.2 hg.z1 hg.z2
  have h4 := hg.price _ h1.2
  unfold gainI bid
  omega
theorem wLo_bd {v : List (List Int)} {r : Int} {al ps : List Int} {z : Int} (h : vldR v r al ps z = 0) : (-700000000 ≤ lowTo (gainL v al ps z) v.length ∧ lowTo (gainL v al ps z) v.length ≤ 700000000) ∧ (-700000000 ≤ highTo (gainL v al ps z) v.length ∧ highTo (gainL v al ps z) v.length ≤ 700000000) := by
  have h0 := (good_of h).bids.1
  obtain ⟨j, hj, e⟩ := lowTo_mem (gainL v al ps z) v.length h0
  obtain ⟨k, hk, e2⟩ := highTo_mem (gainL v al ps z) v.length h0
  rw [e, e2]
  exact ⟨gainL_bd h hj, gainL_bd h hk⟩

set_option maxHeartbeats 8000000 in
set_option maxRecDepth 100000 in
theorem rentWorst_any (p q s : Option Addr) (c d f : Nat) (v : List (List Int)) (r : Int) (al ps : List Int) (z : Int) (w : World) (hx : Mat w p c v) (hy : Ints w q d al) (hz : Ints w s f ps) (hl : al.length ≤ 1000000) :
    Calls Tryz.prog 11 #[.agg #[.slice p v.length c, .int .i64 r], .agg #[.slice q al.length d, .slice s ps.length f, .int .i64 z]] w fun e w' => e = .returned (.tuple #[wLo v r al ps z, wHi v r al ps z, .int .i64 (vldR v r al ps z)]) ∧ Below w.heap.size w w' := by
  obtain ⟨Wx, hWx⟩ : ∃ W, w.alloc (.cells #[.slice p v.length c, .int .i64 r] 24) = W := ⟨_, rfl⟩
  obtain ⟨Wy, hWy⟩ : ∃ W, Wx.alloc (.cells #[.slice q al.length d, .slice s ps.length f, .int .i64 z] 27) = W := ⟨_, rfl⟩
  obtain ⟨Wz, hWz⟩ : ∃ W, Wy.alloc (.cells #[.int .i64 0, .int .i64 0] 37) = W := ⟨_, rfl⟩
  obtain ⟨W0, hW0⟩ : ∃ W, Wz.alloc (.cells #[.int .i64 0, .int .i64 0] 37) = W := ⟨_, rfl⟩
  have hB1 := below_alloc hWx
  have hB2 := below_alloc hWy
  have hB3 := below_alloc hWz
  have hB4 := below_alloc hW0
  have hs1 : Wx.heap.size = w.heap.size + 1 := by rw [← hWx]; simp
  have hs2 : Wy.heap.size = w.heap.size + 2 := by rw [← hWy]; simp; omega
  have hs3 : Wz.heap.size = w.heap.size + 2 + 1 := by rw [← hWz]; simp; omega
  have hs4 : W0.heap.size = w.heap.size + 4 := by rw [← hW0]; simp; omega
  have bX : BoxV W0 w.heap.size [.slice p v.length c, .int .i64 r] := (((BoxV.new rfl hWx).below hB2).below hB3).below hB4
  have bL : BoxV W0 (w.heap.size + 1) [.slice q al.length d, .slice s ps.length f, .int .i64 z] := ((BoxV.new hs1 hWy).below hB3).below hB4
  have ta : Two W0 (w.heap.size + 2) (.int .i64 0) (.int .i64 0) := (Two.new hs2 hWz.symm).below hB4 (by omega)
  have tb : Two W0 (w.heap.size + 2 + 1) (.int .i64 0) (.int .i64 0) := Two.new hs3 hW0.symm
  have hB : Below w.heap.size w W0 := ((hB1.trans (hB2.mono hB1.size)).trans (hB3.mono (by omega))).trans (hB4.mono (by omega))
  have mX := hx.below hB (Nat.le_refl _)
  have mA := hy.below hB (Nat.le_refl _)
  have mP := hz.below hB (Nat.le_refl _)
  have HWx := Lib.hid hWx
  have HWy := Lib.hid hWy
  have HWz := Lib.hid hWz
  have HW0 := Lib.hid hW0
  have Hta := Lib.hid ta
  have Htb := Lib.hid tb
  have k0 := bX.cell 0 _ rfl
  have k1 := bX.cell 1 _ rfl
  have m0 := bL.cell 0 _ rfl
  have m1 := bL.cell 1 _ rfl
  have m2 := bL.cell 2 _ rfl
  clear hWx hWy hWz hW0 hB1 hB2 hB3 hB4 hs1 hs2 hs3 hx hy hz bX bL ta tb
  go_enter Tryz.func11, Tryz.ntmps11
  go_wp2_with fail
  rw [HWx.out, HWy.out, HWz.out, HW0.out]
  refine (roomGains_any p q s c d f v r al ps z _ mX mA mP hl).mono ?_
  rintro e w1 ⟨q1, d1, rfl, hO, hb⟩
  have ta := Hta.out.below hb (by omega)
  have tb := Htb.out.below hb (by omega)
  have w1L := (hb.cell (p := ⟨w.heap.size + 1, 2, none⟩) (by simp only; omega)).trans m2
  have hsz : w.heap.size + 4 ≤ w1.heap.size := by have := hb.size; omega
  replace hB := hB.trans (hb.mono hB.size)
  have hI := hO.ints
  have hlt : ∀ a, q1 = some a → 0 < d1 → w.heap.size + 4 ≤ a.block := fun a e _ => by have := (hO.lt a.block (by rw [e]; rfl)).1; omega
  clear hb Hta Htb k0 k1 m0 m1 m2 mX mA mP hO
  by_cases hF : vldR v r al ps z = 0
  · have hcz : (vldR v r al ps z != 0) = false := by rw [hF]; rfl
    have hg := good_of hF
    obtain ⟨zn, rfl⟩ : ∃ zn : Nat, z = zn := ⟨z.toNat, by have := hg.z1; omega⟩
    have hz1 := hg.z1
    have hz2 := hg.z2
    have h0 := hg.bids.1
    have HLo : Hid (wLo v r al ps zn = ratV (lowTo (gainL v al ps zn) v.length) zn) := by unfold Hid wLo; rw [if_pos hF]; simp
    have HHi : Hid (wHi v r al ps zn = ratV (highTo (gainL v al ps zn) v.length) zn) := by unfold Hid wHi; rw [if_pos hF]; simp
    obtain ⟨⟨l1, l2⟩, l3, l4⟩ := wLo_bd hF
    have e1 : gnsL v r al ps zn = gainL v al ps zn := by unfold gnsL; rw [if_pos hF]
    have e2 : (gainL v al ps zn).length = v.length := by rw [gainL_len, hg.alen]
    rw [e1] at hI ⊢
    rw [e2]
    have HF := Lib.hid hF
    have Hmin : ∀ W, Ints W q1 d1 (gainL v al ps zn) → Calls Tryz.prog 27 #[.slice q1 v.length d1] W fun e w' => e = .returned (.int .i64 (lowTo (gainL v al ps zn) v.length)) ∧ Below W.heap.size W w' := fun W h => by
      have h2 := sMin_any q1 d1 _ W h (by rw [e2]; exact h0)
      rw [e2] at h2
      exact h2.mono fun e w' ⟨h3, h4⟩ => ⟨h3, h4 ▸ Below.refl _ _⟩
    have Hmax : ∀ W, Ints W q1 d1 (gainL v al ps zn) → Calls Tryz.prog 18 #[.slice q1 v.length d1] W fun e w' => e = .returned (.int .i64 (highTo (gainL v al ps zn) v.length)) ∧ Below W.heap.size W w' := fun W h => by
      have h2 := sMax_any q1 d1 _ W h (by rw [e2]; exact h0)
      rw [e2] at h2
      exact h2.mono fun e w' ⟨h3, h4⟩ => ⟨h3, h4 ▸ Below.refl _ _⟩
    generalize lowTo (gainL v al ps zn) v.length = lo at *
    generalize highTo (gainL v al ps zn) v.length = hh at *
    have HMin : Hid (∀ W, (∀ S k, S < w1.heap.size → S ≠ w.heap.size + 2 → W.cell? ⟨S, k, none⟩ = w1.cell? ⟨S, k, none⟩) → Below w.heap.size w1 W → Calls Tryz.prog 27 #[.slice q1 v.length d1] W fun e w' => e = .returned (.int .i64 lo) ∧ Below W.heap.size W w') := fun W hf hb => Hmin W (hI.far hf hb.size (fun a e h => by have := hlt a e h; omega))
    have HmkL := Lib.hid (fun W => make_any lo zn W (by omega) (by omega) (by omega) (by omega))
    have HmkH := Lib.hid (fun W => make_any hh zn W (by omega) (by omega) (by omega) (by omega))
    unfold ratV at HmkL HmkH
    have tR := ta
    have hRB : w.heap.size + 2 < w1.heap.size := by omega
    have hbR : w.heap.size ≤ w.heap.size + 2 := by omega
    have hb0 : w.heap.size ≤ w1.heap.size := by omega
    clear hg hF e1 e2
    go_wp2_with fail
    refine wp_region_inv (by kernel_rfl) (by decide +kernel) (by decide +kernel) _ _ (PutJ w.heap.size w1 (w.heap.size + 2) 8 (fun kk => match kk with | 0 => (.slice q1 v.length d1) | 1 => (.int .i64 lo) | 2 => (.pointer (some ⟨w.heap.size + 1, 2, none⟩)) | 3 => (.int .i64 (zn : Int)) | 4 => (.tuple #[(.agg #[.int .i64 (rN lo zn), .int .i64 (rD lo zn)]), .int .i64 0]) | 5 => (.tuple #[(.agg #[.int .i64 (rN lo zn), .int .i64 (rD lo zn)]), .int .i64 0]) | 6 => (.agg #[.int .i64 (rN lo zn), .int .i64 (rD lo zn)]) | 7 => (.int .i64 0) | _ => undef) (.int .i64 0) (.int .i64 0) (.int .i64 (rN lo zn)) (.int .i64 (rD lo zn))) ?_ ?_ ?_
    · exact fun us => PutJ.start us hRB tR
    · intro us D W i o A hA hi hJ hnD hon K hK
      have hlt : i < 9 := (Array.getElem?_eq_some_iff.1 hi).1
      rcases lt9 hlt with rfl | rfl | rfl | rfl | rfl | rfl | rfl | rfl | rfl
      · have hi' := Option.some.inj hi
        subst hi'
        refine wp_val (v := (.slice q1 v.length d1)) (w' := W) ?_ (hK _ _ (hJ.pure (i := 0) (by decide) hb0 hRB (Below.refl _ _)))
        · skip
          have e7 : A.tmps[7]?.getD undef = (.slice q1 v.length d1) := by rw [hA]; kernel_rfl
          clear hA hK hon hJ
          go_simp
      · have hi' := Option.some.inj hi
        subst hi'
        refine wp_enter (f := 27) (args := #[(.slice q1 v.length d1)]) (w' := W) ?_ ((HMin.out W hJ.far hJ.bel).mono ?_)
        · skip
          have e20 : A.tmps[20]?.getD undef = (.slice q1 v.length d1) := (by rw [hA]; kernel_rfl : A.tmps[20]?.getD undef = us 0).trans (hJ.val 0 (by decide) (hon 0 (by decide +kernel)))
          clear hA hK hon hJ
          go_simp
        · rintro r' wC ⟨rfl, hbC⟩
          exact ⟨_, rfl, hK _ _ (hJ.pure (i := 1) (by decide) hb0 hRB hbC)⟩
      · have hi' := Option.some.inj hi
        subst hi'
        refine wp_val (v := (.pointer (some ⟨w.heap.size + 1, 2, none⟩))) (w' := W) ?_ (hK _ _ (hJ.pure (i := 2) (by decide) hb0 hRB (Below.refl _ _)))
        · skip
          have e3 : A.tmps[3]?.getD undef = (.pointer (some ⟨w.heap.size + 1, 0, none⟩)) := by rw [hA]; kernel_rfl
          clear hA hK hon hJ
          go_simp
      · have hi' := Option.some.inj hi
        subst hi'
        refine wp_val (v := (.int .i64 (zn : Int))) (w' := W) ?_ (hK _ _ (hJ.pure (i := 3) (by decide) hb0 hRB (Below.refl _ _)))
        · skip
          have e22 : A.tmps[22]?.getD undef = (.pointer (some ⟨w.heap.size + 1, 2, none⟩)) := (by rw [hA]; kernel_rfl : A.tmps[22]?.getD undef = us 2).trans (hJ.val 2 (by decide) (hon 2 (by decide +kernel)))
          have cc := (hJ.far (w.heap.size + 1) 2 (by omega) (by omega)).trans w1L
          clear hA hK hon hJ
          go_simp
      · have hi' := Option.some.inj hi
        subst hi'
        refine wp_enter (f := 26) (args := #[.int .i64 lo, .int .i64 (zn : Int)]) (w' := W) ?_ ((HmkL.out W).mono ?_)
        · skip
          have e21 : A.tmps[21]?.getD undef = (.int .i64 lo) := (by rw [hA]; kernel_rfl : A.tmps[21]?.getD undef = us 1).trans (hJ.val 1 (by decide) (hon 1 (by decide +kernel)))
          have e23 : A.tmps[23]?.getD undef = (.int .i64 (zn : Int)) := (by rw [hA]; kernel_rfl : A.tmps[23]?.getD undef = us 3).trans (hJ.val 3 (by decide) (hon 3 (by decide +kernel)))
          clear hA hK hon hJ
          go_simp
        · rintro r' wC ⟨rfl, hbC⟩
          exact ⟨_, rfl, hK _ _ (hJ.pure (i := 4) (by decide) hb0 hRB hbC)⟩
      · have hi' := Option.some.inj hi
        subst hi'
        refine wp_val (v := (.tuple #[(.agg #[.int .i64 (rN lo zn), .int .i64 (rD lo zn)]), .int .i64 0])) (w' := W) ?_ (hK _ _ (hJ.pure (i := 5) (by decide) hb0 hRB (Below.refl _ _)))
        · skip
          have e24 : A.tmps[24]?.getD undef = (.tuple #[(.agg #[.int .i64 (rN lo zn), .int .i64 (rD lo zn)]), .int .i64 0]) := (by rw [hA]; kernel_rfl : A.tmps[24]?.getD undef = us 4).trans (hJ.val 4 (by decide) (hon 4 (by decide +kernel)))
          clear hA hK hon hJ
          go_simp
      · have hi' := Option.some.inj hi
        subst hi'
        refine wp_val (v := (.agg #[.int .i64 (rN lo zn), .int .i64 (rD lo zn)])) (w' := W) ?_ (hK _ _ (hJ.pure (i := 6) (by decide) hb0 hRB (Below.refl _ _)))
        · skip
          have e19 : A.tmps[19]?.getD undef = (.tuple #[(.agg #[.int .i64 (rN lo zn), .int .i64 (rD lo zn)]), .int .i64 0]) := (by rw [hA]; kernel_rfl : A.tmps[19]?.getD undef = us 5).trans (hJ.val 5 (by decide) (hon 5 (by decide +kernel)))
          clear hA hK hon hJ
          go_simp
      · have hi' := Option.some.inj hi
        subst hi'
        refine wp_val (v := (.int .i64 0)) (w' := W) ?_ (hK _ _ (hJ.pure (i := 7) (by decide) hb0 hRB (Below.refl _ _)))
        · skip
          have e19 : A.tmps[19]?.getD undef = (.tuple #[(.agg #[.int .i64 (rN lo zn), .int .i64 (rD lo zn)]), .int .i64 0]) := (by rw [hA]; kernel_rfl : A.tmps[19]?.getD undef = us 5).trans (hJ.val 5 (by decide) (hon 5 (by decide +kernel)))
          clear hA hK hon hJ
          go_simp
      · have hi' := Option.some.inj hi
        subst hi'
        have ht := hJ.two hnD
        refine wp_skip (w' := (W.setCell ⟨w.heap.size + 2, 0, none⟩ (.int .i64 (rN lo zn))).setCell ⟨w.heap.size + 2, 1, none⟩ (.int .i64 (rD lo zn))) ?_ (hK _ _ (hJ.store hnD hbR undef))
        · skip
          have e4 : A.tmps[4]?.getD undef = (.pointer (some ⟨w.heap.size + 2, 0, none⟩)) := by rw [hA]; kernel_rfl
          have e25 : A.tmps[25]?.getD undef = (.agg #[.int .i64 (rN lo zn), .int .i64 (rD lo zn)]) := (by rw [hA]; kernel_rfl : A.tmps[25]?.getD undef = us 6).trans (hJ.val 6 (by decide) (hon 6 (by decide +kernel)))
          have c0 := ht.c0
          have c1 := ht.c1
          have f0 := ht.f0
          have f1 := ht.f1
          clear ht
          clear hA hK hon hJ
          go_simp
    · intro us D w2 hJ hall
      have t2 := hJ.put (hall 8 (by decide))
      have hb2 := hJ.bel
      have hfar := hJ.far
      have hsz2 : w1.heap.size ≤ w2.heap.size := hb2.size
      have w2L := (hfar (w.heap.size + 1) 2 (by omega) (by omega)).trans w1L
      have hI2 := hI.far hfar hb2.size (fun a e h => by have := hlt a e h; omega)
      have tb2 := hJ.other tb (by omega) (by omega)
      clear hJ hall
      have tR2 := tb2
      have hRB2 : w.heap.size + 2 + 1 < w2.heap.size := by omega
      have hbR2 : w.heap.size ≤ w.heap.size + 2 + 1 := by omega
      have hb02 : w.heap.size ≤ w2.heap.size := by omega
      have HMax : Hid (∀ W, (∀ S k, S < w2.heap.size → S ≠ w.heap.size + 2 + 1 → W.cell? ⟨S, k, none⟩ = w2.cell? ⟨S, k, none⟩) → Below w.heap.size w2 W → Calls Tryz.prog 18 #[.slice q1 v.length d1] W fun e w' => e = .returned (.int .i64 hh) ∧ Below W.heap.size W w') := fun W hf hb => Hmax W (hI2.far hf hb.size (fun a e h => by have := hlt a e h; omega))
      simp only [actL, slotL, putL, List.setIfInBounds_toArray, List.set_cons_zero, List.set_cons_succ]
      go_wp2_with fail
      clear hRB hbR hb0
      have hRB := hRB2
      have hbR := hbR2
      have hb0 := hb02
      refine wp_region_inv (by kernel_rfl) (by decide +kernel) (by decide +kernel) _ _ (PutJ w.heap.size w2 (w.heap.size + 2 + 1) 8 (fun kk => match kk with | 0 => (.slice q1 v.length d1) | 1 => (.int .i64 hh) | 2 => (.pointer (some ⟨w.heap.size + 1, 2, none⟩)) | 3 => (.int .i64 (zn : Int)) | 4 => (.tuple #[(.agg #[.int .i64 (rN hh zn), .int .i64 (rD hh zn)]), .int .i64 0]) | 5 => (.tuple #[(.agg #[.int .i64 (rN hh zn), .int .i64 (rD hh zn)]), .int .i64 0]) | 6 => (.agg #[.int .i64 (rN hh zn), .int .i64 (rD hh zn)]) | 7 => (.int .i64 0) | _ => undef) (.int .i64 0) (.int .i64 0) (.int .i64 (rN hh zn)) (.int .i64 (rD hh zn))) ?_ ?_ ?_
      · exact fun us => PutJ.start us hRB tR2
      · intro us D W i o A hA hi hJ hnD hon K hK
        have hlt : i < 9 := (Array.getElem?_eq_some_iff.1 hi).1
        rcases lt9 hlt with rfl | rfl | rfl | rfl | rfl | rfl | rfl | rfl | rfl
        · have hi' := Option.some.inj hi
          subst hi'
          refine wp_val (v := (.slice q1 v.length d1)) (w' := W) ?_ (hK _ _ (hJ.pure (i := 0) (by decide) hb0 hRB (Below.refl _ _)))
          · skip
            have e7 : A.tmps[7]?.getD undef = (.slice q1 v.length d1) := by rw [hA]; kernel_rfl
            clear hA hK hon hJ
            go_simp
        · have hi' := Option.some.inj hi
          subst hi'
          refine wp_enter (f := 18) (args := #[(.slice q1 v.length d1)]) (w' := W) ?_ ((HMax.out W hJ.far hJ.bel).mono ?_)
          · skip
            have e28 : A.tmps[28]?.getD undef = (.slice q1 v.length d1) := (by rw [hA]; kernel_rfl : A.tmps[28]?.getD undef = us 0).trans (hJ.val 0 (by decide) (hon 0 (by decide +kernel)))
            clear hA hK hon hJ
            go_simp
          · rintro r' wC ⟨rfl, hbC⟩
            exact ⟨_, rfl, hK _ _ (hJ.pure (i := 1) (by decide) hb0 hRB hbC)⟩
        · have hi' := Option.some.inj hi
          subst hi'
          refine wp_val (v := (.pointer (some ⟨w.heap.size + 1, 2, none⟩))) (w' := W) ?_ (hK _ _ (hJ.pure (i := 2) (by decide) hb0 hRB (Below.refl _ _)))
          · skip
            have e3 : A.tmps[3]?.getD undef = (.pointer (some ⟨w.heap.size + 1, 0, none⟩)) := by rw [hA]; kernel_rfl
            clear hA hK hon hJ
            go_simp
        · have hi' := Option.some.inj hi
          subst hi'
          refine wp_val (v := (.int .i64 (zn : Int))) (w' := W) ?_ (hK _ _ (hJ.pure (i := 3) (by decide) hb0 hRB (Below.refl _ _)))
          · skip
            have e30 : A.tmps[30]?.getD undef = (.pointer (some ⟨w.heap.size + 1, 2, none⟩)) := (by rw [hA]; kernel_rfl : A.tmps[30]?.getD undef = us 2).trans (hJ.val 2 (by decide) (hon 2 (by decide +kernel)))
            have cc := (hJ.far (w.heap.size + 1) 2 (by omega) (by omega)).trans w2L
            clear hA hK hon hJ
            go_simp
        · have hi' := Option.some.inj hi
          subst hi'
          refine wp_enter (f := 26) (args := #[.int .i64 hh, .int .i64 (zn : Int)]) (w' := W) ?_ ((HmkH.out W).mono ?_)
          · skip
            have e29 : A.tmps[29]?.getD undef = (.int .i64 hh) := (by rw [hA]; kernel_rfl : A.tmps[29]?.getD undef = us 1).trans (hJ.val 1 (by decide) (hon 1 (by decide +kernel)))
            have e31 : A.tmps[31]?.getD undef = (.int .i64 (zn : Int)) := (by rw [hA]; kernel_rfl : A.tmps[31]?.getD undef = us 3).trans (hJ.val 3 (by decide) (hon 3 (by decide +kernel)))
            clear hA hK hon hJ
            go_simp
          · rintro r' wC ⟨rfl, hbC⟩
            exact ⟨_, rfl, hK _ _ (hJ.pure (i := 4) (by decide) hb0 hRB hbC)⟩
        · have hi' := Option.some.inj hi
          subst hi'
          refine wp_val (v := (.tuple #[(.agg #[.int .i64 (rN hh zn), .int .i64 (rD hh zn)]), .int .i64 0])) (w' := W) ?_ (hK _ _ (hJ.pure (i := 5) (by decide) hb0 hRB (Below.refl _ _)))
          · skip
            have e32 : A.tmps[32]?.getD undef = (.tuple #[(.agg #[.int .i64 (rN hh zn), .int .i64 (rD hh zn)]), .int .i64 0]) := (by rw [hA]; kernel_rfl : A.tmps[32]?.getD undef = us 4).trans (hJ.val 4 (by decide) (hon 4 (by decide +kernel)))
            clear hA hK hon hJ
            go_simp
        · have hi' := Option.some.inj hi
          subst hi'
          refine wp_val (v := (.agg #[.int .i64 (rN hh zn), .int .i64 (rD hh zn)])) (w' := W) ?_ (hK _ _ (hJ.pure (i := 6) (by decide) hb0 hRB (Below.refl _ _)))
          · skip
            have e27 : A.tmps[27]?.getD undef = (.tuple #[(.agg #[.int .i64 (rN hh zn), .int .i64 (rD hh zn)]), .int .i64 0]) := (by rw [hA]; kernel_rfl : A.tmps[27]?.getD undef = us 5).trans (hJ.val 5 (by decide) (hon 5 (by decide +kernel)))
            clear hA hK hon hJ
            go_simp
        · have hi' := Option.some.inj hi
          subst hi'
          refine wp_val (v := (.int .i64 0)) (w' := W) ?_ (hK _ _ (hJ.pure (i := 7) (by decide) hb0 hRB (Below.refl _ _)))
          · skip
            have e27 : A.tmps[27]?.getD undef = (.tuple #[(.agg #[.int .i64 (rN hh zn), .int .i64 (rD hh zn)]), .int .i64 0]) := (by rw [hA]; kernel_rfl : A.tmps[27]?.getD undef = us 5).trans (hJ.val 5 (by decide) (hon 5 (by decide +kernel)))
            clear hA hK hon hJ
            go_simp
        · have hi' := Option.some.inj hi
          subst hi'
          have ht := hJ.two hnD
          refine wp_skip (w' := (W.setCell ⟨w.heap.size + 2 + 1, 0, none⟩ (.int .i64 (rN hh zn))).setCell ⟨w.heap.size + 2 + 1, 1, none⟩ (.int .i64 (rD hh zn))) ?_ (hK _ _ (hJ.store hnD hbR undef))
          · skip
            have e5 : A.tmps[5]?.getD undef = (.pointer (some ⟨w.heap.size + 2 + 1, 0, none⟩)) := by rw [hA]; kernel_rfl
            have e33 : A.tmps[33]?.getD undef = (.agg #[.int .i64 (rN hh zn), .int .i64 (rD hh zn)]) := (by rw [hA]; kernel_rfl : A.tmps[33]?.getD undef = us 6).trans (hJ.val 6 (by decide) (hon 6 (by decide +kernel)))
            have c0 := ht.c0
            have c1 := ht.c1
            have f0 := ht.f0
            have f1 := ht.f1
            clear ht
            clear hA hK hon hJ
            go_simp
      · intro us2 D2 w3 hJ hall
        have t3 := hJ.put (hall 8 (by decide))
        have t2' := hJ.other t2 (by omega) (by omega)
        have hb3 := hJ.bel
        clear hJ hall
        have hB3 := (hB.trans hb2).trans hb3
        replace t2' : Two w3 (w.heap.size + 1 + 1) (.int .i64 (rN lo zn)) (.int .i64 (rD lo zn)) := t2'
        replace t3 : Two w3 (w.heap.size + 1 + 1 + 1) (.int .i64 (rN hh zn)) (.int .i64 (rD hh zn)) := t3
        have HB3 := Lib.hid hB3
        have HA3 := Lib.hid t2'
        have HC3 := Lib.hid t3
        have hsz3 : w2.heap.size ≤ w3.heap.size := hb3.size
        obtain ⟨x0, x1, y0, y1⟩ := t2'
        obtain ⟨z0, z1, s0, s1⟩ := t3
        clear hB hb2 hb3 hB3 ta tb tR t2 tb2 tR2 hI hI2 hfar w1L w2L hlt Hmin Hmax HMin HMax HmkL HmkH
        simp only [actL, slotL, putL, List.setIfInBounds_toArray, List.set_cons_zero, List.set_cons_succ]
        go_wp2_with fail
        go_region
        all_goals
          go_wp2_with fail
          clear x0 x1 y0 y1 z0 z1 s0 s1
          obtain ⟨hA5, hB5⟩ := four HA3.out HC3.out (.int .i64 (rN lo zn)) (.int .i64 (rD lo zn)) (.int .i64 (rN hh zn)) (.int .i64 (rD hh zn))
          obtain ⟨x0, x1, _, _⟩ := hA5
          obtain ⟨z0, z1, _, _⟩ := hB5
          refine bodyPost_ret (v := .tuple #[ratV lo zn, ratV hh zn, .int .i64 0]) (by simp [results, Tryz.results11, go_sem, x0, x1, z0, z1, ratV]) rfl ⟨?_, ?_⟩
          · rw [HLo.out, HHi.out, HF.out]
          · exact (below_four' HB3.out (by omega) _ _ _ _).drew
  · have hcz : (vldR v r al ps z != 0) = true := by rw [bne_iff_ne]; exact hF
    have HLo : Hid (wLo v r al ps z = zeroR) := by unfold Hid wLo; rw [if_neg hF]
    have HHi : Hid (wHi v r al ps z = zeroR) := by unfold Hid wHi; rw [if_neg hF]
    replace ta : Two w1 (w.heap.size + 1 + 1) (.int .i64 0) (.int .i64 0) := ta
    replace tb : Two w1 (w.heap.size + 1 + 1 + 1) (.int .i64 0) (.int .i64 0) := tb
    have HA := Lib.hid ta
    have HC := Lib.hid tb
    have HW := Lib.hid hB
    obtain ⟨x0, x1, y0, y1⟩ := ta
    obtain ⟨z0, z1, t0, t1⟩ := tb
    clear hF hB hI hlt w1L
    go_wp2_with fail
    clear x0 x1 y0 y1 z0 z1 t0 t1
    obtain ⟨hA5, hB5⟩ := four HA.out HC.out (.int .i64 0) (.int .i64 0) (.int .i64 0) (.int .i64 0)
    obtain ⟨x0, x1, _, _⟩ := hA5
    obtain ⟨z0, z1, _, _⟩ := hB5
    refine bodyPost_ret (v := .tuple #[zeroR, zeroR, .int .i64 (vldR v r al ps z)]) (by simp [results, Tryz.results11, go_sem, x0, x1, z0, z1, zeroR]) rfl ⟨?_, ?_⟩
    · rw [HLo.out, HHi.out]
    · exact below_four' HW.out (by omega) _ _ _ _
end Go.Proofs.YtllcbcanohdepaaGreat
