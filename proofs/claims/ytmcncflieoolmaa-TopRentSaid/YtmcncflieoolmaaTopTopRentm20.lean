/- The walk of rent.Worst, for every flat and lease.  (The regions are printed by wip/genrentw.py.) -/
import Derived.Test.YtmcncflieoolmaaTopTopRentm17
import Derived.Test.YtmcncflieoolmaaTopTopRentm14
import Derived.Test.YtmcncflieoolmaaTopTopRentm19
import Derived.Test.YtmcncflieoolmaaTopTopRentm9
import Derived.Shelf.Bits.Mul64
import Derived.Test.YtmcncflieoolmaaProg
import Derived.Test.YtmcncflieoolmaaTopTopRentm4
import Derived.Maps.RangeWalk
import Derived.RangeFuncOwn
/- The walk of rent.Worst, for every flat and lease.  (The regions are printed by wip/genrentw.py.) -/
namespace Go.Proofs.Ytmcncflieoolmaa
set_option linter.unusedVariables false
set_option linter.unusedSimpArgs false
open Go.ChangeShapes Go.WideShapes Go.ChangeAt Go.RowKit Go.Deep

theorem lt9 {i : Nat} (h : i < 9) : i = 0 ∨ i = 1 ∨ i = 2 ∨ i = 3 ∨ i = 4 ∨ i = 5 ∨ i = 6 ∨ i = 7 ∨ i = 8 := by omega
/-- Rows are read where all blocks but one keep their cells. -/
theorem Ints.far {B W : World} {R : Nat} {p : Option Addr} {c : Nat} {xs : List Int} (h : Ints B p c xs) (hf : ∀ S k, S < B.heap.size → S ≠ R → W.cell? ⟨S, k, none⟩ = B.cell? ⟨S, k, none⟩) (hs : B.heap.size ≤ W.heap.size) (hR : ∀ a, p = some a → 0 < c → a.block ≠ R) : Ints W p c xs := by
  refine ⟨h.le, h.max, h.nil, fun a e hc => ⟨(h.plain a e hc).1, Nat.lt_of_lt_of_le (h.plain a e hc).2 hs⟩, fun b o e j hj => ?_, h.rng⟩
  have hc : 0 < c := by have := h.le; omega
  have h1 := h.plain _ e hc
  have h2 := hR _ e hc
  rw [hf b (o + j) h1.2 h2]
  exact h.cell b o e j hj
/-- Two blocks written again. -/
theorem four' {X : World} {S : Nat} {x0 x1 y0 y1 : Value} (hA : Two X S x0 x1) (hB : Two X (S + 1) y0 y1) (u0 u1 v0 v1 : Value) :
    Two ((((X.setCell ⟨S, 0, none⟩ u0).setCell ⟨S, 1, none⟩ u1).setCell ⟨S + 1, 0, none⟩ v0).setCell ⟨S + 1, 1, none⟩ v1) S u0 u1 ∧
    Two ((((X.setCell ⟨S, 0, none⟩ u0).setCell ⟨S, 1, none⟩ u1).setCell ⟨S + 1, 0, none⟩ v0).setCell ⟨S + 1, 1, none⟩ v1) (S + 1) v0 v1 :=
  ⟨(hA.put.far (by omega)).far (by omega), ((hB.far (by omega)).far (by omega)).put⟩
theorem below_four' {w X : World} {B S : Nat} (hb : Below B w X) (hS : B ≤ S) (u0 u1 v0 v1 : Value) :
    Below B w ((((X.setCell ⟨S, 0, none⟩ u0).setCell ⟨S, 1, none⟩ u1).setCell ⟨S + 1, 0, none⟩ v0).setCell ⟨S + 1, 1, none⟩ v1) :=
  (((hb.setCell (p := ⟨S, 0, none⟩) hS _).setCell (p := ⟨S, 1, none⟩) hS _).setCell (p := ⟨S + 1, 0, none⟩) (by simp only; omega) _).setCell (p := ⟨S + 1, 1, none⟩) (by simp only; omega) _
def wLo (v : List (List Int)) (r : Int) (al ps : List Int) (z : Int) : Value := if vldR v r al ps z = 0 then ratV (lowTo (gainL v al ps z) v.length) z.toNat else zeroR
def wHi (v : List (List Int)) (r : Int) (al ps : List Int) (z : Int) : Value := if vldR v r al ps z = 0 then ratV (highTo (gainL v al ps z) v.length) z.toNat else zeroR
theorem gainL_bd {v : List (List Int)} {r : Int} {al ps : List Int} {z : Int} (h : vldR v r al ps z = 0) {i : Nat} (hi : i < v.length) : -700000000 ≤ iget (gainL v al ps z) i ∧ iget (gainL v al ps z) i ≤ 700000000 := by
  have hg := good_of h
  rw [gainL_get (by rw [hg.alen]; exact hi)]
  have h1 := hg.itm i hi
  have h2 := hg.bid i hi _ h1.2
  have h3 := bz_bd h2.1 h2.2 hg.z1 hg.z2
  have h4 := hg.price _ h1.2
  unfold gainI bid
  omega
theorem wLo_bd {v : List (List Int)} {r : Int} {al ps : List Int} {z : Int} (h : vldR v r al ps z = 0) : (-700000000 ≤ lowTo (gainL v al ps z) v.length ∧ lowTo (gainL v al ps z) v.length ≤ 700000000) ∧ (-700000000 ≤ highTo (gainL v al ps z) v.length ∧ highTo (gainL v al ps z) v.length ≤ 700000000) := by
  have h0 := (good_of h).bids.1
  obtain ⟨j, hj, e⟩ := lowTo_mem (gainL v al ps z) v.length h0
  obtain ⟨k, hk, e2⟩ := highTo_mem (gainL v al ps z) v.length h0
  rw [e, e2]
  exact ⟨gainL_bd h hj, gainL_bd h hk⟩

set_option maxHeartbeats 8000000 in
set_option maxRecDepth 100000 in
theorem rentWorst_any (p q s : Option Addr) (c d f : Nat) (v : List (List Int)) (r : Int) (al ps : List Int) (z : Int) (w : World) (hx : Mat w p c v) (hy : Ints w q d al) (hz : Ints w s f ps) (hl : al.length ≤ 1000000) :
    Calls Try.prog 10 #[.agg #[.slice p v.length c, .int .i64 r], .agg #[.slice q al.length d, .slice s ps.length f, .int .i64 z]] w fun e w' => e = .returned (.tuple #[wLo v r al ps z, wHi v r al ps z, .int .i64 (vldR v r al ps z)]) ∧ Below w.heap.size w w' := by
  obtain ⟨Wx, hWx⟩ : ∃ W, w.alloc (.cells #[.slice p v.length c, .int .i64 r] 24) = W := ⟨_, rfl⟩
  obtain ⟨Wy, hWy⟩ : ∃ W, Wx.alloc (.cells #[.slice q al.length d, .slice s ps.length f, .int .i64 z] 29) = W := ⟨_, rfl⟩
  obtain ⟨Wz, hWz⟩ : ∃ W, Wy.alloc (.cells #[.int .i64 0, .int .i64 0] 35) = W := ⟨_, rfl⟩
  obtain ⟨W0, hW0⟩ : ∃ W, Wz.alloc (.cells #[.int .i64 0, .int .i64 0] 35) = W := ⟨_, rfl⟩
  have hB1 := below_alloc hWx
  have hB2 := below_alloc hWy
  have hB3 := below_alloc hWz
  have hB4 := below_alloc hW0
  have hs1 : Wx.heap.size = w.heap.size + 1 := by rw [← hWx]; simp
  have hs2 : Wy.heap.size = w.heap.size + 2 := by rw [← hWy]; simp; omega
  have hs3 : Wz.heap.size = w.heap.size + 2 + 1 := by rw [← hWz]; simp; omega
  have hs4 : W0.heap.size = w.heap.size + 4 := by rw [← hW0]; simp; omega
  have bX : BoxV W0 w.heap.size [.slice p v.length c, .int .i64 r] := (((BoxV.new rfl hWx).below hB2).below hB3).below hB4
  have bL : BoxV W0 (w.heap.size + 1) [.slice q al.length d, .slice s ps.length f, .int .i64 z] := ((BoxV.new hs1 hWy).below hB3).below hB4
  have ta : Two W0 (w.heap.size + 2) (.int .i64 0) (.int .i64 0) := (Two.new hs2 hWz.symm).below hB4 (by omega)
  have tb : Two W0 (w.heap.size + 2 + 1) (.int .i64 0) (.int .i64 0) := Two.new hs3 hW0.symm
  have hB : Below w.heap.size w W0 := ((hB1.trans (hB2.mono hB1.size)).trans (hB3.mono (by omega))).trans (hB4.mono (by omega))
  have mX := hx.below hB (Nat.le_refl _)
  have mA := hy.below hB (Nat.le_refl _)
  have mP := hz.below hB (Nat.le_refl _)
  have HWx := Lib.hid hWx
  have HWy := Lib.hid hWy
  have HWz := Lib.hid hWz
  have HW0 := Lib.hid hW0
  have Hta := Lib.hid ta
  have Htb := Lib.hid tb
  have k0 := bX.cell 0 _ rfl
  have k1 := bX.cell 1 _ rfl
  have m0 := bL.cell 0 _ rfl
  have m1 := bL.cell 1 _ rfl
  have m2 := bL.cell 2 _ rfl
  clear hWx hWy hWz hW0 hB1 hB2 hB3 hB4 hs1 hs2 hs3 hx hy hz bX bL ta tb
  go_enter Try.func10, Try.ntmps10
  go_wp2_with fail
  rw [HWx.out, HWy.out, HWz.out, HW0.out]
  refine (roomGains_any p q s c d f v r al ps z _ mX mA mP hl).mono ?_
  rintro e w1 ⟨q1, d1, rfl, hO, hb⟩
  have ta := Hta.out.below hb (by omega)
  have tb := Htb.out.below hb (by omega)
  have w1L := (hb.cell (p := ⟨w.heap.size + 1, 2, none⟩) (by simp only; omega)).trans m2
  have hsz : w.heap.size + 4 ≤ w1.heap.size := by have := hb.size; omega
  replace hB := hB.trans (hb.mono hB.size)
  have hI := hO.ints
  have hlt : ∀ a, q1 = some a → 0 < d1 → w.heap.size + 4 ≤ a.block := fun a e _ => by have := (hO.lt a.block (by rw [e]; rfl)).1; omega
  clear hb Hta Htb k0 k1 m0 m1 m2 mX mA mP hO
  by_cases hF : vldR v r al ps z = 0
  · have hcz : (vldR v r al ps z != 0) = false := by rw [hF]; rfl
    have hg := good_of hF
    obtain ⟨zn, rfl⟩ : ∃ zn : Nat, z = zn := ⟨z.toNat, by have := hg.z1; omega⟩
    have hz1 := hg.z1
    have hz2 := hg.z2
    have h0 := hg.bids.1
    have HLo : Hid (wLo v r al ps zn = ratV (lowTo (gainL v al ps zn) v.length) zn) := by unfold Hid wLo; rw [if_pos hF]; simp
    have HHi : Hid (wHi v r al ps zn = ratV (highTo (gainL v al ps zn) v.length) zn) := by unfold Hid wHi; rw [if_pos hF]; simp
    obtain ⟨⟨l1, l2⟩, l3, l4⟩ := wLo_bd hF
    have e1 : gnsL v r al ps zn = gainL v al ps zn := by unfold gnsL; rw [if_pos hF]
    have e2 : (gainL v al ps zn).length = v.length := by rw [gainL_len, hg.alen]
    rw [e1] at hI ⊢
    rw [e2]
    have HF := Lib.hid hF
    have Hmin : ∀ W, Ints W q1 d1 (gainL v al ps zn) → Calls Try.prog 35 #[.slice q1 v.length d1] W fun e w' => e = .returned (.int .i64 (lowTo (gainL v al ps zn) v.length)) ∧ Below W.heap.size W w' := fun W h => by
      have h2 := sMin_any q1 d1 _ W h (by rw [e2]; exact h0)
      rw [e2] at h2
      exact h2.mono fun e w' ⟨h3, h4⟩ => ⟨h3, h4 ▸ Below.refl _ _⟩
    have Hmax : ∀ W, Ints W q1 d1 (gainL v al ps zn) → Calls Try.prog 22 #[.slice q1 v.length d1] W fun e w' => e = .returned (.int .i64 (highTo (gainL v al ps zn) v.length)) ∧ Below W.heap.size W w' := fun W h => by
      have h2 := sMax_any q1 d1 _ W h (by rw [e2]; exact h0)
      rw [e2] at h2
      exact h2.mono fun e w' ⟨h3, h4⟩ => ⟨h3, h4 ▸ Below.refl _ _⟩
    generalize lowTo (gainL v al ps zn) v.length = lo at *
    generalize highTo (gainL v al ps zn) v.length = hh at *
    have HMin : Hid (∀ W, (∀ S k, S < w1.heap.size → S ≠ w.heap.size + 2 → W.cell? ⟨S, k, none⟩ = w1.cell? ⟨S, k, none⟩) → Below w.heap.size w1 W → Calls Try.prog 35 #[.slice q1 v.length d1] W fun e w' => e = .returned (.int .i64 lo) ∧ Below W.heap.size W w') := fun W hf hb => Hmin W (hI.far hf hb.size (fun a e h => by have := hlt a e h; omega))
    have HmkL := Lib.hid (fun W => make_any lo zn W (by omega) (by omega) (by omega) (by omega))
    have HmkH := Lib.hid (fun W => make_any hh zn W (by omega) (by omega) (by omega) (by omega))
    unfold ratV at HmkL HmkH
    have tR := ta
    have hRB : w.heap.size + 2 < w1.heap.size := by omega
    have hbR : w.heap.size ≤ w.heap.size + 2 := by omega
    have hb0 : w.heap.size ≤ w1.heap.size := by omega
    clear hg hF e1 e2
    go_wp2_with fail
    refine wp_region_inv (by kernel_rfl) (by decide +kernel) (by decide +kernel) _ _ (PutJ w.heap.size w1 (w.heap.size + 2) 8 (fun kk => match kk with | 0 => (.slice q1 v.length d1) | 1 => (.int .i64 lo) | 2 => (.pointer (some ⟨w.heap.size + 1, 2, none⟩)) | 3 => (.int .i64 (zn : Int)) | 4 => (.tuple #[(.agg #[.int .i64 (rN lo zn), .int .i64 (rD lo zn)]), .int .i64 0]) | 5 => (.tuple #[(.agg #[.int .i64 (rN lo zn), .int .i64 (rD lo zn)]), .int .i64 0]) | 6 => (.agg #[.int .i64 (rN lo zn), .int .i64 (rD lo zn)]) | 7 => (.int .i64 0) | _ => undef) (.int .i64 0) (.int .i64 0) (.int .i64 (rN lo zn)) (.int .i64 (rD lo zn))) ?_ ?_ ?_
    · exact fun us => PutJ.start us hRB tR
    · intro us D W i o A hA hi hJ hnD hon K hK
      have hlt : i < 9 := (Array.getElem?_eq_some_iff.1 hi).1
      rcases lt9 hlt with rfl | rfl | rfl | rfl | rfl | rfl | rfl | rfl | rfl
      · have hi' := Option.some.inj hi
        subst hi'
        refine wp_val (v := (.slice q1 v.length d1)) (w' := W) ?_ (hK _ _ (hJ.pure (i := 0) (by decide) hb0 hRB (Below.refl _ _)))
        · skip
          have e7 : A.tmps[7]?.getD undef = (.slice q1 v.length d1) := by rw [hA]; kernel_rfl
          clear hA hK hon hJ
          go_simp
      · have hi' := Option.some.inj hi
        subst hi'
        refine wp_enter (f := 35) (args := #[(.slice q1 v.length d1)]) (w' := W) ?_ ((HMin.out W hJ.far hJ.bel).mono ?_)
        · skip
          have e20 : A.tmps[20]?.getD undef = (.slice q1 v.length d1) := (by rw [hA]; kernel_rfl : A.tmps[20]?.getD undef = us 0).trans (hJ.val 0 (by decide) (hon 0 (by decide +kernel)))
          clear hA hK hon hJ
          go_simp
        · rintro r' wC ⟨rfl, hbC⟩
          exact ⟨_, rfl, hK _ _ (hJ.pure (i := 1) (by decide) hb0 hRB hbC)⟩
      · have hi' := Option.some.inj hi
        subst hi'
        refine wp_val (v := (.pointer (some ⟨w.heap.size + 1, 2, none⟩))) (w' := W) ?_ (hK _ _ (hJ.pure (i := 2) (by decide) hb0 hRB (Below.refl _ _)))
        · skip
          have e3 : A.tmps[3]?.getD undef = (.pointer (some ⟨w.heap.size + 1, 0, none⟩)) := by rw [hA]; kernel_rfl
          clear hA hK hon hJ
          go_simp
      · have hi' := Option.some.inj hi
        subst hi'
        refine wp_val (v := (.int .i64 (zn : Int))) (w' := W) ?_ (hK _ _ (hJ.pure (i := 3) (by decide) hb0 hRB (Below.refl _ _)))
        · skip
          have e22 : A.tmps[22]?.getD undef = (.pointer (some ⟨w.heap.size + 1, 2, none⟩)) := (by rw [hA]; kernel_rfl : A.tmps[22]?.getD undef = us 2).trans (hJ.val 2 (by decide) (hon 2 (by decide +kernel)))
          have cc := (hJ.far (w.heap.size + 1) 2 (by omega) (by omega)).trans w1L
          clear hA hK hon hJ
          go_simp
      · have hi' := Option.some.inj hi
        subst hi'
        refine wp_enter (f := 34) (args := #[.int .i64 lo, .int .i64 (zn : Int)]) (w' := W) ?_ ((HmkL.out W).mono ?_)
        · skip
          have e21 : A.tmps[21]?.getD undef = (.int .i64 lo) := (by rw [hA]; kernel_rfl : A.tmps[21]?.getD undef = us 1).trans (hJ.val 1 (by decide) (hon 1 (by decide +kernel)))
          have e23 : A.tmps[23]?.getD undef = (.int .i64 (zn : Int)) := (by rw [hA]; kernel_rfl : A.tmps[23]?.getD undef = us 3).trans (hJ.val 3 (by decide) (hon 3 (by decide +kernel)))
          clear hA hK hon hJ
          go_simp
        · rintro r' wC ⟨rfl, hbC⟩
          exact ⟨_, rfl, hK _ _ (hJ.pure (i := 4) (by decide) hb0 hRB hbC)⟩
      · have hi' := Option.some.inj hi
        subst hi'
        refine wp_val (v := (.tuple #[(.agg #[.int .i64 (rN lo zn), .int .i64 (rD lo zn)]), .int .i64 0])) (w' := W) ?_ (hK _ _ (hJ.pure (i := 5) (by decide) hb0 hRB (Below.refl _ _)))
        · skip
          have e24 : A.tmps[24]?.getD undef = (.tuple #[(.agg #[.int .i64 (rN lo zn), .int .i64 (rD lo zn)]), .int .i64 0]) := (by rw [hA]; kernel_rfl : A.tmps[24]?.getD undef = us 4).trans (hJ.val 4 (by decide) (hon 4 (by decide +kernel)))
          clear hA hK hon hJ
          go_simp
      · have hi' := Option.some.inj hi
        subst hi'
        refine wp_val (v := (.agg #[.int .i64 (rN lo zn), .int .i64 (rD lo zn)])) (w' := W) ?_ (hK _ _ (hJ.pure (i := 6) (by decide) hb0 hRB (Below.refl _ _)))
        · skip
          have e19 : A.tmps[19]?.getD undef = (.tuple #[(.agg #[.int .i64 (rN lo zn), .int .i64 (rD lo zn)]), .int .i64 0]) := (by rw [hA]; kernel_rfl : A.tmps[19]?.getD undef = us 5).trans (hJ.val 5 (by decide) (hon 5 (by decide +kernel)))
          clear hA hK hon hJ
          go_simp
      · have hi' := Option.some.inj hi
        subst hi'
        refine wp_val (v := (.int .i64 0)) (w' := W) ?_ (hK _ _ (hJ.pure (i := 7) (by decide) hb0 hRB (Below.refl _ _)))
        · skip
          have e19 : A.tmps[19]?.getD undef = (.tuple #[(.agg #[.int .i64 (rN lo zn), .int .i64 (rD lo zn)]), .int .i64 0]) := (by rw [hA]; kernel_rfl : A.tmps[19]?.getD undef = us 5).trans (hJ.val 5 (by decide) (hon 5 (by decide +kernel)))
          clear hA hK hon hJ
          go_simp
      · have hi' := Option.some.inj hi
        subst hi'
        have ht := hJ.two hnD
        refine wp_skip (w' := (W.setCell ⟨w.heap.size + 2, 0, none⟩ (.int .i64 (rN lo zn))).setCell ⟨w.heap.size + 2, 1, none⟩ (.int .i64 (rD lo zn))) ?_ (hK _ _ (hJ.store hnD hbR undef))
        · skip
          have e4 : A.tmps[4]?.getD undef = (.pointer (some ⟨w.heap.size + 2, 0, none⟩)) := by rw [hA]; kernel_rfl
          have e25 : A.tmps[25]?.getD undef = (.agg #[.int .i64 (rN lo zn), .int .i64 (rD lo zn)]) := (by rw [hA]; kernel_rfl : A.tmps[25]?.getD undef = us 6).trans (hJ.val 6 (by decide) (hon 6 (by decide +kernel)))
          have c0 := ht.c0
          have c1 := ht.c1
          have f0 := ht.f0
          have f1 := ht.f1
          clear ht
          clear hA hK hon hJ
          go_simp
    · intro us D w2 hJ hall
      have t2 := hJ.put (hall 8 (by decide))
      have hb2 := hJ.bel
      have hfar := hJ.far
      have hsz2 : w1.heap.size ≤ w2.heap.size := hb2.size
      have w2L := (hfar (w.heap.size + 1) 2 (by omega) (by omega)).trans w1L
      have hI2 := hI.far hfar hb2.size (fun a e h => by have := hlt a e h; omega)
      have tb2 := hJ.other tb (by omega) (by omega)
      clear hJ hall
      have tR2 := tb2
      have hRB2 : w.heap.size + 2 + 1 < w2.heap.size := by omega
      have hbR2 : w.heap.size ≤ w.heap.size + 2 + 1 := by omega
      have hb02 : w.heap.size ≤ w2.heap.size := by omega
      have HMax : Hid (∀ W, (∀ S k, S < w2.heap.size → S ≠ w.heap.size + 2 + 1 → W.cell? ⟨S, k, none⟩ = w2.cell? ⟨S, k, none⟩) → Below w.heap.size w2 W → Calls Try.prog 22 #[.slice q1 v.length d1] W fun e w' => e = .returned (.int .i64 hh) ∧ Below W.heap.size W w') := fun W hf hb => Hmax W (hI2.far hf hb.size (fun a e h => by have := hlt a e h; omega))
      simp only [actL, slotL, putL, List.setIfInBounds_toArray, List.set_cons_zero, List.set_cons_succ]
      go_wp2_with fail
      clear hRB hbR hb0
      have hRB := hRB2
      have hbR := hbR2
      have hb0 := hb02
      refine wp_region_inv (by kernel_rfl) (by decide +kernel) (by decide +kernel) _ _ (PutJ w.heap.size w2 (w.heap.size + 2 + 1) 8 (fun kk => match kk with | 0 => (.slice q1 v.length d1) | 1 => (.int .i64 hh) | 2 => (.pointer (some ⟨w.heap.size + 1, 2, none⟩)) | 3 => (.int .i64 (zn : Int)) | 4 => (.tuple #[(.agg #[.int .i64 (rN hh zn), .int .i64 (rD hh zn)]), .int .i64 0]) | 5 => (.tuple #[(.agg #[.int .i64 (rN hh zn), .int .i64 (rD hh zn)]), .int .i64 0]) | 6 => (.agg #[.int .i64 (rN hh zn), .int .i64 (rD hh zn)]) | 7 => (.int .i64 0) | _ => undef) (.int .i64 0) (.int .i64 0) (.int .i64 (rN hh zn)) (.int .i64 (rD hh zn))) ?_ ?_ ?_
      · exact fun us => PutJ.start us hRB tR2
      · intro us D W i o A hA hi hJ hnD hon K hK
        have hlt : i < 9 := (Array.getElem?_eq_some_iff.1 hi).1
        rcases lt9 hlt with rfl | rfl | rfl | rfl | rfl | rfl | rfl | rfl | rfl
        · have hi' := Option.some.inj hi
          subst hi'
          refine wp_val (v := (.slice q1 v.length d1)) (w' := W) ?_ (hK _ _ (hJ.pure (i := 0) (by decide) hb0 hRB (Below.refl _ _)))
          · skip
            have e7 : A.tmps[7]?.getD undef = (.slice q1 v.length d1) := by rw [hA]; kernel_rfl
            clear hA hK hon hJ
            go_simp
        · have hi' := Option.some.inj hi
          subst hi'
          refine wp_enter (f := 22) (args := #[(.slice q1 v.length d1)]) (w' := W) ?_ ((HMax.out W hJ.far hJ.bel).mono ?_)
          · skip
            have e28 : A.tmps[28]?.getD undef = (.slice q1 v.length d1) := (by rw [hA]; kernel_rfl : A.tmps[28]?.getD undef = us 0).trans (hJ.val 0 (by decide) (hon 0 (by decide +kernel)))
            clear hA hK hon hJ
            go_simp
          · rintro r' wC ⟨rfl, hbC⟩
            exact ⟨_, rfl, hK _ _ (hJ.pure (i := 1) (by decide) hb0 hRB hbC)⟩
        · have hi' := Option.some.inj hi
          subst hi'
          refine wp_val (v := (.pointer (some ⟨w.heap.size + 1, 2, none⟩))) (w' := W) ?_ (hK _ _ (hJ.pure (i := 2) (by decide) hb0 hRB (Below.refl _ _)))
          · skip
            have e3 : A.tmps[3]?.getD undef = (.pointer (some ⟨w.heap.size + 1, 0, none⟩)) := by rw [hA]; kernel_rfl
            clear hA hK hon hJ
            go_simp
        · have hi' := Option.some.inj hi
          subst hi'
          refine wp_val (v := (.int .i64 (zn : Int))) (w' := W) ?_ (hK _ _ (hJ.pure (i := 3) (by decide) hb0 hRB (Below.refl _ _)))
          · skip
            have e30 : A.tmps[30]?.getD undef = (.pointer (some ⟨w.heap.size + 1, 2, none⟩)) := (by rw [hA]; kernel_rfl : A.tmps[30]?.getD undef = us 2).trans (hJ.val 2 (by decide) (hon 2 (by decide +kernel)))
            have cc := (hJ.far (w.heap.size + 1) 2 (by omega) (by omega)).trans w2L
            clear hA hK hon hJ
            go_simp
        · have hi' := Option.some.inj hi
          subst hi'
          refine wp_enter (f := 34) (args := #[.int .i64 hh, .int .i64 (zn : Int)]) (w' := W) ?_ ((HmkH.out W).mono ?_)
          · skip
            have e29 : A.tmps[29]?.getD undef = (.int .i64 hh) := (by rw [hA]; kernel_rfl : A.tmps[29]?.getD undef = us 1).trans (hJ.val 1 (by decide) (hon 1 (by decide +kernel)))
            have e31 : A.tmps[31]?.getD undef = (.int .i64 (zn : Int)) := (by rw [hA]; kernel_rfl : A.tmps[31]?.getD undef = us 3).trans (hJ.val 3 (by decide) (hon 3 (by decide +kernel)))
            clear hA hK hon hJ
            go_simp
          · rintro r' wC ⟨rfl, hbC⟩
            exact ⟨_, rfl, hK _ _ (hJ.pure (i := 4) (by decide) hb0 hRB hbC)⟩
        · have hi' := Option.some.inj hi
          subst hi'
          refine wp_val (v := (.tuple #[(.agg #[.int .i64 (rN hh zn), .int .i64 (rD hh zn)]), .int .i64 0])) (w' := W) ?_ (hK _ _ (hJ.pure (i := 5) (by decide) hb0 hRB (Below.refl _ _)))
          · skip
            have e32 : A.tmps[32]?.getD undef = (.tuple #[(.agg #[.int .i64 (rN hh zn), .int .i64 (rD hh zn)]), .int .i64 0]) := (by rw [hA]; kernel_rfl : A.tmps[32]?.getD undef = us 4).trans (hJ.val 4 (by decide) (hon 4 (by decide +kernel)))
            clear hA hK hon hJ
            go_simp
        · have hi' := Option.some.inj hi
          subst hi'
          refine wp_val (v := (.agg #[.int .i64 (rN hh zn), .int .i64 (rD hh zn)])) (w' := W) ?_ (hK _ _ (hJ.pure (i := 6) (by decide) hb0 hRB (Below.refl _ _)))
          · skip
            have e27 : A.tmps[27]?.getD undef = (.tuple #[(.agg #[.int .i64 (rN hh zn), .int .i64 (rD hh zn)]), .int .i64 0]) := (by rw [hA]; kernel_rfl : A.tmps[27]?.getD undef = us 5).trans (hJ.val 5 (by decide) (hon 5 (by decide +kernel)))
            clear hA hK hon hJ
            go_simp
        · have hi' := Option.some.inj hi
          subst hi'
          refine wp_val (v := (.int .i64 0)) (w' := W) ?_ (hK _ _ (hJ.pure (i := 7) (by decide) hb0 hRB (Below.refl _ _)))
          · skip
            have e27 : A.tmps[27]?.getD undef = (.tuple #[(.agg #[.int .i64 (rN hh zn), .int .i64 (rD hh zn)]), .int .i64 0]) := (by rw [hA]; kernel_rfl : A.tmps[27]?.getD undef = us 5).trans (hJ.val 5 (by decide) (hon 5 (by decide +kernel)))
            clear hA hK hon hJ
            go_simp
        · have hi' := Option.some.inj hi
          subst hi'
          have ht := hJ.two hnD
          refine wp_skip (w' := (W.setCell ⟨w.heap.size + 2 + 1, 0, none⟩ (.int .i64 (rN hh zn))).setCell ⟨w.heap.size + 2 + 1, 1, none⟩ (.int .i64 (rD hh zn))) ?_ (hK _ _ (hJ.store hnD hbR undef))
          · skip
            have e5 : A.tmps[5]?.getD undef = (.pointer (some ⟨w.heap.size + 2 + 1, 0, none⟩)) := by rw [hA]; kernel_rfl
            have e33 : A.tmps[33]?.getD undef = (.agg #[.int .i64 (rN hh zn), .int .i64 (rD hh zn)]) := (by rw [hA]; kernel_rfl : A.tmps[33]?.getD undef = us 6).trans (hJ.val 6 (by decide) (hon 6 (by decide +kernel)))
            have c0 := ht.c0
            have c1 := ht.c1
            have f0 := ht.f0
            have f1 := ht.f1
            clear ht
            clear hA hK hon hJ
            go_simp
      · intro us2 D2 w3 hJ hall
        have t3 := hJ.put (hall 8 (by decide))
        have t2' := hJ.other t2 (by omega) (by omega)
        have hb3 := hJ.bel
        clear hJ hall
        have hB3 := (hB.trans hb2).trans hb3
        replace t2' : Two w3 (w.heap.size + 1 + 1) (.int .i64 (rN lo zn)) (.int .i64 (rD lo zn)) := t2'
        replace t3 : Two w3 (w.heap.size + 1 + 1 + 1) (.int .i64 (rN hh zn)) (.int .i64 (rD hh zn)) := t3
        have HB3 := Lib.hid hB3
        have HA3 := Lib.hid t2'
        have HC3 := Lib.hid t3
        have hsz3 : w2.heap.size ≤ w3.heap.size := hb3.size
        obtain ⟨x0, x1, y0, y1⟩ := t2'
        obtain ⟨z0, z1, s0, s1⟩ := t3
        clear hB hb2 hb3 hB3 ta tb tR t2 tb2 tR2 hI hI2 hfar w1L w2L hlt Hmin Hmax HMin HMax HmkL HmkH
        simp only [actL, slotL, putL, List.setIfInBounds_toArray, List.set_cons_zero, List.set_cons_succ]
        go_wp2_with fail
        go_region
        all_goals
          go_wp2_with fail
          clear x0 x1 y0 y1 z0 z1 s0 s1
          obtain ⟨hA5, hB5⟩ := four HA3.out HC3.out (.int .i64 (rN lo zn)) (.int .i64 (rD lo zn)) (.int .i64 (rN hh zn)) (.int .i64 (rD hh zn))
          obtain ⟨x0, x1, _, _⟩ := hA5
          obtain ⟨z0, z1, _, _⟩ := hB5
          refine bodyPost_ret (v := .tuple #[ratV lo zn, ratV hh zn, .int .i64 0]) (by simp [results, Try.results10, go_sem, x0, x1, z0, z1, ratV]) rfl ⟨?_, ?_⟩
          · rw [HLo.out, HHi.out, HF.out]
          · exact (below_four' HB3.out (by omega) _ _ _ _).drew
  · have hcz : (vldR v r al ps z != 0) = true := by rw [bne_iff_ne]; exact hF
    have HLo : Hid (wLo v r al ps z = zeroR) := by unfold Hid wLo; rw [if_neg hF]
    have HHi : Hid (wHi v r al ps z = zeroR) := by unfold Hid wHi; rw [if_neg hF]
    replace ta : Two w1 (w.heap.size + 1 + 1) (.int .i64 0) (.int .i64 0) := ta
    replace tb : Two w1 (w.heap.size + 1 + 1 + 1) (.int .i64 0) (.int .i64 0) := tb
    have HA := Lib.hid ta
    have HC := Lib.hid tb
    have HW := Lib.hid hB
    obtain ⟨x0, x1, y0, y1⟩ := ta
    obtain ⟨z0, z1, t0, t1⟩ := tb
    clear hF hB hI hlt w1L
    go_wp2_with fail
    clear x0 x1 y0 y1 z0 z1 t0 t1
    obtain ⟨hA5, hB5⟩ := four HA.out HC.out (.int .i64 0) (.int .i64 0) (.int .i64 0) (.int .i64 0)
    obtain ⟨x0, x1, _, _⟩ := hA5
    obtain ⟨z0, z1, _, _⟩ := hB5
    refine bodyPost_ret (v := .tuple #[zeroR, zeroR, .int .i64 (vldR v r al ps z)]) (by simp [results, Try.results10, go_sem, x0, x1, z0, z1, zeroR]) rfl ⟨?_, ?_⟩
    · rw [HLo.out, HHi.out]
    · exact below_four' HW.out (by omega) _ _ _ _
end Go.Proofs.Ytmcncflieoolmaa

/-
  DERIVED: THE SHELF's CONTRACTS AT THIS DUMP, IN PLAIN WORDS (tools/lay-plain.mjs out of 'TryShelf.lean', which tools/lay-shelf.mjs wrote): THE SAME DECLARATIONS UNDER THE SAME NAMES: 'import', 'namespace', 'open', 'def', 'theorem' AND NOTHING ELSE: no command of the shelf's: FOR A HAND-IN. Each laying: the table of numbers ('.._ren') and one theorem, a field a fact of the dump's own or the kernel's comparison; each contract: ONE APPLICATION.
-/
namespace Go.Proofs
open Go.Shelf
def Try.lays264_ren : Go.Shelf.Ren := ⟨fun | 264 => 67 | n => n, fun | 53 => 71 | 46 => 91 | n => n, fun | n => n⟩
theorem Try.lays264 : Go.Proofs.Lays.n264 Try.prog Try.lays264_ren := {
  mixed := by kernel_rfl
  f264 := Try.func67.trans (congrArg some (by kernel_rfl))
  t46 := Try.underlying91
  a46 := Try.isAgg91
  z46 := Try.sizeOf91
  v46 := Try.zeroValue91
  t53 := Try.underlying71
  a53 := Try.isAgg71
  z53 := Try.sizeOf71
  v53 := Try.zeroValue71 }
open Go.RowKit Go.Lib in
theorem Try.bits_Mul64 (x y : Nat) (hx : x < 18446744073709551616) (hy : y < 18446744073709551616) (w : World) :
    Calls Try.prog 67 #[.int .u64 x, .int .u64 y] w fun e w' => e = .returned (.tuple #[.int .u64 ((x * y / 18446744073709551616 : Nat) : Int), .int .u64 ((x * y % 18446744073709551616 : Nat) : Int)]) ∧ w' = w := Any.bits_Mul64 Try.lays264 x y hx hy w
end Go.Proofs

/- What a text that runs straight on holds: rows, tables, lists of tables, under one name; literals, calls; no condition but sizes. -/
namespace Go.Proofs.Ytmcncflieoolmaa
open Go.ChangeShapes Go.WideShapes Go.ChangeAt Go.RowKit Go.Deep
set_option linter.unusedVariables false
set_option linter.unusedSimpArgs false

def in64B (x : Int) : Bool := decide (-9223372036854775808 ≤ x) && decide (x ≤ 9223372036854775807)
theorem in64_all {xs : List Int} (h : xs.all in64B = true) : ∀ x ∈ xs, in64 x := fun x hx => by
  have := List.all_eq_true.1 h x hx
  simp [in64B] at this
  exact this
theorem ints_lit (w : World) (xs : List Int) (hsz : xs.length ≤ 1000000) (hr : ∀ x ∈ xs, in64 x) :
    Ints (w.alloc (.cells (xs.map (Value.int .i64)).toArray 3)) (some ⟨w.heap.size, 0, none⟩) xs.length xs :=
  (Own.lit w w.heap.size (Nat.le_refl _) xs hsz (fun j hj => hr _ (iget_mem hj))).ints
theorem mat_lit (w : World) (rows : List (Option Addr × Nat × List Int)) (hsz : rows.length ≤ 1000000) (hr : ∀ r ∈ rows, Ints w r.1 r.2.1 r.2.2) :
    Mat (w.alloc (.cells (rows.map fun r => Value.slice r.1 r.2.2.length r.2.1).toArray 27)) (some ⟨w.heap.size, 0, none⟩) rows.length (rows.map fun r => r.2.2) := by
  have hb : Below w.heap.size w (w.alloc (.cells (rows.map fun r => Value.slice r.1 r.2.2.length r.2.1).toArray 27)) := (Below.refl _ w).alloc (Nat.le_refl _) _
  have hn := World.alloc_heap_new w (.cells (rows.map fun r => Value.slice r.1 r.2.2.length r.2.1).toArray 27)
  refine ⟨by simp, by omega, fun h => (by cases h), ?_, ?_⟩
  · rintro a ⟨⟩ _
    exact ⟨rfl, by simp⟩
  · rintro b o ⟨⟩ j hj
    have hj' : j < rows.length := by simpa using hj
    have hg : rget (rows.map fun r => r.2.2) j = rows[j].2.2 := by rw [rget_of hj]; simp
    refine ⟨rows[j].1, rows[j].2.1, ?_, ?_⟩
    · simp only [World.cell?]
      rw [hn, hg, Nat.zero_add]
      simp [hj']
    · rw [hg]
      exact (hr _ (List.getElem_mem hj')).below hb (Nat.le_refl _)

inductive Item where
  | ints (p : Option Addr) (n c : Nat) (xs : List Int)
  | mat (p : Option Addr) (n c : Nat) (v : List (List Int))
  | mats (b : Nat) (vs : List Value) (ms : List (List (List Int)))
  | box (b : Nat) (vs : List Value)
def Item.ok (w : World) : Item → Prop
  | .ints p n c xs => xs.length = n ∧ Ints w p c xs
  | .mat p n c v => v.length = n ∧ Mat w p c v
  | .mats b vs ms => vs.length = ms.length ∧ b < w.heap.size ∧ ∀ (j : Nat) (v : List (List Int)), ms[j]? = some v → ∃ p c, w.cell? ⟨b, j, none⟩ = some (.slice p v.length c) ∧ vs[j]? = some (.slice p v.length c) ∧ Mat w p c v
  | .box b vs => b < w.heap.size ∧ ∀ (j : Nat) (u : Value), vs[j]? = some u → w.cell? ⟨b, j, none⟩ = some u
theorem Item.ok_below {w w' : World} {i : Item} (h : i.ok w) (hb : Below w.heap.size w w') : i.ok w' := by
  cases i with
  | ints p n c xs => exact ⟨h.1, Ints.below h.2 hb (Nat.le_refl _)⟩
  | mat p n c v => exact ⟨h.1, Mat.below h.2 hb (Nat.le_refl _)⟩
  | mats b vs ms =>
    obtain ⟨h0, h1, h2⟩ := h
    refine ⟨h0, Nat.lt_of_lt_of_le h1 hb.size, fun j v hm => ?_⟩
    obtain ⟨p, c, h3, h4, h5⟩ := h2 j v hm
    exact ⟨p, c, (hb.cell (p := ⟨b, j, none⟩) h1).trans h3, h4, h5.below hb (Nat.le_refl _)⟩
  | box b vs => exact ⟨Nat.lt_of_lt_of_le h.1 hb.size, fun j u hj => (hb.cell (p := ⟨b, j, none⟩) h.1).trans (h.2 j u hj)⟩
/-- The items of these numbers are rows: what they hold, and their values. -/
inductive RowsAt (l : List Item) : List Nat → List (List Int) → List Value → Prop where
  | nil : RowsAt l [] [] []
  | cons {k : Nat} {ks : List Nat} {p : Option Addr} {n c : Nat} {x : List Int} {v : List (List Int)} {vs : List Value} (h : l[k]? = some (.ints p n c x)) (t : RowsAt l ks v vs) : RowsAt l (k :: ks) (x :: v) (.slice p n c :: vs)
  | nul {k : Nat} {ks : List Nat} {v : List (List Int)} {vs : List Value} (t : RowsAt l ks v vs) : RowsAt l (k :: ks) ([] :: v) (.slice none 0 0 :: vs)
inductive MatsAt (l : List Item) : List Nat → List (List (List Int)) → List Value → Prop where
  | nil : MatsAt l [] [] []
  | cons {k : Nat} {ks : List Nat} {p : Option Addr} {n c : Nat} {x : List (List Int)} {v : List (List (List Int))} {vs : List Value} (h : l[k]? = some (.mat p n c x)) (t : MatsAt l ks v vs) : MatsAt l (k :: ks) (x :: v) (.slice p n c :: vs)
  | nul {k : Nat} {ks : List Nat} {v : List (List (List Int))} {vs : List Value} (t : MatsAt l ks v vs) : MatsAt l (k :: ks) ([] :: v) (.slice none 0 0 :: vs)
theorem RowsAt.spec {l : List Item} {w : World} (hl : ∀ i ∈ l, i.ok w) {ks : List Nat} {v : List (List Int)} {vs : List Value} (h : RowsAt l ks v vs) :
    vs.length = v.length ∧ ∀ (j : Nat) (x : List Int), v[j]? = some x → ∃ p c, vs[j]? = some (Value.slice p x.length c) ∧ Ints w p c x := by
  induction h with
  | nil => exact ⟨rfl, fun j x h => (by simp at h)⟩
  | cons h t ih =>
    refine ⟨by simp [ih.1], fun j x hj => ?_⟩
    cases j with
    | zero =>
      simp at hj; subst hj
      obtain ⟨h1, h2⟩ := hl _ (List.mem_of_getElem? h)
      exact ⟨_, _, by rw [h1]; rfl, h2⟩
    | succ j => exact ih.2 j x (by simpa using hj)
  | nul t ih =>
    refine ⟨by simp [ih.1], fun j x hj => ?_⟩
    cases j with
    | zero => simp at hj; subst hj; exact ⟨none, 0, rfl, Ints.ofNil w⟩
    | succ j => exact ih.2 j x (by simpa using hj)
theorem MatsAt.spec {l : List Item} {w : World} (hl : ∀ i ∈ l, i.ok w) {ks : List Nat} {v : List (List (List Int))} {vs : List Value} (h : MatsAt l ks v vs) :
    vs.length = v.length ∧ ∀ (j : Nat) (x : List (List Int)), v[j]? = some x → ∃ p c, vs[j]? = some (Value.slice p x.length c) ∧ Mat w p c x := by
  induction h with
  | nil => exact ⟨rfl, fun j x h => (by simp at h)⟩
  | cons h t ih =>
    refine ⟨by simp [ih.1], fun j x hj => ?_⟩
    cases j with
    | zero =>
      simp at hj; subst hj
      obtain ⟨h1, h2⟩ := hl _ (List.mem_of_getElem? h)
      exact ⟨_, _, by rw [h1]; rfl, h2⟩
    | succ j => exact ih.2 j x (by simpa using hj)
  | nul t ih =>
    refine ⟨by simp [ih.1], fun j x hj => ?_⟩
    cases j with
    | zero => simp at hj; subst hj; exact ⟨none, 0, rfl, Mat.ofNil w⟩
    | succ j => exact ih.2 j x (by simpa using hj)
theorem mat_new (w : World) (v : List (List Int)) (vs : List Value) (hsz : v.length ≤ 1000000) (hl : vs.length = v.length) (h : ∀ (j : Nat) (x : List Int), v[j]? = some x → ∃ p c, vs[j]? = some (Value.slice p x.length c) ∧ Ints w p c x) :
    Mat (w.alloc (.cells vs.toArray 27)) (some ⟨w.heap.size, 0, none⟩) v.length v := by
  have hb : Below w.heap.size w (w.alloc (.cells vs.toArray 27)) := (Below.refl _ w).alloc (Nat.le_refl _) _
  have hn := World.alloc_heap_new w (.cells vs.toArray 27)
  refine ⟨Nat.le_refl _, by omega, fun h => (by cases h), ?_, ?_⟩
  · rintro a ⟨⟩ _
    exact ⟨rfl, by simp⟩
  · rintro b o ⟨⟩ j hj
    obtain ⟨p, c, h1, h2⟩ := h j (rget v j) (by rw [rget_of hj]; simp [hj])
    refine ⟨p, c, ?_, h2.below hb (Nat.le_refl _)⟩
    simp only [World.cell?]
    rw [hn, Nat.zero_add]
    simp [h1]

/-- In w, of B blocks, the items read as they say; what lay in w0 lies as it lay. -/
structure St (w0 w : World) (B : Nat) (l : List Item) : Prop where
  size : w.heap.size = B
  bel : Below w0.heap.size w0 w
  all : ∀ i ∈ l, i.ok w
theorem St.start (w : World) : St w w w.heap.size [] := ⟨rfl, Below.refl _ _, fun _ h => (by cases h)⟩
section
variable {w0 w : World} {B : Nat} {l : List Item}
theorem St.step {w' : World} (h : St w0 w B l) (hb : Below w.heap.size w w') : St w0 w' w'.heap.size l :=
  ⟨rfl, h.bel.trans (hb.mono h.bel.size), fun i hi => Item.ok_below (h.all i hi) hb⟩
theorem St.drew {w' : World} (h : St w0 w B l) (hw : ∃ n, w' = w.drewN n) : St w0 w' w'.heap.size l := by
  obtain ⟨n, rfl⟩ := hw; exact h.step (below_drewN _ _ _)
theorem St.add (h : St w0 w B l) (i : Item) (hi : i.ok w) : St w0 w B (i :: l) :=
  ⟨h.size, h.bel, fun j hj => by
    rcases List.mem_cons.1 hj with rfl | hj
    · exact hi
    · exact h.all j hj⟩
theorem St.pop {i : Item} (h : St w0 w B (i :: l)) : St w0 w B l := ⟨h.size, h.bel, fun j hj => h.all j (List.mem_cons_of_mem _ hj)⟩
theorem St.addI {n c : Nat} {p : Option Addr} {xs : List Int} (h : St w0 w B l) (hn : xs.length = n) (hi : Ints w p c xs) : St w0 w B (.ints p n c xs :: l) := h.add _ ⟨hn, hi⟩
theorem St.addM {n c : Nat} {p : Option Addr} {v : List (List Int)} (h : St w0 w B l) (hn : v.length = n) (hi : Mat w p c v) : St w0 w B (.mat p n c v :: l) := h.add _ ⟨hn, hi⟩
theorem St.intsAt (h : St w0 w B l) (k : Nat) {p : Option Addr} {n c : Nat} {xs : List Int} (hk : l[k]? = some (.ints p n c xs)) : Ints w p c xs := (h.all _ (List.mem_of_getElem? hk)).2
theorem St.matAt (h : St w0 w B l) (k : Nat) {p : Option Addr} {n c : Nat} {v : List (List Int)} (hk : l[k]? = some (.mat p n c v)) : Mat w p c v := (h.all _ (List.mem_of_getElem? hk)).2
theorem St.matsAt (h : St w0 w B l) (k : Nat) {b : Nat} {vs : List Value} {ms : List (List (List Int))} (hk : l[k]? = some (.mats b vs ms)) : ∀ (j : Nat) (v : List (List Int)), ms[j]? = some v → ∃ p c, w.cell? ⟨b, j, none⟩ = some (.slice p v.length c) ∧ Mat w p c v := fun j v hj => by
  obtain ⟨p, c, h1, _, h2⟩ := (h.all _ (List.mem_of_getElem? hk)).2.2 j v hj
  exact ⟨p, c, h1, h2⟩
theorem St.bump (h : St w0 w B l) (o : Obj) : St w0 (w.alloc o) (B + 1) l :=
  ⟨by simp [h.size], h.bel.alloc h.bel.size _, fun i hi => Item.ok_below (h.all i hi) ((Below.refl _ _).alloc (Nat.le_refl _) _)⟩
/-- A new block of known cells. -/
theorem St.box (h : St w0 w B l) (vs : List Value) (T : TypeId) : St w0 (w.alloc (.cells vs.toArray T)) (B + 1) (.box B vs :: l) :=
  (h.bump _).add _ ⟨by simp [h.size], fun j u hj => by rw [← h.size]; exact (World.cell?_alloc_at _ _ _ _ rfl).trans (by simpa using hj)⟩
theorem St.boxAt (h : St w0 w B l) (k j : Nat) {b : Nat} {vs : List Value} {u : Value} (hk : l[k]? = some (.box b vs)) (hj : vs[j]? = some u) : w.cell? ⟨b, j, none⟩ = some u := (h.all _ (List.mem_of_getElem? hk)).2 j u hj
theorem St.boxLt (h : St w0 w B l) (k : Nat) {b : Nat} {vs : List Value} (hk : l[k]? = some (.box b vs)) : b < w.heap.size := (h.all _ (List.mem_of_getElem? hk)).1
/-- '[]int{..}'. -/
theorem St.lit (h : St w0 w B l) (xs : List Int) (n : Nat) (hn : xs.length = n := by rfl) (hsz : n ≤ 1000 := by decide) (hr : xs.all in64B = true := by decide +kernel) :
    St w0 (w.alloc (.cells (xs.map (Value.int .i64)).toArray 3)) (B + 1) (.ints (some ⟨B, 0, none⟩) n n xs :: l) :=
  (h.bump _).add _ ⟨hn, by subst hn; rw [← h.size]; exact ints_lit w xs (by omega) (in64_all hr)⟩
/-- '[][]int{..}', its rows being items (by their numbers). -/
theorem St.litM (h : St w0 w B l) {ks : List Nat} {v : List (List Int)} {vs : List Value} (hm : RowsAt l ks v vs) (n : Nat) (hn : v.length = n := by rfl) (hsz : n ≤ 1000 := by decide) :
    St w0 (w.alloc (.cells vs.toArray 27)) (B + 1) (.mat (some ⟨B, 0, none⟩) n n v :: l) :=
  (h.bump _).add _ ⟨hn, by
    subst hn; rw [← h.size]
    obtain ⟨h1, h2⟩ := hm.spec h.all
    exact mat_new w v vs (by omega) h1 h2⟩
/-- 'make([][]int, n)', n a numeral. -/
theorem St.mkM (h : St w0 w B l) (n : Nat) (hsz : n ≤ 1000 := by decide) :
    St w0 (w.alloc (.cells (List.replicate n (.slice none 0 0)).toArray 27)) (B + 1) (.mat (some ⟨B, 0, none⟩) n n (List.replicate n []) :: l) :=
  (h.bump _).add _ ⟨by simp, by
    rw [← h.size]
    have := mat_new w (List.replicate n []) (List.replicate n (.slice none 0 0)) (by simp; omega) (by simp) (fun j x hj => by
      rw [List.getElem?_replicate] at hj
      split at hj
      · rename_i hlt
        cases hj
        exact ⟨none, 0, by rw [List.getElem?_replicate, if_pos hlt]; rfl, Ints.ofNil w⟩
      · cases hj)
    simpa using this⟩
/-- '[][][]int{..}', its tables being items. -/
theorem St.litMs (h : St w0 w B l) {ks : List Nat} {ms : List (List (List Int))} {vs : List Value} (hm : MatsAt l ks ms vs) (T : TypeId) :
    St w0 (w.alloc (.cells vs.toArray T)) (B + 1) (.mats B vs ms :: l) := by
  obtain ⟨h1, h2⟩ := hm.spec h.all
  refine (h.bump _).add _ ⟨h1, by simp [h.size], fun j v hj => ?_⟩
  obtain ⟨p, c, h3, h4⟩ := h2 j v hj
  refine ⟨p, c, ?_, h3, h4.below ((Below.refl _ w).alloc (Nat.le_refl _) _) (Nat.le_refl _)⟩
  have hn := World.alloc_heap_new w (.cells vs.toArray T)
  rw [← h.size]
  simp only [World.cell?]
  rw [hn]
  simp [h3]
/-- What goes on: the items, in every world that keeps what lies. -/
theorem St.frame (h : St w0 w B l) : ∃ G : World → Prop, G w ∧ Hid (∀ a b, G a → Below a.heap.size a b → G b) ∧ Hid (∀ a, G a → St w0 a a.heap.size l) :=
  ⟨fun a => St w0 a a.heap.size l, ⟨rfl, h.bel, h.all⟩, fun a b ha hb => ha.step hb, fun a ha => ha⟩
end
end Go.Proofs.Ytmcncflieoolmaa
