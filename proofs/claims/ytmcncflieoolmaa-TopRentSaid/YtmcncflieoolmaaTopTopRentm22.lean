/- The walk of rent.Stake, for every flat and agent.  (The regions are printed by wip/genstake.py.) -/
import Derived.Test.YtmcncflieoolmaaTopTopRentm15
import Derived.Test.YtmcncflieoolmaaTopTopRentm20
import Derived.Test.YtmcncflieoolmaaTopTopRentm21
/- The walk of rent.Stake, for every flat and agent.  (The regions are printed by wip/genstake.py.) -/
namespace Go.Proofs.Ytmcncflieoolmaa
set_option linter.unusedVariables false
set_option linter.unusedSimpArgs false
open Go.ChangeShapes Go.WideShapes Go.ChangeAt Go.RowKit Go.Deep

theorem r15 {i : Nat} (h : i < 15) : i = 0 ∨ i = 1 ∨ i = 2 ∨ i = 3 ∨ i = 4 ∨ i = 5 ∨ i = 6 ∨ i = 7 ∨ i = 8 ∨ i = 9 ∨ i = 10 ∨ i = 11 ∨ i = 12 ∨ i = 13 ∨ i = 14 := by omega
theorem r14 {i : Nat} (h : i < 14) : i = 0 ∨ i = 1 ∨ i = 2 ∨ i = 3 ∨ i = 4 ∨ i = 5 ∨ i = 6 ∨ i = 7 ∨ i = 8 ∨ i = 9 ∨ i = 10 ∨ i = 11 ∨ i = 12 ∨ i = 13 := by omega
def InS (v : List (List Int)) (r g : Int) : Prop := chkR v r = 0 ∧ 0 ≤ g ∧ g < v.length
instance (v : List (List Int)) (r g : Int) : Decidable (InS v r g) := by unfold InS; infer_instance
/-- The stakes, times the number of agents. -/
noncomputable def stLo (v : List (List Int)) (r : Int) (k : Nat) : Int := bid v k (itm (bestA v) k) * v.length - highI v r (itm (bestA v) k) v.length
noncomputable def stHi (v : List (List Int)) (r : Int) (k : Nat) : Int := bid v k (itm (bestA v) k) * v.length - lowI v r (itm (bestA v) k) v.length
noncomputable def skLo (v : List (List Int)) (r g : Int) : Value := if InS v r g then ratV (stLo v r g.toNat) v.length else zeroR
noncomputable def skHi (v : List (List Int)) (r g : Int) : Value := if InS v r g then ratV (stHi v r g.toNat) v.length else zeroR
def skE (v : List (List Int)) (r g : Int) : Int := if chkR v r = 0 then (if 0 ≤ g ∧ g < v.length then 0 else 2) else chkR v r
theorem sk_bad {v : List (List Int)} {r g : Int} (h : chkR v r ≠ 0) : skLo v r g = zeroR ∧ skHi v r g = zeroR ∧ skE v r g = chkR v r := by
  have hn : ¬ InS v r g := fun hi => h hi.1
  unfold skLo skHi skE; rw [if_neg hn, if_neg hn, if_neg h]; exact ⟨rfl, rfl, rfl⟩
theorem sk_off {v : List (List Int)} {r g : Int} (h : chkR v r = 0) (hg : ¬ (0 ≤ g ∧ g < v.length)) : skLo v r g = zeroR ∧ skHi v r g = zeroR ∧ skE v r g = 2 := by
  have hn : ¬ InS v r g := fun hi => hg hi.2
  unfold skLo skHi skE; rw [if_neg hn, if_neg hn, if_pos h, if_neg hg]; exact ⟨rfl, rfl, rfl⟩
theorem sk_in {v : List (List Int)} {r : Int} {k : Nat} (h : chkR v r = 0) (hk : k < v.length) : skLo v r k = ratV (stLo v r k) v.length ∧ skHi v r k = ratV (stHi v r k) v.length ∧ skE v r k = 0 := by
  have hn : InS v r k := ⟨h, by omega, by omega⟩
  unfold skLo skHi skE; rw [if_pos hn, if_pos hn, if_pos h, if_pos ⟨by omega, by omega⟩]; exact ⟨rfl, rfl, rfl⟩
/-- A whole number less a fraction in lowest terms is in lowest terms. -/
theorem sub_rat {y h : Int} {n : Nat} (hn : 0 < n) : rN (y * n - h) n = y * rD h n - rN h n ∧ rD (y * n - h) n = rD h n := by
  have h1 := rN_mul (x := h) hn
  have h2 := rD_mul (x := h) (d := n)
  have hp := rD_pos (x := h) hn
  have hgp : (0 : Int) < (rG h n : Nat) := by have := rG_pos (x := h) hn; omega
  have hD : rD h n = ((n / rG h n : Nat) : Int) := rfl
  have hx : h * rD h n = rN h n * n := by
    have : h * rD h n * (rG h n : Nat) = rN h n * n * (rG h n : Nat) := by
      rw [Int.mul_assoc, h2, ← h1, Int.mul_assoc, Int.mul_comm ((rG h n : Nat) : Int) (n : Int), ← Int.mul_assoc]
      simp only [h1]
    exact Int.eq_of_mul_eq_mul_right (by omega) this
  have e : (y * n - h) * ((n / rG h n : Nat) : Int) = (y * rD h n - rN h n) * n := by
    rw [← hD, Int.sub_mul, Int.sub_mul, hx, Int.mul_assoc, Int.mul_assoc, Int.mul_comm (n : Int)]
  obtain ⟨e1, e2⟩ := rat_eq hn hp e
  have hc : Nat.gcd (y * rD h n - rN h n).natAbs (n / rG h n) = 1 := by
    have h3 := rat_cop (x := h) hn
    have h4 : Int.gcd (y * rD h n - rN h n) (rD h n) = Int.gcd (rN h n) (rD h n) := by
      rw [show y * rD h n - rN h n = -(rN h n) + rD h n * y by rw [Int.mul_comm]; omega, Int.gcd_add_mul_left_left, Int.neg_gcd]
    unfold Int.gcd at h4
    rw [hD, Int.natAbs_natCast] at h4
    rw [hD, h4]; exact h3
  obtain ⟨e3, e4⟩ := rat_self hc
  exact ⟨e1.trans e3, e2.trans (e4.trans hD.symm)⟩

theorem subRat_any (y x : Int) (n : Nat) (w : World) (hn : 0 < n) (h6 : n ≤ 6) (hy : -10000000 ≤ y ∧ y ≤ 10000000) (hx : -100000000 ≤ x ∧ x ≤ 100000000) :
    Calls Try.prog 48 #[.agg #[.int .i64 y, .int .i64 1], .agg #[.int .i64 (rN x n), .int .i64 (rD x n)]] w fun e w' => e = .returned (.tuple #[.agg #[.int .i64 (rN (y * n - x) n), .int .i64 (rD (y * n - x) n)], .int .i64 0]) ∧ Below w.heap.size w w' := by
  obtain ⟨e1, e2⟩ := sub_rat (y := y) (h := x) hn
  have h1 := rN_bd (x := x) (d := n) (M := 100000000) (by omega) (by omega)
  have h2 := rD_pos (x := x) hn
  have h3 := rD_le (x := x) (d := n)
  rw [e1, e2]
  exact subOne_any y (rN x n) (n / rG x n) w ⟨by omega, by omega⟩ ⟨⟨by omega, by omega⟩, ⟨h2, by omega⟩, rat_cop hn⟩ (by omega)

set_option maxHeartbeats 8000000 in
set_option maxRecDepth 100000 in
theorem rentStake_any (p : Option Addr) (c : Nat) (v : List (List Int)) (r g : Int) (w : World) (hx : Mat w p c v) (hg64 : in64 g) :
    Calls Try.prog 28 #[.agg #[.slice p v.length c, .int .i64 r], .int .i64 g] w fun e w' => e = .returned (.tuple #[skLo v r g, skHi v r g, .int .i64 (skE v r g)]) ∧ Below w.heap.size w w' := by
  obtain ⟨Wx, hWx⟩ : ∃ W, w.alloc (.cells #[.slice p v.length c, .int .i64 r] 24) = W := ⟨_, rfl⟩
  obtain ⟨Wy, hWy⟩ : ∃ W, Wx.alloc (.cells #[.int .i64 0, .int .i64 0] 35) = W := ⟨_, rfl⟩
  obtain ⟨W0, hW0⟩ : ∃ W, Wy.alloc (.cells #[.int .i64 0, .int .i64 0] 35) = W := ⟨_, rfl⟩
  have hB1 := below_alloc hWx
  have hB2 := below_alloc hWy
  have hB3 := below_alloc hW0
  have hs1 : Wx.heap.size = w.heap.size + 1 := by rw [← hWx]; simp
  have hs2 : Wy.heap.size = w.heap.size + 1 + 1 := by rw [← hWy]; simp; omega
  have hs3 : W0.heap.size = w.heap.size + 3 := by rw [← hW0]; simp; omega
  have bX : BoxV W0 w.heap.size [.slice p v.length c, .int .i64 r] := ((BoxV.new rfl hWx).below hB2).below hB3
  have ta : Two W0 (w.heap.size + 1) (.int .i64 0) (.int .i64 0) := (Two.new hs1 hWy.symm).below hB3 (by omega)
  have tb : Two W0 (w.heap.size + 1 + 1) (.int .i64 0) (.int .i64 0) := Two.new hs2 hW0.symm
  have hB : Below w.heap.size w W0 := (hB1.trans (hB2.mono hB1.size)).trans (hB3.mono (by omega))
  have mX := hx.below hB (Nat.le_refl _)
  have HWx := Lib.hid hWx
  have HWy := Lib.hid hWy
  have HW0 := Lib.hid hW0
  have cx0 := bX.cell 0 _ rfl
  have cx1 := bX.cell 1 _ rfl
  clear hWx hWy hW0 hB1 hB2 hB3 hs1 hs2 hx bX
  go_enter Try.func28, Try.ntmps28
  go_wp2_with fail
  rw [HWx.out, HWy.out, HW0.out]
  refine (leads_any p c v r _ mX).mono ?_
  rintro e w1 ⟨pa, da, pl, cl, Ql, Dl, rfl, hAo, hLD, hb⟩
  replace ta := ta.below hb (by omega)
  replace tb := tb.below hb (by omega)
  replace mX := mX.below hb (Nat.le_refl _)
  replace cx0 := (hb.cell (p := ⟨w.heap.size, 0, none⟩) (by simp only; omega)).trans cx0
  replace cx1 := (hb.cell (p := ⟨w.heap.size, 1, none⟩) (by simp only; omega)).trans cx1
  have hsz : w.heap.size + 3 ≤ w1.heap.size := by have := hb.size; omega
  replace hB := hB.trans (hb.mono hB.size)
  have hI := hAo.ints
  clear hb hAo hLD hs3
  by_cases hF : chkR v r = 0
  · have hcz : (chkR v r != 0) = false := by rw [hF]; rfl
    obtain ⟨hv, hr1, hr2⟩ := chkR_zero.1 hF
    have h0 := hv.1
    have h6 := hv.2.1
    have e2 : bestI v r = bestA v := by unfold bestI; rw [if_pos hF]
    have hal : (bestI v r).length = v.length := bestI_len hF
    rw [e2] at hI
    rw [hal]
    have HA := Lib.hid (bestA_best hv.1).1
    by_cases hin : 0 ≤ g ∧ g < v.length
    · obtain ⟨k0, rfl⟩ : ∃ k : Nat, g = k := ⟨g.toNat, by omega⟩
      have hk : k0 < v.length := by omega
      have E := sk_in (v := v) (r := r) hF hk
      have E1 := Lib.hid E.1
      have E2 := Lib.hid E.2.1
      have E3 := Lib.hid E.2.2
      obtain ⟨ba, oa, rfl, _, hca⟩ := hI.get (j := k0) (by rw [HA.out.1]; exact hk)
      obtain ⟨hi1, hi2⟩ := isA_lt HA.out k0 hk
      obtain ⟨x, hxx⟩ : ∃ x : Nat, iget (bestA v) k0 = (x : Int) := ⟨(iget (bestA v) k0).toNat, by omega⟩
      rw [hxx] at hca
      have hitx : itm (bestA v) k0 = x := by simp [itm, hxx]
      have hxl : x < v.length := by omega
      have HLo : Hid (stLo v r k0 = bid v k0 x * v.length - highI v r x v.length) := by unfold Hid stLo; rw [hitx]
      have HHi : Hid (stHi v r k0 = bid v k0 x * v.length - lowI v r x v.length) := by unfold Hid stHi; rw [hitx]
      obtain ⟨b, o, rfl, _, q1, d1, hc, hi⟩ := mX.get hk
      have hrl : (rget v k0).length = v.length := (hv.2.2 k0 hk).1
      obtain ⟨b1, o1, rfl, _, hc1⟩ := hi.get (j := x) (by omega)
      have hy := (hv.2.2 k0 hk).2 x hxl
      have Hrg : ∀ W, Below w1.heap.size w1 W → Calls Try.prog 13 #[.agg #[.slice (some ⟨b, o, none⟩) v.length c, .int .i64 r], .int .i64 (x : Int)] W fun e w' => e = .returned (.tuple #[ratV (lowI v r x v.length) v.length, ratV (highI v r x v.length) v.length, .int .i64 0]) ∧ Below W.heap.size W w' := fun W h => by
        have h2 := roomRange_any (some ⟨b, o, none⟩) c v r x W (mX.below h (Nat.le_refl _)) ⟨by omega, by omega⟩
        obtain ⟨r1, r2, r3⟩ := rng_in (r := r) hF hxl
        rw [r1, r2, r3] at h2
        exact h2
      have hlo := lowI_bd hv hr1 hr2 hxl (Nat.le_refl v.length)
      have hhi := highI_bd hv hr1 hr2 hxl (Nat.le_refl v.length)
      have HF := Lib.hid hF
      have Hv := Lib.hid hv
      generalize lowI v r x v.length = lo at *
      generalize highI v r x v.length = hh at *
      have HY : Hid (bid v k0 x = iget (rget v k0) x) := rfl
      generalize iget (rget v k0) x = y at *
      unfold ratV at Hrg
      have HRg := Lib.hid Hrg
      have Hmk : Hid (∀ W, Below w1.heap.size w1 W → W.cell? ⟨w.heap.size, 0, none⟩ = some (.slice (some ⟨b, o, none⟩) v.length c) ∧ W.cell? ⟨w.heap.size, 1, none⟩ = some (.int .i64 r) ∧ W.cell? ⟨ba, oa + k0, none⟩ = some (.int .i64 (x : Int)) ∧ W.cell? ⟨b, o + k0, none⟩ = some (.slice (some ⟨b1, o1, none⟩) (rget v k0).length d1) ∧ W.cell? ⟨b1, o1 + x, none⟩ = some (.int .i64 y) ∧ True) := fun W h =>
        ⟨(h.cell (World.block_lt_of_cell? _ _ cx0)).trans cx0, (h.cell (World.block_lt_of_cell? _ _ cx1)).trans cx1, (h.cell (World.block_lt_of_cell? _ _ hca)).trans hca, (h.cell (World.block_lt_of_cell? _ _ hc)).trans hc, (h.cell (World.block_lt_of_cell? _ _ hc1)).trans hc1, trivial⟩
      have hkl : (k0 : Int) < v.length := by omega
      have hxrl : (x : Int) < (rget v k0).length := by omega
      clear E hF hv hI Hrg mX hi hc hc1 hca cx0 cx1 e2 hal hrl hxx hitx
      have hneg : decide ((k0 : Int) < 0) = false := by simp
      have hneg' : ¬ (k0 : Int) < 0 := by omega
      have hge : ¬ (v.length : Int) ≤ k0 := by omega
      have hge' : decide (v.length ≤ k0) = false := by simp; omega
      go_wp2_with fail
      refine wp_region_inv (by kernel_rfl) (by decide +kernel) (by decide +kernel) _ _ (ManyJ w1 [(10, 12), (11, 13)] (fun kk => match kk with | 0 => (.agg #[.slice (some ⟨b, o, none⟩) v.length c, .int .i64 r]) | 1 => (.slice (some ⟨ba, oa, none⟩) v.length da) | 2 => (.int .i64 (k0 : Int)) | 3 => (.pointer (some ⟨ba, oa + k0, none⟩)) | 4 => (.int .i64 (x : Int)) | 5 => (.tuple #[(.agg #[.int .i64 (rN lo v.length), .int .i64 (rD lo v.length)]), (.agg #[.int .i64 (rN hh v.length), .int .i64 (rD hh v.length)]), .int .i64 0]) | 6 => (.tuple #[(.agg #[.int .i64 (rN lo v.length), .int .i64 (rD lo v.length)]), (.agg #[.int .i64 (rN hh v.length), .int .i64 (rD hh v.length)]), .int .i64 0]) | 7 => (.agg #[.int .i64 (rN lo v.length), .int .i64 (rD lo v.length)]) | 8 => (.agg #[.int .i64 (rN hh v.length), .int .i64 (rD hh v.length)]) | 9 => (.int .i64 0) | 14 => (.int .i64 0) | _ => undef) (fun kk => match kk with | 10 => (.int .i64 (rN lo v.length)) | 11 => (.int .i64 (rN hh v.length)) | _ => undef) (fun kk => match kk with | 10 => (.int .i64 (rD lo v.length)) | 11 => (.int .i64 (rD hh v.length)) | _ => undef)) ?_ ?_ ?_
      · exact fun us => ManyJ.start us
      · intro us D W i o A hA hi hJ hnD hon K hK
        have hlt : i < 15 := (Array.getElem?_eq_some_iff.1 hi).1
        rcases r15 hlt with rfl | rfl | rfl | rfl | rfl | rfl | rfl | rfl | rfl | rfl | rfl | rfl | rfl | rfl | rfl
        · have hi' := Option.some.inj hi
          subst hi'
          refine wp_val (v := (.agg #[.slice (some ⟨b, o, none⟩) v.length c, .int .i64 r])) (w' := W) ?_ (hK _ _ (hJ.pure (i := 0) (by decide) (Below.refl _ _)))
          · skip
            have e2 : A.tmps[2]?.getD undef = (.pointer (some ⟨w.heap.size, 0, none⟩)) := by rw [hA]; kernel_rfl
            obtain ⟨cc0, cc1, cc2, cc3, cc4, cc5⟩ := Hmk.out W hJ.bel
            clear hA hK hon hJ
            go_simp
        · have hi' := Option.some.inj hi
          subst hi'
          refine wp_val (v := (.slice (some ⟨ba, oa, none⟩) v.length da)) (w' := W) ?_ (hK _ _ (hJ.pure (i := 1) (by decide) (Below.refl _ _)))
          · skip
            have e7 : A.tmps[7]?.getD undef = (.slice (some ⟨ba, oa, none⟩) v.length da) := by rw [hA]; kernel_rfl
            clear hA hK hon hJ
            go_simp
        · have hi' := Option.some.inj hi
          subst hi'
          refine wp_val (v := (.int .i64 (k0 : Int))) (w' := W) ?_ (hK _ _ (hJ.pure (i := 2) (by decide) (Below.refl _ _)))
          · skip
            have e1 : A.tmps[1]?.getD undef = (.int .i64 (k0 : Int)) := by rw [hA]; kernel_rfl
            clear hA hK hon hJ
            go_simp
        · have hi' := Option.some.inj hi
          subst hi'
          refine wp_val (v := (.pointer (some ⟨ba, oa + k0, none⟩))) (w' := W) ?_ (hK _ _ (hJ.pure (i := 3) (by decide) (Below.refl _ _)))
          · skip
            have e36 : A.tmps[36]?.getD undef = (.slice (some ⟨ba, oa, none⟩) v.length da) := (by rw [hA]; kernel_rfl : A.tmps[36]?.getD undef = us 1).trans (hJ.val 1 (by decide) (hon 1 (by decide +kernel)))
            have e37 : A.tmps[37]?.getD undef = (.int .i64 (k0 : Int)) := (by rw [hA]; kernel_rfl : A.tmps[37]?.getD undef = us 2).trans (hJ.val 2 (by decide) (hon 2 (by decide +kernel)))
            clear hA hK hon hJ
            go_simp
        · have hi' := Option.some.inj hi
          subst hi'
          refine wp_val (v := (.int .i64 (x : Int))) (w' := W) ?_ (hK _ _ (hJ.pure (i := 4) (by decide) (Below.refl _ _)))
          · skip
            have e38 : A.tmps[38]?.getD undef = (.pointer (some ⟨ba, oa + k0, none⟩)) := (by rw [hA]; kernel_rfl : A.tmps[38]?.getD undef = us 3).trans (hJ.val 3 (by decide) (hon 3 (by decide +kernel)))
            obtain ⟨cc0, cc1, cc2, cc3, cc4, cc5⟩ := Hmk.out W hJ.bel
            clear hA hK hon hJ
            go_simp
        · have hi' := Option.some.inj hi
          subst hi'
          refine wp_enter (f := 13) (args := #[(.agg #[.slice (some ⟨b, o, none⟩) v.length c, .int .i64 r]), .int .i64 (x : Int)]) (w' := W) ?_ ((HRg.out W hJ.bel).mono ?_)
          · skip
            have e35 : A.tmps[35]?.getD undef = (.agg #[.slice (some ⟨b, o, none⟩) v.length c, .int .i64 r]) := (by rw [hA]; kernel_rfl : A.tmps[35]?.getD undef = us 0).trans (hJ.val 0 (by decide) (hon 0 (by decide +kernel)))
            have e39 : A.tmps[39]?.getD undef = (.int .i64 (x : Int)) := (by rw [hA]; kernel_rfl : A.tmps[39]?.getD undef = us 4).trans (hJ.val 4 (by decide) (hon 4 (by decide +kernel)))
            clear hA hK hon hJ
            go_simp
          · rintro r' wC ⟨rfl, hbC⟩
            exact ⟨_, rfl, hK _ _ (hJ.pure (i := 5) (by decide) hbC)⟩
        · have hi' := Option.some.inj hi
          subst hi'
          refine wp_val (v := (.tuple #[(.agg #[.int .i64 (rN lo v.length), .int .i64 (rD lo v.length)]), (.agg #[.int .i64 (rN hh v.length), .int .i64 (rD hh v.length)]), .int .i64 0])) (w' := W) ?_ (hK _ _ (hJ.pure (i := 6) (by decide) (Below.refl _ _)))
          · skip
            have e40 : A.tmps[40]?.getD undef = (.tuple #[(.agg #[.int .i64 (rN lo v.length), .int .i64 (rD lo v.length)]), (.agg #[.int .i64 (rN hh v.length), .int .i64 (rD hh v.length)]), .int .i64 0]) := (by rw [hA]; kernel_rfl : A.tmps[40]?.getD undef = us 5).trans (hJ.val 5 (by decide) (hon 5 (by decide +kernel)))
            clear hA hK hon hJ
            go_simp
        · have hi' := Option.some.inj hi
          subst hi'
          refine wp_val (v := (.agg #[.int .i64 (rN lo v.length), .int .i64 (rD lo v.length)])) (w' := W) ?_ (hK _ _ (hJ.pure (i := 7) (by decide) (Below.refl _ _)))
          · skip
            have e34 : A.tmps[34]?.getD undef = (.tuple #[(.agg #[.int .i64 (rN lo v.length), .int .i64 (rD lo v.length)]), (.agg #[.int .i64 (rN hh v.length), .int .i64 (rD hh v.length)]), .int .i64 0]) := (by rw [hA]; kernel_rfl : A.tmps[34]?.getD undef = us 6).trans (hJ.val 6 (by decide) (hon 6 (by decide +kernel)))
            clear hA hK hon hJ
            go_simp
        · have hi' := Option.some.inj hi
          subst hi'
          refine wp_val (v := (.agg #[.int .i64 (rN hh v.length), .int .i64 (rD hh v.length)])) (w' := W) ?_ (hK _ _ (hJ.pure (i := 8) (by decide) (Below.refl _ _)))
          · skip
            have e34 : A.tmps[34]?.getD undef = (.tuple #[(.agg #[.int .i64 (rN lo v.length), .int .i64 (rD lo v.length)]), (.agg #[.int .i64 (rN hh v.length), .int .i64 (rD hh v.length)]), .int .i64 0]) := (by rw [hA]; kernel_rfl : A.tmps[34]?.getD undef = us 6).trans (hJ.val 6 (by decide) (hon 6 (by decide +kernel)))
            clear hA hK hon hJ
            go_simp
        · have hi' := Option.some.inj hi
          subst hi'
          refine wp_val (v := (.int .i64 0)) (w' := W) ?_ (hK _ _ (hJ.pure (i := 9) (by decide) (Below.refl _ _)))
          · skip
            have e34 : A.tmps[34]?.getD undef = (.tuple #[(.agg #[.int .i64 (rN lo v.length), .int .i64 (rD lo v.length)]), (.agg #[.int .i64 (rN hh v.length), .int .i64 (rD hh v.length)]), .int .i64 0]) := (by rw [hA]; kernel_rfl : A.tmps[34]?.getD undef = us 6).trans (hJ.val 6 (by decide) (hon 6 (by decide +kernel)))
            clear hA hK hon hJ
            go_simp
        · have hi' := Option.some.inj hi
          subst hi'
          refine wp_val (v := .pointer (some ⟨W.heap.size, 0, none⟩)) (w' := W.alloc (.cells #[.int .i64 0, .int .i64 0] 35)) ?_ (hK _ _ (hJ.alloc (ai := 10) (si := 12) (by decide) (by decide) hnD _ _ _))
          · skip
            clear hA hK hon hJ
            go_simp
        · have hi' := Option.some.inj hi
          subst hi'
          refine wp_val (v := .pointer (some ⟨W.heap.size, 0, none⟩)) (w' := W.alloc (.cells #[.int .i64 0, .int .i64 0] 35)) ?_ (hK _ _ (hJ.alloc (ai := 11) (si := 13) (by decide) (by decide) hnD _ _ _))
          · skip
            clear hA hK hon hJ
            go_simp
        · have hi' := Option.some.inj hi
          subst hi'
          obtain ⟨g, x', y', hg, _, hlt, ht, _⟩ := hJ.blk (10, 12) (by decide) (hon 10 (by decide +kernel))
          refine wp_skip (w' := (W.setCell ⟨g, 0, none⟩ (.int .i64 (rN lo v.length))).setCell ⟨g, 1, none⟩ (.int .i64 (rD lo v.length))) ?_ (hK _ _ (hJ.store (ai := 10) (si := 12) (by decide) (by decide) (hon 10 (by decide +kernel)) hg undef))
          · skip
            have e9 : A.tmps[9]?.getD undef = .pointer (some ⟨g, 0, none⟩) := (by rw [hA]; kernel_rfl : A.tmps[9]?.getD undef = us 10).trans hg
            have e41 : A.tmps[41]?.getD undef = (.agg #[.int .i64 (rN lo v.length), .int .i64 (rD lo v.length)]) := (by rw [hA]; kernel_rfl : A.tmps[41]?.getD undef = us 7).trans (hJ.val 7 (by decide) (hon 7 (by decide +kernel)))
            have c0 := ht.c0
            have c1 := ht.c1
            have f0 := ht.f0
            have f1 := ht.f1
            clear ht
            clear hA hK hon hJ
            go_simp
        · have hi' := Option.some.inj hi
          subst hi'
          obtain ⟨g, x', y', hg, _, hlt, ht, _⟩ := hJ.blk (11, 13) (by decide) (hon 11 (by decide +kernel))
          refine wp_skip (w' := (W.setCell ⟨g, 0, none⟩ (.int .i64 (rN hh v.length))).setCell ⟨g, 1, none⟩ (.int .i64 (rD hh v.length))) ?_ (hK _ _ (hJ.store (ai := 11) (si := 13) (by decide) (by decide) (hon 11 (by decide +kernel)) hg undef))
          · skip
            have e10 : A.tmps[10]?.getD undef = .pointer (some ⟨g, 0, none⟩) := (by rw [hA]; kernel_rfl : A.tmps[10]?.getD undef = us 11).trans hg
            have e42 : A.tmps[42]?.getD undef = (.agg #[.int .i64 (rN hh v.length), .int .i64 (rD hh v.length)]) := (by rw [hA]; kernel_rfl : A.tmps[42]?.getD undef = us 8).trans (hJ.val 8 (by decide) (hon 8 (by decide +kernel)))
            have c0 := ht.c0
            have c1 := ht.c1
            have f0 := ht.f0
            have f1 := ht.f1
            clear ht
            clear hA hK hon hJ
            go_simp
        · have hi' := Option.some.inj hi
          subst hi'
          refine wp_val (v := (.int .i64 0)) (w' := W) ?_ (hK _ _ (hJ.pure (i := 14) (by decide) (Below.refl _ _)))
          · skip
            have e43 : A.tmps[43]?.getD undef = (.int .i64 0) := (by rw [hA]; kernel_rfl : A.tmps[43]?.getD undef = us 9).trans (hJ.val 9 (by decide) (hon 9 (by decide +kernel)))
            clear hA hK hon hJ
            go_simp
      · intro us D w2 hJ hall
        obtain ⟨g1, u9, g1l, g1h, t9⟩ := hJ.get (ai := 10) (si := 12) (by decide) (hall 10 (by decide)) (hall 12 (by decide))
        obtain ⟨g2, u10, g2l, g2h, t10⟩ := hJ.get (ai := 11) (si := 13) (by decide) (hall 11 (by decide)) (hall 13 (by decide))
        have u14 : us 14 = (.int .i64 0) := hJ.val 14 (by decide) (hall 14 (by decide))
        have hb := hJ.bel
        clear hJ hall HRg
        replace ta := ta.below hb (by omega)
        replace tb := tb.below hb (by omega)
        have Hmk2 : Hid (∀ W, Below w2.heap.size w2 W → W.cell? ⟨w.heap.size, 0, none⟩ = some (.slice (some ⟨b, o, none⟩) v.length c) ∧ W.cell? ⟨w.heap.size, 1, none⟩ = some (.int .i64 r) ∧ W.cell? ⟨ba, oa + k0, none⟩ = some (.int .i64 (x : Int)) ∧ W.cell? ⟨b, o + k0, none⟩ = some (.slice (some ⟨b1, o1, none⟩) (rget v k0).length d1) ∧ W.cell? ⟨b1, o1 + x, none⟩ = some (.int .i64 y) ∧ True) := fun W h => Hmk.out W (hb.trans (h.mono hb.size))
        replace hB := hB.trans (hb.mono (by omega))
        clear Hmk
        have Hmk := Hmk2
        clear Hmk2
        have hszw : w1.heap.size ≤ w2.heap.size := hb.size
        clear hb
        simp only [actL, slotL, putL, List.setIfInBounds_toArray, List.set_cons_zero, List.set_cons_succ, Nat.zero_add, Nat.reduceAdd, u9, u10, u14]
        clear u9 u10 u14
        go_wp2_with fail
        refine wp_region_inv (by kernel_rfl) (by decide +kernel) (by decide +kernel) _ _ (ManyJ w2 [(12, 13)] (fun kk => match kk with | 0 => (.pointer (some ⟨w.heap.size, 0, none⟩)) | 1 => (.slice (some ⟨b, o, none⟩) v.length c) | 2 => (.int .i64 (k0 : Int)) | 3 => (.pointer (some ⟨b, o + k0, none⟩)) | 4 => (.slice (some ⟨b1, o1, none⟩) (rget v k0).length d1) | 5 => (.slice (some ⟨ba, oa, none⟩) v.length da) | 6 => (.int .i64 (k0 : Int)) | 7 => (.pointer (some ⟨ba, oa + k0, none⟩)) | 8 => (.int .i64 (x : Int)) | 9 => (.pointer (some ⟨b1, o1 + x, none⟩)) | 10 => (.int .i64 y) | 11 => (.agg #[.int .i64 y, .int .i64 1]) | _ => undef) (fun kk => match kk with | 12 => (.int .i64 y) | _ => undef) (fun kk => match kk with | 12 => (.int .i64 1) | _ => undef)) ?_ ?_ ?_
        · exact fun us => ManyJ.start us
        · intro us D W i o A hA hi hJ hnD hon K hK
          have hlt : i < 14 := (Array.getElem?_eq_some_iff.1 hi).1
          rcases r14 hlt with rfl | rfl | rfl | rfl | rfl | rfl | rfl | rfl | rfl | rfl | rfl | rfl | rfl | rfl
          · have hi' := Option.some.inj hi
            subst hi'
            refine wp_val (v := (.pointer (some ⟨w.heap.size, 0, none⟩))) (w' := W) ?_ (hK _ _ (hJ.pure (i := 0) (by decide) (Below.refl _ _)))
            · skip
              have e2 : A.tmps[2]?.getD undef = (.pointer (some ⟨w.heap.size, 0, none⟩)) := by rw [hA]; kernel_rfl
              clear hA hK hon hJ
              go_simp
          · have hi' := Option.some.inj hi
            subst hi'
            refine wp_val (v := (.slice (some ⟨b, o, none⟩) v.length c)) (w' := W) ?_ (hK _ _ (hJ.pure (i := 1) (by decide) (Below.refl _ _)))
            · skip
              have e44 : A.tmps[44]?.getD undef = (.pointer (some ⟨w.heap.size, 0, none⟩)) := (by rw [hA]; kernel_rfl : A.tmps[44]?.getD undef = us 0).trans (hJ.val 0 (by decide) (hon 0 (by decide +kernel)))
              obtain ⟨cc0, cc1, cc2, cc3, cc4, cc5⟩ := Hmk.out W hJ.bel
              clear hA hK hon hJ
              go_simp
          · have hi' := Option.some.inj hi
            subst hi'
            refine wp_val (v := (.int .i64 (k0 : Int))) (w' := W) ?_ (hK _ _ (hJ.pure (i := 2) (by decide) (Below.refl _ _)))
            · skip
              have e1 : A.tmps[1]?.getD undef = (.int .i64 (k0 : Int)) := by rw [hA]; kernel_rfl
              clear hA hK hon hJ
              go_simp
          · have hi' := Option.some.inj hi
            subst hi'
            refine wp_val (v := (.pointer (some ⟨b, o + k0, none⟩))) (w' := W) ?_ (hK _ _ (hJ.pure (i := 3) (by decide) (Below.refl _ _)))
            · skip
              have e45 : A.tmps[45]?.getD undef = (.slice (some ⟨b, o, none⟩) v.length c) := (by rw [hA]; kernel_rfl : A.tmps[45]?.getD undef = us 1).trans (hJ.val 1 (by decide) (hon 1 (by decide +kernel)))
              have e46 : A.tmps[46]?.getD undef = (.int .i64 (k0 : Int)) := (by rw [hA]; kernel_rfl : A.tmps[46]?.getD undef = us 2).trans (hJ.val 2 (by decide) (hon 2 (by decide +kernel)))
              clear hA hK hon hJ
              go_simp
          · have hi' := Option.some.inj hi
            subst hi'
            refine wp_val (v := (.slice (some ⟨b1, o1, none⟩) (rget v k0).length d1)) (w' := W) ?_ (hK _ _ (hJ.pure (i := 4) (by decide) (Below.refl _ _)))
            · skip
              have e47 : A.tmps[47]?.getD undef = (.pointer (some ⟨b, o + k0, none⟩)) := (by rw [hA]; kernel_rfl : A.tmps[47]?.getD undef = us 3).trans (hJ.val 3 (by decide) (hon 3 (by decide +kernel)))
              obtain ⟨cc0, cc1, cc2, cc3, cc4, cc5⟩ := Hmk.out W hJ.bel
              clear hA hK hon hJ
              go_simp
          · have hi' := Option.some.inj hi
            subst hi'
            refine wp_val (v := (.slice (some ⟨ba, oa, none⟩) v.length da)) (w' := W) ?_ (hK _ _ (hJ.pure (i := 5) (by decide) (Below.refl _ _)))
            · skip
              have e7 : A.tmps[7]?.getD undef = (.slice (some ⟨ba, oa, none⟩) v.length da) := by rw [hA]; kernel_rfl
              clear hA hK hon hJ
              go_simp
          · have hi' := Option.some.inj hi
            subst hi'
            refine wp_val (v := (.int .i64 (k0 : Int))) (w' := W) ?_ (hK _ _ (hJ.pure (i := 6) (by decide) (Below.refl _ _)))
            · skip
              have e1 : A.tmps[1]?.getD undef = (.int .i64 (k0 : Int)) := by rw [hA]; kernel_rfl
              clear hA hK hon hJ
              go_simp
          · have hi' := Option.some.inj hi
            subst hi'
            refine wp_val (v := (.pointer (some ⟨ba, oa + k0, none⟩))) (w' := W) ?_ (hK _ _ (hJ.pure (i := 7) (by decide) (Below.refl _ _)))
            · skip
              have e49 : A.tmps[49]?.getD undef = (.slice (some ⟨ba, oa, none⟩) v.length da) := (by rw [hA]; kernel_rfl : A.tmps[49]?.getD undef = us 5).trans (hJ.val 5 (by decide) (hon 5 (by decide +kernel)))
              have e50 : A.tmps[50]?.getD undef = (.int .i64 (k0 : Int)) := (by rw [hA]; kernel_rfl : A.tmps[50]?.getD undef = us 6).trans (hJ.val 6 (by decide) (hon 6 (by decide +kernel)))
              clear hA hK hon hJ
              go_simp
          · have hi' := Option.some.inj hi
            subst hi'
            refine wp_val (v := (.int .i64 (x : Int))) (w' := W) ?_ (hK _ _ (hJ.pure (i := 8) (by decide) (Below.refl _ _)))
            · skip
              have e51 : A.tmps[51]?.getD undef = (.pointer (some ⟨ba, oa + k0, none⟩)) := (by rw [hA]; kernel_rfl : A.tmps[51]?.getD undef = us 7).trans (hJ.val 7 (by decide) (hon 7 (by decide +kernel)))
              obtain ⟨cc0, cc1, cc2, cc3, cc4, cc5⟩ := Hmk.out W hJ.bel
              clear hA hK hon hJ
              go_simp
          · have hi' := Option.some.inj hi
            subst hi'
            refine wp_val (v := (.pointer (some ⟨b1, o1 + x, none⟩))) (w' := W) ?_ (hK _ _ (hJ.pure (i := 9) (by decide) (Below.refl _ _)))
            · skip
              have e48 : A.tmps[48]?.getD undef = (.slice (some ⟨b1, o1, none⟩) (rget v k0).length d1) := (by rw [hA]; kernel_rfl : A.tmps[48]?.getD undef = us 4).trans (hJ.val 4 (by decide) (hon 4 (by decide +kernel)))
              have e52 : A.tmps[52]?.getD undef = (.int .i64 (x : Int)) := (by rw [hA]; kernel_rfl : A.tmps[52]?.getD undef = us 8).trans (hJ.val 8 (by decide) (hon 8 (by decide +kernel)))
              clear hA hK hon hJ
              go_simp
          · have hi' := Option.some.inj hi
            subst hi'
            refine wp_val (v := (.int .i64 y)) (w' := W) ?_ (hK _ _ (hJ.pure (i := 10) (by decide) (Below.refl _ _)))
            · skip
              have e53 : A.tmps[53]?.getD undef = (.pointer (some ⟨b1, o1 + x, none⟩)) := (by rw [hA]; kernel_rfl : A.tmps[53]?.getD undef = us 9).trans (hJ.val 9 (by decide) (hon 9 (by decide +kernel)))
              obtain ⟨cc0, cc1, cc2, cc3, cc4, cc5⟩ := Hmk.out W hJ.bel
              clear hA hK hon hJ
              go_simp
          · have hi' := Option.some.inj hi
            subst hi'
            refine wp_val (v := (.agg #[.int .i64 y, .int .i64 1])) (w' := W) ?_ (hK _ _ (hJ.pure (i := 11) (by decide) (Below.refl _ _)))
            · skip
              have e54 : A.tmps[54]?.getD undef = (.int .i64 y) := (by rw [hA]; kernel_rfl : A.tmps[54]?.getD undef = us 10).trans (hJ.val 10 (by decide) (hon 10 (by decide +kernel)))
              clear hA hK hon hJ
              go_simp
          · have hi' := Option.some.inj hi
            subst hi'
            refine wp_val (v := .pointer (some ⟨W.heap.size, 0, none⟩)) (w' := W.alloc (.cells #[.int .i64 0, .int .i64 0] 35)) ?_ (hK _ _ (hJ.alloc (ai := 12) (si := 13) (by decide) (by decide) hnD _ _ _))
            · skip
              clear hA hK hon hJ
              go_simp
          · have hi' := Option.some.inj hi
            subst hi'
            obtain ⟨g, x', y', hg, _, hlt, ht, _⟩ := hJ.blk (12, 13) (by decide) (hon 12 (by decide +kernel))
            refine wp_skip (w' := (W.setCell ⟨g, 0, none⟩ (.int .i64 y)).setCell ⟨g, 1, none⟩ (.int .i64 1)) ?_ (hK _ _ (hJ.store (ai := 12) (si := 13) (by decide) (by decide) (hon 12 (by decide +kernel)) hg undef))
            · skip
              have e12 : A.tmps[12]?.getD undef = .pointer (some ⟨g, 0, none⟩) := (by rw [hA]; kernel_rfl : A.tmps[12]?.getD undef = us 12).trans hg
              have e55 : A.tmps[55]?.getD undef = (.agg #[.int .i64 y, .int .i64 1]) := (by rw [hA]; kernel_rfl : A.tmps[55]?.getD undef = us 11).trans (hJ.val 11 (by decide) (hon 11 (by decide +kernel)))
              have c0 := ht.c0
              have c1 := ht.c1
              have f0 := ht.f0
              have f1 := ht.f1
              clear ht
              clear hA hK hon hJ
              go_simp
        · intro us2 D2 w3 hJ hall
          obtain ⟨g3, u12, g3l, g3h, t12⟩ := hJ.get (ai := 12) (si := 13) (by decide) (hall 12 (by decide)) (hall 13 (by decide))
          have hb := hJ.bel
          clear hJ hall
          replace ta := ta.below hb (by omega)
          replace tb := tb.below hb (by omega)
          replace t9 := t9.below hb g1h
          replace t10 := t10.below hb g2h
          replace hB := hB.trans (hb.mono (by omega))
          have hszx : w2.heap.size ≤ w3.heap.size := hb.size
          clear hb Hmk
          simp only [actL, slotL, putL, List.setIfInBounds_toArray, List.set_cons_zero, List.set_cons_succ, Nat.zero_add, Nat.reduceAdd, u12]
          clear u12
          have Ht9 := Lib.hid t9
          have Hta := Lib.hid ta
          have Htb := Lib.hid tb
          have Ht12 := Lib.hid t12
          have hq3 : w.heap.size + 3 ≤ g1 := by omega
          have hq4 : w.heap.size + 3 ≤ g2 := by omega
          have hq5 : w.heap.size + 3 ≤ g3 := by omega
          have hq6 : g1 < w3.heap.size := by omega
          obtain ⟨c100, c101, f100, f101⟩ := t10
          obtain ⟨c120, c121, f120, f121⟩ := t12
          obtain ⟨x0, x1, y0, y1⟩ := ta
          clear f100 f101 f120 f121 t9 tb g1l g1h g2l g2h
          go_wp2_with fail
          refine (subRat_any y hh v.length _ (by omega) (by omega) (by omega) (by omega)).mono ?_
          rintro e w4 ⟨rfl, hb⟩
          have t9 := Ht9.out.below hb (by omega)
          have ta := Hta.out.below hb (by omega)
          have tb := Htb.out.below hb (by omega)
          have t12 := Ht12.out.below hb (by omega)
          replace hB := hB.trans (hb.mono (by omega))
          have hszy : w3.heap.size ≤ w4.heap.size := hb.size
          clear hb Ht9 Hta Htb Ht12 c100 c101 c120 c121 x0 x1 y0 y1
          have Ha5 := ta.put (u := (.int .i64 (rN (y * v.length - hh) v.length))) (v := (.int .i64 (rD (y * v.length - hh) v.length)))
          have Hb5 := (tb.far (T := w.heap.size + 1) (k := 0) (u := .int .i64 (rN (y * v.length - hh) v.length)) (by omega)).far (T := w.heap.size + 1) (k := 1) (u := .int .i64 (rD (y * v.length - hh) v.length)) (by omega)
          have H95 := (t9.far (T := w.heap.size + 1) (k := 0) (u := .int .i64 (rN (y * v.length - hh) v.length)) (by omega)).far (T := w.heap.size + 1) (k := 1) (u := .int .i64 (rD (y * v.length - hh) v.length)) (by omega)
          have H125 := (t12.far (T := w.heap.size + 1) (k := 0) (u := .int .i64 (rN (y * v.length - hh) v.length)) (by omega)).far (T := w.heap.size + 1) (k := 1) (u := .int .i64 (rD (y * v.length - hh) v.length)) (by omega)
          have HB5 := (hB.setCell (p := ⟨w.heap.size + 1, 0, none⟩) (by simp only; omega) (.int .i64 (rN (y * v.length - hh) v.length))).setCell (p := ⟨w.heap.size + 1, 1, none⟩) (by simp only; omega) (.int .i64 (rD (y * v.length - hh) v.length))
          have hs5 : ((w4.setCell ⟨w.heap.size + 1, 0, none⟩ (.int .i64 (rN (y * v.length - hh) v.length))).setCell ⟨w.heap.size + 1, 1, none⟩ (.int .i64 (rD (y * v.length - hh) v.length))).heap.size = w4.heap.size := by simp [World.setCell]
          obtain ⟨x0, x1, y0, y1⟩ := ta
          clear tb t9 t12 hB
          obtain ⟨c90, c91, f90, f91⟩ := H95
          obtain ⟨c120, c121, f120, f121⟩ := H125
          have Hab := Lib.hid Ha5
          have Hbb := Lib.hid Hb5
          have HBB := Lib.hid HB5
          clear f90 f91 f120 f121 Ha5 Hb5 HB5
          go_wp2_with fail
          refine (subRat_any y lo v.length _ (by omega) (by omega) (by omega) (by omega)).mono ?_
          rintro e w6 ⟨rfl, hb⟩
          have ta := Hab.out.below hb (by omega)
          have tb := Hbb.out.below hb (by omega)
          have hB := HBB.out.trans (hb.mono (by omega))
          clear hb Hab Hbb HBB c90 c91 c120 c121 x0 x1 y0 y1
          have Ha5 := (ta.far (T := w.heap.size + 1 + 1) (k := 0) (u := .int .i64 (rN (y * v.length - lo) v.length)) (by omega)).far (T := w.heap.size + 1 + 1) (k := 1) (u := .int .i64 (rD (y * v.length - lo) v.length)) (by omega)
          have Hb5 := tb.put (u := (.int .i64 (rN (y * v.length - lo) v.length))) (v := (.int .i64 (rD (y * v.length - lo) v.length)))
          have HB5 := (hB.setCell (p := ⟨w.heap.size + 1 + 1, 0, none⟩) (by simp only; omega) (.int .i64 (rN (y * v.length - lo) v.length))).setCell (p := ⟨w.heap.size + 1 + 1, 1, none⟩) (by simp only; omega) (.int .i64 (rD (y * v.length - lo) v.length))
          have hs6 : ((w6.setCell ⟨w.heap.size + 1 + 1, 0, none⟩ (.int .i64 (rN (y * v.length - lo) v.length))).setCell ⟨w.heap.size + 1 + 1, 1, none⟩ (.int .i64 (rD (y * v.length - lo) v.length))).heap.size = w6.heap.size := by simp [World.setCell]
          obtain ⟨x0, x1, y0, y1⟩ := tb
          go_wp2_with fail
          clear x0 x1 y0 y1 ta hB
          obtain ⟨W7, hW7⟩ : ∃ W7, (w6.setCell ⟨w.heap.size + 1 + 1, 0, none⟩ (.int .i64 (rN (y * v.length - lo) v.length))).setCell ⟨w.heap.size + 1 + 1, 1, none⟩ (.int .i64 (rD (y * v.length - lo) v.length)) = W7 := ⟨_, rfl⟩
          rw [hW7] at Ha5 Hb5 HB5 ⊢
          have HA := Lib.hid Ha5
          have HC := Lib.hid Hb5
          have HW := Lib.hid HB5
          obtain ⟨x0, x1, y0, y1⟩ := Ha5
          obtain ⟨z0, z1, t0, t1⟩ := Hb5
          clear HB5 hW7
          go_region
          all_goals
            go_wp2_with fail
            clear x0 x1 y0 y1 z0 z1 t0 t1
            obtain ⟨hA5, hB5⟩ := four HA.out HC.out (.int .i64 (rN (y * v.length - hh) v.length)) (.int .i64 (rD (y * v.length - hh) v.length)) (.int .i64 (rN (y * v.length - lo) v.length)) (.int .i64 (rD (y * v.length - lo) v.length))
            obtain ⟨x0, x1, _, _⟩ := hA5
            obtain ⟨z0, z1, _, _⟩ := hB5
            refine bodyPost_ret (v := .tuple #[ratV (y * v.length - hh) v.length, ratV (y * v.length - lo) v.length, .int .i64 0]) (by simp [results, Try.results28, go_sem, x0, x1, z0, z1, ratV]) rfl ⟨?_, ?_⟩
            · rw [E1.out, E2.out, E3.out, HLo.out, HHi.out, HY.out]
            · exact (below_four' HW.out (by omega) _ _ _ _).drew
    · have E := sk_off (v := v) (r := r) hF hin
      have E1 := Lib.hid E.1
      have E2 := Lib.hid E.2.1
      have E3 := Lib.hid E.2.2
      have HA1 := Lib.hid ta
      have HC := Lib.hid tb
      have HW := Lib.hid hB
      obtain ⟨x0, x1, y0, y1⟩ := ta
      obtain ⟨z0, z1, t0, t1⟩ := tb
      by_cases hneg : g < 0
      · have hjl : decide (g < 0) = true := by simpa using hneg
        clear E hF hB hI mX hin hv
        go_wp2_with fail
        clear x0 x1 y0 y1 z0 z1 t0 t1
        obtain ⟨hA5, hB5⟩ := four HA1.out HC.out (.int .i64 0) (.int .i64 0) (.int .i64 0) (.int .i64 0)
        obtain ⟨x0, x1, _, _⟩ := hA5
        obtain ⟨z0, z1, _, _⟩ := hB5
        refine bodyPost_ret (v := .tuple #[zeroR, zeroR, .int .i64 2]) (by simp [results, Try.results28, go_sem, x0, x1, z0, z1, zeroR]) rfl ⟨?_, ?_⟩
        · rw [E1.out, E2.out, E3.out]
        · exact below_four' HW.out (by omega) _ _ _ _
      · have hjl : decide (g < 0) = false := by simpa using hneg
        have hjg : (v.length : Int) ≤ g := by omega
        clear E hF hB hI mX hin hv
        go_wp2_with fail
        clear x0 x1 y0 y1 z0 z1 t0 t1
        obtain ⟨hA5, hB5⟩ := four HA1.out HC.out (.int .i64 0) (.int .i64 0) (.int .i64 0) (.int .i64 0)
        obtain ⟨x0, x1, _, _⟩ := hA5
        obtain ⟨z0, z1, _, _⟩ := hB5
        refine bodyPost_ret (v := .tuple #[zeroR, zeroR, .int .i64 2]) (by simp [results, Try.results28, go_sem, x0, x1, z0, z1, zeroR]) rfl ⟨?_, ?_⟩
        · rw [E1.out, E2.out, E3.out]
        · exact below_four' HW.out (by omega) _ _ _ _
  · have hcz : (chkR v r != 0) = true := by rw [bne_iff_ne]; exact hF
    have E := sk_bad (g := g) hF
    have E1 := Lib.hid E.1
    have E2 := Lib.hid E.2.1
    have E3 := Lib.hid E.2.2
    have HA := Lib.hid ta
    have HC := Lib.hid tb
    have HW := Lib.hid hB
    obtain ⟨x0, x1, y0, y1⟩ := ta
    obtain ⟨z0, z1, t0, t1⟩ := tb
    clear E hF hB hI mX
    go_wp2_with fail
    clear x0 x1 y0 y1 z0 z1 t0 t1
    obtain ⟨hA5, hB5⟩ := four HA.out HC.out (.int .i64 0) (.int .i64 0) (.int .i64 0) (.int .i64 0)
    obtain ⟨x0, x1, _, _⟩ := hA5
    obtain ⟨z0, z1, _, _⟩ := hB5
    refine bodyPost_ret (v := .tuple #[zeroR, zeroR, .int .i64 (chkR v r)]) (by simp [results, Try.results28, go_sem, x0, x1, z0, z1, zeroR]) rfl ⟨?_, ?_⟩
    · rw [E1.out, E2.out, E3.out]
    · exact below_four' HW.out (by omega) _ _ _ _
end Go.Proofs.Ytmcncflieoolmaa
