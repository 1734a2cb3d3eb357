/- The walks of Give (the program's and the reference's), and of the reference's Segment, for every markers; no condition. -/
import Derived.Test.YtknincjfcicjfaaKeepS
import Derived.Test.YtknincjfcicjfaaRepeat
namespace Go.Proofs.Ytknincjfcicjfaa
set_option linter.unusedVariables false
set_option linter.unusedSimpArgs false
open Go.ChangeShapes Go.WideShapes Go.ChangeAt Go.RowKit Go.Deep

/-- The items from a on, before k, are agent x's. -/
def paint (out : List Int) (x : Int) (a k : Nat) : List Int := (List.range out.length).map fun j => if a ≤ j ∧ j < k then x else iget out j
theorem paint_len (out : List Int) (x : Int) (a k : Nat) : (paint out x a k).length = out.length := by simp [paint]
theorem paint_get {out : List Int} {x : Int} {a k j : Nat} (h : j < out.length) : iget (paint out x a k) j = if a ≤ j ∧ j < k then x else iget out j := by
  simp [paint, iget, h]
theorem eq_iget {xs ys : List Int} (hl : xs.length = ys.length) (h : ∀ j, j < xs.length → iget xs j = iget ys j) : xs = ys := by
  apply List.ext_getElem hl
  intro i h1 h2
  have := h i h1
  rwa [iget_of h1, iget_of h2] at this
theorem paint_none (out : List Int) (x : Int) {a k : Nat} (h : k ≤ a) : paint out x a k = out := by
  refine eq_iget (paint_len _ _ _ _) fun j hj => ?_
  rw [paint_len] at hj
  rw [paint_get hj, if_neg (by omega)]
theorem paint_set {out : List Int} {x : Int} {a k : Nat} (ha : a ≤ k) (h : k < out.length) : (paint out x a k).set k x = paint out x a (k + 1) := by
  refine eq_iget (by simp [paint]) fun j hj => ?_
  rw [List.length_set, paint_len] at hj
  rw [iget_set (by rw [paint_len]; exact h), paint_get hj, paint_get hj]
  by_cases e : k = j
  · subst e; rw [if_pos rfl, if_pos (by omega)]
  · rw [if_neg e]
    by_cases e2 : a ≤ j ∧ j < k
    · rw [if_pos e2, if_pos (by omega)]
    · rw [if_neg e2, if_neg (by omega)]
theorem paint_all (n : Nat) (y x : Int) : paint (List.replicate n y) x 0 n = List.replicate n x := by
  refine eq_iget (by simp [paint]) fun j hj => ?_
  rw [paint_len] at hj
  rw [paint_get hj]
  simp at hj
  rw [if_pos (by omega)]
  simp [iget, hj]
/-- Where the segment of round r of the markers l begins, and where it ends (at r + 1). -/
def segA (m : Int) (l : List Int) (r : Nat) : Nat := (iget (cutL m l) r).toNat
theorem seg_bd {m : Int} {n : Nat} {l : List Int} (h : MkRow m n l) (h1 : 1 ≤ m) : ∀ r, r ≤ l.length + 1 → 0 ≤ iget (cutL m l) r ∧ iget (cutL m l) r ≤ m
  | 0, _ => ⟨by simp [cutL, iget], by simp [cutL, iget]; omega⟩
  | r + 1, hr => by
    rw [cutL_at (by omega)]
    by_cases e : r < l.length
    · rw [if_pos e]
      have := h.2 r e
      exact ⟨by have := this.1; omega, by have := this.2.1; omega⟩
    · rw [if_neg e]; omega
theorem seg_lt {m : Int} {n : Nat} {l : List Int} (h : MkRow m n l) (h1 : 1 ≤ m) : ∀ r, r ≤ l.length → iget (cutL m l) r < iget (cutL m l) (r + 1)
  | 0, hr => by
    rw [cutL_at (by omega)]
    have e0 : iget (cutL m l) 0 = 0 := rfl
    rw [e0]
    by_cases e : 0 < l.length
    · rw [if_pos e]; have := (h.2 0 e).1; omega
    · rw [if_neg e]; omega
  | r + 1, hr => by
    rw [cutL_at (by omega), cutL_at (by omega), if_pos (by omega)]
    by_cases e : r + 1 < l.length
    · rw [if_pos e]; have := (h.2 (r + 1) e).2.2 (by omega); simpa using this
    · rw [if_neg e]; have := (h.2 r (by omega)).2.1; omega
/-- The allocation after r rounds. -/
def givTo (m : Int) (v : List (List Int)) : Nat → List Int
  | 0 => List.replicate m.toNat (-1)
  | r + 1 => paint (givTo m v r) (iget (rndL m v) r) (segA m (rget v (iget (rndL m v) r).toNat) r) (segA m (rget v (iget (rndL m v) r).toNat) (r + 1))
theorem givTo_len (m : Int) (v : List (List Int)) : ∀ r, (givTo m v r).length = m.toNat
  | 0 => by simp [givTo]
  | r + 1 => by rw [givTo, paint_len, givTo_len]
def givL (m : Int) (v : List (List Int)) : List Int := if Marks m v then givTo m v v.length else []
theorem givL_pos {m : Int} {v : List (List Int)} (h : Marks m v) : givL m v = givTo m v v.length := if_pos h
theorem givL_neg {m : Int} {v : List (List Int)} (h : ¬ Marks m v) : givL m v = [] := if_neg h
theorem rndL_len (m : Int) (v : List (List Int)) : (rndL m v).length = v.length := rnd_len m v _
theorem rndL_at {m : Int} {v : List (List Int)} {r : Nat} (h : r < v.length) : ∃ i : Nat, iget (rndL m v) r = i ∧ i < v.length := by
  have := (rnd_spec m v v.length (Nat.le_refl _)).2 _ (iget_mem (xs := rndL m v) (by rw [rndL_len]; exact h))
  exact ⟨(iget (rndL m v) r).toNat, by omega, by omega⟩

set_option maxHeartbeats 4000000 in
set_option maxRecDepth 100000 in
theorem keepGive_any (m : Int) (p : Option Addr) (c : Nat) (v : List (List Int)) (w : World) (hm64 : in64 m) (hx : Mat w p c v) :
    Calls Try.prog 12 #[.int .i64 m, .slice p v.length c] w (Gives2 w (givL m v) (chkM m v)) := by
  have hC := keepCheck_any m p c v w hm64 hx
  by_cases hN : ¬ Marks m v
  · have h0 : chkM m v ≠ 0 := fun h => hN (chkM_zero.1 h)
    have hL := Lib.hid (givL_neg hN)
    obtain ⟨k, hk⟩ : ∃ k, chkM m v = k := ⟨_, rfl⟩
    rw [hk] at hC h0 ⊢
    have hd : (k != 0) = true := by rw [bne_iff_ne]; exact h0
    have HC := Lib.hid hC
    clear hC hN h0 hk
    go_enter Try.func12, Try.ntmps12
    go_wp2_with fail
    refine HC.out.mono ?_
    rintro e w2 ⟨rfl, rfl⟩
    go_wp2_with fail
    go_ret2
    unfold Gives2
    rw [hL.out]
    exact ⟨none, 0, rfl, Own.ofNil _ _, Below.refl _ _⟩
  have hM := Classical.not_not.1 hN
  have h0 := chkM_zero.2 hM
  have hL := Lib.hid (givL_pos hM)
  rw [h0] at hC ⊢
  obtain ⟨mn, rfl⟩ := Int.eq_ofNat_of_zero_le (show 0 ≤ m by have := hM.1; omega)
  have hmn : mn ≤ 30 := by have := hM.2.1; omega
  have hv6 : v.length ≤ 6 := hM.2.2.2.1
  have HC := Lib.hid hC
  obtain ⟨W1, hW1⟩ : ∃ W, w.alloc (.cells #[.int .i64 (-1)] 3) = W := ⟨_, rfl⟩
  have hB1 := below_alloc hW1
  have hOne : Ints W1 (some ⟨w.heap.size, 0, none⟩) 1 [-1] := by rw [← hW1]; exact ints_one w ⟨by omega, by omega⟩ _
  have HRep := Lib.hid (repeat1_any (some ⟨w.heap.size, 0, none⟩) 1 (-1) mn W1 hOne (by omega) ⟨by omega, by omega⟩)
  have HRnd := Lib.hid (fun W h => keepRounds_any (mn : Int) p c v W hM h)
  have HCut := Lib.hid (fun q d (i : Nat) W (hi : i < v.length) (h : Ints W q d (rget v i)) => cuts_any (mn : Int) q d (rget v i) W hm64 h (by have := (hM.2.2.2.2 i hi).1; omega))
  have Hat := Lib.hid (fun r (h : r < v.length) => rndL_at (m := (mn : Int)) h)
  have Hst : Hid (∀ r, givTo (mn : Int) v (r + 1) = paint (givTo (mn : Int) v r) (iget (rndL (mn : Int) v) r) (segA (mn : Int) (rget v (iget (rndL (mn : Int) v) r).toNat) r) (segA (mn : Int) (rget v (iget (rndL (mn : Int) v) r).toNat) (r + 1))) := fun _ => rfl
  have Hlen := Lib.hid (fun r => (givTo_len (mn : Int) v r).trans (Int.toNat_natCast mn))
  have Hrl := Lib.hid (rndL_len (mn : Int) v)
  have H0 : Hid (List.replicate mn (-1) = givTo (mn : Int) v 0) := by unfold Hid givTo; rw [Int.toNat_natCast]
  have Hbd := Lib.hid (fun (i : Nat) (hi : i < v.length) r (hr : r ≤ v.length) => seg_bd (hM.2.2.2.2 i hi) hM.1 r (by have := (hM.2.2.2.2 i hi).1; omega))
  have Hcl := Lib.hid (fun (i : Nat) (hi : i < v.length) => (cutL_len (mn : Int) (rget v i)).trans (show (rget v i).length + 2 = v.length + 1 by have := (hM.2.2.2.2 i hi).1; omega))
  have HW1 := Lib.hid hW1
  clear hC hM hN h0 hW1 hm64
  go_enter Try.func12, Try.ntmps12
  go_wp2_with fail
  refine HC.out.mono ?_
  rintro e w2 ⟨rfl, rfl⟩
  go_wp2_with fail
  rw [HW1.out]
  refine HRep.out.mono ?_
  rintro e w3 ⟨g, c3, rfl, hO, hb3⟩
  have hB3 : Below w2.heap.size w2 w3 := hB1.trans (hb3.mono hB1.size)
  rw [H0.out] at hO
  have hO := hO.lower hB1.size
  have hgl := (hO.lt g rfl).2
  have hgb := (hO.lt g rfl).1
  go_wp2_with fail
  refine (HRnd.out _ (hx.below hB3 (Nat.le_refl _))).mono ?_
  rintro e w4 ⟨p4, c4, he, hO4, hb4⟩
  rw [Hrl.out] at he
  subst he
  have hB4 : Below w2.heap.size w2 w4 := hB3.trans (hb4.mono hB3.size)
  have hO := hO.below hb4 (Nat.le_refl _)
  have hne : blk p4 ≠ some g := fun e => by have h1 := (hO4.lt g e).1; omega
  have hg4 : g < w4.heap.size := Nat.lt_of_lt_of_le hgl hb4.size
  clear hb3 hB3 hB1 hOne hb4
  go_wp2_with fail
  go_loopw [25] (fun t wr => ∃ r : Nat, r ≤ v.length ∧ t = .int .i64 r ∧ Own wr w2.heap.size (some ⟨g, 0, none⟩) c3 (givTo (mn : Int) v r) ∧ w4.grownBy wr (some g)) (fun t _ => v.length - (intOf t).toNat)
  case atStart => exact ⟨0, Nat.zero_le _, rfl, hO, World.grownBy.refl _ _⟩
  case round =>
    clear hO
    obtain ⟨r, hr, rfl, hO, hgr⟩ := hrel
    have hBr : Below w2.heap.size w2 wr := hB4.grown hgr hB4.size (fun k e => by cases e; exact hgb)
    by_cases hlt : r < v.length
    · have hr1 : (r : Int) < v.length := by omega
      obtain ⟨wo, rfl⟩ : ∃ wo : World, wo = wr := ⟨_, rfl⟩
      obtain ⟨i, hi, hiv⟩ := Hat.out r hlt
      have hHst := Hst.out r
      rw [hi, Int.toNat_natCast] at hHst
      have hR4 := (hO4.keptBy hgr (fun k hk e => hne (by rw [hk, e]))).ints
      obtain ⟨b1, o1, rfl, _, hc1⟩ := hR4.get (j := r) (by rw [Hrl.out]; exact hlt)
      rw [hi] at hc1
      obtain ⟨bv, ov, rfl, _, q1, d1, hc2, hI2⟩ := (hx.below hBr (Nat.le_refl _)).get hiv
      have hiv1 : (i : Int) < v.length := by omega
      have HCu := Lib.hid (HCut.out q1 d1 i _ hiv hI2)
      have hgw : g < wo.heap.size := Nat.lt_of_lt_of_le hg4 hgr.size
      have HHst := Lib.hid hHst
      clear hi hHst hR4 hI2
      go_wp2_with fail
      refine HCu.out.mono ?_
      rintro e w5 ⟨p5, c5, zs, hzs, rfl, hO5, hb5⟩
      have hzl : r + 1 < zs.length := by rw [hzs.out, Hcl.out i hiv]; omega
      have hOg := hO.below hb5 (Nat.le_refl _)
      obtain ⟨g5, rfl, hg5, _, hc5, _⟩ := hO5.get (j := r) (by omega)
      obtain ⟨_, h5, _, _, hc6, _⟩ := hO5.get (j := r + 1) hzl
      cases h5
      have hz1 : (r : Int) < zs.length := by omega
      have hz2 : (r : Int) + 1 < zs.length := by omega
      have b1 := Hbd.out i hiv r hr
      have b2 := Hbd.out i hiv (r + 1) (by omega)
      rw [← hzs.out] at b1 b2
      have eA : (segA (mn : Int) (rget v i) r : Int) = iget zs r := by unfold segA; rw [← hzs.out]; omega
      have eB : (segA (mn : Int) (rget v i) (r + 1) : Int) = iget zs (r + 1) := by unfold segA; rw [← hzs.out]; omega
      obtain ⟨A, hA⟩ : ∃ A, segA (mn : Int) (rget v i) r = A := ⟨_, rfl⟩
      obtain ⟨B, hB⟩ : ∃ B, segA (mn : Int) (rget v i) (r + 1) = B := ⟨_, rfl⟩
      rw [hA] at eA HHst
      rw [hB] at eB HHst
      rw [← eA] at hc5 b1
      rw [← eB] at hc6 b2
      have HG : Hid (∀ W : World, w5.grownBy W (some g) → W.cell? ⟨g5, r + 1, none⟩ = some (.int .i64 (B : Int))) := fun W hW => (cell_kept hW (hO5.lt g5 rfl).2 (by simp; omega)).trans hc6
      have Hg5 := Lib.hid hb5
      clear hA hB eA eB hc6 hO hO5
      go_wp2_with fail
      go_loopw [11] (fun t wk => ∃ k : Nat, A ≤ k ∧ (k ≤ A ∨ k ≤ B) ∧ t = .int .i64 k ∧ Own wk w2.heap.size (some ⟨g, 0, none⟩) c3 (paint (givTo (mn : Int) v r) (i : Int) A k) ∧ w5.grownBy wk (some g)) (fun t _ => B - (intOf t).toNat)
      case atStart => exact ⟨A, Nat.le_refl _, .inl (Nat.le_refl _), rfl, by rw [paint_none _ _ (Nat.le_refl _)]; exact hOg, World.grownBy.refl _ _⟩
      case round =>
        clear hOg hc5
        obtain ⟨k, hAk, hkB, rfl, hOk, hgk⟩ := hrel
        have hcB := HG.out _ hgk
        by_cases hlt3 : k < B
        · have hk1 : (k : Int) < B := by omega
          have hkl : k < (paint (givTo (mn : Int) v r) (i : Int) A k).length := by rw [paint_len, Hlen.out]; omega
          have hkm : (k : Int) < mn := by omega
          have hcA := hOk.at hkl
          have hfA := hOk.free k
          have HO := Lib.hid (hOk.set k (x := (i : Int)) ⟨by omega, by omega⟩)
          have HP := Lib.hid (paint_set (out := givTo (mn : Int) v r) (x := (i : Int)) hAk (by rw [Hlen.out]; omega))
          clear hOk hkl
          go_wp2_with fail
          go_roundw
          case rel => exact ⟨k + 1, by omega, by omega, by go_num, by rw [← HP.out]; exact HO.out.1, grown_trans hgk HO.out.2⟩
          case measure => (simp [intOf] <;> omega)
        · have hk1 : ¬ (k : Int) < B := by omega
          have HE : Hid (paint (givTo (mn : Int) v r) (i : Int) A k = givTo (mn : Int) v (r + 1)) := by
            unfold Hid
            rw [HHst.out]
            by_cases e : k = B
            · rw [e]
            · have : k = A := by omega
              subst this
              rw [paint_none _ _ (Nat.le_refl _), paint_none _ _ (by omega)]
          rw [HE.out] at hOk
          go_wp2_with fail
          go_roundw
          case rel => exact ⟨r + 1, by omega, by go_num, hOk, grown_trans hgr ⟨hgk.os.trans Hg5.out.os, hgk.tape.trans Hg5.out.tape, hgk.output.trans Hg5.out.output, Nat.le_trans Hg5.out.size hgk.size, fun q hq hn => (hgk.block q (Nat.lt_of_lt_of_le hq Hg5.out.size) hn).trans (Hg5.out.block q hq)⟩⟩
          case measure => (simp [intOf] <;> omega)
    · have hr1 : ¬ (r : Int) < v.length := by omega
      obtain rfl : r = v.length := by omega
      go_wp2_with fail
      go_ret2
      unfold Gives2
      rw [hL.out, Hlen.out]
      exact ⟨_, c3, rfl, hO, hBr⟩
set_option maxHeartbeats 1000000 in
theorem segment_any (m : Int) (q : Option Addr) (d : Nat) (l : List Int) (r : Nat) (w : World) (hi : Ints w q d l) (hr : r ≤ l.length) :
    Calls Try.prog 27 #[.int .i64 m, .slice q l.length d, .int .i64 (r : Int)] w fun e w' => e = .returned (.tuple #[.int .i64 (iget (cutL m l) r), .int .i64 (iget (cutL m l) (r + 1))]) ∧ w' = w := by
  have hl := hi.length_le
  have HB : Hid (iget (cutL m l) (r + 1) = if r < l.length then iget l r else m) := cutL_at hr
  by_cases h0 : r = 0
  · subst h0
    have HA : Hid (iget (cutL m l) 0 = 0) := rfl
    by_cases hlt : 0 < l.length
    · obtain ⟨b, o, rfl, _, hc⟩ := hi.get hlt
      rw [Nat.add_zero] at hc
      have HB2 : Hid (iget (cutL m l) (0 + 1) = iget l 0) := by unfold Hid; rw [HB.out, if_pos hlt]
      have hd : decide ((0 : Int) < l.length) = true := by rw [decide_eq_true_iff]; omega
      have hl1 : (0 : Int) < l.length := by omega
      go_enter Try.func27, Try.ntmps27
      go_wp2_with fail
      go_ret2
      rw [HA.out, HB2.out]
      exact ⟨rfl, rfl⟩
    · have HB2 : Hid (iget (cutL m l) (0 + 1) = m) := by unfold Hid; rw [HB.out, if_neg hlt]
      have hd : decide ((0 : Int) < l.length) = false := by rw [decide_eq_false_iff_not]; omega
      have hl1 : ¬ (0 : Int) < l.length := by omega
      go_enter Try.func27, Try.ntmps27
      go_wp2_with fail
      go_ret2
      rw [HA.out, HB2.out]
      exact ⟨rfl, rfl⟩
  · obtain ⟨k, rfl⟩ : ∃ k, r = k + 1 := ⟨r - 1, by omega⟩
    have HA : Hid (iget (cutL m l) (k + 1) = iget l k) := by unfold Hid; rw [cutL_at (by omega), if_pos (by omega)]
    obtain ⟨b, o, rfl, _, hc⟩ := hi.get (j := k) (by omega)
    have hk1 : (k : Int) < l.length := by omega
    have hd0 : decide ((0 : Int) < ((k + 1 : Nat) : Int)) = true := by rw [decide_eq_true_iff]; omega
    have hd0' : decide ((0 : Int) < (k : Int) + 1) = true := by rw [decide_eq_true_iff]; omega
    by_cases hlt : k + 1 < l.length
    · have hc2 := hi.at hlt
      have HB2 : Hid (iget (cutL m l) (k + 1 + 1) = iget l (k + 1)) := by unfold Hid; rw [HB.out, if_pos hlt]
      have hd : decide ((k : Int) + 1 < l.length) = true := by rw [decide_eq_true_iff]; omega
      have hk2 : (k : Int) + 1 < l.length := by omega
      clear h0
      go_enter Try.func27, Try.ntmps27
      go_wp2_with fail
      go_ret2
      rw [HA.out, HB2.out]
      exact ⟨rfl, rfl⟩
    · have HB2 : Hid (iget (cutL m l) (k + 1 + 1) = m) := by unfold Hid; rw [HB.out, if_neg hlt]
      have hd : decide ((k : Int) + 1 < l.length) = false := by rw [decide_eq_false_iff_not]; omega
      have hk2 : ¬ (k : Int) + 1 < l.length := by omega
      clear h0
      go_enter Try.func27, Try.ntmps27
      go_wp2_with fail
      go_ret2
      rw [HA.out, HB2.out]
      exact ⟨rfl, rfl⟩
set_option maxHeartbeats 4000000 in
set_option maxRecDepth 100000 in
theorem ref29Give_any (m : Int) (p : Option Addr) (c : Nat) (v : List (List Int)) (w : World) (hm64 : in64 m) (hx : Mat w p c v) :
    Calls Try.prog 13 #[.int .i64 m, .slice p v.length c] w (Gives2 w (givL m v) (chkM m v)) := by
  have hC := fun W h => ref29Check_any m p c v W hm64 (h : Mat W p c v)
  by_cases hN : ¬ Marks m v
  · have h0 : chkM m v ≠ 0 := fun h => hN (chkM_zero.1 h)
    have hL := Lib.hid (givL_neg hN)
    obtain ⟨k, hk⟩ : ∃ k, chkM m v = k := ⟨_, rfl⟩
    rw [hk] at hC h0 ⊢
    have hd : (k != 0) = true := by rw [bne_iff_ne]; exact h0
    have HC := Lib.hid hC
    clear hC hN h0 hk
    go_enter Try.func13, Try.ntmps13
    go_wp2_with fail
    refine (HC.out _ hx).mono ?_
    rintro e w2 ⟨rfl, n2, rfl⟩
    go_wp2_with fail
    refine (HC.out _ (hx.drewN _)).mono ?_
    rintro e w3 ⟨rfl, n3, rfl⟩
    go_wp2_with fail
    go_ret2
    unfold Gives2
    rw [hL.out]
    exact ⟨none, 0, rfl, Own.ofNil _ _, below_drewN _ _ _⟩
  have hM := Classical.not_not.1 hN
  have h0 := chkM_zero.2 hM
  have hL := Lib.hid (givL_pos hM)
  rw [h0] at hC ⊢
  obtain ⟨mn, rfl⟩ := Int.eq_ofNat_of_zero_le (show 0 ≤ m by have := hM.1; omega)
  have hmn : mn ≤ 30 := by have := hM.2.1; omega
  have hv6 : v.length ≤ 6 := hM.2.2.2.1
  have HC := Lib.hid hC
  have HRnd := Lib.hid (fun W h => ref29rounds_any (mn : Int) p c v W hM h)
  have HSeg := Lib.hid (fun q d (i r : Nat) W (hi : i < v.length) (hr : r < v.length) (h : Ints W q d (rget v i)) => segment_any (mn : Int) q d (rget v i) r W h (by have := (hM.2.2.2.2 i hi).1; omega))
  have Hat := Lib.hid (fun r (h : r < v.length) => rndL_at (m := (mn : Int)) h)
  have Hst : Hid (∀ r, givTo (mn : Int) v (r + 1) = paint (givTo (mn : Int) v r) (iget (rndL (mn : Int) v) r) (segA (mn : Int) (rget v (iget (rndL (mn : Int) v) r).toNat) r) (segA (mn : Int) (rget v (iget (rndL (mn : Int) v) r).toNat) (r + 1))) := fun _ => rfl
  have Hlen := Lib.hid (fun r => (givTo_len (mn : Int) v r).trans (Int.toNat_natCast mn))
  have Hrl := Lib.hid (rndL_len (mn : Int) v)
  have H0 : Hid (paint (List.replicate mn 0) (-1) 0 mn = givTo (mn : Int) v 0) := by unfold Hid givTo; rw [Int.toNat_natCast, paint_all]
  have Hp0 : Hid (List.replicate mn (0 : Int) = paint (List.replicate mn 0) (-1) 0 0) := (paint_none _ _ (Nat.le_refl _)).symm
  have Hps := Lib.hid (fun k (h : k < mn) => paint_set (out := List.replicate mn (0 : Int)) (x := -1) (Nat.zero_le k) (by simpa using h))
  have Hpl : Hid (∀ k, (paint (List.replicate mn (0 : Int)) (-1) 0 k).length = mn) := fun k => by rw [paint_len]; simp
  have Hbd := Lib.hid (fun (i : Nat) (hi : i < v.length) r (hr : r ≤ v.length) => seg_bd (hM.2.2.2.2 i hi) hM.1 r (by have := (hM.2.2.2.2 i hi).1; omega))
  clear hC hM hN h0 hm64
  go_enter Try.func13, Try.ntmps13
  go_wp2_with fail
  refine (HC.out _ hx).mono ?_
  rintro e w2 ⟨rfl, n2, rfl⟩
  have hB2 : Below w.heap.size w (w.drewN n2) := below_drewN _ _ _
  obtain ⟨W2, hW2⟩ : ∃ W, w.drewN n2 = W := ⟨_, rfl⟩
  rw [hW2] at hB2 ⊢
  have hsz2 : W2.heap.size = w.heap.size := by rw [← hW2]; rfl
  have hbase2 : w.heap.size ≤ W2.heap.size := by omega
  clear hW2 hsz2
  go_wp2_with (at_make; refine wpList_mk rfl (.tmp 20) (.tmp 20) rfl w.heap.size mn rfl rfl (by omega) hbase2 ?_; intro w3 hO hg3 hs3)
  obtain ⟨g, hg⟩ : ∃ g, W2.heap.size = g := ⟨_, rfl⟩
  have hB3 : Below w.heap.size w w3 := hB2.grown hg3 hbase2 (fun k e => by cases e)
  rw [hg] at hO hs3 ⊢
  have hgb : w.heap.size ≤ g := by omega
  have hgl : g < w3.heap.size := by omega
  rw [Hp0.out] at hO
  clear hg hg3 hs3
  go_loopw [7] (fun t wr => ∃ k : Nat, k ≤ mn ∧ t = .int .i64 k ∧ Own wr w.heap.size (some ⟨g, 0, none⟩) mn (paint (List.replicate mn 0) (-1) 0 k) ∧ w3.grownBy wr (some g)) (fun t _ => mn - (intOf t).toNat)
  case atStart => exact ⟨0, Nat.zero_le _, rfl, hO, World.grownBy.refl _ _⟩
  case round =>
    clear hO
    obtain ⟨k, hk, rfl, hO, hgr⟩ := hrel
    by_cases hlt : k < mn
    · have hk1 : (k : Int) < mn := by omega
      have hcA := hO.at (j := k) (by rw [Hpl.out]; exact hlt)
      have hfA := hO.free k
      have HO := Lib.hid (hO.set k (x := -1) ⟨by omega, by omega⟩)
      clear hO
      go_wp2_with fail
      go_roundw
      case rel => exact ⟨k + 1, by omega, by go_num, by rw [← Hps.out k hlt]; exact HO.out.1, grown_trans hgr HO.out.2⟩
      case measure => (simp [intOf] <;> omega)
    · have hk1 : ¬ (k : Int) < mn := by omega
      obtain rfl : k = mn := by omega
      rw [H0.out] at hO
      have hBr : Below w.heap.size w wr := hB3.grown hgr hB3.size (fun q e => by cases e; exact hgb)
      have hglr : g < wr.heap.size := Nat.lt_of_lt_of_le hgl hgr.size
      clear hgr
      go_wp2_with fail
      refine (HRnd.out _ (hx.below hBr (Nat.le_refl _))).mono ?_
      rintro e w4 ⟨p4, c4, he, hO4, hb4⟩
      rw [Hrl.out] at he
      subst he
      have hB4 : Below w.heap.size w w4 := hBr.trans (hb4.mono hBr.size)
      have hO := hO.below hb4 (Nat.le_refl _)
      have hne : blk p4 ≠ some g := fun e => by have h1 := (hO4.lt g e).1; omega
      clear hb4
      go_wp2_with fail
      go_loopw [9] (fun t wr => ∃ r : Nat, r ≤ v.length ∧ t = .int .i64 r ∧ Own wr w.heap.size (some ⟨g, 0, none⟩) k (givTo (k : Int) v r) ∧ w4.grownBy wr (some g)) (fun t _ => v.length - (intOf t).toNat)
      case atStart => exact ⟨0, Nat.zero_le _, rfl, hO, World.grownBy.refl _ _⟩
      case round =>
        clear hO hBr
        obtain ⟨r, hr, rfl, hO, hgr⟩ := hrel
        obtain ⟨wo, rfl⟩ : ∃ wo : World, wo = wr := ⟨_, rfl⟩
        have hBr : Below w.heap.size w wo := hB4.grown hgr hB4.size (fun k e => by cases e; exact hgb)
        by_cases hlt : r < v.length
        · have hr1 : (r : Int) < v.length := by omega
          obtain ⟨i, hi, hiv⟩ := Hat.out r hlt
          have hHst := Hst.out r
          rw [hi, Int.toNat_natCast] at hHst
          have hR4 := (hO4.keptBy hgr (fun k hk e => hne (by rw [hk, e])))
          obtain ⟨b1, rfl, hb1, hb2, hc1, _⟩ := hR4.get (j := r) (by rw [Hrl.out]; exact hlt)
          rw [hi] at hc1
          have hb1g : g ≠ b1 := fun e => hne (by rw [e]; rfl)
          have HGr : Hid (∀ W : World, wo.grownBy W (some g) → W.cell? ⟨b1, r, none⟩ = some (.int .i64 (i : Int))) := fun W hW => (cell_kept hW hb2 (by simpa using hb1g)).trans hc1
          obtain ⟨bv, ov, rfl, _, q1, d1, hc2, hI2⟩ := (hx.below hBr (Nat.le_refl _)).get hiv
          have hiv1 : (i : Int) < v.length := by omega
          have hCu := HSeg.out q1 d1 i r _ hiv hlt hI2
          have HHst := Lib.hid hHst
          have b1 := Hbd.out i hiv r hr
          have b2 := Hbd.out i hiv (r + 1) (by omega)
          have eA : (segA (k : Int) (rget v i) r : Int) = iget (cutL (k : Int) (rget v i)) r := by unfold segA; omega
          have eB : (segA (k : Int) (rget v i) (r + 1) : Int) = iget (cutL (k : Int) (rget v i)) (r + 1) := by unfold segA; omega
          obtain ⟨A, hA⟩ : ∃ A, segA (k : Int) (rget v i) r = A := ⟨_, rfl⟩
          obtain ⟨B, hB⟩ : ∃ B, segA (k : Int) (rget v i) (r + 1) = B := ⟨_, rfl⟩
          rw [hA] at eA HHst
          rw [hB] at eB HHst
          rw [← eA] at b1 hCu
          rw [← eB] at b2 hCu
          have HCu := Lib.hid hCu
          clear hi hHst hR4 hI2 hA hB eA eB hCu
          go_wp2_with fail
          refine HCu.out.mono ?_
          rintro e w5 ⟨rfl, rfl⟩
          clear hc1 hc2
          go_wp2_with fail
          go_loopw [12] (fun t wk => ∃ j : Nat, A ≤ j ∧ (j ≤ A ∨ j ≤ B) ∧ t = .int .i64 j ∧ Own wk w.heap.size (some ⟨g, 0, none⟩) k (paint (givTo (k : Int) v r) (i : Int) A j) ∧ w5.grownBy wk (some g)) (fun t _ => B - (intOf t).toNat)
          case atStart => exact ⟨A, Nat.le_refl _, .inl (Nat.le_refl _), rfl, by rw [paint_none _ _ (Nat.le_refl _)]; exact hO, World.grownBy.refl _ _⟩
          case round =>
            clear hO
            obtain ⟨j, hAk, hkB, rfl, hOk, hgk⟩ := hrel
            have hcB := HGr.out _ hgk
            by_cases hlt3 : j < B
            · have hj1 : (j : Int) < B := by omega
              have hkl : j < (paint (givTo (k : Int) v r) (i : Int) A j).length := by rw [paint_len, Hlen.out]; omega
              have hkm : (j : Int) < k := by omega
              have hcA := hOk.at hkl
              have hfA := hOk.free j
              have HO := Lib.hid (hOk.set j (x := (i : Int)) ⟨by omega, by omega⟩)
              have HP := Lib.hid (paint_set (out := givTo (k : Int) v r) (x := (i : Int)) hAk (by rw [Hlen.out]; omega))
              clear hOk hkl
              go_wp2_with fail
              go_roundw
              case rel => exact ⟨j + 1, by omega, by omega, by go_num, by rw [← HP.out]; exact HO.out.1, grown_trans hgk HO.out.2⟩
              case measure => (simp [intOf] <;> omega)
            · have hj1 : ¬ (j : Int) < B := by omega
              have HE : Hid (paint (givTo (k : Int) v r) (i : Int) A j = givTo (k : Int) v (r + 1)) := by
                unfold Hid
                rw [HHst.out]
                by_cases e : j = B
                · rw [e]
                · have : j = A := by omega
                  subst this
                  rw [paint_none _ _ (Nat.le_refl _), paint_none _ _ (by omega)]
              rw [HE.out] at hOk
              go_wp2_with fail
              go_roundw
              case rel => exact ⟨r + 1, by omega, by go_num, hOk, grown_trans hgr hgk⟩
              case measure => (simp [intOf] <;> omega)
        · have hr1 : ¬ (r : Int) < v.length := by omega
          obtain rfl : r = v.length := by omega
          go_wp2_with fail
          go_ret2
          unfold Gives2
          rw [hL.out, Hlen.out]
          exact ⟨_, k, rfl, hO, hBr⟩
end Go.Proofs.Ytknincjfcicjfaa
