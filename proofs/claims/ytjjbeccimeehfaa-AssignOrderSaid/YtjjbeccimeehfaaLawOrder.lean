/- The walk of the law AssignOrder: for every input it returns true and changes nothing that was there. -/
import Derived.Test.YtjjbeccimeehfaaOrderP
import Derived.Test.YtjjbeccimeehfaaMove
import Derived.Test.YtjjbeccimeehfaaFit
import Derived.Test.YtjjbeccimeehfaaTwin
import Derived.Deep.AppendLies
import Derived.Deep.RegionLaw
import Derived.Maps.AppendAt
namespace Go.Proofs.Ytjjbeccimeehfaa
open Go.ChangeShapes Go.WideShapes Go.ChangeAt Go.RowKit Go.Deep
set_option linter.unusedVariables false
set_option linter.unusedSimpArgs false

/-- The bids that have grown in the first k rows. -/
def growTo (v : List (List Int)) (t : Nat) (m : Int) (k : Nat) : List (List Int) := (List.range v.length).map fun i => if i < k then growR (rget v i) t m else rget v i
theorem growTo_length (v : List (List Int)) (t : Nat) (m : Int) (k : Nat) : (growTo v t m k).length = v.length := by simp [growTo]
theorem growTo_get {v : List (List Int)} {t : Nat} {m : Int} {k i : Nat} (hi : i < v.length) : rget (growTo v t m k) i = if i < k then growR (rget v i) t m else rget v i := by
  simp [growTo, rget, hi]
theorem growTo_zero (v : List (List Int)) (t : Nat) (m : Int) : growTo v t m 0 = v := by
  apply List.ext_getElem
  · simp [growTo]
  · intro i h1 h2
    rw [← rget_of h1, growTo_get h2, ← rget_of h2]; simp
theorem growTo_all (v : List (List Int)) (t : Nat) (m : Int) : growTo v t m v.length = growC v t m := by
  apply List.ext_getElem
  · simp [growTo, growC]
  · intro i h1 h2
    have hi : i < v.length := by simpa [growTo] using h1
    rw [← rget_of h1, growTo_get hi, ← rget_of h2, if_pos hi]
    unfold growC
    rw [rget_map _ hi]
theorem growTo_succ {v : List (List Int)} {t : Nat} {m : Int} {k : Nat} (hk : k < v.length) : growTo v t m (k + 1) = (growTo v t m k).set k ((rget (growTo v t m k) k).set t (iget (rget v k) t + m)) := by
  apply List.ext_getElem
  · simp [growTo]
  · intro i h1 h2
    have hi : i < v.length := by simpa [growTo] using h1
    rw [← rget_of h1, growTo_get hi, List.getElem_set]
    by_cases e : k = i
    · subst e
      rw [if_pos (by omega), if_pos rfl, growTo_get hk, if_neg (by omega)]
      rfl
    · rw [if_neg e, ← rget_of (by simpa [growTo] using hi), growTo_get hi]
      by_cases e2 : i < k
      · rw [if_pos e2, if_pos (by omega)]
      · rw [if_neg e2, if_neg (by omega)]
/-- The row with the items in the other order. -/
def permR (r o : List Int) (n : Nat) : List Int := (List.range n).map fun j => iget r (itm o j)
theorem permR_length (r o : List Int) (n : Nat) : (permR r o n).length = n := by simp [permR]
theorem permR_succ (r o : List Int) (n : Nat) : permR r o (n + 1) = permR r o n ++ [iget r (itm o n)] := by simp [permR, List.range_succ]
def permTo (v : List (List Int)) (o : List Int) (k : Nat) : List (List Int) := (List.range k).map fun i => permR (rget v i) o v.length
theorem permTo_length (v : List (List Int)) (o : List Int) (k : Nat) : (permTo v o k).length = k := by simp [permTo]
theorem permTo_succ (v : List (List Int)) (o : List Int) (k : Nat) : permTo v o (k + 1) = permTo v o k ++ [permR (rget v k) o v.length] := by simp [permTo, List.range_succ]
theorem permTo_all (v : List (List Int)) (o : List Int) : permTo v o v.length = permC v o := by
  apply List.ext_getElem
  · simp [permTo, permC]
  · intro i h1 h2
    have hi : i < v.length := by simpa [permTo] using h1
    rw [← rget_of h2]
    unfold permC
    rw [rget_map _ hi]
    simp [permTo, permR]

theorem own_snoc {w : World} {base : Nat} {p : Option Addr} {c : Nat} {xs : List Int} {y : Int} (h : w.ownsRow base 3 1 (.slice p (xs.length + 1) c) (xs.length + 1) (xs.map (Value.int .i64) ++ [.int .i64 y]))
    (hx : ∀ j, j < xs.length → in64 (iget xs j)) (hy : in64 y) : Own w base p c (xs ++ [y]) := by
  refine ⟨by rw [List.length_append, List.map_append]; exact h, fun j hj => ?_⟩
  rw [List.length_append, List.length_singleton] at hj
  rw [iget_append]
  split
  · exact hx j ‹_›
  · rw [show j - xs.length = 0 by omega]; exact hy
theorem best_len {p : Option Addr} {c n : Nat} {v : List (List Int)} {w : World} (hn : v.length = n) (hx : Mat w p c v) (hv : Bids v) :
    Calls Try.prog 12 #[.slice p n c] w fun e w' => ∃ q d, e = .returned (.tuple #[.slice q (bestA v).length d, .int .i64 (worthI v (bestA v)), .int .i64 0]) ∧ Ints w' q d (bestA v) ∧ Below w.heap.size w w' := by
  subst hn; exact best_ok p c v w hx hv
theorem prices_len {p : Option Addr} {c n : Nat} {v : List (List Int)} {w : World} (hn : v.length = n) (hx : Mat w p c v) (hv : Bids v) :
    Calls Try.prog 14 #[.slice p n c] w fun e w' => ∃ q d, e = .returned (.tuple #[.slice q (leastL v (bestA v)).length d, .int .i64 0]) ∧ Ints w' q d (leastL v (bestA v)) ∧ Below w.heap.size w w' := by
  subst hn; exact prices_ok p c v w hx hv
theorem fit_len {p : Option Addr} {c n : Nat} {v : List (List Int)} {w : World} (hn : v.length = n) (hx : Mat w p c v) :
    Calls Try.prog 27 #[.slice p n c] w fun e w' => e = .returned (.bool (decide (Bids v))) ∧ w' = w := by
  subst hn; exact fit_any p c v w hx
theorem twin_ok {p : Option Addr} {c : Nat} {v : List (List Int)} {w : World} (hx : Mat w p c v) (hv : Bids v) : Calls Try.prog 11 #[.slice p v.length c] w (GivesD w v) := by
  have h6 := hv.2.1
  exact twin_any p c v w hx (by omega) (fun j hj => by rw [(hv.2.2 j hj).1]; omega)

set_option maxHeartbeats 8000000 in
set_option maxRecDepth 100000 in
theorem order_walk (p : Option Addr) (c : Nat) (v : List (List Int)) (qo : Option Addr) (do_ : Nat) (o : List Int) (item more : Int) (w : World) (hx : Mat w p c v) (hy : Ints w qo do_ o) (hi64 : in64 item) (hm64 : in64 more) :
    Calls Try.prog 7 #[.slice p v.length c, .slice qo o.length do_, .int .i64 item, .int .i64 more] w fun e w' => e = .returned (.bool true) ∧ Below w.heap.size w w' := by
  have hl1 := hx.length_le
  have hl2 := hy.length_le
  obtain ⟨hi1, hi2⟩ := hi64
  obtain ⟨hm1, hm2⟩ := hm64
  obtain ⟨i0, hi0, hz0, hz1, hz2⟩ := info_parts infoInt
  by_cases hv : Bids v
  · have hd : decide (Bids v) = true := by rw [decide_eq_true_iff]; exact hv
    by_cases hAo : IsA o v.length
    · have hab : isAB o v.length = true := isAB_true hAo
      by_cases c1 : item < 0
      · clear hv hAo
        go_enter Try.func7, Try.ntmps7
        go_wp2_with fail
        refine (alive_any w).mono ?_
        rintro e w1 ⟨rfl, hB1⟩
        have hx1 := hx.below hB1 (Nat.le_refl _)
        have hy1 := hy.below hB1 (Nat.le_refl _)
        go_wp2_with fail
        refine (fit_any p c v w1 hx1).mono ?_
        rintro e w' ⟨rfl, rfl⟩
        rw [hd]
        go_wp2_with fail
        refine (assigned_any qo do_ o v.length w' hl1 hy1).mono ?_
        rintro e w1 ⟨rfl, rfl⟩
        rw [hab]
        go_wp2_with fail
        go_ret
        exact ⟨rfl, hB1⟩
      ·
        by_cases c2 : (v.length : Int) ≤ item
        · clear hv hAo
          go_enter Try.func7, Try.ntmps7
          go_wp2_with fail
          refine (alive_any w).mono ?_
          rintro e w1 ⟨rfl, hB1⟩
          have hx1 := hx.below hB1 (Nat.le_refl _)
          have hy1 := hy.below hB1 (Nat.le_refl _)
          go_wp2_with fail
          refine (fit_any p c v w1 hx1).mono ?_
          rintro e w' ⟨rfl, rfl⟩
          rw [hd]
          go_wp2_with fail
          refine (assigned_any qo do_ o v.length w' hl1 hy1).mono ?_
          rintro e w1 ⟨rfl, rfl⟩
          rw [hab]
          go_wp2_with fail
          go_ret
          exact ⟨rfl, hB1⟩
        ·
          by_cases c3 : more < 0
          · clear hv hAo
            go_enter Try.func7, Try.ntmps7
            go_wp2_with fail
            refine (alive_any w).mono ?_
            rintro e w1 ⟨rfl, hB1⟩
            have hx1 := hx.below hB1 (Nat.le_refl _)
            have hy1 := hy.below hB1 (Nat.le_refl _)
            go_wp2_with fail
            refine (fit_any p c v w1 hx1).mono ?_
            rintro e w' ⟨rfl, rfl⟩
            rw [hd]
            go_wp2_with fail
            refine (assigned_any qo do_ o v.length w' hl1 hy1).mono ?_
            rintro e w1 ⟨rfl, rfl⟩
            rw [hab]
            go_wp2_with fail
            go_ret
            exact ⟨rfl, hB1⟩
          ·
            by_cases c4 : 1000000 < more
            · clear hv hAo
              go_enter Try.func7, Try.ntmps7
              go_wp2_with fail
              refine (alive_any w).mono ?_
              rintro e w1 ⟨rfl, hB1⟩
              have hx1 := hx.below hB1 (Nat.le_refl _)
              have hy1 := hy.below hB1 (Nat.le_refl _)
              go_wp2_with fail
              refine (fit_any p c v w1 hx1).mono ?_
              rintro e w' ⟨rfl, rfl⟩
              rw [hd]
              go_wp2_with fail
              refine (assigned_any qo do_ o v.length w' hl1 hy1).mono ?_
              rintro e w1 ⟨rfl, rfl⟩
              rw [hab]
              go_wp2_with fail
              go_ret
              exact ⟨rfl, hB1⟩
            ·
              obtain ⟨t, rfl⟩ : ∃ t : Nat, item = t := ⟨item.toNat, by omega⟩
              have htv : t < v.length := by omega
              have h6 := hv.2.1
              have Hv := Lib.hid hv
              have HAo := Lib.hid hAo
              have Hol := Lib.hid hAo.1
              clear hv hAo hi1 hi2 hm1 hm2
              go_enter Try.func7, Try.ntmps7
              go_wp2_with fail
              refine (alive_any w).mono ?_
              rintro e w1 ⟨rfl, hB1⟩
              have hx1 := hx.below hB1 (Nat.le_refl _)
              have hy1 := hy.below hB1 (Nat.le_refl _)
              go_wp2_with fail
              refine (fit_any p c v w1 hx1).mono ?_
              rintro e w' ⟨rfl, rfl⟩
              rw [hd]
              go_wp2_with fail
              refine (assigned_any qo do_ o v.length w' hl1 hy1).mono ?_
              rintro e w1 ⟨rfl, rfl⟩
              rw [hab]
              go_wp2_with fail
              refine (twin_ok hx1 Hv.out).mono ?_
              rintro e w2 ⟨pg, cg, Q, D, rfl, hG, hbt⟩
              have hx2 := hx1.below hbt (Nat.le_refl _)
              have hy2 := hy1.below hbt (Nat.le_refl _)
              have hB2 := hB1.trans (hbt.mono hB1.size)
              have hWi := hG.within
              have hsz1 := hbt.size
              have Hng : Hid (∀ k, blk pg = some k → w.heap.size ≤ k) := fun k hk => by have := (hG.tmat.lt k hk).1; have := hB1.size; omega
              have Hnq : Hid (∀ j, j < v.length → ∀ k, blk (Q j) = some k → w.heap.size ≤ k) := fun j hj k hk => by have := ((hG.rows j hj).lt k hk).1; have := hB1.size; omega
              rw [show v.length = (growTo v t more 0).length from (growTo_length _ _ _ _).symm] at hWi
              have hG0 : DMat w2 w1.heap.size pg cg (growTo v t more 0) Q D := by rw [growTo_zero]; exact hG
              clear hG hbt hx1 hy1 hB1
              go_wp2_with fail
              go_loopw [10, 12] (fun s i wr => ∃ k : Nat, k ≤ v.length ∧ i = .int .i64 k ∧ (∃ u p' c' Q' D', Hid (u = permTo v o k) ∧ s = .slice p' (u : List (List Int)).length c' ∧ DMat wr w2.heap.size p' c' u Q' D') ∧ DMat wr w1.heap.size pg cg (growTo v t more k) Q D ∧ Below w.heap.size w wr ∧ w2.heap.size ≤ wr.heap.size) (fun _ i _ => v.length - (intOf i).toNat)
              case atStart => exact ⟨0, by omega, rfl, ⟨[], none, 0, fun _ => none, fun _ => 0, rfl, rfl, DMat.ofNil _ _⟩, hG0, hB2, Nat.le_refl _⟩
              case round =>
                obtain ⟨k, hk, rfl, ⟨u, p', c', Q', D', hu, rfl, hU⟩, hG, hB, hsz⟩ := hrel
                have hx := hx.below hB (Nat.le_refl _)
                have hy := hy.below hB (Nat.le_refl _)
                by_cases hlt : k < v.length
                · have hk1 : (k : Int) < v.length := by omega
                  obtain ⟨W9, hW9⟩ : ∃ W9, W9 = wr := ⟨_, rfl⟩
                  subst hW9
                  obtain ⟨B0, hB0⟩ : ∃ B0, W9.heap.size = B0 := ⟨_, rfl⟩
                  go_wp2_with fail
                  go_loopw [13, 14] (fun s j wj => ∃ m : Nat, m ≤ v.length ∧ j = .int .i64 m ∧ (∃ r q' d', Hid (r = permR (rget v k) o m) ∧ s = .slice q' (r : List Int).length d' ∧ Own wj B0 q' d' r) ∧ Below B0 W9 wj) (fun _ j _ => v.length - (intOf j).toNat)
                  case atStart => exact ⟨0, by omega, rfl, ⟨[], none, 0, rfl, rfl, Own.ofNil _ _⟩, Below.refl _ _⟩
                  case round =>
                    obtain ⟨m, hm, rfl, ⟨r, q', d', hr, rfl, hR⟩, hbj⟩ := hrel
                    by_cases hlt2 : m < v.length
                    · have hk2 : (m : Int) < v.length := by omega
                      obtain ⟨b, oo, rfl, _, q1, d1, hc, hi⟩ := (hx.below hbj (Nat.le_of_eq hB0)).get hlt
                      obtain ⟨b2, o2, rfl, _, hc2⟩ := (hy.below hbj (Nat.le_of_eq hB0)).get (j := m) (by have := Hol.out; omega)
                      have hk3 : (m : Int) < o.length := by have := Hol.out; omega
                      obtain ⟨i1, i2⟩ := isA_lt HAo.out m hlt2
                      obtain ⟨x, hxx⟩ : ∃ x : Nat, iget o m = (x : Int) := ⟨(iget o m).toNat, by omega⟩
                      have hit : itm o m = x := by simp [itm, hxx]
                      rw [hit] at i2
                      rw [hxx] at hc2
                      have hrl : (rget v k).length = v.length := (Hv.out.2.2 k hlt).1
                      obtain ⟨b3, o3, rfl, _, hc3⟩ := hi.get (j := x) (by omega)
                      have hk4 : (x : Int) < (rget v k).length := by omega
                      have hy64 : in64 (iget (rget v k) x) := hi.rng x (by omega)
                      have Hs : Hid (permR (rget v k) o (m + 1) = permR (rget v k) o m ++ [iget (rget v k) x]) := by unfold Hid; rw [permR_succ, hit]
                      have hrr : r.length ≤ 900000 := by rw [hr.out, permR_length]; omega
                      have hszj := hbj.size
                      rw [hB0] at hszj
                      clear hxx hit i1 i2 hrl
                      obtain ⟨y, hyy⟩ : ∃ y, iget (rget v k) x = y := ⟨_, rfl⟩
                      rw [hyy] at hc3 hy64 Hs
                      clear hyy
                      go_wp2_with fail
                      go_region_law (refine step_append_lies _ rfl (.tmp 76) (.tmp 87) 25 rfl B0 3 i0 (.int .i64 0) 1 8 Try.underlying25 hi0 hz0 hz1 hz2 rfl (by decide) (.slice q' r.length d') r.length (r.map (Value.int .i64)) (by simp [Act.eval, Act.put]) (show Own _ B0 _ _ r from by repeat (first | exact hR | apply Own.drewN | apply Own.drew1 | apply Own.alloc)).row ⟨wr.heap.size, 0, none⟩ 1 1 [.int .i64 y] (by simp [Act.eval, Act.put]) rfl (cell_one_new _ _ _) (by simp [Value.oneCell']) (by decide) (by simp [maxLen]; omega) (by omega) (by simp; omega) _ rfl ?_; intro g cap w3 hown3 hg3 hor3 hlt3)
                      all_goals
                        have hb3 : Below B0 W9 w3 := Below.grown (show Below B0 W9 _ from by repeat (first | exact hbj | apply Below.drewN' | apply Below.drew | refine Below.alloc ?_ (by omega) _)) hg3 (by simp; omega) (fun k' e => by rw [ownBlock_slice] at e; exact (hR.lt k' e).1)
                        go_wp2_with fail
                        go_roundw
                        case rel => exact ⟨m + 1, by omega, by go_num, ⟨r ++ [y], _, cap, by unfold Hid; rw [Hs.out, hr.out], by simp, own_snoc hown3 hR.rng hy64⟩, hb3⟩
                        case measure => simp [intOf]; omega
                    · have hk2 : ¬ (m : Int) < v.length := by omega
                      obtain rfl : m = v.length := by omega
                      have hszj := hbj.size
                      rw [hB0] at hszj
                      have hU2 := hU.below hbj (Nat.le_of_eq hB0)
                      have hG2 := hG.below hbj (Nat.le_of_eq hB0)
                      have hBj := hB.trans (hbj.mono (by have := hB.size; omega))
                      have hR2 := hR.lower (base' := w2.heap.size) (by omega)
                      have hnew : ∀ j, j < u.length → ∀ k', blk (Q' j) = some k' → blk q' ≠ some k' := fun j hj k' e e2 => by
                        have h1 := ((hU.rows j hj).lt k' e).2
                        have h2 := (hR.lt k' e2).1
                        omega
                      have hul : u.length ≤ 900000 := by rw [hu.out, permTo_length]; omega
                      have hkG : k < (growTo v t more k).length := by rw [growTo_length]; exact hlt
                      have Hrl : Hid ((rget v k).length = v.length) := (Hv.out.2.2 k hlt).1
                      have Hrg : Hid (rget (growTo v t more k) k = rget v k) := by unfold Hid; rw [growTo_get hlt, if_neg (by omega)]
                      have hz := (Hv.out.2.2 k hlt).2 t htv
                      have hsz2 : w2.heap.size ≤ wr.heap.size := by omega
                      go_wp2_with (at_builtin; refine wpList_appOwnRow rfl (.tmp 89) (.tmp 91) rfl w2.heap.size p' c' u Q' D' q' d' r rfl rfl rfl hU2 hR2 hnew hul hsz2 ?_; intro p3 c3 w3 u3 hu3 hU3 hg3 hf3)
                      have hG3 : DMat w3 w1.heap.size pg cg (growTo v t more k) Q D := hG2.move
                        (fun k' e => hg3.block k' (by have := hWi.1 k' e; omega) (fun e2 => by have := hWi.1 k' e; have := (hU2.tmat.lt k' e2.symm).1; omega))
                        (fun j hj k' e => hg3.block k' (by have := hWi.2 j (by rw [growTo_length] at hj ⊢; exact hj) k' e; omega) (fun e2 => by have := hWi.2 j (by rw [growTo_length] at hj ⊢; exact hj) k' e; have := (hU2.tmat.lt k' e2.symm).1; omega))
                      have hB3 : Below w.heap.size w w3 := hBj.grown hg3 (by have := hBj.size; omega) (fun k' e => by have := (hU2.tmat.lt k' e).1; have := hB2.size; omega)
                      obtain ⟨gt, hpg, _, _, hc1, hf1⟩ := hG3.tmat.get hkG
                      obtain ⟨g, hQk, _, _, hc2, hf2⟩ := (hG3.rows k hkG).get (j := t) (by rw [Hrg.out, Hrl.out]; exact htv)
                      rw [Hrg.out, hQk] at hc1
                      rw [Hrg.out] at hc2
                      have hgw : w.heap.size ≤ g := Hnq.out k hlt g (by rw [hQk]; rfl)
                      have hg2 : g < w2.heap.size := hWi.2 k (by rw [growTo_length]; exact hlt) g (by rw [hQk]; rfl)
                      have hkl : (t : Int) < (rget v k).length := by rw [Hrl.out]; omega
                      have hS : DMat (w3.setCell ⟨g, t, none⟩ (.int .i64 (iget (rget v k) t + more))) w1.heap.size pg cg (growTo v t more (k + 1)) Q D := by
                        rw [growTo_succ hlt]
                        subst hpg
                        exact hG3.setElem hkG hQk ⟨by omega, by omega⟩
                      have hU4 : DMat (w3.setCell ⟨g, t, none⟩ (.int .i64 (iget (rget v k) t + more))) w2.heap.size p3 c3 u3 _ _ := hU3.above (fun k' hk' => Below.heap_setCell w3 ⟨g, t, none⟩ _ k' (fun e => by simp only at e; omega))
                      have hB4 : Below w.heap.size w (w3.setCell ⟨g, t, none⟩ (.int .i64 (iget (rget v k) t + more))) := hB3.setCell (p := ⟨g, t, none⟩) hgw _
                      have hsz4 : w2.heap.size ≤ (w3.setCell ⟨g, t, none⟩ (.int .i64 (iget (rget v k) t + more))).heap.size := by have := hg3.size; simp [World.setCell]; omega
                      have hu4 : u3 = permTo v o (k + 1) := by rw [hu3.out, permTo_succ, hu.out, hr.out]
                      have Hu4 := Lib.hid hu4
                      obtain ⟨y, hy⟩ : ∃ y, iget (rget v k) t = y := ⟨_, rfl⟩
                      rw [hy] at hc2 hz hS hU4 hB4 hsz4
                      have hk9 : (k : Int) < v.length := by omega
                      subst hpg
                      obtain ⟨hz1', hz2'⟩ := hz
                      have HS := Lib.hid hS
                      have HU4 := Lib.hid hU4
                      have HB4 := Lib.hid hB4
                      have Hsz4 := Lib.hid hsz4
                      clear hS hU4 hB4 hsz4 hkG hul hsz2 hsz
                      clear hu4 hy hG3 hU3 hB3 hG2 hU2 hQk hB0 hlt2 hk2 hU hG hR hR2 hnew hg3 hf3 hbj hszj hBj
                      go_wp2_with fail
                      go_simp
                      go_wp2_with fail
                      go_roundw
                      case rel => exact ⟨k + 1, by omega, by go_num, ⟨u3, _, _, _, _, Hu4.out, rfl, HU4.out⟩, HS.out, HB4.out, Hsz4.out⟩
                      case measure => simp [intOf]; omega
                · have hk1 : ¬ (k : Int) < v.length := by omega
                  obtain rfl : k = v.length := by omega
                  have hup : u = permC v o := by rw [hu.out, permTo_all]
                  subst hup
                  rw [growTo_all] at hG
                  have hMU := hU.mat
                  have hMG := hG.mat
                  have hwp := permC_bids Hv.out HAo.out
                  have hne1 : (worthI v (bestA v) != worthI (permC v o) (bestA (permC v o))) = false := by rw [order_worth Hv.out HAo.out]; simp
                  have hwb := worth_bound Hv.out (bestA_best Hv.out.1).1
                  have Hwp := Lib.hid hwp
                  clear hU hG hwp hu hsz hlt hk
                  go_wp2_with fail
                  refine (best_ok p c v _ hx Hv.out).mono ?_
                  rintro e wa ⟨pa, ca, rfl, _, hb⟩
                  have hxa := hx.below hb (Nat.le_refl _)
                  have hMUa := hMU.below hb (Nat.le_refl _)
                  have hMGa := hMG.below hb (Nat.le_refl _)
                  have hBa := hB.trans (hb.mono hB.size)
                  clear hb hMU hMG hB
                  go_wp2_with fail
                  refine (best_ok p' c' (permC v o) _ hMUa Hwp.out).mono ?_
                  rintro e wb ⟨pb, cb, rfl, _, hb⟩
                  have hxb := hxa.below hb (Nat.le_refl _)
                  have hMGb := hMGa.below hb (Nat.le_refl _)
                  have hBb := hBa.trans (hb.mono hBa.size)
                  clear hb hxa hMUa hMGa hBa
                  go_wp2_with fail
                  refine (fit_len (growC_length v t more) hMGb).mono ?_
                  rintro e w' ⟨rfl, rfl⟩
                  by_cases hgb : Bids (growC v t more)
                  · have hgd : decide (Bids (growC v t more)) = true := by rw [decide_eq_true_iff]; exact hgb
                    rw [hgd]
                    have Hgb := Lib.hid hgb
                    clear hgb
                    have hne2 : (worthI (growC v t more) (bestA (growC v t more)) != worthI v (bestA v) + more) = false := by
                      rw [grow_best Hv.out htv, grow_worth Hv.out htv (bestA_best Hv.out.1).1]; simp
                    have hn1 : (((leastL v (bestA v)).length : Int) != v.length) = false := by rw [leastL_length]; simp
                    have hn2 : (((leastL (growC v t more) (bestA (growC v t more))).length : Int) != v.length) = false := by rw [leastL_length, growC_length]; simp
                    obtain ⟨hwb1, hwb2⟩ := hwb
                    go_wp2_with fail
                    refine (best_len (growC_length v t more) hMGb Hgb.out).mono ?_
                    rintro e wc ⟨pc, cc, rfl, _, hb⟩
                    have hxc := hxb.below hb (Nat.le_refl _)
                    have hMGc := hMGb.below hb (Nat.le_refl _)
                    have hBc := hBb.trans (hb.mono hBb.size)
                    clear hb hxb hMGb hBb
                    go_wp2_with fail
                    refine (prices_ok p c v _ hxc Hv.out).mono ?_
                    rintro e wd ⟨pd, cd, rfl, hP, hb⟩
                    have hMGd := hMGc.below hb (Nat.le_refl _)
                    have hBd := hBc.trans (hb.mono hBc.size)
                    clear hb hxc hMGc hBc
                    go_wp2_with fail
                    refine (prices_len (growC_length v t more) hMGd Hgb.out).mono ?_
                    rintro e we ⟨pe, ce, rfl, hQ, hb⟩
                    have hP2 := hP.below hb (Nat.le_refl _)
                    have hBe := hBd.trans (hb.mono hBd.size)
                    clear hb hP hMGd hBd
                    have hlP : t < (leastL v (bestA v)).length := by rw [leastL_length]; exact htv
                    have hlQ : t < (leastL (growC v t more) (bestA (growC v t more))).length := by rw [leastL_length, growC_length]; exact htv
                    obtain ⟨b, oo, rfl, _, hc⟩ := hP2.get hlP
                    obtain ⟨b2, o2, rfl, _, hc2⟩ := hQ.get hlQ
                    have hlP1 : (t : Int) < (leastL v (bestA v)).length := by omega
                    have hlQ1 : (t : Int) < (leastL (growC v t more) (bestA (growC v t more))).length := by omega
                    have hle := grow_least (m := more) Hv.out htv c3
                    have hpr := (least_priced Hv.out).2 t hlP
                    obtain ⟨hpr1, hpr2⟩ := hpr
                    clear hP2 hQ
                    go_wp2_with fail
                    go_quiet (fail)
                    go_wp2_with fail
                    go_ret
                    refine ⟨ret_bool ?_, hBe.drewP (drew_drewN _ (drew_refl _))⟩
                    simp [hle]
                  · have hgd : decide (Bids (growC v t more)) = false := by rw [decide_eq_false_iff_not]; exact hgb
                    rw [hgd]
                    go_wp2_with fail
                    go_ret
                    exact ⟨rfl, hBb⟩
    · have hab : isAB o v.length = false := isAB_false hAo
      go_enter Try.func7, Try.ntmps7
      go_wp2_with fail
      refine (alive_any w).mono ?_
      rintro e w1 ⟨rfl, hB1⟩
      have hx1 := hx.below hB1 (Nat.le_refl _)
      have hy1 := hy.below hB1 (Nat.le_refl _)
      go_wp2_with fail
      refine (fit_any p c v w1 hx1).mono ?_
      rintro e w' ⟨rfl, rfl⟩
      rw [hd]
      go_wp2_with fail
      refine (assigned_any qo do_ o v.length w' hl1 hy1).mono ?_
      rintro e w1 ⟨rfl, rfl⟩
      rw [hab]
      go_wp2_with fail
      go_ret
      exact ⟨rfl, hB1⟩
  · have hd : decide (Bids v) = false := by rw [decide_eq_false_iff_not]; exact hv
    go_enter Try.func7, Try.ntmps7
    go_wp2_with fail
    refine (alive_any w).mono ?_
    rintro e w1 ⟨rfl, hB1⟩
    have hx1 := hx.below hB1 (Nat.le_refl _)
    have hy1 := hy.below hB1 (Nat.le_refl _)
    go_wp2_with fail
    refine (fit_any p c v w1 hx1).mono ?_
    rintro e w' ⟨rfl, rfl⟩
    rw [hd]
    go_wp2_with fail
    go_ret
    exact ⟨rfl, hB1⟩
end Go.Proofs.Ytjjbeccimeehfaa
