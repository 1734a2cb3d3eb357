/- The walk of the reference's function Least; valid bids and an assignment. -/
import Derived.Test.YtojldecldemfaaaRefD
import Derived.Deep.RegionHeld3
import Derived.Deep.RegionWith
namespace Go.Proofs.Ytojldecldemfaaa
set_option linter.unusedVariables false
set_option linter.unusedSimpArgs false
open Go.ChangeShapes Go.WideShapes Go.ChangeAt Go.RowKit Go.Deep

/-- The least prices, in a list. -/
noncomputable def leastL (v : List (List Int)) (a : List Int) : List Int := (List.range v.length).map fun j => leastP (wl v a) v.length j
/-- What Least has after k items. -/
noncomputable def leastTo (v : List (List Int)) (a : List Int) (k : Nat) : List Int := (List.range v.length).map fun j => if j < k then leastP (wl v a) v.length j else 0
/-- .. and in the middle of item k, after m others. -/
noncomputable def leastMid (v : List (List Int)) (a : List Int) (k m : Nat) : List Int := (leastTo v a k).set k (maxTo (fun i => lnkS (wl v a) v.length i k) m)
theorem leastTo_length (v : List (List Int)) (a : List Int) (k : Nat) : (leastTo v a k).length = v.length := by simp [leastTo]
theorem leastMid_length (v : List (List Int)) (a : List Int) (k m : Nat) : (leastMid v a k m).length = v.length := by simp [leastMid, leastTo]
theorem leastMid_zero {v : List (List Int)} {a : List Int} {k : Nat} (hk : k < v.length) : leastMid v a k 0 = leastTo v a k := by
  unfold leastMid maxTo
  apply List.ext_getElem
  · simp
  · intro i h1 h2
    rw [List.getElem_set]
    split
    · rename_i e; subst e; simp [leastTo]
    · rfl
theorem leastMid_end {v : List (List Int)} {a : List Int} {k : Nat} (hk : k < v.length) : leastMid v a k v.length = leastTo v a (k + 1) := by
  unfold leastMid
  apply List.ext_getElem
  · simp [leastTo]
  · intro i h1 h2
    rw [List.getElem_set]
    split
    · rename_i e; subst e; simp [leastTo, leastP]
    · rename_i e
      simp only [leastTo, List.getElem_map, List.getElem_range]
      by_cases e2 : i < k
      · rw [if_pos e2, if_pos (by omega)]
      · rw [if_neg e2, if_neg (by omega)]
theorem leastMid_succ {v : List (List Int)} {a : List Int} {k m : Nat} (hk : k < v.length) : leastMid v a k (m + 1) = (leastMid v a k m).set k (max (maxTo (fun i => lnkS (wl v a) v.length i k) m) (lnkS (wl v a) v.length m k)) := by
  unfold leastMid
  rw [List.set_set]; rfl
theorem leastMid_get {v : List (List Int)} {a : List Int} {k m : Nat} (hk : k < v.length) : iget (leastMid v a k m) k = maxTo (fun i => lnkS (wl v a) v.length i k) m := by
  unfold leastMid; rw [iget_set (by rw [leastTo_length]; exact hk), if_pos rfl]
theorem leastTo_zero (v : List (List Int)) (a : List Int) : leastTo v a 0 = List.replicate v.length 0 := by
  apply List.ext_getElem
  · simp [leastTo]
  · intro i h1 h2; simp [leastTo]
theorem leastTo_all (v : List (List Int)) (a : List Int) : leastTo v a v.length = leastL v a := by
  unfold leastTo leastL
  refine List.map_congr_left fun j hj => ?_
  rw [if_pos (List.mem_range.1 hj)]

theorem lnkS_bound {v : List (List Int)} {a : List Int} (hv : Bids v) (ha : IsA a v.length) {x : Nat} (y : Nat) (hx : x < v.length) : -6000000 ≤ lnkS (wl v a) v.length x y ∧ lnkS (wl v a) v.length x y ≤ 6000000 := by
  have h := lnk_bound (w := wl v a) (n := v.length) (M := 1000000) (by omega) (fun x y hx hy => wl_bound hv ha hx hy) v.length (List.replicate v.length false) x y hx
  have h6 := hv.2.1
  unfold lnkS; omega
theorem maxTo_bound {f : Nat → Int} {M : Int} (hM : 0 ≤ M) {n : Nat} (h : ∀ i, i < n → f i ≤ M) : 0 ≤ maxTo f n ∧ maxTo f n ≤ M := by
  refine ⟨(maxTo_ge f n).1, ?_⟩
  rcases maxTo_eq f n with e | ⟨i, hi, e⟩
  · omega
  · have := h i hi; omega

theorem link0_any {w0 wr : World} {p q : Option Addr} {c d : Nat} {v : List (List Int)} {a : List Int} {x y : Nat} (hx : Mat w0 p c v) (hy : Ints w0 q d a) (hv : Bids v) (ha : IsA a v.length) (hxn : x < v.length) (hyn : y < v.length)
    (hb : Below w0.heap.size w0 wr) : Calls Try.prog 47 #[.slice p v.length c, .slice q v.length d, .int .i64 x, .int .i64 y, .slice (some ⟨wr.heap.size, 0, none⟩) v.length v.length] (wr.alloc (.cells (boolCells v.length) 4)).drew
      fun e w' => e = .returned (.int .i64 (lnkS (wl v a) v.length x y)) ∧ ∃ n, w' = (wr.alloc (.cells (boolCells v.length) 4)).drewN n := by
  have h6 := hv.2.1
  refine (link_any w0 p q c d v a _ _ hx hy hv ha v.length (List.replicate v.length false) x y _ (Nat.le_refl _) (by simp) hxn hyn (bget_replicate _ _) (bget_replicate _ _) (by simp) ((hb.alloc hb.size _).drew) ((ownB_cells wr w0.heap.size v.length (by omega) hb.size).drewN 1)).mono ?_
  rintro e w' ⟨he, n, hn⟩
  exact ⟨he, 1 + n, by rw [hn, World.drewN_drew]⟩

set_option maxHeartbeats 4000000 in
set_option maxRecDepth 100000 in
theorem least_any (p q : Option Addr) (c d : Nat) (v : List (List Int)) (a : List Int) (w : World) (hx : Mat w p c v) (hy : Ints w q d a) (hv : Bids v) (ha : IsA a v.length) :
    Calls Try.prog 44 #[.slice p v.length c, .slice q v.length d] w (Gives w (leastL v a)) := by
  have h6 := hv.2.1
  have hmk := fun W => run_mkB v.length (by omega) W
  have Hal := Lib.hid ha.1
  go_enter Try.func44, Try.ntmps44
  go_wp2_with (at_make; refine wpList_mk rfl (.tmp 9) (.tmp 9) rfl w.heap.size v.length rfl rfl (by omega) (Nat.le_refl _) ?_; intro w1 hO1 hg1 hs1)
  have hb1 : Below w.heap.size w w1 := (Below.refl _ _).grown hg1 (Nat.le_refl _) (fun _ e => by cases e)
  rw [← leastTo_zero v a] at hO1
  go_loopw [6] (fun t6 wr => ∃ k : Nat, k ≤ v.length ∧ t6 = .int .i64 k ∧ Own wr w.heap.size (some ⟨w.heap.size, 0, none⟩) v.length (leastTo v a k) ∧ Below w.heap.size w wr) (fun t6 _ => v.length - (intOf t6).toNat)
  case atStart => exact ⟨0, Nat.zero_le _, rfl, hO1, hb1⟩
  case round =>
    obtain ⟨k, hk, rfl, hO, hb⟩ := hrel
    by_cases hlt : k < v.length
    · have hk1 : (k : Int) < v.length := by omega
      rw [← leastMid_zero hlt] at hO
      have HO := Lib.hid hO
      have Hb := Lib.hid hb
      clear hO hb hO1 hb1 hs1 hg1
      go_wp2_with fail
      go_loopw [7] (fun t7 wr => ∃ m : Nat, m ≤ v.length ∧ t7 = .int .i64 m ∧ Own wr w.heap.size (some ⟨w.heap.size, 0, none⟩) v.length (leastMid v a k m) ∧ Below w.heap.size w wr) (fun t7 _ => v.length - (intOf t7).toNat)
      case atStart => exact ⟨0, Nat.zero_le _, rfl, HO.out, Hb.out⟩
      case round =>
        obtain ⟨m, hm, rfl, hO, hb⟩ := hrel
        by_cases hlt2 : m < v.length
        · have hm1 : (m : Int) < v.length := by omega
          have hcell := hO.at (j := k) (by rw [leastMid_length]; exact hlt)
          have hfree := hO.free k
          rw [leastMid_get hlt] at hcell
          have hbd := maxTo_bound (f := fun i => lnkS (wl v a) v.length i k) (M := 6000000) (by omega) (n := m) (fun i hi => (lnkS_bound hv ha k (by omega)).2)
          have hbl := lnkS_bound hv ha k hlt2
          have hlt3 : w.heap.size < wr.heap.size := (hO.lt _ rfl).2
          have hca := (hO.alloc (.cells (boolCells v.length) 4)).at (j := k) (by rw [leastMid_length]; exact hlt)
          have hfa := (hO.alloc (.cells (boolCells v.length) 4)).free k
          rw [leastMid_get hlt] at hca
          have Hs := Lib.hid (leastMid_succ (v := v) (a := a) (k := k) (m := m) hlt)
          have hlink := fun W (h : W = wr) => h ▸ link0_any (wr := wr) hx hy hv ha hlt2 hlt hb
          have Hlink := Lib.hid hlink
          clear hlink
          obtain ⟨M, hM⟩ : ∃ M, maxTo (fun i => lnkS (wl v a) v.length i k) m = M := ⟨_, rfl⟩
          obtain ⟨L, hL⟩ : ∃ L, lnkS (wl v a) v.length m k = L := ⟨_, rfl⟩
          rw [hM] at hcell hca hbd Hs
          rw [hL] at hbl Hs Hlink
          clear hM hL
          have hL64 : in64 L := ⟨by omega, by omega⟩
          have hM64 : in64 M := ⟨by omega, by omega⟩
          by_cases hgt : M < L
          · have Hmx : Hid (max M L = L) := by unfold Hid; omega
            go_wp2_with fail
            go_region_with (go_at_call 47; refine (Hlink.out _ rfl).mono ?_; rintro e w' ⟨rfl, N, rfl⟩)
            all_goals
              go_wp2_with fail
              go_roundw
              case rel =>
                refine ⟨m + 1, by omega, by go_num, ?_, ?_⟩
                · rw [Hs.out, Hmx.out]
                  refine (Own.set ?_ k hL64).1
                  repeat (first | exact hO | apply Own.drewN | apply Own.drew1 | apply Own.alloc)
                · refine Below.setCell (p := ⟨w.heap.size, k, none⟩) ?_ (Nat.le_refl _) _
                  repeat (first | exact hb | apply Below.drewN' | apply Below.drew | refine Below.alloc ?_ (Nat.le_of_lt hlt3) _)
              case measure => simp [intOf]; omega
          · have Hmx : Hid (max M L = M) := by unfold Hid; omega
            have hle : L ≤ M := by omega
            go_wp2_with fail
            go_region_with (go_at_call 47; refine (Hlink.out _ rfl).mono ?_; rintro e w' ⟨rfl, N, rfl⟩)
            all_goals
              go_wp2_with fail
              go_roundw
              case rel =>
                refine ⟨m + 1, by omega, by go_num, ?_, ?_⟩
                · rw [Hs.out, Hmx.out]
                  refine (Own.set ?_ k hM64).1
                  repeat (first | exact hO | apply Own.drewN | apply Own.drew1 | apply Own.alloc)
                · refine Below.setCell (p := ⟨w.heap.size, k, none⟩) ?_ (Nat.le_refl _) _
                  repeat (first | exact hb | apply Below.drewN' | apply Below.drew | refine Below.alloc ?_ (Nat.le_of_lt hlt3) _)
              case measure => simp [intOf]; omega
        · have hm1 : ¬ (m : Int) < v.length := by omega
          obtain rfl : m = v.length := by omega
          rw [leastMid_end hlt] at hO
          go_wp2_with fail
          go_roundw
          case rel => exact ⟨k + 1, by omega, by go_num, hO, hb⟩
          case measure => simp [intOf]; omega
    · have hk1 : ¬ (k : Int) < v.length := by omega
      obtain rfl : k = v.length := by omega
      rw [leastTo_all] at hO
      have e : (leastL v a).length = v.length := by simp [leastL]
      have E := Lib.hid e
      clear e
      go_wp2_with fail
      go_ret
      exact ⟨some ⟨w.heap.size, 0, none⟩, v.length, by rw [E.out]; rfl, hO, hb⟩
end Go.Proofs.Ytojldecldemfaaa
