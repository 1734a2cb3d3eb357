/- The walks of the reference's functions Link and Least; valid bids and an assignment. -/
import Derived.Test.YtojldecldemfaaaTopRoomRentsm4
import Derived.Test.YtojldecldemfaaaTopRoomRentsm3
import Derived.Deep.RegionHeld3
import Derived.Deep.RegionWith
/- The walks of the reference's functions Link and Least; valid bids and an assignment. -/
namespace Go.Proofs.Ytojldecldemfaaa
set_option linter.unusedVariables false
set_option linter.unusedSimpArgs false
open Go.ChangeShapes Go.WideShapes Go.ChangeAt Go.RowKit Go.Deep

/-- The weights of an assignment's links. -/
noncomputable def wl (v : List (List Int)) (a : List Int) : Nat → Nat → Int := wt (bid v) v.length (itm a)
theorem wl_bound {v : List (List Int)} {a : List Int} (hv : Bids v) (ha : IsA a v.length) {x y : Nat} (hx : x < v.length) (hy : y < v.length) : -1000000 ≤ wl v a x y ∧ wl v a x y ≤ 1000000 := by
  have h1 := (isA_per ha).inv_spec hx
  have h2 := ((hv.2.2 _ h1.1).2 x hx)
  have h3 := ((hv.2.2 _ h1.1).2 y hy)
  unfold wl wt bid; omega

/-- The owner of an item: it has it; none before it does; what it bids more is the link's weight. -/
theorem link_owner {v : List (List Int)} {a : List Int} (hv : Bids v) (ha : IsA a v.length) {x : Nat} (hx : x < v.length) :
    iget a (inv v.length (itm a) x) = x ∧ (∀ k, k ≤ inv v.length (itm a) x → k ≠ inv v.length (itm a) x → iget a k ≠ (x : Int)) ∧ ∀ j, wl v a x j = iget (rget v (inv v.length (itm a) x)) j - iget (rget v (inv v.length (itm a) x)) x := by
  obtain ⟨o1, o2⟩ := (isA_per ha).inv_spec hx
  have h1 : iget a (inv v.length (itm a) x) = x := by have := isA_lt ha _ o1; simp only [itm] at o2; omega
  exact ⟨h1, fun k hk hne e => hne (isA_inj ha (by omega) o1 (by rw [e, h1])), fun j => rfl⟩

set_option maxHeartbeats 4000000 in
set_option maxRecDepth 100000 in
theorem link_any (w0 : World) (p q : Option Addr) (c d : Nat) (v : List (List Int)) (a : List Int) (ps : Option Addr) (cs : Nat) (hx : Mat w0 p c v) (hy : Ints w0 q d a) (hv : Bids v) (ha : IsA a v.length) :
    ∀ (f : Nat) (sb : List Bool) (x y : Nat) (w : World), f ≤ v.length → sb.length = v.length → x < v.length → y < v.length → bget sb x = false → bget sb y = false → sb.count false ≤ f →
    Below w0.heap.size w0 w → OwnB w w0.heap.size ps cs sb →
    Calls Try.prog 47 #[.slice p v.length c, .slice q v.length d, .int .i64 x, .int .i64 y, .slice ps v.length cs] w fun e w' => e = .returned (.int .i64 (lnk (wl v a) v.length f sb x y)) ∧ ∃ n, w' = w.drewN n := by
  intro f
  induction f with
  | zero => intro sb x y w _ hl hx _ h1 _ hc; have := count_pos (sb := sb) (x := x) (by omega) h1; omega
  | succ f ih =>
    intro sb x y w hf hl hxn hyn h1 h2 hc hb hO
    by_cases e : x = y
    · subst e
      have hb : ((x : Int) == x) = true := by simp
      have HL : Hid (lnk (wl v a) v.length (f + 1) sb x x = 0) := by simp [lnk, Hid]
      go_enter Try.func47, Try.ntmps47
      go_wp2_with fail
      go_ret
      exact ⟨ret_int HL.out.symm, drew_refl _⟩
    · have hb0 : ((x : Int) == y) = false := by rw [beq_eq_false_iff_ne]; omega
      have h6 := hv.2.1
      have hxw := hx.below hb (Nat.le_refl _)
      have hyw := hy.below hb (Nat.le_refl _)
      obtain ⟨o1, o2⟩ := (isA_per ha).inv_spec hxn
      have hx7 := link_owner hv ha hxn
      obtain ⟨ow, how⟩ : ∃ ow, inv v.length (itm a) x = ow := ⟨_, rfl⟩
      rw [how] at o1 o2 hx7
      clear how
      obtain ⟨ho1, ho2, ho3⟩ := hx7
      have Hir := Lib.hid ih
      have Hwl := Lib.hid ho3
      have Hne := Lib.hid ho2
      clear ih ho3 ho2 o2
      obtain ⟨g, rfl, hg1, hg2, hcx, hfx⟩ := hO.get (j := x) (by omega)
      rw [h1] at hcx
      obtain ⟨hO1, hgr⟩ := hO.set x true
      have hb1 : Below w0.heap.size w0 (w.setCell ⟨g, x, none⟩ (.bool true)) := hb.setCell (p := ⟨g, x, none⟩) hg1 _
      have hback := setCell_back (u := .bool true) hcx
      have Hback := Lib.hid hback
      have Hcx := Lib.hid hcx
      clear hback
      have HL : Hid (lnk (wl v a) v.length (f + 1) sb x y = (scan (fun j => wl v a x j + lnk (wl v a) v.length f (sb.set x true) j y) (sb.set x true) v.length).1) := by simp [lnk, Hid, e]
      have Hsb : Hid (sb.length = v.length) := hl
      have Hc : Hid ((sb.set x true).count false ≤ f) := by have := count_set_false (by omega) h1; unfold Hid; omega
      have Hyb : Hid (bget (sb.set x true) y = false) := by unfold Hid; rw [bget_set (by omega), if_neg e]; exact h2
      clear hl h1 h2 hc
      go_enter Try.func47, Try.ntmps47
      go_wp2_with fail
      -- the owner is sought
      go_loop [11] (fun t => ∃ k : Nat, k ≤ ow ∧ t = .int .i64 k) (fun t => ow - (intOf t).toNat)
      case atStart => exact ⟨0, Nat.zero_le _, rfl⟩
      case round =>
        obtain ⟨k, hk, rfl⟩ := hrel
        have hkn : k < a.length := by rw [ha.1]; omega
        obtain ⟨b, o, rfl, _, hcell⟩ := hyw.get hkn
        have hk1 : (k : Int) < v.length := by omega
        by_cases hko : k = ow
        · subst hko
          have hne : (iget a k != (x : Int)) = false := by rw [ho1]; simp
          rw [ho1] at hcell
          have hxn1 : (x : Int) < v.length := by omega
          go_wp2_with fail
          -- the other items are gone through
          obtain ⟨w1, hw1⟩ : ∃ w1, w1 = w.setCell ⟨g, x, none⟩ (.bool true) := ⟨_, rfl⟩
          rw [← hw1] at hO1 hb1 hgr ⊢
          have Hw1 := Lib.hid hw1
          clear hw1
          have hxw1 := hx.below hb1 (Nat.le_refl _)
          go_loopw [12, 13, 14] (fun t12 t13 t14 wr => ∃ j : Nat, j ≤ v.length ∧ t14 = .int .i64 j ∧ (∃ m fd, t12 = .int .i64 m ∧ t13 = .bool fd ∧ Hid ((m, fd) = scan (fun j => wl v a x j + lnk (wl v a) v.length f (sb.set x true) j y) (sb.set x true) j)) ∧ ∃ n, wr = w1.drewN n) (fun _ _ t14 _ => v.length - (intOf t14).toNat)
          case atStart => exact ⟨0, Nat.zero_le _, rfl, ⟨0, false, rfl, rfl, rfl⟩, drew_refl _⟩
          case round =>
            obtain ⟨j, hj, rfl, ⟨m, fd, rfl, rfl, hm⟩, hw⟩ := hrel
            have hxr := hxw1.drew hw
            have hOr := hO1.drew hw
            have hbr := hb1.drewP hw
            have Hw := Lib.hid hw
            clear hw
            by_cases hjn : j < v.length
            · have hj1 : (j : Int) < v.length := by omega
              obtain ⟨g', hge, _, _, hcj, _⟩ := hOr.get (j := j) (by rw [List.length_set, Hsb.out]; exact hjn)
              obtain rfl : g' = g := by cases hge; rfl
              by_cases hbj : bget (sb.set x true) j = true
              · have HS : Hid (scan (fun j => wl v a x j + lnk (wl v a) v.length f (sb.set x true) j y) (sb.set x true) (j + 1) = (m, fd)) := by unfold Hid; simp only [scan]; rw [if_pos hbj]; exact hm.out.symm
                rw [hbj] at hcj
                clear hbj
                go_wp2_with fail
                go_roundw
                case rel => exact ⟨j + 1, by omega, by go_num, ⟨m, fd, rfl, rfl, HS.out.symm⟩, Hw.out⟩
                case measure => simp [intOf]; omega
              · have hbj' : bget (sb.set x true) j = false := by simpa using hbj
                have HS := Lib.hid (show scan (fun j => wl v a x j + lnk (wl v a) v.length f (sb.set x true) j y) (sb.set x true) (j + 1) = if fd = false ∨ m < wl v a x j + lnk (wl v a) v.length f (sb.set x true) j y then (wl v a x j + lnk (wl v a) v.length f (sb.set x true) j y, true) else (m, fd) by
                  simp only [scan]; rw [if_neg hbj, ← hm.out])
                have hcall : ∀ N, Calls Try.prog 47 #[.slice p v.length c, .slice (some ⟨b, o, none⟩) v.length d, .int .i64 j, .int .i64 y, .slice (some ⟨g', 0, none⟩) v.length cs] (wr.drewN N) fun e w' => e = .returned (.int .i64 (lnk (wl v a) v.length f (sb.set x true) j y)) ∧ ∃ n, w' = (wr.drewN N).drewN n := fun N =>
                  Hir.out (sb.set x true) j y (wr.drewN N) (by omega) (by rw [List.length_set]; exact Hsb.out) hjn hyn hbj' Hyb.out Hc.out (hbr.drewP ⟨N, rfl⟩) (hOr.drewN N)
                have hb1' := lnk_bound (w := wl v a) (n := v.length) (M := 1000000) (by omega) (fun x y hx hy => wl_bound hv ha hx hy) f (sb.set x true) j y hjn
                have hb2' := scan_bound (g := fun j => wl v a x j + lnk (wl v a) v.length f (sb.set x true) j y) (sb := sb.set x true) (M := 8000000) (by omega) (k := j) (fun i hi => by
                  have h1 := lnk_bound (w := wl v a) (n := v.length) (M := 1000000) (by omega) (fun x y hx hy => wl_bound hv ha hx hy) f (sb.set x true) i y (by omega)
                  have h2 := wl_bound hv ha hxn (y := i) (by omega)
                  omega)
                rw [← hm.out] at hb2'
                have hwj := wl_bound hv ha hxn hjn
                obtain ⟨b2, o2, rfl, _, q1, d1, hc2, hi⟩ := hxr.get (j := k) o1
                have hrl := (hv.2.2 k o1).1
                obtain ⟨b3, o3, rfl, _, hc3⟩ := hi.get (j := j) (by omega)
                have hc4 := hi.at (j := x) (by omega)
                have hr1 := (hv.2.2 k o1).2 j hjn
                have hr2 := (hv.2.2 k o1).2 x hxn
                rw [Hwl.out j] at HS hwj
                have hk5 : (j : Int) < (rget v k).length := by omega
                have hk6 : (x : Int) < (rget v k).length := by omega
                have Hcall := Lib.hid hcall
                clear hcall hrl hm
                obtain ⟨R, hR⟩ : ∃ R, lnk (wl v a) v.length f (sb.set x true) j y = R := ⟨_, rfl⟩
                rw [hR] at HS hb1' Hcall
                clear hR
                obtain ⟨y1, hy1⟩ : ∃ y1, iget (rget v k) j = y1 := ⟨_, rfl⟩
                rw [hy1] at HS hwj hc3 hr1
                clear hy1
                obtain ⟨y2, hy2⟩ : ∃ y2, iget (rget v k) x = y2 := ⟨_, rfl⟩
                rw [hy2] at HS hwj hc4 hr2
                clear hy2
                rw [hbj'] at hcj
                go_wp2_with fail
                go_quiet ((go_at_call 47; exact Calls.quiet_of (Hcall.out _)))
                cases fd with
                | false =>
                  go_wp2_with fail
                  go_roundw
                  case rel => exact ⟨j + 1, by omega, by go_num, ⟨_, true, rfl, rfl, by rw [HS.out, if_pos (.inl rfl)]; rfl⟩, drew_drewN _ Hw.out⟩
                  case measure => simp [intOf]; omega
                | true =>
                  go_wp2_with fail
                  · have hgt : m < y1 - y2 + R := by assumption
                    go_roundw
                    case rel => exact ⟨j + 1, by omega, by go_num, ⟨_, true, rfl, rfl, by rw [HS.out, if_pos (.inr hgt)]; rfl⟩, drew_drewN _ Hw.out⟩
                    case measure => simp [intOf]; omega
                  · have hgt : y1 - y2 + R ≤ m := by assumption
                    go_roundw
                    case rel => exact ⟨j + 1, by omega, by go_num, ⟨m, true, rfl, rfl, by rw [HS.out, if_neg (fun h => h.elim (fun e => by cases e) (fun h => by omega))]; rfl⟩, drew_drewN _ Hw.out⟩
                    case measure => simp [intOf]; omega
            · have hj1 : ¬ (j : Int) < v.length := by omega
              obtain rfl : j = v.length := by omega
              obtain ⟨g', hge, _, _, hcx2, hfx2⟩ := hOr.get (j := x) (by rw [List.length_set, Hsb.out]; exact hxn)
              obtain rfl : g' = g := by cases hge; rfl
              go_wp2_with fail
              go_ret
              refine ⟨ret_int ?_, ?_⟩
              · rw [HL.out, ← hm.out]
              · obtain ⟨N, rfl⟩ := Hw.out
                refine ⟨N, ?_⟩
                have h1 := Hback.out
                rw [← Hw1.out] at h1
                rw [show (w1.drewN N).setCell ⟨g', x, none⟩ (.bool false) = (w1.setCell ⟨g', x, none⟩ (.bool false)).drewN N from rfl, h1]
        · have hne : (iget a k != (x : Int)) = true := by rw [bne_iff_ne]; exact Hne.out k (by omega) hko
          go_wp2_with fail
          go_round
          case rel => exact ⟨k + 1, by omega, by go_num⟩
          case measure => simp [intOf]; omega
end Go.Proofs.Ytojldecldemfaaa

/- The walk of the reference's function Least; valid bids and an assignment. -/
namespace Go.Proofs.Ytojldecldemfaaa
set_option linter.unusedVariables false
set_option linter.unusedSimpArgs false
open Go.ChangeShapes Go.WideShapes Go.ChangeAt Go.RowKit Go.Deep

/-- The least prices, in a list. -/
noncomputable def leastL (v : List (List Int)) (a : List Int) : List Int := (List.range v.length).map fun j => leastP (wl v a) v.length j
/-- What Least has after k items. -/
noncomputable def leastTo (v : List (List Int)) (a : List Int) (k : Nat) : List Int := (List.range v.length).map fun j => if j < k then leastP (wl v a) v.length j else 0
/-- .. and in the middle of item k, after m others. -/
noncomputable def leastMid (v : List (List Int)) (a : List Int) (k m : Nat) : List Int := (leastTo v a k).set k (maxTo (fun i => lnkS (wl v a) v.length i k) m)
theorem leastTo_length (v : List (List Int)) (a : List Int) (k : Nat) : (leastTo v a k).length = v.length := by simp [leastTo]
theorem leastMid_length (v : List (List Int)) (a : List Int) (k m : Nat) : (leastMid v a k m).length = v.length := by simp [leastMid, leastTo]
theorem leastMid_zero {v : List (List Int)} {a : List Int} {k : Nat} (hk : k < v.length) : leastMid v a k 0 = leastTo v a k := by
  unfold leastMid maxTo
  apply List.ext_getElem
  · simp
  · intro i h1 h2
    rw [List.getElem_set]
    split
    · rename_i e; subst e; simp [leastTo]
    · rfl
theorem leastMid_end {v : List (List Int)} {a : List Int} {k : Nat} (hk : k < v.length) : leastMid v a k v.length = leastTo v a (k + 1) := by
  unfold leastMid
  apply List.ext_getElem
  · simp [leastTo]
  · intro i h1 h2
    rw [List.getElem_set]
    split
    · rename_i e; subst e; simp [leastTo, leastP]
    · rename_i e
      simp only [leastTo, List.getElem_map, List.getElem_range]
      by_cases e2 : i < k
      · rw [if_pos e2, if_pos (by omega)]
      · rw [if_neg e2, if_neg (by omega)]
theorem leastMid_succ {v : List (List Int)} {a : List Int} {k m : Nat} (hk : k < v.length) : leastMid v a k (m + 1) = (leastMid v a k m).set k (max (maxTo (fun i => lnkS (wl v a) v.length i k) m) (lnkS (wl v a) v.length m k)) := by
  unfold leastMid
  rw [List.set_set]; rfl
theorem leastMid_get {v : List (List Int)} {a : List Int} {k m : Nat} (hk : k < v.length) : iget (leastMid v a k m) k = maxTo (fun i => lnkS (wl v a) v.length i k) m := by
  unfold leastMid; rw [iget_set (by rw [leastTo_length]; exact hk), if_pos rfl]
theorem leastTo_zero (v : List (List Int)) (a : List Int) : leastTo v a 0 = List.replicate v.length 0 := by
  apply List.ext_getElem
  · simp [leastTo]
  · intro i h1 h2; simp [leastTo]
theorem leastTo_all (v : List (List Int)) (a : List Int) : leastTo v a v.length = leastL v a := by
  unfold leastTo leastL
  refine List.map_congr_left fun j hj => ?_
  rw [if_pos (List.mem_range.1 hj)]

theorem lnkS_bound {v : List (List Int)} {a : List Int} (hv : Bids v) (ha : IsA a v.length) {x : Nat} (y : Nat) (hx : x < v.length) : -6000000 ≤ lnkS (wl v a) v.length x y ∧ lnkS (wl v a) v.length x y ≤ 6000000 := by
  have h := lnk_bound (w := wl v a) (n := v.length) (M := 1000000) (by omega) (fun x y hx hy => wl_bound hv ha hx hy) v.length (List.replicate v.length false) x y hx
  have h6 := hv.2.1
  unfold lnkS; omega
theorem maxTo_bound {f : Nat → Int} {M : Int} (hM : 0 ≤ M) {n : Nat} (h : ∀ i, i < n → f i ≤ M) : 0 ≤ maxTo f n ∧ maxTo f n ≤ M := by
  refine ⟨(maxTo_ge f n).1, ?_⟩
  rcases maxTo_eq f n with e | ⟨i, hi, e⟩
  · omega
  · have := h i hi; omega

theorem link0_any {w0 wr : World} {p q : Option Addr} {c d : Nat} {v : List (List Int)} {a : List Int} {x y : Nat} (hx : Mat w0 p c v) (hy : Ints w0 q d a) (hv : Bids v) (ha : IsA a v.length) (hxn : x < v.length) (hyn : y < v.length)
    (hb : Below w0.heap.size w0 wr) : Calls Try.prog 47 #[.slice p v.length c, .slice q v.length d, .int .i64 x, .int .i64 y, .slice (some ⟨wr.heap.size, 0, none⟩) v.length v.length] (wr.alloc (.cells (boolCells v.length) 4)).drew
      fun e w' => e = .returned (.int .i64 (lnkS (wl v a) v.length x y)) ∧ ∃ n, w' = (wr.alloc (.cells (boolCells v.length) 4)).drewN n := by
  have h6 := hv.2.1
  refine (link_any w0 p q c d v a _ _ hx hy hv ha v.length (List.replicate v.length false) x y _ (Nat.le_refl _) (by simp) hxn hyn (bget_replicate _ _) (bget_replicate _ _) (by simp) ((hb.alloc hb.size _).drew) ((ownB_cells wr w0.heap.size v.length (by omega) hb.size).drewN 1)).mono ?_
  rintro e w' ⟨he, n, hn⟩
  exact ⟨he, 1 + n, by rw [hn, World.drewN_drew]⟩

set_option maxHeartbeats 4000000 in
set_option maxRecDepth 100000 in
theorem least_any (p q : Option Addr) (c d : Nat) (v : List (List Int)) (a : List Int) (w : World) (hx : Mat w p c v) (hy : Ints w q d a) (hv : Bids v) (ha : IsA a v.length) :
    Calls Try.prog 44 #[.slice p v.length c, .slice q v.length d] w (Gives w (leastL v a)) := by
  have h6 := hv.2.1
  have hmk := fun W => run_mkB v.length (by omega) W
  have Hal := Lib.hid ha.1
  go_enter Try.func44, Try.ntmps44
  go_wp2_with (at_make; refine wpList_mk rfl (.tmp 9) (.tmp 9) rfl w.heap.size v.length rfl rfl (by omega) (Nat.le_refl _) ?_; intro w1 hO1 hg1 hs1)
  have hb1 : Below w.heap.size w w1 := (Below.refl _ _).grown hg1 (Nat.le_refl _) (fun _ e => by cases e)
  rw [← leastTo_zero v a] at hO1
  go_loopw [6] (fun t6 wr => ∃ k : Nat, k ≤ v.length ∧ t6 = .int .i64 k ∧ Own wr w.heap.size (some ⟨w.heap.size, 0, none⟩) v.length (leastTo v a k) ∧ Below w.heap.size w wr) (fun t6 _ => v.length - (intOf t6).toNat)
  case atStart => exact ⟨0, Nat.zero_le _, rfl, hO1, hb1⟩
  case round =>
    obtain ⟨k, hk, rfl, hO, hb⟩ := hrel
    by_cases hlt : k < v.length
    · have hk1 : (k : Int) < v.length := by omega
      rw [← leastMid_zero hlt] at hO
      have HO := Lib.hid hO
      have Hb := Lib.hid hb
      clear hO hb hO1 hb1 hs1 hg1
      go_wp2_with fail
      go_loopw [7] (fun t7 wr => ∃ m : Nat, m ≤ v.length ∧ t7 = .int .i64 m ∧ Own wr w.heap.size (some ⟨w.heap.size, 0, none⟩) v.length (leastMid v a k m) ∧ Below w.heap.size w wr) (fun t7 _ => v.length - (intOf t7).toNat)
      case atStart => exact ⟨0, Nat.zero_le _, rfl, HO.out, Hb.out⟩
      case round =>
        obtain ⟨m, hm, rfl, hO, hb⟩ := hrel
        by_cases hlt2 : m < v.length
        · have hm1 : (m : Int) < v.length := by omega
          have hcell := hO.at (j := k) (by rw [leastMid_length]; exact hlt)
          have hfree := hO.free k
          rw [leastMid_get hlt] at hcell
          have hbd := maxTo_bound (f := fun i => lnkS (wl v a) v.length i k) (M := 6000000) (by omega) (n := m) (fun i hi => (lnkS_bound hv ha k (by omega)).2)
          have hbl := lnkS_bound hv ha k hlt2
          have hlt3 : w.heap.size < wr.heap.size := (hO.lt _ rfl).2
          have hca := (hO.alloc (.cells (boolCells v.length) 4)).at (j := k) (by rw [leastMid_length]; exact hlt)
          have hfa := (hO.alloc (.cells (boolCells v.length) 4)).free k
          rw [leastMid_get hlt] at hca
          have Hs := Lib.hid (leastMid_succ (v := v) (a := a) (k := k) (m := m) hlt)
          have hlink := fun W (h : W = wr) => h ▸ link0_any (wr := wr) hx hy hv ha hlt2 hlt hb
          have Hlink := Lib.hid hlink
          clear hlink
          obtain ⟨M, hM⟩ : ∃ M, maxTo (fun i => lnkS (wl v a) v.length i k) m = M := ⟨_, rfl⟩
          obtain ⟨L, hL⟩ : ∃ L, lnkS (wl v a) v.length m k = L := ⟨_, rfl⟩
          rw [hM] at hcell hca hbd Hs
          rw [hL] at hbl Hs Hlink
          clear hM hL
          have hL64 : in64 L := ⟨by omega, by omega⟩
          have hM64 : in64 M := ⟨by omega, by omega⟩
          by_cases hgt : M < L
          · have Hmx : Hid (max M L = L) := by unfold Hid; omega
            go_wp2_with fail
            go_region_with (go_at_call 47; refine (Hlink.out _ rfl).mono ?_; rintro e w' ⟨rfl, N, rfl⟩)
            all_goals
              go_wp2_with fail
              go_roundw
              case rel =>
                refine ⟨m + 1, by omega, by go_num, ?_, ?_⟩
                · rw [Hs.out, Hmx.out]
                  refine (Own.set ?_ k hL64).1
                  repeat (first | exact hO | apply Own.drewN | apply Own.drew1 | apply Own.alloc)
                · refine Below.setCell (p := ⟨w.heap.size, k, none⟩) ?_ (Nat.le_refl _) _
                  repeat (first | exact hb | apply Below.drewN' | apply Below.drew | refine Below.alloc ?_ (Nat.le_of_lt hlt3) _)
              case measure => simp [intOf]; omega
          · have Hmx : Hid (max M L = M) := by unfold Hid; omega
            have hle : L ≤ M := by omega
            go_wp2_with fail
            go_region_with (go_at_call 47; refine (Hlink.out _ rfl).mono ?_; rintro e w' ⟨rfl, N, rfl⟩)
            all_goals
              go_wp2_with fail
              go_roundw
              case rel =>
                refine ⟨m + 1, by omega, by go_num, ?_, ?_⟩
                · rw [Hs.out, Hmx.out]
                  refine (Own.set ?_ k hM64).1
                  repeat (first | exact hO | apply Own.drewN | apply Own.drew1 | apply Own.alloc)
                · refine Below.setCell (p := ⟨w.heap.size, k, none⟩) ?_ (Nat.le_refl _) _
                  repeat (first | exact hb | apply Below.drewN' | apply Below.drew | refine Below.alloc ?_ (Nat.le_of_lt hlt3) _)
              case measure => simp [intOf]; omega
        · have hm1 : ¬ (m : Int) < v.length := by omega
          obtain rfl : m = v.length := by omega
          rw [leastMid_end hlt] at hO
          go_wp2_with fail
          go_roundw
          case rel => exact ⟨k + 1, by omega, by go_num, hO, hb⟩
          case measure => simp [intOf]; omega
    · have hk1 : ¬ (k : Int) < v.length := by omega
      obtain rfl : k = v.length := by omega
      rw [leastTo_all] at hO
      have e : (leastL v a).length = v.length := by simp [leastL]
      have E := Lib.hid e
      clear e
      go_wp2_with fail
      go_ret
      exact ⟨some ⟨w.heap.size, 0, none⟩, v.length, by rw [E.out]; rfl, hO, hb⟩
end Go.Proofs.Ytojldecldemfaaa

/- Raising prices in rounds comes to the greatest sums along paths, the least prices; harm is price; plain, no program. -/
namespace Go.Proofs.Ytojldecldemfaaa
set_option linter.unusedVariables false
set_option linter.unusedSimpArgs false

/-- Item k's price, raised for the owner i. -/
def bfStep (v : List (List Int)) (a : List Int) (q : List Int) (i k : Nat) : List Int := q.set k (max (iget q k) (iget q (itm a i) + bid v i k - bid v i (itm a i)))
def bfJ (v : List (List Int)) (a : List Int) (q : List Int) (i : Nat) : Nat → List Int
  | 0 => q
  | k + 1 => bfStep v a (bfJ v a q i k) i k
def bfI (v : List (List Int)) (a : List Int) (q : List Int) : Nat → List Int
  | 0 => q
  | k + 1 => bfJ v a (bfI v a q k) k v.length
def bfR (v : List (List Int)) (a : List Int) : Nat → List Int
  | 0 => List.replicate v.length 0
  | r + 1 => bfI v a (bfR v a r) v.length
theorem ints_ext' {xs ys : List Int} (h : ∀ j, j < xs.length → iget xs j = iget ys j) (hl : xs.length = ys.length) : xs = ys := take_ext h hl
theorem bfStep_length (v : List (List Int)) (a q : List Int) (i k : Nat) : (bfStep v a q i k).length = q.length := by simp [bfStep]
theorem bfJ_length (v : List (List Int)) (a q : List Int) (i : Nat) : ∀ k, (bfJ v a q i k).length = q.length
  | 0 => rfl
  | k + 1 => by simp only [bfJ]; rw [bfStep_length, bfJ_length v a q i k]
theorem bfI_length (v : List (List Int)) (a q : List Int) : ∀ k, (bfI v a q k).length = q.length
  | 0 => rfl
  | k + 1 => by simp only [bfI]; rw [bfJ_length, bfI_length v a q k]
theorem bfR_length (v : List (List Int)) (a : List Int) : ∀ r, (bfR v a r).length = v.length
  | 0 => by simp [bfR]
  | r + 1 => by simp only [bfR]; rw [bfI_length, bfR_length v a r]

/-- Prices that lie between 0 and h, a solution of what the rounds ask. -/
def Under (n : Nat) (h : Nat → Int) (q : List Int) : Prop := q.length = n ∧ ∀ j, j < n → 0 ≤ iget q j ∧ iget q j ≤ h j
theorem wl_of {v : List (List Int)} {a : List Int} (ha : IsA a v.length) {i : Nat} (hi : i < v.length) (k : Nat) : wl v a (itm a i) k = bid v i k - bid v i (itm a i) := by
  unfold wl wt; rw [(isA_per ha).inv_of hi]
theorem under_step {v : List (List Int)} {a q : List Int} {h : Nat → Int} (ha : IsA a v.length) (hh : ∀ y z, y < v.length → z < v.length → h y + wl v a y z ≤ h z) (hq : Under v.length h q) {i k : Nat} (hi : i < v.length) (hk : k < v.length) : Under v.length h (bfStep v a q i k) := by
  refine ⟨by rw [bfStep_length]; exact hq.1, fun j hj => ?_⟩
  unfold bfStep
  rw [iget_set (by rw [hq.1]; exact hk)]
  have h1 := hq.2 j hj
  split
  · rename_i e
    subst e
    have ho := (isA_lt ha i hi).2
    have h2 := hq.2 _ ho
    have h3 := hh _ k ho hk
    rw [wl_of ha hi] at h3
    omega
  · exact h1
theorem under_J {v : List (List Int)} {a q : List Int} {h : Nat → Int} (ha : IsA a v.length) (hh : ∀ y z, y < v.length → z < v.length → h y + wl v a y z ≤ h z) (hq : Under v.length h q) {i : Nat} (hi : i < v.length) : ∀ k, k ≤ v.length → Under v.length h (bfJ v a q i k)
  | 0, _ => hq
  | k + 1, hk => under_step ha hh (under_J ha hh hq hi k (by omega)) hi (by omega)
theorem under_I {v : List (List Int)} {a q : List Int} {h : Nat → Int} (ha : IsA a v.length) (hh : ∀ y z, y < v.length → z < v.length → h y + wl v a y z ≤ h z) (hq : Under v.length h q) : ∀ k, k ≤ v.length → Under v.length h (bfI v a q k)
  | 0, _ => hq
  | k + 1, hk => under_J ha hh (under_I ha hh hq k (by omega)) (by omega) _ (Nat.le_refl _)
theorem under_R {v : List (List Int)} {a : List Int} {h : Nat → Int} (ha : IsA a v.length) (hh : ∀ y z, y < v.length → z < v.length → h y + wl v a y z ≤ h z) (h0 : ∀ j, j < v.length → 0 ≤ h j) : ∀ r, Under v.length h (bfR v a r)
  | 0 => ⟨by simp [bfR], fun j hj => by simp [bfR, iget, List.getD, hj]; exact h0 j hj⟩
  | r + 1 => under_I ha hh (under_R ha hh h0 r) _ (Nat.le_refl _)

/-- Prices only rise. -/
theorem step_ge {v : List (List Int)} {a q : List Int} {i k : Nat} (hk : k < q.length) (j : Nat) : iget q j ≤ iget (bfStep v a q i k) j := by
  unfold bfStep
  rw [iget_set hk]
  split
  · rename_i e; subst e; omega
  · exact Int.le_refl _
theorem J_ge {v : List (List Int)} {a q : List Int} {i : Nat} (j : Nat) : ∀ k, k ≤ q.length → iget q j ≤ iget (bfJ v a q i k) j
  | 0, _ => Int.le_refl _
  | k + 1, hk => by
    have h1 := J_ge (v := v) (a := a) (q := q) (i := i) j k (by omega)
    have h2 := step_ge (v := v) (a := a) (q := bfJ v a q i k) (i := i) (k := k) (by rw [bfJ_length]; omega) j
    simp only [bfJ]; omega
theorem J_le_J {v : List (List Int)} {a q : List Int} {i : Nat} (j k : Nat) : ∀ m, k + m ≤ q.length → iget (bfJ v a q i k) j ≤ iget (bfJ v a q i (k + m)) j
  | 0, _ => Int.le_refl _
  | m + 1, hk => by
    have h1 := J_le_J (v := v) (a := a) (q := q) (i := i) j k m (by omega)
    have h2 := step_ge (v := v) (a := a) (q := bfJ v a q i (k + m)) (i := i) (k := k + m) (by rw [bfJ_length]; omega) j
    show _ ≤ iget (bfStep v a (bfJ v a q i (k + m)) i (k + m)) j
    omega
theorem I_ge {v : List (List Int)} {a q : List Int} (hq : q.length = v.length) (j : Nat) : ∀ k, iget q j ≤ iget (bfI v a q k) j
  | 0 => Int.le_refl _
  | k + 1 => by
    have h1 := I_ge (v := v) (a := a) hq j k
    have h2 := J_ge (v := v) (a := a) (q := bfI v a q k) (i := k) j v.length (by rw [bfI_length, hq]; exact Nat.le_refl _)
    simp only [bfI]; omega
theorem I_le_I {v : List (List Int)} {a q : List Int} (hq : q.length = v.length) (j k : Nat) : ∀ m, iget (bfI v a q k) j ≤ iget (bfI v a q (k + m)) j
  | 0 => Int.le_refl _
  | m + 1 => by
    have h1 := I_le_I (v := v) (a := a) hq j k m
    have h2 := J_ge (v := v) (a := a) (q := bfI v a q (k + m)) (i := k + m) j v.length (by rw [bfI_length, hq]; exact Nat.le_refl _)
    show _ ≤ iget (bfJ v a (bfI v a q (k + m)) (k + m) v.length) j
    omega
/-- A round raises each price to what an edge asks. -/
theorem round_edge {v : List (List Int)} {a q : List Int} (ha : IsA a v.length) (hq : q.length = v.length) {x j : Nat} (hx : x < v.length) (hj : j < v.length) : iget q x + wl v a x j ≤ iget (bfI v a q v.length) j := by
  obtain ⟨i, hi, rfl⟩ := (isA_per ha).surj hx
  rw [wl_of ha hi]
  have h1 := I_ge (v := v) (a := a) hq (itm a i) i
  have hl : (bfI v a q i).length = v.length := by rw [bfI_length, hq]
  have h2 := J_ge (v := v) (a := a) (q := bfI v a q i) (i := i) (itm a i) j (by omega)
  have h3 := J_le_J (v := v) (a := a) (q := bfI v a q i) (i := i) j (j + 1) (v.length - (j + 1)) (by omega)
  have h4 := I_le_I (v := v) (a := a) hq j (i + 1) (v.length - (i + 1))
  rw [show j + 1 + (v.length - (j + 1)) = v.length by omega] at h3
  rw [show i + 1 + (v.length - (i + 1)) = v.length by omega] at h4
  have h5 : iget (bfJ v a (bfI v a q i) i (j + 1)) j = max (iget (bfJ v a (bfI v a q i) i j) j) (iget (bfJ v a (bfI v a q i) i j) (itm a i) + bid v i j - bid v i (itm a i)) := by
    simp only [bfJ, bfStep]
    rw [iget_set (by rw [bfJ_length, hl]; exact hj), if_pos rfl]
  have h6 : iget (bfJ v a (bfI v a q i) i v.length) j ≤ iget (bfI v a q v.length) j := h4
  omega
theorem path_R {v : List (List Int)} {a : List Int} (ha : IsA a v.length) : ∀ (r : Nat) (L : List Nat) (x : Nat) (s : Nat), L.length + s = r → (∀ y, y ∈ x :: L → y < v.length) → ∀ t, t ≤ iget (bfR v a s) x → t + psum (wl v a) x L ≤ iget (bfR v a r) (lastOf x L)
  | r, [], x, s, hr, hx, t, ht => by
    simp at hr; subst hr
    simp [psum, lastOf]; exact ht
  | r, y :: L, x, s, hr, hx, t, ht => by
    have h1 := round_edge ha (bfR_length v a s) (hx x (by simp)) (hx y (by simp))
    have h2 := path_R ha r L y (s + 1) (by simp at hr; omega) (fun z hz => hx z (List.mem_cons_of_mem _ hz)) (t + wl v a x y) (by simp only [bfR]; omega)
    simp only [psum, lastOf]; omega
theorem R_mono {v : List (List Int)} {a : List Int} (r j : Nat) : ∀ m, iget (bfR v a r) j ≤ iget (bfR v a (r + m)) j
  | 0 => Int.le_refl _
  | m + 1 => by
    have h1 := R_mono (v := v) (a := a) r j m
    have h2 := I_ge (v := v) (a := a) (bfR_length v a (r + m)) j v.length
    show _ ≤ iget (bfI v a (bfR v a (r + m)) v.length) j
    omega

/-- The least prices solve what the rounds ask. -/
theorem noGain_best {v : List (List Int)} {a : List Int} (hb : IsBest v a) (h0 : 0 < v.length) : NoGain (wl v a) v.length := by
  refine noGain_of_best (isA_per hb.1) (fun t ht => ?_)
  have h1 := hb.max (listOf_isA ht) h0
  rw [worth_val (listOf_length _ _), worth_val hb.1.1] at h1
  rw [val_congr (t := t) (fun i hi => listOf_itm hi)] at h1
  exact h1
theorem leastP_step {v : List (List Int)} {a : List Int} (hb : IsBest v a) (h0 : 0 < v.length) {y z : Nat} (hy : y < v.length) (hz : z < v.length) : leastP (wl v a) v.length y + wl v a y z ≤ leastP (wl v a) v.length z := by
  have hN := noGain_best hb h0
  have hC := lnkS_clo (wl v a) v.length
  unfold leastP
  obtain ⟨z0, zge⟩ := maxTo_ge (fun i => lnkS (wl v a) v.length i z) v.length
  rcases maxTo_eq (fun i => lnkS (wl v a) v.length i y) v.length with e | ⟨i, hi, e⟩
  · have h1 := hC.step hN hy hy hz
    rw [hC.self hy] at h1
    have h2 := zge y hy
    rw [e]; omega
  · have h1 := hC.step hN hi hy hz
    have h2 := zge i hi
    rw [e]; omega
theorem leastP_nonneg (w : Nat → Nat → Int) (n j : Nat) : 0 ≤ leastP w n j := (maxTo_ge _ n).1
/-- Every solution from 0 on is at least as great. -/
theorem leastP_le {v : List (List Int)} {a : List Int} {h : Nat → Int} (hh : ∀ y z, y < v.length → z < v.length → h y + wl v a y z ≤ h z) (h0 : ∀ j, j < v.length → 0 ≤ h j) {j : Nat} (hj : j < v.length) : leastP (wl v a) v.length j ≤ h j := by
  unfold leastP
  rcases maxTo_eq (fun i => lnkS (wl v a) v.length i j) v.length with e | ⟨i, hi, e⟩
  · rw [e]; exact h0 j hj
  · have := (lnkS_clo (wl v a) v.length).le hh hi hj
    have := h0 i hi
    rw [e]; omega
/-- The rounds come to the least prices. -/
theorem bfR_least {v : List (List Int)} {a : List Int} (hb : IsBest v a) (h0 : 0 < v.length) : bfR v a v.length = leastL v a := by
  refine ints_ext' (fun j hj => ?_) (by rw [bfR_length]; simp [leastL])
  rw [bfR_length] at hj
  have e : iget (leastL v a) j = leastP (wl v a) v.length j := by simp [leastL, iget, List.getD, hj]
  rw [e]
  have hu := (under_R (h := fun j => leastP (wl v a) v.length j) hb.1 (fun y z hy hz => leastP_step hb h0 hy hz) (fun j _ => leastP_nonneg _ _ j) v.length).2 j hj
  refine Int.le_antisymm hu.2 ?_
  unfold leastP
  rcases maxTo_eq (fun i => lnkS (wl v a) v.length i j) v.length with e | ⟨i, hi, e⟩
  · rw [e]; exact hu.1
  · rw [e]
    obtain ⟨L, hL, rfl, hp⟩ := (lnkS_clo (wl v a) v.length).path i j hi hj
    rw [← hp]
    have hlen : (i :: L).length ≤ (List.range v.length).length := hL.nodup.length_le_of_subset (fun y hy => List.mem_range.2 (hL.lt y hy))
    simp at hlen
    have h1 := path_R hb.1 L.length L i 0 (by omega) hL.lt 0 (by simp [bfR, iget, List.getD, hi])
    have h2 := R_mono (v := v) (a := a) L.length (lastOf i L) (v.length - L.length)
    rw [show L.length + (v.length - L.length) = v.length by omega] at h2
    omega
theorem firstMax_exists (v : List (List Int)) : ∀ k, ∃ b, FirstMax (fun x => IsA x v.length ∧ numA v.length 0 x < k) (worthI v) b
  | 0 => ⟨[], .inl ⟨rfl, fun x hx => by omega⟩⟩
  | k + 1 => by
    obtain ⟨b, hb⟩ := firstMax_exists v k
    by_cases hc : ∃ cur, IsA cur v.length ∧ numA v.length 0 cur = k
    · obtain ⟨cur, h1, h2⟩ := hc
      have hS : ∀ x, (IsA x v.length ∧ numA v.length 0 x < k) → llt x cur := fun x hx => num_llt (by rw [hx.1.1, h1.1]) (isA_digits hx.1) (isA_digits h1) (by omega)
      have hT : ∀ x, ((IsA x v.length ∧ numA v.length 0 x < k) ∨ x = cur) ↔ (IsA x v.length ∧ numA v.length 0 x < k + 1) := fun x => by
        constructor
        · rintro (h | rfl)
          · exact ⟨h.1, by omega⟩
          · exact ⟨h1, by omega⟩
        · rintro ⟨h3, h4⟩
          by_cases e : numA v.length 0 x < k
          · exact .inl ⟨h3, e⟩
          · exact .inr (num_inj (by rw [h3.1, h1.1]) (isA_digits h3) (isA_digits h1) (by omega))
      rcases hb with h3 | ⟨h3, h4⟩
      · exact ⟨cur, (FirstMax.add (.inl h3) hS (.inl h3)).congr hT (fun _ _ => rfl)⟩
      · by_cases e : worthI v b < worthI v cur
        · exact ⟨cur, (FirstMax.add (.inr ⟨h3, h4⟩) hS (.inr ⟨h3, e⟩)).congr hT (fun _ _ => rfl)⟩
        · exact ⟨b, (FirstMax.keep (.inr ⟨h3, h4⟩) hS ⟨h3, by omega⟩).congr hT (fun _ _ => rfl)⟩
    · exact ⟨b, hb.congr (fun x => ⟨fun h => ⟨h.1, by omega⟩, fun h => ⟨h.1, by
        have : numA v.length 0 x ≠ k := fun e => hc ⟨x, h.1, e⟩
        omega⟩⟩) (fun _ _ => rfl)⟩
/-- The best assignment is one. -/
theorem bestA_best {v : List (List Int)} (h0 : 0 < v.length) : IsBest v (bestA v) := by
  obtain ⟨b, hb⟩ := firstMax_exists v (v.length ^ v.length)
  have h1 : FirstMax (fun x => IsA x v.length) (worthI v) b := hb.congr (fun x => ⟨fun h => h.1, fun h => ⟨h, by have := numA_lt x (isA_digits h); rw [h.1] at this; exact this⟩⟩) (fun _ _ => rfl)
  have h2 : IsBest v b := ⟨by
    rcases h1 with ⟨_, h⟩ | ⟨h, _⟩
    · exact absurd (listOf_isA (Per.id v.length)) (h _)
    · exact h, h1⟩
  rw [bestA_eq h2]; exact h2
end Go.Proofs.Ytojldecldemfaaa
