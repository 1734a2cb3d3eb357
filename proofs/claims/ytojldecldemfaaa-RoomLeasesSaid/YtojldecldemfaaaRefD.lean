/- The walks of the reference's functions Link and Least; valid bids and an assignment. -/
import Derived.Test.YtojldecldemfaaaRefC
import Derived.Test.YtojldecldemfaaaLinkP
namespace Go.Proofs.Ytojldecldemfaaa
set_option linter.unusedVariables false
set_option linter.unusedSimpArgs false
open Go.ChangeShapes Go.WideShapes Go.ChangeAt Go.RowKit Go.Deep

/-- The weights of an assignment's links. -/
noncomputable def wl (v : List (List Int)) (a : List Int) : Nat → Nat → Int := wt (bid v) v.length (itm a)
theorem wl_bound {v : List (List Int)} {a : List Int} (hv : Bids v) (ha : IsA a v.length) {x y : Nat} (hx : x < v.length) (hy : y < v.length) : -1000000 ≤ wl v a x y ∧ wl v a x y ≤ 1000000 := by
  have h1 := (isA_per ha).inv_spec hx
  have h2 := ((hv.2.2 _ h1.1).2 x hx)
  have h3 := ((hv.2.2 _ h1.1).2 y hy)
  unfold wl wt bid; omega

/-- The owner of an item: it has it; none before it does; what it bids more is the link's weight. -/
theorem link_owner {v : List (List Int)} {a : List Int} (hv : Bids v) (ha : IsA a v.length) {x : Nat} (hx : x < v.length) :
    iget a (inv v.length (itm a) x) = x ∧ (∀ k, k ≤ inv v.length (itm a) x → k ≠ inv v.length (itm a) x → iget a k ≠ (x : Int)) ∧ ∀ j, wl v a x j = iget (rget v (inv v.length (itm a) x)) j - iget (rget v (inv v.length (itm a) x)) x := by
  obtain ⟨o1, o2⟩ := (isA_per ha).inv_spec hx
  have h1 : iget a (inv v.length (itm a) x) = x := by have := isA_lt ha _ o1; simp only [itm] at o2; omega
  exact ⟨h1, fun k hk hne e => hne (isA_inj ha (by omega) o1 (by rw [e, h1])), fun j => rfl⟩

set_option maxHeartbeats 4000000 in
set_option maxRecDepth 100000 in
theorem link_any (w0 : World) (p q : Option Addr) (c d : Nat) (v : List (List Int)) (a : List Int) (ps : Option Addr) (cs : Nat) (hx : Mat w0 p c v) (hy : Ints w0 q d a) (hv : Bids v) (ha : IsA a v.length) :
    ∀ (f : Nat) (sb : List Bool) (x y : Nat) (w : World), f ≤ v.length → sb.length = v.length → x < v.length → y < v.length → bget sb x = false → bget sb y = false → sb.count false ≤ f →
    Below w0.heap.size w0 w → OwnB w w0.heap.size ps cs sb →
    Calls Try.prog 47 #[.slice p v.length c, .slice q v.length d, .int .i64 x, .int .i64 y, .slice ps v.length cs] w fun e w' => e = .returned (.int .i64 (lnk (wl v a) v.length f sb x y)) ∧ ∃ n, w' = w.drewN n := by
  intro f
  induction f with
  | zero => intro sb x y w _ hl hx _ h1 _ hc; have := count_pos (sb := sb) (x := x) (by omega) h1; omega
  | succ f ih =>
    intro sb x y w hf hl hxn hyn h1 h2 hc hb hO
    by_cases e : x = y
    · subst e
      have hb : ((x : Int) == x) = true := by simp
      have HL : Hid (lnk (wl v a) v.length (f + 1) sb x x = 0) := by simp [lnk, Hid]
      go_enter Try.func47, Try.ntmps47
      go_wp2_with fail
      go_ret
      exact ⟨ret_int HL.out.symm, drew_refl _⟩
    · have hb0 : ((x : Int) == y) = false := by rw [beq_eq_false_iff_ne]; omega
      have h6 := hv.2.1
      have hxw := hx.below hb (Nat.le_refl _)
      have hyw := hy.below hb (Nat.le_refl _)
      obtain ⟨o1, o2⟩ := (isA_per ha).inv_spec hxn
      have hx7 := link_owner hv ha hxn
      obtain ⟨ow, how⟩ : ∃ ow, inv v.length (itm a) x = ow := ⟨_, rfl⟩
      rw [how] at o1 o2 hx7
      clear how
      obtain ⟨ho1, ho2, ho3⟩ := hx7
      have Hir := Lib.hid ih
      have Hwl := Lib.hid ho3
      have Hne := Lib.hid ho2
      clear ih ho3 ho2 o2
      obtain ⟨g, rfl, hg1, hg2, hcx, hfx⟩ := hO.get (j := x) (by omega)
      rw [h1] at hcx
      obtain ⟨hO1, hgr⟩ := hO.set x true
      have hb1 : Below w0.heap.size w0 (w.setCell ⟨g, x, none⟩ (.bool true)) := hb.setCell (p := ⟨g, x, none⟩) hg1 _
      have hback := setCell_back (u := .bool true) hcx
      have Hback := Lib.hid hback
      have Hcx := Lib.hid hcx
      clear hback
      have HL : Hid (lnk (wl v a) v.length (f + 1) sb x y = (scan (fun j => wl v a x j + lnk (wl v a) v.length f (sb.set x true) j y) (sb.set x true) v.length).1) := by simp [lnk, Hid, e]
      have Hsb : Hid (sb.length = v.length) := hl
      have Hc : Hid ((sb.set x true).count false ≤ f) := by have := count_set_false (by omega) h1; unfold Hid; omega
      have Hyb : Hid (bget (sb.set x true) y = false) := by unfold Hid; rw [bget_set (by omega), if_neg e]; exact h2
      clear hl h1 h2 hc
      go_enter Try.func47, Try.ntmps47
      go_wp2_with fail
      -- the owner is sought
      go_loop [11] (fun t => ∃ k : Nat, k ≤ ow ∧ t = .int .i64 k) (fun t => ow - (intOf t).toNat)
      case atStart => exact ⟨0, Nat.zero_le _, rfl⟩
      case round =>
        obtain ⟨k, hk, rfl⟩ := hrel
        have hkn : k < a.length := by rw [ha.1]; omega
        obtain ⟨b, o, rfl, _, hcell⟩ := hyw.get hkn
        have hk1 : (k : Int) < v.length := by omega
        by_cases hko : k = ow
        · subst hko
          have hne : (iget a k != (x : Int)) = false := by rw [ho1]; simp
          rw [ho1] at hcell
          have hxn1 : (x : Int) < v.length := by omega
          go_wp2_with fail
          -- the other items are gone through
          obtain ⟨w1, hw1⟩ : ∃ w1, w1 = w.setCell ⟨g, x, none⟩ (.bool true) := ⟨_, rfl⟩
          rw [← hw1] at hO1 hb1 hgr ⊢
          have Hw1 := Lib.hid hw1
          clear hw1
          have hxw1 := hx.below hb1 (Nat.le_refl _)
          go_loopw [12, 13, 14] (fun t12 t13 t14 wr => ∃ j : Nat, j ≤ v.length ∧ t14 = .int .i64 j ∧ (∃ m fd, t12 = .int .i64 m ∧ t13 = .bool fd ∧ Hid ((m, fd) = scan (fun j => wl v a x j + lnk (wl v a) v.length f (sb.set x true) j y) (sb.set x true) j)) ∧ ∃ n, wr = w1.drewN n) (fun _ _ t14 _ => v.length - (intOf t14).toNat)
          case atStart => exact ⟨0, Nat.zero_le _, rfl, ⟨0, false, rfl, rfl, rfl⟩, drew_refl _⟩
          case round =>
            obtain ⟨j, hj, rfl, ⟨m, fd, rfl, rfl, hm⟩, hw⟩ := hrel
            have hxr := hxw1.drew hw
            have hOr := hO1.drew hw
            have hbr := hb1.drewP hw
            have Hw := Lib.hid hw
            clear hw
            by_cases hjn : j < v.length
            · have hj1 : (j : Int) < v.length := by omega
              obtain ⟨g', hge, _, _, hcj, _⟩ := hOr.get (j := j) (by rw [List.length_set, Hsb.out]; exact hjn)
              obtain rfl : g' = g := by cases hge; rfl
              by_cases hbj : bget (sb.set x true) j = true
              · have HS : Hid (scan (fun j => wl v a x j + lnk (wl v a) v.length f (sb.set x true) j y) (sb.set x true) (j + 1) = (m, fd)) := by unfold Hid; simp only [scan]; rw [if_pos hbj]; exact hm.out.symm
                rw [hbj] at hcj
                clear hbj
                go_wp2_with fail
                go_roundw
                case rel => exact ⟨j + 1, by omega, by go_num, ⟨m, fd, rfl, rfl, HS.out.symm⟩, Hw.out⟩
                case measure => simp [intOf]; omega
              · have hbj' : bget (sb.set x true) j = false := by simpa using hbj
                have HS := Lib.hid (show scan (fun j => wl v a x j + lnk (wl v a) v.length f (sb.set x true) j y) (sb.set x true) (j + 1) = if fd = false ∨ m < wl v a x j + lnk (wl v a) v.length f (sb.set x true) j y then (wl v a x j + lnk (wl v a) v.length f (sb.set x true) j y, true) else (m, fd) by
                  simp only [scan]; rw [if_neg hbj, ← hm.out])
                have hcall : ∀ N, Calls Try.prog 47 #[.slice p v.length c, .slice (some ⟨b, o, none⟩) v.length d, .int .i64 j, .int .i64 y, .slice (some ⟨g', 0, none⟩) v.length cs] (wr.drewN N) fun e w' => e = .returned (.int .i64 (lnk (wl v a) v.length f (sb.set x true) j y)) ∧ ∃ n, w' = (wr.drewN N).drewN n := fun N =>
                  Hir.out (sb.set x true) j y (wr.drewN N) (by omega) (by rw [List.length_set]; exact Hsb.out) hjn hyn hbj' Hyb.out Hc.out (hbr.drewP ⟨N, rfl⟩) (hOr.drewN N)
                have hb1' := lnk_bound (w := wl v a) (n := v.length) (M := 1000000) (by omega) (fun x y hx hy => wl_bound hv ha hx hy) f (sb.set x true) j y hjn
                have hb2' := scan_bound (g := fun j => wl v a x j + lnk (wl v a) v.length f (sb.set x true) j y) (sb := sb.set x true) (M := 8000000) (by omega) (k := j) (fun i hi => by
                  have h1 := lnk_bound (w := wl v a) (n := v.length) (M := 1000000) (by omega) (fun x y hx hy => wl_bound hv ha hx hy) f (sb.set x true) i y (by omega)
                  have h2 := wl_bound hv ha hxn (y := i) (by omega)
                  omega)
                rw [← hm.out] at hb2'
                have hwj := wl_bound hv ha hxn hjn
                obtain ⟨b2, o2, rfl, _, q1, d1, hc2, hi⟩ := hxr.get (j := k) o1
                have hrl := (hv.2.2 k o1).1
                obtain ⟨b3, o3, rfl, _, hc3⟩ := hi.get (j := j) (by omega)
                have hc4 := hi.at (j := x) (by omega)
                have hr1 := (hv.2.2 k o1).2 j hjn
                have hr2 := (hv.2.2 k o1).2 x hxn
                rw [Hwl.out j] at HS hwj
                have hk5 : (j : Int) < (rget v k).length := by omega
                have hk6 : (x : Int) < (rget v k).length := by omega
                have Hcall := Lib.hid hcall
                clear hcall hrl hm
                obtain ⟨R, hR⟩ : ∃ R, lnk (wl v a) v.length f (sb.set x true) j y = R := ⟨_, rfl⟩
                rw [hR] at HS hb1' Hcall
                clear hR
                obtain ⟨y1, hy1⟩ : ∃ y1, iget (rget v k) j = y1 := ⟨_, rfl⟩
                rw [hy1] at HS hwj hc3 hr1
                clear hy1
                obtain ⟨y2, hy2⟩ : ∃ y2, iget (rget v k) x = y2 := ⟨_, rfl⟩
                rw [hy2] at HS hwj hc4 hr2
                clear hy2
                rw [hbj'] at hcj
                go_wp2_with fail
                go_quiet ((go_at_call 47; exact Calls.quiet_of (Hcall.out _)))
                cases fd with
                | false =>
                  go_wp2_with fail
                  go_roundw
                  case rel => exact ⟨j + 1, by omega, by go_num, ⟨_, true, rfl, rfl, by rw [HS.out, if_pos (.inl rfl)]; rfl⟩, drew_drewN _ Hw.out⟩
                  case measure => simp [intOf]; omega
                | true =>
                  go_wp2_with fail
                  · have hgt : m < y1 - y2 + R := by assumption
                    go_roundw
                    case rel => exact ⟨j + 1, by omega, by go_num, ⟨_, true, rfl, rfl, by rw [HS.out, if_pos (.inr hgt)]; rfl⟩, drew_drewN _ Hw.out⟩
                    case measure => simp [intOf]; omega
                  · have hgt : y1 - y2 + R ≤ m := by assumption
                    go_roundw
                    case rel => exact ⟨j + 1, by omega, by go_num, ⟨m, true, rfl, rfl, by rw [HS.out, if_neg (fun h => h.elim (fun e => by cases e) (fun h => by omega))]; rfl⟩, drew_drewN _ Hw.out⟩
                    case measure => simp [intOf]; omega
            · have hj1 : ¬ (j : Int) < v.length := by omega
              obtain rfl : j = v.length := by omega
              obtain ⟨g', hge, _, _, hcx2, hfx2⟩ := hOr.get (j := x) (by rw [List.length_set, Hsb.out]; exact hxn)
              obtain rfl : g' = g := by cases hge; rfl
              go_wp2_with fail
              go_ret
              refine ⟨ret_int ?_, ?_⟩
              · rw [HL.out, ← hm.out]
              · obtain ⟨N, rfl⟩ := Hw.out
                refine ⟨N, ?_⟩
                have h1 := Hback.out
                rw [← Hw1.out] at h1
                rw [show (w1.drewN N).setCell ⟨g', x, none⟩ (.bool false) = (w1.setCell ⟨g', x, none⟩ (.bool false)).drewN N from rfl, h1]
        · have hne : (iget a k != (x : Int)) = true := by rw [bne_iff_ne]; exact Hne.out k (by omega) hko
          go_wp2_with fail
          go_round
          case rel => exact ⟨k + 1, by omega, by go_num⟩
          case measure => simp [intOf]; omega
end Go.Proofs.Ytojldecldemfaaa
