/- The walks of room.Check and the reference's Check, of slices.Index and room.gcd, of the reference's Great and Same; no condition but sizes. -/
import Derived.Test.YtojldecldemfaaaAssignB
import Derived.Test.YtojldecldemfaaaRefB
namespace Go.Proofs.Ytojldecldemfaaa
set_option linter.unusedVariables false
set_option linter.unusedSimpArgs false
open Go.ChangeShapes Go.WideShapes Go.ChangeAt Go.RowKit Go.Deep

/-- What Check answers of a flat. -/
def chkR (v : List (List Int)) (r : Int) : Int := if Bids v then (if 0 ≤ r ∧ r ≤ 10000000 then 0 else 8) else chkI v
theorem chkR_bad {v : List (List Int)} {r : Int} (hv : ¬ Bids v) : chkR v r = chkI v := by unfold chkR; rw [if_neg hv]
theorem chkR_off {v : List (List Int)} {r : Int} (hv : Bids v) (h : ¬ (0 ≤ r ∧ r ≤ 10000000)) : chkR v r = 8 := by unfold chkR; rw [if_pos hv, if_neg h]
theorem chkR_ok {v : List (List Int)} {r : Int} (hv : Bids v) (h : 0 ≤ r ∧ r ≤ 10000000) : chkR v r = 0 := by unfold chkR; rw [if_pos hv, if_pos h]
theorem chkR_zero {v : List (List Int)} {r : Int} : chkR v r = 0 ↔ Bids v ∧ 0 ≤ r ∧ r ≤ 10000000 := by
  constructor
  · intro h
    by_cases hv : Bids v
    · by_cases hr : 0 ≤ r ∧ r ≤ 10000000
      · exact ⟨hv, hr⟩
      · rw [chkR_off hv hr] at h; cases h
    · rw [chkR_bad hv] at h; exact absurd (chkI_zero.1 h) hv
  · rintro ⟨h1, h2⟩; exact chkR_ok h1 h2

set_option maxHeartbeats 800000 in
theorem roomCheck_any (p : Option Addr) (c : Nat) (v : List (List Int)) (r : Int) (w : World) (hx : Mat w p c v) :
    Calls Try.prog 17 #[.agg #[.slice p v.length c, .int .i64 r]] w fun e w' => e = .returned (.int .i64 (chkR v r)) ∧ Below w.heap.size w w' := by
  have hb : Below w.heap.size w (w.alloc (.cells #[.slice p v.length c, .int .i64 r] 24)) := (Below.refl _ _).alloc (Nat.le_refl _) _
  have hx1 := hx.below hb (Nat.le_refl _)
  by_cases hv : Bids v
  · have hcz : (chkI v != 0) = false := by rw [chkI_bids hv]; rfl
    have Hv := Lib.hid hv
    clear hv
    by_cases hlow : r < 0
    · have hdl : decide (r < 0) = true := by simpa using hlow
      go_enter Try.func17, Try.ntmps17
      go_wp2_with fail
      refine (check_any p c v _ hx1).mono ?_
      rintro e w' ⟨rfl, rfl⟩
      go_wp2_with fail
      go_ret
      exact ⟨ret_int (chkR_off Hv.out (by omega)).symm, hb⟩
    · have hdl : decide (r < 0) = false := by simpa using hlow
      go_enter Try.func17, Try.ntmps17
      go_wp2_with fail
      refine (check_any p c v _ hx1).mono ?_
      rintro e w' ⟨rfl, rfl⟩
      go_wp2_with fail
      · have hgt : 10000000 < r := by assumption
        go_ret
        exact ⟨ret_int (chkR_off Hv.out (by omega)).symm, hb⟩
      · have hgt : r ≤ 10000000 := by assumption
        go_ret
        exact ⟨ret_int (chkR_ok Hv.out ⟨by omega, hgt⟩).symm, hb⟩
  · have hcz : (chkI v != 0) = true := by rw [bne_iff_ne]; exact fun h => hv (chkI_zero.1 h)
    have Hv := Lib.hid hv
    clear hv
    go_enter Try.func17, Try.ntmps17
    go_wp2_with fail
    refine (check_any p c v _ hx1).mono ?_
    rintro e w' ⟨rfl, rfl⟩
    go_wp2_with fail
    go_ret
    exact ⟨ret_int (chkR_bad Hv.out).symm, hb⟩

set_option maxHeartbeats 800000 in
theorem refCheckR_any (p : Option Addr) (c : Nat) (v : List (List Int)) (r : Int) (w : World) (hx : Mat w p c v) :
    Calls Try.prog 18 #[.agg #[.slice p v.length c, .int .i64 r]] w fun e w' => e = .returned (.int .i64 (chkR v r)) ∧ Below w.heap.size w w' := by
  have hb : Below w.heap.size w (w.alloc (.cells #[.slice p v.length c, .int .i64 r] 24)) := (Below.refl _ _).alloc (Nat.le_refl _) _
  have hx1 := hx.below hb (Nat.le_refl _)
  by_cases hv : Bids v
  · have hcz : (chkI v != 0) = false := by rw [chkI_bids hv]; rfl
    have Hv := Lib.hid hv
    clear hv
    by_cases hlow : r < 0
    · have hdl : decide (r < 0) = true := by simpa using hlow
      go_enter Try.func18, Try.ntmps18
      go_wp2_with fail
      refine (refCheck_any p c v _ hx1).mono ?_
      rintro e w' ⟨rfl, rfl⟩
      go_wp2_with fail
      go_ret
      exact ⟨ret_int (chkR_off Hv.out (by omega)).symm, hb⟩
    · have hdl : decide (r < 0) = false := by simpa using hlow
      go_enter Try.func18, Try.ntmps18
      go_wp2_with fail
      refine (refCheck_any p c v _ hx1).mono ?_
      rintro e w' ⟨rfl, rfl⟩
      go_wp2_with fail
      · have hgt : 10000000 < r := by assumption
        go_ret
        exact ⟨ret_int (chkR_off Hv.out (by omega)).symm, hb⟩
      · have hgt : r ≤ 10000000 := by assumption
        go_ret
        exact ⟨ret_int (chkR_ok Hv.out ⟨by omega, hgt⟩).symm, hb⟩
  · have hcz : (chkI v != 0) = true := by rw [bne_iff_ne]; exact fun h => hv (chkI_zero.1 h)
    have Hv := Lib.hid hv
    clear hv
    go_enter Try.func18, Try.ntmps18
    go_wp2_with fail
    refine (refCheck_any p c v _ hx1).mono ?_
    rintro e w' ⟨rfl, rfl⟩
    go_wp2_with fail
    refine (refCheck_any p c v _ hx1).mono ?_
    rintro e w' ⟨rfl, rfl⟩
    go_wp2_with fail
    go_ret
    exact ⟨ret_int (chkR_bad Hv.out).symm, hb⟩

set_option maxHeartbeats 400000 in
/-- slices.Index where the number is there: its first place. -/
theorem index_of (p : Option Addr) (c : Nat) (xs : List Int) (x : Int) (k : Nat) (w : World) (hx : Ints w p c xs) (hk : k < xs.length) (hxk : iget xs k = x) (hne : Hid (∀ j, j ≤ k → j ≠ k → iget xs j ≠ x)) :
    Calls Try.prog 46 #[.slice p xs.length c, .int .i64 x] w fun e w' => e = .returned (.int .i64 k) ∧ w' = w := by
  have hl1 := hx.length_le
  have Hxk := Lib.hid hxk
  clear hxk
  go_enter Try.func46, Try.ntmps46
  go_wp2_with fail
  go_loop [8] (fun t => ∃ m : Nat, m ≤ k ∧ t = .int .i64 m) (fun t => k - (intOf t).toNat)
  case atStart => exact ⟨0, Nat.zero_le _, rfl⟩
  case round =>
    obtain ⟨m, hm, rfl⟩ := hrel
    obtain ⟨b, o, rfl, _, hc⟩ := hx.get (j := m) (by omega)
    have hm1 : (m : Int) < xs.length := by omega
    by_cases e : m = k
    · have he : (x == iget xs m) = true := by rw [e, Hxk.out]; simp
      obtain rfl : m = k := e
      go_wp2_with fail
      go_ret
      exact ⟨rfl, rfl⟩
    · have he : (x == iget xs m) = false := by rw [beq_eq_false_iff_ne]; exact fun h => hne.out m hm e h.symm
      go_wp2_with fail
      go_round
      case rel => exact ⟨m + 1, by omega, by go_num⟩
      case measure => simp [intOf]; omega

set_option maxHeartbeats 400000 in
theorem roomGcd_any (a b : Nat) (w : World) (ha : a ≤ 4611686018427387904) (hb : b ≤ 4611686018427387904) :
    Calls Try.prog 42 #[.int .i64 a, .int .i64 b] w fun e w' => e = .returned (.int .i64 (Nat.gcd a b : Nat)) ∧ ∃ n, w' = w.drewN n := by
  go_enter Try.func42, Try.ntmps42
  go_wp2_with fail
  go_loopw [0, 1] (fun s t wr => ∃ x y : Nat, s = .int .i64 x ∧ t = .int .i64 y ∧ Hid (Nat.gcd x y = Nat.gcd a b) ∧ x ≤ 4611686018427387904 ∧ y ≤ 4611686018427387904 ∧ ∃ n, wr = w.drewN n) (fun _ t _ => (intOf t).toNat)
  case atStart => exact ⟨a, b, rfl, rfl, rfl, ha, hb, drew_refl w⟩
  case round =>
    obtain ⟨x, y, rfl, rfl, hg, hx, hy, hw⟩ := hrel
    have Hw := Lib.hid hw
    clear hw
    by_cases h0 : y = 0
    · have hz : ((y : Int) != 0) = false := by simp [h0]
      have H0 := Lib.hid h0
      clear h0
      go_wp2_with fail
      go_ret
      exact ⟨ret_int (by rw [← hg.out, H0.out, Nat.gcd_zero_right]), Hw.out⟩
    · have hz : ((y : Int) != 0) = true := by rw [bne_iff_ne]; omega
      have hy0 : (0 : Int) < y := by omega
      have hx0 : (0 : Int) ≤ x := by omega
      have hlt := Nat.mod_lt x (by omega : y > 0)
      have hdv : ((x : Int)).tmod y = ((x % y : Nat) : Int) := by rw [Int.tmod_eq_emod_of_nonneg hx0]; omega
      go_wp2_with fail
      go_quiet (fail)
      go_wp2_with fail
      go_roundw
      case rel => exact ⟨y, x % y, rfl, by congr 1, by unfold Hid; rw [Nat.gcd_comm, ← Nat.gcd_rec, Nat.gcd_comm]; exact hg.out, hy, by omega, drew_drewN _ Hw.out⟩
      case measure => simp only [intOf]; omega

/-- Larger than the statements consider. -/
def greatL (v : List (List Int)) (xs ys : List Int) : Bool := decide (GreatP v ∨ 50 < xs.length ∨ 50 < ys.length)
theorem greatL_true {v : List (List Int)} {xs ys : List Int} (h : GreatP v ∨ 50 < xs.length ∨ 50 < ys.length) : greatL v xs ys = true := by simp [greatL, h]
theorem greatL_false {v : List (List Int)} {xs ys : List Int} (h : ¬ (GreatP v ∨ 50 < xs.length ∨ 50 < ys.length)) : greatL v xs ys = false := by unfold greatL; rw [decide_eq_false_iff_not]; exact h

set_option maxHeartbeats 800000 in
theorem greatR_any (p q s : Option Addr) (c d f : Nat) (v : List (List Int)) (r : Int) (xs ys : List Int) (z : Int) (w : World) (hx : Mat w p c v) :
    Calls Try.prog 9 #[.agg #[.slice p v.length c, .int .i64 r], .agg #[.slice q xs.length d, .slice s ys.length f, .int .i64 z]] w fun e w' => e = .returned (.bool (greatL v xs ys)) ∧ Below w.heap.size w w' := by
  have hb : Below w.heap.size w ((w.alloc (.cells #[.slice p v.length c, .int .i64 r] 24)).alloc (.cells #[.slice q xs.length d, .slice s ys.length f, .int .i64 z] 28)) := ((Below.refl _ _).alloc (Nat.le_refl _) _).alloc (by simp) _
  have hx1 := hx.below hb (Nat.le_refl _)
  by_cases hG : GreatP v
  · have hg : greatB v = true := by simp [greatB, hG]
    have HG := Lib.hid (greatL_true (xs := xs) (ys := ys) (.inl hG))
    clear hG
    go_enter Try.func9, Try.ntmps9
    go_wp2_with fail
    refine (great_any p c v _ hx1).mono ?_
    rintro e w' ⟨rfl, rfl⟩
    rw [hg]
    go_wp2_with fail
    go_ret
    exact ⟨ret_bool HG.out.symm, hb⟩
  · have hg : greatB v = false := by simp [greatB, hG]
    by_cases hl : 50 < xs.length
    · have hl1 : decide (50 < (xs.length : Int)) = true := by simp; omega
      have HG := Lib.hid (greatL_true (v := v) (ys := ys) (.inr (.inl hl)))
      clear hG hl
      go_enter Try.func9, Try.ntmps9
      go_wp2_with fail
      refine (great_any p c v _ hx1).mono ?_
      rintro e w' ⟨rfl, rfl⟩
      rw [hg]
      go_wp2_with fail
      go_ret
      exact ⟨ret_bool HG.out.symm, hb⟩
    · have hl1 : decide (50 < (xs.length : Int)) = false := by simp; omega
      have HG : Hid (greatL v xs ys = decide (50 < (ys.length : Int))) := by
        unfold Hid greatL
        refine dec_congr ⟨fun h => ?_, fun h => .inr (.inr (by omega))⟩
        rcases h with h | h | h
        · exact absurd h hG
        · exact absurd h hl
        · omega
      clear hG hl
      go_enter Try.func9, Try.ntmps9
      go_wp2_with fail
      refine (great_any p c v _ hx1).mono ?_
      rintro e w' ⟨rfl, rfl⟩
      rw [hg]
      go_wp2_with fail
      go_ret
      exact ⟨ret_bool HG.out.symm, hb⟩

/-- Equal lists, laid twice. -/
theorem sameI_true {p q : Option Addr} {c d n m : Nat} {xs ys : List Int} {w : World} (hn : xs.length = n) (hm : ys.length = m) (e : xs = ys) (hx : Ints w p c xs) (hy : Ints w q d ys) :
    Calls Try.prog 27 #[.slice p n c, .slice q m d] w fun e w' => e = .returned (.bool true) ∧ ∃ n, w' = w.drewN n := by
  subst hn hm e
  refine (same_any p q c d xs xs w hx hy).mono ?_
  rintro e w' ⟨he, hw⟩
  exact ⟨by rw [he, sameB_true rfl], hw⟩
theorem sameM_true {p q : Option Addr} {c d n m : Nat} {u v : List (List Int)} {w : World} (hn : u.length = n) (hm : v.length = m) (e : u = v) (hx : Mat w p c u) (hy : Mat w q d v) :
    Calls Try.prog 20 #[.slice p n c, .slice q m d] w fun e w' => e = .returned (.bool true) ∧ ∃ n, w' = w.drewN n := by
  subst hn hm e
  refine (sameLists_any p q c d u u w hx hy).mono ?_
  rintro e w' ⟨he, hw⟩
  exact ⟨by rw [he]; simp [sameLB], hw⟩
/-- A lease's value. -/
def leaseV (p q : Option Addr) (n c m d : Nat) (z : Int) : Value := .agg #[.slice p n c, .slice q m d, .int .i64 z]
set_option maxHeartbeats 800000 in
theorem sameLease_true {p q p' q' : Option Addr} {c d c' d' n m n' m' : Nat} {xs ys xs' ys' : List Int} {z z' : Int} {w : World} (hn : xs.length = n) (hm : ys.length = m) (hn' : xs'.length = n') (hm' : ys'.length = m') (hz : z = z') (ex : xs = xs') (ey : ys = ys')
    (hx : Ints w p c xs) (hy : Ints w q d ys) (hx' : Ints w p' c' xs') (hy' : Ints w q' d' ys') :
    Calls Try.prog 19 #[.agg #[.slice p n c, .slice q m d, .int .i64 z], .agg #[.slice p' n' c', .slice q' m' d', .int .i64 z']] w fun e w' => e = .returned (.bool true) ∧ Below w.heap.size w w' := by
  have hb : Below w.heap.size w ((w.alloc (.cells #[.slice p n c, .slice q m d, .int .i64 z] 28)).alloc (.cells #[.slice p' n' c', .slice q' m' d', .int .i64 z'] 28)) := ((Below.refl _ _).alloc (Nat.le_refl _) _).alloc (by simp) _
  have h1 := hx.below hb (Nat.le_refl _)
  have h2 := hy.below hb (Nat.le_refl _)
  have h3 := hx'.below hb (Nat.le_refl _)
  have h4 := hy'.below hb (Nat.le_refl _)
  subst hz
  have hzz : (z == z) = true := by simp
  have Hn := Lib.hid hn
  have Hm := Lib.hid hm
  have Hn' := Lib.hid hn'
  have Hm' := Lib.hid hm'
  have Ex := Lib.hid ex
  have Ey := Lib.hid ey
  clear hn hm hn' hm' ex ey
  go_enter Try.func19, Try.ntmps19
  go_wp2_with fail
  refine (sameI_true Hn.out Hn'.out Ex.out h1 h3).mono ?_
  rintro e wa ⟨rfl, hw⟩
  have hc1 := (hb.drewP hw)
  have h2 := h2.drew hw
  have h4 := h4.drew hw
  obtain ⟨N, rfl⟩ := hw
  go_wp2_with fail
  refine (sameI_true Hm.out Hm'.out Ey.out h2 h4).mono ?_
  rintro e wb ⟨rfl, hw2⟩
  go_wp2_with fail
  go_ret
  exact ⟨rfl, hc1.drewP hw2⟩
end Go.Proofs.Ytojldecldemfaaa
