/- The walks of Proves (the program's and the reference's); no condition but the list's size. -/
import Derived.Test.YtjjbeccimeehfaaAsksA
namespace Go.Proofs.Ytjjbeccimeehfaa
set_option linter.unusedSimpArgs false
open Go.ChangeShapes Go.WideShapes Go.ChangeAt Go.RowKit Go.Deep
set_option linter.unusedVariables false

def oddPrice (x : Int) : Bool := decide (x < 0 ∨ 10000000 < x)
theorem enter_oddPrice (args : Array Value) (W : World) : (callFunc 40 args).run Try.prog W = .ok (.enter 40 args) W := by kernel_rfl
set_option maxHeartbeats 400000 in
theorem oddPrice_any (x : Int) (w : World) (hx : in64 x) : Calls Try.prog 40 #[.int .i64 x] w fun e w' => e = .returned (.bool (oddPrice x)) ∧ w' = w := by
  obtain ⟨h1, h2⟩ := hx
  by_cases hlow : x < 0
  · have hd : decide (x < 0) = true := by simpa using hlow
    go_enter Try.func40, Try.ntmps40
    go_wp2_with fail
    go_ret
    exact ⟨ret_bool (by simp [oddPrice, hlow]), rfl⟩
  · have hd : decide (x < 0) = false := by simpa using hlow
    go_enter Try.func40, Try.ntmps40
    go_wp2_with fail
    go_ret
    exact ⟨ret_bool (by unfold oddPrice; rw [Bool.eq_iff_iff, decide_eq_true_iff, decide_eq_true_iff]; omega), rfl⟩
theorem oddPrice_none {xs : List Int} {n : Nat} (hn : xs.length = n) (h : anyB oddPrice xs = false) : PricedP xs n := by
  refine ⟨hn, fun j hj => ?_⟩
  unfold anyB at h
  rw [List.any_eq_false] at h
  have := h _ (iget_mem hj)
  simp [oddPrice] at this
  omega
theorem oddPrice_some {xs : List Int} {n : Nat} (h : anyB oddPrice xs = true) : ¬ PricedP xs n := by
  unfold anyB at h
  obtain ⟨x, hx, hp⟩ := List.any_eq_true.1 h
  intro hP
  obtain ⟨j, hj, rfl⟩ := List.getElem_of_mem hx
  have := hP.2 j hj
  rw [iget_of hj] at this
  simp [oddPrice] at hp
  omega

/-- What Proves answers. -/
def prvB (v : List (List Int)) (a p : List Int) : Bool := decide (Bids v ∧ IsA a v.length ∧ PricedP p v.length ∧ ContentP v a p)
def prvE (v : List (List Int)) (a p : List Int) : Int := if Bids v then (if IsA a v.length ∧ PricedP p v.length then 0 else 8) else chkI v
theorem prvB_bad {v : List (List Int)} {a p : List Int} (hv : ¬ Bids v) : prvB v a p = false ∧ prvE v a p = chkI v := ⟨by unfold prvB; rw [decide_eq_false_iff_not]; exact fun h => hv h.1, by unfold prvE; rw [if_neg hv]⟩
theorem prvB_off {v : List (List Int)} {a p : List Int} (hv : Bids v) (h : ¬ (IsA a v.length ∧ PricedP p v.length)) : prvB v a p = false ∧ prvE v a p = 8 :=
  ⟨by unfold prvB; rw [decide_eq_false_iff_not]; exact fun hh => h ⟨hh.2.1, hh.2.2.1⟩, by unfold prvE; rw [if_pos hv, if_neg h]⟩
theorem prvB_on {v : List (List Int)} {a p : List Int} (hv : Bids v) (h : IsA a v.length ∧ PricedP p v.length) : prvB v a p = contentB v a p ∧ prvE v a p = 0 :=
  ⟨by unfold prvB contentB; exact dec_congr ⟨fun hh => hh.2.2.2, fun hh => ⟨hv, h.1, h.2, hh⟩⟩, by unfold prvE; rw [if_pos hv, if_pos h]⟩
theorem contentB_true {v : List (List Int)} {a p : List Int} (h : ContentP v a p) : contentB v a p = true := by simp [contentB, h]
theorem fits2_of {v : List (List Int)} {a p : List Int} (hv : Bids v) (hA : IsA a v.length) (hP : PricedP p v.length) : Fits2 v a p :=
  ⟨fun i hi => (hv.2.2 i hi).1, hA.1, hP.1, fun i hi => isA_lt hA i hi, fun i hi j hj => (hv.2.2 i hi).2 j hj, fun j hj => hP.2 j (by rw [hP.1]; exact hj)⟩

set_option maxHeartbeats 4000000 in
theorem proves_on (p q r : Option Addr) (c d f : Nat) (v : List (List Int)) (a pr : List Int) (w : World) (hx : Mat w p c v) (hy : Ints w q d a) (hz : Ints w r f pr) (hl : a.length ≤ 1000000) (hv : Bids v) (hA : IsA a v.length) (hpl : pr.length = v.length) (hany : anyB oddPrice pr = false) :
    Calls Try.prog 24 #[.slice p v.length c, .slice q a.length d, .slice r pr.length f] w fun e w' => e = .returned (.tuple #[.bool (prvB v a pr), .int .i64 (prvE v a pr)]) ∧ Below w.heap.size w w' := by
  have hl1 := hx.length_le
  have hl2 := hz.length_le
  have hc := chkI_bids hv
  have hcz : (chkI v != 0) = false := by rw [hc]; rfl
  clear hc
  have hab : isAB a v.length = true := isAB_true hA
  have hne : ((pr.length : Int) != v.length) = false := by simp [hpl]
  have hP := oddPrice_none hpl hany
  obtain ⟨E1, E2⟩ := prvB_on hv ⟨hA, hP⟩
  have H1 := Lib.hid E1
  have H2 := Lib.hid E2
  have H3 := Lib.hid hany
  have HF := Lib.hid (fits2_of hv hA hP)
  have Hal := Lib.hid hA.1
  have Hpl := Lib.hid hpl
  clear E1 E2 hA hany hP hpl
  go_enter Try.func24, Try.ntmps24
  go_wp2_with fail
  refine (check_any p c v w hx).mono ?_
  rintro e w' ⟨rfl, rfl⟩
  go_wp2_with fail
  refine (assignment_any q d a v.length w' hl1 hy hl).mono ?_
  rintro e w1 ⟨rfl, hb⟩
  rw [hab]
  go_wp2_with fail
  refine (containsFunc_any _ oddPrice enter_oddPrice oddPrice_any r f pr w1 (hz.below hb (Nat.le_refl _))).mono ?_
  rintro e w2 ⟨rfl, rfl⟩
  rw [H3.out]
  have hx := hx.below hb (Nat.le_refl _)
  have hy := hy.below hb (Nat.le_refl _)
  have hz := hz.below hb (Nat.le_refl _)
  go_wp2_with fail
  go_loopw [37] (fun i wr => ∃ k : Nat, k ≤ a.length ∧ i = .int .i64 k ∧ Hid (∀ i, i < k → ∀ j, j < v.length → bid v i j - iget pr j ≤ bid v i (itm a i) - iget pr (itm a i)) ∧ ∃ n, wr = w2.drewN n) (fun i _ => a.length - (intOf i).toNat)
  case atStart => exact ⟨0, by omega, rfl, fun j hj => by omega, drew_refl w2⟩
  case round =>
    obtain ⟨k, hk, rfl, ht, hw⟩ := hrel
    by_cases hlt : k < a.length
    · have hk1 : (k : Int) < a.length := by omega
      have hltv : k < v.length := by have := Hal.out; omega
      have hy := hy.drew hw
      obtain ⟨bq, oq, rfl, _, hcq⟩ := hy.get hlt
      obtain ⟨i1, i2⟩ := HF.out.item k hltv
      obtain ⟨x, hxx⟩ : ∃ x : Nat, iget a k = (x : Int) := ⟨(iget a k).toNat, by omega⟩
      have hit : itm a k = x := by simp [itm, hxx]
      rw [hxx] at hcq
      rw [hit] at i2
      have Hit := Lib.hid hit
      have Hw := Lib.hid hw
      clear hw hxx hit i1
      go_wp2_with fail
      go_loopw [44] (fun i wr => ∃ j : Nat, j ≤ pr.length ∧ i = .int .i64 j ∧ Hid (∀ i, i < j → bid v k i - iget pr i ≤ bid v k (itm a k) - iget pr (itm a k)) ∧ ∃ n, wr = w2.drewN n) (fun i _ => pr.length - (intOf i).toNat)
      case atStart => exact ⟨0, by omega, rfl, fun j hj => by omega, Hw.out⟩
      case round =>
        obtain ⟨j, hj, rfl, htj, hw⟩ := hrel
        have hx := hx.drew hw
        have hz := hz.drew hw
        have Hw := Lib.hid hw
        clear hw
        by_cases hlt2 : j < pr.length
        · have hk2 : (j : Int) < pr.length := by omega
          have hj2 : j < v.length := by have := Hpl.out; omega
          have e3 := HF.out.rows k hltv
          obtain ⟨b2, o2, rfl, _, q1, d1, hc2, hi⟩ := hx.get hltv
          obtain ⟨b3, o3, rfl, _, hc3⟩ := hz.get (j := j) (by omega)
          have hc4 := hz.at (j := x) (by have := Hpl.out; omega)
          obtain ⟨b5, o5, rfl, _, hc5⟩ := hi.get (j := j) (by omega)
          have hc6 := hi.at (j := x) (by omega)
          have Hg1 : Hid (iget (rget v k) j = bid v k j) := rfl
          have Hg2 : Hid (iget (rget v k) x = bid v k x) := rfl
          have r1 := HF.out.val k hltv j hj2
          have r2 := HF.out.val k hltv x i2
          have r3 := HF.out.price j hj2
          have r4 := HF.out.price x i2
          rw [Hg1.out] at hc5
          rw [Hg2.out] at hc6
          have hk3 : (x : Int) < (rget v k).length := by omega
          have hk4 : (x : Int) < pr.length := by have := Hpl.out; omega
          have hk7 : (j : Int) < (rget v k).length := by omega
          have hk8 : (k : Int) < v.length := by omega
          clear e3 Hg1 Hg2
          generalize e1 : bid v k j = y1 at *
          generalize e2 : bid v k x = y2 at *
          generalize e3 : iget pr j = y3 at *
          generalize e4 : iget pr x = y4 at *
          have E1 := Lib.hid e1
          have E2 := Lib.hid e2
          have E3 := Lib.hid e3
          have E4 := Lib.hid e4
          clear e1 e2 e3 e4
          go_wp2_with fail
          go_quiet (fail)
          go_wp2
          · have hgt : y2 - y4 < y1 - y3 := by assumption
            go_ret2
            rw [H1.out, H2.out, contentB_false (fun hP => by
              have := hP k hltv j hj2
              rw [Hit.out, E1.out, E2.out, E3.out, E4.out] at this
              omega)]
            exact ⟨rfl, hb.drewP (drew_drewN _ Hw.out)⟩
          · have hgt : y1 - y3 ≤ y2 - y4 := by assumption
            go_roundw
            case rel => exact ⟨j + 1, by omega, by go_num, snoc_all' htj.out (by rw [Hit.out, E1.out, E2.out, E3.out, E4.out]; exact hgt), drew_drewN _ Hw.out⟩
            case measure => simp [intOf]; omega
        · have hk2 : ¬ (j : Int) < pr.length := by omega
          go_wp2_with fail
          go_roundw
          case rel => exact ⟨k + 1, by omega, by go_num, snoc_all' ht.out (fun i hi => htj.out i (by have := Hpl.out; omega)), Hw.out⟩
          case measure => simp [intOf]; omega
    · have hk1 : ¬ (k : Int) < a.length := by omega
      go_wp2_with fail
      go_ret2
      rw [H1.out, H2.out, contentB_true (fun i hi => ht.out i (by have := Hal.out; omega))]
      exact ⟨rfl, hb.drewP hw⟩

set_option maxHeartbeats 1600000 in
theorem proves_any (p q r : Option Addr) (c d f : Nat) (v : List (List Int)) (a pr : List Int) (w : World) (hx : Mat w p c v) (hy : Ints w q d a) (hz : Ints w r f pr) (hl : a.length ≤ 1000000) :
    Calls Try.prog 24 #[.slice p v.length c, .slice q a.length d, .slice r pr.length f] w fun e w' => e = .returned (.tuple #[.bool (prvB v a pr), .int .i64 (prvE v a pr)]) ∧ Below w.heap.size w w' := by
  have hl1 := hx.length_le
  have hl2 := hz.length_le
  have hcf := enter_oddPrice
  by_cases hv : Bids v
  · have hc := chkI_bids hv
    have hcz : (chkI v != 0) = false := by rw [hc]; rfl
    clear hc
    by_cases hA : IsA a v.length
    · have hab : isAB a v.length = true := isAB_true hA
      by_cases hpl : pr.length = v.length
      · have hne : ((pr.length : Int) != v.length) = false := by simp [hpl]
        cases hany : anyB oddPrice pr with
        | true =>
          obtain ⟨E1, E2⟩ := prvB_off hv (fun h => oddPrice_some hany h.2 : ¬ (IsA a v.length ∧ PricedP pr v.length))
          have H1 := Lib.hid E1
          have H2 := Lib.hid E2
          have H3 := Lib.hid hany
          have H4 := Lib.hid hpl
          clear E1 E2 hA hany hpl
          go_enter Try.func24, Try.ntmps24
          go_wp2_with fail
          refine (check_any p c v w hx).mono ?_
          rintro e w' ⟨rfl, rfl⟩
          go_wp2_with fail
          refine (assignment_any q d a v.length w' hl1 hy hl).mono ?_
          rintro e w1 ⟨rfl, hb⟩
          rw [hab]
          go_wp2_with fail
          refine (containsFunc_any _ oddPrice hcf oddPrice_any r f pr w1 (hz.below hb (Nat.le_refl _))).mono ?_
          rintro e w2 ⟨rfl, rfl⟩
          rw [H3.out]
          go_wp2_with fail
          go_ret2
          rw [H1.out, H2.out]
          exact ⟨rfl, hb⟩
        | false => exact proves_on p q r c d f v a pr w hx hy hz hl hv hA hpl hany
      · have hne : ((pr.length : Int) != v.length) = true := by rw [bne_iff_ne]; omega
        obtain ⟨E1, E2⟩ := prvB_off hv (fun h => hpl h.2.1 : ¬ (IsA a v.length ∧ PricedP pr v.length))
        have H1 := Lib.hid E1
        have H2 := Lib.hid E2
        have H4 := Lib.hid hpl
        clear E1 E2 hA hpl
        go_enter Try.func24, Try.ntmps24
        go_wp2_with fail
        refine (check_any p c v w hx).mono ?_
        rintro e w' ⟨rfl, rfl⟩
        go_wp2_with fail
        refine (assignment_any q d a v.length w' hl1 hy hl).mono ?_
        rintro e w1 ⟨rfl, hb⟩
        rw [hab]
        go_wp2_with fail
        go_ret2
        rw [H1.out, H2.out]
        exact ⟨rfl, hb⟩
    · have hab : isAB a v.length = false := isAB_false hA
      obtain ⟨E1, E2⟩ := prvB_off hv (fun h => hA h.1 : ¬ (IsA a v.length ∧ PricedP pr v.length))
      have H1 := Lib.hid E1
      have H2 := Lib.hid E2
      clear E1 E2 hA
      go_enter Try.func24, Try.ntmps24
      go_wp2_with fail
      refine (check_any p c v w hx).mono ?_
      rintro e w' ⟨rfl, rfl⟩
      go_wp2_with fail
      refine (assignment_any q d a v.length w' hl1 hy hl).mono ?_
      rintro e w1 ⟨rfl, hb⟩
      rw [hab]
      go_wp2_with fail
      go_ret2
      rw [H1.out, H2.out]
      exact ⟨rfl, hb⟩
  · have hcz : (chkI v != 0) = true := by rw [bne_iff_ne]; exact fun h => hv (chkI_zero.1 h)
    obtain ⟨E1, E2⟩ := prvB_bad (a := a) (p := pr) hv
    have H1 := Lib.hid E1
    have H2 := Lib.hid E2
    clear E1 E2
    go_enter Try.func24, Try.ntmps24
    go_wp2_with fail
    refine (check_any p c v w hx).mono ?_
    rintro e w' ⟨rfl, rfl⟩
    go_wp2_with fail
    go_ret2
    rw [H1.out, H2.out]
    exact ⟨rfl, Below.refl _ _⟩

set_option maxHeartbeats 1600000 in
theorem refProves_any (p q r : Option Addr) (c d f : Nat) (v : List (List Int)) (a pr : List Int) (w : World) (hx : Mat w p c v) (hy : Ints w q d a) (hz : Ints w r f pr) :
    Calls Try.prog 25 #[.slice p v.length c, .slice q a.length d, .slice r pr.length f] w fun e w' => e = .returned (.tuple #[.bool (prvB v a pr), .int .i64 (prvE v a pr)]) ∧ ∃ n, w' = w.drewN n := by
  have hl1 := hx.length_le
  by_cases hv : Bids v
  · have hc := chkI_bids hv
    have hcz : (chkI v != 0) = false := by rw [hc]; rfl
    clear hc
    by_cases hA : IsA a v.length
    · have hab : isAB a v.length = true := isAB_true hA
      by_cases hP : PricedP pr v.length
      · have hpb : pricedB pr v.length = true := by simp [pricedB, hP]
        obtain ⟨E1, E2⟩ := prvB_on hv ⟨hA, hP⟩
        have H1 := Lib.hid E1
        have H2 := Lib.hid E2
        have HF := Lib.hid (fits2_of hv hA hP)
        clear E1 E2 hA hP
        go_enter Try.func25, Try.ntmps25
        go_wp2_with fail
        refine (refCheck_any p c v w hx).mono ?_
        rintro e w' ⟨rfl, rfl⟩
        go_wp2_with fail
        refine (assigned_any q d a v.length w' hl1 hy).mono ?_
        rintro e w1 ⟨rfl, rfl⟩
        rw [hab]
        go_wp2_with fail
        refine (priced_any r f pr v.length w1 hz).mono ?_
        rintro e w2 ⟨rfl, rfl⟩
        rw [hpb]
        go_wp2_with fail
        refine (content_any _ _ _ _ _ _ _ _ _ _ hx hy hz HF.out).mono ?_
        rintro e w3 ⟨rfl, hw⟩
        go_wp2_with fail
        go_ret2
        rw [H1.out, H2.out]
        exact ⟨rfl, hw⟩
      · have hpb : pricedB pr v.length = false := pricedB_false hP
        obtain ⟨E1, E2⟩ := prvB_off hv (fun h => hP h.2 : ¬ (IsA a v.length ∧ PricedP pr v.length))
        have H1 := Lib.hid E1
        have H2 := Lib.hid E2
        clear E1 E2 hA hP
        go_enter Try.func25, Try.ntmps25
        go_wp2_with fail
        refine (refCheck_any p c v w hx).mono ?_
        rintro e w' ⟨rfl, rfl⟩
        go_wp2_with fail
        refine (assigned_any q d a v.length w' hl1 hy).mono ?_
        rintro e w1 ⟨rfl, rfl⟩
        rw [hab]
        go_wp2_with fail
        refine (priced_any r f pr v.length w1 hz).mono ?_
        rintro e w2 ⟨rfl, rfl⟩
        rw [hpb]
        go_wp2_with fail
        go_ret2
        rw [H1.out, H2.out]
        exact ⟨rfl, drew_refl _⟩
    · have hab : isAB a v.length = false := isAB_false hA
      obtain ⟨E1, E2⟩ := prvB_off hv (fun h => hA h.1 : ¬ (IsA a v.length ∧ PricedP pr v.length))
      have H1 := Lib.hid E1
      have H2 := Lib.hid E2
      clear E1 E2 hA
      go_enter Try.func25, Try.ntmps25
      go_wp2_with fail
      refine (refCheck_any p c v w hx).mono ?_
      rintro e w' ⟨rfl, rfl⟩
      go_wp2_with fail
      refine (assigned_any q d a v.length w' hl1 hy).mono ?_
      rintro e w1 ⟨rfl, rfl⟩
      rw [hab]
      go_wp2_with fail
      go_ret2
      rw [H1.out, H2.out]
      exact ⟨rfl, drew_refl _⟩
  · have hcz : (chkI v != 0) = true := by rw [bne_iff_ne]; exact fun h => hv (chkI_zero.1 h)
    obtain ⟨E1, E2⟩ := prvB_bad (a := a) (p := pr) hv
    have H1 := Lib.hid E1
    have H2 := Lib.hid E2
    clear E1 E2
    go_enter Try.func25, Try.ntmps25
    go_wp2_with (go_at_call 19; refine (refCheck_any p c v _ hx).mono ?_; rintro e w' ⟨rfl, rfl⟩)
    go_ret2
    rw [H1.out, H2.out]
    exact ⟨rfl, drew_refl _⟩

end Go.Proofs.Ytjjbeccimeehfaa
