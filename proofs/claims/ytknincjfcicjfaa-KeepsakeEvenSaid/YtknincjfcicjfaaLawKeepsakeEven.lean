/- The walk of the law KeepsakeEven: for every allocation, order and rankings it returns true, and changes nothing that was there.  (Printed by wip/genkeven.py.) -/
import Derived.Test.YtknincjfcicjfaaAlive29
import Derived.Test.YtknincjfcicjfaaKeepJ
import Derived.Test.YtknincjfcicjfaaMkI
import Derived.BigQuiet
namespace Go.Proofs.Ytknincjfcicjfaa
set_option linter.unusedVariables false
set_option linter.unusedSimpArgs false
open Go.ChangeShapes Go.WideShapes Go.ChangeAt Go.RowKit Go.Deep

/-- What each agent got of the first k items. -/
def gotR (a b : List Int) (n k : Nat) : List Int := (List.range n).map fun (i : Nat) => gotP a b (i : Int) k
theorem gotR_len (a b : List Int) (n k : Nat) : (gotR a b n k).length = n := by simp [gotR]
theorem gotR_get {a b : List Int} {n k i : Nat} (h : i < n) : iget (gotR a b n k) i = gotP a b (i : Int) k := by simp [gotR, iget, h]
theorem gotR_zero (a b : List Int) (n : Nat) : gotR a b n 0 = List.replicate n 0 := by
  refine eq_iget (by simp [gotR]) fun j hj => ?_
  rw [gotR_len] at hj
  rw [gotR_get hj]
  simp [iget, hj, gotP, sumTo]
theorem gotR_hold {a b : List Int} {n k : Nat} (h : ¬ iget a k < 0) : gotR a b n (k + 1) = gotR a b n k := by
  refine eq_iget (by simp [gotR]) fun j hj => ?_
  rw [gotR_len] at hj
  rw [gotR_get hj, gotR_get hj, gotP_succ, if_neg (fun hc => h hc.1)]; omega
theorem gotR_more {a b : List Int} {n k i : Nat} (h : iget a k < 0) (hb : iget b k = (i : Int)) (hi : i < n) : gotR a b n (k + 1) = (gotR a b n k).set i (gotP a b (i : Int) k + 1) := by
  refine eq_iget (by simp [gotR]) fun j hj => ?_
  rw [gotR_len] at hj
  rw [gotR_get hj, iget_set (by rw [gotR_len]; exact hi), gotR_get hj, gotP_succ]
  by_cases e : i = j
  · subst e; rw [if_pos ⟨h, hb⟩, if_pos rfl]
  · rw [if_neg (fun hc => e (by omega)), if_neg e]; omega

set_option maxHeartbeats 4000000 in
set_option maxRecDepth 100000 in
theorem keepsakeEven_early (pa : Option Addr) (ca : Nat) (a : List Int) (po : Option Addr) (co : Nat) (o : List Int) (p : Option Addr) (c : Nat) (v : List (List Int)) (w : World) (ha : Ints w pa ca a) (ho : Ints w po co o) (hx : Mat w p c v) (hN : GreatK a v ∨ ¬ Lkd a v ∨ ¬ IsA o v.length) :
    Calls Try.prog 5 #[.slice pa a.length ca, .slice po o.length co, .slice p v.length c] w fun e w' => e = .returned (.bool true) ∧ Below w.heap.size w w' := by
  have hG := fun W h1 h2 => great29_any pa ca a p c v W (h1 : Ints W pa ca a) (h2 : Mat W p c v)
  have hlv := hx.length_le
  by_cases hgr : GreatK a v
  · rw [decide_eq_true hgr] at hG
    have HG := Lib.hid hG
    clear hgr hG hN
    go_enter Try.func5, Try.ntmps5
    go_wp2_with fail
    refine (alive29_any _).mono ?_
    rintro e w1 ⟨rfl, hb⟩
    go_wp2_with fail
    refine (HG.out _ (ha.below hb (Nat.le_refl _)) (hx.below hb (Nat.le_refl _))).mono ?_
    rintro e w2 ⟨rfl, rfl⟩
    go_wp2_with fail
    go_ret
    exact ⟨rfl, hb⟩
  rw [decide_eq_false hgr] at hG
  have HG := Lib.hid hG
  have hC := fun W h1 h2 => ref29Looked_any pa ca a p c v W (h1 : Ints W pa ca a) (h2 : Mat W p c v)
  by_cases hL : ¬ Lkd a v
  · have h0 : lkdI a v ≠ 0 := fun h => hL (lkdI_zero.1 h)
    obtain ⟨k, hk⟩ : ∃ k, lkdI a v = k := ⟨_, rfl⟩
    rw [hk] at hC h0
    have hd : (k != 0) = true := by rw [bne_iff_ne]; exact h0
    have HC := Lib.hid hC
    clear hC hgr hG hN hL h0 hk
    go_enter Try.func5, Try.ntmps5
    go_wp2_with fail
    refine (alive29_any _).mono ?_
    rintro e w1 ⟨rfl, hb⟩
    replace ha := ha.below hb (Nat.le_refl _)
    replace hx := hx.below hb (Nat.le_refl _)
    go_wp2_with fail
    refine (HG.out _ ha hx).mono ?_
    rintro e w2 ⟨rfl, rfl⟩
    go_wp2_with fail
    refine (HC.out _ ha hx).mono ?_
    rintro e w3 ⟨rfl, n, rfl⟩
    go_wp2_with fail
    go_ret
    exact ⟨rfl, hb.drewN' _⟩
  have hL2 := Classical.not_not.1 hL
  have hO := kAB_false (show ¬ IsA o v.length by rcases hN with h | h | h; exact absurd h hgr; exact absurd hL2 h; exact h)
  rw [lkdI_zero.2 hL2] at hC
  have hOO := fun W (h : Ints W po co o) => order29_any po co o v.length W hlv h
  rw [hO] at hOO
  have HC := Lib.hid hC
  have HO := Lib.hid hOO
  clear hC hgr hG hN hL hL2 hO hOO
  go_enter Try.func5, Try.ntmps5
  go_wp2_with fail
  refine (alive29_any _).mono ?_
  rintro e w1 ⟨rfl, hb⟩
  replace ha := ha.below hb (Nat.le_refl _)
  replace ho := ho.below hb (Nat.le_refl _)
  replace hx := hx.below hb (Nat.le_refl _)
  go_wp2_with fail
  refine (HG.out _ ha hx).mono ?_
  rintro e w2 ⟨rfl, rfl⟩
  go_wp2_with fail
  refine (HC.out _ ha hx).mono ?_
  rintro e w3 ⟨rfl, n, rfl⟩
  go_wp2_with fail
  refine (HO.out _ (ho.drewN _)).mono ?_
  rintro e w4 ⟨rfl, rfl⟩
  go_wp2_with fail
  go_ret
  exact ⟨rfl, hb.drewN' _⟩

set_option maxHeartbeats 4000000 in
set_option maxRecDepth 100000 in
theorem keepsakeEven_main (pa : Option Addr) (ca : Nat) (a : List Int) (po : Option Addr) (co : Nat) (o : List Int) (p : Option Addr) (c : Nat) (v : List (List Int)) (w : World) (ha : Ints w pa ca a) (ho : Ints w po co o) (hx : Mat w p c v) (hgr : ¬ GreatK a v) (hL : Lkd a v) (hA : IsA o v.length) :
    Calls Try.prog 5 #[.slice pa a.length ca, .slice po o.length co, .slice p v.length c] w fun e w' => e = .returned (.bool true) ∧ Below w.heap.size w w' := by
  have hG := fun W h1 h2 => great29_any pa ca a p c v W (h1 : Ints W pa ca a) (h2 : Mat W p c v)
  have hC := fun W h1 h2 => ref29Looked_any pa ca a p c v W (h1 : Ints W pa ca a) (h2 : Mat W p c v)
  rw [decide_eq_false hgr] at hG
  rw [lkdI_zero.2 hL] at hC
  have hlv := hx.length_le
  have hOO := fun W (h : Ints W po co o) => order29_any po co o v.length W hlv h
  rw [kAB_true hA] at hOO
  have hn6 := hL.1
  have hn30 := hL.2.1
  have hol := hA.1
  have hrl : Hid (∀ i, i < v.length → (rget v i).length ≤ 1000000) := fun i hi => by have := (hL.2.2.2.1 i hi).1; have := hL.2.1; omega
  have hT := fun W h1 h2 h3 => keepTurns_any pa ca a po co o p c v W (h1 : Ints W pa ca a) (h2 : Ints W po co o) (h3 : Mat W p c v) hrl (by omega)
  have e1 : trnsL a o v = trnL a o v := by unfold trnsL; rw [if_pos ⟨hL, hA⟩]
  have e2 : trnE a o v = 0 := by unfold trnE; rw [if_pos hL, if_pos hA]
  rw [e1, e2] at hT
  have hOk := trnOk hL hA
  obtain ⟨b, hbL⟩ : ∃ b, trnL a o v = b := ⟨_, rfl⟩
  rw [hbL] at hT hOk
  have hlen := hOk.len
  have hv0 : 0 < v.length := hL.2.2.1
  have HG := Lib.hid hG
  have HC := Lib.hid hC
  have HO := Lib.hid hOO
  have HT := Lib.hid hT
  have HK := Lib.hid hOk
  have Hlen := Lib.hid hlen
  have HA := Lib.hid hA
  have HiA := Lib.hid hL.2.2.2.1
  have hla := ha.length_le
  have hlo := ho.length_le
  have Hol := Lib.hid hol
  have hB : Below w.heap.size w w := Below.refl _ _
  clear hG hC hT hOO hOk hlen hL hA hgr e1 e2 hbL hol
  go_enter Try.func5, Try.ntmps5
  go_wp2_with fail
  refine (alive29_any _).mono ?_
  rintro e w1 ⟨rfl, hb⟩
  replace ha := ha.below hb (Nat.le_refl _)
  replace ho := ho.below hb (Nat.le_refl _)
  replace hx := hx.below hb (Nat.le_refl _)
  replace hB := hB.trans (hb.mono hB.size)
  clear hb
  go_wp2_with fail
  refine (HG.out _ ha hx).mono ?_
  rintro e w2 ⟨rfl, rfl⟩
  go_wp2_with fail
  refine (HC.out _ ha hx).mono ?_
  rintro e w3 ⟨rfl, n3, hw3⟩
  have hb : Below w2.heap.size w2 w3 := by rw [hw3]; exact below_drewN _ _ _
  replace ha := ha.below hb (Nat.le_refl _)
  replace ho := ho.below hb (Nat.le_refl _)
  replace hx := hx.below hb (Nat.le_refl _)
  replace hB := hB.trans (hb.mono hB.size)
  clear hb hw3
  go_wp2_with fail
  refine (HO.out _ ho).mono ?_
  rintro e w4 ⟨rfl, rfl⟩
  go_wp2_with fail
  refine (HT.out _ ha ho hx).mono ?_
  rintro e w5 ⟨pb, cb, rfl, ob, hb⟩
  rw [Hlen.out]
  replace ha := ha.below hb (Nat.le_refl _)
  replace ho := ho.below hb (Nat.le_refl _)
  replace hx := hx.below hb (Nat.le_refl _)
  replace hB := hB.trans (hb.mono hB.size)
  have ib := ob.ints
  clear hb ob
  go_wp2_with (at_make; refine wpList_mk rfl (.tmp 57) (.tmp 57) rfl w5.heap.size v.length rfl rfl (by omega) (Nat.le_refl _) ?_; intro w6 hO6 hg6 hs6)
  have hb6 : Below w5.heap.size w5 w6 := (Below.refl w5.heap.size w5).grown hg6 (Nat.le_refl _) (fun k e => by cases e)
  rw [← gotR_zero a b v.length] at hO6
  have hG0 := Nat.le_refl w5.heap.size
  clear hg6 hs6
  go_wp2_with fail
  go_loopw [11] (fun s wr => ∃ k : Nat, k ≤ a.length ∧ s = .int .i64 k ∧ Own wr w5.heap.size (some ⟨w5.heap.size, 0, none⟩) v.length (gotR a b v.length k) ∧ Below w5.heap.size w5 wr) (fun s _ => a.length - (intOf s).toNat)
  case atStart => exact ⟨0, Nat.zero_le _, rfl, hO6, hb6⟩
  case round =>
    clear hO6 hb6
    obtain ⟨k, hk, rfl, hO, hBr⟩ := hrel
    have har := ha.below hBr hG0
    have hbr := ib.below hBr hG0
    by_cases hlt : k < a.length
    · have hk1 : (k : Int) < a.length := by omega
      obtain ⟨y1, y2⟩ := HK.out.own k hlt
      have hkeep := HK.out.keep k hlt
      obtain ⟨ba, oa, rfl, _, hca⟩ := har.get hlt
      obtain ⟨bb, obb, rfl, _, hcb⟩ := hbr.get (j := k) (by rw [Hlen.out]; exact hlt)
      obtain ⟨i, hib⟩ : ∃ i : Nat, iget b k = i := ⟨(iget b k).toNat, by omega⟩
      have HM := Lib.hid (fun h : iget a k < 0 => gotR_more (n := v.length) h hib (by omega))
      have HH := Lib.hid (fun h : ¬ iget a k < 0 => gotR_hold (b := b) (n := v.length) h)
      have hil : i < v.length := by omega
      obtain ⟨q1, q2⟩ := gotP_bd a b (i : Int) k
      rw [hib] at hcb hkeep
      obtain ⟨za, hza⟩ : ∃ z, iget a k = z := ⟨_, rfl⟩
      rw [hza] at hca hkeep HM HH
      have d1 : decide ((i : Int) < 0) = false := by rw [decide_eq_false_iff_not]; omega
      have d2 : decide ((v.length : Int) ≤ i) = false := by rw [decide_eq_false_iff_not]; omega
      have d3 : decide (v.length ≤ i) = false := by rw [decide_eq_false_iff_not]; omega
      have hil1 : (i : Int) < v.length := by omega
      clear hib hza y1 y2
      by_cases h0 : 0 ≤ za
      · have d4 : decide (0 ≤ za) = true := decide_eq_true h0
        have d5 : (za != (i : Int)) = false := by rw [bne_eq_false_iff_eq]; exact (hkeep h0).symm
        have d6 : decide (za < 0) = false := by rw [decide_eq_false_iff_not]; omega
        have HR := Lib.hid (HH.out (by omega))
        clear hkeep h0
        go_wp2_with fail
        go_quiet (fail)
        go_wp2_with fail
        go_roundw
        case rel => exact ⟨k + 1, by omega, by go_num, by rw [HR.out]; exact hO.drewN _, hBr.drewN' _⟩
        case measure => (simp [intOf] <;> omega)
      · have d4 : decide (0 ≤ za) = false := decide_eq_false h0
        have d6 : decide (za < 0) = true := by rw [decide_eq_true_iff]; omega
        have HR := Lib.hid (HM.out (by omega))
        have hcg := hO.at (j := i) (by rw [gotR_len]; exact hil)
        rw [gotR_get hil] at hcg
        have hfg := hO.free i
        obtain ⟨z, hz⟩ : ∃ z, gotP a b (i : Int) k = z := ⟨_, rfl⟩
        rw [hz] at hcg q1 q2 HR
        have hO2 := Lib.hid ((hO.drewN 0).set i (x := z + 1) ⟨by omega, by omega⟩).1
        have HS := Lib.hid (fun N => ((hO.drewN N).set i (x := z + 1) ⟨by omega, by omega⟩).1)
        clear hkeep h0 hz hO2
        go_wp2_with fail
        go_quiet (fail)
        go_wp2_with fail
        go_roundw
        case rel => exact ⟨k + 1, by omega, by go_num, by rw [HR.out]; exact HS.out _, (hBr.drewN' _).setCell (p := ⟨w5.heap.size, i, none⟩) (Nat.le_refl _) _⟩
        case measure => (simp [intOf] <;> omega)
    · have hk1 : ¬ (k : Int) < a.length := by omega
      obtain rfl : k = a.length := by omega
      have har2 := har
      have hor := ho.below hBr hG0
      have hxr := hx.below hBr hG0
      have HI := Lib.hid hO
      have hBw : Below w.heap.size w wr := hB.trans (hBr.mono hB.size)
      clear hO hBr har ha ho hx ib hB
      obtain ⟨wo, rfl⟩ : ∃ wo : World, wo = wr := ⟨_, rfl⟩
      go_wp2_with fail
      go_loopw [12] (fun s wk => ∃ i : Nat, 1 ≤ i ∧ (i ≤ o.length) ∧ s = .int .i64 i ∧ ∃ N, wk = wo.drewN N) (fun s _ => o.length - (intOf s).toNat)
      case atStart => exact ⟨1, Nat.le_refl _, by have := Hol.out; omega, rfl, 0, rfl⟩
      case round =>
        obtain ⟨i, hi1, hi2, rfl, N, rfl⟩ := hrel
        by_cases hlt : i < o.length
        · have hlo1 : (i : Int) < o.length := by omega
          have hvo : i < v.length := by have := Hol.out; omega
          obtain ⟨c1, c2⟩ := HK.out.down (i - 1) i (by omega) hlt
          obtain ⟨c3, c4⟩ := HK.out.down 0 i (by omega) hlt
          obtain ⟨bo, oo, rfl, _, ho1⟩ := hor.get (j := i - 1) (by omega)
          have ho2 := hor.at hlt
          have ho0 := hor.at (j := 0) (by omega)
          rw [Nat.add_zero] at ho0
          obtain ⟨r1, r2⟩ := isA_lt HA.out (i - 1) (by omega)
          obtain ⟨r3, r4⟩ := isA_lt HA.out i hvo
          obtain ⟨r5, r6⟩ := isA_lt HA.out 0 (by omega)
          have e1 : iget o (i - 1) = (itm o (i - 1) : Nat) := by unfold itm; omega
          have e2 : iget o i = (itm o i : Nat) := by unfold itm; omega
          have e3 : iget o 0 = (itm o 0 : Nat) := by unfold itm; omega
          rw [e1] at ho1 c1 c2
          rw [e2] at ho2 c1 c2 c3 c4
          rw [e3] at ho0 c3 c4
          have hg1 := HI.out.at (j := itm o (i - 1)) (by rw [gotR_len]; exact r2)
          have hg2 := HI.out.at (j := itm o i) (by rw [gotR_len]; exact r4)
          have hg3 := HI.out.at (j := itm o 0) (by rw [gotR_len]; exact r6)
          rw [gotR_get r2] at hg1
          rw [gotR_get r4] at hg2
          rw [gotR_get r6] at hg3
          have b1 := gotP_bd a b ((itm o (i - 1) : Nat) : Int) a.length
          have b2 := gotP_bd a b ((itm o i : Nat) : Int) a.length
          have b3 := gotP_bd a b ((itm o 0 : Nat) : Int) a.length
          obtain ⟨x, hx'⟩ : ∃ z, gotP a b ((itm o (i - 1) : Nat) : Int) a.length = z := ⟨_, rfl⟩
          obtain ⟨y, hy'⟩ : ∃ z, gotP a b ((itm o i : Nat) : Int) a.length = z := ⟨_, rfl⟩
          obtain ⟨z, hz'⟩ : ∃ z, gotP a b ((itm o 0 : Nat) : Int) a.length = z := ⟨_, rfl⟩
          rw [hx'] at c1 c2 b1 hg1
          rw [hy'] at c1 c2 c3 c4 b2 hg2
          rw [hz'] at c3 c4 b3 hg3
          obtain ⟨u, hu⟩ : ∃ u, itm o (i - 1) = u := ⟨_, rfl⟩
          obtain ⟨t, ht⟩ : ∃ u, itm o i = u := ⟨_, rfl⟩
          obtain ⟨s, hs⟩ : ∃ u, itm o 0 = u := ⟨_, rfl⟩
          rw [hu] at ho1 r2 hg1
          rw [ht] at ho2 r4 hg2
          rw [hs] at ho0 r6 hg3
          obtain ⟨im, rfl⟩ : ∃ im, i = im + 1 := ⟨i - 1, by omega⟩
          rw [show im + 1 - 1 = im by omega] at ho1
          have f1 : decide (x < y) = false := by rw [decide_eq_false_iff_not]; omega
          have f2 : decide (y + 1 < z) = false := by rw [decide_eq_false_iff_not]; omega
          have t1 : (u : Int) < v.length := by omega
          have t2 : (t : Int) < v.length := by omega
          have t3 : (s : Int) < v.length := by omega
          have t4 : (im : Int) < o.length := by omega
          have t5 : (im : Int) + 1 < o.length := by omega
          have t6 : (0 : Int) < o.length := by omega
          have s1 : ((im : Int) + 1) - 1 = im := by omega
          have s2 : IntKind.i64.wrap (((im : Int) + 1) - 1) = im := by rw [s1]; exact IntWalk.i64_in _ (by omega)
          have s3 : IntKind.i64.wrap (((im + 1 : Nat) : Int) - 1) = im := by rw [show ((im + 1 : Nat) : Int) - 1 = im by omega]; exact IntWalk.i64_in _ (by omega)
          clear hu ht hs hx' hy' hz' e1 e2 e3 r1 r3 r5 c1 c2 c3 c4
          go_wp2_with fail
          go_quiet (fail)
          go_wp2_with fail
          go_roundw
          case rel => exact ⟨im + 1 + 1, by omega, by omega, by go_num, _, rfl⟩
          case measure => (simp [intOf] <;> omega)
        · have hlo1 : ¬ (i : Int) < o.length := by omega
          have hor' := hor.drewN N
          have har' := har2.drewN N
          have hxr' := hxr.drewN N
          have hbr' := hbr.drewN N
          have hBw' := hBw.drewN' N
          obtain ⟨wt, hwt⟩ : ∃ W : World, wo.drewN N = W := ⟨_, rfl⟩
          rw [hwt] at hor' har' hxr' hbr' hBw' ⊢
          clear hwt hbr hBw har2 hor hxr HI
          go_wp2_with fail
          go_loop [15] (fun s => ∃ k : Nat, k ≤ a.length ∧ s = .int .i64 k ∧ Hid (∀ j, j < k → ¬ iget a (itm (rget v (itm o 0)) j) < 0)) (fun s => a.length - (intOf s).toNat)
          case atStart => exact ⟨0, Nat.zero_le _, rfl, fun j hj => absurd hj (Nat.not_lt_zero j)⟩
          case round =>
            obtain ⟨k, hk, rfl, hq⟩ := hrel
            by_cases hlt3 : k < a.length
            · have hk1 : (k : Int) < a.length := by omega
              have hol' := Hol.out
              obtain ⟨bo, oo, rfl, _, ho0⟩ := hor'.get (j := 0) (by omega)
              rw [Nat.add_zero] at ho0
              obtain ⟨r5, r6⟩ := isA_lt HA.out 0 (by omega)
              have e3 : iget o 0 = (itm o 0 : Nat) := by unfold itm; omega
              have HF := Lib.hid (HK.out.first k hlt3 hq.out)
              rw [e3] at ho0 HF
              obtain ⟨s, hs⟩ : ∃ u, itm o 0 = u := ⟨_, rfl⟩
              rw [hs] at ho0 r6 HF hq
              have HqS : Hid (¬ iget a (itm (rget v s) k) < 0 → ∀ j, j < k + 1 → ¬ iget a (itm (rget v (itm o 0)) j) < 0) := by
                rw [hs]; exact fun h => snoc_all' hq.out h
              obtain ⟨bv, ov, rfl, _, q, d, hcr, hir⟩ := hxr'.get r6
              have hA2 := HiA.out s r6
              have hl2 := hA2.1
              obtain ⟨x0, x1⟩ := isA_lt hA2 k hlt3
              obtain ⟨br, orr, rfl, _, hck⟩ := hir.get (j := k) (by omega)
              obtain ⟨x, hxx⟩ : ∃ x, itm (rget v s) k = x := ⟨_, rfl⟩
              have hix : iget (rget v s) k = (x : Int) := by rw [← hxx]; unfold itm; omega
              rw [hix] at hck
              rw [hxx] at x1 HF HqS
              have hx1 : (x : Int) < a.length := by omega
              have hkr1 : (k : Int) < (rget v s).length := by omega
              have t3 : (s : Int) < v.length := by omega
              have t6 : (0 : Int) < o.length := by omega
              obtain ⟨ba, oa, rfl, _, hca⟩ := har'.get x1
              obtain ⟨bb, obb, rfl, _, hcb⟩ := hbr'.get (j := x) (by rw [Hlen.out]; exact x1)
              obtain ⟨za, hza⟩ : ∃ z, iget a x = z := ⟨_, rfl⟩
              rw [hza] at hca HF HqS
              have HA2 := Lib.hid hA2
              clear hxx hix x0 hza hs e3 r5 hA2 hl2 hol' hq
              by_cases hneg : za < 0
              · have d6 : decide (za < 0) = true := decide_eq_true hneg
                rw [HF.out hneg] at hcb
                have d7 : ((s : Int) == (s : Int)) = true := by simp
                clear hneg
                go_wp2_with fail
                go_ret
                exact ⟨rfl, hBw'⟩
              · have d6 : decide (za < 0) = false := decide_eq_false hneg
                have HQ := Lib.hid (HqS.out hneg)
                clear hneg
                go_wp2_with fail
                go_round
                case rel => exact ⟨k + 1, by omega, by go_num, HQ.out⟩
                case measure => (simp [intOf] <;> omega)
            · have hk1 : ¬ (k : Int) < a.length := by omega
              go_wp2_with fail
              go_ret
              exact ⟨rfl, hBw'⟩

theorem keepsakeEven_walk (pa : Option Addr) (ca : Nat) (a : List Int) (po : Option Addr) (co : Nat) (o : List Int) (p : Option Addr) (c : Nat) (v : List (List Int)) (w : World) (ha : Ints w pa ca a) (ho : Ints w po co o) (hx : Mat w p c v) : Calls Try.prog 5 #[.slice pa a.length ca, .slice po o.length co, .slice p v.length c] w fun e w' => e = .returned (.bool true) ∧ Below w.heap.size w w' := by
  by_cases hgr : GreatK a v
  · exact keepsakeEven_early pa ca a po co o p c v w ha ho hx (.inl hgr)
  · by_cases hL : Lkd a v
    · by_cases hA : IsA o v.length
      · exact keepsakeEven_main pa ca a po co o p c v w ha ho hx hgr hL hA
      · exact keepsakeEven_early pa ca a po co o p c v w ha ho hx (.inr (.inr hA))
    · exact keepsakeEven_early pa ca a po co o p c v w ha ho hx (.inr (.inl hL))
end Go.Proofs.Ytknincjfcicjfaa
