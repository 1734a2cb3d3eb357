/- The walks of goods.Check and of the reference's Check and Great, for every goods; no condition. -/
import Derived.Test.YtiohehofnlmenaaGoodsP
import Derived.Test.YtiohehofnlmenaaIdx
import Derived.Test.YtiohehofnlmenaaBoxB
namespace Go.Proofs.Ytiohehofnlmenaa
set_option linter.unusedVariables false
set_option linter.unusedSimpArgs false
open Go.ChangeShapes Go.WideShapes Go.ChangeAt Go.RowKit Go.Deep

def longRow (v : List (List Int)) (j : Nat) : Bool := decide (10 < (rget v j).length)
theorem enter_goodsCheck1 (args : Array Value) (W : World) : (callFunc 67 args).run Try.prog W = .ok (.enter 67 args) W := by kernel_rfl
theorem enter_goodsCheck2 (args : Array Value) (W : World) : (callFunc 68 args).run Try.prog W = .ok (.enter 68 args) W := by kernel_rfl
set_option maxHeartbeats 400000 in
theorem goodsCheck1_any (q : Option Addr) (n d : Nat) (w : World) : Calls Try.prog 67 #[.slice q n d] w fun e w' => e = .returned (.bool (decide (10 < n))) ∧ w' = w := by
  go_enter Try.func67, Try.ntmps67
  go_wp2
  go_ret
  exact ⟨ret_bool (by rw [Bool.eq_iff_iff, decide_eq_true_iff, decide_eq_true_iff]; omega), rfl⟩
def oddVal (x : Int) : Bool := decide (x < 0 ∨ 1000 < x)
set_option maxHeartbeats 400000 in
theorem oddVal_any (x : Int) (w : World) (hx : in64 x) : Calls Try.prog 68 #[.int .i64 x] w fun e w' => e = .returned (.bool (oddVal x)) ∧ w' = w := by
  obtain ⟨h1, h2⟩ := hx
  by_cases hlow : x < 0
  · have hd : decide (x < 0) = true := by simpa using hlow
    go_enter Try.func68, Try.ntmps68
    go_wp2_with fail
    go_ret
    exact ⟨ret_bool (by simp [oddVal, hlow]), rfl⟩
  · have hd : decide (x < 0) = false := by simpa using hlow
    go_enter Try.func68, Try.ntmps68
    go_wp2_with fail
    go_ret
    exact ⟨ret_bool (by unfold oddVal; rw [Bool.eq_iff_iff, decide_eq_true_iff, decide_eq_true_iff]; omega), rfl⟩
theorem oddVal_none {xs : List Int} (h : anyB oddVal xs = false) : ∀ j, j < xs.length → 0 ≤ iget xs j ∧ iget xs j ≤ 1000 := fun j hj => by
  unfold anyB at h
  rw [List.any_eq_false] at h
  have := h _ (iget_mem hj)
  simp [oddVal] at this
  omega
theorem oddVal_some {xs : List Int} (h : anyB oddVal xs = true) : ∃ j, j < xs.length ∧ ¬ (0 ≤ iget xs j ∧ iget xs j ≤ 1000) := by
  unfold anyB at h
  rw [List.any_eq_true] at h
  obtain ⟨x, hx, hp⟩ := h
  obtain ⟨j, hj, rfl⟩ := List.getElem_of_mem hx
  refine ⟨j, hj, ?_⟩
  rw [iget_of hj]
  simp [oddVal] at hp
  omega

set_option maxHeartbeats 2000000 in
theorem goodsCheck_any (p : Option Addr) (c : Nat) (v : List (List Int)) (w : World) (hx : Mat w p c v) :
    Calls Try.prog 45 #[.agg #[.slice p v.length c]] w fun e w' => e = .returned (.int .i64 (chkG v)) ∧ Below w.heap.size w w' := by
  obtain ⟨W0, hW0⟩ : ∃ W0, w.alloc (.cells #[.slice p v.length c] 24) = W0 := ⟨_, rfl⟩
  have hB : Below w.heap.size w W0 := below_alloc hW0
  have bX : BoxV W0 w.heap.size [.slice p v.length c] := BoxV.new rfl hW0
  have hx := hx.below hB (Nat.le_refl _)
  have x0 := bX.cell 0 _ rfl
  have HW0 := Lib.hid hW0
  clear hW0
  have hl1 := hx.length_le
  by_cases h6 : 6 < v.length
  · have hd : decide (6 < (v.length : Int)) = true := by simp; omega
    have H := Lib.hid (chkG_many (v := v) (.inl h6))
    go_enter Try.func45, Try.ntmps45
    go_wp2_with fail
    go_ret
    rw [HW0.out]
    exact ⟨ret_int H.out.symm, hB⟩
  · have hd : decide (6 < (v.length : Int)) = false := by simp; omega
    go_enter Try.func45, Try.ntmps45
    go_wp2_with fail
    rw [HW0.out]
    refine (containsFuncR_any 67 (longRow v) (fun W => W = W0) enter_goodsCheck1 p c v W0 rfl (fun W hW => by rw [hW]; exact hx) (fun j q d W hj hW hi => goodsCheck1_any _ _ _ _ |>.mono fun e w' h => ⟨h.1, h.2.trans hW⟩)).mono ?_
    rintro e w' ⟨rfl, rfl⟩
    cases hany : anyN (longRow v) v.length with
    | true =>
      have H := Lib.hid (chkG_many (v := v) (.inr fun h => by
        obtain ⟨j, hj, hp⟩ := anyN_true.1 hany
        have := h j hj
        simp [longRow] at hp; omega))
      clear hany
      go_wp2_with fail
      go_ret
      exact ⟨ret_int H.out.symm, hB⟩
    | false =>
      have hshort : Hid (∀ i, i < v.length → (rget v i).length ≤ 10) := fun i hi => by
        have := anyN_false.1 hany i hi
        simp [longRow] at this; exact this
      have hfew : Hid (¬ ManyG v) := fun h => by
        rcases h with h | h
        · exact h6 h
        · exact h hshort.out
      clear hany
      by_cases h0 : v.length = 0
      · have hb0 : ((v.length : Int) == 0) = true := by rw [beq_iff_eq]; omega
        have H := Lib.hid (chkG_bad (v := v) hfew.out (fun h => by have := h.1; omega))
        clear h0
        go_wp2_with fail
        go_ret
        exact ⟨ret_int H.out.symm, hB⟩
      · have hb0 : ((v.length : Int) == 0) = false := by rw [beq_eq_false_iff_ne]; omega
        obtain ⟨b, o, rfl, _, q0, d0, hc0, hi0⟩ := hx.get (j := 0) (by omega)
        rw [Nat.add_zero] at hc0
        go_wp2_with fail
        go_loop [22] (fun t => ∃ k : Nat, k ≤ v.length ∧ t = .int .i64 k ∧ Hid (∀ i, i < k → (rget v i).length = wid v ∧ ∀ j, j < (rget v i).length → 0 ≤ iget (rget v i) j ∧ iget (rget v i) j ≤ 1000)) (fun t => v.length - (intOf t).toNat)
        case atStart => exact ⟨0, Nat.zero_le _, rfl, fun j hj => absurd hj (Nat.not_lt_zero j)⟩
        case round =>
          obtain ⟨k, hk, rfl, ht⟩ := hrel
          by_cases hlt : k < v.length
          · obtain ⟨q, d, hc, hi⟩ := hx.at hlt
            have hk1 : (k : Int) < v.length := by omega
            by_cases hrl : (rget v k).length = (rget v 0).length
            · have hrb : (((rget v k).length : Int) != (rget v 0).length) = false := by simp [hrl]
              have Hrl : Hid ((rget v k).length = wid v) := hrl
              clear hrl
              go_wp2_with fail
              refine (containsFunc_any 68 oddVal enter_goodsCheck2 (fun x W => oddVal_any x W) _ _ _ _ hi).mono ?_
              rintro e w' ⟨rfl, rfl⟩
              cases hany : anyB oddVal (rget v k) with
              | true =>
                have Hany := Lib.hid hany
                clear hany
                go_wp2_with fail
                go_ret
                refine ⟨ret_int (chkG_bad (v := v) hfew.out fun hB => ?_).symm, hB⟩
                obtain ⟨j, hj, hn⟩ := oddVal_some Hany.out
                exact hn ((hB.2.2.2 k hlt).2 j hj)
              | false =>
                have Hany := Lib.hid hany
                clear hany
                go_wp2_with fail
                go_round
                case rel => exact ⟨k + 1, by omega, by go_num, snoc_all' ht.out ⟨Hrl.out, fun j hj => oddVal_none Hany.out j hj⟩⟩
                case measure => simp [intOf]; omega
            · have hrb : (((rget v k).length : Int) != (rget v 0).length) = true := by rw [bne_iff_ne]; omega
              have Hrl : Hid (¬ (rget v k).length = wid v) := hrl
              clear hrl
              go_wp2_with fail
              go_ret
              exact ⟨ret_int (chkG_bad (v := v) hfew.out fun hB => Hrl.out (hB.2.2.2 k hlt).1).symm, hB⟩
          · have hk1 : ¬ (k : Int) < v.length := by omega
            go_wp2_with fail
            go_ret
            exact ⟨ret_int (chkG_ok (v := v) ⟨by omega, by omega, hshort.out 0 (by omega), fun i hi => ht.out i (by omega)⟩).symm, hB⟩

set_option maxHeartbeats 4000000 in
set_option maxRecDepth 100000 in
theorem ref16Check_any (p : Option Addr) (c : Nat) (v : List (List Int)) (w : World) (hx : Mat w p c v) :
    Calls Try.prog 50 #[.agg #[.slice p v.length c]] w fun e w' => e = .returned (.int .i64 (chkG v)) ∧ Below w.heap.size w w' := by
  obtain ⟨W0, hW0⟩ : ∃ W0, w.alloc (.cells #[.slice p v.length c] 24) = W0 := ⟨_, rfl⟩
  have hB : Below w.heap.size w W0 := below_alloc hW0
  have bX : BoxV W0 w.heap.size [.slice p v.length c] := BoxV.new rfl hW0
  have hx := hx.below hB (Nat.le_refl _)
  have x0 := bX.cell 0 _ rfl
  have HW0 := Lib.hid hW0
  clear hW0
  have hl1 := hx.length_le
  by_cases h6 : 6 < v.length
  · have hd : decide (6 < (v.length : Int)) = true := by simp; omega
    have H := Lib.hid (chkG_many (v := v) (.inl h6))
    go_enter Try.func50, Try.ntmps50
    go_wp2_with fail
    go_ret
    rw [HW0.out]
    exact ⟨ret_int H.out.symm, hB⟩
  · have hd : decide (6 < (v.length : Int)) = false := by simp; omega
    go_enter Try.func50, Try.ntmps50
    go_wp2_with fail
    rw [HW0.out]
    go_loop [4] (fun t => ∃ k : Nat, k ≤ v.length ∧ t = .int .i64 k ∧ Hid (∀ i, i < k → (rget v i).length ≤ 10)) (fun t => v.length - (intOf t).toNat)
    case atStart => exact ⟨0, Nat.zero_le _, rfl, fun j hj => absurd hj (Nat.not_lt_zero j)⟩
    case round =>
      obtain ⟨k, hk, rfl, ht⟩ := hrel
      by_cases hlt : k < v.length
      · obtain ⟨b, o, rfl, _, q, d, hc, hi⟩ := hx.get hlt
        have hk1 : (k : Int) < v.length := by omega
        by_cases hlong : 10 < (rget v k).length
        · have hd1 : decide (10 < ((rget v k).length : Int)) = true := by simp; omega
          have H := Lib.hid (chkG_many (v := v) (.inr fun h => by have := h k hlt; omega))
          clear hlong
          go_wp2_with fail
          go_ret
          exact ⟨ret_int H.out.symm, hB⟩
        · have hd1 : decide (10 < ((rget v k).length : Int)) = false := by simp; omega
          have HL : Hid ((rget v k).length ≤ 10) := show _ ≤ _ by omega
          clear hlong
          go_wp2_with fail
          go_round
          case rel => exact ⟨k + 1, by omega, by go_num, snoc_all' ht.out HL.out⟩
          case measure => simp [intOf]; omega
      · have hk1 : ¬ (k : Int) < v.length := by omega
        have hshort : Hid (∀ i, i < v.length → (rget v i).length ≤ 10) := fun i hi => ht.out i (by omega)
        have hfew : Hid (¬ ManyG v) := fun h => by
          rcases h with h | h
          · exact h6 h
          · exact h hshort.out
        clear ht hk
        go_wp2_with fail
        go_loopw [5] (fun t wr => ∃ k : Nat, k ≤ v.length ∧ t = .int .i64 k ∧ Hid (∀ i, i < k → (rget v i).length = wid v ∧ ∀ j, j < (rget v i).length → 0 ≤ iget (rget v i) j ∧ iget (rget v i) j ≤ 1000) ∧ ∃ n, wr = W0.drewN n) (fun t _ => v.length - (intOf t).toNat)
        case atStart => exact ⟨0, Nat.zero_le _, rfl, (fun j hj => absurd hj (Nat.not_lt_zero j)), drew_refl _⟩
        case round =>
          obtain ⟨k, hk, rfl, ht, hw⟩ := hrel
          have hx := hx.drew hw
          have x0 : wr.cell? ⟨w.heap.size, 0, none⟩ = some (.slice p v.length c) := by obtain ⟨n, rfl⟩ := hw; exact x0
          have Hw := Lib.hid hw
          clear hw
          by_cases hlt : k < v.length
          · obtain ⟨b, o, rfl, _, q0, d0, hc0, hi0⟩ := hx.get (j := 0) (by omega)
            rw [Nat.add_zero] at hc0
            obtain ⟨q, d, hc, hi⟩ := hx.at hlt
            have hk1 : (k : Int) < v.length := by omega
            have hk2 : (0 : Int) < v.length := by omega
            by_cases hrl : (rget v k).length = (rget v 0).length
            · have hrb : (((rget v k).length : Int) != (rget v 0).length) = false := by simp [hrl]
              have Hrl : Hid ((rget v k).length = wid v) := hrl
              clear hrl
              go_wp2_with fail
              go_quiet (fail)
              go_wp2_with fail
              obtain ⟨wo, hwo⟩ : ∃ wo : World, wr.drewN nq = wo := ⟨_, rfl⟩
              have hx := hx.drew (w' := wo) ⟨nq, hwo.symm⟩
              have x0 : wo.cell? ⟨w.heap.size, 0, none⟩ = some (.slice (some ⟨b, o, none⟩) v.length c) := by rw [← hwo]; exact x0
              have hi := hi.drew (w' := wo) ⟨nq, hwo.symm⟩
              have hc : wo.cell? ⟨b, o + k, none⟩ = some (.slice q (rget v k).length d) := by rw [← hwo]; exact hc
              have Hwo : Hid (∃ n, wo = W0.drewN n) := by obtain ⟨m, hm⟩ := Hw.out; exact ⟨m + nq, by rw [← hwo, hm, World.drewN_drewN]⟩
              rw [hwo]
              clear hwo hc0 hi0
              have hl2 := hi.length_le
              go_loop [6] (fun t => ∃ m : Nat, m ≤ (rget v k).length ∧ t = .int .i64 m ∧ Hid (∀ j, j < m → 0 ≤ iget (rget v k) j ∧ iget (rget v k) j ≤ 1000)) (fun t => (rget v k).length - (intOf t).toNat)
              case atStart => exact ⟨0, Nat.zero_le _, rfl, fun j hj => absurd hj (Nat.not_lt_zero j)⟩
              case round =>
                obtain ⟨m, hm, rfl, hs⟩ := hrel
                by_cases hml : m < (rget v k).length
                · obtain ⟨b2, o2, rfl, _, hc2⟩ := hi.get hml
                  have hm1 : (m : Int) < (rget v k).length := by omega
                  by_cases hlow : iget (rget v k) m < 0
                  · have hdl : decide (iget (rget v k) m < 0) = true := by simpa using hlow
                    have H := Lib.hid (chkG_bad (v := v) hfew.out fun hG => by have := ((hG.2.2.2 k hlt).2 m hml).1; omega)
                    clear hlow
                    go_wp2_with fail
                    go_ret
                    exact ⟨ret_int H.out.symm, hB.drewP Hwo.out⟩
                  · have hdl : decide (iget (rget v k) m < 0) = false := by simpa using hlow
                    by_cases hhi : 1000 < iget (rget v k) m
                    · have hdh : decide (1000 < iget (rget v k) m) = true := by simpa using hhi
                      have H := Lib.hid (chkG_bad (v := v) hfew.out fun hG => by have := ((hG.2.2.2 k hlt).2 m hml).2; omega)
                      clear hlow hhi
                      go_wp2_with fail
                      go_ret
                      exact ⟨ret_int H.out.symm, hB.drewP Hwo.out⟩
                    · have hdh : decide (1000 < iget (rget v k) m) = false := by simpa using hhi
                      have HP : Hid (0 ≤ iget (rget v k) m ∧ iget (rget v k) m ≤ 1000) := show _ ∧ _ by omega
                      clear hlow hhi
                      go_wp2_with fail
                      go_round
                      case rel => exact ⟨m + 1, by omega, by go_num, snoc_all' hs.out HP.out⟩
                      case measure => simp [intOf]; omega
                · have hm1 : ¬ (m : Int) < (rget v k).length := by omega
                  have HS : Hid (∀ j, j < (rget v k).length → 0 ≤ iget (rget v k) j ∧ iget (rget v k) j ≤ 1000) := fun j hj => hs.out j (by omega)
                  clear hs hm
                  go_wp2_with fail
                  go_roundw
                  case rel => exact ⟨k + 1, by omega, by go_num, snoc_all' ht.out ⟨Hrl.out, HS.out⟩, Hwo.out⟩
                  case measure => simp [intOf]; omega
            · have hrb : (((rget v k).length : Int) != (rget v 0).length) = true := by rw [bne_iff_ne]; omega
              have Hrl : Hid (¬ (rget v k).length = wid v) := hrl
              clear hrl
              go_wp2_with fail
              go_quiet (fail)
              go_wp2_with fail
              go_ret
              exact ⟨ret_int (chkG_bad (v := v) hfew.out fun hB => Hrl.out (hB.2.2.2 k hlt).1).symm, (hB.drewP Hw.out).drewN' _⟩
          · have hk1 : ¬ (k : Int) < v.length := by omega
            by_cases h0 : v.length < 1
            · have hb0 : decide ((v.length : Int) < 1) = true := by simp; omega
              have H := Lib.hid (chkG_bad (v := v) hfew.out (fun h => by have := h.1; omega))
              go_wp2_with fail
              go_ret
              exact ⟨ret_int H.out.symm, hB.drewP Hw.out⟩
            · have hb0 : decide ((v.length : Int) < 1) = false := by simp; omega
              have H := Lib.hid (chkG_ok (v := v) ⟨by omega, by omega, hshort.out 0 (by omega), fun i hi => ht.out i (by omega)⟩)
              go_wp2_with fail
              go_ret
              exact ⟨ret_int H.out.symm, hB.drewP Hw.out⟩
end Go.Proofs.Ytiohehofnlmenaa
