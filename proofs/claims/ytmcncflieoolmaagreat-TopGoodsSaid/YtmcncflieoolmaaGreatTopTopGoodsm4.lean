/- The walks of goods.Check and of the reference's Check and Great, for every goods; no condition. -/
import Derived.Test.YtmcncflieoolmaaGreatTopTopGoodsm1
import Derived.Test.YtmcncflieoolmaaGreatTopTopGoodsm3
import Derived.Test.YtmcncflieoolmaaGreatTopTopGoodsm2
/- The walks of goods.Check and of the reference's Check and Great, for every goods; no condition. -/
namespace Go.Proofs.YtmcncflieoolmaaGreat
set_option linter.unusedVariables false
set_option linter.unusedSimpArgs false
open Go.ChangeShapes Go.WideShapes Go.ChangeAt Go.RowKit Go.Deep

def longRow (v : List (List Int)) (j : Nat) : Bool := decide (10 < (rget v j).length)
theorem enter_goodsCheck1 (args : Array Value) (W : World) : (callFunc 61 args).run Tryz.prog W = .ok (.enter 61 args) W := by kernel_rfl
theorem enter_goodsCheck2 (args : Array Value) (W : World) : (callFunc 62 args).run Tryz.prog W = .ok (.enter 62 args) W := by kernel_rfl
set_option maxHeartbeats 400000 in
theorem goodsCheck1_any (q : Option Addr) (n d : Nat) (w : World) : Calls Tryz.prog 61 #[.slice q n d] w fun e w' => e = .returned (.bool (decide (10 < n))) ∧ w' = w := by
  go_enter Tryz.func61, Tryz.ntmps61
  go_wp2
  go_ret
  exact ⟨ret_bool (by rw [Bool.eq_iff_iff, decide_eq_true_iff, decide_eq_true_iff]; omega), rfl⟩
def oddVal (x : Int) : Bool := decide (x < 0 ∨ 1000 < x)
set_option maxHeartbeats 400000 in
theorem oddVal_any (x : Int) (w : World) (hx : in64 x) : Calls Tryz.prog 62 #[.int .i64 x] w fun e w' => e = .returned (.bool (oddVal x)) ∧ w' = w := by
  obtain ⟨h1, h2⟩ := hx
  by_cases hlow : x < 0
  · have hd : decide (x < 0) = true := by simpa using hlow
    go_enter Tryz.func62, Tryz.ntmps62
    go_wp2_with fail
    go_ret
    exact ⟨ret_bool (by simp [oddVal, hlow]), rfl⟩
  · have hd : decide (x < 0) = false := by simpa using hlow
    go_enter Tryz.func62, Tryz.ntmps62
    go_wp2_with fail
    go_ret
    exact ⟨ret_bool (by unfold oddVal; rw [Bool.eq_iff_iff, decide_eq_true_iff, decide_eq_true_iff]; omega), rfl⟩
theorem oddVal_none {xs : List Int} (h : anyB oddVal xs = false) : ∀ j, j < xs.length → 0 ≤ iget xs j ∧ iget xs j ≤ 1000 := fun j hj => by
  unfold anyB at h
  rw [List.any_eq_false] at h
  have := h _ (iget_mem hj)
  simp [oddVal] at this
  omega
theorem oddVal_some {xs : List Int} (h : anyB oddVal xs = true) : ∃ j, j < xs.length ∧ ¬ (0 ≤ iget xs j ∧ iget xs j ≤ 1000) := by
  unfold anyB at h
  rw [List.any_eq_true] at h
  obtain ⟨x, hx, hp⟩ := h
  obtain ⟨j, hj, rfl⟩ := List.getElem_of_mem hx
  refine ⟨j, hj, ?_⟩
  rw [iget_of hj]
  simp [oddVal] at hp
  omega

set_option maxHeartbeats 2000000 in
theorem goodsCheck_any (p : Option Addr) (c : Nat) (v : List (List Int)) (w : World) (hx : Mat w p c v) :
    Calls Tryz.prog 27 #[.agg #[.slice p v.length c]] w fun e w' => e = .returned (.int .i64 (chkG v)) ∧ Below w.heap.size w w' := by
  obtain ⟨W0, hW0⟩ : ∃ W0, w.alloc (.cells #[.slice p v.length c] 24) = W0 := ⟨_, rfl⟩
  have hB : Below w.heap.size w W0 := below_alloc hW0
  have bX : BoxV W0 w.heap.size [.slice p v.length c] := BoxV.new rfl hW0
  have hx := hx.below hB (Nat.le_refl _)
  have x0 := bX.cell 0 _ rfl
  have HW0 := Lib.hid hW0
  clear hW0
  have hl1 := hx.length_le
  by_cases h6 : 6 < v.length
  · have hd : decide (6 < (v.length : Int)) = true := by simp; omega
    have H := Lib.hid (chkG_many (v := v) (.inl h6))
    go_enter Tryz.func27, Tryz.ntmps27
    go_wp2_with fail
    go_ret
    rw [HW0.out]
    exact ⟨ret_int H.out.symm, hB⟩
  · have hd : decide (6 < (v.length : Int)) = false := by simp; omega
    go_enter Tryz.func27, Tryz.ntmps27
    go_wp2_with fail
    rw [HW0.out]
    refine (containsFuncR_any 61 (longRow v) (fun W => W = W0) enter_goodsCheck1 p c v W0 rfl (fun W hW => by rw [hW]; exact hx) (fun j q d W hj hW hi => goodsCheck1_any _ _ _ _ |>.mono fun e w' h => ⟨h.1, h.2.trans hW⟩)).mono ?_
    rintro e w' ⟨rfl, rfl⟩
    cases hany : anyN (longRow v) v.length with
    | true =>
      have H := Lib.hid (chkG_many (v := v) (.inr fun h => by
        obtain ⟨j, hj, hp⟩ := anyN_true.1 hany
        have := h j hj
        simp [longRow] at hp; omega))
      clear hany
      go_wp2_with fail
      go_ret
      exact ⟨ret_int H.out.symm, hB⟩
    | false =>
      have hshort : Hid (∀ i, i < v.length → (rget v i).length ≤ 10) := fun i hi => by
        have := anyN_false.1 hany i hi
        simp [longRow] at this; exact this
      have hfew : Hid (¬ ManyG v) := fun h => by
        rcases h with h | h
        · exact h6 h
        · exact h hshort.out
      clear hany
      by_cases h0 : v.length = 0
      · have hb0 : ((v.length : Int) == 0) = true := by rw [beq_iff_eq]; omega
        have H := Lib.hid (chkG_bad (v := v) hfew.out (fun h => by have := h.1; omega))
        clear h0
        go_wp2_with fail
        go_ret
        exact ⟨ret_int H.out.symm, hB⟩
      · have hb0 : ((v.length : Int) == 0) = false := by rw [beq_eq_false_iff_ne]; omega
        obtain ⟨b, o, rfl, _, q0, d0, hc0, hi0⟩ := hx.get (j := 0) (by omega)
        rw [Nat.add_zero] at hc0
        go_wp2_with fail
        go_loop [22] (fun t => ∃ k : Nat, k ≤ v.length ∧ t = .int .i64 k ∧ Hid (∀ i, i < k → (rget v i).length = wid v ∧ ∀ j, j < (rget v i).length → 0 ≤ iget (rget v i) j ∧ iget (rget v i) j ≤ 1000)) (fun t => v.length - (intOf t).toNat)
        case atStart => exact ⟨0, Nat.zero_le _, rfl, fun j hj => absurd hj (Nat.not_lt_zero j)⟩
        case round =>
          obtain ⟨k, hk, rfl, ht⟩ := hrel
          by_cases hlt : k < v.length
          · obtain ⟨q, d, hc, hi⟩ := hx.at hlt
            have hk1 : (k : Int) < v.length := by omega
            by_cases hrl : (rget v k).length = (rget v 0).length
            · have hrb : (((rget v k).length : Int) != (rget v 0).length) = false := by simp [hrl]
              have Hrl : Hid ((rget v k).length = wid v) := hrl
              clear hrl
              go_wp2_with fail
              refine (containsFunc_any 62 oddVal enter_goodsCheck2 (fun x W => oddVal_any x W) _ _ _ _ hi).mono ?_
              rintro e w' ⟨rfl, rfl⟩
              cases hany : anyB oddVal (rget v k) with
              | true =>
                have Hany := Lib.hid hany
                clear hany
                go_wp2_with fail
                go_ret
                refine ⟨ret_int (chkG_bad (v := v) hfew.out fun hB => ?_).symm, hB⟩
                obtain ⟨j, hj, hn⟩ := oddVal_some Hany.out
                exact hn ((hB.2.2.2 k hlt).2 j hj)
              | false =>
                have Hany := Lib.hid hany
                clear hany
                go_wp2_with fail
                go_round
                case rel => exact ⟨k + 1, by omega, by go_num, snoc_all' ht.out ⟨Hrl.out, fun j hj => oddVal_none Hany.out j hj⟩⟩
                case measure => simp [intOf]; omega
            · have hrb : (((rget v k).length : Int) != (rget v 0).length) = true := by rw [bne_iff_ne]; omega
              have Hrl : Hid (¬ (rget v k).length = wid v) := hrl
              clear hrl
              go_wp2_with fail
              go_ret
              exact ⟨ret_int (chkG_bad (v := v) hfew.out fun hB => Hrl.out (hB.2.2.2 k hlt).1).symm, hB⟩
          · have hk1 : ¬ (k : Int) < v.length := by omega
            go_wp2_with fail
            go_ret
            exact ⟨ret_int (chkG_ok (v := v) ⟨by omega, by omega, hshort.out 0 (by omega), fun i hi => ht.out i (by omega)⟩).symm, hB⟩

set_option maxHeartbeats 4000000 in
set_option maxRecDepth 100000 in
theorem ref16Check_any (p : Option Addr) (c : Nat) (v : List (List Int)) (w : World) (hx : Mat w p c v) :
    Calls Tryz.prog 25 #[.agg #[.slice p v.length c]] w fun e w' => e = .returned (.int .i64 (chkG v)) ∧ Below w.heap.size w w' := by
  obtain ⟨W0, hW0⟩ : ∃ W0, w.alloc (.cells #[.slice p v.length c] 24) = W0 := ⟨_, rfl⟩
  have hB : Below w.heap.size w W0 := below_alloc hW0
  have bX : BoxV W0 w.heap.size [.slice p v.length c] := BoxV.new rfl hW0
  have hx := hx.below hB (Nat.le_refl _)
  have x0 := bX.cell 0 _ rfl
  have HW0 := Lib.hid hW0
  clear hW0
  have hl1 := hx.length_le
  by_cases h6 : 6 < v.length
  · have hd : decide (6 < (v.length : Int)) = true := by simp; omega
    have H := Lib.hid (chkG_many (v := v) (.inl h6))
    go_enter Tryz.func25, Tryz.ntmps25
    go_wp2_with fail
    go_ret
    rw [HW0.out]
    exact ⟨ret_int H.out.symm, hB⟩
  · have hd : decide (6 < (v.length : Int)) = false := by simp; omega
    go_enter Tryz.func25, Tryz.ntmps25
    go_wp2_with fail
    rw [HW0.out]
    go_loop [4] (fun t => ∃ k : Nat, k ≤ v.length ∧ t = .int .i64 k ∧ Hid (∀ i, i < k → (rget v i).length ≤ 10)) (fun t => v.length - (intOf t).toNat)
    case atStart => exact ⟨0, Nat.zero_le _, rfl, fun j hj => absurd hj (Nat.not_lt_zero j)⟩
    case round =>
      obtain ⟨k, hk, rfl, ht⟩ := hrel
      by_cases hlt : k < v.length
      · obtain ⟨b, o, rfl, _, q, d, hc, hi⟩ := hx.get hlt
        have hk1 : (k : Int) < v.length := by omega
        by_cases hlong : 10 < (rget v k).length
        · have hd1 : decide (10 < ((rget v k).length : Int)) = true := by simp; omega
          have H := Lib.hid (chkG_many (v := v) (.inr fun h => by have := h k hlt; omega))
          clear hlong
          go_wp2_with fail
          go_ret
          exact ⟨ret_int H.out.symm, hB⟩
        · have hd1 : decide (10 < ((rget v k).length : Int)) = false := by simp; omega
          have HL : Hid ((rget v k).length ≤ 10) := show _ ≤ _ by omega
          clear hlong
          go_wp2_with fail
          go_round
          case rel => exact ⟨k + 1, by omega, by go_num, snoc_all' ht.out HL.out⟩
          case measure => simp [intOf]; omega
      · have hk1 : ¬ (k : Int) < v.length := by omega
        have hshort : Hid (∀ i, i < v.length → (rget v i).length ≤ 10) := fun i hi => ht.out i (by omega)
        have hfew : Hid (¬ ManyG v) := fun h => by
          rcases h with h | h
          · exact h6 h
          · exact h hshort.out
        clear ht hk
        go_wp2_with fail
        go_loopw [5] (fun t wr => ∃ k : Nat, k ≤ v.length ∧ t = .int .i64 k ∧ Hid (∀ i, i < k → (rget v i).length = wid v ∧ ∀ j, j < (rget v i).length → 0 ≤ iget (rget v i) j ∧ iget (rget v i) j ≤ 1000) ∧ ∃ n, wr = W0.drewN n) (fun t _ => v.length - (intOf t).toNat)
        case atStart => exact ⟨0, Nat.zero_le _, rfl, (fun j hj => absurd hj (Nat.not_lt_zero j)), drew_refl _⟩
        case round =>
          obtain ⟨k, hk, rfl, ht, hw⟩ := hrel
          have hx := hx.drew hw
          have x0 : wr.cell? ⟨w.heap.size, 0, none⟩ = some (.slice p v.length c) := by obtain ⟨n, rfl⟩ := hw; exact x0
          have Hw := Lib.hid hw
          clear hw
          by_cases hlt : k < v.length
          · obtain ⟨b, o, rfl, _, q0, d0, hc0, hi0⟩ := hx.get (j := 0) (by omega)
            rw [Nat.add_zero] at hc0
            obtain ⟨q, d, hc, hi⟩ := hx.at hlt
            have hk1 : (k : Int) < v.length := by omega
            have hk2 : (0 : Int) < v.length := by omega
            by_cases hrl : (rget v k).length = (rget v 0).length
            · have hrb : (((rget v k).length : Int) != (rget v 0).length) = false := by simp [hrl]
              have Hrl : Hid ((rget v k).length = wid v) := hrl
              clear hrl
              go_wp2_with fail
              go_quiet (fail)
              go_wp2_with fail
              obtain ⟨wo, hwo⟩ : ∃ wo : World, wr.drewN nq = wo := ⟨_, rfl⟩
              have hx := hx.drew (w' := wo) ⟨nq, hwo.symm⟩
              have x0 : wo.cell? ⟨w.heap.size, 0, none⟩ = some (.slice (some ⟨b, o, none⟩) v.length c) := by rw [← hwo]; exact x0
              have hi := hi.drew (w' := wo) ⟨nq, hwo.symm⟩
              have hc : wo.cell? ⟨b, o + k, none⟩ = some (.slice q (rget v k).length d) := by rw [← hwo]; exact hc
              have Hwo : Hid (∃ n, wo = W0.drewN n) := by obtain ⟨m, hm⟩ := Hw.out; exact ⟨m + nq, by rw [← hwo, hm, World.drewN_drewN]⟩
              rw [hwo]
              clear hwo hc0 hi0
              have hl2 := hi.length_le
              go_loop [6] (fun t => ∃ m : Nat, m ≤ (rget v k).length ∧ t = .int .i64 m ∧ Hid (∀ j, j < m → 0 ≤ iget (rget v k) j ∧ iget (rget v k) j ≤ 1000)) (fun t => (rget v k).length - (intOf t).toNat)
              case atStart => exact ⟨0, Nat.zero_le _, rfl, fun j hj => absurd hj (Nat.not_lt_zero j)⟩
              case round =>
                obtain ⟨m, hm, rfl, hs⟩ := hrel
                by_cases hml : m < (rget v k).length
                · obtain ⟨b2, o2, rfl, _, hc2⟩ := hi.get hml
                  have hm1 : (m : Int) < (rget v k).length := by omega
                  by_cases hlow : iget (rget v k) m < 0
                  · have hdl : decide (iget (rget v k) m < 0) = true := by simpa using hlow
                    have H := Lib.hid (chkG_bad (v := v) hfew.out fun hG => by have := ((hG.2.2.2 k hlt).2 m hml).1; omega)
                    clear hlow
                    go_wp2_with fail
                    go_ret
                    exact ⟨ret_int H.out.symm, hB.drewP Hwo.out⟩
                  · have hdl : decide (iget (rget v k) m < 0) = false := by simpa using hlow
                    by_cases hhi : 1000 < iget (rget v k) m
                    · have hdh : decide (1000 < iget (rget v k) m) = true := by simpa using hhi
                      have H := Lib.hid (chkG_bad (v := v) hfew.out fun hG => by have := ((hG.2.2.2 k hlt).2 m hml).2; omega)
                      clear hlow hhi
                      go_wp2_with fail
                      go_ret
                      exact ⟨ret_int H.out.symm, hB.drewP Hwo.out⟩
                    · have hdh : decide (1000 < iget (rget v k) m) = false := by simpa using hhi
                      have HP : Hid (0 ≤ iget (rget v k) m ∧ iget (rget v k) m ≤ 1000) := show _ ∧ _ by omega
                      clear hlow hhi
                      go_wp2_with fail
                      go_round
                      case rel => exact ⟨m + 1, by omega, by go_num, snoc_all' hs.out HP.out⟩
                      case measure => simp [intOf]; omega
                · have hm1 : ¬ (m : Int) < (rget v k).length := by omega
                  have HS : Hid (∀ j, j < (rget v k).length → 0 ≤ iget (rget v k) j ∧ iget (rget v k) j ≤ 1000) := fun j hj => hs.out j (by omega)
                  clear hs hm
                  go_wp2_with fail
                  go_roundw
                  case rel => exact ⟨k + 1, by omega, by go_num, snoc_all' ht.out ⟨Hrl.out, HS.out⟩, Hwo.out⟩
                  case measure => simp [intOf]; omega
            · have hrb : (((rget v k).length : Int) != (rget v 0).length) = true := by rw [bne_iff_ne]; omega
              have Hrl : Hid (¬ (rget v k).length = wid v) := hrl
              clear hrl
              go_wp2_with fail
              go_quiet (fail)
              go_wp2_with fail
              go_ret
              exact ⟨ret_int (chkG_bad (v := v) hfew.out fun hB => Hrl.out (hB.2.2.2 k hlt).1).symm, (hB.drewP Hw.out).drewN' _⟩
          · have hk1 : ¬ (k : Int) < v.length := by omega
            by_cases h0 : v.length < 1
            · have hb0 : decide ((v.length : Int) < 1) = true := by simp; omega
              have H := Lib.hid (chkG_bad (v := v) hfew.out (fun h => by have := h.1; omega))
              go_wp2_with fail
              go_ret
              exact ⟨ret_int H.out.symm, hB.drewP Hw.out⟩
            · have hb0 : decide ((v.length : Int) < 1) = false := by simp; omega
              have H := Lib.hid (chkG_ok (v := v) ⟨by omega, by omega, hshort.out 0 (by omega), fun i hi => ht.out i (by omega)⟩)
              go_wp2_with fail
              go_ret
              exact ⟨ret_int H.out.symm, hB.drewP Hw.out⟩
end Go.Proofs.YtmcncflieoolmaaGreat

/- The walks of goods.within, Valid and Values, and of the reference's Valid and Worth, for every goods and allocation; no condition. -/
namespace Go.Proofs.YtmcncflieoolmaaGreat
set_option linter.unusedVariables false
set_option linter.unusedSimpArgs false
open Go.ChangeShapes Go.WideShapes Go.ChangeAt Go.RowKit Go.Deep

/-- A predicate that holds two variables of its own, at the numbers of a list. -/
def Asks2 (K : Nat) (u u2 : Value) (xs : List Int) (P : Nat → Bool) (R : World → Prop) : Prop :=
  ∀ j W, j < xs.length → R W → Calls Tryz.prog K #[.int .i64 (iget xs j), u, u2] W fun e w' => e = .returned (.bool (P j)) ∧ R w'
set_option maxHeartbeats 800000 in
theorem indexFunc2_any (K : Nat) (u u2 : Value) (P : Nat → Bool) (R : World → Prop) (hcf : ∀ args W, (callFunc K args).run Tryz.prog W = .ok (.enter K args) W) (p : Option Addr) (c : Nat) (xs : List Int) (w : World) (hR : R w) (hI : Hid (∀ W, R W → Ints W p c xs)) (hf : Asks2 K u u2 xs P R) :
    Calls Tryz.prog 104 #[.slice p xs.length c, .func (.func K) #[] #[u, u2]] w fun e w' => e = .returned (.int .i64 (firstN P xs.length)) ∧ R w' := by
  have hl1 := (hI.out _ hR).length_le
  have Hf := Lib.hid hf
  clear hf
  go_enter Tryz.func104, Tryz.ntmps104
  go_wp2_with fail
  go_loopw [8] (fun t wr => ∃ k : Nat, k ≤ xs.length ∧ t = .int .i64 k ∧ Hid (∀ j, j < k → P j = false) ∧ R wr) (fun t _ => xs.length - (intOf t).toNat)
  case atStart => exact ⟨0, Nat.zero_le _, rfl, (fun j hj => absurd hj (Nat.not_lt_zero j)), hR⟩
  case round =>
    obtain ⟨k, hk, rfl, ht, hRr⟩ := hrel
    have hx := hI.out _ hRr
    by_cases hlt : k < xs.length
    · obtain ⟨b, o, rfl, _, hc⟩ := hx.get hlt
      have hk1 : (k : Int) < xs.length := by omega
      go_wp2_with fail
      refine (Hf.out k _ hlt hRr).mono ?_
      rintro e w' ⟨rfl, hR'⟩
      cases hP : P k with
      | true =>
        have HP := Lib.hid hP
        clear hP
        go_wp2_with fail
        go_ret
        exact ⟨ret_int (firstN_of hlt HP.out ht.out).symm, hR'⟩
      | false =>
        have HP := Lib.hid hP
        clear hP
        go_wp2_with fail
        go_roundw
        case rel => exact ⟨k + 1, by omega, by go_num, snoc_all' ht.out HP.out, hR'⟩
        case measure => simp [intOf]; omega
    · have hk1 : ¬ (k : Int) < xs.length := by omega
      go_wp2_with fail
      go_ret
      exact ⟨ret_int (firstN_none (fun j hj => ht.out j (by omega))).symm, hRr⟩
set_option maxHeartbeats 400000 in
theorem containsFunc2_any (K : Nat) (u u2 : Value) (P : Nat → Bool) (R : World → Prop) (hcf : ∀ args W, (callFunc K args).run Tryz.prog W = .ok (.enter K args) W) (p : Option Addr) (c : Nat) (xs : List Int) (w : World) (hR : R w) (hI : Hid (∀ W, R W → Ints W p c xs)) (hf : Asks2 K u u2 xs P R) :
    Calls Tryz.prog 63 #[.slice p xs.length c, .func (.func K) #[] #[u, u2]] w fun e w' => e = .returned (.bool (anyN P xs.length)) ∧ R w' := by
  have HA := Lib.hid (firstN_any P xs.length)
  have Hf := Lib.hid hf
  clear hf
  go_enter Tryz.func63, Tryz.ntmps63
  go_wp2_with fail
  refine (indexFunc2_any K u u2 P R hcf p c xs w hR hI Hf.out).mono ?_
  rintro e w' ⟨rfl, hR'⟩
  go_wp2_with fail
  go_ret
  exact ⟨ret_bool HA.out, hR'⟩
def outP (lo hi : Int) (xs : List Int) (j : Nat) : Bool := decide (iget xs j < lo ∨ hi ≤ iget xs j)
theorem enter_within1 (args : Array Value) (W : World) : (callFunc 123 args).run Tryz.prog W = .ok (.enter 123 args) W := by kernel_rfl
set_option maxHeartbeats 400000 in
theorem within1_any (x lo hi : Int) (B B2 : Nat) (w : World) (hx : in64 x) (hc : w.cell? ⟨B, 0, none⟩ = some (.int .i64 lo)) (hc2 : w.cell? ⟨B2, 0, none⟩ = some (.int .i64 hi)) :
    Calls Tryz.prog 123 #[.int .i64 x, .pointer (some ⟨B, 0, none⟩), .pointer (some ⟨B2, 0, none⟩)] w fun e w' => e = .returned (.bool (decide (x < lo ∨ hi ≤ x))) ∧ w' = w := by
  obtain ⟨h1, h2⟩ := hx
  by_cases hlow : x < lo
  · have hd : decide (x < lo) = true := by simpa using hlow
    go_enter Tryz.func123, Tryz.ntmps123
    go_wp2_with fail
    go_ret
    exact ⟨ret_bool (by simp [hlow]), rfl⟩
  · have hd : decide (x < lo) = false := by simpa using hlow
    go_enter Tryz.func123, Tryz.ntmps123
    go_wp2_with fail
    go_ret
    exact ⟨ret_bool (by first | rfl | (rw [Bool.eq_iff_iff]; simp only [decide_eq_true_iff]; omega)), rfl⟩
def withinB (lo hi : Int) (xs : List Int) : Bool := !(anyN (outP lo hi xs) xs.length)
theorem withinB_true {lo hi : Int} {xs : List Int} : withinB lo hi xs = true ↔ ∀ j, j < xs.length → lo ≤ iget xs j ∧ iget xs j < hi := by
  unfold withinB
  constructor
  · intro h j hj
    have h' : anyN (outP lo hi xs) xs.length = false := by simpa using h
    have := anyN_false.1 h' j hj
    simp [outP] at this
    omega
  · intro h
    have : anyN (outP lo hi xs) xs.length = false := anyN_false.2 fun j hj => by
      have := h j hj
      simp [outP]; omega
    simp [this]
set_option maxHeartbeats 800000 in
theorem within_any (lo hi : Int) (p : Option Addr) (c : Nat) (xs : List Int) (w : World) (hx : Ints w p c xs) :
    Calls Tryz.prog 107 #[.int .i64 lo, .int .i64 hi, .slice p xs.length c] w fun e w' => e = .returned (.bool (withinB lo hi xs)) ∧ Below w.heap.size w w' := by
  obtain ⟨W0, hW0⟩ : ∃ W0, w.alloc (.cells #[.int .i64 lo] 3) = W0 := ⟨_, rfl⟩
  have hB : Below w.heap.size w W0 := below_alloc hW0
  have bX : BoxV W0 w.heap.size [.int .i64 lo] := BoxV.new rfl hW0
  obtain ⟨W1, hW1⟩ : ∃ W1, W0.alloc (.cells #[.int .i64 hi] 3) = W1 := ⟨_, rfl⟩
  have hB1 : Below W0.heap.size W0 W1 := below_alloc hW1
  have bY : BoxV W1 W0.heap.size [.int .i64 hi] := BoxV.new rfl hW1
  have x0 := (bX.below hB1).cell 0 _ rfl
  have y0 := bY.cell 0 _ rfl
  have hx := (hx.below hB (Nat.le_refl _)).below hB1 (Nat.le_refl _)
  have hB2 : Below w.heap.size w W1 := hB.trans (hB1.mono hB.size)
  have HW0 := Lib.hid hW0
  have HW1 := Lib.hid hW1
  have HV : Hid (W0.heap.size = w.heap.size + 1) := by unfold Hid; rw [← hW0]; simp
  clear hW0 hW1
  have hl1 := hx.length_le
  go_enter Tryz.func107, Tryz.ntmps107
  go_wp2_with fail
  rw [HW0.out, HW1.out]
  rw [HV.out] at y0
  refine (containsFunc2_any 123 (.pointer (some ⟨w.heap.size, 0, none⟩)) (.pointer (some ⟨w.heap.size + 1, 0, none⟩)) (outP lo hi xs) (fun W => W = W1) enter_within1 p c xs W1 rfl (fun W hW => by rw [hW]; exact hx)
    (fun j W hj hW => by subst hW; exact within1_any _ lo hi _ _ _ (hx.rng j hj) x0 y0)).mono ?_
  rintro e w' ⟨rfl, rfl⟩
  cases hany : anyN (outP lo hi xs) xs.length with
  | true =>
    have H : Hid (withinB lo hi xs = false) := by unfold Hid withinB; rw [hany]; rfl
    clear hany
    go_wp2_with fail
    go_ret
    exact ⟨ret_bool H.out.symm, hB2⟩
  | false =>
    have H : Hid (withinB lo hi xs = true) := by unfold Hid withinB; rw [hany]; rfl
    clear hany
    go_wp2_with fail
    go_ret
    exact ⟨ret_bool H.out.symm, hB2⟩

set_option maxHeartbeats 1600000 in
theorem goodsValid_any (p : Option Addr) (c : Nat) (v : List (List Int)) (q : Option Addr) (d : Nat) (a : List Int) (w : World) (hx : Mat w p c v) (hi : Ints w q d a) :
    Calls Tryz.prog 75 #[.agg #[.slice p v.length c], .slice q a.length d] w fun e w' => e = .returned (.int .i64 (chkA v a)) ∧ Below w.heap.size w w' := by
  obtain ⟨W0, hW0⟩ : ∃ W0, w.alloc (.cells #[.slice p v.length c] 24) = W0 := ⟨_, rfl⟩
  have hB : Below w.heap.size w W0 := below_alloc hW0
  have bX : BoxV W0 w.heap.size [.slice p v.length c] := BoxV.new rfl hW0
  have hx := hx.below hB (Nat.le_refl _)
  have hi := hi.below hB (Nat.le_refl _)
  have x0 := bX.cell 0 _ rfl
  have HW0 := Lib.hid hW0
  clear hW0
  have hl1 := hx.length_le
  have hl2 := hi.length_le
  go_enter Tryz.func75, Tryz.ntmps75
  go_wp2_with fail
  rw [HW0.out]
  refine (goodsCheck_any p c v _ hx).mono ?_
  rintro e w1 ⟨rfl, hb1⟩
  have hx := hx.below hb1 (Nat.le_refl _)
  have hi := hi.below hb1 (Nat.le_refl _)
  have x0 := (bX.below hb1).cell 0 _ rfl
  have hB := hB.trans (hb1.mono hB.size)
  by_cases hF : chkG v = 0
  · rw [hF]
    have hg := chkG_zero.1 hF
    have h0 : 0 < v.length := hg.1
    obtain ⟨b, o, rfl, _, q0, d0, hc0, hi0⟩ := hx.get h0
    rw [Nat.add_zero] at hc0
    have h01 : (0 : Int) < v.length := by omega
    by_cases hl : a.length = (rget v 0).length
    · have hlb : ((a.length : Int) != ((rget v 0).length : Int)) = false := by rw [hl]; simp
      have Hg := Lib.hid hg
      have Hl := Lib.hid hl
      have HF := Lib.hid hF
      clear hg hl hF
      go_wp2_with fail
      refine (within_any (-1) v.length q d a _ hi).mono ?_
      rintro e w2 ⟨rfl, hb2⟩
      have hB := hB.trans (hb2.mono hB.size)
      cases hw : withinB (-1) v.length a with
      | true =>
        have H : Hid (chkA v a = 0) := chkA_ok Hg.out ⟨Hl.out, fun j hj => withinB_true.1 hw j hj⟩
        clear hw
        go_wp2_with fail
        go_ret
        exact ⟨ret_int H.out.symm, hB⟩
      | false =>
        have H : Hid (chkA v a = 8) := chkA_bad HF.out fun h => by rw [withinB_true.2 h.2] at hw; cases hw
        clear hw
        go_wp2_with fail
        go_ret
        exact ⟨ret_int H.out.symm, hB⟩
    · have hlb : ((a.length : Int) != ((rget v 0).length : Int)) = true := by rw [bne_iff_ne]; omega
      have H : Hid (chkA v a = 8) := chkA_bad hF fun h => hl h.1
      clear hl hF hg
      go_wp2_with fail
      go_ret
      exact ⟨ret_int H.out.symm, hB⟩
  · have hz : (chkG v != 0) = true := by rw [bne_iff_ne]; exact hF
    have H := Lib.hid (chkA_err (a := a) hF)
    clear hF
    go_wp2_with fail
    go_ret
    exact ⟨ret_int H.out.symm, hB⟩

set_option maxHeartbeats 1600000 in
theorem ref16Valid_any (p : Option Addr) (c : Nat) (v : List (List Int)) (q : Option Addr) (d : Nat) (a : List Int) (w : World) (hx : Mat w p c v) (hi : Ints w q d a) :
    Calls Tryz.prog 6 #[.agg #[.slice p v.length c], .slice q a.length d] w fun e w' => e = .returned (.int .i64 (chkA v a)) ∧ Below w.heap.size w w' := by
  obtain ⟨W0, hW0⟩ : ∃ W0, w.alloc (.cells #[.slice p v.length c] 24) = W0 := ⟨_, rfl⟩
  have hB : Below w.heap.size w W0 := below_alloc hW0
  have bX : BoxV W0 w.heap.size [.slice p v.length c] := BoxV.new rfl hW0
  have hx := hx.below hB (Nat.le_refl _)
  have hi := hi.below hB (Nat.le_refl _)
  have x0 := bX.cell 0 _ rfl
  have HW0 := Lib.hid hW0
  clear hW0
  have hl1 := hx.length_le
  have hl2 := hi.length_le
  go_enter Tryz.func6, Tryz.ntmps6
  go_wp2_with fail
  rw [HW0.out]
  refine (ref16Check_any p c v _ hx).mono ?_
  rintro e w1 ⟨rfl, hb1⟩
  have hx := hx.below hb1 (Nat.le_refl _)
  have hi := hi.below hb1 (Nat.le_refl _)
  have bX := bX.below hb1
  have x0 := bX.cell 0 _ rfl
  have hB := hB.trans (hb1.mono hB.size)
  by_cases hF : chkG v = 0
  · rw [hF]
    have hg := chkG_zero.1 hF
    have h0 : 0 < v.length := hg.1
    obtain ⟨b, o, rfl, _, q0, d0, hc0, hi0⟩ := hx.get h0
    rw [Nat.add_zero] at hc0
    have h01 : (0 : Int) < v.length := by omega
    by_cases hl : a.length = (rget v 0).length
    · have hlb : ((a.length : Int) != ((rget v 0).length : Int)) = false := by rw [hl]; simp
      have Hg := Lib.hid hg
      have Hl := Lib.hid hl
      have HF := Lib.hid hF
      clear hg hl hF
      go_wp2_with fail
      clear hc0 hi0
      go_loopw [5] (fun t wr => ∃ k : Nat, k ≤ a.length ∧ t = .int .i64 k ∧ Hid (∀ j, j < k → -1 ≤ iget a j ∧ iget a j < v.length) ∧ ∃ n, wr = w1.drewN n) (fun t _ => a.length - (intOf t).toNat)
      case atStart => exact ⟨0, Nat.zero_le _, rfl, (fun j hj => absurd hj (Nat.not_lt_zero j)), drew_refl _⟩
      case round =>
        obtain ⟨k, hk, rfl, ht, hw⟩ := hrel
        have hi := hi.drew hw
        have x0 : wr.cell? ⟨w.heap.size, 0, none⟩ = some (.slice (some ⟨b, o, none⟩) v.length c) := by obtain ⟨n, rfl⟩ := hw; exact x0
        have Hw := Lib.hid hw
        clear hw
        by_cases hlt : k < a.length
        · obtain ⟨b2, o2, rfl, _, hc2⟩ := hi.get hlt
          have hk1 : (k : Int) < a.length := by omega
          by_cases hlow : iget a k < -1
          · have hdl : decide (iget a k < -1) = true := by simpa using hlow
            have H : Hid (chkA v a = 8) := chkA_bad HF.out fun h => by have := (h.2 k hlt).1; omega
            clear hlow
            go_wp2_with fail
            go_quiet (fail)
            go_wp2_with fail
            go_ret
            exact ⟨ret_int H.out.symm, (hB.drewP Hw.out).drewN' _⟩
          · have hdl : decide (iget a k < -1) = false := by simpa using hlow
            by_cases hhi : (v.length : Int) ≤ iget a k
            · have hdh : decide ((v.length : Int) ≤ iget a k) = true := by simpa using hhi
              have H : Hid (chkA v a = 8) := chkA_bad HF.out fun h => by have := (h.2 k hlt).2; omega
              clear hlow hhi
              go_wp2_with fail
              go_quiet (fail)
              go_wp2_with fail
              go_ret
              exact ⟨ret_int H.out.symm, (hB.drewP Hw.out).drewN' _⟩
            · have hdh : decide ((v.length : Int) ≤ iget a k) = false := by simpa using hhi
              have HP : Hid (-1 ≤ iget a k ∧ iget a k < v.length) := show _ ∧ _ by omega
              clear hlow hhi
              go_wp2_with fail
              go_quiet (fail)
              go_wp2_with fail
              go_roundw
              case rel => exact ⟨k + 1, by omega, by go_num, snoc_all' ht.out HP.out, drew_drewN _ Hw.out⟩
              case measure => simp [intOf]; omega
        · have hk1 : ¬ (k : Int) < a.length := by omega
          have H : Hid (chkA v a = 0) := chkA_ok Hg.out ⟨Hl.out, fun j hj => ht.out j (by omega)⟩
          go_wp2_with fail
          go_ret
          exact ⟨ret_int H.out.symm, hB.drewP Hw.out⟩
    · have hlb : ((a.length : Int) != ((rget v 0).length : Int)) = true := by rw [bne_iff_ne]; omega
      have H : Hid (chkA v a = 8) := chkA_bad hF fun h => hl h.1
      clear hl hF hg
      go_wp2_with fail
      go_ret
      exact ⟨ret_int H.out.symm, hB⟩
  · have hz : (chkG v != 0) = true := by rw [bne_iff_ne]; exact hF
    have H := Lib.hid (chkA_err (a := a) hF)
    clear hF
    go_wp2_with fail
    refine (ref16Check_any p c v _ hx).mono ?_
    rintro e w2 ⟨rfl, hb2⟩
    go_wp2_with fail
    go_ret
    exact ⟨ret_int H.out.symm, hB.trans (hb2.mono hB.size)⟩
end Go.Proofs.YtmcncflieoolmaaGreat
