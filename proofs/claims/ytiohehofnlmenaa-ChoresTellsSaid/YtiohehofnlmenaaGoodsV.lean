/- The walks of goods.within, Valid and Values, and of the reference's Valid and Worth, for every goods and allocation; no condition. -/
import Derived.Test.YtiohehofnlmenaaGoodsA
import Derived.Test.YtiohehofnlmenaaGoodsW
namespace Go.Proofs.Ytiohehofnlmenaa
set_option linter.unusedVariables false
set_option linter.unusedSimpArgs false
open Go.ChangeShapes Go.WideShapes Go.ChangeAt Go.RowKit Go.Deep

/-- A predicate that holds two variables of its own, at the numbers of a list. -/
def Asks2 (K : Nat) (u u2 : Value) (xs : List Int) (P : Nat → Bool) (R : World → Prop) : Prop :=
  ∀ j W, j < xs.length → R W → Calls Try.prog K #[.int .i64 (iget xs j), u, u2] W fun e w' => e = .returned (.bool (P j)) ∧ R w'
set_option maxHeartbeats 800000 in
theorem indexFunc2_any (K : Nat) (u u2 : Value) (P : Nat → Bool) (R : World → Prop) (hcf : ∀ args W, (callFunc K args).run Try.prog W = .ok (.enter K args) W) (p : Option Addr) (c : Nat) (xs : List Int) (w : World) (hR : R w) (hI : Hid (∀ W, R W → Ints W p c xs)) (hf : Asks2 K u u2 xs P R) :
    Calls Try.prog 78 #[.slice p xs.length c, .func (.func K) #[] #[u, u2]] w fun e w' => e = .returned (.int .i64 (firstN P xs.length)) ∧ R w' := by
  have hl1 := (hI.out _ hR).length_le
  have Hf := Lib.hid hf
  clear hf
  go_enter Try.func78, Try.ntmps78
  go_wp2_with fail
  go_loopw [8] (fun t wr => ∃ k : Nat, k ≤ xs.length ∧ t = .int .i64 k ∧ Hid (∀ j, j < k → P j = false) ∧ R wr) (fun t _ => xs.length - (intOf t).toNat)
  case atStart => exact ⟨0, Nat.zero_le _, rfl, (fun j hj => absurd hj (Nat.not_lt_zero j)), hR⟩
  case round =>
    obtain ⟨k, hk, rfl, ht, hRr⟩ := hrel
    have hx := hI.out _ hRr
    by_cases hlt : k < xs.length
    · obtain ⟨b, o, rfl, _, hc⟩ := hx.get hlt
      have hk1 : (k : Int) < xs.length := by omega
      go_wp2_with fail
      refine (Hf.out k _ hlt hRr).mono ?_
      rintro e w' ⟨rfl, hR'⟩
      cases hP : P k with
      | true =>
        have HP := Lib.hid hP
        clear hP
        go_wp2_with fail
        go_ret
        exact ⟨ret_int (firstN_of hlt HP.out ht.out).symm, hR'⟩
      | false =>
        have HP := Lib.hid hP
        clear hP
        go_wp2_with fail
        go_roundw
        case rel => exact ⟨k + 1, by omega, by go_num, snoc_all' ht.out HP.out, hR'⟩
        case measure => simp [intOf]; omega
    · have hk1 : ¬ (k : Int) < xs.length := by omega
      go_wp2_with fail
      go_ret
      exact ⟨ret_int (firstN_none (fun j hj => ht.out j (by omega))).symm, hRr⟩
set_option maxHeartbeats 400000 in
theorem containsFunc2_any (K : Nat) (u u2 : Value) (P : Nat → Bool) (R : World → Prop) (hcf : ∀ args W, (callFunc K args).run Try.prog W = .ok (.enter K args) W) (p : Option Addr) (c : Nat) (xs : List Int) (w : World) (hR : R w) (hI : Hid (∀ W, R W → Ints W p c xs)) (hf : Asks2 K u u2 xs P R) :
    Calls Try.prog 69 #[.slice p xs.length c, .func (.func K) #[] #[u, u2]] w fun e w' => e = .returned (.bool (anyN P xs.length)) ∧ R w' := by
  have HA := Lib.hid (firstN_any P xs.length)
  have Hf := Lib.hid hf
  clear hf
  go_enter Try.func69, Try.ntmps69
  go_wp2_with fail
  refine (indexFunc2_any K u u2 P R hcf p c xs w hR hI Hf.out).mono ?_
  rintro e w' ⟨rfl, hR'⟩
  go_wp2_with fail
  go_ret
  exact ⟨ret_bool HA.out, hR'⟩
def outP (lo hi : Int) (xs : List Int) (j : Nat) : Bool := decide (iget xs j < lo ∨ hi ≤ iget xs j)
theorem enter_within1 (args : Array Value) (W : World) : (callFunc 81 args).run Try.prog W = .ok (.enter 81 args) W := by kernel_rfl
set_option maxHeartbeats 400000 in
theorem within1_any (x lo hi : Int) (B B2 : Nat) (w : World) (hx : in64 x) (hc : w.cell? ⟨B, 0, none⟩ = some (.int .i64 lo)) (hc2 : w.cell? ⟨B2, 0, none⟩ = some (.int .i64 hi)) :
    Calls Try.prog 81 #[.int .i64 x, .pointer (some ⟨B, 0, none⟩), .pointer (some ⟨B2, 0, none⟩)] w fun e w' => e = .returned (.bool (decide (x < lo ∨ hi ≤ x))) ∧ w' = w := by
  obtain ⟨h1, h2⟩ := hx
  by_cases hlow : x < lo
  · have hd : decide (x < lo) = true := by simpa using hlow
    go_enter Try.func81, Try.ntmps81
    go_wp2_with fail
    go_ret
    exact ⟨ret_bool (by simp [hlow]), rfl⟩
  · have hd : decide (x < lo) = false := by simpa using hlow
    go_enter Try.func81, Try.ntmps81
    go_wp2_with fail
    go_ret
    exact ⟨ret_bool (by first | rfl | (rw [Bool.eq_iff_iff]; simp only [decide_eq_true_iff]; omega)), rfl⟩
def withinB (lo hi : Int) (xs : List Int) : Bool := !(anyN (outP lo hi xs) xs.length)
theorem withinB_true {lo hi : Int} {xs : List Int} : withinB lo hi xs = true ↔ ∀ j, j < xs.length → lo ≤ iget xs j ∧ iget xs j < hi := by
  unfold withinB
  constructor
  · intro h j hj
    have h' : anyN (outP lo hi xs) xs.length = false := by simpa using h
    have := anyN_false.1 h' j hj
    simp [outP] at this
    omega
  · intro h
    have : anyN (outP lo hi xs) xs.length = false := anyN_false.2 fun j hj => by
      have := h j hj
      simp [outP]; omega
    simp [this]
set_option maxHeartbeats 800000 in
theorem within_any (lo hi : Int) (p : Option Addr) (c : Nat) (xs : List Int) (w : World) (hx : Ints w p c xs) :
    Calls Try.prog 72 #[.int .i64 lo, .int .i64 hi, .slice p xs.length c] w fun e w' => e = .returned (.bool (withinB lo hi xs)) ∧ Below w.heap.size w w' := by
  obtain ⟨W0, hW0⟩ : ∃ W0, w.alloc (.cells #[.int .i64 lo] 3) = W0 := ⟨_, rfl⟩
  have hB : Below w.heap.size w W0 := below_alloc hW0
  have bX : BoxV W0 w.heap.size [.int .i64 lo] := BoxV.new rfl hW0
  obtain ⟨W1, hW1⟩ : ∃ W1, W0.alloc (.cells #[.int .i64 hi] 3) = W1 := ⟨_, rfl⟩
  have hB1 : Below W0.heap.size W0 W1 := below_alloc hW1
  have bY : BoxV W1 W0.heap.size [.int .i64 hi] := BoxV.new rfl hW1
  have x0 := (bX.below hB1).cell 0 _ rfl
  have y0 := bY.cell 0 _ rfl
  have hx := (hx.below hB (Nat.le_refl _)).below hB1 (Nat.le_refl _)
  have hB2 : Below w.heap.size w W1 := hB.trans (hB1.mono hB.size)
  have HW0 := Lib.hid hW0
  have HW1 := Lib.hid hW1
  have HV : Hid (W0.heap.size = w.heap.size + 1) := by unfold Hid; rw [← hW0]; simp
  clear hW0 hW1
  have hl1 := hx.length_le
  go_enter Try.func72, Try.ntmps72
  go_wp2_with fail
  rw [HW0.out, HW1.out]
  rw [HV.out] at y0
  refine (containsFunc2_any 81 (.pointer (some ⟨w.heap.size, 0, none⟩)) (.pointer (some ⟨w.heap.size + 1, 0, none⟩)) (outP lo hi xs) (fun W => W = W1) enter_within1 p c xs W1 rfl (fun W hW => by rw [hW]; exact hx)
    (fun j W hj hW => by subst hW; exact within1_any _ lo hi _ _ _ (hx.rng j hj) x0 y0)).mono ?_
  rintro e w' ⟨rfl, rfl⟩
  cases hany : anyN (outP lo hi xs) xs.length with
  | true =>
    have H : Hid (withinB lo hi xs = false) := by unfold Hid withinB; rw [hany]; rfl
    clear hany
    go_wp2_with fail
    go_ret
    exact ⟨ret_bool H.out.symm, hB2⟩
  | false =>
    have H : Hid (withinB lo hi xs = true) := by unfold Hid withinB; rw [hany]; rfl
    clear hany
    go_wp2_with fail
    go_ret
    exact ⟨ret_bool H.out.symm, hB2⟩

set_option maxHeartbeats 1600000 in
theorem goodsValid_any (p : Option Addr) (c : Nat) (v : List (List Int)) (q : Option Addr) (d : Nat) (a : List Int) (w : World) (hx : Mat w p c v) (hi : Ints w q d a) :
    Calls Try.prog 60 #[.agg #[.slice p v.length c], .slice q a.length d] w fun e w' => e = .returned (.int .i64 (chkA v a)) ∧ Below w.heap.size w w' := by
  obtain ⟨W0, hW0⟩ : ∃ W0, w.alloc (.cells #[.slice p v.length c] 24) = W0 := ⟨_, rfl⟩
  have hB : Below w.heap.size w W0 := below_alloc hW0
  have bX : BoxV W0 w.heap.size [.slice p v.length c] := BoxV.new rfl hW0
  have hx := hx.below hB (Nat.le_refl _)
  have hi := hi.below hB (Nat.le_refl _)
  have x0 := bX.cell 0 _ rfl
  have HW0 := Lib.hid hW0
  clear hW0
  have hl1 := hx.length_le
  have hl2 := hi.length_le
  go_enter Try.func60, Try.ntmps60
  go_wp2_with fail
  rw [HW0.out]
  refine (goodsCheck_any p c v _ hx).mono ?_
  rintro e w1 ⟨rfl, hb1⟩
  have hx := hx.below hb1 (Nat.le_refl _)
  have hi := hi.below hb1 (Nat.le_refl _)
  have x0 := (bX.below hb1).cell 0 _ rfl
  have hB := hB.trans (hb1.mono hB.size)
  by_cases hF : chkG v = 0
  · rw [hF]
    have hg := chkG_zero.1 hF
    have h0 : 0 < v.length := hg.1
    obtain ⟨b, o, rfl, _, q0, d0, hc0, hi0⟩ := hx.get h0
    rw [Nat.add_zero] at hc0
    have h01 : (0 : Int) < v.length := by omega
    by_cases hl : a.length = (rget v 0).length
    · have hlb : ((a.length : Int) != ((rget v 0).length : Int)) = false := by rw [hl]; simp
      have Hg := Lib.hid hg
      have Hl := Lib.hid hl
      have HF := Lib.hid hF
      clear hg hl hF
      go_wp2_with fail
      refine (within_any (-1) v.length q d a _ hi).mono ?_
      rintro e w2 ⟨rfl, hb2⟩
      have hB := hB.trans (hb2.mono hB.size)
      cases hw : withinB (-1) v.length a with
      | true =>
        have H : Hid (chkA v a = 0) := chkA_ok Hg.out ⟨Hl.out, fun j hj => withinB_true.1 hw j hj⟩
        clear hw
        go_wp2_with fail
        go_ret
        exact ⟨ret_int H.out.symm, hB⟩
      | false =>
        have H : Hid (chkA v a = 8) := chkA_bad HF.out fun h => by rw [withinB_true.2 h.2] at hw; cases hw
        clear hw
        go_wp2_with fail
        go_ret
        exact ⟨ret_int H.out.symm, hB⟩
    · have hlb : ((a.length : Int) != ((rget v 0).length : Int)) = true := by rw [bne_iff_ne]; omega
      have H : Hid (chkA v a = 8) := chkA_bad hF fun h => hl h.1
      clear hl hF hg
      go_wp2_with fail
      go_ret
      exact ⟨ret_int H.out.symm, hB⟩
  · have hz : (chkG v != 0) = true := by rw [bne_iff_ne]; exact hF
    have H := Lib.hid (chkA_err (a := a) hF)
    clear hF
    go_wp2_with fail
    go_ret
    exact ⟨ret_int H.out.symm, hB⟩

set_option maxHeartbeats 1600000 in
theorem ref16Valid_any (p : Option Addr) (c : Nat) (v : List (List Int)) (q : Option Addr) (d : Nat) (a : List Int) (w : World) (hx : Mat w p c v) (hi : Ints w q d a) :
    Calls Try.prog 31 #[.agg #[.slice p v.length c], .slice q a.length d] w fun e w' => e = .returned (.int .i64 (chkA v a)) ∧ Below w.heap.size w w' := by
  obtain ⟨W0, hW0⟩ : ∃ W0, w.alloc (.cells #[.slice p v.length c] 24) = W0 := ⟨_, rfl⟩
  have hB : Below w.heap.size w W0 := below_alloc hW0
  have bX : BoxV W0 w.heap.size [.slice p v.length c] := BoxV.new rfl hW0
  have hx := hx.below hB (Nat.le_refl _)
  have hi := hi.below hB (Nat.le_refl _)
  have x0 := bX.cell 0 _ rfl
  have HW0 := Lib.hid hW0
  clear hW0
  have hl1 := hx.length_le
  have hl2 := hi.length_le
  go_enter Try.func31, Try.ntmps31
  go_wp2_with fail
  rw [HW0.out]
  refine (ref16Check_any p c v _ hx).mono ?_
  rintro e w1 ⟨rfl, hb1⟩
  have hx := hx.below hb1 (Nat.le_refl _)
  have hi := hi.below hb1 (Nat.le_refl _)
  have bX := bX.below hb1
  have x0 := bX.cell 0 _ rfl
  have hB := hB.trans (hb1.mono hB.size)
  by_cases hF : chkG v = 0
  · rw [hF]
    have hg := chkG_zero.1 hF
    have h0 : 0 < v.length := hg.1
    obtain ⟨b, o, rfl, _, q0, d0, hc0, hi0⟩ := hx.get h0
    rw [Nat.add_zero] at hc0
    have h01 : (0 : Int) < v.length := by omega
    by_cases hl : a.length = (rget v 0).length
    · have hlb : ((a.length : Int) != ((rget v 0).length : Int)) = false := by rw [hl]; simp
      have Hg := Lib.hid hg
      have Hl := Lib.hid hl
      have HF := Lib.hid hF
      clear hg hl hF
      go_wp2_with fail
      clear hc0 hi0
      go_loopw [5] (fun t wr => ∃ k : Nat, k ≤ a.length ∧ t = .int .i64 k ∧ Hid (∀ j, j < k → -1 ≤ iget a j ∧ iget a j < v.length) ∧ ∃ n, wr = w1.drewN n) (fun t _ => a.length - (intOf t).toNat)
      case atStart => exact ⟨0, Nat.zero_le _, rfl, (fun j hj => absurd hj (Nat.not_lt_zero j)), drew_refl _⟩
      case round =>
        obtain ⟨k, hk, rfl, ht, hw⟩ := hrel
        have hi := hi.drew hw
        have x0 : wr.cell? ⟨w.heap.size, 0, none⟩ = some (.slice (some ⟨b, o, none⟩) v.length c) := by obtain ⟨n, rfl⟩ := hw; exact x0
        have Hw := Lib.hid hw
        clear hw
        by_cases hlt : k < a.length
        · obtain ⟨b2, o2, rfl, _, hc2⟩ := hi.get hlt
          have hk1 : (k : Int) < a.length := by omega
          by_cases hlow : iget a k < -1
          · have hdl : decide (iget a k < -1) = true := by simpa using hlow
            have H : Hid (chkA v a = 8) := chkA_bad HF.out fun h => by have := (h.2 k hlt).1; omega
            clear hlow
            go_wp2_with fail
            go_quiet (fail)
            go_wp2_with fail
            go_ret
            exact ⟨ret_int H.out.symm, (hB.drewP Hw.out).drewN' _⟩
          · have hdl : decide (iget a k < -1) = false := by simpa using hlow
            by_cases hhi : (v.length : Int) ≤ iget a k
            · have hdh : decide ((v.length : Int) ≤ iget a k) = true := by simpa using hhi
              have H : Hid (chkA v a = 8) := chkA_bad HF.out fun h => by have := (h.2 k hlt).2; omega
              clear hlow hhi
              go_wp2_with fail
              go_quiet (fail)
              go_wp2_with fail
              go_ret
              exact ⟨ret_int H.out.symm, (hB.drewP Hw.out).drewN' _⟩
            · have hdh : decide ((v.length : Int) ≤ iget a k) = false := by simpa using hhi
              have HP : Hid (-1 ≤ iget a k ∧ iget a k < v.length) := show _ ∧ _ by omega
              clear hlow hhi
              go_wp2_with fail
              go_quiet (fail)
              go_wp2_with fail
              go_roundw
              case rel => exact ⟨k + 1, by omega, by go_num, snoc_all' ht.out HP.out, drew_drewN _ Hw.out⟩
              case measure => simp [intOf]; omega
        · have hk1 : ¬ (k : Int) < a.length := by omega
          have H : Hid (chkA v a = 0) := chkA_ok Hg.out ⟨Hl.out, fun j hj => ht.out j (by omega)⟩
          go_wp2_with fail
          go_ret
          exact ⟨ret_int H.out.symm, hB.drewP Hw.out⟩
    · have hlb : ((a.length : Int) != ((rget v 0).length : Int)) = true := by rw [bne_iff_ne]; omega
      have H : Hid (chkA v a = 8) := chkA_bad hF fun h => hl h.1
      clear hl hF hg
      go_wp2_with fail
      go_ret
      exact ⟨ret_int H.out.symm, hB⟩
  · have hz : (chkG v != 0) = true := by rw [bne_iff_ne]; exact hF
    have H := Lib.hid (chkA_err (a := a) hF)
    clear hF
    go_wp2_with fail
    refine (ref16Check_any p c v _ hx).mono ?_
    rintro e w2 ⟨rfl, hb2⟩
    go_wp2_with fail
    go_ret
    exact ⟨ret_int H.out.symm, hB.trans (hb2.mono hB.size)⟩
end Go.Proofs.Ytiohehofnlmenaa
