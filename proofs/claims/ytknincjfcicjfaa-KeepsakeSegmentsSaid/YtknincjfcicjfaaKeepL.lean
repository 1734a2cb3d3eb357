/- The walks of isOrder, looked, and of the reference's Order, Looked, Great; rankings in plain words; no condition but sizes. -/
import Derived.Test.YtknincjfcicjfaaKeepS
import Derived.Test.YtknincjfcicjfaaSortP
import Derived.Test.YtknincjfcicjfaaBoxB
import Derived.BigQuiet
namespace Go.Proofs.Ytknincjfcicjfaa
set_option linter.unusedVariables false
set_option linter.unusedSimpArgs false
open Go.ChangeShapes Go.WideShapes Go.ChangeAt Go.RowKit Go.Deep

theorem kAB_true {a : List Int} {n : Nat} (h : IsA a n) : isAB a n = true := by simp [isAB, h]
theorem kAB_false {a : List Int} {n : Nat} (h : ¬ IsA a n) : isAB a n = false := by simp [isAB, h]
theorem kAB_asg_true {a : List Int} {n : Nat} (h : ∀ j, j < (srt a).length → iget (srt a) j = j) (hn : a.length = n) : isAB a n = true := kAB_true ((asgP_iff a n).1 ⟨h, by rw [srt_length]; exact hn⟩)
theorem kAB_asg_false {a : List Int} {n : Nat} (h : ¬ ∀ j, j < (srt a).length → iget (srt a) j = j) : isAB a n = false := kAB_false fun hA => h ((asgP_iff a n).2 hA).1
theorem cell_new_k (w : World) (v : Value) (t : TypeId) : (w.alloc (.cells #[v] t)).cell? ⟨w.heap.size, 0, none⟩ = some v := by
  have h := World.alloc_heap_new w (.cells #[v] t (0, 0))
  simp only [World.cell?]
  rw [h]
  rfl
set_option maxHeartbeats 800000 in
theorem isOrder_any (p : Option Addr) (c : Nat) (a : List Int) (n : Nat) (w : World) (hn : n ≤ 9223372036854775807) (hx : Ints w p c a) (hl : a.length ≤ 1000000) :
    Calls Try.prog 34 #[.slice p a.length c, .int .i64 n] w fun e w' => e = .returned (.bool (isAB a n)) ∧ Below w.heap.size w w' := by
  go_enter Try.func34, Try.ntmps34
  go_wp2_with fail
  refine (values_any p a.length c w).mono ?_
  rintro e w1 ⟨rfl, hw1⟩
  have hB1 : Below w.heap.size w w1 := by rw [hw1]; exact (Below.refl _ w).alloc (Nat.le_refl _) _
  have hs1 : w1.heap.size = w.heap.size + 1 := by rw [hw1]; simp
  have hc1 : w1.cell? ⟨w.heap.size, 0, none⟩ = some (.slice p a.length c) := by rw [hw1]; exact cell_new_k w _ _
  have hx1 := hx.below hB1 (Nat.le_refl _)
  clear hw1
  go_wp2_with fail
  refine (sorted_any w.heap.size p c a hl w1 (by omega) hc1 hx1).mono ?_
  rintro e w2 ⟨q, d, rfl, ho, hb⟩
  have hb2 := hB1.trans (hb.mono (by omega))
  have hI := ho.ints
  have hll := hI.length_le
  clear ho hb hx1 hc1 hs1 hB1
  go_wp2_with fail
  go_loop [11] (fun i => ∃ k : Nat, k ≤ (srt a).length ∧ i = .int .i64 k ∧ Hid (∀ j, j < k → iget (srt a) j = j)) (fun i => (srt a).length - (intOf i).toNat)
  case atStart => exact ⟨0, by omega, rfl, fun j hj => by omega⟩
  case round =>
    obtain ⟨k, hk, rfl, ht⟩ := hrel
    by_cases hlt : k < (srt a).length
    · have hk1 : (k : Int) < (srt a).length := by omega
      obtain ⟨b, o, rfl, _, hc⟩ := hI.get hlt
      by_cases he : iget (srt a) k = k
      · have hb : (iget (srt a) k != (k : Int)) = false := by simp [he]
        have He := Lib.hid he
        clear he
        go_wp2_with fail
        go_round
        case rel => exact ⟨k + 1, by omega, by go_num, snoc_all' ht.out He.out⟩
        case measure => simp [intOf]; omega
      · have hb : (iget (srt a) k != (k : Int)) = true := by rw [bne_iff_ne]; exact he
        have He := Lib.hid he
        clear he
        go_wp2_with fail
        go_ret
        exact ⟨ret_bool (kAB_asg_false fun hA => He.out (hA k hlt)).symm, hb2⟩
    · have hk1 : ¬ (k : Int) < (srt a).length := by omega
      go_wp2_with fail
      go_ret
      refine ⟨ret_bool ?_, hb2⟩
      by_cases hn2 : a.length = n
      · rw [kAB_asg_true (fun j hj => ht.out j (by omega)) hn2, hn2]; simp
      · rw [kAB_false (fun hA => hn2 hA.1), beq_eq_false_iff_ne]; omega
/-- Nothing but what is wanted, and no more of it. -/
theorem sub_perm : ∀ {l m : List Int}, l.Nodup → (∀ x ∈ l, x ∈ m) → m.length ≤ l.length → m.Perm l
  | [], m, _, _, h => by
    have : m = [] := List.eq_nil_of_length_eq_zero (by simpa using h)
    rw [this]
  | a :: l, m, hn, hs, h => by
    have ha : a ∈ m := hs a (List.mem_cons_self ..)
    have hn2 := List.nodup_cons.1 hn
    have h2 := sub_perm (l := l) (m := m.erase a) hn2.2 (fun x hx => by
      refine (List.mem_erase_of_ne ?_).2 (hs x (List.mem_cons_of_mem _ hx))
      rintro rfl; exact hn2.1 hx) (by
      rw [List.length_erase_of_mem ha]
      simp only [List.length_cons] at h
      omega)
    exact (List.perm_cons_erase ha).trans (h2.cons a)
theorem isA_of_all {l : List Int} {n : Nat} (h : ∀ k : Nat, k < n → (k : Int) ∈ l) (hl : l.length = n) : IsA l n := by
  have hnd : (upto n).Nodup := by
    refine List.Pairwise.map _ (fun a b h e => h ?_) List.nodup_range
    omega
  have hp := sub_perm hnd (fun x hx => by
    unfold upto at hx
    obtain ⟨k, hk, rfl⟩ := List.mem_map.1 hx
    exact h k (List.mem_range.1 hk)) (by rw [hl]; simp [upto])
  refine ⟨hl, fun j hj => ?_⟩
  rw [hp.count_eq, count_upto, if_pos hj]
theorem isA_mem {l : List Int} {n : Nat} (h : IsA l n) {k : Nat} (hk : k < n) : (k : Int) ∈ l := List.count_pos_iff.1 (by rw [h.2 k hk]; omega)
set_option maxHeartbeats 800000 in
theorem order29_any (p : Option Addr) (c : Nat) (a : List Int) (n : Nat) (w : World) (hn : n ≤ 9223372036854775807) (hx : Ints w p c a) :
    Calls Try.prog 26 #[.slice p a.length c, .int .i64 n] w fun e w' => e = .returned (.bool (isAB a n)) ∧ w' = w := by
  have hl1 := hx.length_le
  have HH := Lib.hid (fun (k : Nat) => has29_any p c a (k : Int) w hx)
  go_enter Try.func26, Try.ntmps26
  go_wp2_with fail
  go_loop [5] (fun i => ∃ k : Nat, k ≤ n ∧ i = .int .i64 k ∧ Hid (∀ j : Nat, j < k → (j : Int) ∈ a)) (fun i => n - (intOf i).toNat)
  case atStart => exact ⟨0, by omega, rfl, fun j hj => by omega⟩
  case round =>
    obtain ⟨k, hk, rfl, ht⟩ := hrel
    by_cases hlt : k < n
    · have hk1 : (k : Int) < n := by omega
      have hH := HH.out k
      cases hb : hasB a (k : Int) with
      | true =>
        rw [hb] at hH
        have H := Lib.hid hH
        have Hm : Hid ((k : Int) ∈ a) := by unfold Hid; simpa [hasB] using hb
        clear hb hH
        go_wp2_with fail
        refine H.out.mono ?_
        rintro e w2 ⟨rfl, rfl⟩
        go_wp2_with fail
        go_round
        case rel => exact ⟨k + 1, by omega, by go_num, snoc_all' ht.out Hm.out⟩
        case measure => simp [intOf]; omega
      | false =>
        rw [hb] at hH
        have H := Lib.hid hH
        have Hm : Hid ((k : Int) ∉ a) := by unfold Hid; simpa [hasB] using hb
        clear hb hH
        go_wp2_with fail
        refine H.out.mono ?_
        rintro e w2 ⟨rfl, rfl⟩
        go_wp2_with fail
        go_ret
        exact ⟨ret_bool (kAB_false fun hA => Hm.out (isA_mem hA hlt)).symm, rfl⟩
    · have hk1 : ¬ (k : Int) < n := by omega
      go_wp2_with fail
      go_ret
      refine ⟨ret_bool ?_, rfl⟩
      by_cases hn2 : a.length = n
      · rw [kAB_true (isA_of_all (fun j hj => ht.out j (by omega)) hn2), hn2]; simp
      · rw [kAB_false (fun hA => hn2 hA.1), beq_eq_false_iff_ne]; omega

/-- Rankings and an allocation that fit. -/
def Lkd (a : List Int) (v : List (List Int)) : Prop := v.length ≤ 6 ∧ a.length ≤ 30 ∧ 0 < v.length ∧ (∀ i, i < v.length → IsA (rget v i) a.length) ∧ ∀ k, k < a.length → -1 ≤ iget a k ∧ iget a k < v.length
instance (a : List Int) (v : List (List Int)) : Decidable (Lkd a v) := by unfold Lkd; infer_instance
def lkdI (a : List Int) (v : List (List Int)) : Int := if 6 < v.length ∨ 30 < a.length then 4 else if Lkd a v then 0 else 8
theorem lkdI_zero {a : List Int} {v : List (List Int)} : lkdI a v = 0 ↔ Lkd a v := by
  constructor
  · intro h
    unfold lkdI at h
    by_cases h1 : 6 < v.length ∨ 30 < a.length
    · simp [h1] at h
    · by_cases h3 : Lkd a v
      · exact h3
      · simp [h1, h3] at h
  · intro h
    unfold lkdI
    rw [if_neg (by have := h.1; have := h.2.1; omega), if_pos h]
theorem lkdI_many {a : List Int} {v : List (List Int)} (h : 6 < v.length ∨ 30 < a.length) : lkdI a v = 4 := by simp [lkdI, h]
theorem lkdI_bad {a : List Int} {v : List (List Int)} (h : ¬ (6 < v.length ∨ 30 < a.length)) (h3 : ¬ Lkd a v) : lkdI a v = 8 := by simp [lkdI, h, h3]

/-- A predicate that holds one variable of its own, at the rows of a table. -/
def AsksR1 (K : Nat) (u : Value) (v : List (List Int)) (P : Nat → Bool) (R : World → Prop) : Prop :=
  ∀ j q d W, j < v.length → R W → Ints W q d (rget v j) → Calls Try.prog K #[.slice q (rget v j).length d, u] W fun e w' => e = .returned (.bool (P j)) ∧ R w'
set_option maxHeartbeats 800000 in
theorem indexFuncR1_any (K : Nat) (u : Value) (P : Nat → Bool) (R : World → Prop) (hcf : ∀ args W, (callFunc K args).run Try.prog W = .ok (.enter K args) W) (p : Option Addr) (c : Nat) (v : List (List Int)) (w : World) (hR : R w) (hI : Hid (∀ W, R W → Mat W p c v)) (hf : AsksR1 K u v P R) :
    Calls Try.prog 59 #[.slice p v.length c, .func (.func K) #[] #[u]] w fun e w' => e = .returned (.int .i64 (firstN P v.length)) ∧ R w' := by
  have hl1 := (hI.out _ hR).length_le
  have Hf := Lib.hid hf
  clear hf
  go_enter Try.func59, Try.ntmps59
  go_wp2_with fail
  go_loopw [8] (fun t wr => ∃ k : Nat, k ≤ v.length ∧ t = .int .i64 k ∧ Hid (∀ j, j < k → P j = false) ∧ R wr) (fun t _ => v.length - (intOf t).toNat)
  case atStart => exact ⟨0, Nat.zero_le _, rfl, (fun j hj => absurd hj (Nat.not_lt_zero j)), hR⟩
  case round =>
    obtain ⟨k, hk, rfl, ht, hRr⟩ := hrel
    have hx := hI.out _ hRr
    by_cases hlt : k < v.length
    · obtain ⟨b, o, rfl, _, q, d, hc, hi⟩ := hx.get hlt
      have hk1 : (k : Int) < v.length := by omega
      go_wp2_with fail
      refine (Hf.out k q d _ hlt hRr hi).mono ?_
      rintro e w' ⟨rfl, hR'⟩
      cases hP : P k with
      | true =>
        have HP := Lib.hid hP
        clear hP
        go_wp2_with fail
        go_ret
        exact ⟨ret_int (firstN_of hlt HP.out ht.out).symm, hR'⟩
      | false =>
        have HP := Lib.hid hP
        clear hP
        go_wp2_with fail
        go_roundw
        case rel => exact ⟨k + 1, by omega, by go_num, snoc_all' ht.out HP.out, hR'⟩
        case measure => simp [intOf]; omega
    · have hk1 : ¬ (k : Int) < v.length := by omega
      go_wp2_with fail
      go_ret
      exact ⟨ret_int (firstN_none (fun j hj => ht.out j (by omega))).symm, hRr⟩
set_option maxHeartbeats 400000 in
theorem containsFuncR1_any (K : Nat) (u : Value) (P : Nat → Bool) (R : World → Prop) (hcf : ∀ args W, (callFunc K args).run Try.prog W = .ok (.enter K args) W) (p : Option Addr) (c : Nat) (v : List (List Int)) (w : World) (hR : R w) (hI : Hid (∀ W, R W → Mat W p c v)) (hf : AsksR1 K u v P R) :
    Calls Try.prog 49 #[.slice p v.length c, .func (.func K) #[] #[u]] w fun e w' => e = .returned (.bool (anyN P v.length)) ∧ R w' := by
  have HA := Lib.hid (firstN_any P v.length)
  have Hf := Lib.hid hf
  clear hf
  go_enter Try.func49, Try.ntmps49
  go_wp2_with fail
  refine (indexFuncR1_any K u P R hcf p c v w hR hI Hf.out).mono ?_
  rintro e w' ⟨rfl, hR'⟩
  go_wp2_with fail
  go_ret
  exact ⟨ret_bool HA.out, hR'⟩
theorem enter_looked1 (args : Array Value) (W : World) : (callFunc 50 args).run Try.prog W = .ok (.enter 50 args) W := by kernel_rfl
theorem enter_looked2 (args : Array Value) (W : World) : (callFunc 52 args).run Try.prog W = .ok (.enter 52 args) W := by kernel_rfl
theorem looked1_any (q : Option Addr) (d : Nat) (l : List Int) (B : Nat) (pa : Option Addr) (na ca : Nat) (W : World) (hna : na ≤ 9223372036854775807) (hl : l.length ≤ 1000000) (hi : Ints W q d l) (hc : W.cell? ⟨B, 0, none⟩ = some (.slice pa na ca)) :
    Calls Try.prog 50 #[.slice q l.length d, .pointer (some ⟨B, 0, none⟩)] W fun e w' => e = .returned (.bool (!isAB l na)) ∧ Below W.heap.size W w' := by
  have HO := Lib.hid (isOrder_any q d l na W hna hi hl)
  go_enter Try.func50, Try.ntmps50
  go_wp2_with fail
  refine HO.out.mono ?_
  rintro e w2 ⟨rfl, hb⟩
  go_wp2_with fail
  go_ret
  exact ⟨rfl, hb⟩
/-- No owner. -/
def oddOwn (n : Nat) (x : Int) : Bool := decide (x < -1 ∨ (n : Int) ≤ x)
theorem looked2_any (x : Int) (B : Nat) (pv : Option Addr) (nv cv : Nat) (W : World) (hx : in64 x) (hc : W.cell? ⟨B, 0, none⟩ = some (.slice pv nv cv)) :
    Calls Try.prog 52 #[.int .i64 x, .pointer (some ⟨B, 0, none⟩)] W fun e w' => e = .returned (.bool (oddOwn nv x)) ∧ w' = W := by
  obtain ⟨h1, h2⟩ := hx
  by_cases hlow : x < -1
  · have hd : decide (x < -1) = true := by simpa using hlow
    go_enter Try.func52, Try.ntmps52
    go_wp2_with fail
    go_ret
    exact ⟨ret_bool (by simp [oddOwn, hlow]), rfl⟩
  · have hd : decide (x < -1) = false := by simpa using hlow
    go_enter Try.func52, Try.ntmps52
    go_wp2_with fail
    go_ret
    exact ⟨ret_bool (by unfold oddOwn; rw [Bool.eq_iff_iff, decide_eq_true_iff, decide_eq_true_iff]; omega), rfl⟩
set_option maxHeartbeats 2000000 in
set_option maxRecDepth 100000 in
theorem looked_any (pa : Option Addr) (ca : Nat) (a : List Int) (p : Option Addr) (c : Nat) (v : List (List Int)) (w : World) (ha : Ints w pa ca a) (hx : Mat w p c v) (hrl : Hid (∀ i, i < v.length → (rget v i).length ≤ 1000000)) :
    Calls Try.prog 33 #[.slice pa a.length ca, .slice p v.length c] w fun e w' => e = .returned (.int .i64 (lkdI a v)) ∧ Below w.heap.size w w' := by
  obtain ⟨Wa, hWa⟩ : ∃ W, w.alloc (.cells #[.slice pa a.length ca] 23) = W := ⟨_, rfl⟩
  obtain ⟨W0, hW0⟩ : ∃ W, Wa.alloc (.cells #[.slice p v.length c] 22) = W := ⟨_, rfl⟩
  have hsa : Wa.heap.size = w.heap.size + 1 := by rw [← hWa]; simp
  have b2 : BoxV Wa w.heap.size [.slice pa a.length ca] := BoxV.new rfl hWa
  have b3 : BoxV W0 (w.heap.size + 1) [.slice p v.length c] := BoxV.new hsa hW0
  have hBa := below_alloc hWa
  have hBb := below_alloc hW0
  replace b2 := b2.below hBb
  have hB0 : Below w.heap.size w W0 := hBa.trans (hBb.mono hBa.size)
  have ha0 := ha.below hB0 (Nat.le_refl _)
  have hx0 := hx.below hB0 (Nat.le_refl _)
  have k2 := b2.cell 0 _ rfl
  have k3 := b3.cell 0 _ rfl
  have l2 := b2.lt
  have l3 := b3.lt
  have hla := ha.length_le
  have hlv := hx.length_le
  have HWa := Lib.hid hWa
  have HW0 := Lib.hid hW0
  clear hWa hW0 hBa hBb b2 b3 hsa hx ha
  by_cases hm : 6 < v.length
  · have hd : decide (6 < (v.length : Int)) = true := by rw [decide_eq_true_iff]; omega
    have H := Lib.hid (lkdI_many (a := a) (v := v) (.inl hm))
    clear hm
    go_enter Try.func33, Try.ntmps33
    go_upto_region 1 with fail
    rw [HWa.out, HW0.out]
    go_wp2_with fail
    go_ret
    exact ⟨ret_int H.out.symm, hB0⟩
  have hd : decide (6 < (v.length : Int)) = false := by rw [decide_eq_false_iff_not]; omega
  by_cases hm2 : 30 < a.length
  · have hd2 : decide (30 < (a.length : Int)) = true := by rw [decide_eq_true_iff]; omega
    have H := Lib.hid (lkdI_many (a := a) (v := v) (.inr hm2))
    clear hm hm2
    go_enter Try.func33, Try.ntmps33
    go_upto_region 1 with fail
    rw [HWa.out, HW0.out]
    go_wp2_with fail
    go_ret
    exact ⟨ret_int H.out.symm, hB0⟩
  have hd2 : decide (30 < (a.length : Int)) = false := by rw [decide_eq_false_iff_not]; omega
  have hA : ¬ (6 < v.length ∨ 30 < a.length) := by omega
  by_cases h0 : v.length = 0
  · have hd3 : ((v.length : Int) == 0) = true := by rw [beq_iff_eq]; omega
    have H := Lib.hid (lkdI_bad (a := a) (v := v) hA (fun h => by have := h.2.2.1; omega))
    clear hm hm2 hA h0
    go_enter Try.func33, Try.ntmps33
    go_upto_region 1 with fail
    rw [HWa.out, HW0.out]
    go_wp2_with fail
    go_ret
    exact ⟨ret_int H.out.symm, hB0⟩
  have hd3 : ((v.length : Int) == 0) = false := by rw [beq_eq_false_iff_ne]; omega
  have hCF := containsFuncR1_any 50 (.pointer (some ⟨w.heap.size, 0, none⟩)) (fun j => !isAB (rget v j) a.length) (fun W => Below W0.heap.size W0 W) enter_looked1 p c v W0 (Below.refl _ _) (Lib.hid fun W h => hx0.below h (Nat.le_refl _)) (fun j q d W hj hR hi => by
    refine (looked1_any q d (rget v j) w.heap.size pa a.length ca W hla (hrl.out j hj) hi ((hR.cell (p := ⟨w.heap.size, 0, none⟩) l2).trans k2)).mono ?_
    rintro e w' ⟨rfl, hb⟩
    exact ⟨rfl, hR.trans (hb.mono hR.size)⟩)
  have hB2 : ∀ W, Below W0.heap.size W0 W → Calls Try.prog 51 #[.slice pa a.length ca, .func (.func 52) #[] #[.pointer (some ⟨w.heap.size + 1, 0, none⟩)]] W fun e w' => e = .returned (.bool (anyN (fun j => oddOwn v.length (iget a j)) a.length)) ∧ w' = W := fun W hW =>
    containsFunc1_any 52 (.pointer (some ⟨w.heap.size + 1, 0, none⟩)) (fun j => oddOwn v.length (iget a j)) (fun W' => W' = W) enter_looked2 pa ca a W rfl (Lib.hid fun W' h => h ▸ ha0.below hW (Nat.le_refl _)) (fun j W' hj hR => by
      subst hR
      exact looked2_any _ _ p v.length c _ (ha0.rng j hj) ((hW.cell (p := ⟨w.heap.size + 1, 0, none⟩) l3).trans k3))
  cases hq : anyN (fun j => !isAB (rget v j) a.length) v.length with
  | true =>
    obtain ⟨j, hj, hj2⟩ := anyN_true.1 hq
    have H := Lib.hid (lkdI_bad (a := a) (v := v) hA (fun h => by rw [kAB_true (h.2.2.2.1 j hj)] at hj2; cases hj2))
    rw [hq] at hCF
    have HC := Lib.hid hCF
    clear hm hm2 hA h0 hCF hB2 hq hj hj2
    go_enter Try.func33, Try.ntmps33
    go_upto_region 1 with fail
    rw [HWa.out, HW0.out]
    go_wp2_with fail
    refine HC.out.mono ?_
    rintro e w2 ⟨rfl, hb⟩
    go_wp2_with fail
    go_ret
    exact ⟨ret_int H.out.symm, hB0.trans (hb.mono hB0.size)⟩
  | false =>
    have hall := anyN_false.1 hq
    rw [hq] at hCF
    have HC := Lib.hid hCF
    cases hq2 : anyN (fun j => oddOwn v.length (iget a j)) a.length with
    | true =>
      obtain ⟨j, hj, hj2⟩ := anyN_true.1 hq2
      have H := Lib.hid (lkdI_bad (a := a) (v := v) hA (fun h => by have := h.2.2.2.2 j hj; unfold oddOwn at hj2; rw [decide_eq_true_iff] at hj2; omega))
      rw [hq2] at hB2
      have HB2 := Lib.hid hB2
      clear hm hm2 hA h0 hCF hB2 hq hj hj2 hall hq2
      go_enter Try.func33, Try.ntmps33
      go_upto_region 1 with fail
      rw [HWa.out, HW0.out]
      go_wp2_with fail
      refine HC.out.mono ?_
      rintro e w2 ⟨rfl, hb⟩
      have k2' := (hb.cell (p := ⟨w.heap.size, 0, none⟩) l2).trans k2
      go_wp2_with fail
      refine (HB2.out _ hb).mono ?_
      rintro e w3 ⟨rfl, rfl⟩
      go_wp2_with fail
      go_ret
      exact ⟨ret_int H.out.symm, hB0.trans (hb.mono hB0.size)⟩
    | false =>
      have hall2 := anyN_false.1 hq2
      have H := Lib.hid (lkdI_zero.2 (show Lkd a v from ⟨by omega, by omega, by omega, fun i hi => by have := hall i hi; simpa [isAB] using this, fun k hk => by have := hall2 k hk; unfold oddOwn at this; rw [decide_eq_false_iff_not] at this; omega⟩))
      rw [hq2] at hB2
      have HB2 := Lib.hid hB2
      clear hm hm2 hA h0 hCF hB2 hq hall hq2 hall2
      go_enter Try.func33, Try.ntmps33
      go_upto_region 1 with fail
      rw [HWa.out, HW0.out]
      go_wp2_with fail
      refine HC.out.mono ?_
      rintro e w2 ⟨rfl, hb⟩
      have k2' := (hb.cell (p := ⟨w.heap.size, 0, none⟩) l2).trans k2
      go_wp2_with fail
      refine (HB2.out _ hb).mono ?_
      rintro e w3 ⟨rfl, rfl⟩
      go_wp2_with fail
      go_ret
      exact ⟨ret_int H.out.symm, hB0.trans (hb.mono hB0.size)⟩
set_option maxHeartbeats 2000000 in
set_option maxRecDepth 100000 in
theorem ref29Looked_any (pa : Option Addr) (ca : Nat) (a : List Int) (p : Option Addr) (c : Nat) (v : List (List Int)) (w : World) (ha : Ints w pa ca a) (hx : Mat w p c v) :
    Calls Try.prog 25 #[.slice pa a.length ca, .slice p v.length c] w fun e w' => e = .returned (.int .i64 (lkdI a v)) ∧ ∃ n, w' = w.drewN n := by
  have hla := ha.length_le
  have hlv := hx.length_le
  by_cases hm : 6 < v.length
  · have hd : decide (6 < (v.length : Int)) = true := by rw [decide_eq_true_iff]; omega
    have H := Lib.hid (lkdI_many (a := a) (v := v) (.inl hm))
    clear hm
    go_enter Try.func25, Try.ntmps25
    go_wp2_with fail
    go_ret
    exact ⟨ret_int H.out.symm, drew_refl _⟩
  have hd : decide (6 < (v.length : Int)) = false := by rw [decide_eq_false_iff_not]; omega
  by_cases hm2 : 30 < a.length
  · have hd2 : decide (30 < (a.length : Int)) = true := by rw [decide_eq_true_iff]; omega
    have H := Lib.hid (lkdI_many (a := a) (v := v) (.inr hm2))
    clear hm hm2
    go_enter Try.func25, Try.ntmps25
    go_wp2_with fail
    go_ret
    exact ⟨ret_int H.out.symm, drew_refl _⟩
  have hd2 : decide (30 < (a.length : Int)) = false := by rw [decide_eq_false_iff_not]; omega
  have hA : ¬ (6 < v.length ∨ 30 < a.length) := by omega
  by_cases h0 : v.length = 0
  · have hd3 : ((v.length : Int) == 0) = true := by rw [beq_iff_eq]; omega
    have H := Lib.hid (lkdI_bad (a := a) (v := v) hA (fun h => by have := h.2.2.1; omega))
    clear hm hm2 hA h0
    go_enter Try.func25, Try.ntmps25
    go_wp2_with fail
    go_ret
    exact ⟨ret_int H.out.symm, drew_refl _⟩
  have hd3 : ((v.length : Int) == 0) = false := by rw [beq_eq_false_iff_ne]; omega
  have HBad := Lib.hid (fun h => lkdI_bad (a := a) (v := v) hA h)
  have hg1 : v.length ≤ 6 := by omega
  have hg2 : a.length ≤ 30 := by omega
  have hg3 : 0 < v.length := by omega
  have HR := Lib.hid (fun j q d W (hj : j < v.length) (hi : Ints W q d (rget v j)) => order29_any q d (rget v j) a.length W hla hi)
  clear hm hm2 hA h0
  go_enter Try.func25, Try.ntmps25
  go_wp2_with fail
  go_loop [5] (fun t => ∃ k : Nat, k ≤ v.length ∧ t = .int .i64 k ∧ Hid (∀ i, i < k → IsA (rget v i) a.length)) (fun t => v.length - (intOf t).toNat)
  case atStart => exact ⟨0, Nat.zero_le _, rfl, fun j hj => absurd hj (Nat.not_lt_zero j)⟩
  case round =>
    obtain ⟨k, hk, rfl, ht⟩ := hrel
    by_cases hlt : k < v.length
    · have hk1 : (k : Int) < v.length := by omega
      obtain ⟨b, o, rfl, _, q, d, hc, hi⟩ := hx.get hlt
      have hH := HR.out k q d w hlt hi
      by_cases hq : IsA (rget v k) a.length
      · rw [kAB_true hq] at hH
        have HH := Lib.hid hH
        have HQ := Lib.hid hq
        clear hq hH
        go_wp2_with fail
        refine HH.out.mono ?_
        rintro e w2 ⟨rfl, rfl⟩
        go_wp2_with fail
        go_round
        case rel => exact ⟨k + 1, by omega, by go_num, snoc_all' ht.out HQ.out⟩
        case measure => (simp [intOf] <;> omega)
      · rw [kAB_false hq] at hH
        have HH := Lib.hid hH
        have HB := Lib.hid (HBad.out (fun h => hq (h.2.2.2.1 k hlt)))
        clear hq hH
        go_wp2_with fail
        refine HH.out.mono ?_
        rintro e w2 ⟨rfl, rfl⟩
        go_wp2_with fail
        go_ret
        exact ⟨ret_int HB.out.symm, drew_refl _⟩
    · have hk1 : ¬ (k : Int) < v.length := by omega
      have HAll : Hid (∀ i, i < v.length → IsA (rget v i) a.length) := fun i hi => ht.out i (by omega)
      go_wp2_with fail
      go_loopw [6] (fun t wr => ∃ j : Nat, j ≤ a.length ∧ t = .int .i64 j ∧ Hid (∀ i, i < j → -1 ≤ iget a i ∧ iget a i < v.length) ∧ ∃ n, wr = w.drewN n) (fun t _ => a.length - (intOf t).toNat)
      case atStart => exact ⟨0, Nat.zero_le _, rfl, (fun j hj => absurd hj (Nat.not_lt_zero j)), drew_refl _⟩
      case round =>
        obtain ⟨j, hj, rfl, ht2, hw⟩ := hrel
        by_cases hlt2 : j < a.length
        · have hj1 : (j : Int) < a.length := by omega
          obtain ⟨b, o, rfl, _, hc⟩ := (ha.drew hw).get hlt2
          have hrg := ha.rng j hlt2
          have HB2 : Hid (¬ (-1 ≤ iget a j ∧ iget a j < v.length) → lkdI a v = 8) := fun hn => HBad.out (fun h => hn (h.2.2.2.2 j hlt2))
          have HOk : Hid (-1 ≤ iget a j ∧ iget a j < v.length → -1 ≤ iget a j ∧ iget a j < v.length) := id
          obtain ⟨x, ex⟩ : ∃ x, iget a j = x := ⟨_, rfl⟩
          have Ex := Lib.hid ex
          rw [ex] at hc HB2 hrg
          have Hw := Lib.hid hw
          clear hw ex HOk
          by_cases c1 : x < -1
          · have e1 : decide (x < -1) = true := by simpa using c1
            have HF := Lib.hid (HB2.out (by omega))
            clear c1
            go_wp2_with fail
            try go_quiet (fail)
            try go_wp2_with fail
            go_ret
            exact ⟨ret_int HF.out.symm, by first | exact drew_drewN _ Hw.out | exact Hw.out⟩
          · have e1 : decide (x < -1) = false := by simpa using c1
            by_cases c2 : (v.length : Int) ≤ x
            · have e2 : decide ((v.length : Int) ≤ x) = true := by simpa using c2
              have HF := Lib.hid (HB2.out (by omega))
              clear c1 c2
              go_wp2_with fail
              try go_quiet (fail)
              try go_wp2_with fail
              go_ret
              exact ⟨ret_int HF.out.symm, by first | exact drew_drewN _ Hw.out | exact Hw.out⟩
            · have e2 : decide ((v.length : Int) ≤ x) = false := by simpa using c2
              have HP : Hid (-1 ≤ iget a j ∧ iget a j < v.length) := by unfold Hid; rw [Ex.out]; omega
              clear c1 c2
              go_wp2_with fail
              try go_quiet (fail)
              try go_wp2_with fail
              go_roundw
              case rel => exact ⟨j + 1, by omega, by go_num, snoc_all' ht2.out HP.out, by first | exact drew_drewN _ Hw.out | exact Hw.out⟩
              case measure => (simp [intOf] <;> omega)
        · have hj1 : ¬ (j : Int) < a.length := by omega
          have HF := Lib.hid (lkdI_zero.2 (show Lkd a v from ⟨hg1, hg2, hg3, HAll.out, fun i hi => ht2.out i (by omega)⟩))
          have Hw := Lib.hid hw
          clear hw
          go_wp2_with fail
          go_ret
          exact ⟨ret_int HF.out.symm, Hw.out⟩
/-- What the statements pass by. -/
def GreatK (a : List Int) (v : List (List Int)) : Prop := (∃ i, i < v.length ∧ 50 < (rget v i).length) ∨ (12 < a.length ∧ a.length ≤ 30) ∨ 50 < a.length ∨ 20 < v.length
instance (a : List Int) (v : List (List Int)) : Decidable (GreatK a v) := by
  have : Decidable (∃ i, i < v.length ∧ 50 < (rget v i).length) := decidable_of_iff (∃ i, ∃ _ : i < v.length, 50 < (rget v i).length) ⟨fun ⟨i, h, h'⟩ => ⟨i, h, h'⟩, fun ⟨i, h, h'⟩ => ⟨i, h, h'⟩⟩
  unfold GreatK; infer_instance
set_option maxHeartbeats 1000000 in
theorem great29_any (pa : Option Addr) (ca : Nat) (a : List Int) (p : Option Addr) (c : Nat) (v : List (List Int)) (w : World) (ha : Ints w pa ca a) (hx : Mat w p c v) :
    Calls Try.prog 17 #[.slice pa a.length ca, .slice p v.length c] w fun e w' => e = .returned (.bool (decide (GreatK a v))) ∧ w' = w := by
  have hla := ha.length_le
  have hlv := hx.length_le
  have HT : Hid (GreatK a v → decide (GreatK a v) = true) := fun h => decide_eq_true h
  have HF : Hid (¬ GreatK a v → decide (GreatK a v) = false) := fun h => decide_eq_false h
  have HD : Hid (GreatK a v ↔ (∃ i, i < v.length ∧ 50 < (rget v i).length) ∨ (12 < a.length ∧ a.length ≤ 30) ∨ 50 < a.length ∨ 20 < v.length) := Iff.rfl
  go_enter Try.func17, Try.ntmps17
  go_wp2_with fail
  go_loop [5] (fun t => ∃ k : Nat, k ≤ v.length ∧ t = .int .i64 k ∧ Hid (∀ i, i < k → ¬ 50 < (rget v i).length)) (fun t => v.length - (intOf t).toNat)
  case atStart => exact ⟨0, Nat.zero_le _, rfl, fun j hj => absurd hj (Nat.not_lt_zero j)⟩
  case round =>
    obtain ⟨k, hk, rfl, ht⟩ := hrel
    by_cases hlt : k < v.length
    · have hk1 : (k : Int) < v.length := by omega
      obtain ⟨b, o, rfl, _, q, d, hc, hi⟩ := hx.get hlt
      by_cases h50 : 50 < (rget v k).length
      · have hd : decide (50 < ((rget v k).length : Int)) = true := by rw [decide_eq_true_iff]; omega
        have H := Lib.hid (HT.out (HD.out.2 (.inl ⟨k, hlt, h50⟩)))
        clear h50
        go_wp2_with fail
        go_ret
        exact ⟨ret_bool H.out.symm, rfl⟩
      · have hd : decide (50 < ((rget v k).length : Int)) = false := by rw [decide_eq_false_iff_not]; omega
        have H := Lib.hid h50
        clear h50
        go_wp2_with fail
        go_round
        case rel => exact ⟨k + 1, by omega, by go_num, snoc_all' ht.out H.out⟩
        case measure => (simp [intOf] <;> omega)
    · have hk1 : ¬ (k : Int) < v.length := by omega
      have HE : Hid (GreatK a v ↔ (12 < a.length ∧ a.length ≤ 30) ∨ 50 < a.length ∨ 20 < v.length) := by
        unfold Hid
        rw [HD.out]
        constructor
        · rintro (⟨i, h1, h2⟩ | h)
          · exact absurd h2 (ht.out i (by omega))
          · exact h
        · exact .inr
      by_cases c1 : 12 < a.length
      · have e1 : decide (12 < (a.length : Int)) = true := by rw [decide_eq_true_iff]; omega
        by_cases c2 : a.length ≤ 30
        · have e2 : decide ((a.length : Int) ≤ 30) = true := by rw [decide_eq_true_iff]; omega
          have H := Lib.hid (HT.out (HE.out.2 (.inl ⟨c1, c2⟩)))
          clear c1 c2
          go_wp2_with fail
          go_ret
          exact ⟨ret_bool H.out.symm, rfl⟩
        · have e2 : decide ((a.length : Int) ≤ 30) = false := by rw [decide_eq_false_iff_not]; omega
          by_cases c3 : 50 < a.length
          · have e3 : decide (50 < (a.length : Int)) = true := by rw [decide_eq_true_iff]; omega
            have H := Lib.hid (HT.out (HE.out.2 (.inr (.inl c3))))
            clear c1 c2 c3
            go_wp2_with fail
            go_ret
            exact ⟨ret_bool H.out.symm, rfl⟩
          · have e3 : decide (50 < (a.length : Int)) = false := by rw [decide_eq_false_iff_not]; omega
            have H : Hid (decide (GreatK a v) = decide (20 < (v.length : Int))) := by unfold Hid; exact dec_congr (HE.out.trans (by omega))
            clear c1 c2 c3
            go_wp2_with fail
            go_ret
            exact ⟨ret_bool H.out.symm, rfl⟩
      · have e1 : decide (12 < (a.length : Int)) = false := by rw [decide_eq_false_iff_not]; omega
        have e3 : decide (50 < (a.length : Int)) = false := by rw [decide_eq_false_iff_not]; omega
        have H : Hid (decide (GreatK a v) = decide (20 < (v.length : Int))) := by unfold Hid; exact dec_congr (HE.out.trans (by omega))
        clear c1
        go_wp2_with fail
        go_ret
        exact ⟨ret_bool H.out.symm, rfl⟩
end Go.Proofs.Ytknincjfcicjfaa
