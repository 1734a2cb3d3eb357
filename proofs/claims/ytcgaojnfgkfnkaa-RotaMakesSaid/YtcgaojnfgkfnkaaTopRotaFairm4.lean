/- Even counts stay even when the next week is added: the bounds that rota.prove hands back show that the week takes least counts alone. -/
import Derived.Test.YtcgaojnfgkfnkaaTopRotaFollowsm1
import Derived.Test.YtcgaojnfgkfnkaaTopRotaCheapestm10
import Derived.Test.YtcgaojnfgkfnkaaTopRotaCheapestm2
import Derived.Test.YtcgaojnfgkfnkaaTopRotaAddsm1
import Derived.Test.YtcgaojnfgkfnkaaTopRotaCheapestm5
import Derived.Test.YtcgaojnfgkfnkaaTopRotaCheapestm7
namespace Go.Proofs.Ytcgaojnfgkfnkaa
set_option linter.unusedVariables false
set_option linter.unusedSimpArgs false
open Go.ChangeShapes Go.WideShapes Go.ChangeAt Go.RowKit Go.Deep

theorem rows_ex (w : World) : ∀ l : List (List Int), (∀ x ∈ l, x.length ≤ 1000000 ∧ ∀ y ∈ x, in64 y) → ∃ (W : World) (rs : List (Option Addr × Nat × List Int)), rs.map (fun r => r.2.2) = l ∧ ∀ r ∈ rs, Ints W r.1 r.2.1 r.2.2
  | [], _ => ⟨w, [], rfl, fun r h => by cases h⟩
  | x :: l, h => by
    obtain ⟨W, rs, h1, h2⟩ := rows_ex w l (fun y hy => h y (List.mem_cons_of_mem _ hy))
    have hx := h x (List.mem_cons_self ..)
    refine ⟨W.alloc (.cells (x.map (Value.int .i64)).toArray 3), (some ⟨W.heap.size, 0, none⟩, x.length, x) :: rs, by rw [List.map_cons, h1], fun r hr => ?_⟩
    rcases List.mem_cons.1 hr with rfl | hr
    · exact Ints.lit W x hx.1 hx.2
    · exact (h2 r hr).below ((Below.refl _ _).alloc (Nat.le_refl _) _) (Nat.le_refl _)
theorem mat_ex (w : World) (v : List (List Int)) (hl : v.length ≤ 1000000) (h : ∀ x ∈ v, x.length ≤ 1000000 ∧ ∀ y ∈ x, in64 y) : ∃ (W : World) (p : Option Addr) (c : Nat), Mat W p c v := by
  obtain ⟨W, rs, h1, h2⟩ := rows_ex w v h
  have hrl : rs.length = v.length := by rw [← h1, List.length_map]
  have := Mat.lit W rs (by omega) h2
  rw [h1] at this
  exact ⟨_, _, _, this⟩
/-- The bounds that prove the week. -/
theorem bounds_ex (w : World) {v : List (List Int)} (hv : CountsP v) : ∃ U V : Nat → Int, Feas v.length (bid v) U V ∧ worthI v (weekA v) ≤ sumTo (fun i => U (i + 1)) v.length + sumTo (fun i => V (i + 1)) v.length := by
  obtain ⟨W, p, c, hM⟩ := mat_ex w v (by have := hv.len; omega) (fun x hx => by
    obtain ⟨i, hi, rfl⟩ := List.getElem_of_mem hx
    have hr : v[i] = rget v i := (rget_of hi).symm
    rw [hr]
    refine ⟨by rw [hv.row i hi]; have := hv.len; omega, fun y hy => ?_⟩
    obtain ⟨k, hk, rfl⟩ := List.getElem_of_mem hy
    have := hv.cb i k hi (by rw [← hv.row i hi]; exact hk)
    have e : (rget v i)[k] = bid v i k := (iget_of hk).symm
    rw [e]; unfold in64; omega)
  obtain ⟨e, w', fr, ⟨gu, gv, gh, U, V, H, _, hSt, _⟩, _⟩ := prove_any p c v W hM hv []
  obtain ⟨s1, s2, s3⟩ := hSt.stop
  refine ⟨U, V, hSt.feas, ?_⟩
  obtain ⟨s, es⟩ : ∃ s : Nat → Nat, (fun k => H (k + 1) - 1) = s := ⟨_, rfl⟩
  rw [es] at s1
  have s3' : ∀ k, k < v.length → Sharp (bid v) U V (s k) k := fun k hk => by rw [← es]; exact s3 k hk
  have hp : Per v.length (inv v.length s) := ⟨fun i hi => (s1.inv_spec hi).1, fun i j hi hj e => by
    have h1 := (s1.inv_spec hi).2
    have h2 := (s1.inv_spec hj).2
    rw [e] at h1
    omega⟩
  have hA := listOf_isA hp
  have hW := weekA_spec v
  have hle : worthI v (weekA v) ≤ worthI v (listOf v.length (inv v.length s)) := by
    rcases hW.2 with ⟨_, h⟩ | ⟨_, h⟩
    · exact absurd hA (h _)
    · have := h _ hA
      simp only [] at this
      omega
  have hval : worthI v (listOf v.length (inv v.length s)) = sumTo (fun i => U (i + 1)) v.length + sumTo (fun i => V (i + 1)) v.length := by
    rw [worth_val (listOf_length _ _)]
    unfold val
    rw [sumTo_congr (g := fun i => bid v i (inv v.length s i)) (fun i hi => by rw [listOf_itm hi])]
    rw [← s1.sum (fun i => bid v i (inv v.length s i)), ← s1.sum (fun i => U (i + 1)), ← sumTo_add]
    refine sumTo_congr fun k hk => ?_
    rw [s1.inv_of hk]
    exact s3' k hk
  rw [hval] at hle
  exact hle
theorem sumTo_swap (f : Nat → Nat → Int) (m : Nat) : ∀ n, sumTo (fun i => sumTo (f i) m) n = sumTo (fun k => sumTo (fun i => f i k) n) m
  | 0 => by
    show (0 : Int) = sumTo (fun k => 0) m
    rw [sumTo_const]; omega
  | n + 1 => by
    have ih := sumTo_swap f m n
    rw [sumTo_s, ih, ← sumTo_add]
    rfl
theorem sumTo_one (a : Nat) : ∀ n, sumTo (fun k => if a = k then (1 : Int) else 0) n = if a < n then 1 else 0
  | 0 => rfl
  | n + 1 => by
    rw [sumTo_s, sumTo_one a n]
    by_cases h : a < n
    · rw [if_pos h, if_neg (by omega), if_pos (by omega)]; rfl
    · by_cases e : a = n
      · rw [if_neg h, if_pos e, if_pos (by omega)]; rfl
      · rw [if_neg h, if_neg e, if_neg (by omega)]; rfl
/-- In even counts the week takes least counts alone. -/
theorem pick_least (w : World) {v : List (List Int)} {m : Int} (hv : CntM m v) (hm : m ≤ 1000) (h1 : 1 ≤ v.length) (hL : LvlP v) :
    ∀ i j l, i < v.length → j < v.length → l < v.length → iget (rget v i) (itm (weekA v) i) ≤ iget (rget v j) l := by
  have hc0 : 0 < (catN v v.length).length := by rw [catN_len hv.row _ (Nat.le_refl _)]; exact Nat.mul_pos (by omega) (by omega)
  obtain ⟨M, eM⟩ : ∃ M, lowTo (catN v v.length) (catN v v.length).length = M := ⟨_, rfl⟩
  have hMle : ∀ i k, i < v.length → k < v.length → M ≤ iget (rget v i) k := fun i k hi hk => by
    rw [← eM]; exact lowTo_le' ((mem_catN _).2 ⟨i, hi, iget_mem (by rw [hv.row i hi]; exact hk)⟩)
  obtain ⟨a0, ha0, hm0⟩ := (mem_catN _).1 (lowTo_in hc0)
  obtain ⟨b0, hb0, e0⟩ := mem_iget hm0
  rw [eM] at e0
  rw [hv.row a0 ha0] at hb0
  have hMge : ∀ i k, i < v.length → k < v.length → iget (rget v i) k ≤ M + 1 := fun i k hi hk => by
    have := hL.near i k a0 b0 hi hk ha0 hb0
    omega
  obtain ⟨χ, eχ⟩ : ∃ χ : Nat → Nat → Int, (fun i k => M + 1 - iget (rget v i) k) = χ := ⟨_, rfl⟩
  have hχ : ∀ i k, χ i k = M + 1 - iget (rget v i) k := fun i k => by rw [← eχ]
  obtain ⟨z, ez⟩ : ∃ z, (M + 1) * v.length - rowS v 0 = z := ⟨_, rfl⟩
  have hr : ∀ i, i < v.length → sumTo (χ i) v.length = z := fun i hi => by
    rw [sumTo_congr (f := χ i) (g := fun k => (M + 1) - iget (rget v i) k) (fun k _ => hχ i k), sumTo_sub, sumTo_const, ← ez, ← (hL.sums i hi).1]
    rfl
  have hcl : ∀ k, k < v.length → sumTo (fun i => χ i k) v.length = z := fun k hk => by
    rw [sumTo_congr (f := fun i => χ i k) (g := fun i => (M + 1) - iget (rget v i) k) (fun i _ => hχ i k), sumTo_sub, sumTo_const, ← ez, ← (hL.sums k hk).2]
    rfl
  have hz : 1 ≤ z := by
    rw [← hr a0 ha0]
    have := sumTo_single_le (f := χ a0) (n := v.length) (fun k hk => by rw [hχ]; have := hMge a0 k ha0 hk; omega) hb0
    rw [hχ, e0] at this
    omega
  obtain ⟨U, V, hF, hle⟩ := bounds_ex w (hv.counts hm)
  have hsum : sumTo (fun i => sumTo (fun k => χ i k * (U (i + 1) + V (k + 1))) v.length) v.length ≤ sumTo (fun i => sumTo (fun k => χ i k * M) v.length) v.length := by
    refine sumTo_le fun i hi => sumTo_le fun k hk => ?_
    have h2 := hMle i k hi hk
    have h3 := hMge i k hi hk
    have h4 : U (i + 1) + V (k + 1) ≤ iget (rget v i) k := hF i k hi hk
    rw [hχ]
    by_cases e : iget (rget v i) k = M
    · rw [e] at h4 ⊢
      rw [show M + 1 - M = 1 by omega, Int.one_mul, Int.one_mul]; exact h4
    · rw [show M + 1 - iget (rget v i) k = 0 by omega, Int.zero_mul, Int.zero_mul]; exact Int.le_refl _
  have hR : sumTo (fun i => sumTo (fun k => χ i k * M) v.length) v.length = z * (M * v.length) := by
    rw [sumTo_congr (g := fun _ => M * z) (fun i hi => by
      rw [sumTo_congr (g := fun k => M * χ i k) (fun k _ => Int.mul_comm _ _), sumTo_mul, hr i hi]), sumTo_const]
    rw [Int.mul_comm M z, Int.mul_assoc]
  have hLs : sumTo (fun i => sumTo (fun k => χ i k * (U (i + 1) + V (k + 1))) v.length) v.length = z * (sumTo (fun i => U (i + 1)) v.length + sumTo (fun i => V (i + 1)) v.length) := by
    have e1 : sumTo (fun i => sumTo (fun k => χ i k * (U (i + 1) + V (k + 1))) v.length) v.length = sumTo (fun i => z * U (i + 1) + sumTo (fun k => V (k + 1) * χ i k) v.length) v.length := by
      refine sumTo_congr fun i hi => ?_
      rw [sumTo_congr (f := fun k => χ i k * (U (i + 1) + V (k + 1))) (g := fun k => U (i + 1) * χ i k + V (k + 1) * χ i k) (fun k _ => by rw [Int.mul_add, Int.mul_comm, Int.mul_comm (χ i k)]), sumTo_add, sumTo_mul, hr i hi, Int.mul_comm]
    rw [e1, sumTo_add, sumTo_mul, sumTo_swap (fun i k => V (k + 1) * χ i k)]
    rw [sumTo_congr (f := fun k => sumTo (fun i => V (k + 1) * χ i k) v.length) (g := fun k => z * V (k + 1)) (fun k hk => by rw [sumTo_mul, hcl k hk, Int.mul_comm]), sumTo_mul, Int.mul_add]
  rw [hLs, hR] at hsum
  have hfin := Int.le_of_mul_le_mul_left hsum (by omega)
  have hA := (weekA_spec v).1
  have hworth : worthI v (weekA v) = sumTo (fun i => bid v i (itm (weekA v) i)) v.length := by rw [worth_val hA.1]; rfl
  have hall := sumTo_eq_all (f := fun _ => M) (g := fun i => bid v i (itm (weekA v) i)) (n := v.length) (fun i hi => hMle i _ hi (isA_lt hA i hi).2) (by rw [sumTo_const, ← hworth]; exact Int.le_trans hle hfin)
  intro i j l hi hj hl
  have h2 := hall i hi
  have h3 := hMle j l hj hl
  have h4 : bid v i (itm (weekA v) i) = iget (rget v i) (itm (weekA v) i) := rfl
  omega
theorem lvl_add (w : World) {v : List (List Int)} {m : Int} (hv : CntM m v) (hm : m ≤ 1000) (h1 : 1 ≤ v.length) (hL : LvlP v) : LvlP (addW v (weekA v)) ∧ (∀ i, i < v.length → rowS (addW v (weekA v)) i = rowS v i + 1) := by
  have hA := (weekA_spec v).1
  have hat : ∀ i k, i < v.length → iget (rget (addW v (weekA v)) i) k = iget (rget v i) k + (if itm (weekA v) i = k then 1 else 0) := fun i k hi => addW_at hi (by rw [hv.row i hi]; exact (isA_lt hA i hi).2)
  have hrow : ∀ i, i < v.length → rowS (addW v (weekA v)) i = rowS v i + 1 := fun i hi => by
    unfold rowS
    rw [addW_len, sumTo_congr (fun k _ => hat i k hi), sumTo_add, sumTo_one, if_pos (isA_lt hA i hi).2]
  have hcol : ∀ k, k < v.length → colS (addW v (weekA v)) k = colS v k + 1 := fun k hk => by
    unfold colS
    rw [addW_len, sumTo_congr (fun i hi => hat i k hi), sumTo_add, (isA_per hA).sum (fun x => if x = k then (1 : Int) else 0),
      sumTo_congr (f := fun x => if x = k then (1 : Int) else 0) (g := fun x => if k = x then (1 : Int) else 0) (fun x _ => by
        by_cases e : x = k
        · rw [if_pos e, if_pos e.symm]
        · rw [if_neg e, if_neg (fun h => e h.symm)]), sumTo_one, if_pos hk]
  refine ⟨⟨fun i hi => ?_, fun i k j l hi hk hj hl => ?_⟩, hrow⟩
  · rw [addW_len] at hi
    rw [hrow i hi, hrow 0 (by omega), hcol i hi, (hL.sums i hi).1, (hL.sums i hi).2]
    exact ⟨rfl, rfl⟩
  · rw [addW_len] at hi hk hj hl
    rw [hat i k hi, hat j l hj]
    have h2 := hL.near i k j l hi hk hj hl
    have h3 := pick_least w hv hm h1 hL i j l hi hj hl
    by_cases e : itm (weekA v) i = k
    · rw [if_pos e, ← e]
      split <;> omega
    · rw [if_neg e]
      split <;> omega
theorem zeroL_len (n : Nat) : (zeroL n).length = n := by simp [zeroL]
theorem zeroL_get {n i : Nat} (hi : i < n) : rget (zeroL n) i = List.replicate n 0 := by simp [zeroL, rget, hi]
theorem zeroL_at {n i k : Nat} (hi : i < n) : iget (rget (zeroL n) i) k = 0 := by
  rw [zeroL_get hi]
  by_cases h : k < n
  · simp [iget, h]
  · simp [iget, List.getElem?_replicate, h]
theorem zeroL_cnt {n : Nat} (h : n ≤ 12) : CntM 0 (zeroL n) :=
  ⟨by rw [zeroL_len]; exact h, fun i hi => by rw [zeroL_len] at hi ⊢; rw [zeroL_get hi, List.length_replicate], fun i k hi hk => by rw [zeroL_len] at hi; rw [zeroL_at hi]; omega⟩
theorem zeroL_chk {n : Nat} (h1 : 1 ≤ n) (h : n ≤ 12) : chk32 (zeroL n) = 0 := chk32_of ((zeroL_cnt h).mono (by omega)) (by rw [zeroL_len]; exact h1)
/-- Counts that follow zeros are even, and each agent has as many shifts as weeks. -/
theorem lvl_zero (w : World) {n : Nat} (h1 : 1 ≤ n) (h12 : n ≤ 12) : ∀ t, t ≤ 900 → LvlP (cntN (zeroL n) t) ∧ ∀ i, i < n → rowS (cntN (zeroL n) t) i = t
  | 0, _ => by
    have hr : ∀ i, i < n → rowS (zeroL n) i = 0 := fun i hi => by
      unfold rowS
      rw [sumTo_congr (g := fun _ => 0) (fun k _ => zeroL_at hi), sumTo_const]; omega
    have hc : ∀ i, i < n → colS (zeroL n) i = 0 := fun i hi => by
      unfold colS
      rw [sumTo_congr (g := fun _ => 0) (fun k hk => zeroL_at (by rw [zeroL_len] at hk; exact hk)), sumTo_const]; omega
    refine ⟨⟨fun i hi => ?_, fun i k j l hi hk hj hl => ?_⟩, fun i hi => hr i hi⟩
    · have hi' : i < n := by have : i < (zeroL n).length := hi; rwa [zeroL_len] at this
      show rowS (zeroL n) i = rowS (zeroL n) 0 ∧ colS (zeroL n) i = rowS (zeroL n) 0
      rw [hr i hi', hr 0 (by omega), hc i hi']
      exact ⟨rfl, rfl⟩
    · have hi' : i < n := by have : i < (zeroL n).length := hi; rwa [zeroL_len] at this
      have hj' : j < n := by have : j < (zeroL n).length := hj; rwa [zeroL_len] at this
      show iget (rget (zeroL n) i) k - iget (rget (zeroL n) j) l ≤ 1
      rw [zeroL_at hi', zeroL_at hj']; omega
  | t + 1, ht => by
    obtain ⟨ih1, ih2⟩ := lvl_zero w h1 h12 t (by omega)
    have hl : (cntN (zeroL n) t).length = n := by rw [cntN_len, zeroL_len]
    obtain ⟨a1, a2⟩ := lvl_add w (cntN_cnt (zeroL_cnt h12) t) (by omega) (by rw [hl]; exact h1) ih1
    refine ⟨a1, fun i hi => ?_⟩
    have := a2 i (by rw [hl]; exact hi)
    rw [ih2 i hi] at this
    exact this
/-- A count is the quotient, or one more. -/
theorem lvl_quo {v : List (List Int)} {t : Nat} (h1 : 1 ≤ v.length) (h7 : v.length ≤ 7) (hL : LvlP v) (hr : ∀ i, i < v.length → rowS v i = t) {i k : Nat} (hi : i < v.length) (hk : k < v.length) :
    iget (rget v i) k = ((t / v.length : Nat) : Int) ∨ iget (rget v i) k = (((t + v.length - 1) / v.length : Nat) : Int) := by
  obtain ⟨x, ex⟩ : ∃ x, iget (rget v i) k = x := ⟨_, rfl⟩
  have lo := sumTo_single_le (f := fun l => iget (rget v i) l - (x - 1)) (n := v.length) (fun l hl => by have := hL.near i k i l hi hk hi hl; omega) hk
  have hi2 := sumTo_single_le (f := fun l => (x + 1) - iget (rget v i) l) (n := v.length) (fun l hl => by have := hL.near i l i k hi hl hi hk; omega) hk
  rw [sumTo_sub, sumTo_const] at lo hi2
  have e : sumTo (fun l => iget (rget v i) l) v.length = t := hr i hi
  rw [e] at lo hi2
  simp only [ex] at lo hi2
  rw [ex]
  obtain ⟨n, en⟩ : ∃ n, v.length = n := ⟨_, rfl⟩
  rw [en] at lo hi2 h1 h7 ⊢
  clear e ex hr hL en
  have : n = 1 ∨ n = 2 ∨ n = 3 ∨ n = 4 ∨ n = 5 ∨ n = 6 ∨ n = 7 := by omega
  rcases this with rfl | rfl | rfl | rfl | rfl | rfl | rfl <;> omega
end Go.Proofs.Ytcgaojnfgkfnkaa

/- The walks of the reference's Level and Even, for counts. -/
namespace Go.Proofs.Ytcgaojnfgkfnkaa
set_option linter.unusedVariables false
set_option linter.unusedSimpArgs false
open Go.ChangeShapes Go.WideShapes Go.ChangeAt Go.RowKit Go.Deep

set_option maxHeartbeats 8000000 in
set_option maxRecDepth 100000 in
theorem level_any (p : Option Addr) (c : Nat) (v : List (List Int)) (w : World) (hx : Mat w p c v) (hv : CntM 400 v) (h1 : 1 ≤ v.length) :
    Calls Try.prog 29 #[.slice p v.length c] w fun e w' => e = .returned (.bool (lvlB v)) ∧ ∃ n, w' = w.drewN n := by
  have hl12 := hv.len
  have h00 : (0 : Int) < v.length := by omega
  obtain ⟨b0, o0, rfl, _, q0, d0, hc0, hi0⟩ := hx.get (j := 0) (by omega)
  rw [Nat.add_zero, hv.row 0 (by omega)] at hc0
  obtain ⟨bR, oR, rfl, _, hR0⟩ := hi0.get (j := 0) (by rw [hv.row 0 (by omega)]; omega)
  rw [Nat.add_zero] at hR0
  have h0n : 0 < v.length := by omega
  have h0e : v ≠ [] := fun e => by subst e; simp at h0n
  have Hv := Lib.hid hv
  clear hv
  go_enter Try.func29, Try.ntmps29
  go_wp2_with fail
  go_loop [3] (fun ii => ∃ i : Nat, i ≤ v.length ∧ ii = .int .i64 i ∧ Hid (∀ j, j < i → rowS v j = rowS v 0 ∧ colS v j = rowS v 0)) (fun ii => v.length - (intOf ii).toNat)
  case atStart => exact ⟨0, by omega, rfl, fun j h => absurd h (Nat.not_lt_zero j)⟩
  case round =>
    obtain ⟨i, hi, rfl, hS⟩ := hrel
    by_cases hlt : i < v.length
    · have hi1 : (i : Int) < v.length := by omega
      go_wp2_with fail
      go_loop [4, 5, 6, 7] (fun a b f kk => ∃ k : Nat, k ≤ v.length ∧ kk = .int .i64 k ∧ a = .int .i64 (sumTo (fun k => iget (rget v i) k) k) ∧ b = .int .i64 (sumTo (fun a => iget (rget v a) i) k) ∧ f = .int .i64 (sumTo (fun k => iget (rget v 0) k) k)) (fun _ _ _ kk => v.length - (intOf kk).toNat)
      case atStart => exact ⟨0, by omega, rfl, rfl, rfl, rfl⟩
      case round =>
        obtain ⟨k, hk, rfl, rfl, rfl, rfl⟩ := hrel
        by_cases hkl : k < v.length
        · have hk1 : (k : Int) < v.length := by omega
          obtain ⟨b, o, e, _, q1, d1, hc, hI⟩ := hx.get hlt
          cases e
          obtain ⟨b', o', e, _, q2, d2, hc', hI'⟩ := hx.get hkl
          cases e
          have r1 := Hv.out.row i hlt
          have r2 := Hv.out.row k hkl
          have r0 := Hv.out.row 0 (by omega)
          obtain ⟨g1, x1, rfl, _, c1⟩ := hI.get (j := k) (by rw [r1]; exact hkl)
          obtain ⟨g2, x2, rfl, _, c2⟩ := hI'.get (j := i) (by rw [r2]; exact hlt)
          have c3 := hi0.at (j := k) (by rw [r0]; exact hkl)
          rw [r1] at hc
          rw [r2] at hc'
          have b1 := sum_cnt (fun k h => Hv.out.cb i k hlt h) k hk
          have b2 := sum_cnt (fun a h => Hv.out.cb a i h hlt) k hk
          have b3 := sum_cnt (fun k h => Hv.out.cb 0 k (by omega) h) k hk
          have e1 := Hv.out.cb i k hlt hkl
          have e2 := Hv.out.cb k i hkl hlt
          have e3 := Hv.out.cb 0 k (by omega) hkl
          have s1 := Lib.hid (sumTo_s (fun k => iget (rget v i) k) k)
          have s2 := Lib.hid (sumTo_s (fun a => iget (rget v a) i) k)
          have s3 := Lib.hid (sumTo_s (fun k => iget (rget v 0) k) k)
          obtain ⟨X, eX⟩ : ∃ X, sumTo (fun k => iget (rget v i) k) k = X := ⟨_, rfl⟩
          obtain ⟨Y, eY⟩ : ∃ X, sumTo (fun a => iget (rget v a) i) k = X := ⟨_, rfl⟩
          obtain ⟨Z, eZ⟩ : ∃ X, sumTo (fun k => iget (rget v 0) k) k = X := ⟨_, rfl⟩
          obtain ⟨U, eU⟩ : ∃ X, iget (rget v i) k = X := ⟨_, rfl⟩
          obtain ⟨V, eV⟩ : ∃ X, iget (rget v k) i = X := ⟨_, rfl⟩
          obtain ⟨T, eT⟩ : ∃ X, iget (rget v 0) k = X := ⟨_, rfl⟩
          have s1' : Hid (sumTo (fun k => iget (rget v i) k) (k + 1) = X + U) := by unfold Hid; rw [s1.out, eX, eU]
          have s2' : Hid (sumTo (fun a => iget (rget v a) i) (k + 1) = Y + V) := by unfold Hid; rw [s2.out, eY, eV]
          have s3' : Hid (sumTo (fun k => iget (rget v 0) k) (k + 1) = Z + T) := by unfold Hid; rw [s3.out, eZ, eT]
          rw [eX] at b1
          rw [eY] at b2
          rw [eZ] at b3
          rw [eU] at c1 e1
          rw [eV] at c2 e2
          rw [eT] at c3 e3
          rw [eX, eY, eZ]
          have w1 : IntKind.i64.wrap (X + U) = X + U := IntWalk.i64_in _ (by omega)
          have w2 : IntKind.i64.wrap (Y + V) = Y + V := IntWalk.i64_in _ (by omega)
          have w3 : IntKind.i64.wrap (Z + T) = Z + T := IntWalk.i64_in _ (by omega)
          clear b1 b2 b3 e1 e2 e3 r1 r2 r0 hI hI' s1 s2 s3 eX eY eZ eU eV eT
          go_wp2_with fail
          go_round
          case rel => exact ⟨k + 1, by omega, by go_num, by rw [s1'.out], by rw [s2'.out], by rw [s3'.out]⟩
          case measure => simp [intOf]; omega
        · have hk1 : ¬ (k : Int) < v.length := by omega
          obtain rfl : k = v.length := by omega
          have eR : sumTo (fun k => iget (rget v i) k) v.length = rowS v i := rfl
          have eC : sumTo (fun a => iget (rget v a) i) v.length = colS v i := rfl
          have eF : sumTo (fun k => iget (rget v 0) k) v.length = rowS v 0 := rfl
          rw [eR, eC, eF]
          obtain ⟨X, eX⟩ : ∃ X, rowS v i = X := ⟨_, rfl⟩
          obtain ⟨Y, eY⟩ : ∃ X, colS v i = X := ⟨_, rfl⟩
          obtain ⟨Z, eZ⟩ : ∃ X, rowS v 0 = X := ⟨_, rfl⟩
          have EX := Lib.hid eX
          have EY := Lib.hid eY
          have EZ := Lib.hid eZ
          rw [eX, eY, eZ]
          clear eR eC eF eX eY eZ
          by_cases hX : X = Z
          · have q1 : (X != Z) = false := by simpa using hX
            by_cases hY : Y = Z
            · have q2 : (Y != Z) = false := by simpa using hY
              have hS2 : Hid (∀ j, j < i + 1 → rowS v j = rowS v 0 ∧ colS v j = rowS v 0) := snoc_all' hS.out ⟨by rw [EX.out, EZ.out, hX], by rw [EY.out, EZ.out, hY]⟩
              clear hX hY
              go_wp2_with fail
              go_round
              case rel => exact ⟨i + 1, by omega, by go_num, hS2⟩
              case measure => simp [intOf]; omega
            · have q2 : (Y != Z) = true := by rw [bne_iff_ne]; exact hY
              have HE := Lib.hid (lvlB_false (v := v) fun h => hY (by rw [← EY.out, ← EZ.out]; exact (h.sums i hlt).2))
              clear hX hY
              go_wp2_with fail
              go_ret
              exact ⟨ret_bool HE.out.symm, 0, rfl⟩
          · have q1 : (X != Z) = true := by rw [bne_iff_ne]; exact hX
            have HE := Lib.hid (lvlB_false (v := v) fun h => hX (by rw [← EX.out, ← EZ.out]; exact (h.sums i hlt).1))
            clear hX
            go_wp2_with fail
            go_ret
            exact ⟨ret_bool HE.out.symm, 0, rfl⟩
    · have hi1 : ¬ (i : Int) < v.length := by omega
      obtain rfl : i = v.length := by omega
      have hB0 : Hid (Bnd v 0 0 (iget (rget v 0) 0) (iget (rget v 0) 0)) := Bnd.zero h1
      go_wp2_with fail
      go_quiet (fail)
      go_wp2_with fail
      go_loopw [8, 9, 10] (fun l h ii wk => ∃ (i : Nat) (L H : Int), i ≤ v.length ∧ ii = .int .i64 i ∧ l = .int .i64 L ∧ h = .int .i64 H ∧ Hid (Bnd v i 0 L H) ∧ ∃ n, wk = w.drewN n) (fun _ _ ii _ => v.length - (intOf ii).toNat)
      case atStart => exact ⟨0, _, _, by omega, rfl, rfl, rfl, hB0, _, rfl⟩
      case round =>
        clear hB0
        obtain ⟨i, L, H, hi, rfl, rfl, rfl, hB, n0, rfl⟩ := hrel
        by_cases hlt : i < v.length
        · have hi1 : (i : Int) < v.length := by omega
          go_wp2_with fail
          go_loopw [8, 9, 11] (fun l h kk wk => ∃ (k : Nat) (L H : Int), k ≤ v.length ∧ kk = .int .i64 k ∧ l = .int .i64 L ∧ h = .int .i64 H ∧ Hid (Bnd v i k L H) ∧ ∃ n, wk = w.drewN n) (fun _ _ kk _ => v.length - (intOf kk).toNat)
          case atStart => exact ⟨0, L, H, by omega, rfl, rfl, rfl, hB, n0, rfl⟩
          case round =>
            clear hB
            obtain ⟨k, L, H, hk, rfl, rfl, rfl, hB, n1, rfl⟩ := hrel
            by_cases hkl : k < v.length
            · have hk1 : (k : Int) < v.length := by omega
              obtain ⟨b, o, e, _, q1, d1, hc, hI⟩ := hx.get hlt
              cases e
              have r1 := Hv.out.row i hlt
              obtain ⟨g1, x1, rfl, _, c1⟩ := hI.get (j := k) (by rw [r1]; exact hkl)
              rw [r1] at hc
              have hB2 := Lib.hid (hB.out.step hlt hkl)
              obtain ⟨U, eU⟩ : ∃ X, iget (rget v i) k = X := ⟨_, rfl⟩
              rw [eU] at c1 hB2
              clear r1 hI eU
              go_wp2_with fail
              go_region
              go_wp2_with fail
              have eL : (if U < L then U else L) = min L U := by
                by_cases h : U < L
                · rw [if_pos h]; omega
                · rw [if_neg h]; omega
              have eH : (if H < U then U else H) = max H U := by
                by_cases h : H < U
                · rw [if_pos h]; omega
                · rw [if_neg h]; omega
              first | rw [eL, eH] | skip
              obtain ⟨L2, eL2⟩ : ∃ x, min L U = x := ⟨_, rfl⟩
              obtain ⟨H2, eH2⟩ : ∃ x, max H U = x := ⟨_, rfl⟩
              rw [eL2, eH2] at hB2 ⊢
              clear eL eH eL2 eH2 hB
              go_roundw
              case rel => first | exact ⟨k + 1, L2, H2, by omega, by go_num, rfl, rfl, hB2, _, rfl⟩ | exact ⟨k + 1, by omega, by go_num, hB2⟩ | trace_state
              case measure => simp [intOf]; omega
            · have hk1 : ¬ (k : Int) < v.length := by omega
              obtain rfl : k = v.length := by omega
              have hB2 := Lib.hid hB.out.next
              clear hB
              go_wp2_with fail
              go_roundw
              case rel => first | exact ⟨i + 1, L, H, by omega, by go_num, rfl, rfl, hB2, _, rfl⟩ | trace_state
              case measure => simp [intOf]; omega
        · have hi1 : ¬ (i : Int) < v.length := by omega
          obtain rfl : i = v.length := by omega
          have HE := Lib.hid (hB.out.lvl hS.out)
          obtain ⟨a1, b1, ha1, hb1, e1⟩ := hB.out.lo
          obtain ⟨a2, b2, ha2, hb2, e2⟩ := hB.out.hi
          have f1 := Hv.out.cb a1 b1 ha1 hb1
          have f2 := Hv.out.cb a2 b2 ha2 hb2
          rw [← e1] at f1
          rw [← e2] at f2
          have w1 : IntKind.i64.wrap (H - L) = H - L := IntWalk.i64_in _ (by omega)
          clear e1 e2 f1 f2 ha1 hb1 ha2 hb2
          go_wp2_with fail
          go_ret
          exact ⟨ret_bool HE.out.symm, _, rfl⟩
/-- What Even says. -/
noncomputable def evenB (v : List (List Int)) : Bool := if chk32 v = 0 then lvlB v else false
theorem evenB_ok {v : List (List Int)} (h : chk32 v = 0) : evenB v = lvlB v := if_pos h
theorem evenB_bad {v : List (List Int)} (h : chk32 v ≠ 0) : evenB v = false := if_neg h
set_option maxHeartbeats 1600000 in
theorem refEven_any (p : Option Addr) (c : Nat) (v : List (List Int)) (w : World) (hx : Mat w p c v) :
    Calls Try.prog 16 #[.slice p v.length c] w fun e w' => e = .returned (.tuple #[.bool (evenB v), .int .i64 (chk32 v)]) ∧ ∃ n, w' = w.drewN n := by
  have CK := Lib.hid (refChk_any p c v w hx)
  by_cases hC : chk32 v ≠ 0
  · have HR := Lib.hid (evenB_bad hC)
    obtain ⟨E, eE⟩ : ∃ E, chk32 v = E := ⟨_, rfl⟩
    rw [eE] at CK hC ⊢
    have hb : (E != 0) = true := by rw [bne_iff_ne]; exact hC
    clear eE hC
    go_enter Try.func16, Try.ntmps16
    go_wp2_with fail
    refine CK.out.mono ?_
    rintro e w1 ⟨rfl, hw⟩
    subst w1
    go_wp2_with fail
    refine CK.out.mono ?_
    rintro e w1 ⟨rfl, hw⟩
    subst w1
    go_wp2_with fail
    go_ret2
    rw [HR.out]
    exact ⟨rfl, 0, rfl⟩
  replace hC : chk32 v = 0 := Classical.not_not.1 hC
  have HR := Lib.hid (evenB_ok hC)
  have HN := Lib.hid (level_any p c v w hx (CntM.of_chk hC) (chk32_zero hC).2.1)
  rw [hC] at CK ⊢
  clear hC
  go_enter Try.func16, Try.ntmps16
  go_wp2_with fail
  refine CK.out.mono ?_
  rintro e w1 ⟨rfl, hw⟩
  subst w1
  go_wp2_with fail
  refine HN.out.mono ?_
  rintro e w2 ⟨rfl, n, rfl⟩
  go_wp2_with fail
  go_ret2
  rw [HR.out]
  exact ⟨rfl, n, rfl⟩
end Go.Proofs.Ytcgaojnfgkfnkaa

/- The walks of rota.Turning and of the reference's Turning; no condition. -/
namespace Go.Proofs.Ytcgaojnfgkfnkaa
set_option linter.unusedVariables false
set_option linter.unusedSimpArgs false
open Go.ChangeShapes Go.WideShapes Go.ChangeAt Go.RowKit Go.Deep

def trnE (n t : Int) : Int := if n < 1 ∨ 12 < n ∨ t < 0 then 2 else 0
def trnF (n t : Nat) (i : Nat) : Int := (((i + t % n) % n : Nat) : Int)
def trnL (n t : Int) : List Int := if trnE n t = 0 then (List.range n.toNat).map (trnF n.toNat t.toNat) else []
theorem trnE_bad {n t : Int} (h : n < 1 ∨ 12 < n ∨ t < 0) : trnE n t = 2 := if_pos h
theorem trnE_ok {n t : Int} (h : ¬ (n < 1 ∨ 12 < n ∨ t < 0)) : trnE n t = 0 := if_neg h
theorem trnL_bad {n t : Int} (h : n < 1 ∨ 12 < n ∨ t < 0) : trnL n t = [] := by unfold trnL; rw [trnE_bad h]; rfl
theorem trnL_ok {n t : Nat} (h : ¬ ((n : Int) < 1 ∨ 12 < (n : Int) ∨ (t : Int) < 0)) : trnL n t = (List.range n).map (trnF n t) := by unfold trnL; rw [trnE_ok h]; simp
theorem trnF_lt {n t i : Nat} (h : 1 ≤ n) : 0 ≤ trnF n t i ∧ trnF n t i < n := by
  unfold trnF
  have := Nat.mod_lt (i + t % n) (show 0 < n by omega)
  omega
theorem ints_rowF {w : World} {g n : Nat} {f : Nat → Int} (h : RowF w g n (iF f)) (hr : ∀ k, k < n → in64 (f k)) (hn : n ≤ 1000000) : Ints w (some ⟨g, 0, none⟩) n ((List.range n).map f) := by
  have hg : ∀ k, k < n → iget ((List.range n).map f) k = f k := fun k hk => by simp [iget, hk]
  refine ⟨by simp, by omega, fun h => (by cases h), ?_, ?_, fun j hj => ?_⟩
  · rintro x ⟨⟩ _; exact ⟨rfl, h.lt⟩
  · rintro b o ⟨⟩ j hj
    simp at hj
    rw [Nat.zero_add, hg j hj]; exact h.cell j hj
  · simp at hj
    rw [hg j hj]; exact hr j hj
def GivesI (w : World) (xs : List Int) (k : Int) (e : Ending) (w' : World) : Prop := ∃ p c, e = .returned (.tuple #[.slice p xs.length c, .int .i64 k]) ∧ Ints w' p c xs ∧ (∀ b, blk p = some b → w.heap.size ≤ b) ∧ Below w.heap.size w w'
set_option maxHeartbeats 3200000 in
theorem turning_any (n t : Int) (w : World) : Calls Try.prog 20 #[.int .i64 n, .int .i64 t] w (GivesI w (trnL n t) (trnE n t)) := by
  by_cases h1 : n < 1
  · have hd1 : decide (n < 1) = true := by simpa using h1
    have HE := Lib.hid (trnE_bad (n := n) (t := t) (.inl h1))
    have HL := Lib.hid (trnL_bad (n := n) (t := t) (.inl h1))
    clear h1
    go_enter Try.func20, Try.ntmps20
    go_wp2_with fail
    go_ret2
    rw [HE.out, HL.out]
    exact ⟨none, 0, rfl, Ints.ofNil _, (fun _ h => by cases h), Below.refl _ _⟩
  have hd1 : decide (n < 1) = false := by simpa using h1
  by_cases h2 : 12 < n
  · have hd2 : decide (12 < n) = true := by simpa using h2
    have HE := Lib.hid (trnE_bad (n := n) (t := t) (.inr (.inl h2)))
    have HL := Lib.hid (trnL_bad (n := n) (t := t) (.inr (.inl h2)))
    clear h2 h1
    go_enter Try.func20, Try.ntmps20
    go_wp2_with fail
    go_ret2
    rw [HE.out, HL.out]
    exact ⟨none, 0, rfl, Ints.ofNil _, (fun _ h => by cases h), Below.refl _ _⟩
  have hd2 : decide (12 < n) = false := by simpa using h2
  by_cases h3 : t < 0
  · have hd3 : decide (t < 0) = true := by simpa using h3
    have HE := Lib.hid (trnE_bad (n := n) (t := t) (.inr (.inr h3)))
    have HL := Lib.hid (trnL_bad (n := n) (t := t) (.inr (.inr h3)))
    clear h3 h2 h1
    go_enter Try.func20, Try.ntmps20
    go_wp2_with fail
    go_ret2
    rw [HE.out, HL.out]
    exact ⟨none, 0, rfl, Ints.ofNil _, (fun _ h => by cases h), Below.refl _ _⟩
  obtain ⟨N, rfl⟩ : ∃ N : Nat, n = N := ⟨n.toNat, by omega⟩
  obtain ⟨T, rfl⟩ : ∃ T : Nat, t = T := ⟨t.toNat, by omega⟩
  have hd3 : decide ((T : Int) < 0) = false := by simp
  have hb : ¬ ((N : Int) < 1 ∨ 12 < (N : Int) ∨ (T : Int) < 0) := by omega
  have HE := Lib.hid (trnE_ok hb)
  have HL := Lib.hid (trnL_ok hb)
  have hN1 : 1 ≤ N := by omega
  have hN2 : N ≤ 12 := by omega
  have mkI := run_zI N (by omega) w
  obtain ⟨W1, hW1⟩ : ∃ W, w.alloc (.cells (zI N) 3) = W := ⟨_, rfl⟩
  have hb1 := below_alloc hW1
  have r1 : RowF W1 w.heap.size N (iF fun i => if i < 0 then trnF N T i else 0) := by
    rw [← hW1]; exact RowF.new fun k hk => by rw [zI_get hk]; simp [iF]
  obtain ⟨M, eM⟩ : ∃ M, T % N = M := ⟨_, rfl⟩
  have hM : M < N := by rw [← eM]; exact Nat.mod_lt _ (by omega)
  have hr1 : Int.tmod (T : Int) (N : Int) = (M : Int) := by rw [Int.tmod_eq_emod_of_nonneg (by omega)]; rw [← eM]; rfl
  have hr1' : (T : Int) % (N : Int) = (M : Int) := by rw [← eM]; rfl
  have hn0 : ((N : Int) == 0) = false := by rw [beq_eq_false_iff_ne]; omega
  have hn0' : (N : Int) ≠ 0 := by omega
  have EM := Lib.hid eM
  clear h1 h2 h3 hb eM
  go_enter Try.func20, Try.ntmps20
  go_wp2_with fail
  clear hW1 mkI
  go_loopw [22] (fun kk wk => ∃ k : Nat, k ≤ N ∧ kk = .int .i64 k ∧ RowF wk w.heap.size N (iF fun i => if i < k then trnF N T i else 0) ∧ Below w.heap.size w wk) (fun kk _ => N - (intOf kk).toNat)
  case atStart => exact ⟨0, by omega, rfl, r1, hb1⟩
  case round =>
    clear r1 hb1
    obtain ⟨k, hk, rfl, hR, hB⟩ := hrel
    by_cases hlt : k < N
    · have hk1 : (k : Int) < N := by omega
      obtain ⟨s, es⟩ : ∃ s, (k + M) % N = s := ⟨_, rfl⟩
      have hs : s < N := by rw [← es]; exact Nat.mod_lt _ (by omega)
      have hw1 : IntKind.i64.wrap ((k : Int) + M) = (k : Int) + M := IntWalk.i64_in _ (by omega)
      have hr2 : Int.tmod ((k : Int) + M) (N : Int) = (s : Int) := by rw [Int.tmod_eq_emod_of_nonneg (by omega)]; rw [← es, Int.natCast_emod, Int.natCast_add]
      have hr2' : ((k : Int) + M) % (N : Int) = (s : Int) := by rw [← es, Int.natCast_emod, Int.natCast_add]
      have c0 := hR.cell k hlt
      have f0 := hR.live k hlt
      have hR2 := hR.set (.int .i64 (s : Int)) hlt
      rw [iF_upd] at hR2
      have eF : updf (fun i => if i < k then trnF N T i else 0) k (s : Int) = fun i => if i < k + 1 then trnF N T i else 0 := by
        funext j
        by_cases e : j = k
        · subst e; rw [updf_at, if_pos (by omega)]; unfold trnF; rw [EM.out, es]
        · rw [updf_ne e]
          by_cases h : j < k
          · rw [if_pos h, if_pos (by omega)]
          · rw [if_neg h, if_neg (by omega)]
      rw [eF] at hR2
      have hB2 := hB.setCell (p := ⟨w.heap.size, k, none⟩) (Nat.le_refl _) (.int .i64 (s : Int))
      obtain ⟨y, ey⟩ : ∃ y, iF (fun i => if i < k then trnF N T i else 0) k = y := ⟨_, rfl⟩
      rw [ey] at c0
      clear eF es ey hR hB
      go_wp2_with fail
      go_roundw
      case rel => exact ⟨k + 1, by omega, by go_num, hR2, hB2⟩
      case measure => simp [intOf]; omega
    · have hk1 : ¬ (k : Int) < N := by omega
      obtain rfl : k = N := by omega
      have hI := ints_rowF (hR.congr (f' := iF (trnF k T)) (fun j hj => by simp [iF, hj])) (fun j hj => by have := trnF_lt (n := k) (t := T) (i := j) hN1; exact ⟨by omega, by omega⟩) (by omega)
      have HI := Lib.hid hI
      clear hI hR
      go_wp2_with fail
      go_ret2
      rw [HE.out, HL.out]
      refine ⟨some ⟨w.heap.size, 0, none⟩, k, ?_, HI.out, (fun b h => by cases h; exact Nat.le_refl _), hB⟩
      first | rfl | (simp; rfl) | simp
set_option maxHeartbeats 3200000 in
theorem refTurning_any (n t : Int) (w : World) : Calls Try.prog 21 #[.int .i64 n, .int .i64 t] w (GivesI w (trnL n t) (trnE n t)) := by
  by_cases h1 : n < 1
  · have hd1 : decide (n < 1) = true := by simpa using h1
    have HE := Lib.hid (trnE_bad (n := n) (t := t) (.inl h1))
    have HL := Lib.hid (trnL_bad (n := n) (t := t) (.inl h1))
    clear h1
    go_enter Try.func21, Try.ntmps21
    go_wp2_with fail
    go_ret2
    rw [HE.out, HL.out]
    exact ⟨none, 0, rfl, Ints.ofNil _, (fun _ h => by cases h), Below.refl _ _⟩
  have hd1 : decide (n < 1) = false := by simpa using h1
  by_cases h2 : 12 < n
  · have hd2 : decide (12 < n) = true := by simpa using h2
    have HE := Lib.hid (trnE_bad (n := n) (t := t) (.inr (.inl h2)))
    have HL := Lib.hid (trnL_bad (n := n) (t := t) (.inr (.inl h2)))
    clear h2 h1
    go_enter Try.func21, Try.ntmps21
    go_wp2_with fail
    go_ret2
    rw [HE.out, HL.out]
    exact ⟨none, 0, rfl, Ints.ofNil _, (fun _ h => by cases h), Below.refl _ _⟩
  have hd2 : decide (12 < n) = false := by simpa using h2
  by_cases h3 : t < 0
  · have hd3 : decide (t < 0) = true := by simpa using h3
    have HE := Lib.hid (trnE_bad (n := n) (t := t) (.inr (.inr h3)))
    have HL := Lib.hid (trnL_bad (n := n) (t := t) (.inr (.inr h3)))
    clear h3 h2 h1
    go_enter Try.func21, Try.ntmps21
    go_wp2_with fail
    go_ret2
    rw [HE.out, HL.out]
    exact ⟨none, 0, rfl, Ints.ofNil _, (fun _ h => by cases h), Below.refl _ _⟩
  obtain ⟨N, rfl⟩ : ∃ N : Nat, n = N := ⟨n.toNat, by omega⟩
  obtain ⟨T, rfl⟩ : ∃ T : Nat, t = T := ⟨t.toNat, by omega⟩
  have hd3 : decide ((T : Int) < 0) = false := by simp
  have hb : ¬ ((N : Int) < 1 ∨ 12 < (N : Int) ∨ (T : Int) < 0) := by omega
  have HE := Lib.hid (trnE_ok hb)
  have HL := Lib.hid (trnL_ok hb)
  have hN1 : 1 ≤ N := by omega
  have hN2 : N ≤ 12 := by omega
  obtain ⟨M, eM⟩ : ∃ M, T % N = M := ⟨_, rfl⟩
  have hM : M < N := by rw [← eM]; exact Nat.mod_lt _ (by omega)
  have hr1 : Int.tmod (T : Int) (N : Int) = (M : Int) := by rw [Int.tmod_eq_emod_of_nonneg (by omega)]; rw [← eM]; rfl
  have hr1' : (T : Int) % (N : Int) = (M : Int) := by rw [← eM]; rfl
  have hn0 : ((N : Int) == 0) = false := by rw [beq_eq_false_iff_ne]; omega
  have hn0' : (N : Int) ≠ 0 := by omega
  have EM := Lib.hid eM
  clear h1 h2 h3 hb eM
  go_enter Try.func21, Try.ntmps21
  go_wp2_with fail
  go_loopw [6, 7] (fun oo kk wk => ∃ k : Nat, k ≤ N ∧ kk = .int .i64 k ∧ (∃ x q d, Hid (x = (List.range k).map (trnF N T)) ∧ oo = .slice q (x : List Int).length d ∧ Own wk w.heap.size q d x) ∧ Below w.heap.size w wk) (fun _ kk _ => N - (intOf kk).toNat)
  case atStart => exact ⟨0, by omega, rfl, ⟨[], none, 0, rfl, rfl, Own.ofNil _ _⟩, Below.refl _ _⟩
  case round =>
    obtain ⟨k, hk, rfl, ⟨x, q, d, hx, rfl, hO⟩, hB⟩ := hrel
    by_cases hlt : k < N
    · have hk1 : (k : Int) < N := by omega
      obtain ⟨s, es⟩ : ∃ s, (k + M) % N = s := ⟨_, rfl⟩
      have hs : s < N := by rw [← es]; exact Nat.mod_lt _ (by omega)
      have hw1 : IntKind.i64.wrap ((k : Int) + M) = (k : Int) + M := IntWalk.i64_in _ (by omega)
      have hr2 : Int.tmod ((k : Int) + M) (N : Int) = (s : Int) := by rw [Int.tmod_eq_emod_of_nonneg (by omega)]; rw [← es, Int.natCast_emod, Int.natCast_add]
      have hr2' : ((k : Int) + M) % (N : Int) = (s : Int) := by rw [← es, Int.natCast_emod, Int.natCast_add]
      have hN3 : Hid ((List.range (k + 1)).map (trnF N T) = (List.range k).map (trnF N T) ++ [(s : Int)]) := by
        unfold Hid; rw [List.range_succ, List.map_append, List.map_singleton]; congr 2; unfold trnF; rw [EM.out, es]
      have hxl : x.length ≤ 900000 := by rw [hx.out]; simp; omega
      have hsz := hB.size
      have hs64 : in64 (s : Int) := ⟨by omega, by omega⟩
      clear es
      go_wp2_with (at_builtin; refine wpList_app1 rfl (.tmp 23) (.tmp 31) rfl w.heap.size _ _ x (s : Int) rfl rfl rfl hO hs64 hxl hsz ?_; intro p3 c3 w3 u3 hu3 hO3 hg3 hf3)
      have hB3 : Below w.heap.size w w3 := hB.grown hg3 hsz (fun k' e => (hO.lt k' e).1)
      go_roundw
      case rel => exact ⟨k + 1, by omega, by go_num, ⟨u3, _, _, by unfold Hid; rw [hu3.out, hx.out, hN3.out], rfl, hO3⟩, hB3⟩
      case measure => simp [intOf]; omega
    · have hk1 : ¬ (k : Int) < N := by omega
      obtain rfl : k = N := by omega
      obtain rfl := hx.out
      go_wp2_with fail
      go_ret2
      rw [HE.out, HL.out]
      refine ⟨q, d, ?_, hO.ints, (fun b h => (hO.lt b h).1), hB⟩
      first | rfl | (simp; rfl) | simp
end Go.Proofs.Ytcgaojnfgkfnkaa
