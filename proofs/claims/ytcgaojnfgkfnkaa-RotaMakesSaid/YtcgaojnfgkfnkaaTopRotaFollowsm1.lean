/- RotaFollows: for every input the law returns true, and each argument reads as it read before; no condition. -/
import Derived.Test.YtcgaojnfgkfnkaaTopRotaCheapestm2
import Derived.Test.YtcgaojnfgkfnkaaTopRotaCheapestm4
import Derived.Test.YtcgaojnfgkfnkaaTopRotaAddsm1
import Derived.Test.YtcgaojnfgkfnkaaTopRotaAddsm2
import Derived.Test.YtcgaojnfgkfnkaaTopRotaCheapestm15
import Derived.Test.YtcgaojnfgkfnkaaTopRotaAddsm3
import Derived.ChangeOld
namespace Go.Proofs.Ytcgaojnfgkfnkaa
set_option linter.unusedVariables false
set_option linter.unusedSimpArgs false
open Go.ChangeShapes Go.WideShapes Go.ChangeAt Go.RowKit Go.Deep
theorem run_preM (a : Option Addr) (len cap m : Nat) (hm : m ≤ cap) (W : World) :
    (Instr.slice 22 (.slice a len cap) none (some (.int .i64 (m : Int))) none).run Try.prog W = .ok (.slice a m cap) W := by
  have h0 := run_slice_h (P := Try.prog) W 22 a len cap (by kernel_rfl) .i64 (m : Int) (by omega) (by omega)
  rw [h0]
  have hs : ∀ W, (sizeOf (Try.prog.elem 22)).run Try.prog W = .ok 1 W := fun W => by
    have := Try.sizeOf23
    simp [go_sem, this]
  rw [hs]
  simp only [Result.andThen, sliced, Int.toNat_natCast, Nat.sub_zero]
  split
  · rfl
  · cases a with
    | none => rfl
    | some a => simp [Addr.add]
theorem run_postM (a : Option Addr) (len cap m : Nat) (hl : m ≤ len) (hc : len ≤ cap) (hp : m < cap → ∀ x, a = some x → x.spot = none) : ∃ p',
    (∀ W, (Instr.slice 22 (.slice a len cap) (some (.int .i64 (m : Int))) none none).run Try.prog W = .ok (.slice p' (len - m) (cap - m)) W) ∧ (m < cap → p' = a.map fun x => ⟨x.block, x.off + m, none⟩) := by
  have hs : ∀ W, (sizeOf (Try.prog.elem 22)).run Try.prog W = .ok 1 W := fun W => by
    have := Try.sizeOf23
    simp [go_sem, this]
  by_cases h : m < cap
  · refine ⟨a.map fun x => ⟨x.block, x.off + m, none⟩, fun W => ?_, fun _ => rfl⟩
    have h0 := run_slice_l (P := Try.prog) W 22 a len cap (by kernel_rfl) .i64 (m : Int) (by omega) (by omega)
    rw [h0, hs]
    simp only [Result.andThen, sliced, Int.toNat_natCast]
    rw [if_neg (by omega)]
    cases a with
    | none => rfl
    | some x =>
      obtain ⟨b, o, s⟩ := x
      have := hp h _ rfl
      simp only at this
      subst this
      simp [Addr.add]
  · refine ⟨a, fun W => ?_, fun h2 => absurd h2 h⟩
    have h0 := run_slice_l (P := Try.prog) W 22 a len cap (by kernel_rfl) .i64 (m : Int) (by omega) (by omega)
    rw [h0, hs]
    simp only [Result.andThen, sliced, Int.toNat_natCast]
    rw [if_pos (by omega)]
theorem rget_take {v : List (List Int)} {m j : Nat} (h : j < m) : rget (v.take m) j = rget v j := by
  simp only [rget, List.getD, List.getElem?_take]
  rw [if_pos h]
theorem rget_drop (v : List (List Int)) (m j : Nat) : rget (v.drop m) j = rget v (m + j) := by simp [rget, List.getElem?_drop]
theorem Mat.pre {w : World} {p : Option Addr} {c : Nat} {v : List (List Int)} (h : Mat w p c v) (k : Nat) : Mat w p c (v.take k) := by
  refine ⟨by have := h.le; rw [List.length_take]; omega, h.max, h.nil, h.plain, fun b o e j hj => ?_⟩
  rw [List.length_take] at hj
  rw [rget_take (by omega)]; exact h.cell b o e j (by omega)
theorem Mat.post {w : World} {p p' : Option Addr} {c : Nat} {v : List (List Int)} (h : Mat w p c v) (m : Nat) (hm : m ≤ v.length) (hp : m < c → p' = p.map fun x => ⟨x.block, x.off + m, none⟩) : Mat w p' (c - m) (v.drop m) := by
  have hle := h.le
  by_cases hmc : m < c
  · have hp := hp hmc
    subst hp
    refine ⟨by rw [List.length_drop]; omega, by have := h.max; omega, fun e => ?_, fun a e hd => ?_, fun b o e j hj => ?_⟩
    · cases p with
      | none => have := h.nil rfl; omega
      | some x => simp at e
    · cases p with
      | none => simp at e
      | some x =>
        simp at e
        subst e
        exact ⟨rfl, (h.plain x rfl (by omega)).2⟩
    · cases p with
      | none => simp at e
      | some x =>
        obtain ⟨b1, o1, s1⟩ := x
        have hs := (h.plain _ rfl (by omega)).1
        simp only at hs
        subst hs
        simp at e
        obtain ⟨rfl, rfl⟩ := e
        rw [List.length_drop] at hj
        rw [rget_drop, Nat.add_assoc]
        exact h.cell _ _ rfl _ (by omega)
  · have h0 : v.drop m = [] := List.drop_eq_nil_of_le (by omega)
    rw [h0, show c - m = 0 by omega]
    exact ⟨Nat.le_refl _, by omega, fun _ => rfl, fun a e hd => by omega, fun b o e j hj => by simp at hj⟩
end Go.Proofs.Ytcgaojnfgkfnkaa

/- There is a first week of the least cost; what follows counts; plain, no program. -/
namespace Go.Proofs.Ytcgaojnfgkfnkaa
set_option linter.unusedVariables false
set_option linter.unusedSimpArgs false

theorem least_ex {P : List Int → Prop} (f : List Int → Int) (k : List Int → Nat) : ∀ L : List (List Int), (∃ x ∈ L, P x) → ∃ a ∈ L, P a ∧ ∀ x ∈ L, P x → f a < f x ∨ (f x = f a ∧ k a ≤ k x)
  | [], ⟨_, h, _⟩ => by cases h
  | y :: L, hex => by
    classical
    by_cases hL : ∃ x ∈ L, P x
    · obtain ⟨a, ha, hP, hmin⟩ := least_ex f k L hL
      by_cases hy : P y
      · by_cases hc : f y < f a ∨ (f y = f a ∧ k y ≤ k a)
        · refine ⟨y, List.mem_cons_self .., hy, fun x hx hPx => ?_⟩
          rcases List.mem_cons.1 hx with rfl | hx
          · exact .inr ⟨rfl, Nat.le_refl _⟩
          · have := hmin x hx hPx
            omega
        · refine ⟨a, List.mem_cons_of_mem _ ha, hP, fun x hx hPx => ?_⟩
          rcases List.mem_cons.1 hx with rfl | hx
          · omega
          · exact hmin x hx hPx
      · refine ⟨a, List.mem_cons_of_mem _ ha, hP, fun x hx hPx => ?_⟩
        rcases List.mem_cons.1 hx with rfl | hx
        · exact absurd hPx hy
        · exact hmin x hx hPx
    · obtain ⟨x, hx, hP⟩ := hex
      rcases List.mem_cons.1 hx with rfl | hx
      · refine ⟨x, List.mem_cons_self .., hP, fun z hz hPz => ?_⟩
        rcases List.mem_cons.1 hz with rfl | hz
        · exact .inr ⟨rfl, Nat.le_refl _⟩
        · exact absurd ⟨z, hz, hPz⟩ hL
      · exact absurd ⟨x, hx, hP⟩ hL
theorem per_id (n : Nat) : Per n (fun i => i) := ⟨fun i hi => hi, fun i j _ _ e => e⟩
theorem isWeek_ex (c : List (List Int)) : ∃ a, IsWeek c a := by
  have hmem : ∀ x, IsA x c.length → x ∈ allD c.length c.length := fun x hx => mem_allD _ _ hx.1 (fun y hy => by
    obtain ⟨j, hj, rfl⟩ := List.getElem_of_mem hy
    have := isA_digits hx j hj
    rwa [iget_of hj] at this)
  have h0 : IsA (listOf c.length (fun i => i)) c.length := listOf_isA (per_id _)
  obtain ⟨a, ha, hA, hmin⟩ := least_ex (P := fun x => IsA x c.length) (worthI c) (numA c.length 0) (allD c.length c.length) ⟨_, hmem _ h0, h0⟩
  refine ⟨a, hA, .inr ⟨hA, fun x hx => ?_⟩⟩
  simp only []
  rcases hmin x (hmem x hx) hx with h | ⟨h1, h2⟩
  · exact .inl (by omega)
  · refine .inr ⟨by omega, ?_⟩
    have hl : a.length = x.length := by rw [hA.1, hx.1]
    have da : Digits c.length a := isA_digits hA
    have dx : Digits c.length x := isA_digits hx
    rcases Nat.lt_or_ge (numA c.length 0 a) (numA c.length 0 x) with h3 | h3
    · exact .inr (num_llt hl da dx h3)
    · exact .inl (num_inj hl.symm dx da (by omega))
theorem weekA_spec (c : List (List Int)) : IsWeek c (weekA c) := Classical.epsilon_spec (p := IsWeek c) (isWeek_ex c)
theorem wkN_isA (v : List (List Int)) (t : Nat) : IsA (wkN v t) v.length := by
  have := (weekA_spec (cntN v t)).1
  rwa [cntN_len] at this
theorem cntN_cnt {v : List (List Int)} {m : Int} (h : CntM m v) : ∀ t : Nat, CntM (m + t) (cntN v t)
  | 0 => by simpa [cntN] using h
  | t + 1 => by
    have h2 := (cntN_cnt h t).addW (a := weekA (cntN v t)) (by rw [cntN_len]; exact wkN_isA v t)
    exact h2.mono (by omega)
theorem cntN_add (v : List (List Int)) (a : Nat) : ∀ t, cntN (cntN v a) t = cntN v (a + t)
  | 0 => rfl
  | t + 1 => by
    show addW (cntN (cntN v a) t) (weekA (cntN (cntN v a) t)) = addW (cntN v (a + t)) (weekA (cntN v (a + t)))
    rw [cntN_add v a t]
theorem addA_fol (v : List (List Int)) (m : Nat) : ∀ t, t ≤ m → addA v (folL v m) t = cntN v t
  | 0, _ => rfl
  | t + 1, h => by
    show addW (addA v (folL v m) t) (rget (folL v m) t) = addW (cntN v t) (weekA (cntN v t))
    rw [addA_fol v m t (by omega), folL_get v (by omega)]
    rfl
theorem wks_fol {v : List (List Int)} (h1 : 1 ≤ v.length) (h12 : v.length ≤ 12) (m : Nat) : WksTo v (folL v m) (folL v m).length := fun t ht => by
  rw [folL_len] at ht
  rw [folL_get v ht]
  exact isWk_true.2 ⟨h1, h12, wkN_isA v t⟩
theorem folL_take (v : List (List Int)) (a b : Nat) : (folL v (a + b)).take a = folL v a := by
  unfold folL
  rw [← List.map_take, List.take_range, Nat.min_eq_left (by omega)]
theorem folL_drop (v : List (List Int)) (a b : Nat) : (folL v (a + b)).drop a = folL (cntN v a) b := by
  apply List.ext_getElem
  · simp [folL]
  · intro i h1 h2
    simp [folL, wkN, cntN_add]
/-- What adding the weeks that follow answers. -/
theorem addE_fol {v : List (List Int)} (hC : chk32 v = 0) (m : Nat) (hm : m ≤ 400) : (addE v (folL v m) = 2 ∧ OverP (cntN v m)) ∨ (addE v (folL v m) = 0 ∧ addR v (folL v m) = cntN v m ∧ chk32 (cntN v m) = 0) := by
  have hM := CntM.of_chk hC
  have h1 : 1 ≤ v.length := (chk32_zero hC).2.1
  have hw := wks_fol h1 hM.len m
  have hl : ¬ 400 < (folL v m).length := by rw [folL_len]; omega
  have hA : addA v (folL v m) (folL v m).length = cntN v m := by rw [folL_len]; exact addA_fol v m m (Nat.le_refl _)
  by_cases ho : OverP (cntN v m)
  · exact .inl ⟨addE_over hC hl hw (by rw [hA]; exact ho), ho⟩
  · have hE := addE_ok hC hl hw (by rw [hA]; exact ho)
    refine .inr ⟨hE, by rw [addR_ok hE, hA], chk32_of ⟨?_, fun i hi => ?_, fun i k hi hk => ?_⟩ (by rw [cntN_len]; exact h1)⟩
    · rw [cntN_len]; exact hM.len
    · exact (cntN_cnt hM m).row i hi
    · have := (cntN_cnt hM m).cb i k hi hk
      refine ⟨this.1, Classical.byContradiction fun h => ho ⟨i, k, hi, hk, by omega⟩⟩
end Go.Proofs.Ytcgaojnfgkfnkaa

/- The walk of RotaFollows: following for some weeks, adding these, and following on is following for all; no condition. -/
namespace Go.Proofs.Ytcgaojnfgkfnkaa
set_option linter.unusedVariables false
set_option linter.unusedSimpArgs false
open Go.ChangeShapes Go.WideShapes Go.ChangeAt Go.RowKit Go.Deep

theorem follow_ok {p : Option Addr} {c : Nat} {v : List (List Int)} {k : Nat} {w : World} (hC : chk32 v = 0) (hk : k ≤ 400) (hx : Mat w p c v) :
    Calls Try.prog 18 #[.slice p v.length c, .int .i64 (k : Int)] w (GivesMt w (folL v k) 0) := by
  have hE : folE v k = 0 := folE_ok hC (by omega)
  have h := follow_any p c v k w hx
  rwa [folR_ok hE, hE] at h
theorem mat_plain {w : World} {p : Option Addr} {c : Nat} {v : List (List Int)} (h : Mat w p c v) (h0 : 0 < c) : ∀ x, p = some x → x.spot = none := fun x e => (h.plain x e h0).1
set_option maxHeartbeats 16000000 in
set_option maxRecDepth 100000 in
theorem rotaFollows_walk (p : Option Addr) (c : Nat) (v : List (List Int)) (a b : Int) (w : World) (hx : Mat w p c v) (_ : in64 a) (_ : in64 b) :
    Calls Try.prog 6 #[.slice p v.length c, .int .i64 a, .int .i64 b] w fun e w' => e = .returned (.bool true) ∧ Below w.heap.size w w' := by
  go_enter Try.func6, Try.ntmps6
  have hS := (St.start w).addM rfl hx
  clear hx
  go_wp2_with fail
  refine (alive32_any _).mono ?_
  rintro e w1 ⟨rfl, hb⟩
  replace hS := hS.step hb
  clear hb
  go_wp2_with fail
  refine (great32_any p none c 0 v [] w1 (hS.matAt 0 rfl) (Mat.ofNil _)).mono ?_
  rintro e w' ⟨rfl, hw⟩
  subst w'
  cases hG : great32 v [] with
  | true =>
    clear hG
    go_wp2_with fail
    go_ret
    exact ⟨rfl, hS.bel⟩
  | false =>
  clear hG
  go_wp2_with fail
  refine (refChk_any p c v w1 (hS.matAt 0 rfl)).mono ?_
  rintro e w' ⟨rfl, hw⟩
  subst w'
  by_cases hC : chk32 v ≠ 0
  · have hb : (chk32 v != 0) = true := by rw [bne_iff_ne]; exact hC
    obtain ⟨E, eE⟩ : ∃ E, chk32 v = E := ⟨_, rfl⟩
    rw [eE] at hb ⊢
    clear hC eE
    go_wp2_with fail
    go_ret
    exact ⟨rfl, hS.bel⟩
  replace hC : chk32 v = 0 := Classical.not_not.1 hC
  rw [hC]
  have HC := Lib.hid hC
  clear hC
  by_cases ha0 : a < 0
  · have hd1 : decide (a < 0) = true := by simpa using ha0
    clear ha0
    go_wp2_with fail
    go_ret
    exact ⟨rfl, hS.bel⟩
  have hd1 : decide (a < 0) = false := by simpa using ha0
  by_cases hb0 : b < 0
  · have hd2 : decide (b < 0) = true := by simpa using hb0
    clear hb0
    go_wp2_with fail
    go_ret
    exact ⟨rfl, hS.bel⟩
  have hd2 : decide (b < 0) = false := by simpa using hb0
  by_cases ha5 : 15 < a
  · have hd3 : decide (15 < a) = true := by simpa using ha5
    clear ha5
    go_wp2_with fail
    go_ret
    exact ⟨rfl, hS.bel⟩
  have hd3 : decide (15 < a) = false := by simpa using ha5
  by_cases hb5 : 15 < b
  · have hd4 : decide (15 < b) = true := by simpa using hb5
    clear hb5
    go_wp2_with fail
    go_ret
    exact ⟨rfl, hS.bel⟩
  have hd4 : decide (15 < b) = false := by simpa using hb5
  obtain ⟨A, rfl⟩ : ∃ A : Nat, a = A := ⟨a.toNat, by omega⟩
  obtain ⟨B, rfl⟩ : ∃ B : Nat, b = B := ⟨b.toNat, by omega⟩
  have hA : A ≤ 15 := by omega
  have hB : B ≤ 15 := by omega
  obtain ⟨K, eK⟩ : ∃ K, A + B = K := ⟨_, rfl⟩
  have hw : IntKind.i64.wrap ((A : Int) + B) = (K : Int) := by rw [show (A : Int) + B = (K : Int) by omega]; exact IntWalk.i64_in _ (by omega)
  have hAK : A ≤ K := by omega
  have hK : K ≤ 30 := by omega
  have C1 := Lib.hid (fun W (h : Mat W p c v) => follow_ok (k := K) HC.out (by omega) h)
  have C2 := Lib.hid (fun W (h : Mat W p c v) => follow_ok (k := A) HC.out (by omega) h)
  obtain ⟨F, eF⟩ : ∃ F, folL v K = F := ⟨_, rfl⟩
  obtain ⟨G, eG⟩ : ∃ G, folL v A = G := ⟨_, rfl⟩
  obtain ⟨H, eH⟩ : ∃ H, folL (cntN v A) B = H := ⟨_, rfl⟩
  rw [eF] at C1
  rw [eG] at C2
  have hFl := Lib.hid (show F.length = K by rw [← eF, folL_len])
  have hGl := Lib.hid (show G.length = A by rw [← eG, folL_len])
  have hHl := Lib.hid (show H.length = B by rw [← eH, folL_len])
  have hFA : Hid (F.take A = G) := by unfold Hid; rw [← eF, ← eG, ← eK, folL_take]
  have hFB : Hid (F.drop A = H) := by unfold Hid; rw [← eF, ← eH, ← eK, folL_drop]
  have hAdd : Hid ((addE v G = 2) ∨ (addE v G = 0 ∧ addR v G = cntN v A ∧ chk32 (cntN v A) = 0)) := by
    rcases addE_fol HC.out A (by omega) with h | h
    · rw [eG] at h; exact .inl h.1
    · rw [eG] at h; exact .inr h
  have HeH := Lib.hid eH
  have HVl := Lib.hid (cntN_len v A)
  have HeK := Lib.hid eK
  clear eF eG eH eK ha0 hb0 ha5 hb5
  go_wp2_with fail
  refine (C1.out _ (hS.matAt 0 rfl)).mono ?_
  rintro e w2 ⟨q1, d1, rfl, hM, hb⟩
  have hle1 : A ≤ d1 := by have := hM.le; rw [hFl.out] at this; omega
  have hF0 : Hid (0 < d1 → ∀ x, q1 = some x → x.spot = none) := fun h => mat_plain hM h
  have hle1' := Lib.hid hM.le
  replace hS := hS.step hb
  replace hS := hS.addM rfl hM
  clear hM hb C1
  go_wp2_with fail
  refine (C2.out _ (hS.matAt 1 rfl)).mono ?_
  rintro e w3 ⟨q2, d2, rfl, hM, hb⟩
  replace hS := hS.step hb
  replace hS := hS.addM rfl hM
  clear hM hb C2
  have hq1 : ((F.length : Int) != (K : Int)) = false := by simp [hFl.out]
  have hsl := run_preM q1 F.length d1 A hle1
  have CS1 : Calls Try.prog 24 #[.slice q1 A d1, .slice q2 G.length d2] w3 fun e w' => e = .returned (.bool true) ∧ ∃ n, w' = w3.drewN n := by
    have h := same32_any q1 q2 d1 d2 (F.take A) G w3 ((hS.matAt 1 rfl).pre A) (hS.matAt 0 rfl)
    rw [List.length_take, hFl.out, Nat.min_eq_left hAK] at h
    refine h.mono ?_
    rintro e w' ⟨he, hw⟩
    exact ⟨by rw [he, hFA.out]; simp [sameMB], hw⟩
  have CS1h := Lib.hid CS1
  have hA0 : (0 : Int) ≤ A := by omega
  have hAd : (A : Int) ≤ d1 := by omega
  clear CS1
  go_wp2_with fail
  refine CS1h.out.mono ?_
  rintro e w4 ⟨rfl, hw4⟩
  replace hS := hS.drew hw4
  clear hw4 CS1h hsl hq1
  have CAd := Lib.hid (add32_any p q2 c d2 v G w4 (hS.matAt 2 rfl) (hS.matAt 0 rfl))
  obtain ⟨R, eR⟩ : ∃ R, addR v G = R := ⟨_, rfl⟩
  obtain ⟨Z, eZ⟩ : ∃ Z, addE v G = Z := ⟨_, rfl⟩
  rw [eR, eZ] at CAd hAdd
  clear eR eZ
  go_wp2_with fail
  refine CAd.out.mono ?_
  rintro e w5 ⟨q3, d3, rfl, hM, hb⟩
  replace hS := hS.step hb
  replace hS := hS.addM rfl hM
  clear hM hb CAd
  rcases hAdd.out with hZ | ⟨hZ, hR, hCV⟩
  · subst hZ
    clear hAdd
    go_wp2_with fail
    go_ret
    exact ⟨rfl, hS.bel⟩
  · subst hZ
    obtain ⟨V, eV⟩ : ∃ V, cntN v A = V := ⟨_, rfl⟩
    rw [eV] at hR hCV HeH HVl
    subst hR
    have CF := Lib.hid (follow_ok (k := B) hCV (by omega) (hS.matAt 0 rfl))
    rw [HeH.out] at CF
    clear hAdd hCV eV
    go_wp2_with fail
    refine CF.out.mono ?_
    rintro e w6 ⟨q4, d4, rfl, hM, hb⟩
    replace hS := hS.step hb
    replace hS := hS.addM rfl hM
    clear hM hb CF
    have hFm := hS.matAt 3 rfl
    obtain ⟨q5, hs5, hp5⟩ := run_postM q1 F.length d1 A (by rw [hFl.out]; exact hAK) hle1'.out (fun h => hF0.out (by omega))
    have CS2 : Calls Try.prog 24 #[.slice q5 (F.length - A) (d1 - A), .slice q4 H.length d4] w6 fun e w' => e = .returned (.bool true) ∧ ∃ n, w' = w6.drewN n := by
      have h := same32_any q5 q4 (d1 - A) d4 (F.drop A) H w6 (hFm.post A (by rw [hFl.out]; exact hAK) hp5) (hS.matAt 0 rfl)
      rw [List.length_drop] at h
      refine h.mono ?_
      rintro e w' ⟨he, hw⟩
      exact ⟨by rw [he, hFB.out]; simp [sameMB], hw⟩
    have CS2h := Lib.hid CS2
    have hAF : (A : Int) ≤ F.length := by rw [hFl.out]; omega
    clear CS2 hp5
    go_wp2_with fail
    refine CS2h.out.mono ?_
    rintro e w7 ⟨rfl, hw7⟩
    replace hS := hS.drew hw7
    clear hw7 CS2h
    go_wp2_with fail
    go_ret
    exact ⟨rfl, hS.bel⟩
end Go.Proofs.Ytcgaojnfgkfnkaa

/- RotaFollows: for every input the law returns true, and each argument reads as it read before; no condition. -/
namespace Go.Proofs.Ytcgaojnfgkfnkaa.RotaFollowsTop
open Go.ChangeShapes Go.WideShapes Go.ChangeAt Go.RowKit Go.Deep
set_option linter.unusedVariables false

set_option maxRecDepth 100000 in
theorem lifted (os : Os) (started : os.Started) (H : Type) (enc : TypeId × Value → H) :
    ReturnsInHanded {} Try.checked os 6 .any (Rows.rotaFollowsSpec.pre6 enc Try.prog Try.f6 Rows.rotaFollowsRow.domain false) (Rows.rotaFollowsSpec.post enc Try.prog Try.f6 false true false false) := by
  refine returnsInHanded_of_change (C := Try.checked) own started (by kernel_rfl) Try.func6
    (ChangeSpec.witness6 (enc := enc) (C := Try.checked) false ⟨#[], #[.slice none 0 0, .int .i64 0, .int .i64 0], []⟩ 8 (by kernel_rfl) (by kernel_rfl) (by kernel_rfl) (by kernel_rfl)) ?_
  intro W base args ds gs before hval0 hW hcnd _
  have hval : ∀ (j : Nat) t v, Try.f6.params[j]? = some t → args[j]? = some v → Value.okWide Try.prog W .any base t v := hval0
  have hW' := hW
  obtain ⟨p, q, hA0, hV, rfl, hfz, hnd⟩ := hW
  have hA : DataW.TrodAll enc Try.prog W 0 (fun _ => true) true Try.f6.params.toList args.toList ds p := hA0
  rw [Try.params6] at hA hval
  obtain ⟨v0, vs0, d0, ds0, p0, q0, hargs, rfl, rfl, h0, r0⟩ := trodAll_cons hA
  obtain ⟨v1, vs1, d1, ds1, p1, q1, rfl, rfl, rfl, h1, r1⟩ := trodAll_cons r0
  obtain ⟨v2, vs2, d2, ds2, p2, q2, rfl, rfl, rfl, h2, r2⟩ := trodAll_cons r1
  obtain ⟨rfl, rfl, rfl⟩ := trodAll_nil r2
  obtain rfl : args = #[v0, v1, v2] := by cases args; simp_all
  obtain ⟨rfl, rfl⟩ := trodVars_none hV
  have k0 := h0
  have lt0 : ∀ x ∈ p0, x.block < W.heap.size := by obtain ⟨m, hm⟩ := k0; exact DataW.trod_lt m _ _ _ hm
  obtain ⟨a0, c0, x0, rfl, w0⟩ := open_matV (hval 0 22 v0 rfl rfl) h0
  have k1 := h1
  have lt1 : ∀ x ∈ p1, x.block < W.heap.size := by obtain ⟨m, hm⟩ := k1; exact DataW.trod_lt m _ _ _ hm
  obtain ⟨x1, rfl, w1⟩ := open_intV (hval 1 3 v1 rfl rfl) h1
  have k2 := h2
  have lt2 : ∀ x ∈ p2, x.block < W.heap.size := by obtain ⟨m, hm⟩ := k2; exact DataW.trod_lt m _ _ _ hm
  obtain ⟨x2, rfl, w2⟩ := open_intV (hval 2 3 v2 rfl rfl) h2
  clear hA0 hval0
  refine (rotaFollows_walk a0 c0 x0 x1 x2 W w0 w1 w2).mono fun e W' ⟨he, bel⟩ => ?_
  subst he
  exact ⟨_, rfl, _, _, _, [], _, [], hW', trodAll_mk1 (shut_bool Try.underlying4 _), (trodAll_cons_mk (Below.trod laidOut (by kernel_rfl) (of_decide_eq_true (by kernel_rfl)) k0 bel lt0) (trodAll_cons_mk (Below.trod laidOut (by kernel_rfl) (of_decide_eq_true (by kernel_rfl)) k1 bel lt1) (trodAll_cons_mk (Below.trod laidOut (by kernel_rfl) (of_decide_eq_true (by kernel_rfl)) k2 bel lt2) trodAll_mk0))), rfl, bel.frame _, fun h => by cases h⟩

theorem over : Rows.rotaFollowsRow.holds Try.pinned (OpenSpec.ofChange Rows.rotaFollowsSpec) :=
  OpenClaim.holds_of_wide 6 Try.f6 rfl rfl rfl rfl rfl rfl rfl ⟨rfl, rfl, rfl, rfl, rfl⟩ rfl rfl rfl rfl rfl (by kernel_rfl) Try.func6 (by kernel_rfl)
    (of_decide_eq_true (by kernel_rfl)) (by unfold Func.isWrapper; first | (rw [if_pos (by decide +kernel)]; kernel_rfl) | (rw [if_neg (by decide +kernel)]; exact ⟨rfl, rfl⟩))
    (fun os started H enc _ => lifted os started H enc)
end Go.Proofs.Ytcgaojnfgkfnkaa.RotaFollowsTop
namespace Go.Proofs.Ytcgaojnfgkfnkaa
/-- The statement. -/
theorem rotaFollows_holds : Rows.RotaFollowsSaid := RotaFollowsTop.over
#print axioms rotaFollows_holds
end Go.Proofs.Ytcgaojnfgkfnkaa
