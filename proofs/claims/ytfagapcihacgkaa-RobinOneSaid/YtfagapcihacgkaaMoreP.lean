/- Turns in rounds: who comes first in each envies nobody, and balanced turns are fair up to one good; more turns take what the first ones take; plain, no program. -/
import Derived.Test.YtfagapcihacgkaaTakeP
namespace Go.Proofs.Ytfagapcihacgkaa
set_option linter.unusedVariables false
set_option linter.unusedSimpArgs false
section
variable {v : List (List Int)} {ts : List Int}
/-- Where each turn of k in round r + d comes after one of i in round r. -/
theorem tkS_rounds (h : TurnOk v ts) {n d : Nat} (hn : 1 ≤ n) (hb : BalTo n ts ts.length) {i k : Nat} (hi : i < v.length)
    (hs : ∀ r t, t / n = r + d → t < ts.length → iget ts t = (k : Int) → ∃ s, s / n = r ∧ s ≤ t ∧ s < ts.length ∧ iget ts s = (i : Int)) :
    ∀ R, tkS v ts i k ((R + d) * n) ≤ tkS v ts i k (d * n) + tkS v ts i i (R * n)
  | 0 => by simp [tkS]
  | R + 1 => by
    have ih := tkS_rounds h hn hb hi hs R
    have e1 : (R + 1 + d) * n = (R + d) * n + n := by rw [show R + 1 + d = (R + d) + 1 by omega, Nat.add_mul, Nat.one_mul]
    have e2 : (R + 1) * n = R * n + n := by rw [Nat.add_mul, Nat.one_mul]
    have hm := tkS_mono (ts := ts) h.gds hi (i : Int) (show R * n ≤ (R + 1) * n by omega)
    have hdiv : ∀ a q, q * n ≤ a → a < q * n + n → a / n = q := fun a q h1 h2 => by
      rw [Nat.div_eq_of_lt_le h1 (by rw [Nat.succ_mul]; exact h2)]
    have hmul : ∀ a q, a / n = q → q * n ≤ a ∧ a < q * n + n := fun a q h1 => by
      have := Nat.div_add_mod a n
      have h2 := Nat.mod_lt a (show 0 < n by omega)
      rw [h1, Nat.mul_comm] at this
      omega
    have := (tkS_most (v := v) (ts := ts) (i := i) (k := (k : Int)) (s := (R + d) * n) (M := tkS v ts i i ((R + 1) * n) - tkS v ts i i (R * n)) (by omega) n
      (fun a h1 h2 h3 h4 => by
        obtain ⟨s, s1, s2, s3, s4⟩ := hs R a (hdiv a _ h1 h2) h3 h4
        have hd := tk_dom h hi s3 s4 s2
        obtain ⟨m1, m2⟩ := hmul s R s1
        have hl := tkS_least (ts := ts) h.gds hi (m := (R + 1) * n) m1 (by omega) s3 s4
        omega)
      (fun a b h1 h2 h3 h4 h5 h6 => hb b h4 a h2 ⟨by rw [h5, h6], by rw [hdiv a _ h1 (by omega), hdiv b _ (by omega) h3]⟩)).1
    rw [e1]
    omega
theorem bal_full (h : TurnOk v ts) (hb : BalTo v.length ts ts.length) {r i : Nat} (hi : i < v.length) (hr : r * v.length + v.length ≤ ts.length) : ∃ s, s / v.length = r ∧ s < r * v.length + v.length ∧ iget ts s = (i : Int) := by
  have hdiv : ∀ j, j < v.length → (r * v.length + j) / v.length = r := fun j hj => Nat.div_eq_of_lt_le (by omega) (by rw [Nat.succ_mul]; omega)
  obtain ⟨j, hj, hji⟩ := pigeon_onto (n := v.length) (f := fun j => (iget ts (r * v.length + j)).toNat) (fun j hj => by
      have := h.turn (r * v.length + j) (by omega)
      omega) (fun a b hab hb2 e => by
      have h1 := h.turn (r * v.length + a) (by omega)
      have h2 := h.turn (r * v.length + b) (by omega)
      exact hb (r * v.length + b) (by omega) (r * v.length + a) (by omega) ⟨by omega, by rw [hdiv a (by omega), hdiv b hb2]⟩) hi
  have h1 := h.turn (r * v.length + j) (by omega)
  exact ⟨r * v.length + j, hdiv j hj, by omega, by omega⟩
/-- Balanced turns: but for the first good that k takes, i is content. -/
theorem bal_one (h : TurnOk v ts) (hb : BalTo v.length ts ts.length) {i k : Nat} (hi : i < v.length) {M : Int} (hM : 0 ≤ M) (hF : ∀ t, t < v.length → t < ts.length → iget ts t = (k : Int) → tkV v ts i t ≤ M) :
    tkS v ts i k ts.length ≤ M + tkS v ts i i ts.length := by
  have hn : 1 ≤ v.length := h.gds.1
  have h1 := tkS_rounds h hn hb (d := 1) (k := k) hi (fun r t h1 h2 h3 => by
    have hle : (r + 1) * v.length ≤ t := by
      have := Nat.div_add_mod t v.length
      rw [h1, Nat.mul_comm] at this
      omega
    rw [Nat.add_mul, Nat.one_mul] at hle
    obtain ⟨s, s1, s2, s3⟩ := bal_full h hb hi (r := r) (by omega)
    exact ⟨s, s1, by omega, by omega, s3⟩) ts.length
  have hbig : ts.length ≤ ts.length * v.length := Nat.le_mul_of_pos_right _ hn
  have hbig2 : ts.length ≤ (ts.length + 1) * v.length := by rw [Nat.add_mul]; omega
  rw [tkS_past hbig, tkS_past hbig2] at h1
  have h2 := (tkS_most (v := v) (ts := ts) (i := i) (k := (k : Int)) (s := 0) hM v.length (fun a _ h2 h3 h4 => hF a (by omega) h3 h4)
    (fun a b _ h3 h4 h5 h6 h7 => hb b h5 a h3 ⟨by rw [h6, h7], by rw [Nat.div_eq_of_lt (by omega), Nat.div_eq_of_lt (by omega)]⟩)).1
  have e0 : tkS v ts i k 0 = 0 := rfl
  rw [Nat.one_mul] at h1
  rw [Nat.zero_add, e0] at h2
  omega
/-- Who comes first in each round envies nobody. -/
theorem first_calm (h : TurnOk v ts) (hb : BalTo v.length ts ts.length) {i : Nat} (hi : i < v.length) (hf : ∀ t, t < ts.length → t % v.length = 0 → iget ts t = (i : Int)) (k : Nat) :
    worth v (pkA v ts ts.length) i (k : Int) ≤ worth v (pkA v ts ts.length) i (i : Int) := by
  rw [worth_pk h (by omega) _ (Nat.le_refl _), worth_pk h (by omega) _ (Nat.le_refl _)]
  have hn : 1 ≤ v.length := h.gds.1
  have h1 := tkS_rounds h hn hb (d := 0) (k := k) hi (fun r t h1 h2 h3 => by
    have hle : r * v.length ≤ t := by
      have := Nat.div_add_mod t v.length
      rw [h1, Nat.add_zero, Nat.mul_comm] at this
      omega
    exact ⟨r * v.length, Nat.mul_div_cancel _ hn, hle, by omega, hf _ (by omega) (Nat.mul_mod_left _ _)⟩) ts.length
  have hbig : ts.length ≤ ts.length * v.length := Nat.le_mul_of_pos_right _ hn
  rw [Nat.add_zero, tkS_past hbig, tkS_past hbig, Nat.zero_mul] at h1
  have e0 : tkS v ts i k 0 = 0 := rfl
  omega

theorem pk_congr {ts' : List Int} : ∀ m, (∀ t, t < m → iget ts t = iget ts' t) → pkA v ts m = pkA v ts' m ∧ pkT v ts m = pkT v ts' m
  | 0, _ => ⟨rfl, rfl⟩
  | m + 1, h => by
    obtain ⟨h1, h2⟩ := pk_congr (ts' := ts') m fun t ht => h t (by omega)
    rw [pkA, pkA, pkT, pkT, h1, h2, h m (by omega)]
    exact ⟨rfl, rfl⟩
theorem pkT_take : ∀ (L m : Nat), m ≤ L → (pkT v ts L).take m = pkT v ts m
  | 0, m, h => by have : m = 0 := by omega
                  subst this; rfl
  | L + 1, m, h => by
    by_cases e : m = L + 1
    · subst e; exact List.take_of_length_le (by rw [pkT_len]; exact Nat.le_refl _)
    · rw [pkT, List.take_append_of_le_length (by rw [pkT_len]; omega)]
      exact pkT_take L m (by omega)
theorem iget_take {xs : List Int} {m t : Nat} (h : t < m) : iget (xs.take m) t = iget xs t := by
  simp only [iget, List.getD, List.getElem?_take, h, if_true]
theorem pkT_more {m : Nat} (hm : m ≤ ts.length) : pkT v (ts.take m) (ts.take m).length = (pkT v ts ts.length).take m := by
  rw [List.length_take, Nat.min_eq_left hm, pkT_take _ _ hm]
  exact (pk_congr m fun t ht => iget_take ht).2
theorem chkT_take {n : Int} {m : Nat} (h : chkT n ts = 0) : chkT n (ts.take m) = 0 := by
  obtain ⟨h1, h2, h3, h4⟩ := chkT_zero.1 h
  refine chkT_zero.2 ⟨h1, h2, by rw [List.length_take]; omega, fun j hj => ?_⟩
  rw [List.length_take] at hj
  rw [iget_take (by omega)]
  exact h4 j (by omega)
end
end Go.Proofs.Ytfagapcihacgkaa
