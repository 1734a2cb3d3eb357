/- Balanced turns: the first good that an agent takes is all that anyone may envy it for; plain, no program. -/
import Derived.Test.YtfagapcihacgkaaMoreP
import Derived.Test.YtfagapcihacgkaaNearB
namespace Go.Proofs.Ytfagapcihacgkaa
set_option linter.unusedVariables false
set_option linter.unusedSimpArgs false
/-- From turn m on, f is what k takes first, or -1. -/
def IsF (ts T : List Int) (k m : Nat) (f : Int) : Prop :=
  (f = -1 ∧ ∀ t, m ≤ t → t < ts.length → ¬ (iget ts t = (k : Int) ∧ 0 ≤ iget T t)) ∨
  (∃ t0, m ≤ t0 ∧ t0 < ts.length ∧ iget ts t0 = (k : Int) ∧ 0 ≤ iget T t0 ∧ f = iget T t0 ∧ ∀ t, m ≤ t → t < t0 → ¬ (iget ts t = (k : Int) ∧ 0 ≤ iget T t))
theorem isF_end (ts T : List Int) (k : Nat) : IsF ts T k ts.length (-1) := .inl ⟨rfl, fun t h1 h2 => by omega⟩
theorem isF_yes {ts T : List Int} {k m : Nat} (hm : m < ts.length) (h1 : iget ts m = (k : Int)) (h2 : 0 ≤ iget T m) : IsF ts T k m (iget T m) :=
  .inr ⟨m, Nat.le_refl _, hm, h1, h2, rfl, fun t h3 h4 => by omega⟩
theorem isF_no {ts T : List Int} {k m : Nat} {f : Int} (h : IsF ts T k (m + 1) f) (hn : ¬ (iget ts m = (k : Int) ∧ 0 ≤ iget T m)) : IsF ts T k m f := by
  have hx : ∀ t, m ≤ t → m + 1 ≤ t ∨ t = m := fun t ht => by omega
  rcases h with ⟨h1, h2⟩ | ⟨t0, h1, h2, h3, h4, h5, h6⟩
  · refine .inl ⟨h1, fun t a b => ?_⟩
    rcases hx t a with c | rfl
    · exact h2 t c b
    · exact hn
  · refine .inr ⟨t0, by omega, h2, h3, h4, h5, fun t a b => ?_⟩
    rcases hx t a with c | rfl
    · exact h6 t c b
    · exact hn
theorem isF_ex (ts T : List Int) (k : Nat) : ∀ j m, m + j = ts.length → ∃ f, IsF ts T k m f
  | 0, m, h => ⟨-1, by have : m = ts.length := by omega
                       subst this; exact isF_end _ _ _⟩
  | j + 1, m, h => by
    obtain ⟨f, hf⟩ := isF_ex ts T k j (m + 1) (by omega)
    by_cases hc : iget ts m = (k : Int) ∧ 0 ≤ iget T m
    · exact ⟨_, isF_yes (by omega) hc.1 hc.2⟩
    · exact ⟨f, isF_no hf hc⟩
section
variable {v : List (List Int)} {ts : List Int}
theorem took_at {t : Nat} (ht : t < ts.length) : iget (pkT v ts ts.length) t = tkX v ts t := pkT_get v ts _ t ht
/-- Nothing was taken: nothing to envy. -/
theorem one_none (h : TurnOk v ts) (hb : BalTo v.length ts ts.length) {i k : Nat} (hi : i < v.length) (hf : ∀ t, t < ts.length → ¬ (iget ts t = (k : Int) ∧ 0 ≤ iget (pkT v ts ts.length) t)) :
    worth v (pkA v ts ts.length) i (k : Int) ≤ worth v (pkA v ts ts.length) i (i : Int) := by
  rw [worth_pk h (by omega) _ (Nat.le_refl _), worth_pk h (by omega) _ (Nat.le_refl _)]
  have := bal_one h hb (k := k) hi (M := 0) (Int.le_refl _) (fun t h1 h2 h3 => by
    have hn := hf t h2
    rw [took_at h2] at hn
    unfold tkV
    rw [if_neg (fun h0 => hn ⟨h3, h0⟩)]
    exact Int.le_refl _)
  omega
theorem one_first (h : TurnOk v ts) (hb : BalTo v.length ts ts.length) {i k t0 : Nat} (hi : i < v.length) (ht : t0 < ts.length) (hk : iget ts t0 = (k : Int)) (h0 : 0 ≤ iget (pkT v ts ts.length) t0)
    (hmin : ∀ t, t < t0 → ¬ (iget ts t = (k : Int) ∧ 0 ≤ iget (pkT v ts ts.length) t)) :
    worth v (pkA v ts ts.length) i (k : Int) - iget (rget v i) (iget (pkT v ts ts.length) t0).toNat ≤ worth v (pkA v ts ts.length) i (i : Int) := by
  rw [worth_pk h (by omega) _ (Nat.le_refl _), worth_pk h (by omega) _ (Nat.le_refl _), took_at ht]
  rw [took_at ht] at h0
  have hM : tkV v ts i t0 = iget (rget v i) (tkX v ts t0).toNat := by unfold tkV; rw [if_pos h0]
  have h00 := tkV_nonneg (ts := ts) h.gds hi t0
  have := bal_one h hb (k := k) hi (M := tkV v ts i t0) h00 (fun t h1 h2 h3 => by
    by_cases hx : 0 ≤ tkX v ts t
    · by_cases e : t = t0
      · rw [e]; exact Int.le_refl _
      · by_cases hlt : t < t0
        · exact absurd ⟨h3, by rw [took_at h2]; exact hx⟩ (hmin t hlt)
        · exact absurd ⟨by rw [h3, hk], by rw [Nat.div_eq_of_lt h1, Nat.div_eq_of_lt (by omega)]⟩ (hb t h2 t0 (by omega))
    · have : tkV v ts i t = 0 := by unfold tkV; rw [if_neg hx]
      omega)
  omega
theorem calm_one (h : TurnOk v ts) (hb : BalTo v.length ts ts.length) : CalmOne v (pkA v ts ts.length) := by
  intro t ht
  unfold envT at ht
  obtain ⟨⟨i, k⟩, hx, rfl⟩ := List.mem_map.1 ht
  obtain ⟨hi, hk, hp⟩ := prTo_mem.1 hx
  simp only at hi hk hp ⊢
  unfold gP at hp
  rw [decide_eq_true_iff] at hp
  obtain ⟨f, hf⟩ := isF_ex ts (pkT v ts ts.length) k ts.length 0 (by omega)
  rcases hf with ⟨_, h2⟩ | ⟨t0, _, h2, h3, h4, h5, h6⟩
  · have := one_none h hb hi (fun t => h2 t (Nat.zero_le _))
    omega
  · have h7 := one_first h hb hi h2 h3 h4 (fun t => h6 t (Nat.zero_le _))
    rcases pk_step (v := v) h.turn h2 with ⟨_, e, _⟩ | ⟨_, x, e, hxw, _, hfin, _⟩
    · rw [e] at h4; omega
    · rw [e, Int.toNat_natCast] at h7
      exact anyN_true.2 ⟨x, by rw [pkA_len]; exact hxw, decide_eq_true ⟨by rw [hfin, h3], by omega⟩⟩
end
end Go.Proofs.Ytfagapcihacgkaa
