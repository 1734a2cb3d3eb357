/- A map of n numbers into themselves: the circle that one comes to; plain, no program. -/
import Derived.Test.YtiohehofnlmenaaGoodsW
namespace Go.Proofs.Ytiohehofnlmenaa
set_option linter.unusedVariables false
set_option linter.unusedSimpArgs false
/-- f, k times. -/
def itN (f : Nat → Nat) : Nat → Nat → Nat
  | 0, x => x
  | k + 1, x => f (itN f k x)
theorem itN_add (f : Nat → Nat) (a : Nat) : ∀ b x, itN f (a + b) x = itN f b (itN f a x)
  | 0, _ => rfl
  | b + 1, x => by rw [← Nat.add_assoc, itN, itN, itN_add f a b x]
theorem itN_lt {f : Nat → Nat} {n : Nat} (hf : ∀ x, x < n → f x < n) : ∀ k x, x < n → itN f k x < n
  | 0, _, h => h
  | k + 1, x, h => hf _ (itN_lt hf k x h)
theorem pigeonC : ∀ (n m : Nat) (g : Nat → Nat), (∀ j, j < n → g j < m) → (∀ a b, a < b → b < n → g a ≠ g b) → n ≤ m
  | 0, _, _, _, _ => Nat.zero_le _
  | n + 1, m, g, h1, h2 => by
    have hm := h1 n (by omega)
    have := pigeonC n (m - 1) (fun j => if g n < g j then g j - 1 else g j) (fun j hj => by
      have a := h1 j (by omega)
      have b := h2 j n hj (by omega)
      split <;> omega) (fun a b hab hb => by
      have c := h2 a b hab (by omega)
      have d := h2 a n (by omega) (by omega)
      have e := h2 b n hb (by omega)
      split <;> split <;> omega)
    omega
/-- After n steps one is on the circle. -/
theorem it_back {f : Nat → Nat} {n : Nat} (hf : ∀ x, x < n → f x < n) {x : Nat} (hx : x < n) : ∃ L, 1 ≤ L ∧ L ≤ n ∧ itN f L (itN f n x) = itN f n x := by
  apply Classical.byContradiction
  intro hn
  have h := pigeonC (n + 1) n (fun k => itN f k x) (fun j _ => itN_lt hf j x hx) (fun a b hab hb e => by
    apply hn
    refine ⟨b - a, by omega, by omega, ?_⟩
    have e1 : itN f (n + (b - a)) x = itN f (n - a) (itN f b x) := by rw [← itN_add]; congr 1; omega
    have e2 : itN f n x = itN f (n - a) (itN f a x) := by rw [← itN_add]; congr 1; omega
    rw [← itN_add, e1, e2]
    exact congrArg _ e.symm)
  omega
/-- L is the length of z's circle. -/
def Per (f : Nat → Nat) (z L : Nat) : Prop := 1 ≤ L ∧ itN f L z = z ∧ ∀ k, 1 ≤ k → k < L → itN f k z ≠ z
theorem per_ex {f : Nat → Nat} {z M : Nat} (h1 : 1 ≤ M) (h2 : itN f M z = z) : ∃ L, L ≤ M ∧ Per f z L := by
  induction M using Nat.strongRecOn with
  | ind M ih =>
    by_cases h : ∃ k, 1 ≤ k ∧ k < M ∧ itN f k z = z
    · obtain ⟨k, a, b, c⟩ := h
      obtain ⟨L, l1, l2⟩ := ih k b a c
      exact ⟨L, by omega, l2⟩
    · exact ⟨M, Nat.le_refl _, h1, h2, fun k a b c => h ⟨k, a, b, c⟩⟩
theorem per_step {f : Nat → Nat} {z L : Nat} (h : Per f z L) (k : Nat) : itN f L (itN f k z) = itN f k z := by
  rw [← itN_add, Nat.add_comm, itN_add, h.2.1]
theorem per_inj {f : Nat → Nat} {z L : Nat} (h : Per f z L) {a b : Nat} (hab : a < b) (hb : b < L) : itN f a z ≠ itN f b z := fun e => by
  have e1 : itN f (L - b + a) z = itN f (L - b) (itN f b z) := by rw [Nat.add_comm, itN_add, e]
  rw [← itN_add, show b + (L - b) = L by omega, h.2.1] at e1
  exact h.2.2 (L - b + a) (by omega) (by omega) e1
theorem per_mod {f : Nat → Nat} {z L : Nat} (h : Per f z L) : ∀ k, itN f k z = itN f (k % L) z := by
  intro k
  induction k using Nat.strongRecOn with
  | ind k ih =>
    by_cases hk : k < L
    · rw [Nat.mod_eq_of_lt hk]
    · have h1 := h.1
      have e : itN f k z = itN f (k - L) z := by
        have := itN_add f L (k - L) z
        rw [show L + (k - L) = k by omega, h.2.1] at this
        exact this
      rw [e, ih (k - L) (by omega), Nat.mod_eq_sub_mod (a := k) (b := L) (by omega)]
/-- Every one of the circle has it. -/
theorem per_any {f : Nat → Nat} {z L : Nat} (h : Per f z L) (a : Nat) : Per f (itN f a z) L := by
  refine ⟨h.1, per_step h a, fun k h1 h2 e => ?_⟩
  have h3 := congrArg (itN f (L - a % L)) e
  have hm := Nat.mod_lt a (show 0 < L from h.1)
  rw [per_mod h a, ← itN_add, ← itN_add, ← itN_add, show a % L + (L - a % L) = L by omega, h.2.1,
    show a % L + (k + (L - a % L)) = L + k by omega, itN_add, h.2.1] at h3
  exact h.2.2 k h1 h2 h3
/-- The circle, from z on. -/
def orb (f : Nat → Nat) (z L : Nat) : List Int := (List.range L).map fun (k : Nat) => Int.ofNat (itN f k z)
theorem orb_len (f : Nat → Nat) (z L : Nat) : (orb f z L).length = L := by simp [orb]
theorem orb_get {f : Nat → Nat} {z L k : Nat} (h : k < L) : iget (orb f z L) k = (itN f k z : Int) := by simp [orb, iget, h]
/-- Turned: from its a-th on. -/
theorem orb_turn {f : Nat → Nat} {z L a : Nat} (h : Per f z L) (ha : a < L) : (orb f z L).drop a ++ (orb f z L).take a = orb f (itN f a z) L := by
  apply ext_iget
  · simp [orb]; omega
  · intro k hk
    have hkl : k < L := by simp [orb] at hk; omega
    rw [orb_get hkl, iget_append]
    have hd : ((orb f z L).drop a).length = L - a := by simp [orb]
    rw [hd, ← itN_add]
    split
    · have : iget ((orb f z L).drop a) k = iget (orb f z L) (a + k) := by simp [iget, List.getElem?_drop]
      rw [this, orb_get (by omega)]
    · rename_i hge
      have : iget ((orb f z L).take a) (k - (L - a)) = iget (orb f z L) (k - (L - a)) := by
        simp only [iget, List.getD, List.getElem?_take]
        rw [if_pos (by omega)]
      rw [this, orb_get (by omega), show a + k = L + (k - (L - a)) by omega, itN_add, h.2.1]
end Go.Proofs.Ytiohehofnlmenaa
