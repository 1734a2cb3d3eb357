/- Markers on a row of items, and giving by markers, in plain words; no program. -/
import Derived.Test.YtknincjfcicjfaaPure13
namespace Go.Proofs.Ytknincjfcicjfaa
set_option linter.unusedVariables false
set_option linter.unusedSimpArgs false

/-- Entry k of an agent's markers on m items. -/
def MkAt (m : Int) (l : List Int) (k : Nat) : Prop := 1 ≤ iget l k ∧ iget l k ≤ m - 1 ∧ (0 < k → iget l (k - 1) < iget l k)
instance (m : Int) (l : List Int) (k : Nat) : Decidable (MkAt m l k) := by unfold MkAt; infer_instance
def MkRow (m : Int) (n : Nat) (l : List Int) : Prop := l.length + 1 = n ∧ ∀ k, k < l.length → MkAt m l k
instance (m : Int) (n : Nat) (l : List Int) : Decidable (MkRow m n l) := by unfold MkRow; infer_instance
def Marks (m : Int) (v : List (List Int)) : Prop := 1 ≤ m ∧ m ≤ 30 ∧ 0 < v.length ∧ v.length ≤ 6 ∧ ∀ i, i < v.length → MkRow m v.length (rget v i)
instance (m : Int) (v : List (List Int)) : Decidable (Marks m v) := by unfold Marks; infer_instance
/-- What Check answers. -/
def chkM (m : Int) (v : List (List Int)) : Int := if m < 1 ∨ 30 < m then 2 else if 6 < v.length then 4 else if Marks m v then 0 else 8
theorem chkM_zero {m : Int} {v : List (List Int)} : chkM m v = 0 ↔ Marks m v := by
  constructor
  · intro h
    unfold chkM at h
    by_cases h1 : m < 1 ∨ 30 < m
    · simp [h1] at h
    · by_cases h2 : 6 < v.length
      · simp [h1, h2] at h
      · by_cases h3 : Marks m v
        · exact h3
        · simp [h1, h2, h3] at h
  · intro h
    unfold chkM
    rw [if_neg (by have := h.1; have := h.2.1; omega), if_neg (by have := h.2.2.2.1; omega), if_pos h]
theorem chkM_arg {m : Int} {v : List (List Int)} (h : m < 1 ∨ 30 < m) : chkM m v = 2 := by simp [chkM, h]
theorem chkM_many {m : Int} {v : List (List Int)} (h : ¬ (m < 1 ∨ 30 < m)) (h2 : 6 < v.length) : chkM m v = 4 := by simp [chkM, h, h2]
theorem chkM_bad {m : Int} {v : List (List Int)} (h : ¬ (m < 1 ∨ 30 < m)) (h2 : ¬ 6 < v.length) (h3 : ¬ Marks m v) : chkM m v = 8 := by simp [chkM, h, h2, h3]
theorem chkM_row {m : Int} {v : List (List Int)} (h : ¬ (m < 1 ∨ 30 < m)) (h2 : ¬ 6 < v.length) {i : Nat} (hi : i < v.length) (h3 : ¬ MkRow m v.length (rget v i)) : chkM m v = 8 :=
  chkM_bad h h2 (fun hm => h3 (hm.2.2.2.2 i hi))

/-- The first one of a list with the least key. -/
def lstK (key : Int → Int) (l : List Int) : Int := l.foldl (fun b x => if b < 0 ∨ key x < key b then x else b) (-1)
/-- The numbers below n that are not in out. -/
def leftN (n : Nat) (out : List Int) : List Int := ((List.range n).map fun (k : Nat) => (k : Int)).filter fun x => decide (x ∉ out)
/-- What counts in round r. -/
def keyR (m : Int) (v : List (List Int)) (r : Nat) (i : Int) : Int := if r + 1 < v.length then iget (rget v i.toNat) r else m
/-- The agents of the first r rounds. -/
def rnd (m : Int) (v : List (List Int)) : Nat → List Int
  | 0 => []
  | r + 1 => rnd m v r ++ [lstK (keyR m v r) (leftN v.length (rnd m v r))]
def rndL (m : Int) (v : List (List Int)) : List Int := rnd m v v.length

theorem lstK_snoc (key : Int → Int) (l : List Int) (x : Int) : lstK key (l ++ [x]) = if lstK key l < 0 ∨ key x < key (lstK key l) then x else lstK key l := by
  unfold lstK
  rw [List.foldl_append]
  rfl
theorem nodup_sub_len : ∀ {l m : List Int}, l.Nodup → (∀ x ∈ l, x ∈ m) → l.length ≤ m.length
  | [], m, _, _ => Nat.zero_le _
  | a :: l, m, hn, hs => by
    have ha : a ∈ m := hs a (List.mem_cons_self ..)
    have hn2 := List.nodup_cons.1 hn
    have := nodup_sub_len (l := l) (m := m.erase a) hn2.2 (fun x hx => by
      refine (List.mem_erase_of_ne ?_).2 (hs x (List.mem_cons_of_mem _ hx))
      rintro rfl; exact hn2.1 hx)
    rw [List.length_erase_of_mem ha] at this
    have h0 : 0 < m.length := List.length_pos_of_mem ha
    simp only [List.length_cons]
    omega
theorem lstK_mem {key : Int → Int} {l : List Int} (h0 : ∀ x ∈ l, 0 ≤ x) (h : l ≠ []) : lstK key l ∈ l := by
  have : ∀ (l : List Int) (b : Int), l.foldl (fun b x => if b < 0 ∨ key x < key b then x else b) b ∈ l ∨ l.foldl (fun b x => if b < 0 ∨ key x < key b then x else b) b = b := by
    intro l
    induction l with
    | nil => intro b; exact .inr rfl
    | cons a l ih =>
      intro b
      simp only [List.foldl_cons]
      rcases ih (if b < 0 ∨ key a < key b then a else b) with h | h
      · exact .inl (List.mem_cons_of_mem _ h)
      · rw [h]
        by_cases hc : b < 0 ∨ key a < key b
        · rw [if_pos hc]; exact .inl (List.mem_cons_self ..)
        · rw [if_neg hc]; exact .inr rfl
  cases l with
  | nil => exact absurd rfl h
  | cons a l =>
    have e : lstK key (a :: l) = l.foldl (fun b x => if b < 0 ∨ key x < key b then x else b) a := by
      simp [lstK]
    rw [e]
    rcases this l a with h | h
    · exact List.mem_cons_of_mem _ h
    · rw [h]; exact List.mem_cons_self ..
theorem leftN_mem {n : Nat} {out : List Int} {x : Int} : x ∈ leftN n out ↔ 0 ≤ x ∧ x < n ∧ x ∉ out := by
  unfold leftN
  rw [List.mem_filter, List.mem_map, decide_eq_true_iff]
  constructor
  · rintro ⟨⟨k, hk, rfl⟩, h⟩
    exact ⟨by omega, by have := List.mem_range.1 hk; omega, h⟩
  · rintro ⟨h1, h2, h3⟩
    exact ⟨⟨x.toNat, List.mem_range.2 (by omega), by omega⟩, h3⟩
theorem leftN_snoc {n : Nat} {out : List Int} {x : Int} : leftN n (out ++ [x]) = (leftN n out).filter fun y => !decide (y = x) := by
  unfold leftN
  rw [List.filter_filter]
  refine List.filter_congr fun y _ => ?_
  by_cases h1 : y ∈ out <;> by_cases h2 : y = x <;> simp [h1, h2]
theorem leftN_nil (n : Nat) : leftN n [] = (List.range n).map fun (k : Nat) => (k : Int) := by
  unfold leftN
  rw [List.filter_eq_self]
  intro a _; simp
theorem rnd_len (m : Int) (v : List (List Int)) : ∀ r, (rnd m v r).length = r
  | 0 => rfl
  | r + 1 => by rw [rnd, List.length_append, rnd_len m v r]; rfl
theorem leftN_ne {n : Nat} {out : List Int} (h : out.length < n) : leftN n out ≠ [] := by
  intro he
  have hs : ∀ x ∈ (List.range n).map fun (k : Nat) => (k : Int), x ∈ out := by
    intro x hx
    have hno : x ∉ leftN n out := by rw [he]; simp
    rw [leftN_mem] at hno
    obtain ⟨k, hk, rfl⟩ := List.mem_map.1 hx
    have := List.mem_range.1 hk
    exact Classical.byContradiction fun hn => hno ⟨by omega, by omega, hn⟩
  have hnd : ((List.range n).map fun (k : Nat) => (k : Int)).Nodup := by
    refine List.Pairwise.map _ (fun a b h e => h ?_) List.nodup_range
    omega
  have := nodup_sub_len hnd hs
  simp at this
  omega
theorem rnd_new {m : Int} {v : List (List Int)} {r : Nat} (h : r < v.length) :
    lstK (keyR m v r) (leftN v.length (rnd m v r)) ∈ leftN v.length (rnd m v r) :=
  lstK_mem (fun x hx => (leftN_mem.1 hx).1) (leftN_ne (by rw [rnd_len]; exact h))
theorem rnd_spec (m : Int) (v : List (List Int)) : ∀ r, r ≤ v.length → (rnd m v r).Nodup ∧ ∀ x ∈ rnd m v r, 0 ≤ x ∧ x < v.length
  | 0, _ => ⟨List.nodup_nil, fun _ h => by cases h⟩
  | r + 1, h => by
    obtain ⟨h1, h2⟩ := rnd_spec m v r (by omega)
    have h3 := leftN_mem.1 (rnd_new (m := m) (v := v) (r := r) (by omega))
    rw [rnd]
    refine ⟨?_, ?_⟩
    · rw [List.nodup_append]
      refine ⟨h1, by simp, ?_⟩
      intro a ha b hb e
      simp at hb; subst hb; subst e
      exact h3.2.2 ha
    · intro x hx
      rcases List.mem_append.1 hx with hx | hx
      · exact h2 x hx
      · simp at hx; subst hx; exact ⟨h3.1, h3.2.1⟩
end Go.Proofs.Ytknincjfcicjfaa
