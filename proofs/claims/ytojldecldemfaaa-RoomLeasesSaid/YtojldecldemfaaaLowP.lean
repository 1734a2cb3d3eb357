/- The greatest divisor that numbers have in common, sought from above, and by remainders; plain, no program. -/
import Derived.Test.YtojldecldemfaaaPure13
namespace Go.Proofs.Ytojldecldemfaaa
set_option linter.unusedVariables false
set_option linter.unusedSimpArgs false

/-- The greatest common divisor of n and all numbers. -/
def gcdL (n : Nat) (l : List Int) : Nat := l.foldl (fun g x => Nat.gcd g x.natAbs) n
theorem gcdL_nil (n : Nat) : gcdL n [] = n := rfl
theorem gcdL_snoc (n : Nat) (l : List Int) (x : Int) : gcdL n (l ++ [x]) = Nat.gcd (gcdL n l) x.natAbs := by simp [gcdL]
theorem gcdL_dvd : ∀ (l : List Int) (n d : Nat), d ∣ gcdL n l ↔ d ∣ n ∧ ∀ x ∈ l, d ∣ x.natAbs
  | [], n, d => by simp [gcdL]
  | x :: l, n, d => by
    have h := gcdL_dvd l (Nat.gcd n x.natAbs) d
    show d ∣ gcdL (Nat.gcd n x.natAbs) l ↔ _
    rw [h, Nat.dvd_gcd_iff]
    constructor
    · rintro ⟨⟨h1, h2⟩, h3⟩
      refine ⟨h1, fun y hy => ?_⟩
      rcases List.mem_cons.1 hy with rfl | hy
      · exact h2
      · exact h3 y hy
    · rintro ⟨h1, h2⟩
      exact ⟨⟨h1, h2 x (by simp)⟩, fun y hy => h2 y (List.mem_cons_of_mem _ hy)⟩
theorem gcdL_pos {n : Nat} (l : List Int) (h : 0 < n) : 0 < gcdL n l := Nat.pos_of_dvd_of_pos ((gcdL_dvd l n _).1 (Nat.dvd_refl _)).1 h
theorem gcdL_le {n : Nat} (l : List Int) (h : 0 < n) : gcdL n l ≤ n := Nat.le_of_dvd h ((gcdL_dvd l n _).1 (Nat.dvd_refl _)).1
/-- d divides n and all numbers. -/
def Comm (n : Nat) (l : List Int) (d : Nat) : Prop := d ∣ n ∧ ∀ x ∈ l, d ∣ x.natAbs
theorem comm_gcd (n : Nat) (l : List Int) : Comm n l (gcdL n l) := (gcdL_dvd l n _).1 (Nat.dvd_refl _)
theorem comm_le {n : Nat} {l : List Int} {d : Nat} (hn : 0 < n) (h : Comm n l d) : d ≤ gcdL n l := Nat.le_of_dvd (gcdL_pos l hn) ((gcdL_dvd l n d).2 h)
theorem tmod_zero {x : Int} {d : Nat} : x.tmod d = 0 ↔ d ∣ x.natAbs := by
  rw [← Int.dvd_iff_tmod_eq_zero, ← Int.natAbs_dvd_natAbs]; simp
/-- The numbers, and the denominator, without what they have in common. -/
def lowL (n : Nat) (l : List Int) : List Int := l.map fun x => x.tdiv (gcdL n l)
def lowN (n : Nat) (l : List Int) : Int := ((n / gcdL n l : Nat) : Int)
theorem lowL_length (n : Nat) (l : List Int) : (lowL n l).length = l.length := by simp [lowL]
theorem low_one {n : Nat} {l : List Int} (h : gcdL n l = 1) : lowL n l = l ∧ lowN n l = n := by
  unfold lowL lowN; rw [h]; simp
end Go.Proofs.Ytojldecldemfaaa
