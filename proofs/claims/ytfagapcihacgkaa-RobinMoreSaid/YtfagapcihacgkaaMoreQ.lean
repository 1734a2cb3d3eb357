/- Rounds and snakes of a first round that has each agent once: valid turns, and balanced; plain, no program. -/
import Derived.Test.YtfagapcihacgkaaMoreP
import Derived.Test.YtfagapcihacgkaaRobinG
import Derived.Test.YtfagapcihacgkaaLex
import Derived.Test.YtfagapcihacgkaaGoodsQ
namespace Go.Proofs.Ytfagapcihacgkaa
set_option linter.unusedVariables false
set_option linter.unusedSimpArgs false
theorem seqL_get {f : List Int} {b : Bool} {m t : Nat} (h : t < m) : iget (seqL f b m) t = seqI f b t := by simp [seqL, iget, h]
theorem seq_turn {f : List Int} {n : Nat} (hA : IsA f n) (hn : 1 ≤ n) (b : Bool) (m : Nat) : TurnsOk (n : Int) (seqL f b m) := by
  intro t ht
  rw [seqL_len] at ht
  rw [seqL_get ht]
  obtain ⟨j, hj, he⟩ := seqI_mem (f := f) (b := b) (t := t) (by rw [hA.1]; omega)
  rw [hA.1] at hj
  have := isA_lt hA j hj
  unfold itm at this
  rw [he]; omega
theorem seq_chkT {f : List Int} {n : Nat} (hA : IsA f n) (hn : 1 ≤ n) (hn6 : n ≤ 6) (b : Bool) {m : Nat} (hm : m ≤ 60) : chkT (n : Int) (seqL f b m) = 0 :=
  chkT_zero.2 ⟨by omega, by omega, by rw [seqL_len]; exact hm, seq_turn hA hn b m⟩
theorem seq_bal {f : List Int} {n : Nat} (hA : IsA f n) (hn : 1 ≤ n) (b : Bool) (m : Nat) : BalTo n (seqL f b m) (seqL f b m).length := by
  intro s hs t ht
  rw [seqL_len] at hs
  rw [seqL_get hs, seqL_get (by omega)]
  rintro ⟨h1, h2⟩
  have hl := hA.1
  have m1 := Nat.mod_lt s (show 0 < n by omega)
  have m2 := Nat.mod_lt t (show 0 < n by omega)
  have d1 := Nat.div_add_mod s n
  have d2 := Nat.div_add_mod t n
  rw [h2] at d1
  unfold seqI at h1
  rw [hl, h2] at h1
  by_cases hb : b = true ∧ t / n % 2 = 1
  · rw [if_pos hb, if_pos hb] at h1
    have := isA_inj hA (by omega) (by omega) h1
    omega
  · rw [if_neg hb, if_neg hb] at h1
    have := isA_inj hA m1 m2 h1
    omega
theorem seq_balB {f : List Int} {n : Nat} (hA : IsA f n) (hn : 1 ≤ n) (hn6 : n ≤ 6) (b : Bool) {m : Nat} (hm : m ≤ 60) : balB (n : Int) (seqL f b m) = true := by
  rw [balB_ok (seq_chkT hA hn hn6 b hm)]
  exact decide_eq_true (seq_bal hA hn b m)
theorem seq_first {f : List Int} {n : Nat} (hA : IsA f n) {m t : Nat} (ht : t < m) (h0 : t % n = 0) : iget (seqL f false m) t = iget f 0 := by
  rw [seqL_get ht, seqI_false, hA.1, h0]
/-- Rounds: who comes first envies nobody. -/
theorem rounds_calm {v : List (List Int)} {f : List Int} (hg : Gds v) (hA : IsA f v.length) {m i : Nat} (hi : i < v.length) (hfi : iget f 0 = (i : Int)) (k : Nat) :
    gP v (pkA v (seqL f false m) (seqL f false m).length) i k = false := by
  unfold gP
  rw [decide_eq_false_iff_not]
  have := first_calm (v := v) (ts := seqL f false m) ⟨hg, fun t ht => seq_turn hA hg.1 false m t ht⟩ (seq_bal hA hg.1 false m) hi (fun t ht h0 => by
    rw [seqL_len] at ht; rw [seq_first hA ht h0]; exact hfi) k
  omega
end Go.Proofs.Ytfagapcihacgkaa
