/- Contracts of robin's functions at given lists, for examples; no condition but what each says. -/
import Derived.Test.YtfagapcihacgkaaRobinG
import Derived.Test.YtfagapcihacgkaaRobinC
import Derived.Test.YtfagapcihacgkaaSame
import Derived.Test.YtfagapcihacgkaaSt
namespace Go.Proofs.Ytfagapcihacgkaa
set_option linter.unusedVariables false
set_option linter.unusedSimpArgs false
open Go.ChangeShapes Go.WideShapes Go.ChangeAt Go.RowKit Go.Deep

theorem sameI_e {p q : Option Addr} {c d n m : Nat} {xs ys : List Int} {w : World} (e : xs = ys) (hx : Ints w p c xs) (hy : Ints w q d ys) (hn : xs.length = n := by rfl) (hm : ys.length = m := by rfl) :
    Calls Try.prog 18 #[.slice p n c, .slice q m d] w fun e w' => e = .returned (.bool true) ∧ ∃ n, w' = w.drewN n := by
  subst hn hm e; exact eqI_true hx hy
theorem pick_e {p q : Option Addr} {c d n m : Nat} {v : List (List Int)} {ts a k : List Int} {e : Int} {w : World} (h1 : pickL v ts = a) (h2 : pickT v ts = k) (h3 : pickE v ts = e) (hx : Mat w p c v) (hy : Ints w q d ts) {na nk : Nat} (hna : a.length = na := by rfl) (hnk : k.length = nk := by rfl) (hv : v.length = n := by rfl) (ht : ts.length = m := by rfl) :
    Calls Try.prog 12 #[.agg #[.slice p n c], .slice q m d] w fun e' w' => ∃ pa ca pk ck, e' = .returned (.tuple #[.slice pa na ca, .slice pk nk ck, .int .i64 e]) ∧ Ints w' pa ca a ∧ Ints w' pk ck k ∧ Below w.heap.size w w' := by
  subst hv ht hna hnk h1 h2 h3
  refine (robinPick_any p q c d v ts w hx hy).mono ?_
  rintro e' w' ⟨pa, ca, pk, ck, he, h1, h2, h3⟩
  exact ⟨pa, ca, pk, ck, he, h1.ints, h2.ints, h3⟩
theorem rounds_e {p : Option Addr} {c m : Nat} {f xs : List Int} {k e : Int} {w : World} (h1 : rndL f false k = xs) (h2 : rndE f k = e) (hx : Ints w p c f) {n : Nat} (hn : xs.length = n := by rfl) (hf : f.length = m := by rfl) (hl : f.length ≤ 1000000 := by decide) :
    Calls Try.prog 20 #[.slice p m c, .int .i64 k] w fun e' w' => ∃ pa ca, e' = .returned (.tuple #[.slice pa n ca, .int .i64 e]) ∧ Ints w' pa ca xs ∧ Below w.heap.size w w' := by
  subst hf hn h1 h2
  refine (robinRounds_any p c f k w hx hl).mono ?_
  rintro e' w' ⟨pa, ca, he, h1, h3⟩
  exact ⟨pa, ca, he, h1.ints, h3⟩
theorem snake_e {p : Option Addr} {c m : Nat} {f xs : List Int} {k e : Int} {w : World} (h1 : rndL f true k = xs) (h2 : rndE f k = e) (hx : Ints w p c f) {n : Nat} (hn : xs.length = n := by rfl) (hf : f.length = m := by rfl) (hl : f.length ≤ 1000000 := by decide) :
    Calls Try.prog 22 #[.slice p m c, .int .i64 k] w fun e' w' => ∃ pa ca, e' = .returned (.tuple #[.slice pa n ca, .int .i64 e]) ∧ Ints w' pa ca xs ∧ Below w.heap.size w w' := by
  subst hf hn h1 h2
  refine (robinSnake_any p c f k w hx hl).mono ?_
  rintro e' w' ⟨pa, ca, he, h1, h3⟩
  exact ⟨pa, ca, he, h1.ints, h3⟩

/-- The chapter's goods. -/
def GV18 : List (List Int) := [[5, 3, 1], [2, 2, 2]]
set_option maxHeartbeats 800000 in
theorem given18_any (w : World) : Calls Try.prog 28 #[] w fun e w' => ∃ p c, e = .returned (.agg #[.slice p 2 c]) ∧ Mat w' p c GV18 ∧ Below w.heap.size w w' := by
  go_enter Try.func28, Try.ntmps28
  have hS := (((((St.start w).bump (.cells #[.slice (some ⟨w.heap.size + 1 + 1 + 1, 0, none⟩) 2 2] 24)).lit [5, 3, 1] 3).lit [2, 2, 2] 3).litM (ks := [1, 0]) (.cons rfl (.cons rfl .nil)) 2)
  go_wp2
  exact bodyPost_ret (v := .agg #[.slice (some ⟨w.heap.size + 1 + 1 + 1, 0, none⟩) 2 2]) (by simp [results, Try.results28, go_sem]) rfl ⟨_, _, rfl, hS.matAt 0 rfl, hS.bel⟩
theorem check18_e {p : Option Addr} {c m : Nat} {n e : Int} {ts : List Int} {w : World} (h : chkT n ts = e) (hx : Ints w p c ts) (ht : ts.length = m := by rfl) :
    Calls Try.prog 16 #[.int .i64 n, .slice p m c] w fun e' w' => e' = .returned (.int .i64 e) ∧ Below w.heap.size w w' := by
  subst ht h; exact robinCheck_any n p c ts w hx
theorem bal_e {p : Option Addr} {c m : Nat} {n e : Int} {b : Bool} {ts : List Int} {w : World} (h : chkT n ts = e) (h2 : balB n ts = b) (hx : Ints w p c ts) (ht : ts.length = m := by rfl) :
    Calls Try.prog 14 #[.int .i64 n, .slice p m c] w fun e' w' => e' = .returned (.tuple #[.bool b, .int .i64 e]) ∧ Below w.heap.size w w' := by
  subst ht h h2; exact robinBalanced_any n p c ts w hx
end Go.Proofs.Ytfagapcihacgkaa
