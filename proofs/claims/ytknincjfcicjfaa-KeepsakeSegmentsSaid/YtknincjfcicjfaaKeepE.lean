/- Contracts of keepsake's functions at given lists, for examples; no condition but what each says. -/
import Derived.Test.YtknincjfcicjfaaKeepZ
import Derived.Test.YtknincjfcicjfaaKeepG
import Derived.Test.YtknincjfcicjfaaSame25
import Derived.Test.YtknincjfcicjfaaSt
namespace Go.Proofs.Ytknincjfcicjfaa
set_option linter.unusedVariables false
set_option linter.unusedSimpArgs false
open Go.ChangeShapes Go.WideShapes Go.ChangeAt Go.RowKit Go.Deep

theorem same25_e {p q : Option Addr} {c d n m : Nat} {xs ys : List Int} {w : World} (e : xs = ys) (hx : Ints w p c xs) (hy : Ints w q d ys) (hn : xs.length = n := by rfl) (hm : ys.length = m := by rfl) :
    Calls Try.prog 16 #[.slice p n c, .slice q m d] w fun e w' => e = .returned (.bool true) ∧ ∃ n, w' = w.drewN n := by
  subst hn hm e; exact eq25_true hx hy
theorem in64_one {m : Int} (h : in64B m = true) : in64 m := by
  simp [in64B] at h
  exact h
/-- A row and an error. -/
def Gives2e (w : World) (n : Nat) (xs : List Int) (k : Int) (e : Ending) (w' : World) : Prop := ∃ p c, e = .returned (.tuple #[.slice p n c, .int .i64 k]) ∧ Ints w' p c xs ∧ Below w.heap.size w w'
theorem Gives2.e {w w' : World} {xs ys : List Int} {k l : Int} {e : Ending} {n : Nat} (h : Gives2 w xs k e w') (h1 : xs = ys) (h2 : k = l) (hn : ys.length = n) : Gives2e w n ys l e w' := by
  subst h1 h2 hn; obtain ⟨p, c, h3, h4, h5⟩ := h; exact ⟨p, c, h3, h4.ints, h5⟩
theorem give29_e {p : Option Addr} {c n na : Nat} {m e : Int} {v : List (List Int)} {xs : List Int} {w : World} (h1 : givL m v = xs) (h2 : chkM m v = e) (hx : Mat w p c v) (hm : in64B m = true := by decide) (hv : v.length = n := by rfl) (hna : xs.length = na := by rfl) :
    Calls Try.prog 12 #[.int .i64 m, .slice p n c] w (Gives2e w na xs e) := by
  subst hv
  exact (keepGive_any m p c v w (in64_one hm) hx).mono fun e w' h => h.e h1 h2 hna
theorem rounds29_e {p : Option Addr} {c n na : Nat} {m e : Int} {v : List (List Int)} {xs : List Int} {w : World} (h1 : rndsL m v = xs) (h2 : chkM m v = e) (hx : Mat w p c v) (hm : in64B m = true := by decide) (hv : v.length = n := by rfl) (hna : xs.length = na := by rfl) :
    Calls Try.prog 10 #[.int .i64 m, .slice p n c] w (Gives2e w na xs e) := by
  subst hv
  exact (keepRoundsTop_any m p c v w (in64_one hm) hx).mono fun e w' h => h.e h1 h2 hna
theorem check29_e {p : Option Addr} {c n : Nat} {m e : Int} {v : List (List Int)} {w : World} (h2 : chkM m v = e) (hx : Mat w p c v) (hm : in64B m = true := by decide) (hv : v.length = n := by rfl) :
    Calls Try.prog 14 #[.int .i64 m, .slice p n c] w fun e' w' => e' = .returned (.int .i64 e) ∧ Below w.heap.size w w' := by
  subst hv h2
  exact (keepCheck_any m p c v w (in64_one hm) hx).mono fun e w' ⟨h1, h2⟩ => ⟨h1, by rw [h2]; exact Below.refl _ _⟩
def rowsB (v : List (List Int)) : Bool := v.all fun l => decide (l.length ≤ 1000)
theorem rows_of {v : List (List Int)} (h : rowsB v = true) : Hid (∀ i, i < v.length → (rget v i).length ≤ 1000000) := fun i hi => by
  have := List.all_eq_true.1 h _ (rget_mem hi)
  rw [decide_eq_true_iff] at this
  omega
theorem turns29_e {pa po p : Option Addr} {ca co c na no n nx : Nat} {e : Int} {a o : List Int} {v : List (List Int)} {xs : List Int} {w : World} (h1 : trnsL a o v = xs) (h2 : trnE a o v = e) (ha : Ints w pa ca a) (ho : Ints w po co o) (hx : Mat w p c v)
    (hr : rowsB v = true := by decide +kernel) (hl : o.length ≤ 1000000 := by decide) (h3 : a.length = na := by rfl) (h4 : o.length = no := by rfl) (hv : v.length = n := by rfl) (hna : xs.length = nx := by rfl) :
    Calls Try.prog 18 #[.slice pa na ca, .slice po no co, .slice p n c] w (Gives2e w nx xs e) := by
  subst h3 h4 hv
  exact (keepTurns_any pa ca a po co o p c v w ha ho hx (rows_of hr) hl).mono fun e w' h => h.e h1 h2 hna
/-- An exchange, and an error. -/
def GivesXe (w : World) (i j x y k : Int) (e : Ending) (w' : World) : Prop := e = .returned (.tuple #[.agg #[.int .i64 i, .int .i64 j, .int .i64 x, .int .i64 y], .int .i64 k]) ∧ Below w.heap.size w w'
theorem trade29_e {pa p : Option Addr} {ca c na n : Nat} {i j x y e : Int} {a : List Int} {v : List (List Int)} {w : World} (h1 : exV (trdX a v) = .agg #[.int .i64 i, .int .i64 j, .int .i64 x, .int .i64 y]) (h2 : trdE a v = e) (ha : Ints w pa ca a) (hx : Mat w p c v)
    (hr : rowsB v = true := by decide +kernel) (h3 : a.length = na := by rfl) (hv : v.length = n := by rfl) :
    Calls Try.prog 20 #[.slice pa na ca, .slice p n c] w (GivesXe w i j x y e) := by
  subst h3 hv h2
  exact (keepTrade_any pa ca a p c v w ha hx (rows_of hr)).mono fun e w' ⟨h2, h3⟩ => ⟨by rw [h2, h1], h3⟩
theorem exV_of {a : List Int} {v : List (List Int)} {i j x y : Nat} (h : trdX a v = some (i, j, x, y)) : exV (trdX a v) = .agg #[.int .i64 (Int.ofNat i), .int .i64 (Int.ofNat j), .int .i64 (Int.ofNat x), .int .i64 (Int.ofNat y)] := by rw [h]; rfl
theorem exV_no {a : List Int} {v : List (List Int)} (h : trdX a v = none) : exV (trdX a v) = .agg #[.int .i64 0, .int .i64 0, .int .i64 0, .int .i64 0] := by rw [h]; rfl
end Go.Proofs.Ytknincjfcicjfaa
