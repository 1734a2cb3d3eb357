/- The walk of slices.Grow at the nil slice of ints. -/
import Derived.Test.YtknincjfcicjfaaPre
import Derived.Test.YtknincjfcicjfaaFuncs
import Derived.Lib.AppendZerosOnto
namespace Go.Proofs.Ytknincjfcicjfaa
set_option linter.unusedVariables false
set_option linter.unusedSimpArgs false
open Go.ChangeShapes Go.WideShapes Go.ChangeAt Go.RowKit Go.Deep

/-- 'append(s, make([]int, n)...)' at the nil slice. -/
theorem wpList_growZ {w : World} {ops : Array Oper} {rest : List Oper} {o : Oper} {a : Act} {Q : Exit → Act → World → Prop} (hgd : o.guard = none) (s x : Operand)
    (ho : o.op = .call { callee := .builtin .append, args := #[s, x], argTypes := #[23, 3] })
    (n : Nat) (hn : n ≤ 100000) (h0 : n ≠ 0) (hs : a.eval s = .slice none 0 0) (hx : a.eval x = .int .i64 (n : Int))
    (h : ∀ G w', n ≤ G → Own w' w.heap.size (some ⟨w.heap.size, 0, none⟩) G [] → Below w.heap.size w w' → wpList Try.prog ops Q rest (a.put o.dst (.slice (some ⟨w.heap.size, 0, none⟩) n G)) w') : wpList Try.prog ops Q (o :: rest) a w := by
  obtain ⟨i, hi, hz0, hz1, hz2⟩ := info_parts infoInt
  refine wpList_plain hgd fun K hK => ?_
  have hrun := Lib.run_append_grow_zeros (P := Try.prog) w 23 3 o.type 3 i (.int .i64 0) .i64 .i64 (by kernel_rfl) (by kernel_rfl) hi hz0 none 0 0 [] (run_firstCells_none _ _ _ _ _) n (by omega) (by rw [hz1]; decide) (by omega) (by omega) (by rw [hz2]; omega) (growslice_fits (by omega) (by rw [hz2]; omega))
  rw [Nat.zero_add] at hrun
  have hG1 := grownCap_ge w n 0 3
  have hG2 := grownCap_le_maxLen w n 0 3 (by simp [maxLen]; omega)
  generalize grownCap w n 0 3 = G at *
  obtain ⟨cs, hcs⟩ : ∃ cs : Array Value, ([] : List Value).toArray ++ Builtin.zeroCells (Value.int .i64 0).cells n ++ Builtin.zeroCells (Value.int .i64 0).cells (G - n) = cs := ⟨_, rfl⟩
  have hsz : cs.size = G := by
    rw [← hcs, Array.size_append, Array.size_append, size_zeroCells, size_zeroCells]
    have : (Value.int .i64 0).cells.size = 1 := rfl
    rw [this]; simp; omega
  rw [hcs] at hrun
  unfold Oper.wp
  simp [execOp, ho, resolve, invoke, builtin, hs, hx, hrun, Result.andThen]
  refine hK _ _ (h G _ hG1 ⟨⟨rfl, .inr ⟨w.heap.size, G, cs, rfl, Nat.le_refl _, (by show (w.heap.push (.cells cs 3))[w.heap.size]? = _; simp), Nat.zero_le _, hG2, by omega, rfl⟩⟩, fun j h => (by simp at h)⟩ (((Below.refl w.heap.size w).drew).alloc (Nat.le_refl _) _))

set_option maxHeartbeats 1600000 in
set_option maxRecDepth 100000 in
theorem grow0_any (n : Nat) (w : World) (hn : n ≤ 100000) :
    Calls Try.prog 58 #[.slice none 0 0, .int .i64 n] w fun e w' => ∃ p c, e = .returned (.slice p 0 c) ∧ Own w' w.heap.size p c [] ∧ Below w.heap.size w w' := by
  have hd : decide ((n : Int) < 0) = false := by rw [decide_eq_false_iff_not]; omega
  by_cases h0 : n = 0
  · subst h0
    go_enter Try.func58, Try.ntmps58
    go_wp2_with fail
    go_ret
    exact ⟨none, 0, rfl, Own.ofNil _ _, Below.refl _ _⟩
  · have hg : decide ((0 : Int) < (n : Int)) = true := by rw [decide_eq_true_iff]; omega
    have hsl0 := run_pre none 0 0 0 (by omega)
    go_enter Try.func58, Try.ntmps58
    go_wp2_with (at_builtin; refine wpList_growZ rfl (.tmp 20) (.tmp 21) rfl n hn h0 rfl rfl ?_; intro G w1 hG hO hb; have hsl := run_pre (some ⟨w.heap.size, 0, none⟩) n G 0 (by omega))
    go_ret
    exact ⟨_, _, rfl, hO, hb⟩
end Go.Proofs.Ytknincjfcicjfaa
