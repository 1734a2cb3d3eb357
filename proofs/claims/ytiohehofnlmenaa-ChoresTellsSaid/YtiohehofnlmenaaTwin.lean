/- The walk of the reference's Twin: a copy, every row in a block of its own; at most 900000 rows, each of at most 900000 numbers. -/
import Derived.Test.YtiohehofnlmenaaOwnMat
import Derived.Test.YtiohehofnlmenaaRefA
namespace Go.Proofs.Ytiohehofnlmenaa
set_option linter.unusedVariables false
set_option linter.unusedSimpArgs false
open Go.ChangeShapes Go.WideShapes Go.ChangeAt Go.RowKit Go.Deep

theorem take_row (v : List (List Int)) {k : Nat} (h : k < v.length) : v.take (k + 1) = v.take k ++ [rget v k] := by
  rw [List.take_succ_eq_append_getElem h, rget_of h]

theorem twin_step {w wr w2 : World} {p' p2 : Option Addr} {c' : Nat} {v : List (List Int)} {Q : Nat → Option Addr} {D : Nat → Nat} (hb : Below w.heap.size w wr)
    (hD : DMat wr w.heap.size p' c' v Q D) (hg : (wr.alloc (.cells #[] 3)).grownBy w2 (blk (some ⟨wr.heap.size, 0, none⟩))) (hf : Fresh (wr.alloc (.cells #[] 3)) (some ⟨wr.heap.size, 0, none⟩) p2) :
    DMat w2 w.heap.size p' c' v Q D ∧ (∀ j, j < v.length → ∀ b, blk (Q j) = some b → blk p2 ≠ some b) ∧ Below w.heap.size w w2 := by
  have hsz := hb.size
  have hb1 : Below wr.heap.size wr w2 := by
    refine ((Below.refl _ _).alloc (Nat.le_refl _) _).grown hg (by simp) ?_
    intro b hbb
    simp [blk] at hbb; omega
  refine ⟨hD.below hb1 (Nat.le_refl _), ?_, hb.trans (hb1.mono hsz)⟩
  intro j hj b hbq e
  have h1 := (hD.lt j hj b hbq).2
  rcases hf b e with h2 | h2
  · simp [blk] at h2; omega
  · simp at h2; omega
theorem twin_step2 {w w2 w3 : World} {p' : Option Addr} {c' : Nat} {v : List (List Int)} {Q : Nat → Option Addr} {D : Nat → Nat} (hb : Below w.heap.size w w2)
    (hD : DMat w2 w.heap.size p' c' v Q D) (hg : w2.grownBy w3 (blk p')) (hsz : w.heap.size ≤ w2.heap.size) : Below w.heap.size w w3 :=
  hb.grown hg hsz (fun k hk => (hD.tmat.lt k hk).1)

set_option maxHeartbeats 800000 in
theorem twin_any (p : Option Addr) (c : Nat) (v : List (List Int)) (w : World) (hx : Mat w p c v) (hlen : v.length ≤ 900000) (hrow : ∀ j, j < v.length → (rget v j).length ≤ 900000) :
    Calls Try.prog 10 #[.slice p v.length c] w (GivesD w v) := by
  go_enter Try.func10, Try.ntmps10
  go_wp2
  go_loopw [3, 4] (fun t i wr => ∃ k : Nat, k ≤ v.length ∧ i = .int .i64 k ∧ (∃ u p' c' Q D, Hid (u = v.take k) ∧ t = .slice p' (u : List (List Int)).length c' ∧ DMat wr w.heap.size p' c' u Q D) ∧ Below w.heap.size w wr) (fun _ i _ => v.length - (intOf i).toNat)
  case atStart => exact ⟨0, by omega, rfl, ⟨[], none, 0, fun _ => none, fun _ => 0, rfl, rfl, DMat.ofNil _ _⟩, Below.refl _ _⟩
  case round =>
    obtain ⟨k, hk, rfl, ⟨u, p', c', Q, D, hu, rfl, hD⟩, hb⟩ := hrel
    have hx := hx.below hb (Nat.le_refl _)
    have hl1 := hx.length_le
    by_cases hlt : k < v.length
    · obtain ⟨b, o, rfl, _, q1, d1, hc, hi⟩ := hx.get hlt
      have hk1 : (k : Int) < v.length := by omega
      have hsz := hb.size
      have hr := hrow k hlt
      go_wp2_with (first
        | (at_builtin; refine wpList_app rfl (.tmp 12) (.tmp 16) rfl w.heap.size _ _ _ _ [] (rget v k) rfl rfl (Own.made _ _ hsz) (hi.below ((Below.refl _ _).alloc (Nat.le_refl _) _) (Nat.le_refl _)) (by simp; omega) (by simp; omega) ?_; intro p2 c2 w2 r2 hr2 hO2 hg2 hf2; obtain rfl : r2 = rget v k := hr2.out; obtain ⟨hD2, hn2, hb2⟩ := twin_step hb hD hg2 hf2; have hsz2 := hb2.size)
        | (at_builtin; refine wpList_appOwnRow rfl (.tmp 11) (.tmp 18) rfl w.heap.size _ _ _ Q D _ _ (rget v k) rfl rfl rfl hD2 hO2 hn2 (by have := congrArg List.length hu.out; rw [List.length_take] at this; omega) hsz2 ?_; intro p3 c3 w3 u3 hu3 hD3 hg3 hf3))
      have hb3 := twin_step2 hb2 hD2 hg3 hsz2
      go_wp2
      go_roundw
      case rel => exact ⟨k + 1, by omega, by go_num, ⟨_, _, _, _, _, by rw [take_row v hlt, ← hu.out]; exact hu3, rfl, hD3⟩, hb3⟩
      case measure => simp [intOf]; omega
    · have hk1 : ¬ (k : Int) < v.length := by omega
      obtain rfl : k = v.length := by omega
      obtain rfl : u = v := by rw [hu.out, List.take_length]
      go_wp2
      go_ret
      exact ⟨_, _, _, _, rfl, hD, hb⟩
end Go.Proofs.Ytiohehofnlmenaa
