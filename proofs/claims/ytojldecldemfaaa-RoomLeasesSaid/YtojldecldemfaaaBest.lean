/- The walks of assign.best; valid bids. -/
import Derived.Test.YtojldecldemfaaaFrom
namespace Go.Proofs.Ytojldecldemfaaa
set_option linter.unusedVariables false
set_option linter.unusedSimpArgs false
open Go.ChangeShapes Go.WideShapes Go.ChangeAt Go.RowKit Go.Deep

/-- There is a list that gives each agent but one an item of its own. -/
theorem part_exists (n : Nat) (sk : Int) : ∃ x, Part n sk x := by
  refine ⟨(List.range n).map fun k : Nat => if (k : Int) = sk then (-1 : Int) else (k : Int), by simp, fun k hk => ?_⟩
  have hg : ∀ k, k < n → iget ((List.range n).map fun k : Nat => if (k : Int) = sk then (-1 : Int) else (k : Int)) k = if (k : Int) = sk then (-1 : Int) else (k : Int) := fun k hk => by simp [iget, hk]
  rw [hg k hk]
  refine ⟨fun e => by rw [if_pos e], fun e => ?_⟩
  rw [if_neg e]
  refine ⟨by omega, by omega, fun l hl hs => ?_⟩
  rw [hg l (by omega), if_neg hs]; omega

/-- What best hands back. -/
def BestP (w : World) (v : List (List Int)) (sk : Int) (e : Ending) (w' : World) : Prop :=
  ∃ p c b, e = .returned (.tuple #[.slice p (b : List Int).length c, .int .i64 (pv v sk b)]) ∧ Own w' w.heap.size p c b ∧ Below w.heap.size w w' ∧ Part v.length sk b ∧ FirstMax (Part v.length sk) (pv v sk) b

theorem ss_start (w : World) (p : Option Addr) (n c : Nat) (sk : Int) :
    SS w (w.alloc (.cells #[.slice p n c, .int .i64 sk, .slice none 0 0, .bool false, .bool false, .bool false, .bool false, .bool false, .bool false, .slice none 0 0, .int .i64 0] 113)) w.heap.size p n c sk [] none 0 (List.replicate 6 false) [] none 0 0 := by
  have hc : ∀ k, (w.alloc (.cells #[.slice p n c, .int .i64 sk, .slice none 0 0, .bool false, .bool false, .bool false, .bool false, .bool false, .bool false, .slice none 0 0, .int .i64 0] 113)).cell? ⟨w.heap.size, k, none⟩ =
      #[.slice p n c, .int .i64 sk, .slice none 0 0, .bool false, .bool false, .bool false, .bool false, .bool false, .bool false, .slice none 0 0, .int .i64 0][k]? := fun k => World.cell?_alloc_at _ _ _ _ rfl
  refine ⟨(Below.refl _ _).alloc (Nat.le_refl _) _, Nat.le_refl _, by simp, hc 0, hc 1, hc 2, fun j hj => ?_, hc 9, hc 10, fun k => World.frozen?_alloc_at _ _ _ _ rfl, Own.ofNil _ _, Own.ofNil _ _, fun _ h => (by cases h), rfl⟩
  rw [hc]
  match j, hj with
  | 0, _ => rfl
  | 1, _ => rfl
  | 2, _ => rfl
  | 3, _ => rfl
  | 4, _ => rfl
  | 5, _ => rfl
theorem comp_nil {n : Nat} {sk : Int} (x : List Int) : Comp n sk [] x ↔ Part n sk x := ⟨fun h => h.1, fun h => ⟨h, fun _ h => (by simp at h)⟩⟩

set_option maxHeartbeats 1600000 in
set_option maxRecDepth 100000 in
theorem best_any (p : Option Addr) (c : Nat) (v : List (List Int)) (sk : Int) (w : World) (hx : Mat w p c v) (hv : Bids v) (hsk : -1 ≤ sk ∧ sk ≤ 6) :
    Calls Try.prog 55 #[.slice p v.length c, .int .i64 sk] w (BestP w v sk) := by
  go_enter Try.func55, Try.ntmps55
  go_wp2_with fail
  have hcall := from_any w w.heap.size p c v sk hx hv hsk v.length [] _ none 0 (List.replicate 6 false) [] none 0 0 (fun _ => False) (by simp) (ss_start w p v.length c sk) (fun _ => rfl) (fun k hk => absurd hk (Nat.not_lt_zero k))
    (fun j hj => by rw [bget_replicate]; exact ⟨fun h => (by cases h), fun ⟨l, hl, _⟩ => absurd hl (Nat.not_lt_zero l)⟩) ⟨.inl ⟨rfl, fun _ h => h⟩, fun _ h => h.elim, .inl ⟨rfl, rfl⟩⟩ (fun _ h => h.elim)
  refine Calls.mono hcall ?_
  rintro e w1 ⟨⟨x, rfl⟩, pn, cn, us, b, pb, cb, m, hS, hbn, hU, hF⟩
  have hF' := hF.congr (W := Part v.length sk) (fun x => by rw [comp_nil]; exact ⟨fun h => h.elim False.elim id, .inr⟩)
  have hPb : Part v.length sk b := by
    rcases hF'.1 with ⟨_, h⟩ | ⟨h, _⟩
    · obtain ⟨x, hx⟩ := part_exists v.length sk; exact absurd hx (h x)
    · exact h
  have hm : m = pv v sk b := by
    rcases hF'.2.2 with ⟨h, _⟩ | ⟨_, h⟩
    · have h1 := hPb.1; rw [h] at h1; have h2 := hv.1; rw [List.length_nil] at h1; omega
    · exact h
  have h9 := hS.c9
  have h10 := hS.c10
  have HF := Lib.hid hF'
  have HP := Lib.hid hPb
  have HO := Lib.hid hS.bst
  have HB := Lib.hid hS.bel
  subst hm
  clear hcall hF hF' hPb hS hU
  go_wp2_with fail
  go_quiet (fail)
  go_wp2_with fail
  go_ret2
  exact ⟨pb, cb, b, rfl, (HO.out.lower (by omega)).drewN _, HB.out.drewN' _, HP.out, HF.out.1⟩
end Go.Proofs.Ytojldecldemfaaa
