/- slices.Values over a list of ints, and slices.AppendSeq and slices.Collect of what it gives: what each call returns; no condition but sizes. -/
import Derived.Test.YtknincjfcicjfaaOwn
import Derived.RangeFuncFrom
import Derived.RangeFuncBox
import Derived.RangeFuncLeaves
import Derived.OwnWalkIn
import Derived.TacticsInMore
import Derived.LoopNIn
import Derived.LoopIn
import Derived.Maps.AppendAt
import Derived.Maps.RangeWalk
import Derived.Shelf.Abstract
namespace Go.Proofs.Ytknincjfcicjfaa
set_option linter.unusedSimpArgs false
open Go.ChangeShapes Go.WideShapes Go.ChangeAt Go.RowKit Go.Deep
set_option linter.unusedVariables false
attribute [local go_sem] Oper.semAt_some

theorem take_iget {zs : List Int} {k : Nat} (h : k < zs.length) : zs.take (k + 1) = zs.take k ++ [iget zs k] := by
  rw [iget_of h, List.take_succ_eq_append_getElem h]

set_option maxRecDepth 100000 in
set_option maxHeartbeats 2000000 in
theorem values1_in (F : Fence) (n : Nat) (h7 : F.fn 62) (hro : F.round = none) (hn : 1 ≤ n) (l Bs n₀ : Nat) (p : Option Addr) (cap : Nat) (zs : List Int) (J Jx : List Int → World → Prop)
    (hY : ∀ pre x W, J pre W → pre.length < zs.length → YieldAt F (n - 1) Try.prog l #[.int .i64 x] W fun e W' =>
      (e = .returned (.bool true) ∧ J (pre ++ [x]) W' ∧ Below n₀ W W') ∨ (e = .returned (.bool false) ∧ Jx (pre ++ [x]) W'))
    (W : World) (hBs : W.cell? ⟨Bs, 0, none⟩ = some (.slice p zs.length cap)) (hI : Ints W p cap zs) (hp : ∀ a, p = some a → 0 < zs.length → a.block < n₀) (h0 : J [] W) :
    CallsIn F n Try.prog 62 #[.func (.yield l) #[] #[], .pointer (some ⟨Bs, 0, none⟩)] W fun e W' => (∃ v, e = .returned v) ∧
      ((∃ ys, ys = zs ∧ J ys W') ∨ (∃ pre, pre <+: zs ∧ Jx pre W')) := by
  refine callsIn_of_wp Try.func62 rfl h7 ?_ hro
  simp only [Try.ntmps62, List.size_toArray, List.length_cons, List.length_nil, Nat.reduceAdd, Nat.reduceSub, Array.replicate_succ, Array.replicate_zero, List.push_toArray, List.append_toArray, List.nil_append, List.cons_append]
  have hlen := hI.length_le
  gi_wp2
  gi_loopw [7] (fun i wr => ∃ k : Nat, k ≤ zs.length ∧ i = .int .i64 k ∧ J (zs.take k) wr ∧ Below n₀ W wr)
    (fun i _ => zs.length - (intOf i).toNat)
  case atStart => exact ⟨0, Nat.zero_le _, rfl, h0, Below.refl _ _⟩
  case round =>
    obtain ⟨k, hk, rfl, hJs, hnx⟩ := hrel
    by_cases hlt : k < zs.length
    · obtain ⟨b, off, rfl, hb, hc⟩ := hI.get hlt
      have hb' : b < n₀ := hp _ rfl (by omega)
      have hcx : wr.cell? ⟨b, off + k, none⟩ = some (.int .i64 (iget zs k)) := (hnx.cell (p := ⟨b, off + k, none⟩) hb').trans hc
      have hlti : (k : Int) < zs.length := by omega
      obtain ⟨fn, tmps, assign, body, hy, hR⟩ := hY _ (iget zs k) wr hJs (by rw [List.length_take]; omega)
      gi_wp2
      refine hR.mono ?_
      rintro e W3 (⟨rfl, hJ3, hk3⟩ | ⟨rfl, hJx3⟩)
      · gi_wp2
        go_roundw
        case rel => exact ⟨k + 1, by omega, by simp, by rw [take_iget hlt]; exact hJ3, hnx.trans hk3⟩
        case measure => simp [intOf]; omega
      · gi_wp2
        refine bodyPost_ret (results_none rfl _ _ _) rfl ?_
        exact ⟨⟨_, rfl⟩, .inr ⟨_, by rw [← take_iget hlt]; exact List.take_prefix _ _, hJx3⟩⟩
    · obtain rfl : k = zs.length := by omega
      gi_wp2
      go_end0
      exact ⟨⟨_, rfl⟩, .inl ⟨_, rfl, by rw [List.take_length] at hJs; exact hJs⟩⟩

set_option maxHeartbeats 1000000 in
theorem values_in (F : Fence) (n : Nat) (h5 : F.fn 54) (hro : F.round = none) (a : Option Addr) (len cap : Nat) (w : World) :
    CallsIn F n Try.prog 54 #[.slice a len cap] w fun e w' => e = .returned (.func (.func 62) #[] #[.pointer (some ⟨w.heap.size, 0, none⟩)]) ∧ w' = w.alloc (.cells #[.slice a len cap] 23) := by
  refine callsIn_of_wp Try.func54 rfl h5 ?_ hro
  simp only [Try.ntmps54, List.size_toArray, List.length_cons, List.length_nil, Nat.reduceAdd, Nat.reduceSub, Array.replicate_succ, Array.replicate_zero, List.push_toArray, List.append_toArray, List.nil_append, List.cons_append]
  gi_wp2
  go_ret
  exact ⟨rfl, rfl⟩

theorem values_stops (F : Fence) (n : Nat) (h7 : F.fn 62) (hro : F.round = none) (hn : 1 ≤ n) (Bs n₀ : Nat) (p : Option Addr) (cap : Nat) (zs : List Int) (w : World) (hBs : Bs < w.heap.size) (hn₀ : w.heap.size = n₀)
    (hc : w.cell? ⟨Bs, 0, none⟩ = some (.slice p zs.length cap)) (hI : Ints w p cap zs) :
    SeqStopsK F n Try.prog 62 #[.pointer (some ⟨Bs, 0, none⟩)] (fun x : Int => #[Value.int .i64 x]) (Below n₀) (fun ys => ys = zs) (fun pre => pre <+: zs) zs.length w := fun l J Jx W hW _ _ hY h0 =>
  values1_in F n h7 hro hn l Bs n₀ p cap zs J Jx hY W ((hW.cell (p := ⟨Bs, 0, none⟩) hBs).trans hc) (hI.below hW (Nat.le_refl _)) (fun a ha h => hn₀ ▸ (hI.plain a ha (by have := hI.le; omega)).2) h0

/-- Between two rounds of AppendSeq: its box holds a row of its own with what has come. -/
def Got (w0 : World) (B : Nat) (pre : List Int) (W : World) : Prop :=
  ∃ p c, W.heap[B]? = some (.cells #[.slice p pre.length c] 23 (0, 0)) ∧ W.ownsRow (B + 1) 3 1 (.slice p pre.length c) pre.length (pre.map (Value.int .i64)) ∧ Below B w0 W

theorem row_cells {W : World} {base e n k : Nat} {v : Value} {xs : List Value} (h : W.ownsRow base e 1 v n xs) (hk : v.ownBlock = some k) : base ≤ k ∧ ∃ o : Obj, W.heap[k]? = some o ∧ o.isCells = true := by
  rcases h.2 with ⟨rfl, _⟩ | ⟨g, cap, cur, rfl, h3, h5, _⟩
  · cases hk
  · cases hk; exact ⟨h3, _, h5, rfl⟩
theorem got_own (w0 : World) (B B' : Nat) (hB : B = w0.heap.size) (hB' : B ≤ B') : OwnFrom B' (Got w0 B) := by
  rintro s W W' row ⟨p, c, h1, h2, h3⟩ hg hr
  have hne : some B ≠ row := fun e => by
    obtain ⟨_, o, ho, hc⟩ := hr B e.symm
    rw [h1] at ho; cases ho; cases hc
  refine ⟨p, c, (hg.block B (Array.getElem?_eq_some_iff.1 h1).1 hne).trans h1, h2.kept hg ?_, h3.grown hg (by rw [hB]; rw [hB] at h3; exact h3.size) (fun k e => by have := (hr k e).1; omega)⟩
  cases hk : (Value.slice p s.length c).ownBlock with
  | none => exact .inl rfl
  | some k =>
    refine .inr fun e => ?_
    obtain ⟨_, o, ho, hc⟩ := hr k e.symm
    obtain ⟨_, o', ho', hc'⟩ := row_cells h2 hk
    rw [ho] at ho'; cases ho'; rw [hc] at hc'; cases hc'
theorem keepsOthers_own {W W' : World} {base e n : Nat} {v : Value} {xs : List Value} (h : W.ownsRow base e 1 v n xs) (hg : W.grownBy W' v.ownBlock) : KeepsOthers W W' :=
  KeepsOthers.of_grownBy hg fun j o e hj => by
    obtain ⟨_, o', ho', hc'⟩ := row_cells h e
    rw [hj] at ho'; cases ho'; exact hc'

theorem box_after {W w3 : World} {B e n : Nat} {v u : Value} {t t' : TypeId} {xs : List Value} {vs : Array Value} (g1 : W.heap[B]? = some (.cells #[v] t (0, 0))) (g2 : W.ownsRow (B + 1) e 1 u n xs)
    (hg3 : (W.alloc (.cells vs t')).grownBy w3 u.ownBlock) :
    w3.heap[B]? = some (.cells #[v] t (0, 0)) ∧ w3.cell? ⟨B, 0, none⟩ = some v ∧ w3.frozen? ⟨B, 0, none⟩ = false := by
  have hB1 : B < W.heap.size := (Array.getElem?_eq_some_iff.1 g1).1
  have hg1' : w3.heap[B]? = some (.cells #[v] t (0, 0)) := by
    refine (hg3.block B (by simp; omega) (fun e => ?_)).trans ((Below.heap_alloc _ _ _ hB1).trans g1)
    have := (row_cells g2 e.symm).1
    omega
  exact ⟨hg1', by simp [World.cell?, hg1'], by simp [World.frozen?, hg1']⟩

/-- A round's store into the box. -/
theorem got_stored {w0 W w3 : World} {B : Nat} {p1 p' : Option Addr} {c1 c' : Nat} {pre : List Int} {x : Int} {vs : Array Value} {t' : TypeId} (hB : B = w0.heap.size)
    (g1 : W.heap[B]? = some (.cells #[.slice p1 pre.length c1] 23 (0, 0))) (g2 : W.ownsRow (B + 1) 3 1 (.slice p1 pre.length c1) pre.length (pre.map (Value.int .i64))) (g3 : Below B w0 W)
    (hg3 : (W.alloc (.cells vs t')).grownBy w3 (Value.slice p1 pre.length c1).ownBlock) (hown : w3.ownsRow (B + 1) 3 1 (.slice p' (pre.length + 1) c') (pre.length + 1) (pre.map (Value.int .i64) ++ [.int .i64 x])) :
    KeepsOthers W (w3.setCell ⟨B, 0, none⟩ (.slice p' (pre.length + 1) c')) ∧ Below B W (w3.setCell ⟨B, 0, none⟩ (.slice p' (pre.length + 1) c')) ∧ Got w0 B (pre ++ [x]) (w3.setCell ⟨B, 0, none⟩ (.slice p' (pre.length + 1) c')) := by
  have hB1 : B < W.heap.size := (Array.getElem?_eq_some_iff.1 g1).1
  obtain ⟨hb, _, _⟩ := box_after g1 g2 hg3
  have hK : KeepsOthers W w3 := (KeepsOthers.alloc W _).trans (keepsOthers_own (g2.alloc _) hg3)
  have hBl : Below B W w3 := ((Below.refl B W).alloc (by omega) _).grown hg3 (by simp; omega) (fun k e => by have := (row_cells g2 e).1; omega)
  have hgs : w3.grownBy (w3.setCell ⟨B, 0, none⟩ (.slice p' (pre.length + 1) c')) (some B) := grownBy_setCell' _ _ _
  have hBs : Below B W (w3.setCell ⟨B, 0, none⟩ (.slice p' (pre.length + 1) c')) := hBl.setCell (p := ⟨B, 0, none⟩) (Nat.le_refl _) _
  refine ⟨hK.trans (KeepsOthers.setCell _ _ _), hBs, p', c', ?_, ?_, g3.trans hBs⟩
  · rw [List.length_append]
    show (w3.heap.modify B _)[B]? = _
    obtain ⟨h1, h2⟩ := Array.getElem?_eq_some_iff.1 hb
    rw [Array.getElem?_eq_getElem (by rw [Array.size_modify]; exact h1), Array.getElem_modify_self, h2]
    rfl
  · rw [List.length_append, List.map_append]
    refine hown.kept hgs ?_
    cases hk : (Value.slice p' (pre.length + 1) c').ownBlock with
    | none => exact .inl rfl
    | some k => exact .inr fun e => by have := (row_cells hown hk).1; cases e; omega

set_option maxRecDepth 100000 in
set_option maxHeartbeats 2000000 in
theorem appendSeq_in (F : Fence) (n : Nat) (h7 : F.fn 62) (h8 : F.fn 63) (hro : F.round = none) (hn : 3 ≤ n) (Bs : Nat) (p : Option Addr) (c : Nat) (zs : List Int) (hz : zs.length ≤ 1000000) (w : World)
    (hBs : Bs < w.heap.size) (hc : w.cell? ⟨Bs, 0, none⟩ = some (.slice p zs.length c)) (hI : Ints w p c zs) :
    CallsIn F n Try.prog 63 #[.slice none 0 0, .func (.func 62) #[] #[.pointer (some ⟨Bs, 0, none⟩)]] w fun e w' => ∃ p' c', e = .returned (.slice p' zs.length c') ∧ Own w' w.heap.size p' c' zs ∧ Below w.heap.size w w' := by
  have h1 : 1 ≤ n := by omega
  obtain ⟨i0, hi, hz0, hz1, hz2⟩ := info_parts infoInt
  refine callsIn_of_wp_marks Try.func63 rfl h8 ?_ hro
  simp only [Try.ntmps63, List.size_toArray, List.length_cons, List.length_nil, Nat.reduceAdd, Nat.reduceSub, Array.replicate_succ, Array.replicate_zero, List.push_toArray, List.append_toArray, List.nil_append, List.cons_append]
  gi_wp2
  obtain ⟨W0, hW0⟩ : ∃ W0, w.alloc (.cells #[.slice none 0 0] 23) = W0 := ⟨_, rfl⟩
  have hs0 : W0.heap.size = w.heap.size + 1 := by rw [← hW0]; simp
  have hv0 : W0.heap[w.heap.size]? = some (.cells #[.slice none 0 0] 23 (0, 0)) := by rw [← hW0]; exact World.alloc_heap_new w _
  have hb0 : Below w.heap.size w W0 := by rw [← hW0]; exact (Below.refl _ w).alloc (Nat.le_refl _) _
  rw [hW0]
  have hgo := got_own w w.heap.size W0.heap.size rfl (by omega)
  refine wpIn_rangeFunc_ownF hro h1 (gf := 62) (lb := #[.pointer (some ⟨Bs, 0, none⟩)]) rfl h7 (enters_of Try.func62 (by kernel_rfl) rfl)
    (values_stops F (n - 1) h7 hro (by omega) Bs w.heap.size p c zs w hBs rfl hc hI) belowK_t (belowK_b (by omega)) hb0 (fun _ => rfl)
    (Got w w.heap.size) (fun _ _ _ => False) hgo (fun _ _ _ _ _ hs _ _ => hs)
    ⟨none, 0, hv0, World.ownsRow_nil _ _ _ _, hb0⟩
    (fun x => { tmps := #[.slice none 0 0, .func (.func 62) #[] #[.pointer (some ⟨Bs, 0, none⟩)], .pointer (some ⟨w.heap.size, 0, none⟩), undef, .slice none 0 0, .int .i64 x, .func (.func 62) #[] #[.pointer (some ⟨Bs, 0, none⟩)], .int .i64 x, undef, undef, undef, undef, undef], defers := [] }) ?assign ?body ?done ?stop
  case assign =>
    intro l x W K hK
    gi_wp2
    exact hK
  case body =>
    rintro l pre x W ⟨p1, c1, g1, g2, g3⟩ hpre
    obtain ⟨hc2, hf2⟩ : W.cell? ⟨w.heap.size, 0, none⟩ = some (.slice p1 pre.length c1) ∧ W.frozen? ⟨w.heap.size, 0, none⟩ = false := by
      simp [World.cell?, World.frozen?, g1]
    have hB1 : w.heap.size < W.heap.size := (Array.getElem?_eq_some_iff.1 g1).1
    have hpl : pre.length + 1 ≤ 1000001 := by omega
    gi_wp2_with (first
      | (gi_at_builtin; refine wpListIn_append_own _ rfl _ _ 23 rfl (w.heap.size + 1) 3 i0 (.int .i64 0) 1 8 Try.underlying23 hi hz0 hz1 hz2 rfl (by decide) _ pre.length _ rfl (g2.alloc _) ⟨W.heap.size, 0, none⟩ 1 1 [.int .i64 x] rfl rfl (cell_one_new _ _ _) (by simp [Value.oneCell']) (by simp [maxLen]; omega) (by omega) (by simp; omega) ?_; intro v' w3 hown' hg3 hnil3; obtain ⟨p', c', rfl⟩ := own_value hown'; obtain ⟨hg1', hc3, hf3⟩ := box_after g1 g2 hg3; go_frame))
    exact got_stored rfl g1 g2 g3 hg3 hown'
  case done =>
    rintro D ys W hD rfl hgot hK
    obtain ⟨p2, c2, e1, e2, e3⟩ := hgo.putObj (.deferred none) hgot hD hK rfl
    obtain ⟨p1, c1, g1, g2, g3⟩ := hgot
    obtain ⟨hc2, hf2⟩ : W.cell? ⟨w.heap.size, 0, none⟩ = some (.slice p1 ys.length c1) ∧ W.frozen? ⟨w.heap.size, 0, none⟩ = false := by
      simp [World.cell?, World.frozen?, g1]
    have he : p1 = p2 ∧ c1 = c2 := by
      have hne : w.heap.size ≠ D := by omega
      rw [World.putObj_heap_other hne, g1] at e1
      simp at e1; exact e1
    obtain ⟨rfl, rfl⟩ := he
    gi_wp2
    refine ⟨by simp, .inl ⟨_, _, rfl, run_takeDeferred hK, ?_⟩⟩
    exact ⟨_, results_tmp rfl _ _ _, p1, c1, rfl, Own.lower ⟨e2, fun j hj => hI.rng j hj⟩ (by omega), e3⟩
  case stop =>
    rintro D c pre W _ _ h _
    exact h.elim

set_option maxHeartbeats 1000000 in
theorem collect_in (F : Fence) (n : Nat) (h6 : F.fn 60) (h7 : F.fn 62) (h8 : F.fn 63) (hro : F.round = none) (hn : 4 ≤ n) (Bs : Nat) (p : Option Addr) (c : Nat) (zs : List Int) (hz : zs.length ≤ 1000000) (w : World)
    (hBs : Bs < w.heap.size) (hc : w.cell? ⟨Bs, 0, none⟩ = some (.slice p zs.length c)) (hI : Ints w p c zs) :
    CallsIn F n Try.prog 60 #[.func (.func 62) #[] #[.pointer (some ⟨Bs, 0, none⟩)]] w fun e w' => ∃ p' c', e = .returned (.slice p' zs.length c') ∧ Own w' w.heap.size p' c' zs ∧ Below w.heap.size w w' := by
  have h1 : 1 ≤ n := by omega
  refine callsIn_of_wp Try.func60 rfl h6 ?_ hro
  simp only [Try.ntmps60, List.size_toArray, List.length_cons, List.length_nil, Nat.reduceAdd, Nat.reduceSub, Array.replicate_succ, Array.replicate_zero, List.push_toArray, List.append_toArray, List.nil_append, List.cons_append]
  gi_wp2_with (gi_at_call 63; refine (appendSeq_in F (n - 1) h7 h8 hro (by omega) Bs p c zs hz _ hBs hc hI).mono ?_; rintro e w' ⟨p', c', rfl, ho, hb⟩)
  go_ret
  exact ⟨p', c', rfl, ho, hb⟩

end Go.Proofs.Ytknincjfcicjfaa
