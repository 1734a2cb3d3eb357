/- slices.Values over a list of ints, and slices.AppendSeq and slices.Collect of what it gives: what each call returns; no condition but sizes. -/
import Derived.Test.YtmcncflieoolmaaGreatTopTopGoodsm2
import Derived.RangeFuncFrom
import Derived.RangeFuncBox
import Derived.RangeFuncLeaves
import Derived.OwnWalkIn
import Derived.TacticsInMore
import Derived.LoopNIn
import Derived.LoopIn
import Derived.Maps.AppendAt
import Derived.Maps.RangeWalk
import Derived.Shelf.Abstract
import Derived.Ground.SlgmProg
import Derived.Shelf.SortM.Plain
import Derived.Shelf.SortM.SortNone
import Derived.Test.YtmcncflieoolmaaGreatProg
import Derived.Sort.OwnSortedInts
import Derived.Test.YtmcncflieoolmaaGreatTopTopGoodsm1
/- slices.Values over a list of ints, and slices.AppendSeq and slices.Collect of what it gives: what each call returns; no condition but sizes. -/
namespace Go.Proofs.YtmcncflieoolmaaGreat
set_option linter.unusedSimpArgs false
open Go.ChangeShapes Go.WideShapes Go.ChangeAt Go.RowKit Go.Deep
set_option linter.unusedVariables false
attribute [local go_sem] Oper.semAt_some

theorem take_iget {zs : List Int} {k : Nat} (h : k < zs.length) : zs.take (k + 1) = zs.take k ++ [iget zs k] := by
  rw [iget_of h, List.take_succ_eq_append_getElem h]

set_option maxRecDepth 100000 in
set_option maxHeartbeats 2000000 in
theorem values1_in (F : Fence) (n : Nat) (h7 : F.fn 101) (hro : F.round = none) (hn : 1 ≤ n) (l Bs n₀ : Nat) (p : Option Addr) (cap : Nat) (zs : List Int) (J Jx : List Int → World → Prop)
    (hY : ∀ pre x W, J pre W → pre.length < zs.length → YieldAt F (n - 1) Tryz.prog l #[.int .i64 x] W fun e W' =>
      (e = .returned (.bool true) ∧ J (pre ++ [x]) W' ∧ Below n₀ W W') ∨ (e = .returned (.bool false) ∧ Jx (pre ++ [x]) W'))
    (W : World) (hBs : W.cell? ⟨Bs, 0, none⟩ = some (.slice p zs.length cap)) (hI : Ints W p cap zs) (hp : ∀ a, p = some a → 0 < zs.length → a.block < n₀) (h0 : J [] W) :
    CallsIn F n Tryz.prog 101 #[.func (.yield l) #[] #[], .pointer (some ⟨Bs, 0, none⟩)] W fun e W' => (∃ v, e = .returned v) ∧
      ((∃ ys, ys = zs ∧ J ys W') ∨ (∃ pre, pre <+: zs ∧ Jx pre W')) := by
  refine callsIn_of_wp Tryz.func101 rfl h7 ?_ hro
  simp only [Tryz.ntmps101, List.size_toArray, List.length_cons, List.length_nil, Nat.reduceAdd, Nat.reduceSub, Array.replicate_succ, Array.replicate_zero, List.push_toArray, List.append_toArray, List.nil_append, List.cons_append]
  have hlen := hI.length_le
  gi_wp2
  gi_loopw [7] (fun i wr => ∃ k : Nat, k ≤ zs.length ∧ i = .int .i64 k ∧ J (zs.take k) wr ∧ Below n₀ W wr)
    (fun i _ => zs.length - (intOf i).toNat)
  case atStart => exact ⟨0, Nat.zero_le _, rfl, h0, Below.refl _ _⟩
  case round =>
    obtain ⟨k, hk, rfl, hJs, hnx⟩ := hrel
    by_cases hlt : k < zs.length
    · obtain ⟨b, off, rfl, hb, hc⟩ := hI.get hlt
      have hb' : b < n₀ := hp _ rfl (by omega)
      have hcx : wr.cell? ⟨b, off + k, none⟩ = some (.int .i64 (iget zs k)) := (hnx.cell (p := ⟨b, off + k, none⟩) hb').trans hc
      have hlti : (k : Int) < zs.length := by omega
      obtain ⟨fn, tmps, assign, body, hy, hR⟩ := hY _ (iget zs k) wr hJs (by rw [List.length_take]; omega)
      gi_wp2
      refine hR.mono ?_
      rintro e W3 (⟨rfl, hJ3, hk3⟩ | ⟨rfl, hJx3⟩)
      · gi_wp2
        go_roundw
        case rel => exact ⟨k + 1, by omega, by simp, by rw [take_iget hlt]; exact hJ3, hnx.trans hk3⟩
        case measure => simp [intOf]; omega
      · gi_wp2
        refine bodyPost_ret (results_none rfl _ _ _) rfl ?_
        exact ⟨⟨_, rfl⟩, .inr ⟨_, by rw [← take_iget hlt]; exact List.take_prefix _ _, hJx3⟩⟩
    · obtain rfl : k = zs.length := by omega
      gi_wp2
      go_end0
      exact ⟨⟨_, rfl⟩, .inl ⟨_, rfl, by rw [List.take_length] at hJs; exact hJs⟩⟩

set_option maxHeartbeats 1000000 in
theorem values_in (F : Fence) (n : Nat) (h5 : F.fn 58) (hro : F.round = none) (a : Option Addr) (len cap : Nat) (w : World) :
    CallsIn F n Tryz.prog 58 #[.slice a len cap] w fun e w' => e = .returned (.func (.func 101) #[] #[.pointer (some ⟨w.heap.size, 0, none⟩)]) ∧ w' = w.alloc (.cells #[.slice a len cap] 25) := by
  refine callsIn_of_wp Tryz.func58 rfl h5 ?_ hro
  simp only [Tryz.ntmps58, List.size_toArray, List.length_cons, List.length_nil, Nat.reduceAdd, Nat.reduceSub, Array.replicate_succ, Array.replicate_zero, List.push_toArray, List.append_toArray, List.nil_append, List.cons_append]
  gi_wp2
  go_ret
  exact ⟨rfl, rfl⟩

theorem values_stops (F : Fence) (n : Nat) (h7 : F.fn 101) (hro : F.round = none) (hn : 1 ≤ n) (Bs n₀ : Nat) (p : Option Addr) (cap : Nat) (zs : List Int) (w : World) (hBs : Bs < w.heap.size) (hn₀ : w.heap.size = n₀)
    (hc : w.cell? ⟨Bs, 0, none⟩ = some (.slice p zs.length cap)) (hI : Ints w p cap zs) :
    SeqStopsK F n Tryz.prog 101 #[.pointer (some ⟨Bs, 0, none⟩)] (fun x : Int => #[Value.int .i64 x]) (Below n₀) (fun ys => ys = zs) (fun pre => pre <+: zs) zs.length w := fun l J Jx W hW _ _ hY h0 =>
  values1_in F n h7 hro hn l Bs n₀ p cap zs J Jx hY W ((hW.cell (p := ⟨Bs, 0, none⟩) hBs).trans hc) (hI.below hW (Nat.le_refl _)) (fun a ha h => hn₀ ▸ (hI.plain a ha (by have := hI.le; omega)).2) h0

/-- Between two rounds of AppendSeq: its box holds a row of its own with what has come. -/
def Got (w0 : World) (B : Nat) (pre : List Int) (W : World) : Prop :=
  ∃ p c, W.heap[B]? = some (.cells #[.slice p pre.length c] 25 (0, 0)) ∧ W.ownsRow (B + 1) 3 1 (.slice p pre.length c) pre.length (pre.map (Value.int .i64)) ∧ Below B w0 W

theorem row_cells {W : World} {base e n k : Nat} {v : Value} {xs : List Value} (h : W.ownsRow base e 1 v n xs) (hk : v.ownBlock = some k) : base ≤ k ∧ ∃ o : Obj, W.heap[k]? = some o ∧ o.isCells = true := by
  rcases h.2 with ⟨rfl, _⟩ | ⟨g, cap, cur, rfl, h3, h5, _⟩
  · cases hk
  · cases hk; exact ⟨h3, _, h5, rfl⟩
theorem got_own (w0 : World) (B B' : Nat) (hB : B = w0.heap.size) (hB' : B ≤ B') : OwnFrom B' (Got w0 B) := by
  rintro s W W' row ⟨p, c, h1, h2, h3⟩ hg hr
  have hne : some B ≠ row := fun e => by
    obtain ⟨_, o, ho, hc⟩ := hr B e.symm
    rw [h1] at ho; cases ho; cases hc
  refine ⟨p, c, (hg.block B (Array.getElem?_eq_some_iff.1 h1).1 hne).trans h1, h2.kept hg ?_, h3.grown hg (by rw [hB]; rw [hB] at h3; exact h3.size) (fun k e => by have := (hr k e).1; omega)⟩
  cases hk : (Value.slice p s.length c).ownBlock with
  | none => exact .inl rfl
  | some k =>
    refine .inr fun e => ?_
    obtain ⟨_, o, ho, hc⟩ := hr k e.symm
    obtain ⟨_, o', ho', hc'⟩ := row_cells h2 hk
    rw [ho] at ho'; cases ho'; rw [hc] at hc'; cases hc'
theorem keepsOthers_own {W W' : World} {base e n : Nat} {v : Value} {xs : List Value} (h : W.ownsRow base e 1 v n xs) (hg : W.grownBy W' v.ownBlock) : KeepsOthers W W' :=
  KeepsOthers.of_grownBy hg fun j o e hj => by
    obtain ⟨_, o', ho', hc'⟩ := row_cells h e
    rw [hj] at ho'; cases ho'; exact hc'

theorem box_after {W w3 : World} {B e n : Nat} {v u : Value} {t t' : TypeId} {xs : List Value} {vs : Array Value} (g1 : W.heap[B]? = some (.cells #[v] t (0, 0))) (g2 : W.ownsRow (B + 1) e 1 u n xs)
    (hg3 : (W.alloc (.cells vs t')).grownBy w3 u.ownBlock) :
    w3.heap[B]? = some (.cells #[v] t (0, 0)) ∧ w3.cell? ⟨B, 0, none⟩ = some v ∧ w3.frozen? ⟨B, 0, none⟩ = false := by
  have hB1 : B < W.heap.size := (Array.getElem?_eq_some_iff.1 g1).1
  have hg1' : w3.heap[B]? = some (.cells #[v] t (0, 0)) := by
    refine (hg3.block B (by simp; omega) (fun e => ?_)).trans ((Below.heap_alloc _ _ _ hB1).trans g1)
    have := (row_cells g2 e.symm).1
    omega
  exact ⟨hg1', by simp [World.cell?, hg1'], by simp [World.frozen?, hg1']⟩

/-- A round's store into the box. -/
theorem got_stored {w0 W w3 : World} {B : Nat} {p1 p' : Option Addr} {c1 c' : Nat} {pre : List Int} {x : Int} {vs : Array Value} {t' : TypeId} (hB : B = w0.heap.size)
    (g1 : W.heap[B]? = some (.cells #[.slice p1 pre.length c1] 25 (0, 0))) (g2 : W.ownsRow (B + 1) 3 1 (.slice p1 pre.length c1) pre.length (pre.map (Value.int .i64))) (g3 : Below B w0 W)
    (hg3 : (W.alloc (.cells vs t')).grownBy w3 (Value.slice p1 pre.length c1).ownBlock) (hown : w3.ownsRow (B + 1) 3 1 (.slice p' (pre.length + 1) c') (pre.length + 1) (pre.map (Value.int .i64) ++ [.int .i64 x])) :
    KeepsOthers W (w3.setCell ⟨B, 0, none⟩ (.slice p' (pre.length + 1) c')) ∧ Below B W (w3.setCell ⟨B, 0, none⟩ (.slice p' (pre.length + 1) c')) ∧ Got w0 B (pre ++ [x]) (w3.setCell ⟨B, 0, none⟩ (.slice p' (pre.length + 1) c')) := by
  have hB1 : B < W.heap.size := (Array.getElem?_eq_some_iff.1 g1).1
  obtain ⟨hb, _, _⟩ := box_after g1 g2 hg3
  have hK : KeepsOthers W w3 := (KeepsOthers.alloc W _).trans (keepsOthers_own (g2.alloc _) hg3)
  have hBl : Below B W w3 := ((Below.refl B W).alloc (by omega) _).grown hg3 (by simp; omega) (fun k e => by have := (row_cells g2 e).1; omega)
  have hgs : w3.grownBy (w3.setCell ⟨B, 0, none⟩ (.slice p' (pre.length + 1) c')) (some B) := grownBy_setCell' _ _ _
  have hBs : Below B W (w3.setCell ⟨B, 0, none⟩ (.slice p' (pre.length + 1) c')) := hBl.setCell (p := ⟨B, 0, none⟩) (Nat.le_refl _) _
  refine ⟨hK.trans (KeepsOthers.setCell _ _ _), hBs, p', c', ?_, ?_, g3.trans hBs⟩
  · rw [List.length_append]
    show (w3.heap.modify B _)[B]? = _
    obtain ⟨h1, h2⟩ := Array.getElem?_eq_some_iff.1 hb
    rw [Array.getElem?_eq_getElem (by rw [Array.size_modify]; exact h1), Array.getElem_modify_self, h2]
    rfl
  · rw [List.length_append, List.map_append]
    refine hown.kept hgs ?_
    cases hk : (Value.slice p' (pre.length + 1) c').ownBlock with
    | none => exact .inl rfl
    | some k => exact .inr fun e => by have := (row_cells hown hk).1; cases e; omega

set_option maxRecDepth 100000 in
set_option maxHeartbeats 2000000 in
theorem appendSeq_in (F : Fence) (n : Nat) (h7 : F.fn 101) (h8 : F.fn 120) (hro : F.round = none) (hn : 3 ≤ n) (Bs : Nat) (p : Option Addr) (c : Nat) (zs : List Int) (hz : zs.length ≤ 1000000) (w : World)
    (hBs : Bs < w.heap.size) (hc : w.cell? ⟨Bs, 0, none⟩ = some (.slice p zs.length c)) (hI : Ints w p c zs) :
    CallsIn F n Tryz.prog 120 #[.slice none 0 0, .func (.func 101) #[] #[.pointer (some ⟨Bs, 0, none⟩)]] w fun e w' => ∃ p' c', e = .returned (.slice p' zs.length c') ∧ Own w' w.heap.size p' c' zs ∧ Below w.heap.size w w' := by
  have h1 : 1 ≤ n := by omega
  obtain ⟨i0, hi, hz0, hz1, hz2⟩ := info_parts infoInt
  refine callsIn_of_wp_marks Tryz.func120 rfl h8 ?_ hro
  simp only [Tryz.ntmps120, List.size_toArray, List.length_cons, List.length_nil, Nat.reduceAdd, Nat.reduceSub, Array.replicate_succ, Array.replicate_zero, List.push_toArray, List.append_toArray, List.nil_append, List.cons_append]
  gi_wp2
  obtain ⟨W0, hW0⟩ : ∃ W0, w.alloc (.cells #[.slice none 0 0] 25) = W0 := ⟨_, rfl⟩
  have hs0 : W0.heap.size = w.heap.size + 1 := by rw [← hW0]; simp
  have hv0 : W0.heap[w.heap.size]? = some (.cells #[.slice none 0 0] 25 (0, 0)) := by rw [← hW0]; exact World.alloc_heap_new w _
  have hb0 : Below w.heap.size w W0 := by rw [← hW0]; exact (Below.refl _ w).alloc (Nat.le_refl _) _
  rw [hW0]
  have hgo := got_own w w.heap.size W0.heap.size rfl (by omega)
  refine wpIn_rangeFunc_ownF hro h1 (gf := 101) (lb := #[.pointer (some ⟨Bs, 0, none⟩)]) rfl h7 (enters_of Tryz.func101 (by kernel_rfl) rfl)
    (values_stops F (n - 1) h7 hro (by omega) Bs w.heap.size p c zs w hBs rfl hc hI) belowK_t (belowK_b (by omega)) hb0 (fun _ => rfl)
    (Got w w.heap.size) (fun _ _ _ => False) hgo (fun _ _ _ _ _ hs _ _ => hs)
    ⟨none, 0, hv0, World.ownsRow_nil _ _ _ _, hb0⟩
    (fun x => { tmps := #[.slice none 0 0, .func (.func 101) #[] #[.pointer (some ⟨Bs, 0, none⟩)], .pointer (some ⟨w.heap.size, 0, none⟩), undef, .slice none 0 0, .int .i64 x, .func (.func 101) #[] #[.pointer (some ⟨Bs, 0, none⟩)], .int .i64 x, undef, undef, undef, undef, undef], defers := [] }) ?assign ?body ?done ?stop
  case assign =>
    intro l x W K hK
    gi_wp2
    exact hK
  case body =>
    rintro l pre x W ⟨p1, c1, g1, g2, g3⟩ hpre
    obtain ⟨hc2, hf2⟩ : W.cell? ⟨w.heap.size, 0, none⟩ = some (.slice p1 pre.length c1) ∧ W.frozen? ⟨w.heap.size, 0, none⟩ = false := by
      simp [World.cell?, World.frozen?, g1]
    have hB1 : w.heap.size < W.heap.size := (Array.getElem?_eq_some_iff.1 g1).1
    have hpl : pre.length + 1 ≤ 1000001 := by omega
    gi_wp2_with (first
      | (gi_at_builtin; refine wpListIn_append_own _ rfl _ _ 25 rfl (w.heap.size + 1) 3 i0 (.int .i64 0) 1 8 Tryz.underlying25 hi hz0 hz1 hz2 rfl (by decide) _ pre.length _ rfl (g2.alloc _) ⟨W.heap.size, 0, none⟩ 1 1 [.int .i64 x] rfl rfl (cell_one_new _ _ _) (by simp [Value.oneCell']) (by simp [maxLen]; omega) (by omega) (by simp; omega) ?_; intro v' w3 hown' hg3 hnil3; obtain ⟨p', c', rfl⟩ := own_value hown'; obtain ⟨hg1', hc3, hf3⟩ := box_after g1 g2 hg3; go_frame))
    exact got_stored rfl g1 g2 g3 hg3 hown'
  case done =>
    rintro D ys W hD rfl hgot hK
    obtain ⟨p2, c2, e1, e2, e3⟩ := hgo.putObj (.deferred none) hgot hD hK rfl
    obtain ⟨p1, c1, g1, g2, g3⟩ := hgot
    obtain ⟨hc2, hf2⟩ : W.cell? ⟨w.heap.size, 0, none⟩ = some (.slice p1 ys.length c1) ∧ W.frozen? ⟨w.heap.size, 0, none⟩ = false := by
      simp [World.cell?, World.frozen?, g1]
    have he : p1 = p2 ∧ c1 = c2 := by
      have hne : w.heap.size ≠ D := by omega
      rw [World.putObj_heap_other hne, g1] at e1
      simp at e1; exact e1
    obtain ⟨rfl, rfl⟩ := he
    gi_wp2
    refine ⟨by simp, .inl ⟨_, _, rfl, run_takeDeferred hK, ?_⟩⟩
    exact ⟨_, results_tmp rfl _ _ _, p1, c1, rfl, Own.lower ⟨e2, fun j hj => hI.rng j hj⟩ (by omega), e3⟩
  case stop =>
    rintro D c pre W _ _ h _
    exact h.elim

set_option maxHeartbeats 1000000 in
theorem collect_in (F : Fence) (n : Nat) (h6 : F.fn 99) (h7 : F.fn 101) (h8 : F.fn 120) (hro : F.round = none) (hn : 4 ≤ n) (Bs : Nat) (p : Option Addr) (c : Nat) (zs : List Int) (hz : zs.length ≤ 1000000) (w : World)
    (hBs : Bs < w.heap.size) (hc : w.cell? ⟨Bs, 0, none⟩ = some (.slice p zs.length c)) (hI : Ints w p c zs) :
    CallsIn F n Tryz.prog 99 #[.func (.func 101) #[] #[.pointer (some ⟨Bs, 0, none⟩)]] w fun e w' => ∃ p' c', e = .returned (.slice p' zs.length c') ∧ Own w' w.heap.size p' c' zs ∧ Below w.heap.size w w' := by
  have h1 : 1 ≤ n := by omega
  refine callsIn_of_wp Tryz.func99 rfl h6 ?_ hro
  simp only [Tryz.ntmps99, List.size_toArray, List.length_cons, List.length_nil, Nat.reduceAdd, Nat.reduceSub, Array.replicate_succ, Array.replicate_zero, List.push_toArray, List.append_toArray, List.nil_append, List.cons_append]
  gi_wp2_with (gi_at_call 120; refine (appendSeq_in F (n - 1) h7 h8 hro (by omega) Bs p c zs hz _ hBs hc hI).mono ?_; rintro e w' ⟨p', c', rfl, ho, hb⟩)
  go_ret
  exact ⟨p', c', rfl, ho, hb⟩

end Go.Proofs.YtmcncflieoolmaaGreat

/-
  DERIVED: THE SHELF's CONTRACTS AT THIS DUMP, IN PLAIN WORDS (tools/lay-plain.mjs out of 'TryzShelf.lean', which tools/lay-shelf.mjs wrote): THE SAME DECLARATIONS UNDER THE SAME NAMES: 'import', 'namespace', 'open', 'def', 'theorem' AND NOTHING ELSE: no command of the shelf's: FOR A HAND-IN. Each laying: the table of numbers ('.._ren') and one theorem, a field a fact of the dump's own or the kernel's comparison; each contract: ONE APPLICATION.
-/
namespace Go.Proofs
open Go.Shelf
def Tryz.laysSlM5_f100_ren : Go.Shelf.Ren := ⟨fun | 5 => 100 | 8 => 122 | 7 => 121 | 19 => 138 | 20 => 139 | 10 => 129 | 11 => 130 | 12 => 131 | 13 => 132 | 14 => 133 | 15 => 134 | 16 => 135 | 17 => 136 | 18 => 137 | 30 => 143 | 31 => 144 | 32 => 145 | 33 => 146 | 34 => 147 | 35 => 94 | 40 => 148 | n => n, fun | 23 => 25 | 25 => 3 | 3 => 3 | 32 => 103 | 22 => 25 | 0 => 0 | 44 => 145 | 46 => 128 | 4 => 4 | 36 => 168 | 35 => 167 | 41 => 173 | 5 => 5 | 9 => 9 | 53 => 178 | 57 => 182 | 63 => 184 | 64 => 185 | n => n, fun | n => n⟩
theorem Tryz.laysSlM5_f100 : Go.Proofs.SlLaysM.n5 Tryz.prog Tryz.laysSlM5_f100_ren := {
  mixed := by kernel_rfl
  f5 := ⟨Tryz.f100.name, by decide, Tryz.func100.trans (congrArg some (by kernel_rfl))⟩
  f7 := ⟨Tryz.f121.name, by decide, Tryz.func121.trans (congrArg some (by kernel_rfl))⟩
  f8 := Tryz.func122.trans (congrArg some (by kernel_rfl))
  f10 := ⟨Tryz.f129.name, by decide, Tryz.func129.trans (congrArg some (by kernel_rfl))⟩
  f11 := ⟨Tryz.f130.name, by decide, Tryz.func130.trans (congrArg some (by kernel_rfl))⟩
  f12 := ⟨Tryz.f131.name, by decide, Tryz.func131.trans (congrArg some (by kernel_rfl))⟩
  f13 := ⟨Tryz.f132.name, by decide, Tryz.func132.trans (congrArg some (by kernel_rfl))⟩
  f14 := ⟨Tryz.f133.name, by decide, Tryz.func133.trans (congrArg some (by kernel_rfl))⟩
  f15 := ⟨Tryz.f134.name, by decide, Tryz.func134.trans (congrArg some (by kernel_rfl))⟩
  f16 := ⟨Tryz.f135.name, by decide, Tryz.func135.trans (congrArg some (by kernel_rfl))⟩
  f17 := ⟨Tryz.f136.name, by decide, Tryz.func136.trans (congrArg some (by kernel_rfl))⟩
  f18 := ⟨Tryz.f137.name, by decide, Tryz.func137.trans (congrArg some (by kernel_rfl))⟩
  f19 := Tryz.func138.trans (congrArg some (by kernel_rfl))
  f20 := Tryz.func139.trans (congrArg some (by kernel_rfl))
  f30 := ⟨Tryz.f143.name, by decide, Tryz.func143.trans (congrArg some (by kernel_rfl))⟩
  f31 := Tryz.func144.trans (congrArg some (by kernel_rfl))
  f32 := Tryz.func145.trans (congrArg some (by kernel_rfl))
  f33 := ⟨Tryz.f146.name, by decide, Tryz.func146.trans (congrArg some (by kernel_rfl))⟩
  f34 := ⟨Tryz.f147.name, by decide, Tryz.func147.trans (congrArg some (by kernel_rfl))⟩
  f35 := ⟨Tryz.f94.name, by decide, Tryz.func94.trans (congrArg some (by kernel_rfl))⟩
  f40 := ⟨Tryz.f148.name, by decide, Tryz.func148.trans (congrArg some (by kernel_rfl))⟩
  t0 := Tryz.underlying0
  a0 := Tryz.isAgg0
  z0 := Tryz.sizeOf0
  v0 := Tryz.zeroValue0
  t3 := Tryz.underlying3
  a3 := Tryz.isAgg3
  z3 := Tryz.sizeOf3
  v3 := Tryz.zeroValue3
  t4 := Tryz.underlying4
  a4 := Tryz.isAgg4
  z4 := Tryz.sizeOf4
  v4 := Tryz.zeroValue4
  t5 := Tryz.underlying5
  a5 := Tryz.isAgg5
  z5 := Tryz.sizeOf5
  v5 := Tryz.zeroValue5
  t9 := Tryz.underlying9
  a9 := Tryz.isAgg9
  z9 := Tryz.sizeOf9
  v9 := Tryz.zeroValue9
  t22 := Tryz.underlying25
  a22 := Tryz.isAgg25
  z22 := Tryz.sizeOf25
  v22 := Tryz.zeroValue25
  t23 := Tryz.underlying25
  a23 := Tryz.isAgg25
  z23 := Tryz.sizeOf25
  v23 := Tryz.zeroValue25
  t25 := Tryz.underlying3
  a25 := Tryz.isAgg3
  z25 := Tryz.sizeOf3
  v25 := Tryz.zeroValue3
  t32 := Tryz.underlying103
  a32 := Tryz.isAgg103
  z32 := Tryz.sizeOf103
  v32 := Tryz.zeroValue103
  t35 := Tryz.underlying167
  a35 := Tryz.isAgg167
  z35 := Tryz.sizeOf167
  v35 := Tryz.zeroValue167
  t36 := Tryz.underlying168
  a36 := Tryz.isAgg168
  z36 := Tryz.sizeOf168
  v36 := Tryz.zeroValue168
  t41 := Tryz.underlying173
  a41 := Tryz.isAgg173
  z41 := Tryz.sizeOf173
  v41 := Tryz.zeroValue173
  t44 := Tryz.underlying145
  a44 := Tryz.isAgg145
  z44 := Tryz.sizeOf145
  v44 := Tryz.zeroValue145
  t46 := Tryz.underlying128
  a46 := Tryz.isAgg128
  z46 := Tryz.sizeOf128
  v46 := Tryz.zeroValue128
  t53 := Tryz.underlying178
  a53 := Tryz.isAgg178
  z53 := Tryz.sizeOf178
  v53 := Tryz.zeroValue178
  t57 := Tryz.underlying182
  a57 := Tryz.isAgg182
  z57 := Tryz.sizeOf182
  v57 := Tryz.zeroValue182
  t63 := Tryz.underlying184
  a63 := Tryz.isAgg184
  z63 := Tryz.sizeOf184
  v63 := Tryz.zeroValue184
  t64 := Tryz.underlying185
  a64 := Tryz.isAgg185
  z64 := Tryz.sizeOf185
  v64 := Tryz.zeroValue185 }
open Go.Sort Go.RowKit in
theorem Tryz.slices_Sort_int (blk off cap : Nat) (zs : List Int) (w : World) (hH : Holds (Value.int .i64) w blk off zs.toArray) (hblk : blk < w.heap.size) (hsz : zs.length < 4611686018427387904) :
    Calls Tryz.prog 100 #[.slice (some ⟨blk, off, none⟩) zs.length cap] w fun e w' =>
      e = .returned (.tuple #[]) ∧ ∃ n os, w' = grow (putRow (Value.int .i64) (Sort.ahead w n) blk off (zs.mergeSort fun x y => decide (x ≤ y)).toArray) os := AnyM.slices_Sort_int Tryz.laysSlM5_f100 blk off cap zs w hH hblk hsz
open Go.RowKit Go.Sort in
/-- .. and plain. (LAID AT THE INSTANCE 'slices.Sort[[]int,int]': no walk: one application.) -/
theorem Tryz.slices_Sort_int_none (p : Option Addr) (cap : Nat) (w : World) :
    Calls Tryz.prog 100 #[.slice p 0 cap] w fun e w' => e = .returned (.tuple #[]) ∧ w' = w := AnyM.slices_Sort_int_none Tryz.laysSlM5_f100 p cap w
end Go.Proofs

/- slices.Sorted(slices.Values(a)) at a list of ints: what it returns; no condition but the size. -/
namespace Go.Proofs.YtmcncflieoolmaaGreat
set_option linter.unusedSimpArgs false
open Go.ChangeShapes Go.WideShapes Go.ChangeAt Go.RowKit Go.Deep
set_option linter.unusedVariables false

/-- The list in order. -/
def srt (xs : List Int) : List Int := xs.mergeSort fun x y => decide (x ≤ y)
theorem srt_length (xs : List Int) : (srt xs).length = xs.length := List.length_mergeSort _
theorem srt_perm (xs : List Int) : (srt xs).Perm xs := List.mergeSort_perm _ _
theorem srt_sorted (xs : List Int) : (srt xs).Pairwise (· ≤ ·) := by
  have := List.pairwise_mergeSort (le := fun (x y : Int) => decide (x ≤ y)) (fun a b c h1 h2 => by simp at *; omega) (fun a b => by simp; omega) xs
  exact this.imp (fun h => by simpa using h)

theorem srt_own {W w' : World} {base g c : Nat} {zs : List Int} {n : Nat} {os : Array Obj} (ho : Own W base (some ⟨g, 0, none⟩) c zs) (hw' : w' = Go.Sort.grow (Go.Sort.putRow (Value.int .i64) (Go.Sort.ahead W n) g 0 (srt zs).toArray) os) :
    Own w' base (some ⟨g, 0, none⟩) c (srt zs) ∧ W.grownBy w' (some g) := by
  subst hw'
  rcases ho.row.2 with ⟨h1, _⟩ | ⟨g', cap, cur, h1, h2, h3, h4, h5, h6, h7⟩
  · simp at h1
  · simp only [Value.slice.injEq, Option.some.injEq, Addr.mk.injEq, and_true, true_and] at h1
    obtain ⟨rfl, rfl⟩ := h1
    refine ⟨⟨?_, fun j hj => ?_⟩, grownBy_sortedI _⟩
    · have := ownsRow_sortedI (n := n) (os := os) (srt_length zs) h2 h3 h4 h5 h6
      rw [srt_length]
      exact this
    · have hm : iget (srt zs) j ∈ zs := (srt_perm zs).mem_iff.1 (iget_mem hj)
      obtain ⟨k, hk, he⟩ := List.getElem_of_mem hm
      rw [← he, ← iget_of hk]
      exact ho.rng k hk

set_option maxHeartbeats 1000000 in
theorem collect_any (Bs : Nat) (p : Option Addr) (c : Nat) (zs : List Int) (hz : zs.length ≤ 1000000) (w : World)
    (hBs : Bs < w.heap.size) (hc : w.cell? ⟨Bs, 0, none⟩ = some (.slice p zs.length c)) (hI : Ints w p c zs) :
    Calls Tryz.prog 99 #[.func (.func 101) #[] #[.pointer (some ⟨Bs, 0, none⟩)]] w fun e w' => ∃ p' c', e = .returned (.slice p' zs.length c') ∧ Own w' w.heap.size p' c' zs ∧ Below w.heap.size w w' :=
  (callsIn_wide (n := 6)).1 (collect_in Fence.wide 6 trivial trivial trivial rfl (by omega) Bs p c zs hz w hBs hc hI)

theorem values_any (a : Option Addr) (len cap : Nat) (w : World) :
    Calls Tryz.prog 58 #[.slice a len cap] w fun e w' => e = .returned (.func (.func 101) #[] #[.pointer (some ⟨w.heap.size, 0, none⟩)]) ∧ w' = w.alloc (.cells #[.slice a len cap] 25) :=
  (callsIn_wide (n := 6)).1 (values_in Fence.wide 6 trivial rfl a len cap w)

theorem sorted_any (Bs : Nat) (p : Option Addr) (c : Nat) (zs : List Int) (hz : zs.length ≤ 1000000) (w : World)
    (hBs : Bs < w.heap.size) (hc : w.cell? ⟨Bs, 0, none⟩ = some (.slice p zs.length c)) (hI : Ints w p c zs) :
    Calls Tryz.prog 57 #[.func (.func 101) #[] #[.pointer (some ⟨Bs, 0, none⟩)]] w fun e w' => ∃ p' c', e = .returned (.slice p' (srt zs).length c') ∧ Own w' w.heap.size p' c' (srt zs) ∧ Below w.heap.size w w' := by
  go_enter Tryz.func57, Tryz.ntmps57
  go_wp2_with fail
  refine (collect_any Bs p c zs hz w hBs hc hI).mono ?_
  rintro e W ⟨p', c', rfl, ho, hb⟩
  rcases ho.shape with ⟨rfl, rfl, h0⟩ | ⟨g, rfl, h1, h2, h3, h4⟩
  · have hn : zs.length = 0 := by rw [h0]; rfl
    rw [hn]
    go_wp2_with fail
    refine (Tryz.slices_Sort_int_none none 0 W).mono ?_
    rintro e w' ⟨rfl, rfl⟩
    go_wp2_with fail
    go_ret
    refine ⟨none, 0, by rw [srt_length, hn]; rfl, ?_, hb⟩
    rw [h0, show srt [] = [] from by simp [srt]]; exact Own.ofNil _ _
  · go_wp2_with fail
    refine (Tryz.slices_Sort_int g 0 c' zs W ?_ h2 (by omega)).mono ?_
    · intro j hj
      have hj' : j < zs.length := by simpa using hj
      refine ⟨?_, ho.free _⟩
      rw [Nat.zero_add, ho.at hj', iget_of hj']; simp [hj']
    rintro e w' ⟨rfl, n, os, hw⟩
    obtain ⟨ho', hg⟩ := srt_own ho hw
    clear hw
    go_wp2_with fail
    go_ret
    exact ⟨_, c', by rw [srt_length]; rfl, ho', hb.grown hg hb.size (fun k e => by cases e; exact h1)⟩

end Go.Proofs.YtmcncflieoolmaaGreat

/- Assignments as permutations, and what optimality says of cycles; plain, no program. -/
namespace Go.Proofs.YtmcncflieoolmaaGreat
set_option linter.unusedVariables false
set_option linter.unusedSimpArgs false

/-! ### Sums -/
theorem sumTo_congr {f g : Nat → Int} {n : Nat} (h : ∀ i, i < n → f i = g i) : sumTo f n = sumTo g n := by
  induction n with
  | zero => rfl
  | succ n ih => simp only [sumTo]; rw [ih (fun i hi => h i (by omega)), h n (by omega)]
theorem sumTo_add (f g : Nat → Int) (n : Nat) : sumTo (fun i => f i + g i) n = sumTo f n + sumTo g n := by
  induction n with
  | zero => rfl
  | succ n ih => simp only [sumTo]; omega
theorem sumTo_sub (f g : Nat → Int) (n : Nat) : sumTo (fun i => f i - g i) n = sumTo f n - sumTo g n := by
  induction n with
  | zero => rfl
  | succ n ih => simp only [sumTo]; omega
theorem sumTo_le {f g : Nat → Int} {n : Nat} (h : ∀ i, i < n → f i ≤ g i) : sumTo f n ≤ sumTo g n := by
  induction n with
  | zero => exact Int.le_refl _
  | succ n ih =>
    simp only [sumTo]
    have := ih (fun i hi => h i (by omega))
    have := h n (by omega)
    omega
theorem sumTo_nonneg {f : Nat → Int} {n : Nat} (h : ∀ i, i < n → 0 ≤ f i) : 0 ≤ sumTo f n := by
  have := sumTo_le (f := fun _ => 0) (g := f) h
  have h0 : ∀ n, sumTo (fun _ => 0) n = 0 := by intro n; induction n with | zero => rfl | succ n ih => simp [sumTo, ih]
  rw [h0] at this; exact this
theorem sumTo_const (x : Int) (n : Nat) : sumTo (fun _ => x) n = x * n := by
  induction n with
  | zero => simp [sumTo]
  | succ n ih => simp only [sumTo]; rw [ih, Int.natCast_succ, Int.mul_add, Int.mul_one]
theorem sumTo_update (f : Nat → Int) (a : Nat) (y : Int) {n : Nat} (h : a < n) : sumTo (fun x => if x = a then y else f x) n = sumTo f n - f a + y := by
  induction n with
  | zero => omega
  | succ n ih =>
    simp only [sumTo]
    by_cases e : a = n
    · subst e
      rw [sumTo_congr (g := f) (fun i hi => by rw [if_neg (by omega)])]
      simp only [if_true]; omega
    · rw [ih (by omega), if_neg (by omega)]; omega
theorem sumTo_single_le {f : Nat → Int} {n : Nat} (h : ∀ i, i < n → 0 ≤ f i) {k : Nat} (hk : k < n) : f k ≤ sumTo f n := by
  have := sumTo_update f k 0 hk
  have h2 : 0 ≤ sumTo (fun x => if x = k then 0 else f x) n := sumTo_nonneg (fun i hi => by split <;> simp [h i hi])
  omega
theorem sumTo_list (f : Nat → Int) (n : Nat) : sumTo f n = ((List.range n).map f).sum := by
  induction n with
  | zero => rfl
  | succ n ih => rw [List.range_succ, List.map_append, List.sum_append_int, ← ih]; simp [sumTo]
theorem perm_sum {l m : List Int} (h : l.Perm m) : l.sum = m.sum := by
  induction h with
  | nil => rfl
  | cons x _ ih => simp [ih]
  | swap x y l => simp only [List.sum_cons]; omega
  | trans _ _ h1 h2 => exact h1.trans h2

/-! ### Permutations of the numbers below n -/
structure Per (n : Nat) (s : Nat → Nat) : Prop where
  lt : ∀ i, i < n → s i < n
  inj : ∀ i j, i < n → j < n → s i = s j → i = j

theorem Per.nodup {n : Nat} {s : Nat → Nat} (h : Per n s) : ((List.range n).map s).Nodup := by
  rw [List.nodup_iff_pairwise_ne, List.pairwise_map]
  have := List.nodup_range (n := n)
  rw [List.nodup_iff_pairwise_ne] at this
  refine List.Pairwise.imp_of_mem ?_ this
  intro a b ha hb hne e
  exact hne (h.inj a b (List.mem_range.1 ha) (List.mem_range.1 hb) e)
theorem Per.surj {n : Nat} {s : Nat → Nat} (h : Per n s) {j : Nat} (hj : j < n) : ∃ i, i < n ∧ s i = j := by
  apply Classical.byContradiction
  intro hc
  have hm : j ∉ (List.range n).map s := fun hm => by
    obtain ⟨i, hi, e⟩ := List.mem_map.1 hm
    exact hc ⟨i, List.mem_range.1 hi, e⟩
  have h1 : (j :: (List.range n).map s).Nodup := List.nodup_cons.2 ⟨hm, h.nodup⟩
  have h2 : (j :: (List.range n).map s).length ≤ (List.range n).length := h1.length_le_of_subset (by
    intro x hx
    rcases List.mem_cons.1 hx with rfl | hx
    · exact List.mem_range.2 hj
    · obtain ⟨i, hi, e⟩ := List.mem_map.1 hx
      exact List.mem_range.2 (e ▸ h.lt i (List.mem_range.1 hi)))
  simp at h2
  omega
theorem Per.perm {n : Nat} {s : Nat → Nat} (h : Per n s) : ((List.range n).map s).Perm (List.range n) := by
  rw [List.perm_ext_iff_of_nodup h.nodup List.nodup_range]
  intro a
  rw [List.mem_map, List.mem_range]
  constructor
  · rintro ⟨i, hi, rfl⟩; exact h.lt i (List.mem_range.1 hi)
  · intro ha; obtain ⟨i, hi, e⟩ := h.surj ha; exact ⟨i, List.mem_range.2 hi, e⟩
theorem Per.sum {n : Nat} {s : Nat → Nat} (h : Per n s) (f : Nat → Int) : sumTo (fun i => f (s i)) n = sumTo f n := by
  rw [sumTo_list, sumTo_list, ← perm_sum (h.perm.map f), List.map_map]; rfl
theorem Per.id (n : Nat) : Per n (fun i => i) := ⟨fun _ h => h, fun _ _ _ _ e => e⟩
theorem Per.congr {n : Nat} {s t : Nat → Nat} (h : Per n s) (e : ∀ i, i < n → t i = s i) : Per n t := ⟨fun i hi => by rw [e i hi]; exact h.lt i hi, fun i j hi hj ee => h.inj i j hi hj (by rw [← e i hi, ← e j hj]; exact ee)⟩
/-- The inverse of a permutation. -/
noncomputable def inv (n : Nat) (s : Nat → Nat) (j : Nat) : Nat := if h : ∃ i, i < n ∧ s i = j then h.choose else 0
def val (c : Nat → Nat → Int) (n : Nat) (s : Nat → Nat) : Int := sumTo (fun i => c i (s i)) n
/-- What the owner of item x bids more for y. -/
noncomputable def wt (c : Nat → Nat → Int) (n : Nat) (s : Nat → Nat) (x y : Nat) : Int := c (inv n s x) y - c (inv n s x) x
def psum (w : Nat → Nat → Int) : Nat → List Nat → Int
  | _, [] => 0
  | x, y :: L => w x y + psum w y L
def lastOf : Nat → List Nat → Nat
  | x, [] => x
  | _, y :: L => lastOf y L
/-- A path of different nodes below n. -/
structure Simple (n : Nat) (x : Nat) (L : List Nat) : Prop where
  nodup : (x :: L).Nodup
  lt : ∀ y, y ∈ x :: L → y < n
/-- No simple cycle gains anything where no permutation does. -/
def NoGain (w : Nat → Nat → Int) (n : Nat) : Prop := ∀ x L, Simple n x L → psum w x L + w (lastOf x L) x ≤ 0
/-- g x y is the greatest sum along a simple path from x to y. -/
structure Clo (w : Nat → Nat → Int) (n : Nat) (g : Nat → Nat → Int) : Prop where
  path : ∀ x y, x < n → y < n → ∃ L, Simple n x L ∧ lastOf x L = y ∧ psum w x L = g x y
  most : ∀ x L, Simple n x L → psum w x L ≤ g x (lastOf x L)
theorem Clo.uniq {w : Nat → Nat → Int} {n : Nat} {g g' : Nat → Nat → Int} (h : Clo w n g) (h' : Clo w n g') {x y : Nat} (hx : x < n) (hy : y < n) : g x y = g' x y := by
  obtain ⟨L, hL, rfl, e⟩ := h.path x y hx hy
  obtain ⟨L', hL', e2, e'⟩ := h'.path x (lastOf x L) hx hy
  have h1 := h'.most x L hL
  have h2 := h.most x L' hL'
  rw [e2] at h2
  omega
theorem psum_append (w : Nat → Nat → Int) : ∀ (A B : List Nat) (x : Nat), psum w x (A ++ B) = psum w x A + psum w (lastOf x A) B := by
  intro A
  induction A with
  | nil => intro B x; simp [psum, lastOf]
  | cons a A ih => intro B x; simp only [List.cons_append, psum, lastOf]; rw [ih]; omega
theorem lastOf_append : ∀ (A B : List Nat) (x : Nat), lastOf x (A ++ B) = lastOf (lastOf x A) B := by
  intro A
  induction A with
  | nil => intro B x; rfl
  | cons a A ih => intro B x; exact ih B a
/-- Beyond an edge the greatest sum is at least as great. -/
theorem Clo.step {w : Nat → Nat → Int} {n : Nat} {g : Nat → Nat → Int} (h : Clo w n g) (hN : NoGain w n) {x y z : Nat} (hx : x < n) (hy : y < n) (hz : z < n) : g x y + w y z ≤ g x z := by
  obtain ⟨L, hL, rfl, e⟩ := h.path x y hx hy
  by_cases hm : z ∈ x :: L
  · -- z lies on the path: the rest of it closes a cycle
    obtain ⟨A, B, hAB⟩ : ∃ A B, x :: L = A ++ z :: B := List.append_of_mem hm
    cases A with
    | nil =>
      simp at hAB
      obtain ⟨rfl, rfl⟩ := hAB
      have h1 := hN x L hL
      have h2 := h.most x [] ⟨by simp, fun y hy => hL.lt y (by simp at hy; simp [hy])⟩
      simp [psum, lastOf] at h2
      omega
    | cons a A =>
      simp only [List.cons_append, List.cons.injEq] at hAB
      obtain ⟨rfl, rfl⟩ := hAB
      have hnd := hL.nodup
      have e1 : psum w x (A ++ z :: B) = psum w x (A ++ [z]) + psum w z B := by
        have := psum_append w (A ++ [z]) B x
        rw [List.append_assoc] at this
        rw [show A ++ z :: B = A ++ ([z] ++ B) from rfl, this, lastOf_append]; rfl
      have e2 : lastOf x (A ++ z :: B) = lastOf z B := by rw [lastOf_append]; rfl
      have hs1 : Simple n x (A ++ [z]) := ⟨by
          refine hnd.sublist (List.Sublist.cons_cons _ ?_)
          exact (List.Sublist.refl A).append (by simp), fun y hy => hL.lt y (by simp at hy ⊢; rcases hy with h | h | h <;> simp [h])⟩
      have hs2 : Simple n z B := ⟨by
          refine hnd.sublist ?_
          refine List.Sublist.cons _ ?_
          exact List.sublist_append_right A (z :: B), fun y hy => hL.lt y (by simp at hy ⊢; rcases hy with h | h <;> simp [h])⟩
      have h1 := hN z B hs2
      have h2 := h.most x (A ++ [z]) hs1
      rw [lastOf_append] at h2
      simp only [lastOf] at h2
      rw [e2]
      rw [e2] at e
      omega
  · have hs : Simple n x (L ++ [z]) := ⟨by
        rw [← List.cons_append]
        rw [List.nodup_append]
        exact ⟨hL.nodup, by simp, fun a ha b hb => by simp at hb; subst hb; exact fun e => hm (e ▸ ha)⟩, fun y hy => by
        rw [← List.cons_append, List.mem_append] at hy
        rcases hy with hy | hy
        · exact hL.lt y hy
        · simp at hy; subst hy; exact hz⟩
    have h2 := h.most x (L ++ [z]) hs
    rw [psum_append, lastOf_append] at h2
    simp only [psum, lastOf] at h2
    omega
/-- A potential bounds every path's sum. -/
theorem psum_le {w : Nat → Nat → Int} {n : Nat} {h : Nat → Int} (hh : ∀ y z, y < n → z < n → h y + w y z ≤ h z) : ∀ (L : List Nat) (x : Nat), (∀ y, y ∈ x :: L → y < n) → psum w x L ≤ h (lastOf x L) - h x := by
  intro L
  induction L with
  | nil => intro x _; simp [psum, lastOf]
  | cons y L ih =>
    intro x hx
    have h1 := ih y (fun z hz => hx z (List.mem_cons_of_mem _ hz))
    have h2 := hh x y (hx x (by simp)) (hx y (by simp))
    simp only [psum, lastOf]
    omega
theorem Clo.le {w : Nat → Nat → Int} {n : Nat} {g : Nat → Nat → Int} (h : Clo w n g) {p : Nat → Int} (hp : ∀ y z, y < n → z < n → p y + w y z ≤ p z) {x y : Nat} (hx : x < n) (hy : y < n) : g x y ≤ p y - p x := by
  obtain ⟨L, hL, rfl, e⟩ := h.path x y hx hy
  rw [← e]; exact psum_le hp L x hL.lt
end Go.Proofs.YtmcncflieoolmaaGreat
