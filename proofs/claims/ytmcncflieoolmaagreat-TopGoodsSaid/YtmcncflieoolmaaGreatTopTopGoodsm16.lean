/- The circle that a map of n numbers into themselves leads to from 0, written from its least number on; plain, no program. -/
import Derived.Test.YtmcncflieoolmaaGreatTopTopGoodsm3
import Derived.Test.YtmcncflieoolmaaGreatTopTopGoodsm15
import Derived.Test.YtmcncflieoolmaaGreatTopTopGoodsm14
import Derived.Test.YtmcncflieoolmaaGreatTopTopGoodsm2
import Derived.Lib.AppendZerosOnto
import Derived.Test.YtmcncflieoolmaaGreatTopTopGoodsm5
import Derived.Deep.RegionHeld3
/- The circle that a map of n numbers into themselves leads to from 0, written from its least number on; plain, no program. -/
namespace Go.Proofs.YtmcncflieoolmaaGreat
set_option linter.unusedVariables false
set_option linter.unusedSimpArgs false
/-- l is the circle (none, if it is of one number alone). -/
def IsTop (f : Nat → Nat) (n : Nat) (l : List Int) : Prop :=
  ∃ m L, PerC f m L ∧ (∃ k, n ≤ k ∧ m = itN f k 0) ∧ (∀ k, m ≤ itN f k m) ∧ l = if L = 1 then [] else orb f m L
theorem per_uniq {f : Nat → Nat} {m L L' : Nat} (h : PerC f m L) (h' : PerC f m L') : L = L' := by
  rcases Nat.lt_trichotomy L L' with e | e | e
  · exact absurd h.2.1 (h'.2.2 L h.1 e)
  · exact e
  · exact absurd h'.2.1 (h.2.2 L' h'.1 e)
theorem per_home {f : Nat → Nat} {z L : Nat} (h : PerC f z L) (j : Nat) : ∃ i, itN f i (itN f j z) = z := by
  have h1 := h.1
  refine ⟨L - j % L, ?_⟩
  have hm := Nat.mod_lt j (show 0 < L from h1)
  rw [per_mod h j, ← itN_add, show j % L + (L - j % L) = L by omega, h.2.1]
theorem isTop_le {f : Nat → Nat} {n m m' L k k' : Nat} (hp : PerC f m L) (hm : m = itN f k 0) (hm' : m' = itN f k' 0) (h : ∀ k, m ≤ itN f k m) (h' : ∀ k, m' ≤ itN f k m') (hkk : k ≤ k') : m = m' := by
  have e : m' = itN f (k' - k) m := by rw [hm', hm, ← itN_add]; congr 1; omega
  have h1 := h (k' - k)
  rw [← e] at h1
  obtain ⟨i, hi⟩ := per_home hp (k' - k)
  rw [← e] at hi
  have h2 := h' i
  rw [hi] at h2
  omega
theorem isTop_uniq {f : Nat → Nat} {n : Nat} {l l' : List Int} (h : IsTop f n l) (h' : IsTop f n l') : l = l' := by
  obtain ⟨m, L, hp, ⟨k, hk, hm⟩, hle, rfl⟩ := h
  obtain ⟨m', L', hp', ⟨k', hk', hm'⟩, hle', rfl⟩ := h'
  have e : m = m' := by
    rcases Nat.le_total k k' with e | e
    · exact isTop_le (n := n) hp hm hm' hle hle' e
    · exact (isTop_le (n := n) hp' hm' hm hle' hle e).symm
  subst e
  rw [per_uniq hp hp']
open Classical in
/-- The circle. -/
noncomputable def topL (f : Nat → Nat) (n : Nat) : List Int := if h : ∃ l, IsTop f n l then Classical.choose h else []
theorem topL_eq {f : Nat → Nat} {n : Nat} {l : List Int} (h : IsTop f n l) : topL f n = l := by
  have hx : ∃ l, IsTop f n l := ⟨l, h⟩
  unfold topL
  rw [dif_pos hx]
  exact isTop_uniq (Classical.choose_spec hx) h

/-- The favourite, by its row of costs. -/
def bestF (v : List (List Int)) (i : Nat) : Nat := (leastTo (rget v i) allP v.length).toNat
theorem bestF_lt {v : List (List Int)} {i : Nat} (h0 : 0 < v.length) : bestF v i < v.length := by
  have h1 := leastTo_nonneg (xs := rget v i) v.length h0
  have h2 := (leastTo_range (rget v i) allP v.length).2
  unfold bestF; omega
theorem bestF_eq {v : List (List Int)} {i : Nat} (h0 : 0 < v.length) : leastTo (rget v i) allP v.length = (bestF v i : Int) := by
  have h1 := leastTo_nonneg (xs := rget v i) v.length h0
  unfold bestF; omega
theorem orb_succ {f : Nat → Nat} {z k : Nat} : orb f z (k + 1) = orb f z k ++ [(itN f k z : Int)] := by
  unfold orb; rw [List.range_succ, List.map_append]; rfl
theorem orb_has {f : Nat → Nat} {z L k : Nat} (h : PerC f z L) (hk : k ≤ L) : hasB (orb f z k) (itN f k z : Int) = decide (k = L) := by
  unfold hasB
  rw [Bool.eq_iff_iff, decide_eq_true_iff, decide_eq_true_iff]
  constructor
  · intro hm
    obtain ⟨j, hj, he⟩ := List.getElem_of_mem hm
    rw [← iget_of hj, orb_get (by rwa [orb_len] at hj)] at he
    rw [orb_len] at hj
    have he' : itN f j z = itN f k z := by omega
    by_cases e : k = L
    · exact e
    · exact absurd he' (per_inj h hj (by omega))
  · rintro rfl
    rw [h.2.1]
    have h1 := h.1
    have : iget (orb f z k) 0 = (itN f 0 z : Int) := orb_get h1
    have hm := iget_mem (xs := orb f z k) (k := 0) (by rw [orb_len]; exact h1)
    rw [this] at hm
    exact hm
/-- Where the least number of the circle stands; from there on. -/
theorem orb_least {f : Nat → Nat} {n z L : Nat} (h : PerC f z L) (hz : z = itN f n 0) : ∃ a, a < L ∧ firstN (idxP (orb f z L) (lowTo (orb f z L) (orb f z L).length)) (orb f z L).length = (a : Int) ∧
    topL f n = if L = 1 then [] else (orb f z L).drop a ++ (orb f z L).take a := by
  obtain ⟨j, hj, he⟩ := lowTo_mem (orb f z L) (orb f z L).length (by rw [orb_len]; exact h.1)
  have hany : anyN (idxP (orb f z L) (lowTo (orb f z L) (orb f z L).length)) (orb f z L).length = true := anyN_true.2 ⟨j, hj, by unfold idxP; rw [decide_eq_true_iff]; exact he⟩
  obtain ⟨a, ha, hal, hP, _⟩ := firstN_lt hany
  rw [orb_len] at hal
  refine ⟨a, hal, ha, ?_⟩
  have hlow : lowTo (orb f z L) (orb f z L).length = (itN f a z : Int) := by
    unfold idxP at hP
    rw [decide_eq_true_iff, orb_get hal] at hP
    exact hP
  refine topL_eq ⟨itN f a z, L, per_any h a, ⟨n + a, by omega, by rw [itN_add, hz]⟩, fun k => ?_, ?_⟩
  · rw [← itN_add, per_mod h (a + k)]
    have hm := Nat.mod_lt (a + k) (show 0 < L from h.1)
    have := lowTo_le (orb f z L) (orb f z L).length ((a + k) % L) (by rw [orb_len]; exact hm)
    rw [hlow, orb_get hm] at this
    omega
  · rw [orb_turn h hal]
end Go.Proofs.YtmcncflieoolmaaGreat

/- 's[:m]' of a row of ints, whatever lies behind it; no condition but the size. -/
namespace Go.Proofs.YtmcncflieoolmaaGreat
open Go.ChangeShapes Go.WideShapes Go.ChangeAt Go.RowKit Go.Deep
theorem run_pre (a : Option Addr) (len cap m : Nat) (hm : m ≤ cap) (W : World) :
    (Instr.slice 25 (.slice a len cap) none (some (.int .i64 (m : Int))) none).run Tryz.prog W = .ok (.slice a m cap) W := by
  have h0 := run_slice_h (P := Tryz.prog) W 25 a len cap (by kernel_rfl) .i64 (m : Int) (by omega) (by omega)
  rw [h0]
  have hs : ∀ W, (sizeOf (Tryz.prog.elem 25)).run Tryz.prog W = .ok 1 W := fun W => by
    have := Tryz.sizeOf3
    simp [go_sem, this]
  rw [hs]
  simp only [Result.andThen, sliced, Int.toNat_natCast, Nat.sub_zero]
  split
  · rfl
  · cases a with
    | none => rfl
    | some a => simp [Addr.add]
end Go.Proofs.YtmcncflieoolmaaGreat

/- The walk of slices.Grow at the nil slice of ints. -/
namespace Go.Proofs.YtmcncflieoolmaaGreat
set_option linter.unusedVariables false
set_option linter.unusedSimpArgs false
open Go.ChangeShapes Go.WideShapes Go.ChangeAt Go.RowKit Go.Deep

/-- 'append(s, make([]int, n)...)' at the nil slice. -/
theorem wpList_growZ {w : World} {ops : Array Oper} {rest : List Oper} {o : Oper} {a : Act} {Q : Exit → Act → World → Prop} (hgd : o.guard = none) (s x : Operand)
    (ho : o.op = .call { callee := .builtin .append, args := #[s, x], argTypes := #[25, 3] })
    (n : Nat) (hn : n ≤ 100000) (h0 : n ≠ 0) (hs : a.eval s = .slice none 0 0) (hx : a.eval x = .int .i64 (n : Int))
    (h : ∀ G w', n ≤ G → Own w' w.heap.size (some ⟨w.heap.size, 0, none⟩) G [] → Below w.heap.size w w' → wpList Tryz.prog ops Q rest (a.put o.dst (.slice (some ⟨w.heap.size, 0, none⟩) n G)) w') : wpList Tryz.prog ops Q (o :: rest) a w := by
  obtain ⟨i, hi, hz0, hz1, hz2⟩ := info_parts infoInt
  refine wpList_plain hgd fun K hK => ?_
  have hrun := Lib.run_append_grow_zeros (P := Tryz.prog) w 25 3 o.type 3 i (.int .i64 0) .i64 .i64 (by kernel_rfl) (by kernel_rfl) hi hz0 none 0 0 [] (run_firstCells_none _ _ _ _ _) n (by omega) (by rw [hz1]; decide) (by omega) (by omega) (by rw [hz2]; omega) (growslice_fits (by omega) (by rw [hz2]; omega))
  rw [Nat.zero_add] at hrun
  have hG1 := grownCap_ge w n 0 3
  have hG2 := grownCap_le_maxLen w n 0 3 (by simp [maxLen]; omega)
  generalize grownCap w n 0 3 = G at *
  obtain ⟨cs, hcs⟩ : ∃ cs : Array Value, ([] : List Value).toArray ++ Builtin.zeroCells (Value.int .i64 0).cells n ++ Builtin.zeroCells (Value.int .i64 0).cells (G - n) = cs := ⟨_, rfl⟩
  have hsz : cs.size = G := by
    rw [← hcs, Array.size_append, Array.size_append, size_zeroCells, size_zeroCells]
    have : (Value.int .i64 0).cells.size = 1 := rfl
    rw [this]; simp; omega
  rw [hcs] at hrun
  unfold Oper.wp
  simp [execOp, ho, resolve, invoke, builtin, hs, hx, hrun, Result.andThen]
  refine hK _ _ (h G _ hG1 ⟨⟨rfl, .inr ⟨w.heap.size, G, cs, rfl, Nat.le_refl _, (by show (w.heap.push (.cells cs 3))[w.heap.size]? = _; simp), Nat.zero_le _, hG2, by omega, rfl⟩⟩, fun j h => (by simp at h)⟩ (((Below.refl w.heap.size w).drew).alloc (Nat.le_refl _) _))

set_option maxHeartbeats 1600000 in
set_option maxRecDepth 100000 in
theorem grow0_any (n : Nat) (w : World) (hn : n ≤ 100000) :
    Calls Tryz.prog 127 #[.slice none 0 0, .int .i64 n] w fun e w' => ∃ p c, e = .returned (.slice p 0 c) ∧ Own w' w.heap.size p c [] ∧ Below w.heap.size w w' := by
  have hd : decide ((n : Int) < 0) = false := by rw [decide_eq_false_iff_not]; omega
  by_cases h0 : n = 0
  · subst h0
    go_enter Tryz.func127, Tryz.ntmps127
    go_wp2_with fail
    go_ret
    exact ⟨none, 0, rfl, Own.ofNil _ _, Below.refl _ _⟩
  · have hg : decide ((0 : Int) < (n : Int)) = true := by rw [decide_eq_true_iff]; omega
    have hsl0 := run_pre none 0 0 0 (by omega)
    go_enter Tryz.func127, Tryz.ntmps127
    go_wp2_with (at_builtin; refine wpList_growZ rfl (.tmp 20) (.tmp 21) rfl n hn h0 rfl rfl ?_; intro G w1 hG hO hb; have hsl := run_pre (some ⟨w.heap.size, 0, none⟩) n G 0 (by omega))
    go_ret
    exact ⟨_, _, rfl, hO, hb⟩
end Go.Proofs.YtmcncflieoolmaaGreat

/- The walk of slices.Concat at rows of ints. -/
namespace Go.Proofs.YtmcncflieoolmaaGreat
set_option linter.unusedVariables false
set_option linter.unusedSimpArgs false
open Go.ChangeShapes Go.WideShapes Go.ChangeAt Go.RowKit Go.Deep

/-- The first k rows, one behind the other. -/
def catN (v : List (List Int)) : Nat → List Int
  | 0 => []
  | k + 1 => catN v k ++ rget v k
theorem catN_mono (v : List (List Int)) {a : Nat} : ∀ b, a ≤ b → (catN v a).length ≤ (catN v b).length
  | 0, h => by obtain rfl : a = 0 := by omega
               exact Nat.le_refl _
  | b + 1, h => by
    by_cases e : a = b + 1
    · subst e; exact Nat.le_refl _
    · have := catN_mono v (a := a) b (by omega)
      rw [catN, List.length_append]; omega
theorem catN_row (v : List (List Int)) {k : Nat} (h : k < v.length) : (catN v k).length + (rget v k).length ≤ (catN v v.length).length := by
  have := catN_mono v (a := k + 1) v.length h
  rwa [catN, List.length_append] at this

set_option maxHeartbeats 1600000 in
set_option maxRecDepth 100000 in
theorem concat_any (p : Option Addr) (c : Nat) (v : List (List Int)) (w : World) (hx : Mat w p c v) (hn : (catN v v.length).length ≤ 100000) :
    Calls Tryz.prog 117 #[.slice p v.length c] w (Gives w (catN v v.length)) := by
  have hl1 := hx.length_le
  have Hrow := Lib.hid (fun k (h : k < v.length) => catN_row v h)
  have Hst : Hid (∀ k, catN v (k + 1) = catN v k ++ rget v k) := fun k => rfl
  have H0 : Hid (catN v 0 = []) := rfl
  go_enter Tryz.func117, Tryz.ntmps117
  go_wp2_with fail
  go_loop [3, 11] (fun s t => ∃ k : Nat, k ≤ v.length ∧ t = .int .i64 k ∧ s = .int .i64 ((catN v k).length : Nat)) (fun _ t => v.length - (intOf t).toNat)
  case atStart => exact ⟨0, Nat.zero_le _, rfl, by rw [H0.out]; rfl⟩
  case round =>
    obtain ⟨k, hk, rfl, rfl⟩ := hrel
    by_cases hlt : k < v.length
    · have hk1 : (k : Int) < v.length := by omega
      obtain ⟨b, o, rfl, _, q, d, hc, hi⟩ := hx.get hlt
      have hr := Hrow.out k hlt
      have hS : (catN v (k + 1)).length = (catN v k).length + (rget v k).length := by rw [Hst.out, List.length_append]
      have HS := Lib.hid hS
      obtain ⟨A, eA⟩ : ∃ A, (catN v k).length = A := ⟨_, rfl⟩
      obtain ⟨L, eL⟩ : ∃ L, (rget v k).length = L := ⟨_, rfl⟩
      rw [eL] at hc
      rw [eA, eL] at hr HS
      rw [eA]
      clear hi hS eA eL
      have hd : decide (((A : Int) + (L : Int)) < 0) = false := by rw [decide_eq_false_iff_not]; omega
      go_wp2_with fail
      go_round
      case rel => exact ⟨k + 1, by omega, by go_num, by rw [HS.out]; go_num⟩
      case measure => (simp [intOf] <;> omega)
    · have hk1 : ¬ (k : Int) < v.length := by omega
      obtain rfl : k = v.length := by omega
      have HN := Lib.hid hn
      go_wp2_with fail
      refine (grow0_any _ _ HN.out).mono ?_
      rintro e w1 ⟨p1, c1, rfl, hO1, hb1⟩
      go_wp2_with fail
      go_loopw [6, 27] (fun s t wr => ∃ k : Nat, k ≤ v.length ∧ t = .int .i64 k ∧ (∃ zs qz dz, Hid (zs = catN v k) ∧ s = .slice qz (zs : List Int).length dz ∧ Own wr w.heap.size qz dz zs) ∧ Below w.heap.size w wr) (fun _ t _ => v.length - (intOf t).toNat)
      case atStart => exact ⟨0, Nat.zero_le _, rfl, ⟨[], _, _, rfl, rfl, hO1⟩, hb1⟩
      case round =>
        obtain ⟨k, hk, rfl, ⟨zs, qz, dz, hz, rfl, hO⟩, hbr⟩ := hrel
        by_cases hlt : k < v.length
        · have hk1 : (k : Int) < v.length := by omega
          obtain ⟨b, o, rfl, _, q, d, hc, hi⟩ := (hx.below hbr (Nat.le_refl _)).get hlt
          have hr := Hrow.out k hlt
          have hsz2 := hbr.size
          have hzl : zs.length + (rget v k).length ≤ 1000000 := by rw [hz.out]; omega
          clear hr
          go_wp2_with (at_builtin; refine wpList_app rfl (.tmp 31) (.tmp 32) rfl w.heap.size _ _ _ _ zs (rget v k) rfl rfl hO hi hzl hsz2 ?_; intro p3 c3 w3 u3 hu3 hO3 hg3 hf3)
          go_roundw
          case rel => exact ⟨k + 1, by omega, by go_num, ⟨u3, _, _, by unfold Hid; rw [hu3.out, hz.out, Hst.out], rfl, hO3⟩, hbr.grown hg3 hsz2 (fun k' e => (hO.lt k' e).1)⟩
          case measure => (simp [intOf] <;> omega)
        · have hk1 : ¬ (k : Int) < v.length := by omega
          obtain rfl : k = v.length := by omega
          obtain rfl := hz.out
          go_wp2_with fail
          go_ret
          exact ⟨_, _, rfl, hO, hbr⟩
end Go.Proofs.YtmcncflieoolmaaGreat

/- 's[m:]' of a row of ints, and how parts of a row read; no condition but sizes. -/
namespace Go.Proofs.YtmcncflieoolmaaGreat
set_option linter.unusedVariables false
set_option linter.unusedSimpArgs false
open Go.ChangeShapes Go.WideShapes Go.ChangeAt Go.RowKit Go.Deep
theorem run_post (g len cap m : Nat) (hm : m < cap) (hl : m ≤ len) (W : World) :
    (Instr.slice 25 (.slice (some ⟨g, 0, none⟩) len cap) (some (.int .i64 (m : Int))) none none).run Tryz.prog W = .ok (.slice (some ⟨g, m, none⟩) (len - m) (cap - m)) W := by
  have h0 := run_slice_l (P := Tryz.prog) W 25 (some ⟨g, 0, none⟩) len cap (by kernel_rfl) .i64 (m : Int) (by omega) (by omega)
  rw [h0]
  have hs : ∀ W, (sizeOf (Tryz.prog.elem 25)).run Tryz.prog W = .ok 1 W := fun W => by
    have := Tryz.sizeOf3
    simp [go_sem, this]
  rw [hs]
  simp only [Result.andThen, sliced, Int.toNat_natCast]
  rw [if_neg (by omega)]
  simp [Addr.add]
  omega
theorem iget_drop (xs : List Int) (m j : Nat) : iget (xs.drop m) j = iget xs (m + j) := by simp [iget, List.getElem?_drop]
theorem Ints.cutPre {w : World} {p : Option Addr} {c : Nat} {xs : List Int} (h : Ints w p c xs) (k : Nat) : Ints w p c (xs.take k) := by
  refine ⟨by have := h.le; rw [List.length_take]; omega, h.max, h.nil, h.plain, fun b o e j hj => ?_, fun j hj => ?_⟩
  · rw [List.length_take] at hj
    rw [iget_take (by omega)]; exact h.cell b o e j (by omega)
  · rw [List.length_take] at hj
    rw [iget_take (by omega)]; exact h.rng j (by omega)
theorem Ints.cutPost {w : World} {b o c : Nat} {xs : List Int} (h : Ints w (some ⟨b, o, none⟩) c xs) (m : Nat) (hm : m < c) : Ints w (some ⟨b, o + m, none⟩) (c - m) (xs.drop m) := by
  have hle := h.le
  refine ⟨by rw [List.length_drop]; omega, by have := h.max; omega, fun h => (by cases h), ?_, ?_, ?_⟩
  · rintro a ⟨⟩ _
    exact ⟨rfl, (h.plain _ rfl (by omega)).2⟩
  · rintro b' o' ⟨⟩ j hj
    rw [List.length_drop] at hj
    rw [iget_drop, Nat.add_assoc]
    exact h.at (by omega)
  · intro j hj
    rw [List.length_drop] at hj
    rw [iget_drop]; exact h.rng _ (by omega)
/-- Two rows in a new block. -/
theorem mat_two (w : World) (p q : Option Addr) (c d : Nat) (xs ys : List Int) (hx : Ints w p c xs) (hy : Ints w q d ys) :
    Mat (w.alloc (.cells #[.slice p xs.length c, .slice q ys.length d] 25)) (some ⟨w.heap.size, 0, none⟩) 2 [xs, ys] := by
  have hb : Below w.heap.size w (w.alloc (.cells #[.slice p xs.length c, .slice q ys.length d] 25)) := (Below.refl _ w).alloc (Nat.le_refl _) _
  refine ⟨Nat.le_refl _, by omega, fun h => (by cases h), ?_, ?_⟩
  · rintro a ⟨⟩ _
    exact ⟨rfl, by simp⟩
  · rintro b o ⟨⟩ j hj
    rw [Nat.zero_add]
    match j, hj with
    | 0, _ => exact ⟨p, c, by rw [World.cell?_alloc_at _ _ _ _ rfl]; rfl, hx.below hb (Nat.le_refl _)⟩
    | 1, _ => exact ⟨q, d, by rw [World.cell?_alloc_at _ _ _ _ rfl]; rfl, hy.below hb (Nat.le_refl _)⟩
end Go.Proofs.YtmcncflieoolmaaGreat

/- The walk of chores.circle: the circle of best bundles. -/
namespace Go.Proofs.YtmcncflieoolmaaGreat
set_option linter.unusedVariables false
set_option linter.unusedSimpArgs false
open Go.ChangeShapes Go.WideShapes Go.ChangeAt Go.RowKit Go.Deep

theorem enter_circle1 (args : Array Value) (W : World) : (callFunc 116 args).run Tryz.prog W = .ok (.enter 116 args) W := by kernel_rfl
theorem circle1_any (x : Int) (w : World) : Calls Tryz.prog 116 #[.int .i64 x] w fun e w' => e = .returned (.bool true) ∧ w' = w := by
  go_enter Tryz.func116, Tryz.ntmps116
  go_wp2_with fail
  go_ret
  exact ⟨rfl, rfl⟩
def lenV : Value → Nat | .slice _ n _ => n | _ => 0
theorem bestRow_any (p : Option Addr) (c n : Nat) (v : List (List Int)) (y : Nat) (w : World) (hn : (rget v y).length = n) (hv : v.length = n) (h0 : 0 < n) (hI : Ints w p c (rget v y)) :
    Calls Tryz.prog 86 #[.slice p n c, .func (.func 116) #[] #[]] w fun e w' => e = .returned (.int .i64 (bestF v y : Nat)) ∧ w' = w := by
  subst hv
  refine Calls.mono ?_ (fun e w' h => h)
  have := least0_any 116 allP (fun W => W = w) enter_circle1 p c (rget v y) w rfl (Lib.hid (fun W h => h ▸ hI)) (fun j W hj hR => by
    subst hR; exact circle1_any j W)
  rw [hn] at this
  refine this.mono ?_
  rintro e w' ⟨rfl, rfl⟩
  exact ⟨by rw [bestF_eq h0], rfl⟩

/-- 'slices.Concat(s[a:], s[:a])'. -/
theorem concat2_as (g dz a : Nat) (xs : List Int) (w : World) (ha : a < xs.length) (hI : Ints w (some ⟨g, 0, none⟩) dz xs) (hn : xs.length ≤ 1000) :
    Calls Tryz.prog 117 #[.slice (some ⟨w.heap.size, 0, none⟩) 2 2] (w.alloc (.cells #[.slice (some ⟨g, a, none⟩) (xs.length - a) (dz - a), .slice (some ⟨g, 0, none⟩) a dz] 25)).drew fun e w' =>
      ∃ p c zs, Hid (zs = xs.drop a ++ xs.take a) ∧ e = .returned (.slice p (zs : List Int).length c) ∧ Own w' w.heap.size p c zs ∧ Below w.heap.size w w' := by
  have hle := hI.le
  have h1 := hI.cutPost a (by omega)
  have h2 := hI.cutPre a
  have hm := mat_two w _ _ _ _ _ _ h1 h2
  rw [List.length_drop, List.length_take, Nat.min_eq_left (by omega), Nat.zero_add] at hm
  have hcat : catN [xs.drop a, xs.take a] 2 = xs.drop a ++ xs.take a := by simp [catN, rget]
  have hC := concat_any _ _ [xs.drop a, xs.take a] _ (hm.drewN 1) (by show (catN [xs.drop a, xs.take a] 2).length ≤ 100000; rw [hcat]; simp; omega)
  have hb : Below w.heap.size w (w.alloc (.cells #[.slice (some ⟨g, a, none⟩) (xs.length - a) (dz - a), .slice (some ⟨g, 0, none⟩) a dz] 25)).drew := ((Below.refl _ w).alloc (Nat.le_refl _) _).drew
  refine hC.mono ?_
  rintro e w' ⟨p, c, rfl, hO, hb2⟩
  have e2 : catN [xs.drop a, xs.take a] [xs.drop a, xs.take a].length = xs.drop a ++ xs.take a := hcat
  rw [e2] at hO ⊢
  exact ⟨p, c, _, rfl, rfl, hO.lower hb.size, hb.trans (hb2.mono hb.size)⟩

set_option maxHeartbeats 4000000 in
set_option maxRecDepth 100000 in
theorem circle_any (p : Option Addr) (c : Nat) (v : List (List Int)) (w : World) (hx : Mat w p c v) (h0 : 0 < v.length) (h6 : v.length ≤ 6) (hsq : ∀ i, i < v.length → (rget v i).length = v.length) :
    Calls Tryz.prog 89 #[.slice p v.length c] w (Gives w (topL (bestF v) v.length)) := by
  have hl1 := hx.length_le
  have hbl : ∀ y, y < v.length → bestF v y < v.length := fun y _ => bestF_lt h0
  have Hbl := Lib.hid hbl
  have Hsq := Lib.hid hsq
  have Hit := Lib.hid (fun k => itN_lt hbl k 0 h0)
  clear hbl hsq
  obtain ⟨L, hL6, hper⟩ : ∃ L, L ≤ v.length ∧ PerC (bestF v) (itN (bestF v) v.length 0) L := by
    obtain ⟨M, h1, h2, h3⟩ := it_back Hbl.out h0
    obtain ⟨L, hL, hP⟩ := per_ex h1 h3
    exact ⟨L, by omega, hP⟩
  obtain ⟨a, haL, ha, htop⟩ := orb_least hper rfl
  have Hper := Lib.hid hper
  have Htop := Lib.hid htop
  have Ha := Lib.hid ha
  have h1L := hper.1
  clear hper htop ha
  have HR := Lib.hid (fun y q d W (hy : y < v.length) (hI : Ints W q d (rget v y)) => bestRow_any q d v.length v y W (Hsq.out y hy) rfl h0 hI)
  have Hst : Hid (∀ k, itN (bestF v) (k + 1) 0 = bestF v (itN (bestF v) k 0)) := fun k => rfl
  have Hz0 : Hid (itN (bestF v) 0 0 = 0) := rfl
  go_enter Tryz.func89, Tryz.ntmps89
  go_wp2_with fail
  go_loop [4, 9] (fun s t => ∃ k : Nat, k ≤ v.length ∧ t = .int .i64 k ∧ s = .int .i64 (itN (bestF v) k 0 : Nat)) (fun _ t => v.length - (intOf t).toNat)
  case atStart => exact ⟨0, Nat.zero_le _, rfl, by rw [Hz0.out]; rfl⟩
  case round =>
    obtain ⟨k, hk, rfl, rfl⟩ := hrel
    by_cases hlt : k < v.length
    · have hk1 : (k : Int) < v.length := by omega
      have hy := Hit.out k
      have HS := Lib.hid (Hst.out k)
      obtain ⟨y, ey⟩ : ∃ y, itN (bestF v) k 0 = y := ⟨_, rfl⟩
      rw [ey] at hy HS
      rw [ey]
      clear ey
      have hy1 : (y : Int) < v.length := by omega
      obtain ⟨b, o, rfl, _, q, d, hc, hi⟩ := hx.get hy
      rw [Hsq.out y hy] at hc
      have HC := Lib.hid (HR.out y q d w hy hi)
      go_wp2_with fail
      refine HC.out.mono ?_
      rintro e w' ⟨rfl, rfl⟩
      go_wp2_with fail
      go_round
      case rel => exact ⟨k + 1, by omega, by go_num, by rw [HS.out]⟩
      case measure => (simp [intOf] <;> omega)
    · have hk1 : ¬ (k : Int) < v.length := by omega
      obtain rfl : k = v.length := by omega
      have hzlt := Hit.out v.length
      obtain ⟨z, ez⟩ : ∃ z, itN (bestF v) v.length 0 = z := ⟨_, rfl⟩
      rw [ez] at hzlt Hper Htop Ha ⊢
      clear ez
      have Hz1 := Lib.hid (fun k => itN_lt Hbl.out k z hzlt)
      have Hhas := Lib.hid (fun k (h : k ≤ L) => orb_has Hper.out h)
      have Hos : Hid (∀ k, orb (bestF v) z (k + 1) = orb (bestF v) z k ++ [(itN (bestF v) k z : Int)]) := fun k => orb_succ
      have Hst2 : Hid (∀ k, itN (bestF v) (k + 1) z = bestF v (itN (bestF v) k z)) := fun k => rfl
      have Hz2 : Hid (itN (bestF v) 0 z = z) := rfl
      have Hol := Lib.hid (fun k => orb_len (bestF v) z k)
      have ho0 : orb (bestF v) z 0 = [] := rfl
      have Ho0 := Lib.hid ho0
      clear ho0
      go_wp2_with fail
      go_loopw [4, 5] (fun s t wr => ∃ k : Nat, k ≤ L ∧ s = .int .i64 (itN (bestF v) k z : Nat) ∧ (∃ zs qz dz, Hid (zs = orb (bestF v) z k) ∧ t = .slice qz (zs : List Int).length dz ∧ Own wr w.heap.size qz dz zs) ∧ Below w.heap.size w wr) (fun _ t _ => L - lenV t)
      case atStart => exact ⟨0, Nat.zero_le _, by rw [Hz2.out], ⟨[], none, 0, Ho0.out.symm, rfl, Own.ofNil _ _⟩, Below.refl _ _⟩
      case round =>
        obtain ⟨k, hk, rfl, ⟨zs, qz, dz, hz, rfl, hO⟩, hbr⟩ := hrel
        have hzl : zs.length = k := by rw [hz.out]; exact Hol.out k
        have hC := contains_any qz dz zs (itN (bestF v) k z : Int) wr hO.ints
        rw [show hasB zs (itN (bestF v) k z : Int) = decide (k = L) by rw [hz.out]; exact Hhas.out k hk] at hC
        by_cases hlt : k < L
        · rw [show decide (k = L) = false by rw [decide_eq_false_iff_not]; omega] at hC
          have hy := Hz1.out k
          have HS := Lib.hid (Hst2.out k)
          have HO := Lib.hid (Hos.out k)
          obtain ⟨y, ey⟩ : ∃ y, itN (bestF v) k z = y := ⟨_, rfl⟩
          rw [ey] at hy HS hC HO
          rw [ey]
          have hy1 : (y : Int) < v.length := by omega
          have hyi : in64 (y : Int) := ⟨by omega, by omega⟩
          have hsz2 := hbr.size
          have Hzl := Lib.hid hzl
          have hz9 : zs.length ≤ 900000 := by omega
          have HC := Lib.hid hC
          clear ey hzl hC
          go_wp2_with fail
          refine HC.out.mono ?_
          rintro e w' ⟨rfl, rfl⟩
          go_wp2_with (at_builtin; refine wpList_app1 rfl (.tmp 22) (.tmp 24) rfl w.heap.size _ _ zs (y : Int) rfl rfl rfl hO hyi hz9 hsz2 ?_; intro p3 c3 w3 u3 hu3 hO3 hg3 hf3; have hbw := hbr.grown hg3 hsz2 (fun k' e => (hO.lt k' e).1); obtain ⟨b, o, rfl, _, q, d, hc, hi⟩ := (hx.below hbw (Nat.le_refl _)).get hy; rw [Hsq.out y hy] at hc; have HC2 := Lib.hid (HR.out y q d w3 hy hi))
          refine HC2.out.mono ?_
          rintro e w' ⟨rfl, rfl⟩
          go_wp2_with fail
          go_roundw
          case rel => exact ⟨k + 1, by omega, by rw [HS.out], ⟨u3, _, _, by unfold Hid; rw [hu3.out, hz.out, HO.out], rfl, hO3⟩, hbw⟩
          case measure => have e3 : u3.length = k + 1 := by rw [hu3.out, List.length_append, Hzl.out]; rfl
                          have e4 := Hzl.out
                          simp only [lenV]; omega
        · obtain rfl : k = L := by omega
          rw [show decide (k = k) = true by simp] at hC
          obtain rfl := hz.out
          have Hzl := Lib.hid hzl
          have HC := Lib.hid hC
          have hsz2 := hbr.size
          have hin := hO.ints
          have hpos : 0 < (orb (bestF v) z k).length := by rw [Hol.out]; exact h1L
          obtain ⟨g, rfl, hgB, hgl, _, _⟩ := hO.get hpos
          clear hzl hC
          go_wp2_with fail
          refine HC.out.mono ?_
          rintro e w' ⟨rfl, rfl⟩
          by_cases hL1 : k = 1
          · have hb : decide (((orb (bestF v) z k).length : Int) = 1) = true := by rw [decide_eq_true_iff, Hol.out]; omega
            have hb2 : (((orb (bestF v) z k).length : Int) == 1) = true := by rw [beq_iff_eq, Hol.out]; omega
            have HT : Hid (topL (bestF v) v.length = []) := by unfold Hid; rw [Htop.out, if_pos hL1]
            clear hL1
            go_wp2_with fail
            go_ret
            rw [HT.out]
            exact ⟨none, 0, rfl, Own.ofNil _ _, hbr⟩
          · have hb : decide (((orb (bestF v) z k).length : Int) = 1) = false := by rw [decide_eq_false_iff_not, Hol.out]; omega
            have hb2 : (((orb (bestF v) z k).length : Int) == 1) = false := by rw [beq_eq_false_iff_ne, Hol.out]; omega
            have HT : Hid (topL (bestF v) v.length = (orb (bestF v) z k).drop a ++ (orb (bestF v) z k).take a) := by unfold Hid; rw [Htop.out, if_neg hL1]
            have HM := Lib.hid (sMin_any _ dz _ _ hin hpos)
            have HI := sIndex_any _ dz _ (lowTo (orb (bestF v) z k) (orb (bestF v) z k).length) _ hin
            rw [Ha.out] at HI
            have HI := Lib.hid HI
            clear hL1
            go_wp2_with fail
            refine HM.out.mono ?_
            rintro e w' ⟨rfl, rfl⟩
            go_wp2_with fail
            refine HI.out.mono ?_
            rintro e w' ⟨rfl, rfl⟩
            have hle := hin.le
            have hsl1 := run_post g (orb (bestF v) z k).length dz a (by have := Hol.out k; omega) (by have := Hol.out k; omega)
            have hsl2 := run_pre (some ⟨g, 0, none⟩) (orb (bestF v) z k).length dz a (by have := Hol.out k; omega)
            go_wp2_with fail
            have HC2 := Lib.hid (concat2_as g dz a (orb (bestF v) z k) _ (by rw [Hol.out]; exact haL) hin (by rw [Hol.out]; omega))
            go_region_with (go_at_call 117; refine HC2.out.mono ?_; rintro e w3 ⟨p3, c3, zs3, hz3, rfl, hO3, hb3⟩)
            go_wp2_with fail
            go_ret
            rw [HT.out, ← hz3.out]
            exact ⟨p3, c3, rfl, hO3.lower hsz2, hbr.trans (hb3.mono hsz2)⟩
end Go.Proofs.YtmcncflieoolmaaGreat

/- The walks of chores.Circle and of the reference's Circle, for every chores and allocation; no condition. -/
namespace Go.Proofs.YtmcncflieoolmaaGreat
set_option linter.unusedVariables false
set_option linter.unusedSimpArgs false
open Go.ChangeShapes Go.WideShapes Go.ChangeAt Go.RowKit Go.Deep

/-- The top circle of an allocation. -/
noncomputable def topG (v : List (List Int)) (a : List Int) : List Int := topL (bestF (valsG v a)) v.length
/-- The least number of the first k + 1 from z on. -/
def lowIt (f : Nat → Nat) (z : Nat) : Nat → Nat
  | 0 => z
  | k + 1 => min (lowIt f z k) (itN f (k + 1) z)
theorem lowIt_le (f : Nat → Nat) (z : Nat) : ∀ k j, j ≤ k → lowIt f z k ≤ itN f j z
  | 0, j, h => by obtain rfl : j = 0 := by omega
                  exact Nat.le_refl _
  | k + 1, j, h => by
    rw [lowIt]
    by_cases e : j = k + 1
    · subst e; omega
    · have := lowIt_le f z k j (by omega); omega
theorem lowIt_mem (f : Nat → Nat) (z : Nat) : ∀ k, ∃ j, j ≤ k ∧ lowIt f z k = itN f j z
  | 0 => ⟨0, Nat.le_refl _, rfl⟩
  | k + 1 => by
    obtain ⟨j, hj, he⟩ := lowIt_mem f z k
    rw [lowIt]
    by_cases h : lowIt f z k ≤ itN f (k + 1) z
    · exact ⟨j, by omega, by omega⟩
    · exact ⟨k + 1, by omega, by omega⟩
theorem top_of_low {f : Nat → Nat} {n : Nat} (hf : ∀ x, x < n → f x < n) (h0 : 0 < n) :
    ∃ L, 1 ≤ L ∧ L ≤ n ∧ PerC f (lowIt f (itN f (2 * n) 0) n) L ∧ topL f n = if L = 1 then [] else orb f (lowIt f (itN f (2 * n) 0) n) L := by
  obtain ⟨M, hM1, hMn, hM⟩ := it_back hf h0
  obtain ⟨L, hL, hP⟩ := per_ex hM1 hM
  have hz : itN f (2 * n) 0 = itN f n (itN f n 0) := by rw [← itN_add]; congr 1; omega
  have hPz : PerC f (itN f (2 * n) 0) L := by rw [hz]; exact per_any hP n
  obtain ⟨j, hj, he⟩ := lowIt_mem f (itN f (2 * n) 0) n
  have hPm : PerC f (lowIt f (itN f (2 * n) 0) n) L := by rw [he]; exact per_any hPz j
  refine ⟨L, hP.1, by omega, hPm, topL_eq ⟨_, L, hPm, ⟨2 * n + j, by omega, by rw [he, itN_add]⟩, fun k => ?_, rfl⟩⟩
  have e1 : itN f k (lowIt f (itN f (2 * n) 0) n) = itN f ((j + k) % L) (itN f (2 * n) 0) := by rw [he, ← itN_add, per_mod hPz]
  rw [e1]
  exact lowIt_le f _ n _ (by have := Nat.mod_lt (j + k) (show 0 < L from hP.1); omega)
end Go.Proofs.YtmcncflieoolmaaGreat

/- The walks of the reference's All, Content, Envies and Burdened, and of chores.Burdened, for every chores and allocation. -/
namespace Go.Proofs.YtmcncflieoolmaaGreat
set_option linter.unusedVariables false
set_option linter.unusedSimpArgs false
open Go.ChangeShapes Go.WideShapes Go.ChangeAt Go.RowKit Go.Deep

set_option maxHeartbeats 2000000 in
theorem all16_any (p : Option Addr) (c : Nat) (v : List (List Int)) (i : Nat) (w : World) (hx : Mat w p c v) (hg : Gds v) (hiv : i < v.length) :
    Calls Tryz.prog 82 #[.agg #[.slice p v.length c], .int .i64 i] w fun e w' => e = .returned (.int .i64 (allG v i)) ∧ Below w.heap.size w w' := by
  obtain ⟨W0, hW0⟩ : ∃ W0, w.alloc (.cells #[.slice p v.length c] 24) = W0 := ⟨_, rfl⟩
  have hB : Below w.heap.size w W0 := below_alloc hW0
  have bX : BoxV W0 w.heap.size [.slice p v.length c] := BoxV.new rfl hW0
  have hx := hx.below hB (Nat.le_refl _)
  have x0 := bX.cell 0 _ rfl
  have HW0 := Lib.hid hW0
  clear hW0
  have hl1 := hx.length_le
  have hrl := Lib.hid ((hg.2.2.2 i hiv).1)
  have hm10 := hg.2.2.1
  have Hb := Lib.hid (fun k (h : k < (rget v i).length) => (hg.2.2.2 i hiv).2 k h)
  have Hs := Lib.hid (fun k h => sumUp_in hg hiv k h)
  clear hg
  obtain ⟨b, o, rfl, _, q0, d0, hc0, hi0⟩ := hx.get hiv
  have hi1 : (i : Int) < v.length := by omega
  go_enter Tryz.func82, Tryz.ntmps82
  go_wp2_with fail
  rw [HW0.out]
  go_loop [5, 6] (fun s t => ∃ k : Nat, k ≤ (rget v i).length ∧ t = .int .i64 k ∧ s = .int .i64 (sumUp (rget v i) k)) (fun _ t => (rget v i).length - (intOf t).toNat)
  case atStart => exact ⟨0, Nat.zero_le _, rfl, rfl⟩
  case round =>
    obtain ⟨k, hk, rfl, rfl⟩ := hrel
    by_cases hlt : k < (rget v i).length
    · have hk1 : (k : Int) < (rget v i).length := by omega
      obtain ⟨b3, o3, rfl, _, hc3⟩ := hi0.get hlt
      have hr1 := Hs.out k (by have := hrl.out; omega)
      have hr2 := Hb.out k hlt
      have Hst : Hid (sumUp (rget v i) (k + 1) = sumUp (rget v i) k + iget (rget v i) k) := rfl
      have hk10 : k ≤ 10 := by have := hrl.out; omega
      generalize sumUp (rget v i) k = y at *
      generalize iget (rget v i) k = z at *
      go_wp2_with fail
      go_round
      case rel => exact ⟨k + 1, by omega, by go_num, by rw [Hst.out]⟩
      case measure => (simp [intOf] <;> omega)
    · have hk1 : ¬ (k : Int) < (rget v i).length := by omega
      obtain rfl : k = (rget v i).length := by omega
      go_wp2_with fail
      go_ret
      exact ⟨rfl, hB⟩

end Go.Proofs.YtmcncflieoolmaaGreat

/- The walks of chores.Burdened and of the reference's, for every chores and allocation. -/
namespace Go.Proofs.YtmcncflieoolmaaGreat
set_option linter.unusedVariables false
set_option linter.unusedSimpArgs false
open Go.ChangeShapes Go.WideShapes Go.ChangeAt Go.RowKit Go.Deep

end Go.Proofs.YtmcncflieoolmaaGreat
