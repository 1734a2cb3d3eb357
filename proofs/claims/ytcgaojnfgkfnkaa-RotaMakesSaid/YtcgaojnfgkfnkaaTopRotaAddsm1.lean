/- 's[:m]' of a row of ints, whatever lies behind it; no condition but the size. -/
import Derived.Test.YtcgaojnfgkfnkaaTopRotaCheapestm2
import Derived.Test.YtcgaojnfgkfnkaaTopRotaCheapestm6
import Derived.Lib.AppendZerosOnto
import Derived.Test.YtcgaojnfgkfnkaaTopRotaCheapestm7
import Derived.Test.YtcgaojnfgkfnkaaTopRotaCheapestm8
import Derived.Test.YtcgaojnfgkfnkaaTopRotaCheapestm14
import Derived.Ground.SlgmProg
import Derived.Shelf.SortM.Plain
import Derived.Shelf.SortM.SortNone
import Derived.Test.YtcgaojnfgkfnkaaProg
import Derived.Test.YtcgaojnfgkfnkaaTopRotaCheapestm11
import Derived.Sort.OwnSortedInts
import Derived.Test.YtcgaojnfgkfnkaaTopRotaCheapestm3
namespace Go.Proofs.Ytcgaojnfgkfnkaa
open Go.ChangeShapes Go.WideShapes Go.ChangeAt Go.RowKit Go.Deep
theorem run_pre (a : Option Addr) (len cap m : Nat) (hm : m ≤ cap) (W : World) :
    (Instr.slice 23 (.slice a len cap) none (some (.int .i64 (m : Int))) none).run Try.prog W = .ok (.slice a m cap) W := by
  have h0 := run_slice_h (P := Try.prog) W 23 a len cap (by kernel_rfl) .i64 (m : Int) (by omega) (by omega)
  rw [h0]
  have hs : ∀ W, (sizeOf (Try.prog.elem 23)).run Try.prog W = .ok 1 W := fun W => by
    have := Try.sizeOf3
    simp [go_sem, this]
  rw [hs]
  simp only [Result.andThen, sliced, Int.toNat_natCast, Nat.sub_zero]
  split
  · rfl
  · cases a with
    | none => rfl
    | some a => simp [Addr.add]
end Go.Proofs.Ytcgaojnfgkfnkaa

/- The walk of slices.Grow at the nil slice of ints. -/
namespace Go.Proofs.Ytcgaojnfgkfnkaa
set_option linter.unusedVariables false
set_option linter.unusedSimpArgs false
open Go.ChangeShapes Go.WideShapes Go.ChangeAt Go.RowKit Go.Deep

/-- 'append(s, make([]int, n)...)' at the nil slice. -/
theorem wpList_growZ {w : World} {ops : Array Oper} {rest : List Oper} {o : Oper} {a : Act} {Q : Exit → Act → World → Prop} (hgd : o.guard = none) (s x : Operand)
    (ho : o.op = .call { callee := .builtin .append, args := #[s, x], argTypes := #[23, 3] })
    (n : Nat) (hn : n ≤ 100000) (h0 : n ≠ 0) (hs : a.eval s = .slice none 0 0) (hx : a.eval x = .int .i64 (n : Int))
    (h : ∀ G w', n ≤ G → Own w' w.heap.size (some ⟨w.heap.size, 0, none⟩) G [] → Below w.heap.size w w' → wpList Try.prog ops Q rest (a.put o.dst (.slice (some ⟨w.heap.size, 0, none⟩) n G)) w') : wpList Try.prog ops Q (o :: rest) a w := by
  obtain ⟨i, hi, hz0, hz1, hz2⟩ := info_parts infoInt
  refine wpList_plain hgd fun K hK => ?_
  have hrun := Lib.run_append_grow_zeros (P := Try.prog) w 23 3 o.type 3 i (.int .i64 0) .i64 .i64 (by kernel_rfl) (by kernel_rfl) hi hz0 none 0 0 [] (run_firstCells_none _ _ _ _ _) n (by omega) (by rw [hz1]; decide) (by omega) (by omega) (by rw [hz2]; omega) (growslice_fits (by omega) (by rw [hz2]; omega))
  rw [Nat.zero_add] at hrun
  have hG1 := grownCap_ge w n 0 3
  have hG2 := grownCap_le_maxLen w n 0 3 (by simp [maxLen]; omega)
  generalize grownCap w n 0 3 = G at *
  obtain ⟨cs, hcs⟩ : ∃ cs : Array Value, ([] : List Value).toArray ++ Builtin.zeroCells (Value.int .i64 0).cells n ++ Builtin.zeroCells (Value.int .i64 0).cells (G - n) = cs := ⟨_, rfl⟩
  have hsz : cs.size = G := by
    rw [← hcs, Array.size_append, Array.size_append, size_zeroCells, size_zeroCells]
    have : (Value.int .i64 0).cells.size = 1 := rfl
    rw [this]; simp; omega
  rw [hcs] at hrun
  unfold Oper.wp
  simp [execOp, ho, resolve, invoke, builtin, hs, hx, hrun, Result.andThen]
  refine hK _ _ (h G _ hG1 ⟨⟨rfl, .inr ⟨w.heap.size, G, cs, rfl, Nat.le_refl _, (by show (w.heap.push (.cells cs 3))[w.heap.size]? = _; simp), Nat.zero_le _, hG2, by omega, rfl⟩⟩, fun j h => (by simp at h)⟩ (((Below.refl w.heap.size w).drew).alloc (Nat.le_refl _) _))

set_option maxHeartbeats 1600000 in
set_option maxRecDepth 100000 in
theorem grow0_any (n : Nat) (w : World) (hn : n ≤ 100000) :
    Calls Try.prog 48 #[.slice none 0 0, .int .i64 n] w fun e w' => ∃ p c, e = .returned (.slice p 0 c) ∧ Own w' w.heap.size p c [] ∧ Below w.heap.size w w' := by
  have hd : decide ((n : Int) < 0) = false := by rw [decide_eq_false_iff_not]; omega
  by_cases h0 : n = 0
  · subst h0
    go_enter Try.func48, Try.ntmps48
    go_wp2_with fail
    go_ret
    exact ⟨none, 0, rfl, Own.ofNil _ _, Below.refl _ _⟩
  · have hg : decide ((0 : Int) < (n : Int)) = true := by rw [decide_eq_true_iff]; omega
    have hsl0 := run_pre none 0 0 0 (by omega)
    go_enter Try.func48, Try.ntmps48
    go_wp2_with (at_builtin; refine wpList_growZ rfl (.tmp 20) (.tmp 21) rfl n hn h0 rfl rfl ?_; intro G w1 hG hO hb; have hsl := run_pre (some ⟨w.heap.size, 0, none⟩) n G 0 (by omega))
    go_ret
    exact ⟨_, _, rfl, hO, hb⟩
end Go.Proofs.Ytcgaojnfgkfnkaa

/- The walk of slices.Concat at rows of ints. -/
namespace Go.Proofs.Ytcgaojnfgkfnkaa
set_option linter.unusedVariables false
set_option linter.unusedSimpArgs false
open Go.ChangeShapes Go.WideShapes Go.ChangeAt Go.RowKit Go.Deep

/-- The first k rows, one behind the other. -/
def catN (v : List (List Int)) : Nat → List Int
  | 0 => []
  | k + 1 => catN v k ++ rget v k
theorem catN_mono (v : List (List Int)) {a : Nat} : ∀ b, a ≤ b → (catN v a).length ≤ (catN v b).length
  | 0, h => by obtain rfl : a = 0 := by omega
               exact Nat.le_refl _
  | b + 1, h => by
    by_cases e : a = b + 1
    · subst e; exact Nat.le_refl _
    · have := catN_mono v (a := a) b (by omega)
      rw [catN, List.length_append]; omega
theorem catN_row (v : List (List Int)) {k : Nat} (h : k < v.length) : (catN v k).length + (rget v k).length ≤ (catN v v.length).length := by
  have := catN_mono v (a := k + 1) v.length h
  rwa [catN, List.length_append] at this

set_option maxHeartbeats 1600000 in
set_option maxRecDepth 100000 in
theorem concat_any (p : Option Addr) (c : Nat) (v : List (List Int)) (w : World) (hx : Mat w p c v) (hn : (catN v v.length).length ≤ 100000) :
    Calls Try.prog 32 #[.slice p v.length c] w (Gives w (catN v v.length)) := by
  have hl1 := hx.length_le
  have Hrow := Lib.hid (fun k (h : k < v.length) => catN_row v h)
  have Hst : Hid (∀ k, catN v (k + 1) = catN v k ++ rget v k) := fun k => rfl
  have H0 : Hid (catN v 0 = []) := rfl
  go_enter Try.func32, Try.ntmps32
  go_wp2_with fail
  go_loop [3, 11] (fun s t => ∃ k : Nat, k ≤ v.length ∧ t = .int .i64 k ∧ s = .int .i64 ((catN v k).length : Nat)) (fun _ t => v.length - (intOf t).toNat)
  case atStart => exact ⟨0, Nat.zero_le _, rfl, by rw [H0.out]; rfl⟩
  case round =>
    obtain ⟨k, hk, rfl, rfl⟩ := hrel
    by_cases hlt : k < v.length
    · have hk1 : (k : Int) < v.length := by omega
      obtain ⟨b, o, rfl, _, q, d, hc, hi⟩ := hx.get hlt
      have hr := Hrow.out k hlt
      have hS : (catN v (k + 1)).length = (catN v k).length + (rget v k).length := by rw [Hst.out, List.length_append]
      have HS := Lib.hid hS
      obtain ⟨A, eA⟩ : ∃ A, (catN v k).length = A := ⟨_, rfl⟩
      obtain ⟨L, eL⟩ : ∃ L, (rget v k).length = L := ⟨_, rfl⟩
      rw [eL] at hc
      rw [eA, eL] at hr HS
      rw [eA]
      clear hi hS eA eL
      have hd : decide (((A : Int) + (L : Int)) < 0) = false := by rw [decide_eq_false_iff_not]; omega
      go_wp2_with fail
      go_round
      case rel => exact ⟨k + 1, by omega, by go_num, by rw [HS.out]; go_num⟩
      case measure => (simp [intOf] <;> omega)
    · have hk1 : ¬ (k : Int) < v.length := by omega
      obtain rfl : k = v.length := by omega
      have HN := Lib.hid hn
      go_wp2_with fail
      refine (grow0_any _ _ HN.out).mono ?_
      rintro e w1 ⟨p1, c1, rfl, hO1, hb1⟩
      go_wp2_with fail
      go_loopw [6, 27] (fun s t wr => ∃ k : Nat, k ≤ v.length ∧ t = .int .i64 k ∧ (∃ zs qz dz, Hid (zs = catN v k) ∧ s = .slice qz (zs : List Int).length dz ∧ Own wr w.heap.size qz dz zs) ∧ Below w.heap.size w wr) (fun _ t _ => v.length - (intOf t).toNat)
      case atStart => exact ⟨0, Nat.zero_le _, rfl, ⟨[], _, _, rfl, rfl, hO1⟩, hb1⟩
      case round =>
        obtain ⟨k, hk, rfl, ⟨zs, qz, dz, hz, rfl, hO⟩, hbr⟩ := hrel
        by_cases hlt : k < v.length
        · have hk1 : (k : Int) < v.length := by omega
          obtain ⟨b, o, rfl, _, q, d, hc, hi⟩ := (hx.below hbr (Nat.le_refl _)).get hlt
          have hr := Hrow.out k hlt
          have hsz2 := hbr.size
          have hzl : zs.length + (rget v k).length ≤ 1000000 := by rw [hz.out]; omega
          clear hr
          go_wp2_with (at_builtin; refine wpList_app rfl (.tmp 31) (.tmp 32) rfl w.heap.size _ _ _ _ zs (rget v k) rfl rfl hO hi hzl hsz2 ?_; intro p3 c3 w3 u3 hu3 hO3 hg3 hf3)
          go_roundw
          case rel => exact ⟨k + 1, by omega, by go_num, ⟨u3, _, _, by unfold Hid; rw [hu3.out, hz.out, Hst.out], rfl, hO3⟩, hbr.grown hg3 hsz2 (fun k' e => (hO.lt k' e).1)⟩
          case measure => (simp [intOf] <;> omega)
        · have hk1 : ¬ (k : Int) < v.length := by omega
          obtain rfl : k = v.length := by omega
          obtain rfl := hz.out
          go_wp2_with fail
          go_ret
          exact ⟨_, _, rfl, hO, hbr⟩
end Go.Proofs.Ytcgaojnfgkfnkaa

/- Counts that are even: what is reckoned of them; plain, no program. -/
namespace Go.Proofs.Ytcgaojnfgkfnkaa
set_option linter.unusedVariables false
set_option linter.unusedSimpArgs false

def rowS (v : List (List Int)) (i : Nat) : Int := sumTo (fun k => iget (rget v i) k) v.length
def colS (v : List (List Int)) (k : Nat) : Int := sumTo (fun i => iget (rget v i) k) v.length
structure LvlP (v : List (List Int)) : Prop where
  sums : ∀ i, i < v.length → rowS v i = rowS v 0 ∧ colS v i = rowS v 0
  near : ∀ i k j l, i < v.length → k < v.length → j < v.length → l < v.length → iget (rget v i) k - iget (rget v j) l ≤ 1
open Classical in
noncomputable def lvlB (v : List (List Int)) : Bool := decide (LvlP v)
open Classical in
theorem lvlB_true {v : List (List Int)} : lvlB v = true ↔ LvlP v := by unfold lvlB; rw [decide_eq_true_iff]
open Classical in
theorem lvlB_false {v : List (List Int)} (h : ¬ LvlP v) : lvlB v = false := by unfold lvlB; rw [decide_eq_false_iff_not]; exact h

theorem mem_iget {xs : List Int} {x : Int} (h : x ∈ xs) : ∃ j, j < xs.length ∧ iget xs j = x := by
  obtain ⟨j, hj, rfl⟩ := List.getElem_of_mem h
  exact ⟨j, hj, iget_of hj⟩
theorem lowTo_le' {xs : List Int} {x : Int} (h : x ∈ xs) : lowTo xs xs.length ≤ x := by obtain ⟨j, hj, rfl⟩ := mem_iget h; exact lowTo_le xs _ j hj
theorem highTo_ge' {xs : List Int} {x : Int} (h : x ∈ xs) : x ≤ highTo xs xs.length := by obtain ⟨j, hj, rfl⟩ := mem_iget h; exact highTo_ge xs _ j hj
theorem lowTo_in {xs : List Int} (h : 0 < xs.length) : lowTo xs xs.length ∈ xs := by obtain ⟨j, hj, e⟩ := lowTo_mem xs xs.length h; rw [e]; exact iget_mem hj
theorem highTo_in {xs : List Int} (h : 0 < xs.length) : highTo xs xs.length ∈ xs := by obtain ⟨j, hj, e⟩ := highTo_mem xs xs.length h; rw [e]; exact iget_mem hj
theorem mem_catN {v : List (List Int)} {x : Int} : ∀ m, x ∈ catN v m ↔ ∃ i, i < m ∧ x ∈ rget v i
  | 0 => by simp [catN]
  | m + 1 => by
    rw [catN, List.mem_append, mem_catN m]
    constructor
    · rintro (⟨i, hi, h⟩ | h)
      · exact ⟨i, by omega, h⟩
      · exact ⟨m, by omega, h⟩
    · rintro ⟨i, hi, h⟩
      by_cases e : i = m
      · subst e; exact .inr h
      · exact .inl ⟨i, by omega, h⟩
theorem catN_len {v : List (List Int)} {L : Nat} (h : ∀ i, i < v.length → (rget v i).length = L) : ∀ m, m ≤ v.length → (catN v m).length = m * L
  | 0, _ => by simp [catN]
  | m + 1, hm => by rw [catN, List.length_append, catN_len h m (by omega), h m (by omega), Nat.succ_mul]
/-- Whether sums agree, and entries lie near: what is reckoned of the least and the greatest. -/
def sumsL (v : List (List Int)) : List Int := (List.range v.length).map (rowS v) ++ (List.range v.length).map (colS v)
theorem mem_sumsL {v : List (List Int)} {x : Int} : x ∈ sumsL v ↔ ∃ i, i < v.length ∧ (x = rowS v i ∨ x = colS v i) := by
  unfold sumsL
  rw [List.mem_append, List.mem_map, List.mem_map]
  constructor
  · rintro (⟨i, hi, rfl⟩ | ⟨i, hi, rfl⟩)
    · exact ⟨i, List.mem_range.1 hi, .inl rfl⟩
    · exact ⟨i, List.mem_range.1 hi, .inr rfl⟩
  · rintro ⟨i, hi, rfl | rfl⟩
    · exact .inl ⟨i, List.mem_range.2 hi, rfl⟩
    · exact .inr ⟨i, List.mem_range.2 hi, rfl⟩
theorem sumsL_len (v : List (List Int)) : (sumsL v).length = v.length + v.length := by simp [sumsL]
theorem lvl_iff {v : List (List Int)} {m : Int} (hv : CntM m v) (h1 : 1 ≤ v.length) :
    LvlP v ↔ (lowTo (sumsL v) (sumsL v).length = highTo (sumsL v) (sumsL v).length ∧ highTo (catN v v.length) (catN v v.length).length - lowTo (catN v v.length) (catN v v.length).length ≤ 1) := by
  have hs0 : 0 < (sumsL v).length := by rw [sumsL_len]; omega
  have hc0 : 0 < (catN v v.length).length := by rw [catN_len hv.row _ (Nat.le_refl _)]; exact Nat.mul_pos (by omega) (by omega)
  have hin : ∀ i k, i < v.length → k < v.length → iget (rget v i) k ∈ catN v v.length := fun i k hi hk => (mem_catN _).2 ⟨i, hi, iget_mem (by rw [hv.row i hi]; exact hk)⟩
  constructor
  · intro h
    constructor
    · have hall : ∀ x ∈ sumsL v, x = rowS v 0 := fun x hx => by
        obtain ⟨i, hi, rfl | rfl⟩ := mem_sumsL.1 hx
        · exact (h.sums i hi).1
        · exact (h.sums i hi).2
      rw [hall _ (lowTo_in hs0), hall _ (highTo_in hs0)]
    · obtain ⟨i, hi, h2⟩ := (mem_catN _).1 (highTo_in hc0)
      obtain ⟨j, hj, h3⟩ := (mem_catN _).1 (lowTo_in hc0)
      obtain ⟨k, hk, e1⟩ := mem_iget h2
      obtain ⟨l, hl, e2⟩ := mem_iget h3
      rw [← e1, ← e2]
      exact h.near i k j l hi (by rw [← hv.row i hi]; exact hk) hj (by rw [← hv.row j hj]; exact hl)
  · rintro ⟨h2, h3⟩
    have hall : ∀ x ∈ sumsL v, x = lowTo (sumsL v) (sumsL v).length := fun x hx => by
      have h4 := lowTo_le' hx
      have h5 := highTo_ge' hx
      omega
    refine ⟨fun i hi => ?_, fun i k j l hi hk hj hl => ?_⟩
    · have e0 := hall _ (mem_sumsL.2 ⟨0, h1, .inl rfl⟩)
      have e1 := hall _ (mem_sumsL.2 ⟨i, hi, .inl rfl⟩)
      have e2 := hall _ (mem_sumsL.2 ⟨i, hi, .inr rfl⟩)
      exact ⟨by omega, by omega⟩
    · have h4 := highTo_ge' (hin i k hi hk)
      have h5 := lowTo_le' (hin j l hj hl)
      omega
/-- Sums while they are reckoned. -/
def rowF (v : List (List Int)) (i k : Nat) : Nat → Int := fun j => if j < i then rowS v j else if j = i then sumTo (fun k => iget (rget v i) k) k else 0
def colF (v : List (List Int)) (i k : Nat) : Nat → Int := fun c => sumTo (fun a => iget (rget v a) c) i + (if c < k then iget (rget v i) c else 0)
theorem sumTo_s (f : Nat → Int) (k : Nat) : sumTo f (k + 1) = sumTo f k + f k := rfl
theorem rowF_at (v : List (List Int)) (i k : Nat) : rowF v i k i = sumTo (fun k => iget (rget v i) k) k := by unfold rowF; rw [if_neg (by omega), if_pos rfl]
theorem colF_at (v : List (List Int)) (i k : Nat) : colF v i k k = sumTo (fun a => iget (rget v a) k) i := by unfold colF; rw [if_neg (by omega), Int.add_zero]
theorem rowF_zero (v : List (List Int)) : rowF v 0 0 = fun _ => 0 := by funext j; unfold rowF; rw [if_neg (by omega)]; split <;> rfl
theorem colF_zero (v : List (List Int)) : colF v 0 0 = fun _ => 0 := by funext j; unfold colF; rw [if_neg (by omega)]; rfl
theorem rowF_step (v : List (List Int)) (i k : Nat) : updf (rowF v i k) i (sumTo (fun k => iget (rget v i) k) k + iget (rget v i) k) = rowF v i (k + 1) := by
  funext j
  by_cases e : j = i
  · subst e; rw [updf_at, rowF_at, sumTo_s]
  · rw [updf_ne e]; unfold rowF; rw [if_neg e, if_neg e]
theorem colF_step (v : List (List Int)) (i k : Nat) : updf (colF v i k) k (sumTo (fun a => iget (rget v a) k) i + iget (rget v i) k) = colF v i (k + 1) := by
  funext j
  by_cases e : j = k
  · subst e; rw [updf_at]; unfold colF; rw [if_pos (by omega)]
  · rw [updf_ne e]; unfold colF
    by_cases h : j < k
    · rw [if_pos h, if_pos (by omega)]
    · rw [if_neg h, if_neg (by omega)]
theorem rowF_next (v : List (List Int)) (i : Nat) : rowF v i v.length = rowF v (i + 1) 0 := by
  funext j
  unfold rowF
  by_cases h : j < i
  · rw [if_pos h, if_pos (by omega)]
  · rw [if_neg h]
    by_cases e : j = i
    · subst e; rw [if_pos rfl, if_pos (by omega)]; rfl
    · rw [if_neg e, if_neg (by omega)]; split <;> rfl
theorem colF_next (v : List (List Int)) (i : Nat) {c : Nat} (hc : c < v.length) : colF v i v.length c = colF v (i + 1) 0 c := by
  unfold colF
  rw [if_pos hc, if_neg (by omega), sumTo_s, Int.add_zero]
theorem rowF_all (v : List (List Int)) {j : Nat} (h : j < v.length) : rowF v v.length 0 j = rowS v j := by unfold rowF; rw [if_pos h]
theorem colF_all (v : List (List Int)) (c : Nat) : colF v v.length 0 c = colS v c := by unfold colF colS; rw [if_neg (by omega), Int.add_zero]
theorem sum_cnt {f : Nat → Int} {n : Nat} (h : ∀ k, k < n → 0 ≤ f k ∧ f k ≤ 400) : ∀ k, k ≤ n → 0 ≤ sumTo f k ∧ sumTo f k ≤ 400 * k
  | 0, _ => by simp [sumTo]
  | k + 1, hk => by
    have ih := sum_cnt h k (by omega)
    have := h k (by omega)
    rw [sumTo_s]; omega
/-- The least and the greatest so far. -/
structure Bnd (v : List (List Int)) (i k : Nat) (L H : Int) : Prop where
  lo : ∃ a b, a < v.length ∧ b < v.length ∧ L = iget (rget v a) b
  hi : ∃ a b, a < v.length ∧ b < v.length ∧ H = iget (rget v a) b
  all : ∀ a b, a < v.length → b < v.length → (a < i ∨ (a = i ∧ b < k)) → L ≤ iget (rget v a) b ∧ iget (rget v a) b ≤ H
theorem Bnd.zero {v : List (List Int)} (h : 1 ≤ v.length) : Bnd v 0 0 (iget (rget v 0) 0) (iget (rget v 0) 0) := ⟨⟨0, 0, by omega, by omega, rfl⟩, ⟨0, 0, by omega, by omega, rfl⟩, fun a b _ _ h => by omega⟩
theorem Bnd.step {v : List (List Int)} {i k : Nat} {L H : Int} (h : Bnd v i k L H) (hi : i < v.length) (hk : k < v.length) : Bnd v i (k + 1) (min L (iget (rget v i) k)) (max H (iget (rget v i) k)) := by
  refine ⟨?_, ?_, fun a b ha hb hab => ?_⟩
  · by_cases e : L ≤ iget (rget v i) k
    · rw [Int.min_eq_left e]; exact h.lo
    · rw [Int.min_eq_right (by omega)]; exact ⟨i, k, hi, hk, rfl⟩
  · by_cases e : H ≤ iget (rget v i) k
    · rw [Int.max_eq_right e]; exact ⟨i, k, hi, hk, rfl⟩
    · rw [Int.max_eq_left (by omega)]; exact h.hi
  · by_cases e : a = i ∧ b = k
    · obtain ⟨rfl, rfl⟩ := e; omega
    · have := h.all a b ha hb (by omega)
      omega
theorem Bnd.next {v : List (List Int)} {i : Nat} {L H : Int} (h : Bnd v i v.length L H) : Bnd v (i + 1) 0 L H := ⟨h.lo, h.hi, fun a b ha hb hab => h.all a b ha hb (by omega)⟩
theorem Bnd.lvl {v : List (List Int)} {L H : Int} (h : Bnd v v.length 0 L H) (hs : ∀ i, i < v.length → rowS v i = rowS v 0 ∧ colS v i = rowS v 0) : lvlB v = decide (H - L ≤ 1) := by
  by_cases e : H - L ≤ 1
  · rw [decide_eq_true e, lvlB_true]
    refine ⟨hs, fun i k j l hi hk hj hl => ?_⟩
    have h1 := h.all i k hi hk (.inl hi)
    have h2 := h.all j l hj hl (.inl hj)
    omega
  · rw [decide_eq_false e]
    refine lvlB_false fun h1 => e ?_
    obtain ⟨a, b, ha, hb, e1⟩ := h.hi
    obtain ⟨c, d, hc, hd, e2⟩ := h.lo
    rw [e1, e2]
    exact h1.near a b c d ha hb hc hd
end Go.Proofs.Ytcgaojnfgkfnkaa

/- Rotas that are added to counts, and exchanges: what is answered; plain, no program. -/
namespace Go.Proofs.Ytcgaojnfgkfnkaa
set_option linter.unusedVariables false
set_option linter.unusedSimpArgs false
open Go.ChangeShapes Go.WideShapes Go.ChangeAt Go.RowKit Go.Deep

/-- The counts to which t weeks of a rota were added. -/
def addA (v r : List (List Int)) : Nat → List (List Int)
  | 0 => v
  | t + 1 => addW (addA v r t) (rget r t)
theorem addA_len (v r : List (List Int)) : ∀ t, (addA v r t).length = v.length
  | 0 => rfl
  | t + 1 => by show (addW (addA v r t) (rget r t)).length = _; rw [addW_len]; exact addA_len v r t
def WksTo (v r : List (List Int)) (m : Nat) : Prop := ∀ t, t < m → isWk (rget r t) v.length = true
theorem addA_cnt {v r : List (List Int)} (h : CntM 400 v) : ∀ m : Nat, WksTo v r m → CntM (400 + m) (addA v r m)
  | 0, _ => h
  | m + 1, hw => by
    have ih := addA_cnt h m (fun t ht => hw t (by omega))
    have h2 := ih.addW (a := rget r m) (by rw [addA_len]; exact (isWk_true.1 (hw m (by omega))).2.2)
    exact h2.mono (by omega)
def OverP (v : List (List Int)) : Prop := ∃ i k, i < v.length ∧ k < v.length ∧ 400 < iget (rget v i) k
open Classical in
noncomputable def addE (v r : List (List Int)) : Int :=
  if chk32 v ≠ 0 then chk32 v else if 400 < r.length then 4 else if ¬ WksTo v r r.length then 8 else if OverP (addA v r r.length) then 2 else 0
noncomputable def addR (v r : List (List Int)) : List (List Int) := if addE v r = 0 then addA v r r.length else []
theorem addE_chk {v r : List (List Int)} (h : chk32 v ≠ 0) : addE v r = chk32 v := if_pos h
theorem addE_many {v r : List (List Int)} (h : chk32 v = 0) (k : 400 < r.length) : addE v r = 4 := by unfold addE; rw [if_neg (by rw [h]; simp), if_pos k]
theorem addE_bad {v r : List (List Int)} (h : chk32 v = 0) (k : ¬ 400 < r.length) (l : ¬ WksTo v r r.length) : addE v r = 8 := by unfold addE; rw [if_neg (by rw [h]; simp), if_neg k, if_pos l]
theorem addE_over {v r : List (List Int)} (h : chk32 v = 0) (k : ¬ 400 < r.length) (l : WksTo v r r.length) (m : OverP (addA v r r.length)) : addE v r = 2 := by unfold addE; rw [if_neg (by rw [h]; simp), if_neg k, if_neg (fun hn => hn l), if_pos m]
theorem addE_ok {v r : List (List Int)} (h : chk32 v = 0) (k : ¬ 400 < r.length) (l : WksTo v r r.length) (m : ¬ OverP (addA v r r.length)) : addE v r = 0 := by unfold addE; rw [if_neg (by rw [h]; simp), if_neg k, if_neg (fun hn => hn l), if_neg m]
theorem addR_bad {v r : List (List Int)} (h : addE v r ≠ 0) : addR v r = [] := if_neg h
theorem addR_ok {v r : List (List Int)} (h : addE v r = 0) : addR v r = addA v r r.length := if_pos h
theorem over_iff {v : List (List Int)} {m : Int} (hv : CntM m v) (h1 : 1 ≤ v.length) : OverP v ↔ 400 < highTo (catN v v.length) (catN v v.length).length := by
  have hc0 : 0 < (catN v v.length).length := by rw [catN_len hv.row _ (Nat.le_refl _)]; exact Nat.mul_pos (by omega) (by omega)
  constructor
  · rintro ⟨i, k, hi, hk, h⟩
    have := highTo_ge' ((mem_catN (v := v) v.length).2 ⟨i, hi, iget_mem (by rw [hv.row i hi]; exact hk)⟩)
    omega
  · intro h
    obtain ⟨i, hi, hm⟩ := (mem_catN _).1 (highTo_in hc0)
    obtain ⟨k, hk, e⟩ := mem_iget hm
    exact ⟨i, k, hi, by rw [← hv.row i hi]; exact hk, by rw [e]; exact h⟩
/-- An exchange. -/
def SwIn (r : List (List Int)) (m a b : Int) : Prop := 0 ≤ m ∧ m < r.length ∧ 0 ≤ a ∧ 0 ≤ b ∧ a < (rget r 0).length ∧ b < (rget r 0).length
def WksR (r : List (List Int)) (m : Nat) : Prop := ∀ t, t < m → isWk (rget r t) (rget r 0).length = true
open Classical in
noncomputable def swE (r : List (List Int)) (m a b : Int) : Int :=
  if 400 < r.length then 4 else if ¬ WksR r r.length then 8 else if ¬ SwIn r m a b then 2 else 0
def swRow (x : List Int) (a b : Nat) : List Int := (x.set a (iget x b)).set b (iget x a)
def swA (r : List (List Int)) (m a b : Nat) : List (List Int) := r.set m (swRow (rget r m) a b)
noncomputable def swR (r : List (List Int)) (m a b : Int) : List (List Int) := if swE r m a b = 0 then swA r m.toNat a.toNat b.toNat else []
theorem swE_many {r : List (List Int)} {m a b : Int} (h : 400 < r.length) : swE r m a b = 4 := if_pos h
theorem swE_bad {r : List (List Int)} {m a b : Int} (h : ¬ 400 < r.length) (k : ¬ WksR r r.length) : swE r m a b = 8 := by unfold swE; rw [if_neg h, if_pos k]
theorem swE_arg {r : List (List Int)} {m a b : Int} (h : ¬ 400 < r.length) (k : WksR r r.length) (l : ¬ SwIn r m a b) : swE r m a b = 2 := by unfold swE; rw [if_neg h, if_neg (fun hn => hn k), if_pos l]
theorem swE_ok {r : List (List Int)} {m a b : Int} (h : ¬ 400 < r.length) (k : WksR r r.length) (l : SwIn r m a b) : swE r m a b = 0 := by unfold swE; rw [if_neg h, if_neg (fun hn => hn k), if_neg (fun hn => hn l)]
theorem swR_bad {r : List (List Int)} {m a b : Int} (h : swE r m a b ≠ 0) : swR r m a b = [] := if_neg h
theorem swR_ok {r : List (List Int)} {m a b : Nat} (h : swE r m a b = 0) : swR r m a b = swA r m a b := by unfold swR; rw [if_pos h]; simp
theorem swA_len (r : List (List Int)) (m a b : Nat) : (swA r m a b).length = r.length := by simp [swA]
/-- A row of rows of the call's own. -/
theorem Held.row {w : World} {b0 B : Nat} {q : Option Addr} {d : Nat} {v : List (List Int)} (h : Held w b0 B q d v) {i : Nat} (hi : i < v.length) (hp : 0 < (rget v i).length) :
    ∃ gt g dd, q = some ⟨gt, 0, none⟩ ∧ w.cell? ⟨gt, i, none⟩ = some (.slice (some ⟨g, 0, none⟩) (rget v i).length dd) ∧ (∀ t, t < (rget v i).length → w.cell? ⟨g, t, none⟩ = some (.int .i64 (iget (rget v i) t)) ∧ w.frozen? ⟨g, t, none⟩ = false) ∧ b0 ≤ g ∧ g < B ∧ gt ≠ g ∧
      ∀ s t x y, in64 x → in64 y → Held ((w.setCell ⟨g, s, none⟩ (.int .i64 x)).setCell ⟨g, t, none⟩ (.int .i64 y)) b0 B q d (v.set i (((rget v i).set s x).set t y)) := by
  obtain ⟨Q, D, h, hw⟩ := h
  obtain ⟨gt, rfl, h1, h2, h3, h4⟩ := h.tmat.get hi
  obtain ⟨g, hQ, h5, h6, h7, h8⟩ := (h.rows i hi).get hp
  rw [hQ] at h3
  have hr := h.rows i hi
  have hgt : gt ≠ g := fun e => by
    have := top_not_row h.top hr
    rw [hQ] at this
    exact this (by simp [blk, e])
  rw [hQ] at hr
  refine ⟨gt, g, D i, rfl, h3, fun t ht => ⟨hr.at ht, hr.free t⟩, h5, hw.2 i hi g (by rw [hQ]; rfl), hgt, fun s t x y hx hy => ?_⟩
  have a1 := h.setElem (t := s) hi hQ hx
  have a2 := a1.setElem (i := i) (t := t) (by rw [List.length_set]; exact hi) hQ hy
  rw [rget_set hi, if_pos rfl, List.set_set] at a2
  exact ⟨Q, D, a2, by rw [List.length_set]; exact hw⟩
end Go.Proofs.Ytcgaojnfgkfnkaa

/-
  DERIVED: THE SHELF's CONTRACTS AT THIS DUMP, IN PLAIN WORDS (tools/lay-plain.mjs out of 'TryShelf.lean', which tools/lay-shelf.mjs wrote): THE SAME DECLARATIONS UNDER THE SAME NAMES: 'import', 'namespace', 'open', 'def', 'theorem' AND NOTHING ELSE: no command of the shelf's: FOR A HAND-IN. Each laying: the table of numbers ('.._ren') and one theorem, a field a fact of the dump's own or the kernel's comparison; each contract: ONE APPLICATION.
-/
namespace Go.Proofs
open Go.Shelf
def Try.laysSlM5_f58_ren : Go.Shelf.Ren := ⟨fun | 5 => 58 | 8 => 62 | 7 => 61 | 19 => 72 | 20 => 73 | 10 => 63 | 11 => 64 | 12 => 65 | 13 => 66 | 14 => 67 | 15 => 68 | 16 => 69 | 17 => 70 | 18 => 71 | 30 => 74 | 31 => 75 | 32 => 76 | 33 => 77 | 34 => 78 | 35 => 79 | 40 => 80 | n => n, fun | 23 => 23 | 25 => 3 | 3 => 3 | 32 => 87 | 22 => 23 | 0 => 0 | 44 => 97 | 46 => 99 | 4 => 4 | 36 => 90 | 35 => 89 | 41 => 94 | 5 => 5 | 9 => 9 | 53 => 100 | 57 => 104 | 63 => 106 | 64 => 107 | n => n, fun | n => n⟩
theorem Try.laysSlM5_f58 : Go.Proofs.SlLaysM.n5 Try.prog Try.laysSlM5_f58_ren := {
  mixed := by kernel_rfl
  f5 := ⟨Try.f58.name, by decide, Try.func58.trans (congrArg some (by kernel_rfl))⟩
  f7 := ⟨Try.f61.name, by decide, Try.func61.trans (congrArg some (by kernel_rfl))⟩
  f8 := Try.func62.trans (congrArg some (by kernel_rfl))
  f10 := ⟨Try.f63.name, by decide, Try.func63.trans (congrArg some (by kernel_rfl))⟩
  f11 := ⟨Try.f64.name, by decide, Try.func64.trans (congrArg some (by kernel_rfl))⟩
  f12 := ⟨Try.f65.name, by decide, Try.func65.trans (congrArg some (by kernel_rfl))⟩
  f13 := ⟨Try.f66.name, by decide, Try.func66.trans (congrArg some (by kernel_rfl))⟩
  f14 := ⟨Try.f67.name, by decide, Try.func67.trans (congrArg some (by kernel_rfl))⟩
  f15 := ⟨Try.f68.name, by decide, Try.func68.trans (congrArg some (by kernel_rfl))⟩
  f16 := ⟨Try.f69.name, by decide, Try.func69.trans (congrArg some (by kernel_rfl))⟩
  f17 := ⟨Try.f70.name, by decide, Try.func70.trans (congrArg some (by kernel_rfl))⟩
  f18 := ⟨Try.f71.name, by decide, Try.func71.trans (congrArg some (by kernel_rfl))⟩
  f19 := Try.func72.trans (congrArg some (by kernel_rfl))
  f20 := Try.func73.trans (congrArg some (by kernel_rfl))
  f30 := ⟨Try.f74.name, by decide, Try.func74.trans (congrArg some (by kernel_rfl))⟩
  f31 := Try.func75.trans (congrArg some (by kernel_rfl))
  f32 := Try.func76.trans (congrArg some (by kernel_rfl))
  f33 := ⟨Try.f77.name, by decide, Try.func77.trans (congrArg some (by kernel_rfl))⟩
  f34 := ⟨Try.f78.name, by decide, Try.func78.trans (congrArg some (by kernel_rfl))⟩
  f35 := ⟨Try.f79.name, by decide, Try.func79.trans (congrArg some (by kernel_rfl))⟩
  f40 := ⟨Try.f80.name, by decide, Try.func80.trans (congrArg some (by kernel_rfl))⟩
  t0 := Try.underlying0
  a0 := Try.isAgg0
  z0 := Try.sizeOf0
  v0 := Try.zeroValue0
  t3 := Try.underlying3
  a3 := Try.isAgg3
  z3 := Try.sizeOf3
  v3 := Try.zeroValue3
  t4 := Try.underlying4
  a4 := Try.isAgg4
  z4 := Try.sizeOf4
  v4 := Try.zeroValue4
  t5 := Try.underlying5
  a5 := Try.isAgg5
  z5 := Try.sizeOf5
  v5 := Try.zeroValue5
  t9 := Try.underlying9
  a9 := Try.isAgg9
  z9 := Try.sizeOf9
  v9 := Try.zeroValue9
  t22 := Try.underlying23
  a22 := Try.isAgg23
  z22 := Try.sizeOf23
  v22 := Try.zeroValue23
  t23 := Try.underlying23
  a23 := Try.isAgg23
  z23 := Try.sizeOf23
  v23 := Try.zeroValue23
  t25 := Try.underlying3
  a25 := Try.isAgg3
  z25 := Try.sizeOf3
  v25 := Try.zeroValue3
  t32 := Try.underlying87
  a32 := Try.isAgg87
  z32 := Try.sizeOf87
  v32 := Try.zeroValue87
  t35 := Try.underlying89
  a35 := Try.isAgg89
  z35 := Try.sizeOf89
  v35 := Try.zeroValue89
  t36 := Try.underlying90
  a36 := Try.isAgg90
  z36 := Try.sizeOf90
  v36 := Try.zeroValue90
  t41 := Try.underlying94
  a41 := Try.isAgg94
  z41 := Try.sizeOf94
  v41 := Try.zeroValue94
  t44 := Try.underlying97
  a44 := Try.isAgg97
  z44 := Try.sizeOf97
  v44 := Try.zeroValue97
  t46 := Try.underlying99
  a46 := Try.isAgg99
  z46 := Try.sizeOf99
  v46 := Try.zeroValue99
  t53 := Try.underlying100
  a53 := Try.isAgg100
  z53 := Try.sizeOf100
  v53 := Try.zeroValue100
  t57 := Try.underlying104
  a57 := Try.isAgg104
  z57 := Try.sizeOf104
  v57 := Try.zeroValue104
  t63 := Try.underlying106
  a63 := Try.isAgg106
  z63 := Try.sizeOf106
  v63 := Try.zeroValue106
  t64 := Try.underlying107
  a64 := Try.isAgg107
  z64 := Try.sizeOf107
  v64 := Try.zeroValue107 }
open Go.Sort Go.RowKit in
theorem Try.slices_Sort_int (blk off cap : Nat) (zs : List Int) (w : World) (hH : Holds (Value.int .i64) w blk off zs.toArray) (hblk : blk < w.heap.size) (hsz : zs.length < 4611686018427387904) :
    Calls Try.prog 58 #[.slice (some ⟨blk, off, none⟩) zs.length cap] w fun e w' =>
      e = .returned (.tuple #[]) ∧ ∃ n os, w' = grow (putRow (Value.int .i64) (Sort.ahead w n) blk off (zs.mergeSort fun x y => decide (x ≤ y)).toArray) os := AnyM.slices_Sort_int Try.laysSlM5_f58 blk off cap zs w hH hblk hsz
open Go.RowKit Go.Sort in
/-- .. and plain. (LAID AT THE INSTANCE 'slices.Sort[[]int,int]': no walk: one application.) -/
theorem Try.slices_Sort_int_none (p : Option Addr) (cap : Nat) (w : World) :
    Calls Try.prog 58 #[.slice p 0 cap] w fun e w' => e = .returned (.tuple #[]) ∧ w' = w := AnyM.slices_Sort_int_none Try.laysSlM5_f58 p cap w
end Go.Proofs

/- slices.Sorted(slices.Values(a)) at a list of ints: what it returns; no condition but the size. -/
namespace Go.Proofs.Ytcgaojnfgkfnkaa
set_option linter.unusedSimpArgs false
open Go.ChangeShapes Go.WideShapes Go.ChangeAt Go.RowKit Go.Deep
set_option linter.unusedVariables false

/-- The list in order. -/
def srt (xs : List Int) : List Int := xs.mergeSort fun x y => decide (x ≤ y)
theorem srt_length (xs : List Int) : (srt xs).length = xs.length := List.length_mergeSort _
theorem srt_perm (xs : List Int) : (srt xs).Perm xs := List.mergeSort_perm _ _
theorem srt_sorted (xs : List Int) : (srt xs).Pairwise (· ≤ ·) := by
  have := List.pairwise_mergeSort (le := fun (x y : Int) => decide (x ≤ y)) (fun a b c h1 h2 => by simp at *; omega) (fun a b => by simp; omega) xs
  exact this.imp (fun h => by simpa using h)

theorem srt_own {W w' : World} {base g c : Nat} {zs : List Int} {n : Nat} {os : Array Obj} (ho : Own W base (some ⟨g, 0, none⟩) c zs) (hw' : w' = Go.Sort.grow (Go.Sort.putRow (Value.int .i64) (Go.Sort.ahead W n) g 0 (srt zs).toArray) os) :
    Own w' base (some ⟨g, 0, none⟩) c (srt zs) ∧ W.grownBy w' (some g) := by
  subst hw'
  rcases ho.row.2 with ⟨h1, _⟩ | ⟨g', cap, cur, h1, h2, h3, h4, h5, h6, h7⟩
  · simp at h1
  · simp only [Value.slice.injEq, Option.some.injEq, Addr.mk.injEq, and_true, true_and] at h1
    obtain ⟨rfl, rfl⟩ := h1
    refine ⟨⟨?_, fun j hj => ?_⟩, grownBy_sortedI _⟩
    · have := ownsRow_sortedI (n := n) (os := os) (srt_length zs) h2 h3 h4 h5 h6
      rw [srt_length]
      exact this
    · have hm : iget (srt zs) j ∈ zs := (srt_perm zs).mem_iff.1 (iget_mem hj)
      obtain ⟨k, hk, he⟩ := List.getElem_of_mem hm
      rw [← he, ← iget_of hk]
      exact ho.rng k hk

set_option maxHeartbeats 1000000 in
theorem collect_any (Bs : Nat) (p : Option Addr) (c : Nat) (zs : List Int) (hz : zs.length ≤ 1000000) (w : World)
    (hBs : Bs < w.heap.size) (hc : w.cell? ⟨Bs, 0, none⟩ = some (.slice p zs.length c)) (hI : Ints w p c zs) :
    Calls Try.prog 57 #[.func (.func 59) #[] #[.pointer (some ⟨Bs, 0, none⟩)]] w fun e w' => ∃ p' c', e = .returned (.slice p' zs.length c') ∧ Own w' w.heap.size p' c' zs ∧ Below w.heap.size w w' :=
  (callsIn_wide (n := 6)).1 (collect_in Fence.wide 6 trivial trivial trivial rfl (by omega) Bs p c zs hz w hBs hc hI)

theorem values_any (a : Option Addr) (len cap : Nat) (w : World) :
    Calls Try.prog 54 #[.slice a len cap] w fun e w' => e = .returned (.func (.func 59) #[] #[.pointer (some ⟨w.heap.size, 0, none⟩)]) ∧ w' = w.alloc (.cells #[.slice a len cap] 23) :=
  (callsIn_wide (n := 6)).1 (values_in Fence.wide 6 trivial rfl a len cap w)

theorem sorted_any (Bs : Nat) (p : Option Addr) (c : Nat) (zs : List Int) (hz : zs.length ≤ 1000000) (w : World)
    (hBs : Bs < w.heap.size) (hc : w.cell? ⟨Bs, 0, none⟩ = some (.slice p zs.length c)) (hI : Ints w p c zs) :
    Calls Try.prog 53 #[.func (.func 59) #[] #[.pointer (some ⟨Bs, 0, none⟩)]] w fun e w' => ∃ p' c', e = .returned (.slice p' (srt zs).length c') ∧ Own w' w.heap.size p' c' (srt zs) ∧ Below w.heap.size w w' := by
  go_enter Try.func53, Try.ntmps53
  go_wp2_with fail
  refine (collect_any Bs p c zs hz w hBs hc hI).mono ?_
  rintro e W ⟨p', c', rfl, ho, hb⟩
  rcases ho.shape with ⟨rfl, rfl, h0⟩ | ⟨g, rfl, h1, h2, h3, h4⟩
  · have hn : zs.length = 0 := by rw [h0]; rfl
    rw [hn]
    go_wp2_with fail
    refine (Try.slices_Sort_int_none none 0 W).mono ?_
    rintro e w' ⟨rfl, rfl⟩
    go_wp2_with fail
    go_ret
    refine ⟨none, 0, by rw [srt_length, hn]; rfl, ?_, hb⟩
    rw [h0, show srt [] = [] from by simp [srt]]; exact Own.ofNil _ _
  · go_wp2_with fail
    refine (Try.slices_Sort_int g 0 c' zs W ?_ h2 (by omega)).mono ?_
    · intro j hj
      have hj' : j < zs.length := by simpa using hj
      refine ⟨?_, ho.free _⟩
      rw [Nat.zero_add, ho.at hj', iget_of hj']; simp [hj']
    rintro e w' ⟨rfl, n, os, hw⟩
    obtain ⟨ho', hg⟩ := srt_own ho hw
    clear hw
    go_wp2_with fail
    go_ret
    exact ⟨_, c', by rw [srt_length]; rfl, ho', hb.grown hg hb.size (fun k e => by cases e; exact h1)⟩

end Go.Proofs.Ytcgaojnfgkfnkaa

/- A list whose sorted form is 0, 1, .. n-1 is a list that has each number below n once; no program in sight. -/
namespace Go.Proofs.Ytcgaojnfgkfnkaa
set_option linter.unusedVariables false
set_option linter.unusedSimpArgs false

/-- What assign.assignment answers. -/
def AsgP (a : List Int) (n : Nat) : Prop := (∀ j, j < (srt a).length → iget (srt a) j = j) ∧ (srt a).length = n

/-- 0, 1, .. n-1. -/
def upto (n : Nat) : List Int := (List.range n).map fun (k : Nat) => (k : Int)
theorem count_upto (n : Nat) : ∀ j : Nat, (upto n).count (j : Int) = if j < n then 1 else 0 := by
  induction n with
  | zero => intro j; simp [upto]
  | succ n ih =>
    intro j
    unfold upto at *
    rw [List.range_succ, List.map_append, List.count_append, ih j]
    simp only [List.map_cons, List.map_nil, List.count_cons, List.count_nil]
    by_cases h : j = n
    · subst h; simp
    · have : ((n : Int) == (j : Int)) = false := by rw [beq_eq_false_iff_ne]; omega
      rw [this]
      by_cases h2 : j < n
      · rw [if_pos h2, if_pos (show j < n + 1 by omega)]; simp
      · rw [if_neg h2, if_neg (show ¬ j < n + 1 by omega)]; simp

theorem sorted_upto : ∀ (n : Nat) , (upto n).Pairwise (· ≤ ·) := by
  intro n
  unfold upto
  rw [List.pairwise_map]
  exact List.pairwise_lt_range.imp (fun h => by omega)

theorem asgP_iff (a : List Int) (n : Nat) : AsgP a n ↔ IsA a n := by
  constructor
  · rintro ⟨h1, h2⟩
    rw [srt_length] at h2
    refine ⟨h2, fun j hj => ?_⟩
    have he : srt a = upto n := by
      apply List.ext_getElem
      · rw [srt_length, h2]; simp [upto]
      · intro i h3 h4
        rw [← iget_of h3, h1 i h3]; simp [upto]
    rw [← (srt_perm a).count_eq, he, count_upto, if_pos hj]
  · intro h
    have hp : (upto n).Perm a := by
      rw [List.perm_iff_count]
      intro x
      by_cases hx : 0 ≤ x ∧ x < n
      · obtain ⟨k, rfl⟩ : ∃ k : Nat, x = k := ⟨x.toNat, by omega⟩
        have hk : k < n := by omega
        rw [count_upto, if_pos hk, h.2 k hk]
      · rw [List.count_eq_zero.2 (fun hm => ?_), List.count_eq_zero.2 (fun hm => ?_)]
        · obtain ⟨i, hi, rfl⟩ := List.getElem_of_mem hm
          have := isA_lt h i (by rw [← h.1]; exact hi)
          unfold itm at this
          rw [iget_of hi] at this
          omega
        · unfold upto at hm
          obtain ⟨k, hk, rfl⟩ := List.mem_map.1 hm
          rw [List.mem_range] at hk
          omega
    have he : srt a = upto n :=
      List.Perm.eq_of_pairwise (le := (· ≤ ·)) (fun x y _ _ h1 h2 => Int.le_antisymm h1 h2) (srt_sorted a) (sorted_upto n) ((srt_perm a).trans hp.symm)
    refine ⟨fun j hj => ?_, by rw [srt_length, h.1]⟩
    rw [iget_of hj]
    simp [he, upto]

end Go.Proofs.Ytcgaojnfgkfnkaa
