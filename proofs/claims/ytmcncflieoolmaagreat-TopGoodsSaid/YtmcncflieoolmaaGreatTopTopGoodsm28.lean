/- The walk of close: a list that is closed, or none can be closed.  (Printed by wip/gengrb.py.) -/
import Derived.Test.YtmcncflieoolmaaGreatTopTopGoodsm27
import Derived.Test.YtmcncflieoolmaaGreatTopTopGoodsm12
import Derived.Test.YtmcncflieoolmaaGreatTopTopGoodsm11
import Derived.Test.YtmcncflieoolmaaGreatTopTopGoodsm21
import Derived.Deep.MidRow
import Derived.Deep.RegionLaw
import Derived.Deep.DeepAppendRoom
import Derived.Deep.RegionHeld3
import Derived.BigQuiet
import Derived.Deep.DeepCutAuto
/- The walk of close: a list that is closed, or none can be closed.  (Printed by wip/gengrb.py.) -/
namespace Go.Proofs.YtmcncflieoolmaaGreat
set_option linter.unusedVariables false
set_option linter.unusedSimpArgs false
open Go.ChangeShapes Go.WideShapes Go.ChangeAt Go.RowKit Go.Deep

theorem nilG_no (W : World) : (binOp BinOp.neq 25 (.slice none 0 0) (.slice none 0 0)).run Tryz.prog W = .ok (.bool false) W := by kernel_rfl
theorem nilG_yes (g o l c : Nat) (W : World) : (binOp BinOp.neq 25 (.slice (some ⟨g, o, none⟩) l c) (.slice none 0 0)).run Tryz.prog W = .ok (.bool true) W := by kernel_rfl
attribute [local go_sem] nilG_no nilG_yes
theorem Arr.range {w : World} {S : Nat} {vs : List Value} {t : TypeId} (h : Arr w S vs t) : w.rangeAt S 0 vs := fun j v hj => by
  rw [Nat.zero_add]; exact h.cell hj
/-- The last one of a list. -/
def lastN (l : List Int) : Nat := (iget l (l.length - 1)).toNat
/-- l, made longer by so many greater ones, leads back to its first one; r is the longer list. -/
def CloseP (E : Nat → Bool) : Nat → List Int → List Int → Prop
  | 0, l, r => r = l ∧ E (lastN l * 6 + (iget l 0).toNat) = true
  | m + 1, l, r => ∃ k : Nat, (iget l 0).toNat < k ∧ k < 6 ∧ E (lastN l * 6 + k) = true ∧ hasB l (k : Int) = false ∧ CloseP E m (l ++ [(k : Int)]) r
/-- What close gives. -/
def CloseG (E : Nat → Bool) (m : Nat) (l : List Int) (n0 : Nat) (w : World) (u : Value) (w' : World) : Prop :=
  Below n0 w w' ∧ ((u = .slice none 0 0 ∧ ∀ r, ¬ CloseP E m l r) ∨ ∃ g o c r, u = .slice (some ⟨g, o, none⟩) (r : List Int).length c ∧ Ints w' (some ⟨g, o, none⟩) c r ∧ CloseP E m l r)

/-- The state of the region that calls itself with one more agent. -/
structure CloJ (w0 : World) (l : List Int) (k : Int) (val : Nat → Value) (Post : Value → World → Prop) (us : Nat → Value) (D : Nat → Prop) (W : World) : Prop where
  val : ∀ i, i ≠ 2 → i ≠ 4 → i ≠ 5 → i ≠ 8 → i ≠ 9 → D i → us i = val i
  bel : ¬ D 8 → Below w0.heap.size w0 W
  cl : D 2 → ¬ D 5 → ∃ p c, us 2 = .slice p l.length c ∧ Own W w0.heap.size p c l
  lit : D 4 → ¬ D 5 → ∃ b, us 4 = .slice (some ⟨b, 0, none⟩) 1 1 ∧ W.cell? ⟨b, 0, none⟩ = some (.int .i64 k)
  row : D 5 → ∃ p c, us 5 = .slice p (l.length + 1) c ∧ (¬ D 8 → Own W w0.heap.size p c (l ++ [k]))
  o52 : D 5 → D 2
  o54 : D 5 → D 4
  o8 : D 8 → D 5
  o80 : D 8 → D 0
  o9 : D 9 → D 8
  fin : D 8 → Post (us 8) W ∧ (D 9 → us 9 = us 8)
section
variable {w0 : World} {l : List Int} {k : Int} {val : Nat → Value} {Post : Value → World → Prop} {us : Nat → Value} {D : Nat → Prop} {W W' : World}
theorem CloJ.start (us : Nat → Value) : CloJ w0 l k val Post us (fun _ => False) w0.drew :=
  ⟨fun _ _ _ _ _ _ h => h.elim, fun _ => below_drewN _ _ 1, fun h => h.elim, fun h => h.elim, fun h => h.elim, fun h => h.elim, fun h => h.elim, fun h => h.elim, fun h => h.elim, fun h => h.elim, fun h => h.elim⟩
theorem CloJ.pure (h : CloJ w0 l k val Post us D W) {i : Nat} (h2 : i ≠ 2) (h4 : i ≠ 4) (h5 : i ≠ 5) (h8 : i ≠ 8) (h9 : i ≠ 9) : CloJ w0 l k val Post (upd us i (val i)) (fun k => k = i ∨ D k) W := by
  refine ⟨fun j j2 j4 j5 j8 j9 hd => ?_, fun hd => h.bel fun x => hd (.inr x), fun hd hd2 => ?_, fun hd hd2 => ?_, fun hd => ?_, fun hd => .inr (h.o52 (orNe hd (Ne.symm h5))), fun hd => .inr (h.o54 (orNe hd (Ne.symm h5))), fun hd => .inr (h.o8 (orNe hd (Ne.symm h8))), fun hd => .inr (h.o80 (orNe hd (Ne.symm h8))), fun hd => .inr (h.o9 (orNe hd (Ne.symm h9))), fun hd => ?_⟩
  · by_cases e : j = i
    · subst e; rw [upd_same]
    · rw [upd_ne e]; exact h.val j j2 j4 j5 j8 j9 (orNe hd e)
  · rw [upd_ne (Ne.symm h2)]; exact h.cl (orNe hd (Ne.symm h2)) fun x => hd2 (.inr x)
  · rw [upd_ne (Ne.symm h4)]; exact h.lit (orNe hd (Ne.symm h4)) fun x => hd2 (.inr x)
  · rw [upd_ne (Ne.symm h5)]
    obtain ⟨p, c, a, b⟩ := h.row (orNe hd (Ne.symm h5))
    exact ⟨p, c, a, fun x => b fun y => x (.inr y)⟩
  · rw [upd_ne (Ne.symm h8), upd_ne (Ne.symm h9)]
    obtain ⟨a, b⟩ := h.fin (orNe hd (Ne.symm h8))
    exact ⟨a, fun x => b (orNe x (Ne.symm h9))⟩
theorem CloJ.clone (h : CloJ w0 l k val Post us D W) (hn : ¬ D 2) {p : Option Addr} {c : Nat} (hb : Below W.heap.size W W') (hO : Own W' W.heap.size p c l) : CloJ w0 l k val Post (upd us 2 (.slice p l.length c)) (fun k => k = 2 ∨ D k) W' := by
  have n5 : ¬ D 5 := fun x => hn (h.o52 x)
  have n8 : ¬ D 8 := fun x => n5 (h.o8 x)
  have n9 : ¬ D 9 := fun x => n8 (h.o9 x)
  have hB := h.bel n8
  refine ⟨fun j j2 j4 j5 j8 j9 hd => by rw [upd_ne j2]; exact h.val j j2 j4 j5 j8 j9 (orNe hd j2), fun _ => hB.trans (hb.mono hB.size), fun _ _ => ⟨p, c, upd_same _ _ _, hO.lower hB.size⟩, fun hd _ => ?_, fun hd => (n5 (orNe hd (by decide))).elim, fun hd => (n5 (orNe hd (by decide))).elim, fun hd => (n5 (orNe hd (by decide))).elim, fun hd => (n8 (orNe hd (by decide))).elim, fun hd => (n8 (orNe hd (by decide))).elim, fun hd => (n9 (orNe hd (by decide))).elim, fun hd => (n8 (orNe hd (by decide))).elim⟩
  rw [upd_ne (by decide)]
  obtain ⟨b, e1, e2⟩ := h.lit (orNe hd (by decide)) n5
  exact ⟨b, e1, (World.cell?_of_block (w := W) (a := ⟨b, 0, none⟩) (hb.block b (World.block_lt_of_cell? _ _ e2))).trans e2⟩
theorem CloJ.build (h : CloJ w0 l k val Post us D W) (hn : ¬ D 4) (T : TypeId) : CloJ w0 l k val Post (upd us 4 (.slice (some ⟨W.heap.size, 0, none⟩) 1 1)) (fun k => k = 4 ∨ D k) (W.alloc (.cells #[.int .i64 k] T)) := by
  have n5 : ¬ D 5 := fun x => hn (h.o54 x)
  have n8 : ¬ D 8 := fun x => n5 (h.o8 x)
  have n9 : ¬ D 9 := fun x => n8 (h.o9 x)
  have hB := h.bel n8
  refine ⟨fun j j2 j4 j5 j8 j9 hd => by rw [upd_ne j4]; exact h.val j j2 j4 j5 j8 j9 (orNe hd j4), fun _ => hB.alloc hB.size _, fun hd _ => ?_, fun _ _ => ⟨_, upd_same _ _ _, World.cell?_alloc_at _ _ _ _ rfl⟩, fun hd => (n5 (orNe hd (by decide))).elim, fun hd => (n5 (orNe hd (by decide))).elim, fun hd => (n5 (orNe hd (by decide))).elim, fun hd => (n8 (orNe hd (by decide))).elim, fun hd => (n8 (orNe hd (by decide))).elim, fun hd => (n9 (orNe hd (by decide))).elim, fun hd => (n8 (orNe hd (by decide))).elim⟩
  rw [upd_ne (by decide)]
  obtain ⟨p, c, e1, e2⟩ := h.cl (orNe hd (by decide)) n5
  exact ⟨p, c, e1, e2.alloc _⟩
theorem CloJ.append (h : CloJ w0 l k val Post us D W) (hn : ¬ D 5) (h2 : D 2) (h4 : D 4) {p : Option Addr} {c : Nat} (hB : Below w0.heap.size w0 W') (hO : Own W' w0.heap.size p c (l ++ [k])) : CloJ w0 l k val Post (upd us 5 (.slice p (l.length + 1) c)) (fun k => k = 5 ∨ D k) W' := by
  have n8 : ¬ D 8 := fun x => hn (h.o8 x)
  have n9 : ¬ D 9 := fun x => n8 (h.o9 x)
  refine ⟨fun j j2 j4 j5 j8 j9 hd => by rw [upd_ne j5]; exact h.val j j2 j4 j5 j8 j9 (orNe hd j5), fun _ => hB, fun _ x => (x (.inl rfl)).elim, fun _ x => (x (.inl rfl)).elim, fun _ => ⟨p, c, upd_same _ _ _, fun _ => hO⟩, fun _ => .inr h2, fun _ => .inr h4, fun hd => (n8 (orNe hd (by decide))).elim, fun hd => (n8 (orNe hd (by decide))).elim, fun hd => (n9 (orNe hd (by decide))).elim, fun hd => (n8 (orNe hd (by decide))).elim⟩
theorem CloJ.call (h : CloJ w0 l k val Post us D W) (hn : ¬ D 8) (h5 : D 5) (h0 : D 0) {u : Value} (hP : Post u W') : CloJ w0 l k val Post (upd us 8 u) (fun k => k = 8 ∨ D k) W' := by
  have n9 : ¬ D 9 := fun x => hn (h.o9 x)
  obtain ⟨p, c, e, _⟩ := h.row h5
  refine ⟨fun j j2 j4 j5 j8 j9 hd => by rw [upd_ne j8]; exact h.val j j2 j4 j5 j8 j9 (orNe hd j8), fun hd => (hd (.inl rfl)).elim, fun _ x => (x (.inr h5)).elim, fun _ x => (x (.inr h5)).elim, fun _ => ⟨p, c, by rw [upd_ne (by decide)]; exact e, fun hd => (hd (.inl rfl)).elim⟩, fun _ => .inr (h.o52 h5), fun _ => .inr (h.o54 h5), fun _ => .inr h5, fun _ => .inr h0, fun _ => .inl rfl, fun _ => ⟨by rw [upd_same]; exact hP, fun hd => (n9 (orNe hd (by decide))).elim⟩⟩
theorem CloJ.last (h : CloJ w0 l k val Post us D W) (h8 : D 8) : CloJ w0 l k val Post (upd us 9 (us 8)) (fun k => k = 9 ∨ D k) W := by
  have h5 := h.o8 h8
  obtain ⟨p, c, e, _⟩ := h.row h5
  refine ⟨fun j j2 j4 j5 j8 j9 hd => by rw [upd_ne j9]; exact h.val j j2 j4 j5 j8 j9 (orNe hd j9), fun hd => (hd (.inr h8)).elim, fun _ x => (x (.inr h5)).elim, fun _ x => (x (.inr h5)).elim, fun _ => ⟨p, c, by rw [upd_ne (by decide)]; exact e, fun hd => (hd (.inr h8)).elim⟩, fun _ => .inr (h.o52 h5), fun _ => .inr (h.o54 h5), fun _ => .inr h5, fun _ => .inr (h.o80 h8), fun _ => .inr h8, fun _ => ⟨by rw [upd_ne (by decide)]; exact (h.fin h8).1, fun _ => by rw [upd_same, upd_ne (by decide)]⟩⟩
end
theorem rc10 {i : Nat} (h : i < 10) : i = 0 ∨ i = 1 ∨ i = 2 ∨ i = 3 ∨ i = 4 ∨ i = 5 ∨ i = 6 ∨ i = 7 ∨ i = 8 ∨ i = 9 := by omega

set_option maxHeartbeats 8000000 in
set_option maxRecDepth 100000 in
theorem close_any (E : Nat → Bool) : ∀ (m : Nat) (p : Option Addr) (c : Nat) (l : List Int) (w : World), 0 < l.length → l.length + m ≤ 100 → (∀ j, j < l.length → 0 ≤ iget l j ∧ iget l j < 6) → Ints w p c l →
    Calls Tryz.prog 68 #[.agg (grL E).toArray, .slice p l.length c, .int .i64 (m : Int)] w fun e w' => ∃ u, e = .returned u ∧ CloseG E m l w.heap.size w u w'
  | m, p, c, l, w, h0, hlm, hl, hI => by
    have IH := fun (k : Nat) (hk : k < 6) (m' : Nat) (hm : m = m' + 1) p' c' W (h : Ints W p' c' (l ++ [(k : Int)])) => (close_any E m' p' c' (l ++ [(k : Int)]) W (by rw [List.length_append]; omega) (by rw [List.length_append, List.length_singleton]; omega) (fun j hj => by
      rw [List.length_append, List.length_singleton] at hj
      rw [iget_append]
      split
      · rename_i h; exact hl j h
      · have : j - l.length = 0 := by omega
        rw [this]; simp [iget]; omega) h)
    obtain ⟨W0, hW0⟩ : ∃ W0, w.alloc (.cells (grL E).toArray 66) = W0 := ⟨_, rfl⟩
    have hB : Below w.heap.size w W0 := below_alloc hW0
    have hA : Arr W0 w.heap.size (grL E) 66 := Arr.new rfl hW0
    have HW0 := Lib.hid hW0
    have HIH := Lib.hid IH
    obtain ⟨s, hs⟩ : ∃ s, l.length = s + 1 := ⟨l.length - 1, by omega⟩
    have hwl : IntKind.i64.wrap ((l.length : Int) - 1) = (s : Int) := by rw [IntWalk.i64_in _ (by omega)]; omega
    have hs1 : decide (s < l.length) = true := by rw [decide_eq_true_iff]; omega
    have hs2 : decide ((s : Int) < l.length) = true := by rw [decide_eq_true_iff]; omega
    have hs3 : decide ((0 : Int) ≤ s) = true := by rw [decide_eq_true_iff]; omega
    have hs4 : (s : Int) < l.length := by omega
    have hl3 : (0 : Int) < l.length := by omega
    have hl1 : decide (0 < l.length) = true := by rw [decide_eq_true_iff]; omega
    have hl2 : decide ((0 : Int) < l.length) = true := by rw [decide_eq_true_iff]; omega
    obtain ⟨x, hx⟩ : ∃ x : Nat, iget l s = x := ⟨(iget l s).toNat, by have := hl s (by omega); omega⟩
    obtain ⟨y, hy⟩ : ∃ y : Nat, iget l 0 = y := ⟨(iget l 0).toNat, by have := hl 0 (by omega); omega⟩
    have hx6 : x < 6 := by have := hl s (by omega); omega
    have hy6 : y < 6 := by have := hl 0 (by omega); omega
    have hlast : lastN l = x := by unfold lastN; rw [show l.length - 1 = s by omega, hx]; omega
    have hIB := hI.below hB (Nat.le_refl _)
    obtain ⟨b3, o3, rfl, hb3, hc⟩ := hIB.get (j := s) (by omega)
    obtain ⟨_, _, e, _, hc0⟩ := hIB.get (j := 0) h0
    cases e
    rw [hx] at hc
    rw [hy] at hc0
    rw [Nat.add_zero] at hc0
    have hx1 : decide (x < 6) = true := by rw [decide_eq_true_iff]; omega
    have hx2 : decide ((x : Int) < 6) = true := by rw [decide_eq_true_iff]; omega
    have hx3 : decide ((0 : Int) ≤ x) = true := by rw [decide_eq_true_iff]; omega
    have hy1 : decide (y < 6) = true := by rw [decide_eq_true_iff]; omega
    have hy2 : decide ((y : Int) < 6) = true := by rw [decide_eq_true_iff]; omega
    have hy3 : decide ((0 : Int) ≤ y) = true := by rw [decide_eq_true_iff]; omega
    have Hlast := Lib.hid hlast
    have Hy := Lib.hid (show (iget l 0).toNat = y by omega)
    have HI := Lib.hid hI
    have HIB := Lib.hid hIB
    have Hr := Lib.hid hl
    have Hs := Lib.hid hs
    clear hW0 IH hlast hI hl hs hx hy hIB
    cases Nat.eq_zero_or_pos m with
    | inl hm0 =>
      subst hm0
      have hcE := hA.cell (grL_get E (j := x * 6 + y) (by omega))
      obtain ⟨b, hb⟩ : ∃ b, E (x * 6 + y) = b := ⟨_, rfl⟩
      rw [hb] at hcE
      go_enter Tryz.func68, Tryz.ntmps68
      go_upto_region 1 with (fail)
      rw [HW0.out]
      go_wp2_with fail
      go_quiet (fail)
      cases b with
      | true =>
        go_wp2_with fail
        go_ret
        exact ⟨_, rfl, hB.drewN' _, .inr ⟨_, _, _, l, rfl, HIB.out.drewN _, rfl, by rw [Hlast.out, Hy.out]; exact hb⟩⟩
      | false =>
        go_wp2_with fail
        go_ret
        exact ⟨_, rfl, hB.drewN' _, .inl ⟨rfl, fun r h => by have := h.2; rw [Hlast.out, Hy.out, hb] at this; cases this⟩⟩
    | inr hm0 =>
      obtain ⟨m', hm'⟩ : ∃ m', m = m' + 1 := ⟨m - 1, by omega⟩
      have Hm := Lib.hid hm'
      have hm00 : ((m : Int) == 0) = false := by rw [beq_eq_false_iff_ne]; omega
      clear hm' hm0
      have hwy : IntKind.i64.wrap ((y : Int) + 1) = (y : Int) + 1 := IntWalk.i64_in _ (by omega)
      go_enter Tryz.func68, Tryz.ntmps68
      go_upto_region 1 with (fail)
      rw [HW0.out]
      go_wp2_with fail
      go_loopw [8] (fun t wr => ∃ k : Nat, k ≤ 6 ∧ y < k ∧ t = .int .i64 (k : Int) ∧ Below w.heap.size w wr ∧ Below W0.heap.size W0 wr ∧ Hid (∀ k', y < k' → k' < k → E (x * 6 + k') = true → hasB l (k' : Int) = false → ∀ r, ¬ CloseP E m' (l ++ [(k' : Int)]) r)) (fun t _ => 6 - (intOf t).toNat)
      case atStart => exact ⟨y + 1, by omega, by omega, by go_num, hB, Below.refl _ _, fun k' h1 h2 => absurd h1 (by omega)⟩
      case round =>
        obtain ⟨k, hk, hyk, rfl, hBr, hB0, hN⟩ := hrel
        by_cases hlk : k < 6
        · have hk1 : (k : Int) < 6 := by omega
          have hk3 : decide ((0 : Int) ≤ k) = true := by rw [decide_eq_true_iff]; omega
          have hk4 : decide (k < 6) = true := by rw [decide_eq_true_iff]; omega
          have hk5 : decide ((k : Int) < 6) = true := by rw [decide_eq_true_iff]; omega
          have hAr := hA.below hB0 hA.lt
          have hcE := hAr.cell (grL_get E (j := x * 6 + k) (by omega))
          have hIr := HIB.out.below hB0 (Nat.le_refl _)
          have HC := Lib.hid (contains_any (some ⟨b3, o3, none⟩) c l (k : Int) wr hIr)
          have HNo := Lib.hid (fun (h : ∀ r, E (x * 6 + k) = true → hasB l (k : Int) = false → ¬ CloseP E m' (l ++ [(k : Int)]) r) (k' : Nat) (h1 : y < k') (h2 : k' < k + 1) => (show E (x * 6 + k') = true → hasB l (k' : Int) = false → ∀ r, ¬ CloseP E m' (l ++ [(k' : Int)]) r from fun h3 h4 r => by
            by_cases e : k' = k
            · subst e; exact h r h3 h4
            · exact hN.out k' h1 (by omega) h3 h4 r))
          cases hb : E (x * 6 + k) with
          | false =>
            rw [hb] at hcE
            clear HC
            go_wp2_with fail
            go_roundw
            case rel => exact ⟨k + 1, by omega, by omega, by go_num, hBr, hB0, HNo.out fun r h => by rw [hb] at h; cases h⟩
            case measure => (simp [intOf] <;> omega)
          | true =>
            rw [hb] at hcE
            obtain ⟨hh, hhb⟩ : ∃ b, hasB l (k : Int) = b := ⟨_, rfl⟩
            rw [hhb] at HC
            have HHb := Lib.hid hhb
            clear hhb
            go_wp2_with fail
            refine HC.out.mono ?_
            rintro e w' ⟨rfl, hw⟩
            replace hw := hw.symm
            subst hw
            cases hh with
            | true =>
              go_wp2_with fail
              go_roundw
              case rel => exact ⟨k + 1, by omega, by omega, by go_num, hBr, hB0, HNo.out fun r _ h => by rw [HHb.out] at h; cases h⟩
              case measure => (simp [intOf] <;> omega)
            | false =>
            have hGE : Hid (∀ W, Below wr.heap.size wr W → W.rangeAt w.heap.size 0 (grL E)) := fun W h => (hAr.below h hAr.lt).range
            have hIE : Hid (∀ W, Below wr.heap.size wr W → Ints W (some ⟨b3, o3, none⟩) c l) := fun W h => hIr.below h (Nat.le_refl _)
            have Hrk := Lib.hid (show in64 ((k : Nat) : Int) from ⟨by omega, by omega⟩)
            have hIHk := HIH.out k hlk m' Hm.out
            rw [List.length_append, List.length_singleton] at hIHk
            have HIHk := Lib.hid hIHk
            have hll : l.length ≤ 900000 := by omega
            obtain ⟨i0, hi0, hz0, hz1, hz2⟩ := info_parts infoInt
            have hws : IntKind.i64.wrap ((m : Int) - 1) = (m' : Int) := by have := Hm.out; rw [IntWalk.i64_in _ (by omega)]; omega
            clear hIHk hcE HC
            go_wp2_with fail
            refine wp_region_inv (by kernel_rfl) (by decide +kernel) (by decide +kernel) _ _ (CloJ wr l (k : Int) (fun kk => match kk with | 0 => (.agg (grL E).toArray) | 1 => (.slice (some ⟨b3, o3, none⟩) l.length c) | 3 => (.int .i64 (k : Int)) | 6 => (.int .i64 (m : Int)) | 7 => (.int .i64 (m' : Int)) | _ => undef) (CloseG E m' (l ++ [(k : Int)]) wr.heap.size wr)) ?_ ?_ ?_
            · exact fun us => CloJ.start us
            · intro us D W i o A hA hi hJ hnD hon K hK
              have hlt : i < 10 := (Array.getElem?_eq_some_iff.1 hi).1
              rcases rc10 hlt with rfl | rfl | rfl | rfl | rfl | rfl | rfl | rfl | rfl | rfl
              · have hi' := Option.some.inj hi
                subst hi'
                have e3 : A.tmps[3]?.getD undef = (.pointer (some ⟨w.heap.size, 0, none⟩)) := by rw [hA]; simp [actL, slotL, putL]
                have n8 : ¬ D 8 := fun hd => hnD (hJ.o80 hd)
                exact wp_load_mid 66 (.tmp 3) rfl w.heap.size 0 ((evalTmp A 3).trans e3) (grL E) _ (hGE.out W (hJ.bel n8)) Tryz.underlying66 rfl (by rw [grL_len]; kernel_rfl) (hK _ _ (hJ.pure (i := 0) (by decide) (by decide) (by decide) (by decide) (by decide)))
              · have hi' := Option.some.inj hi
                subst hi'
                refine wp_val (v := (.slice (some ⟨b3, o3, none⟩) l.length c)) (w' := W) ?_ (hK _ _ (hJ.pure (i := 1) (by decide) (by decide) (by decide) (by decide) (by decide)))
                · skip
                  have e1 : A.tmps[1]?.getD undef = (.slice (some ⟨b3, o3, none⟩) l.length c) := by rw [hA]; simp [actL, slotL, putL]
                  clear hA hK hon hJ
                  go_simp
              · have hi' := Option.some.inj hi
                subst hi'
                have n5 : ¬ D 5 := fun hd => hnD (hJ.o52 hd)
                have n8 : ¬ D 8 := fun hd => n5 (hJ.o8 hd)
                have e46 : A.tmps[46]?.getD undef = (.slice (some ⟨b3, o3, none⟩) l.length c) := (by rw [hA]; simp [actL, slotL, putL] : A.tmps[46]?.getD undef = us 1).trans (hJ.val 1 (by decide) (by decide) (by decide) (by decide) (by decide) (hon 1 (by decide +kernel)))
                refine wp_enter (f := 36) (args := #[(.slice (some ⟨b3, o3, none⟩) l.length c)]) (w' := W) ?_ ((clone_any (some ⟨b3, o3, none⟩) c l W (hIE.out W (hJ.bel n8)) hll).mono ?_)
                · skip
                  clear hA hK hon hJ
                  go_simp
                · rintro e w2 ⟨p', c', rfl, hO', hb'⟩
                  exact ⟨_, rfl, hK _ _ (hJ.clone hnD hb' hO')⟩
              · have hi' := Option.some.inj hi
                subst hi'
                refine wp_val (v := (.int .i64 (k : Int))) (w' := W) ?_ (hK _ _ (hJ.pure (i := 3) (by decide) (by decide) (by decide) (by decide) (by decide)))
                · skip
                  have e8 : A.tmps[8]?.getD undef = (.int .i64 (k : Int)) := by rw [hA]; simp [actL, slotL, putL]
                  clear hA hK hon hJ
                  go_simp
              · have hi' := Option.some.inj hi
                subst hi'
                refine wp_val (v := .slice (some ⟨W.heap.size, 0, none⟩) 1 1) (w' := W.alloc (.cells #[.int .i64 (k : Int)] 3)) ?_ (hK _ _ (hJ.build hnD _))
                · skip
                  have e48 : A.tmps[48]?.getD undef = (.int .i64 (k : Int)) := (by rw [hA]; simp [actL, slotL, putL] : A.tmps[48]?.getD undef = us 3).trans (hJ.val 3 (by decide) (by decide) (by decide) (by decide) (by decide) (hon 3 (by decide +kernel)))
                  clear hA hK hon hJ
                  go_simp
              · have hi' := Option.some.inj hi
                subst hi'
                have n8 : ¬ D 8 := fun hd => hnD (hJ.o8 hd)
                have h2 := hon 2 (by decide +kernel)
                have h4 := hon 4 (by decide +kernel)
                obtain ⟨b', hb', hc'⟩ := hJ.lit h4 hnD
                obtain ⟨q, d, hq, hO⟩ := hJ.cl h2 hnD
                have e47 : A.tmps[47]?.getD undef = .slice q l.length d := (by rw [hA]; simp [actL, slotL, putL] : A.tmps[47]?.getD undef = us 2).trans hq
                have e49 : A.tmps[49]?.getD undef = .slice (some ⟨b', 0, none⟩) 1 1 := (by rw [hA]; simp [actL, slotL, putL] : A.tmps[49]?.getD undef = us 4).trans hb'
                have hP := hJ.bel n8
                refine wp_append_lies _ (.tmp 47) (.tmp 49) 25 (by rfl) wr.heap.size 3 i0 (.int .i64 0) 1 8 Tryz.underlying25 hi0 hz0 hz1 hz2 rfl (by decide) (.slice q l.length d) l.length (l.map (Value.int .i64)) ((evalTmp A 47).trans e47) hO.row ⟨b', 0, none⟩ 1 1 [.int .i64 (k : Int)] ((evalTmp A 49).trans e49) rfl (newsOne hc') (by simp [Value.oneCell']) (by decide) (by simp [maxLen]; omega) (by omega) hP.size _ rfl ?_
                intro g cap w4 hO4 hg4 hg5 hg6
                refine hK _ _ (hJ.append hnD h2 h4 (hP.grown hg4 hP.size (fun k' e => ?_)) (own_snocR hO4 hO.rng Hrk.out))
                rw [ownBlock_slice] at e
                exact (hO.lt k' e).1
              · have hi' := Option.some.inj hi
                subst hi'
                refine wp_val (v := (.int .i64 (m : Int))) (w' := W) ?_ (hK _ _ (hJ.pure (i := 6) (by decide) (by decide) (by decide) (by decide) (by decide)))
                · skip
                  have e2 : A.tmps[2]?.getD undef = (.int .i64 (m : Int)) := by rw [hA]; simp [actL, slotL, putL]
                  clear hA hK hon hJ
                  go_simp
              · have hi' := Option.some.inj hi
                subst hi'
                refine wp_val (v := (.int .i64 (m' : Int))) (w' := W) ?_ (hK _ _ (hJ.pure (i := 7) (by decide) (by decide) (by decide) (by decide) (by decide)))
                · skip
                  have e51 : A.tmps[51]?.getD undef = (.int .i64 (m : Int)) := (by rw [hA]; simp [actL, slotL, putL] : A.tmps[51]?.getD undef = us 6).trans (hJ.val 6 (by decide) (by decide) (by decide) (by decide) (by decide) (hon 6 (by decide +kernel)))
                  clear hA hK hon hJ
                  go_simp
              · have hi' := Option.some.inj hi
                subst hi'
                have h5 := hon 5 (by decide +kernel)
                have h0 := hon 0 (by decide +kernel)
                obtain ⟨q, d, r1, r2⟩ := hJ.row h5
                have e45 : A.tmps[45]?.getD undef = (.agg (grL E).toArray) := (by rw [hA]; simp [actL, slotL, putL] : A.tmps[45]?.getD undef = us 0).trans (hJ.val 0 (by decide) (by decide) (by decide) (by decide) (by decide) h0)
                have e50 : A.tmps[50]?.getD undef = .slice q (l.length + 1) d := (by rw [hA]; simp [actL, slotL, putL] : A.tmps[50]?.getD undef = us 5).trans r1
                have e52 : A.tmps[52]?.getD undef = (.int .i64 (m' : Int)) := (by rw [hA]; simp [actL, slotL, putL] : A.tmps[52]?.getD undef = us 7).trans (hJ.val 7 (by decide) (by decide) (by decide) (by decide) (by decide) (hon 7 (by decide +kernel)))
                have hP := hJ.bel hnD
                refine wp_enter (f := 68) (args := #[.agg (grL E).toArray, .slice q (l.length + 1) d, .int .i64 (m' : Int)]) (w' := W) ?_ ((HIHk.out q d W (r2 hnD).ints).mono ?_)
                · skip
                  clear hA hK hon hJ r1 r2
                  go_simp
                · rintro e w2 ⟨u, rfl, hE1, hE2⟩
                  exact ⟨_, rfl, hK _ _ (hJ.call hnD h5 h0 ⟨hP.trans (hE1.mono hP.size), hE2⟩)⟩
              · have hi' := Option.some.inj hi
                subst hi'
                have h8 := hon 8 (by decide +kernel)
                refine wp_val (v := us 8) (w' := W) ?_ (hK _ _ (hJ.last h8))
                · skip
                  obtain ⟨u8, hu8⟩ : ∃ u, us 8 = u := ⟨_, rfl⟩
                  have e53 : A.tmps[53]?.getD undef = u8 := (by rw [hA]; simp [actL, slotL, putL] : A.tmps[53]?.getD undef = us 8).trans hu8
                  rw [hu8]
                  clear hA hK hon hJ
                  go_simp
            · intro us D W hJ hall
              obtain ⟨⟨hbW, hu⟩, e9⟩ := hJ.fin (hall 8 (by decide))
              have hu9 := e9 (hall 9 (by decide))
              have hBW := hBr.trans (hbW.mono hBr.size)
              have hB0W := hB0.trans (hbW.mono hB0.size)
              rcases hu with ⟨hu, hno⟩ | ⟨g, o, c', r, hu, hIr', hr⟩
              · rw [hu] at hu9
                have HNo2 := HNo.out fun r _ _ => hno r
                have HNo2 := Lib.hid HNo2
                clear hJ hall hno HNo HIH HIHk hGE hIE e9
                simp only [actL, slotL, putL, List.setIfInBounds_toArray, List.set_cons_zero, List.set_cons_succ, Nat.zero_add, Nat.reduceAdd, hu9, hu]
                go_wp2_with fail
                go_roundw
                case rel => exact ⟨k + 1, by omega, by omega, by go_num, hBW, hB0W, HNo2.out⟩
                case measure => (simp [intOf] <;> omega)
              · rw [hu] at hu9
                have HR := Lib.hid (show CloseG E m l w.heap.size w (.slice (some ⟨g, o, none⟩) r.length c') W from ⟨hBW, by rw [Hm.out]; exact .inr ⟨g, o, c', r, rfl, hIr', k, by rw [Hy.out]; exact hyk, hlk, by rw [Hlast.out]; exact hb, HHb.out, hr⟩⟩)
                clear hJ hall HNo HIH HIHk hGE hIE e9 hr hIr'
                simp only [actL, slotL, putL, List.setIfInBounds_toArray, List.set_cons_zero, List.set_cons_succ, Nat.zero_add, Nat.reduceAdd, hu9, hu]
                go_wp2_with fail
                go_ret
                exact ⟨_, rfl, HR.out⟩
        · have hk1 : ¬ (k : Int) < 6 := by omega
          go_wp2_with fail
          go_ret
          refine ⟨_, rfl, hBr, .inl ⟨rfl, fun r hr => ?_⟩⟩
          rw [Hm.out] at hr
          obtain ⟨k', h1, h2, h3, h4, h5⟩ := hr
          rw [Hy.out] at h1
          rw [Hlast.out] at h3
          exact hN.out k' h1 (by omega) h3 h4 r h5
end Go.Proofs.YtmcncflieoolmaaGreat

/- The walk of circle: a closed list, or none can be closed. -/
namespace Go.Proofs.YtmcncflieoolmaaGreat
set_option linter.unusedVariables false
set_option linter.unusedSimpArgs false
open Go.ChangeShapes Go.WideShapes Go.ChangeAt Go.RowKit Go.Deep
attribute [local go_sem] nilG_no nilG_yes

theorem ints_lit1 (w : World) (x : Int) (hx : in64 x) (T : TypeId) : Ints (w.alloc (.cells #[.int .i64 x] T)) (some ⟨w.heap.size, 0, none⟩) 1 [x] := by
  refine ⟨by simp, by decide, fun h => (by cases h), ?_, ?_, fun j hj => ?_⟩
  · rintro a ⟨⟩ _; exact ⟨rfl, by simp⟩
  · rintro b o ⟨⟩ j hj
    have : j = 0 := by simp at hj; omega
    subst this
    exact World.cell?_alloc_at _ _ _ _ rfl
  · have : j = 0 := by simp at hj; omega
    subst this; simpa [iget] using hx
/-- What circle gives. -/
def CircG (E : Nat → Bool) (n0 : Nat) (w : World) (u : Value) (w' : World) : Prop :=
  Below n0 w w' ∧ ((u = .slice none 0 0 ∧ ∀ m i, 1 ≤ m → m < 6 → i < 6 → ∀ r, ¬ CloseP E m [((i : Nat) : Int)] r) ∨ ∃ g o c r m i, u = .slice (some ⟨g, o, none⟩) (r : List Int).length c ∧ Ints w' (some ⟨g, o, none⟩) c r ∧ i < 6 ∧ 1 ≤ m ∧ CloseP E m [((i : Nat) : Int)] r)

set_option maxHeartbeats 4000000 in
set_option maxRecDepth 100000 in
theorem gcircle_any (E : Nat → Bool) (w : World) :
    Calls Tryz.prog 33 #[.agg (grL E).toArray] w fun e w' => ∃ u, e = .returned u ∧ CircG E w.heap.size w u w' := by
  obtain ⟨W0, hW0⟩ : ∃ W0, w.alloc (.cells (grL E).toArray 66) = W0 := ⟨_, rfl⟩
  have hB : Below w.heap.size w W0 := below_alloc hW0
  have hA : Arr W0 w.heap.size (grL E) 66 := Arr.new rfl hW0
  have HW0 := Lib.hid hW0
  clear hW0
  go_enter Tryz.func33, Tryz.ntmps33
  go_wp2_with fail
  rw [HW0.out]
  go_wp2_with fail
  go_loopw [3] (fun t wr => ∃ m : Nat, 1 ≤ m ∧ m ≤ 6 ∧ t = .int .i64 (m : Int) ∧ Below w.heap.size w wr ∧ Below W0.heap.size W0 wr ∧ Hid (∀ m' i, 1 ≤ m' → m' < m → i < 6 → ∀ r, ¬ CloseP E m' [((i : Nat) : Int)] r)) (fun t _ => 6 - (intOf t).toNat)
  case atStart => exact ⟨1, by omega, by omega, rfl, hB, Below.refl _ _, fun m' i h1 h2 => absurd h1 (by omega)⟩
  case round =>
    obtain ⟨m, hm1, hm6, rfl, hB1, hB2, hN⟩ := hrel
    by_cases hlt : m < 6
    · have hk1 : (m : Int) < 6 := by omega
      obtain ⟨wm, hwm⟩ : ∃ W, Hid (W = wr) := ⟨_, rfl⟩
      go_wp2_with fail
      go_loopw [10] (fun t wr => ∃ i : Nat, i ≤ 6 ∧ t = .int .i64 (i : Int) ∧ Below w.heap.size w wr ∧ Below W0.heap.size W0 wr ∧ Hid (∀ i', i' < i → ∀ r, ¬ CloseP E m [((i' : Nat) : Int)] r)) (fun t _ => 6 - (intOf t).toNat)
      case atStart => exact ⟨0, by omega, rfl, hB1, hB2, fun i' h2 => absurd h2 (by omega)⟩
      case round =>
        obtain ⟨i, hi6, rfl, hC1, hC2, hNi⟩ := hrel
        by_cases hli : i < 6
        · have hi1 : (i : Int) < 6 := by omega
          have hld := (hA.below hC2 hA.lt).range
          have HC := Lib.hid (fun W p c (h : Ints W p c [((i : Nat) : Int)]) => close_any E m p c [((i : Nat) : Int)] W (by simp) (by simp; omega) (fun j hj => by
            have : j = 0 := by simp at hj; omega
            subst this; simp [iget]; omega) h)
          go_wp2_with ((with_reducible show wpList _ _ _ (⟨some 13, _, _, _, _, _⟩ :: _) _ _); go_must (refine wpList_load_mid rfl 66 (.tmp 1) rfl w.heap.size 0 (by simp [Act.eval, Act.put]) (grL E) _ hld Tryz.underlying66 rfl (by rw [grL_len]; kernel_rfl) ?_))
          have hbe : Below wr.heap.size wr (wr.alloc (.cells #[.int .i64 (i : Int)] 3)) := (Below.refl _ _).alloc (Nat.le_refl _) _
          refine (HC.out _ _ _ (ints_lit1 wr (i : Int) ⟨by omega, by omega⟩ 3)).mono ?_
          rintro e w2 ⟨u, rfl, hb2, hu⟩
          have hb3 := hbe.trans (hb2.mono hbe.size)
          have hD1 := hC1.trans (hb3.mono hC1.size)
          have hD2 := hC2.trans (hb3.mono hC2.size)
          clear hb2 hb3 hbe hld HC
          rcases hu with ⟨rfl, hno⟩ | ⟨g, o, c', r, rfl, hIr', hr⟩
          · have HNo := Lib.hid hno
            clear hno
            go_wp2_with fail
            go_roundw
            case rel => exact ⟨i + 1, by omega, by go_num, hD1, hD2, fun i' h r => by
              by_cases e : i' = i
              · subst e; exact HNo.out r
              · exact hNi.out i' (by omega) r⟩
            case measure => (simp [intOf] <;> omega)
          · have HR := Lib.hid (show CircG E w.heap.size w (.slice (some ⟨g, o, none⟩) r.length c') w2 from ⟨hD1, .inr ⟨g, o, c', r, m, i, rfl, hIr', hli, hm1, hr⟩⟩)
            clear hr hIr'
            go_wp2_with fail
            go_ret
            exact ⟨_, rfl, HR.out⟩
        · have hi1 : ¬ (i : Int) < 6 := by omega
          go_wp2_with fail
          go_roundw
          case rel => exact ⟨m + 1, by omega, by omega, by go_num, hC1, hC2, fun m' i' h1 h2 h3 r => by
            by_cases e : m' = m
            · subst e; exact hNi.out i' (by omega) r
            · exact hN.out m' i' h1 (by omega) h3 r⟩
          case measure => (simp [intOf] <;> omega)
    · have hk1 : ¬ (m : Int) < 6 := by omega
      go_wp2_with fail
      go_ret
      exact ⟨_, rfl, hB1, .inl ⟨rfl, fun m' i h1 h2 h3 => hN.out m' i h1 (by omega) h3⟩⟩
end Go.Proofs.YtmcncflieoolmaaGreat
