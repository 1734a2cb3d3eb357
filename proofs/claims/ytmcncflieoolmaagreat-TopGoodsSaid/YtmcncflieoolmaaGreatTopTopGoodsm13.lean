/- The walk of share.partitions' recursive closure: it gives lists of m digits below n; no condition but that m and n are small.  (Printed by wip/genpart.py.) -/
import Derived.Test.YtmcncflieoolmaaGreatTopTopGoodsm11
import Derived.Test.YtmcncflieoolmaaGreatTopTopGoodsm7
import Derived.Test.YtmcncflieoolmaaGreatTopTopGoodsm12
import Derived.Deep.DeepAppendRoom
/- The walk of share.partitions' recursive closure: it gives lists of m digits below n; no condition but that m and n are small.  (Printed by wip/genpart.py.) -/
namespace Go.Proofs.YtmcncflieoolmaaGreat
set_option linter.unusedSimpArgs false
open Go.ChangeShapes Go.WideShapes Go.ChangeAt Go.RowKit Go.Deep
set_option linter.unusedVariables false
attribute [local go_sem] Oper.semAt_some

/-- The state of the region that calls itself with one more digit. -/
structure PartJ (G : World → Prop) (B0 B m : Nat) (xs : List Int) (k : Int) (val : Nat → Value) (Post : Bool → World → Prop) (us : Nat → Value) (D : Nat → Prop) (W : World) : Prop where
  val : ∀ i, i ≠ 3 → i ≠ 4 → i ≠ 9 → i ≠ 10 → D i → us i = val i
  g : ¬ D 9 → G W
  lit : D 3 → ¬ D 4 → ∃ b, us 3 = .slice (some ⟨b, 0, none⟩) 1 1 ∧ W.cell? ⟨b, 0, none⟩ = some (.int .i64 k)
  row0 : ¬ D 4 → Own W B0 (some ⟨B, 0, none⟩) m xs
  row1 : D 4 → us 4 = .slice (some ⟨B, 0, none⟩) (xs.length + 1) m ∧ (¬ D 9 → Own W B0 (some ⟨B, 0, none⟩) m (xs ++ [k]))
  o4 : D 4 → D 3
  o9 : D 9 → D 4
  o90 : D 9 → D 0
  o10 : D 10 → D 9
  fin : D 9 → ∃ b, us 9 = .bool b ∧ Post b W ∧ (D 10 → us 10 = .bool (!b))
section
variable {G : World → Prop} {B0 B m : Nat} {xs : List Int} {k : Int} {val : Nat → Value} {Post : Bool → World → Prop} {us : Nat → Value} {D : Nat → Prop} {W W' : World}
theorem PartJ.start (us : Nat → Value) (hG : G W) (hO : Own W B0 (some ⟨B, 0, none⟩) m xs) : PartJ G B0 B m xs k val Post us (fun _ => False) W :=
  ⟨fun _ _ _ _ _ h => h.elim, fun _ => hG, fun h => h.elim, fun _ => hO, fun h => h.elim, fun h => h.elim, fun h => h.elim, fun h => h.elim, fun h => h.elim, fun h => h.elim⟩
theorem PartJ.pure (h : PartJ G B0 B m xs k val Post us D W) {i : Nat} (h3 : i ≠ 3) (h4 : i ≠ 4) (h9 : i ≠ 9) (h10 : i ≠ 10) : PartJ G B0 B m xs k val Post (upd us i (val i)) (fun k => k = i ∨ D k) W := by
  refine ⟨fun j j3 j4 j9 j10 hd => ?_, fun hd => h.g fun h2 => hd (.inr h2), fun hd hd2 => ?_, fun hd => h.row0 fun h2 => hd (.inr h2), fun hd => ?_, fun hd => .inr (h.o4 (orNe hd (Ne.symm h4))), fun hd => .inr (h.o9 (orNe hd (Ne.symm h9))), fun hd => .inr (h.o90 (orNe hd (Ne.symm h9))), fun hd => .inr (h.o10 (orNe hd (Ne.symm h10))), fun hd => ?_⟩
  · by_cases e : j = i
    · subst e; rw [upd_same]
    · rw [upd_ne e]; exact h.val j j3 j4 j9 j10 (orNe hd e)
  · rw [upd_ne (Ne.symm h3)]; exact h.lit (orNe hd (Ne.symm h3)) fun h2 => hd2 (.inr h2)
  · rw [upd_ne (Ne.symm h4)]
    obtain ⟨a, b⟩ := h.row1 (orNe hd (Ne.symm h4))
    exact ⟨a, fun h2 => b fun h5 => h2 (.inr h5)⟩
  · rw [upd_ne (Ne.symm h9), upd_ne (Ne.symm h10)]
    obtain ⟨b, e1, e2, e3⟩ := h.fin (orNe hd (Ne.symm h9))
    exact ⟨b, e1, e2, fun h5 => e3 (orNe h5 (Ne.symm h10))⟩
theorem PartJ.build (h : PartJ G B0 B m xs k val Post us D W) (hn : ¬ D 3) (T : TypeId) (hG : G W → G (W.alloc (.cells #[.int .i64 k] T))) : PartJ G B0 B m xs k val Post (upd us 3 (.slice (some ⟨W.heap.size, 0, none⟩) 1 1)) (fun k => k = 3 ∨ D k) (W.alloc (.cells #[.int .i64 k] T)) := by
  have n4 : ¬ D 4 := fun hd => hn (h.o4 hd)
  have n9 : ¬ D 9 := fun hd => n4 (h.o9 hd)
  have n10 : ¬ D 10 := fun hd => n9 (h.o10 hd)
  refine ⟨fun j j3 j4 j9 j10 hd => by rw [upd_ne j3]; exact h.val j j3 j4 j9 j10 (orNe hd j3), fun _ => hG (h.g n9), fun _ _ => ⟨_, upd_same _ _ _, World.cell?_alloc_at _ _ _ _ rfl⟩, fun _ => (h.row0 n4).alloc _, fun hd => (n4 (orNe hd (by decide))).elim, fun hd => (n4 (orNe hd (by decide))).elim, fun hd => (n9 (orNe hd (by decide))).elim, fun hd => (n9 (orNe hd (by decide))).elim, fun hd => (n10 (orNe hd (by decide))).elim, fun hd => (n9 (orNe hd (by decide))).elim⟩
theorem PartJ.append (h : PartJ G B0 B m xs k val Post us D W) (hn : ¬ D 4) (h3 : D 3) (hG : G W') (hO : Own W' B0 (some ⟨B, 0, none⟩) m (xs ++ [k])) : PartJ G B0 B m xs k val Post (upd us 4 (.slice (some ⟨B, 0, none⟩) (xs.length + 1) m)) (fun k => k = 4 ∨ D k) W' := by
  have n9 : ¬ D 9 := fun hd => hn (h.o9 hd)
  have n10 : ¬ D 10 := fun hd => n9 (h.o10 hd)
  refine ⟨fun j j3 j4 j9 j10 hd => by rw [upd_ne j4]; exact h.val j j3 j4 j9 j10 (orNe hd j4), fun _ => hG, fun _ hd => (hd (.inl rfl)).elim, fun hd => (hd (.inl rfl)).elim, fun _ => ⟨upd_same _ _ _, fun _ => hO⟩, fun _ => .inr h3, fun hd => (n9 (orNe hd (by decide))).elim, fun hd => (n9 (orNe hd (by decide))).elim, fun hd => (n10 (orNe hd (by decide))).elim, fun hd => (n9 (orNe hd (by decide))).elim⟩
theorem PartJ.call (h : PartJ G B0 B m xs k val Post us D W) (hn : ¬ D 9) (h4 : D 4) (h0 : D 0) {b : Bool} (hP : Post b W') : PartJ G B0 B m xs k val Post (upd us 9 (.bool b)) (fun k => k = 9 ∨ D k) W' := by
  have n10 : ¬ D 10 := fun hd => hn (h.o10 hd)
  refine ⟨fun j j3 j4 j9 j10 hd => by rw [upd_ne j9]; exact h.val j j3 j4 j9 j10 (orNe hd j9), fun hd => (hd (.inl rfl)).elim, fun _ hd => (hd (.inr h4)).elim, fun hd => (hd (.inr h4)).elim, fun _ => ⟨by rw [upd_ne (by decide)]; exact (h.row1 h4).1, fun hd => (hd (.inl rfl)).elim⟩, fun _ => .inr (h.o4 h4), fun _ => .inr h4, fun _ => .inr h0, fun _ => .inl rfl, fun _ => ⟨b, upd_same _ _ _, hP, fun hd => (n10 (orNe hd (by decide))).elim⟩⟩
theorem PartJ.neg (h : PartJ G B0 B m xs k val Post us D W) (h9 : D 9) {b : Bool} (hb : us 9 = .bool b) : PartJ G B0 B m xs k val Post (upd us 10 (.bool (!b))) (fun k => k = 10 ∨ D k) W := by
  have h4 := h.o9 h9
  refine ⟨fun j j3 j4 j9 j10 hd => by rw [upd_ne j10]; exact h.val j j3 j4 j9 j10 (orNe hd j10), fun hd => (hd (.inr h9)).elim, fun _ hd => (hd (.inr h4)).elim, fun hd => (hd (.inr h4)).elim, fun _ => ⟨by rw [upd_ne (by decide)]; exact (h.row1 h4).1, fun hd => (hd (.inr h9)).elim⟩, fun _ => .inr (h.o4 h4), fun _ => .inr h4, fun _ => .inr (h.o90 h9), fun _ => .inr h9, fun _ => ?_⟩
  obtain ⟨b', e1, e2, _⟩ := h.fin h9
  have : b' = b := by rw [hb] at e1; cases e1; rfl
  subst this
  exact ⟨b', by rw [upd_ne (by decide)]; exact e1, e2, fun _ => upd_same _ _ _⟩
end
theorem rp11 {i : Nat} (h : i < 11) : i = 0 ∨ i = 1 ∨ i = 2 ∨ i = 3 ∨ i = 4 ∨ i = 5 ∨ i = 6 ∨ i = 7 ∨ i = 8 ∨ i = 9 ∨ i = 10 := by omega
/-- What the closure finds. -/
structure PartS (l n0 m By Bf B : Nat) (cl : Value) (J : List (List Int) → World → Prop) (pre : List (List Int)) (xs : List Int) (A : World) : Prop where
  j : J pre A
  size : n0 ≤ A.heap.size
  row : Own A n0 (some ⟨B, 0, none⟩) m xs
  y : OneV A By (.func (.yield l) #[] #[]) 29
  f : OneV A Bf cl 30
/-- What it leaves. -/
def PartE (l n0 m By Bf B : Nat) (cl : Value) (J Jx : List (List Int) → World → Prop) (tgt : List (List Int)) (xs : List Int) (b : Bool) (W : World) : Prop :=
  (b = true ∧ PartS l n0 m By Bf B cl J tgt xs W) ∨ (b = false ∧ ∃ pre, Jx pre W)
/-- The lists in their order. -/
def partsF (n : Nat) : Nat → List Int → Nat → List (List Int)
  | 0, xs, _ => [xs]
  | f + 1, xs, u => (List.range (min (u + 1) n)).flatMap fun (k : Nat) => partsF n f (xs ++ [(k : Int)]) (max u (k + 1))
/-- .. of the first k next digits. -/
def partsK (n f : Nat) (xs : List Int) (u k : Nat) : List (List Int) := (List.range k).flatMap fun (k : Nat) => partsF n f (xs ++ [(k : Int)]) (max u (k + 1))
theorem partsK_succ (n f : Nat) (xs : List Int) (u k : Nat) : partsK n f xs u (k + 1) = partsK n f xs u k ++ partsF n f (xs ++ [(k : Int)]) (max u (k + 1)) := by
  unfold partsK; rw [List.range_succ, List.flatMap_append]; simp

set_option maxRecDepth 100000 in
set_option maxHeartbeats 8000000 in
theorem part_yield (l m n n0 Bm By Bn Bf B : Nat) (J Jx : List (List Int) → World → Prop) (cl : Value)
    (hPre : ∀ s A, J s A → A.cell? ⟨Bm, 0, none⟩ = some (.int .i64 (m : Int)) ∧ A.cell? ⟨Bn, 0, none⟩ = some (.int .i64 (n : Int))) (hy0 : n0 ≤ By) (hf0 : n0 ≤ Bf)
    (hY : ∀ pre (x : RX) W1, J pre W1 → n0 ≤ W1.heap.size → Ints W1 x.1 x.2.1 x.2.2 → DigL n m x.2.2 → YieldAt Fence.wide 0 Tryz.prog l (encR x) W1 fun e W' =>
      (e = .returned (.bool true) ∧ J (pre ++ [x.2.2]) W' ∧ KpR n0 W1 W') ∨ (e = .returned (.bool false) ∧ Jx (pre ++ [x.2.2]) W'))
    (xs : List Int) (u : Nat) (pre : List (List Int)) (A : World) (hl : xs.length = m) (hd : DigL n m xs) (hS : PartS l n0 m By Bf B cl J pre xs A) :
    Calls Tryz.prog 141 #[.slice (some ⟨B, 0, none⟩) xs.length m, .int .i64 (u : Int), .pointer (some ⟨Bm, 0, none⟩), .pointer (some ⟨By, 0, none⟩), .pointer (some ⟨Bn, 0, none⟩), .pointer (some ⟨Bf, 0, none⟩)] A fun e W' => ∃ b, e = .returned (.bool b) ∧ PartE l n0 m By Bf B cl J Jx (pre ++ [xs]) xs b W' := by
  have c1 := (hPre _ _ hS.j).1
  have c2 := hS.y.cell
  have hY1 := yieldAt_any (m' := 8 - 1) (hY pre (some ⟨B, 0, none⟩, m, xs) A hS.j hS.size hS.row.ints hd)
  unfold encR at hY1
  simp only at hY1
  obtain ⟨fn, tmps, assign, body, hy, hR⟩ := hY1
  rw [hl] at hy ⊢
  have HR := Lib.hid hR
  have HS := Lib.hid hS
  clear hR hY hPre hd hl hS
  refine (callsIn_wide (n := 8)).1 (callsIn_of_wp Tryz.func141 rfl trivial ?_ rfl)
  simp only [Tryz.ntmps141, List.size_toArray, List.length_cons, List.length_nil, Nat.reduceAdd, Nat.reduceSub, Array.replicate_succ, Array.replicate_zero, List.push_toArray, List.append_toArray, List.nil_append, List.cons_append]
  gi_wp2
  refine HR.out.mono ?_
  have hS := HS.out
  rintro e W3 (⟨rfl, hJ3, hk3⟩ | ⟨rfl, hJx3⟩)
  · have hE : PartE l n0 m By Bf B cl J Jx (pre ++ [xs]) xs true W3 := .inl ⟨rfl, hJ3, Nat.le_trans hS.size hk3.size, hS.row.kp hk3 (Nat.le_refl _), hS.y.heap (hk3.same By hy0 hS.y.lt (IsCells.of_cell hS.y.cell)), hS.f.heap (hk3.same Bf hf0 hS.f.lt (IsCells.of_cell hS.f.cell))⟩
    have HE := Lib.hid hE
    clear hE hJ3 hk3 hS
    gi_wp2
    go_ret
    exact ⟨true, rfl, HE.out⟩
  · have hE : PartE l n0 m By Bf B cl J Jx (pre ++ [xs]) xs false W3 := .inr ⟨rfl, _, hJx3⟩
    have HE := Lib.hid hE
    clear hE hJx3 hS
    gi_wp2
    go_ret
    exact ⟨false, rfl, HE.out⟩

set_option maxRecDepth 100000 in
set_option maxHeartbeats 8000000 in
theorem part_any (l m n n0 Bm By Bn Bf B : Nat) (J Jx : List (List Int) → World → Prop)
    (hSt : StabR n0 J) (hPre : ∀ s A, J s A → A.cell? ⟨Bm, 0, none⟩ = some (.int .i64 (m : Int)) ∧ A.cell? ⟨Bn, 0, none⟩ = some (.int .i64 (n : Int))) (hm : m ≤ 10) (hn1 : 1 ≤ n) (hn : n ≤ 6) (hy0 : n0 ≤ By) (hf0 : n0 ≤ Bf) (hyB : By ≠ B) (hfB : Bf ≠ B)
    (hY : ∀ pre (x : RX) W1, J pre W1 → n0 ≤ W1.heap.size → Ints W1 x.1 x.2.1 x.2.2 → DigL n m x.2.2 → YieldAt Fence.wide 0 Tryz.prog l (encR x) W1 fun e W' =>
      (e = .returned (.bool true) ∧ J (pre ++ [x.2.2]) W' ∧ KpR n0 W1 W') ∨ (e = .returned (.bool false) ∧ Jx (pre ++ [x.2.2]) W')) :
    ∀ (f : Nat) (xs : List Int) (u : Nat) (pre : List (List Int)) (A : World), xs.length + f = m → u ≤ n → (∀ j, j < xs.length → 0 ≤ iget xs j ∧ iget xs j < n) → PartS l n0 m By Bf B (.func (.func 141) #[] #[.pointer (some ⟨Bm, 0, none⟩), .pointer (some ⟨By, 0, none⟩), .pointer (some ⟨Bn, 0, none⟩), .pointer (some ⟨Bf, 0, none⟩)]) J pre xs A →
      Calls Tryz.prog 141 #[.slice (some ⟨B, 0, none⟩) xs.length m, .int .i64 (u : Int), .pointer (some ⟨Bm, 0, none⟩), .pointer (some ⟨By, 0, none⟩), .pointer (some ⟨Bn, 0, none⟩), .pointer (some ⟨Bf, 0, none⟩)] A fun e W' => ∃ b, e = .returned (.bool b) ∧ PartE l n0 m By Bf B (.func (.func 141) #[] #[.pointer (some ⟨Bm, 0, none⟩), .pointer (some ⟨By, 0, none⟩), .pointer (some ⟨Bn, 0, none⟩), .pointer (some ⟨Bf, 0, none⟩)]) J Jx (pre ++ partsF n f xs u) xs b W'
  | 0, xs, u, pre, A, hl, _, hd, hS => part_yield l m n n0 Bm By Bn Bf B J Jx _ hPre hy0 hf0 hY xs u pre A (by omega) ⟨by omega, fun j hj => hd j (by omega)⟩ hS
  | f + 1, xs, u, pre, A, hl, hu, hd, hS => by
    have IH := fun k U (hk : k < n) (hU : U ≤ n) pre' W' (h : PartS l n0 m By Bf B (.func (.func 141) #[] #[.pointer (some ⟨Bm, 0, none⟩), .pointer (some ⟨By, 0, none⟩), .pointer (some ⟨Bn, 0, none⟩), .pointer (some ⟨Bf, 0, none⟩)]) J pre' (xs ++ [(k : Int)]) W') => part_any l m n n0 Bm By Bn Bf B J Jx hSt hPre hm hn1 hn hy0 hf0 hyB hfB hY f (xs ++ [(k : Int)]) U pre' W' (by rw [List.length_append, List.length_singleton]; omega) hU (fun j hj => by
      rw [List.length_append, List.length_singleton] at hj
      rw [iget_append]
      split
      · rename_i h; exact hd j h
      · have : j - xs.length = 0 := by omega
        rw [this]; simp [iget]; omega) h
    obtain ⟨i0, hi0, _, hn1', _⟩ := info_parts infoInt
    have HIH := Lib.hid IH
    have c1 := (hPre _ _ hS.j).1
    have c2 := (hPre _ _ hS.j).2
    have hne : (((xs.length : Int)) == (m : Int)) = false := by rw [beq_eq_false_iff_ne]; omega
    obtain ⟨E, hE⟩ : ∃ E, E = min (u + 1) n := ⟨_, rfl⟩
    have hE2 : E ≤ n := by omega
    have hwu : IntKind.i64.wrap ((u : Int) + 1) = (u : Int) + 1 := IntWalk.i64_in _ (by omega)
    have HS := Lib.hid hS
    have HPre := Lib.hid hPre
    have HSt := Lib.hid hSt
    clear IH hPre hSt hY hS
    by_cases hmin : u + 1 ≤ n
    · have hmin2 : (u : Int) + 1 ≤ (n : Int) := by omega
      go_enter Tryz.func141, Tryz.ntmps141
      go_wp2_with fail
      go_loopw [9, 21] (fun _ t wr => ∃ k : Nat, k ≤ (u + 1) ∧ t = .int .i64 (k : Int) ∧ PartS l n0 m By Bf B (.func (.func 141) #[] #[.pointer (some ⟨Bm, 0, none⟩), .pointer (some ⟨By, 0, none⟩), .pointer (some ⟨Bn, 0, none⟩), .pointer (some ⟨Bf, 0, none⟩)]) J (pre ++ partsK n f xs u k) xs wr) (fun _ t _ => (u + 1) - (intOf t).toNat)
      case atStart => exact ⟨0, Nat.zero_le _, rfl, by rw [show partsK n f xs u 0 = [] from rfl, List.append_nil]; exact HS.out⟩
      case round =>
        obtain ⟨k, hk, rfl, hS⟩ := hrel
        by_cases hlt : k < (u + 1)
        · have hk1 : (k : Int) < (u : Int) + 1 := by omega
          have hkn : k < n := by omega
          obtain ⟨U, hU⟩ : ∃ U : Nat, Hid ((k + 1 ≤ u ∧ U = u) ∨ (u ≤ k + 1 ∧ U = k + 1)) := by
            by_cases h : k + 1 ≤ u
            · exact ⟨u, .inl ⟨h, rfl⟩⟩
            · exact ⟨k + 1, .inr ⟨by omega, rfl⟩⟩
          have hUn : U ≤ n := by have := hU.out; omega
          have HUm : Hid (U = max u (k + 1)) := by have := hU.out; unfold Hid; omega
          have HMx : Hid ((if (u : Int) < (k : Int) + 1 then (k : Int) + 1 else (u : Int)) = (U : Int)) := by have := hU.out; unfold Hid; split <;> omega
          have hIH0 := fun W' (h : PartS l n0 m By Bf B (.func (.func 141) #[] #[.pointer (some ⟨Bm, 0, none⟩), .pointer (some ⟨By, 0, none⟩), .pointer (some ⟨Bn, 0, none⟩), .pointer (some ⟨Bf, 0, none⟩)]) J (pre ++ partsK n f xs u k) (xs ++ [(k : Int)]) W') => HIH.out k U hkn hUn (pre ++ partsK n f xs u k) W' h
          rw [List.length_append, List.length_singleton] at hIH0
          have hIH := Lib.hid hIH0
          clear hIH0
          obtain ⟨GG, hGG⟩ : ∃ GG : World → Prop, GG = fun W => J (pre ++ partsK n f xs u k) W ∧ n0 ≤ W.heap.size ∧ OneV W By (.func (.yield l) #[] #[]) 29 ∧ OneV W Bf (.func (.func 141) #[] #[.pointer (some ⟨Bm, 0, none⟩), .pointer (some ⟨By, 0, none⟩), .pointer (some ⟨Bn, 0, none⟩), .pointer (some ⟨Bf, 0, none⟩)]) 30 := ⟨_, rfl⟩
          have hnB : n0 ≤ B := (hS.row.lt B rfl).1
          have hG0 : GG wr := by rw [hGG]; exact ⟨hS.j, hS.size, hS.y, hS.f⟩
          have hGd : ∀ W, GG W → GG W.drew := fun W h => by
            rw [hGG] at h ⊢
            obtain ⟨a, b, c, d⟩ := h
            have hb := below_drewN W.heap.size W 1
            exact ⟨HSt.out _ _ _ a (hb.mono b), Nat.le_trans b hb.size, c.below hb c.lt, d.below hb d.lt⟩
          have hGa : ∀ W o, GG W → GG (W.alloc o) := fun W o h => by
            rw [hGG] at h ⊢
            obtain ⟨a, b, c, d⟩ := h
            have hb : Below W.heap.size W (W.alloc o) := (Below.refl _ _).alloc (Nat.le_refl _) _
            exact ⟨HSt.out _ _ _ a (hb.mono b), Nat.le_trans b hb.size, c.below hb c.lt, d.below hb d.lt⟩
          have hGb : ∀ W W', GG W → W.grownBy W' (some B) → GG W' := fun W W' h hg => by
            rw [hGG] at h ⊢
            obtain ⟨a, b, c, d⟩ := h
            have hb : Below n0 W W' := (Below.refl _ _).grown hg b (fun k e => by cases e; exact hnB)
            exact ⟨HSt.out _ _ _ a hb, Nat.le_trans b hb.size, c.heap (hg.block By c.lt (fun e => hyB (by cases e; rfl))), d.heap (hg.block Bf d.lt (fun e => hfB (by cases e; rfl)))⟩
          have HGc : Hid (∀ W, GG W → W.cell? ⟨Bf, 0, none⟩ = some (.func (.func 141) #[] #[.pointer (some ⟨Bm, 0, none⟩), .pointer (some ⟨By, 0, none⟩), .pointer (some ⟨Bn, 0, none⟩), .pointer (some ⟨Bf, 0, none⟩)])) := fun W h => by rw [hGG] at h; exact h.2.2.2.cell
          have HGp : Hid (∀ W, GG W → Own W n0 (some ⟨B, 0, none⟩) m (xs ++ [(k : Int)]) → PartS l n0 m By Bf B (.func (.func 141) #[] #[.pointer (some ⟨Bm, 0, none⟩), .pointer (some ⟨By, 0, none⟩), .pointer (some ⟨Bn, 0, none⟩), .pointer (some ⟨Bf, 0, none⟩)]) J (pre ++ partsK n f xs u k) (xs ++ [(k : Int)]) W) := fun W h ho => by rw [hGG] at h; exact ⟨h.1, h.2.1, ho, h.2.2.1, h.2.2.2⟩
          have hO0 := hS.row
          have hxl : xs.length + 1 ≤ m := by omega
          clear hGG hS hk
          go_wp2_with fail
          refine wp_region_inv (by kernel_rfl) (by decide +kernel) (by decide +kernel) _ _ (PartJ GG n0 B m xs (k : Int) (fun kk => match kk with | 0 => (.func (.func 141) #[] #[.pointer (some ⟨Bm, 0, none⟩), .pointer (some ⟨By, 0, none⟩), .pointer (some ⟨Bn, 0, none⟩), .pointer (some ⟨Bf, 0, none⟩)]) | 1 => (.slice (some ⟨B, 0, none⟩) xs.length m) | 2 => (.int .i64 (k : Int)) | 5 => (.int .i64 (u : Int)) | 6 => (.int .i64 (k : Int)) | 7 => (.int .i64 ((k : Int) + 1)) | 8 => (.int .i64 (U : Int)) | _ => undef) (PartE l n0 m By Bf B (.func (.func 141) #[] #[.pointer (some ⟨Bm, 0, none⟩), .pointer (some ⟨By, 0, none⟩), .pointer (some ⟨Bn, 0, none⟩), .pointer (some ⟨Bf, 0, none⟩)]) J Jx (pre ++ partsK n f xs u k ++ partsF n f (xs ++ [(k : Int)]) U) (xs ++ [(k : Int)]))) ?_ ?_ ?_
          · exact fun us => PartJ.start us (hGd _ hG0) hO0.drew1
          · intro us D W i o A hA hi hJ hnD hon K hK
            have hlt : i < 11 := (Array.getElem?_eq_some_iff.1 hi).1
            rcases rp11 hlt with rfl | rfl | rfl | rfl | rfl | rfl | rfl | rfl | rfl | rfl | rfl
            · have hi' := Option.some.inj hi
              subst hi'
              refine wp_val (v := (.func (.func 141) #[] #[.pointer (some ⟨Bm, 0, none⟩), .pointer (some ⟨By, 0, none⟩), .pointer (some ⟨Bn, 0, none⟩), .pointer (some ⟨Bf, 0, none⟩)])) (w' := W) ?_ (hK _ _ (hJ.pure (i := 0) (by decide) (by decide) (by decide) (by decide)))
              · skip
                have e5 : A.tmps[5]?.getD undef = (.pointer (some ⟨Bf, 0, none⟩)) := by rw [hA]; kernel_rfl
                have c0 := HGc.out W (hJ.g (fun h9 => hnD (hJ.o90 h9)))
                clear hA hK hon hJ
                go_simp
            · have hi' := Option.some.inj hi
              subst hi'
              refine wp_val (v := (.slice (some ⟨B, 0, none⟩) xs.length m)) (w' := W) ?_ (hK _ _ (hJ.pure (i := 1) (by decide) (by decide) (by decide) (by decide)))
              · skip
                have e0 : A.tmps[0]?.getD undef = (.slice (some ⟨B, 0, none⟩) xs.length m) := by rw [hA]; kernel_rfl
                clear hA hK hon hJ
                go_simp
            · have hi' := Option.some.inj hi
              subst hi'
              refine wp_val (v := (.int .i64 (k : Int))) (w' := W) ?_ (hK _ _ (hJ.pure (i := 2) (by decide) (by decide) (by decide) (by decide)))
              · skip
                have e9 : A.tmps[9]?.getD undef = (.int .i64 (k : Int)) := by rw [hA]; kernel_rfl
                clear hA hK hon hJ
                go_simp
            · have hi' := Option.some.inj hi
              subst hi'
              have n9 : ¬ D 9 := fun hd => hnD (hJ.o4 (hJ.o9 hd))
              refine wp_val (v := .slice (some ⟨W.heap.size, 0, none⟩) 1 1) (w' := W.alloc (.cells #[.int .i64 (k : Int)] 3)) ?_ (hK _ _ (hJ.build hnD _ (fun hG => hGa _ _ hG)))
              · skip
                have e26 : A.tmps[26]?.getD undef = (.int .i64 (k : Int)) := (by rw [hA]; kernel_rfl : A.tmps[26]?.getD undef = us 2).trans (hJ.val 2 (by decide) (by decide) (by decide) (by decide) (hon 2 (by decide +kernel)))
                clear hA hK hon hJ
                go_simp
            · have hi' := Option.some.inj hi
              subst hi'
              have n9 : ¬ D 9 := fun hd => hnD (hJ.o9 hd)
              obtain ⟨b', hb', hc'⟩ := hJ.lit (hon 3 (by decide +kernel)) hnD
              have e25 : A.tmps[25]?.getD undef = (.slice (some ⟨B, 0, none⟩) xs.length m) := (by rw [hA]; kernel_rfl : A.tmps[25]?.getD undef = us 1).trans (hJ.val 1 (by decide) (by decide) (by decide) (by decide) (hon 1 (by decide +kernel)))
              have e27 : A.tmps[27]?.getD undef = .slice (some ⟨b', 0, none⟩) 1 1 := (by rw [hA]; kernel_rfl : A.tmps[27]?.getD undef = us 3).trans hb'
              refine wp_append_own_spare _ (.tmp 25) (.tmp 27) 25 (by rfl) n0 3 i0 1 Tryz.underlying25 hi0 hn1' B xs.length m (xs.map (Value.int .i64)) ((evalTmp A 25).trans e25) (hJ.row0 hnD).row ⟨b', 0, none⟩ 1 1 [.int .i64 (k : Int)] ((evalTmp A 27).trans e27) rfl (newsOne hc') (by simp [Value.oneCell']) (by omega) ?_
              intro w4 hO4 hg4
              exact hK _ _ (hJ.append hnD (hon 3 (by decide +kernel)) (hGb _ _ (hJ.g n9) hg4) (own_snocR hO4 (hJ.row0 hnD).rng ⟨by omega, by omega⟩))
            · have hi' := Option.some.inj hi
              subst hi'
              refine wp_val (v := (.int .i64 (u : Int))) (w' := W) ?_ (hK _ _ (hJ.pure (i := 5) (by decide) (by decide) (by decide) (by decide)))
              · skip
                have e1 : A.tmps[1]?.getD undef = (.int .i64 (u : Int)) := by rw [hA]; kernel_rfl
                clear hA hK hon hJ
                go_simp
            · have hi' := Option.some.inj hi
              subst hi'
              refine wp_val (v := (.int .i64 (k : Int))) (w' := W) ?_ (hK _ _ (hJ.pure (i := 6) (by decide) (by decide) (by decide) (by decide)))
              · skip
                have e9 : A.tmps[9]?.getD undef = (.int .i64 (k : Int)) := by rw [hA]; kernel_rfl
                clear hA hK hon hJ
                go_simp
            · have hi' := Option.some.inj hi
              subst hi'
              refine wp_val (v := (.int .i64 ((k : Int) + 1))) (w' := W) ?_ (hK _ _ (hJ.pure (i := 7) (by decide) (by decide) (by decide) (by decide)))
              · skip
                have e30 : A.tmps[30]?.getD undef = (.int .i64 (k : Int)) := (by rw [hA]; kernel_rfl : A.tmps[30]?.getD undef = us 6).trans (hJ.val 6 (by decide) (by decide) (by decide) (by decide) (hon 6 (by decide +kernel)))
                have hwA : IntKind.i64.wrap ((k : Int) + 1) = (k : Int) + 1 := IntWalk.i64_in _ (by omega)
                clear hA hK hon hJ
                go_simp
            · have hi' := Option.some.inj hi
              subst hi'
              refine wp_val (v := (.int .i64 (U : Int))) (w' := W) ?_ (hK _ _ (hJ.pure (i := 8) (by decide) (by decide) (by decide) (by decide)))
              · skip
                have e29 : A.tmps[29]?.getD undef = (.int .i64 (u : Int)) := (by rw [hA]; kernel_rfl : A.tmps[29]?.getD undef = us 5).trans (hJ.val 5 (by decide) (by decide) (by decide) (by decide) (hon 5 (by decide +kernel)))
                have e31 : A.tmps[31]?.getD undef = (.int .i64 ((k : Int) + 1)) := (by rw [hA]; kernel_rfl : A.tmps[31]?.getD undef = us 7).trans (hJ.val 7 (by decide) (by decide) (by decide) (by decide) (hon 7 (by decide +kernel)))
                have hmx := HMx.out
                clear hA hK hon hJ
                go_simp
                all_goals (have hum := HUm.out; omega)
            · have hi' := Option.some.inj hi
              subst hi'
              have h4 := hon 4 (by decide +kernel)
              obtain ⟨r1, r2⟩ := hJ.row1 h4
              have e24 : A.tmps[24]?.getD undef = (.func (.func 141) #[] #[.pointer (some ⟨Bm, 0, none⟩), .pointer (some ⟨By, 0, none⟩), .pointer (some ⟨Bn, 0, none⟩), .pointer (some ⟨Bf, 0, none⟩)]) := (by rw [hA]; kernel_rfl : A.tmps[24]?.getD undef = us 0).trans (hJ.val 0 (by decide) (by decide) (by decide) (by decide) (hon 0 (by decide +kernel)))
              have e28 : A.tmps[28]?.getD undef = (.slice (some ⟨B, 0, none⟩) (xs.length + 1) m) := (by rw [hA]; kernel_rfl : A.tmps[28]?.getD undef = us 4).trans r1
              have e32 : A.tmps[32]?.getD undef = (.int .i64 (U : Int)) := (by rw [hA]; kernel_rfl : A.tmps[32]?.getD undef = us 8).trans (hJ.val 8 (by decide) (by decide) (by decide) (by decide) (hon 8 (by decide +kernel)))
              refine wp_enter (f := 141) (args := #[.slice (some ⟨B, 0, none⟩) (xs.length + 1) m, .int .i64 (U : Int), .pointer (some ⟨Bm, 0, none⟩), .pointer (some ⟨By, 0, none⟩), .pointer (some ⟨Bn, 0, none⟩), .pointer (some ⟨Bf, 0, none⟩)]) (w' := W) ?_ ((hIH.out W (HGp.out W (hJ.g hnD) (r2 hnD))).mono ?_)
              · skip
                clear hA hK hon hJ r1 r2
                go_simp
              · rintro e w2 ⟨b2, rfl, hE⟩
                exact ⟨_, rfl, hK _ _ (hJ.call hnD h4 (hon 0 (by decide +kernel)) hE)⟩
            · have hi' := Option.some.inj hi
              subst hi'
              have h9 := hon 9 (by decide +kernel)
              obtain ⟨b2, hb2, _, _⟩ := hJ.fin h9
              refine wp_val (v := .bool (!b2)) (w' := W) ?_ (hK _ _ (hJ.neg h9 hb2))
              · skip
                have e33 : A.tmps[33]?.getD undef = .bool b2 := (by rw [hA]; kernel_rfl : A.tmps[33]?.getD undef = us 9).trans hb2
                clear hA hK hon hJ
                go_simp
          · intro us D W hJ hall
            obtain ⟨b2, hb9, hE, hb10⟩ := hJ.fin (hall 9 (by decide))
            have hb10' := hb10 (hall 10 (by decide))
            rcases hE with ⟨rfl, hS3⟩ | ⟨rfl, pre3, hJx⟩
            · have hS4 : Hid (PartS l n0 m By Bf B (.func (.func 141) #[] #[.pointer (some ⟨Bm, 0, none⟩), .pointer (some ⟨By, 0, none⟩), .pointer (some ⟨Bn, 0, none⟩), .pointer (some ⟨Bf, 0, none⟩)]) J (pre ++ partsK n f xs u (k + 1)) xs W) := ⟨by rw [partsK_succ, ← HUm.out, ← List.append_assoc]; exact hS3.j, hS3.size, by have := hS3.row.take (k := xs.length) (by simp) (by simp); rwa [List.take_left] at this, hS3.y, hS3.f⟩
              clear hJ hall hb10 hS3 HGc HGp hIH HIH
              simp only [actL, slotL, putL, List.setIfInBounds_toArray, List.set_cons_zero, List.set_cons_succ, Nat.zero_add, Nat.reduceAdd, hb10', Bool.not_true]
              go_wp2_with fail
              go_roundw
              case rel => exact ⟨k + 1, by omega, by go_num, hS4.out⟩
              case measure => (simp [intOf] <;> omega)
            · have hX : Hid (∃ pre, Jx pre W) := ⟨pre3, hJx⟩
              clear hJ hall hb10 hJx HGc HGp hIH HIH
              simp only [actL, slotL, putL, List.setIfInBounds_toArray, List.set_cons_zero, List.set_cons_succ, Nat.zero_add, Nat.reduceAdd, hb10', Bool.not_false]
              go_wp2_with fail
              go_ret
              exact ⟨false, rfl, .inr ⟨rfl, hX.out⟩⟩
        · have hk1 : ¬ (k : Int) < (u : Int) + 1 := by omega
          have HEn : Hid (partsF n (f + 1) xs u = partsK n f xs u k) := by unfold Hid partsF partsK; rw [show min (u + 1) n = k by omega]
          go_wp2_with fail
          go_ret
          exact Or.inr ⟨rfl, Or.inl ⟨rfl, by rw [HEn.out]; exact hS⟩⟩
    · have hmin2 : ¬ (u : Int) + 1 ≤ (n : Int) := by omega
      go_enter Tryz.func141, Tryz.ntmps141
      go_wp2_with fail
      go_loopw [9, 21] (fun _ t wr => ∃ k : Nat, k ≤ n ∧ t = .int .i64 (k : Int) ∧ PartS l n0 m By Bf B (.func (.func 141) #[] #[.pointer (some ⟨Bm, 0, none⟩), .pointer (some ⟨By, 0, none⟩), .pointer (some ⟨Bn, 0, none⟩), .pointer (some ⟨Bf, 0, none⟩)]) J (pre ++ partsK n f xs u k) xs wr) (fun _ t _ => n - (intOf t).toNat)
      case atStart => exact ⟨0, Nat.zero_le _, rfl, by rw [show partsK n f xs u 0 = [] from rfl, List.append_nil]; exact HS.out⟩
      case round =>
        obtain ⟨k, hk, rfl, hS⟩ := hrel
        by_cases hlt : k < n
        · have hk1 : (k : Int) < (n : Int) := by omega
          have hkn : k < n := by omega
          obtain ⟨U, hU⟩ : ∃ U : Nat, Hid ((k + 1 ≤ u ∧ U = u) ∨ (u ≤ k + 1 ∧ U = k + 1)) := by
            by_cases h : k + 1 ≤ u
            · exact ⟨u, .inl ⟨h, rfl⟩⟩
            · exact ⟨k + 1, .inr ⟨by omega, rfl⟩⟩
          have hUn : U ≤ n := by have := hU.out; omega
          have HUm : Hid (U = max u (k + 1)) := by have := hU.out; unfold Hid; omega
          have HMx : Hid ((if (u : Int) < (k : Int) + 1 then (k : Int) + 1 else (u : Int)) = (U : Int)) := by have := hU.out; unfold Hid; split <;> omega
          have hIH0 := fun W' (h : PartS l n0 m By Bf B (.func (.func 141) #[] #[.pointer (some ⟨Bm, 0, none⟩), .pointer (some ⟨By, 0, none⟩), .pointer (some ⟨Bn, 0, none⟩), .pointer (some ⟨Bf, 0, none⟩)]) J (pre ++ partsK n f xs u k) (xs ++ [(k : Int)]) W') => HIH.out k U hkn hUn (pre ++ partsK n f xs u k) W' h
          rw [List.length_append, List.length_singleton] at hIH0
          have hIH := Lib.hid hIH0
          clear hIH0
          obtain ⟨GG, hGG⟩ : ∃ GG : World → Prop, GG = fun W => J (pre ++ partsK n f xs u k) W ∧ n0 ≤ W.heap.size ∧ OneV W By (.func (.yield l) #[] #[]) 29 ∧ OneV W Bf (.func (.func 141) #[] #[.pointer (some ⟨Bm, 0, none⟩), .pointer (some ⟨By, 0, none⟩), .pointer (some ⟨Bn, 0, none⟩), .pointer (some ⟨Bf, 0, none⟩)]) 30 := ⟨_, rfl⟩
          have hnB : n0 ≤ B := (hS.row.lt B rfl).1
          have hG0 : GG wr := by rw [hGG]; exact ⟨hS.j, hS.size, hS.y, hS.f⟩
          have hGd : ∀ W, GG W → GG W.drew := fun W h => by
            rw [hGG] at h ⊢
            obtain ⟨a, b, c, d⟩ := h
            have hb := below_drewN W.heap.size W 1
            exact ⟨HSt.out _ _ _ a (hb.mono b), Nat.le_trans b hb.size, c.below hb c.lt, d.below hb d.lt⟩
          have hGa : ∀ W o, GG W → GG (W.alloc o) := fun W o h => by
            rw [hGG] at h ⊢
            obtain ⟨a, b, c, d⟩ := h
            have hb : Below W.heap.size W (W.alloc o) := (Below.refl _ _).alloc (Nat.le_refl _) _
            exact ⟨HSt.out _ _ _ a (hb.mono b), Nat.le_trans b hb.size, c.below hb c.lt, d.below hb d.lt⟩
          have hGb : ∀ W W', GG W → W.grownBy W' (some B) → GG W' := fun W W' h hg => by
            rw [hGG] at h ⊢
            obtain ⟨a, b, c, d⟩ := h
            have hb : Below n0 W W' := (Below.refl _ _).grown hg b (fun k e => by cases e; exact hnB)
            exact ⟨HSt.out _ _ _ a hb, Nat.le_trans b hb.size, c.heap (hg.block By c.lt (fun e => hyB (by cases e; rfl))), d.heap (hg.block Bf d.lt (fun e => hfB (by cases e; rfl)))⟩
          have HGc : Hid (∀ W, GG W → W.cell? ⟨Bf, 0, none⟩ = some (.func (.func 141) #[] #[.pointer (some ⟨Bm, 0, none⟩), .pointer (some ⟨By, 0, none⟩), .pointer (some ⟨Bn, 0, none⟩), .pointer (some ⟨Bf, 0, none⟩)])) := fun W h => by rw [hGG] at h; exact h.2.2.2.cell
          have HGp : Hid (∀ W, GG W → Own W n0 (some ⟨B, 0, none⟩) m (xs ++ [(k : Int)]) → PartS l n0 m By Bf B (.func (.func 141) #[] #[.pointer (some ⟨Bm, 0, none⟩), .pointer (some ⟨By, 0, none⟩), .pointer (some ⟨Bn, 0, none⟩), .pointer (some ⟨Bf, 0, none⟩)]) J (pre ++ partsK n f xs u k) (xs ++ [(k : Int)]) W) := fun W h ho => by rw [hGG] at h; exact ⟨h.1, h.2.1, ho, h.2.2.1, h.2.2.2⟩
          have hO0 := hS.row
          have hxl : xs.length + 1 ≤ m := by omega
          clear hGG hS hk
          go_wp2_with fail
          refine wp_region_inv (by kernel_rfl) (by decide +kernel) (by decide +kernel) _ _ (PartJ GG n0 B m xs (k : Int) (fun kk => match kk with | 0 => (.func (.func 141) #[] #[.pointer (some ⟨Bm, 0, none⟩), .pointer (some ⟨By, 0, none⟩), .pointer (some ⟨Bn, 0, none⟩), .pointer (some ⟨Bf, 0, none⟩)]) | 1 => (.slice (some ⟨B, 0, none⟩) xs.length m) | 2 => (.int .i64 (k : Int)) | 5 => (.int .i64 (u : Int)) | 6 => (.int .i64 (k : Int)) | 7 => (.int .i64 ((k : Int) + 1)) | 8 => (.int .i64 (U : Int)) | _ => undef) (PartE l n0 m By Bf B (.func (.func 141) #[] #[.pointer (some ⟨Bm, 0, none⟩), .pointer (some ⟨By, 0, none⟩), .pointer (some ⟨Bn, 0, none⟩), .pointer (some ⟨Bf, 0, none⟩)]) J Jx (pre ++ partsK n f xs u k ++ partsF n f (xs ++ [(k : Int)]) U) (xs ++ [(k : Int)]))) ?_ ?_ ?_
          · exact fun us => PartJ.start us (hGd _ hG0) hO0.drew1
          · intro us D W i o A hA hi hJ hnD hon K hK
            have hlt : i < 11 := (Array.getElem?_eq_some_iff.1 hi).1
            rcases rp11 hlt with rfl | rfl | rfl | rfl | rfl | rfl | rfl | rfl | rfl | rfl | rfl
            · have hi' := Option.some.inj hi
              subst hi'
              refine wp_val (v := (.func (.func 141) #[] #[.pointer (some ⟨Bm, 0, none⟩), .pointer (some ⟨By, 0, none⟩), .pointer (some ⟨Bn, 0, none⟩), .pointer (some ⟨Bf, 0, none⟩)])) (w' := W) ?_ (hK _ _ (hJ.pure (i := 0) (by decide) (by decide) (by decide) (by decide)))
              · skip
                have e5 : A.tmps[5]?.getD undef = (.pointer (some ⟨Bf, 0, none⟩)) := by rw [hA]; kernel_rfl
                have c0 := HGc.out W (hJ.g (fun h9 => hnD (hJ.o90 h9)))
                clear hA hK hon hJ
                go_simp
            · have hi' := Option.some.inj hi
              subst hi'
              refine wp_val (v := (.slice (some ⟨B, 0, none⟩) xs.length m)) (w' := W) ?_ (hK _ _ (hJ.pure (i := 1) (by decide) (by decide) (by decide) (by decide)))
              · skip
                have e0 : A.tmps[0]?.getD undef = (.slice (some ⟨B, 0, none⟩) xs.length m) := by rw [hA]; kernel_rfl
                clear hA hK hon hJ
                go_simp
            · have hi' := Option.some.inj hi
              subst hi'
              refine wp_val (v := (.int .i64 (k : Int))) (w' := W) ?_ (hK _ _ (hJ.pure (i := 2) (by decide) (by decide) (by decide) (by decide)))
              · skip
                have e9 : A.tmps[9]?.getD undef = (.int .i64 (k : Int)) := by rw [hA]; kernel_rfl
                clear hA hK hon hJ
                go_simp
            · have hi' := Option.some.inj hi
              subst hi'
              have n9 : ¬ D 9 := fun hd => hnD (hJ.o4 (hJ.o9 hd))
              refine wp_val (v := .slice (some ⟨W.heap.size, 0, none⟩) 1 1) (w' := W.alloc (.cells #[.int .i64 (k : Int)] 3)) ?_ (hK _ _ (hJ.build hnD _ (fun hG => hGa _ _ hG)))
              · skip
                have e26 : A.tmps[26]?.getD undef = (.int .i64 (k : Int)) := (by rw [hA]; kernel_rfl : A.tmps[26]?.getD undef = us 2).trans (hJ.val 2 (by decide) (by decide) (by decide) (by decide) (hon 2 (by decide +kernel)))
                clear hA hK hon hJ
                go_simp
            · have hi' := Option.some.inj hi
              subst hi'
              have n9 : ¬ D 9 := fun hd => hnD (hJ.o9 hd)
              obtain ⟨b', hb', hc'⟩ := hJ.lit (hon 3 (by decide +kernel)) hnD
              have e25 : A.tmps[25]?.getD undef = (.slice (some ⟨B, 0, none⟩) xs.length m) := (by rw [hA]; kernel_rfl : A.tmps[25]?.getD undef = us 1).trans (hJ.val 1 (by decide) (by decide) (by decide) (by decide) (hon 1 (by decide +kernel)))
              have e27 : A.tmps[27]?.getD undef = .slice (some ⟨b', 0, none⟩) 1 1 := (by rw [hA]; kernel_rfl : A.tmps[27]?.getD undef = us 3).trans hb'
              refine wp_append_own_spare _ (.tmp 25) (.tmp 27) 25 (by rfl) n0 3 i0 1 Tryz.underlying25 hi0 hn1' B xs.length m (xs.map (Value.int .i64)) ((evalTmp A 25).trans e25) (hJ.row0 hnD).row ⟨b', 0, none⟩ 1 1 [.int .i64 (k : Int)] ((evalTmp A 27).trans e27) rfl (newsOne hc') (by simp [Value.oneCell']) (by omega) ?_
              intro w4 hO4 hg4
              exact hK _ _ (hJ.append hnD (hon 3 (by decide +kernel)) (hGb _ _ (hJ.g n9) hg4) (own_snocR hO4 (hJ.row0 hnD).rng ⟨by omega, by omega⟩))
            · have hi' := Option.some.inj hi
              subst hi'
              refine wp_val (v := (.int .i64 (u : Int))) (w' := W) ?_ (hK _ _ (hJ.pure (i := 5) (by decide) (by decide) (by decide) (by decide)))
              · skip
                have e1 : A.tmps[1]?.getD undef = (.int .i64 (u : Int)) := by rw [hA]; kernel_rfl
                clear hA hK hon hJ
                go_simp
            · have hi' := Option.some.inj hi
              subst hi'
              refine wp_val (v := (.int .i64 (k : Int))) (w' := W) ?_ (hK _ _ (hJ.pure (i := 6) (by decide) (by decide) (by decide) (by decide)))
              · skip
                have e9 : A.tmps[9]?.getD undef = (.int .i64 (k : Int)) := by rw [hA]; kernel_rfl
                clear hA hK hon hJ
                go_simp
            · have hi' := Option.some.inj hi
              subst hi'
              refine wp_val (v := (.int .i64 ((k : Int) + 1))) (w' := W) ?_ (hK _ _ (hJ.pure (i := 7) (by decide) (by decide) (by decide) (by decide)))
              · skip
                have e30 : A.tmps[30]?.getD undef = (.int .i64 (k : Int)) := (by rw [hA]; kernel_rfl : A.tmps[30]?.getD undef = us 6).trans (hJ.val 6 (by decide) (by decide) (by decide) (by decide) (hon 6 (by decide +kernel)))
                have hwA : IntKind.i64.wrap ((k : Int) + 1) = (k : Int) + 1 := IntWalk.i64_in _ (by omega)
                clear hA hK hon hJ
                go_simp
            · have hi' := Option.some.inj hi
              subst hi'
              refine wp_val (v := (.int .i64 (U : Int))) (w' := W) ?_ (hK _ _ (hJ.pure (i := 8) (by decide) (by decide) (by decide) (by decide)))
              · skip
                have e29 : A.tmps[29]?.getD undef = (.int .i64 (u : Int)) := (by rw [hA]; kernel_rfl : A.tmps[29]?.getD undef = us 5).trans (hJ.val 5 (by decide) (by decide) (by decide) (by decide) (hon 5 (by decide +kernel)))
                have e31 : A.tmps[31]?.getD undef = (.int .i64 ((k : Int) + 1)) := (by rw [hA]; kernel_rfl : A.tmps[31]?.getD undef = us 7).trans (hJ.val 7 (by decide) (by decide) (by decide) (by decide) (hon 7 (by decide +kernel)))
                have hmx := HMx.out
                clear hA hK hon hJ
                go_simp
                all_goals (have hum := HUm.out; omega)
            · have hi' := Option.some.inj hi
              subst hi'
              have h4 := hon 4 (by decide +kernel)
              obtain ⟨r1, r2⟩ := hJ.row1 h4
              have e24 : A.tmps[24]?.getD undef = (.func (.func 141) #[] #[.pointer (some ⟨Bm, 0, none⟩), .pointer (some ⟨By, 0, none⟩), .pointer (some ⟨Bn, 0, none⟩), .pointer (some ⟨Bf, 0, none⟩)]) := (by rw [hA]; kernel_rfl : A.tmps[24]?.getD undef = us 0).trans (hJ.val 0 (by decide) (by decide) (by decide) (by decide) (hon 0 (by decide +kernel)))
              have e28 : A.tmps[28]?.getD undef = (.slice (some ⟨B, 0, none⟩) (xs.length + 1) m) := (by rw [hA]; kernel_rfl : A.tmps[28]?.getD undef = us 4).trans r1
              have e32 : A.tmps[32]?.getD undef = (.int .i64 (U : Int)) := (by rw [hA]; kernel_rfl : A.tmps[32]?.getD undef = us 8).trans (hJ.val 8 (by decide) (by decide) (by decide) (by decide) (hon 8 (by decide +kernel)))
              refine wp_enter (f := 141) (args := #[.slice (some ⟨B, 0, none⟩) (xs.length + 1) m, .int .i64 (U : Int), .pointer (some ⟨Bm, 0, none⟩), .pointer (some ⟨By, 0, none⟩), .pointer (some ⟨Bn, 0, none⟩), .pointer (some ⟨Bf, 0, none⟩)]) (w' := W) ?_ ((hIH.out W (HGp.out W (hJ.g hnD) (r2 hnD))).mono ?_)
              · skip
                clear hA hK hon hJ r1 r2
                go_simp
              · rintro e w2 ⟨b2, rfl, hE⟩
                exact ⟨_, rfl, hK _ _ (hJ.call hnD h4 (hon 0 (by decide +kernel)) hE)⟩
            · have hi' := Option.some.inj hi
              subst hi'
              have h9 := hon 9 (by decide +kernel)
              obtain ⟨b2, hb2, _, _⟩ := hJ.fin h9
              refine wp_val (v := .bool (!b2)) (w' := W) ?_ (hK _ _ (hJ.neg h9 hb2))
              · skip
                have e33 : A.tmps[33]?.getD undef = .bool b2 := (by rw [hA]; kernel_rfl : A.tmps[33]?.getD undef = us 9).trans hb2
                clear hA hK hon hJ
                go_simp
          · intro us D W hJ hall
            obtain ⟨b2, hb9, hE, hb10⟩ := hJ.fin (hall 9 (by decide))
            have hb10' := hb10 (hall 10 (by decide))
            rcases hE with ⟨rfl, hS3⟩ | ⟨rfl, pre3, hJx⟩
            · have hS4 : Hid (PartS l n0 m By Bf B (.func (.func 141) #[] #[.pointer (some ⟨Bm, 0, none⟩), .pointer (some ⟨By, 0, none⟩), .pointer (some ⟨Bn, 0, none⟩), .pointer (some ⟨Bf, 0, none⟩)]) J (pre ++ partsK n f xs u (k + 1)) xs W) := ⟨by rw [partsK_succ, ← HUm.out, ← List.append_assoc]; exact hS3.j, hS3.size, by have := hS3.row.take (k := xs.length) (by simp) (by simp); rwa [List.take_left] at this, hS3.y, hS3.f⟩
              clear hJ hall hb10 hS3 HGc HGp hIH HIH
              simp only [actL, slotL, putL, List.setIfInBounds_toArray, List.set_cons_zero, List.set_cons_succ, Nat.zero_add, Nat.reduceAdd, hb10', Bool.not_true]
              go_wp2_with fail
              go_roundw
              case rel => exact ⟨k + 1, by omega, by go_num, hS4.out⟩
              case measure => (simp [intOf] <;> omega)
            · have hX : Hid (∃ pre, Jx pre W) := ⟨pre3, hJx⟩
              clear hJ hall hb10 hJx HGc HGp hIH HIH
              simp only [actL, slotL, putL, List.setIfInBounds_toArray, List.set_cons_zero, List.set_cons_succ, Nat.zero_add, Nat.reduceAdd, hb10', Bool.not_false]
              go_wp2_with fail
              go_ret
              exact ⟨false, rfl, .inr ⟨rfl, hX.out⟩⟩
        · have hk1 : ¬ (k : Int) < (n : Int) := by omega
          have HEn : Hid (partsF n (f + 1) xs u = partsK n f xs u k) := by unfold Hid partsF partsK; rw [show min (u + 1) n = k by omega]
          go_wp2_with fail
          go_ret
          exact Or.inr ⟨rfl, Or.inl ⟨rfl, by rw [HEn.out]; exact hS⟩⟩
end Go.Proofs.YtmcncflieoolmaaGreat
