/- The walk of share.partitions' iterator: it gives lists of m digits below n; no condition but that m and n are small. -/
import Derived.Test.YtmcncflieoolmaaGreatTopTopGoodsm13
import Derived.Deep.DeepCutAuto
import Derived.Test.YtmcncflieoolmaaGreatTopTopGoodsm7
import Derived.Test.YtmcncflieoolmaaGreatTopTopGoodsm2
import Derived.Test.YtmcncflieoolmaaGreatTopTopGoodsm3
import Derived.Test.YtmcncflieoolmaaGreatTopTopGoodsm10
import Derived.Test.YtmcncflieoolmaaGreatTopTopGoodsm11
import Derived.RangeFuncCalls
import Derived.StillTailTactics
/- The walk of share.partitions' iterator: it gives lists of m digits below n; no condition but that m and n are small. -/
namespace Go.Proofs.YtmcncflieoolmaaGreat
set_option linter.unusedSimpArgs false
open Go.ChangeShapes Go.WideShapes Go.ChangeAt Go.RowKit Go.Deep
set_option linter.unusedVariables false

theorem run_store_func' {P : Program} {w : World} {ad : Addr} {m : Mode} (f : Fn) (x y : Array Value) : (store ad (.func f x y) m).run P w = stored P w ad (.func f x y) m := run_store P w ad _ m rfl
attribute [local go_sem] run_store_func'
/-- 'make([]int, 0, m)', at the operation. -/
theorem wp_mk0 {w : World} {o : Oper} {a : Act} {K : Act → World → Prop} {Q : Exit → Act → World → Prop} (l c : Operand) (hop : o.op = Op.makeSlice 25 l c)
    (base m : Nat) (hl : a.eval l = .int .i64 0) (hc : a.eval c = .int .i64 (m : Int)) (hn : m ≤ 1000000) (hb : base ≤ w.heap.size)
    (hK : ∀ w', Own w' base (some ⟨w.heap.size, 0, none⟩) m [] → w.grownBy w' none → K (a.put o.dst (.slice (some ⟨w.heap.size, 0, none⟩) 0 m)) w') : o.wp Tryz.prog a w K Q := by
  obtain ⟨i, hi, hz0, hz1, hz2⟩ := info_parts infoInt
  obtain ⟨w', hrun, h1, h2⟩ := run_make_own (P := Tryz.prog) w base 25 3 i (.int .i64 0) 1 Tryz.underlying25 hi hz0 hz1 .i64 .i64 m (by rw [hz2]; omega) (by simp [maxLen]; omega) hb
  unfold Oper.wp
  simp [execOp, hop, hl, hc, hrun, Result.andThen]
  exact hK w' ⟨h1, fun j hj => by simp at hj⟩ h2
/-- The state of the region that makes the row and calls. -/
structure PartK (G : World → Prop) (n0 By Bf m : Nat) (v0 : Value) (Post : World → Prop) (us : Nat → Value) (D : Nat → Prop) (W : World) : Prop where
  v0 : D 0 → us 0 = v0
  v1 : D 1 → us 1 = .int .i64 (m : Int)
  g : ¬ D 3 → G W
  mkd : D 2 → ¬ D 3 → ∃ B, us 2 = .slice (some ⟨B, 0, none⟩) 0 m ∧ Own W n0 (some ⟨B, 0, none⟩) m [] ∧ By ≠ B ∧ Bf ≠ B
  o2 : D 2 → D 1
  o : D 3 → D 0 ∧ D 1 ∧ D 2
  fin : D 3 → Post W
theorem rp4 {i : Nat} (h : i < 4) : i = 0 ∨ i = 1 ∨ i = 2 ∨ i = 3 := by omega

set_option maxRecDepth 100000 in
set_option maxHeartbeats 8000000 in
theorem part1_seq (Bm Bn m n : Nat) (hm : m ≤ 10) (hn1 : 1 ≤ n) (hn : n ≤ 6) :
    SeqR 140 #[.pointer (some ⟨Bm, 0, none⟩), .pointer (some ⟨Bn, 0, none⟩)] (fun W => W.cell? ⟨Bm, 0, none⟩ = some (.int .i64 (m : Int)) ∧ W.cell? ⟨Bn, 0, none⟩ = some (.int .i64 (n : Int))) (DigL n m) (fun xs => xs = partsF n m [] 0) := by
  intro l J Jx W hSt hStx hPre hY h0J
  obtain ⟨W1, hW1⟩ : ∃ A, W.alloc (.cells #[.func (.yield l) #[] #[]] 29) = A := ⟨_, rfl⟩
  obtain ⟨W2, hW2⟩ : ∃ A, W1.alloc (.cells #[.func (.func 141) #[] #[.pointer (some ⟨Bm, 0, none⟩), .pointer (some ⟨W.heap.size, 0, none⟩), .pointer (some ⟨Bn, 0, none⟩), .pointer (some ⟨W.heap.size + 1, 0, none⟩)]] 30) = A := ⟨_, rfl⟩
  have hB1 := below_alloc hW1
  have hB2 := below_alloc hW2
  have hs1 : W1.heap.size = W.heap.size + 1 := by rw [← hW1]; simp
  have hs2 : W2.heap.size = W.heap.size + 2 := by rw [← hW2]; simp [hs1]
  have y2 : OneV W2 W.heap.size (.func (.yield l) #[] #[]) 29 := (OneV.new rfl hW1).below hB2 (by omega)
  have f2 : OneV W2 (W.heap.size + 1) _ 30 := OneV.new hs1 hW2
  have hBW : Below W.heap.size W W2 := hB1.trans (hB2.mono (by omega))
  have hJ2 : J [] W2 := hSt _ _ _ h0J hBW
  obtain ⟨cm2, _⟩ := hPre _ _ hJ2
  obtain ⟨n0, hn0⟩ : ∃ n0, W.heap.size = n0 := ⟨_, rfl⟩
  rw [hn0] at hSt hY y2 f2 hs2
  have HIH := Lib.hid (fun B hyB hfB => part_any l m n n0 Bm n0 Bn (n0 + 1) B J Jx hSt hPre hm hn1 hn (Nat.le_refl _) (by omega) hyB hfB hY m [] 0 [])
  have HW1 := Lib.hid hW1
  have HW2 := Lib.hid hW2
  have Hn0 := Lib.hid hn0
  obtain ⟨GG, hGG⟩ : ∃ GG : World → Prop, GG = fun A => J [] A ∧ n0 + 2 ≤ A.heap.size ∧ OneV A n0 (.func (.yield l) #[] #[]) 29 ∧ OneV A (n0 + 1) (.func (.func 141) #[] #[.pointer (some ⟨Bm, 0, none⟩), .pointer (some ⟨n0, 0, none⟩), .pointer (some ⟨Bn, 0, none⟩), .pointer (some ⟨n0 + 1, 0, none⟩)]) 30 := ⟨_, rfl⟩
  have hG2 : GG W2 := by rw [hGG]; exact ⟨hJ2, by omega, y2, f2⟩
  have hGb : ∀ A A', GG A → Below A.heap.size A A' → GG A' := fun A A' h hb => by
    rw [hGG] at h ⊢
    obtain ⟨a, b, c, d⟩ := h
    exact ⟨hSt _ _ _ a (hb.mono (by omega)), Nat.le_trans b hb.size, c.below hb c.lt, d.below hb d.lt⟩
  have HGf : Hid (∀ A, GG A → A.cell? ⟨n0 + 1, 0, none⟩ = some (.func (.func 141) #[] #[.pointer (some ⟨Bm, 0, none⟩), .pointer (some ⟨n0, 0, none⟩), .pointer (some ⟨Bn, 0, none⟩), .pointer (some ⟨n0 + 1, 0, none⟩)])) := fun A h => by rw [hGG] at h; exact h.2.2.2.cell
  have HGm : Hid (∀ A, GG A → A.cell? ⟨Bm, 0, none⟩ = some (.int .i64 (m : Int))) := fun A h => by rw [hGG] at h; exact (hPre _ _ h.1).1
  have HGs : Hid (∀ A, GG A → n0 + 2 ≤ A.heap.size) := fun A h => by rw [hGG] at h; exact h.2.1
  have HGp : Hid (∀ A B, GG A → Own A n0 (some ⟨B, 0, none⟩) m [] → PartS l n0 m n0 (n0 + 1) B (.func (.func 141) #[] #[.pointer (some ⟨Bm, 0, none⟩), .pointer (some ⟨n0, 0, none⟩), .pointer (some ⟨Bn, 0, none⟩), .pointer (some ⟨n0 + 1, 0, none⟩)]) J [] [] A) := fun A B h ho => by rw [hGG] at h; exact ⟨h.1, by omega, ho, h.2.2.1, h.2.2.2⟩
  clear hW1 hW2 hB1 hB2 hs1 y2 f2 hBW hJ2 hGG hSt hStx hPre hY h0J hn0
  go_enter Tryz.func140, Tryz.ntmps140
  go_upto_region 3 with (fail)
  try rw [HW1.out]
  try rw [HW2.out]
  try rw [Hn0.out]
  refine wp_region_inv (by kernel_rfl) (by decide +kernel) (by decide +kernel) _ _ (PartK GG n0 n0 (n0 + 1) m (.func (.func 141) #[] #[.pointer (some ⟨Bm, 0, none⟩), .pointer (some ⟨n0, 0, none⟩), .pointer (some ⟨Bn, 0, none⟩), .pointer (some ⟨n0 + 1, 0, none⟩)]) (fun A => J (partsF n m [] 0) A ∨ ∃ pre, Jx pre A)) ?_ ?_ ?_
  · exact fun us => ⟨fun h => h.elim, fun h => h.elim, fun _ => hGb _ _ hG2 (below_drewN _ _ 1), fun h => h.elim, fun h => h.elim, fun h => h.elim, fun h => h.elim⟩
  · intro us D A0 i o A hA hi hJ hnD hon K hK
    have hlt : i < 4 := (Array.getElem?_eq_some_iff.1 hi).1
    rcases rp4 hlt with rfl | rfl | rfl | rfl
    · have hi' := Option.some.inj hi
      subst hi'
      have n3 : ¬ D 3 := fun h => hnD (hJ.o h).1
      refine wp_val (v := .func (.func 141) #[] #[.pointer (some ⟨Bm, 0, none⟩), .pointer (some ⟨n0, 0, none⟩), .pointer (some ⟨Bn, 0, none⟩), .pointer (some ⟨n0 + 1, 0, none⟩)]) (w' := A0) ?_ (hK _ _ ⟨fun _ => upd_same _ _ _, fun h => by rw [upd_ne (by decide)]; exact hJ.v1 (orNe h (by decide)), fun h => hJ.g n3, fun h h3 => by rw [upd_ne (by decide)]; exact hJ.mkd (orNe h (by decide)) n3, fun h => .inr (hJ.o2 (orNe h (by decide))), fun h => (n3 (orNe h (by decide))).elim, fun h => (n3 (orNe h (by decide))).elim⟩)
      have e4 : A.tmps[4]?.getD undef = (.pointer (some ⟨n0 + 1, 0, none⟩)) := by rw [hA]; kernel_rfl
      have c0 := HGf.out A0 (hJ.g n3)
      clear hA hK hon hJ
      go_simp
    · have hi' := Option.some.inj hi
      subst hi'
      have n3 : ¬ D 3 := fun h => hnD (hJ.o h).2.1
      refine wp_val (v := .int .i64 (m : Int)) (w' := A0) ?_ (hK _ _ ⟨fun h => by rw [upd_ne (by decide)]; exact hJ.v0 (orNe h (by decide)), fun _ => upd_same _ _ _, fun h => hJ.g n3, fun h h3 => by rw [upd_ne (by decide)]; exact hJ.mkd (orNe h (by decide)) n3, fun h => .inl rfl, fun h => (n3 (orNe h (by decide))).elim, fun h => (n3 (orNe h (by decide))).elim⟩)
      have e4 : A.tmps[1]?.getD undef = (.pointer (some ⟨Bm, 0, none⟩)) := by rw [hA]; kernel_rfl
      have c0 := HGm.out A0 (hJ.g n3)
      clear hA hK hon hJ
      go_simp
    · have hi' := Option.some.inj hi
      subst hi'
      have n3 : ¬ D 3 := fun h => hnD (hJ.o h).2.2
      have e7 : A.tmps[7]?.getD undef = .int .i64 (m : Int) := (by rw [hA]; kernel_rfl : A.tmps[7]?.getD undef = us 1).trans (hJ.v1 (hon 1 (by decide +kernel)))
      have hg := hJ.g n3
      have hsz := HGs.out A0 hg
      refine wp_mk0 (.const (.int .i64 0)) (.tmp 7) rfl n0 m rfl ((evalTmp A 7).trans e7) (by omega) (by omega) ?_
      intro w4 hO4 hg4
      have hb4 : Below A0.heap.size A0 w4 := (Below.refl _ _).grown hg4 (Nat.le_refl _) (fun k e => by cases e)
      exact hK _ _ ⟨fun h => by rw [upd_ne (by decide)]; exact hJ.v0 (orNe h (by decide)), fun h => by rw [upd_ne (by decide)]; exact hJ.v1 (orNe h (by decide)), fun h => hGb _ _ hg hb4, fun h h3 => ⟨_, upd_same _ _ _, hO4, by omega, by omega⟩, fun h => .inr (hon 1 (by decide +kernel)), fun h => (n3 (orNe h (by decide))).elim, fun h => (n3 (orNe h (by decide))).elim⟩
    · have hi' := Option.some.inj hi
      subst hi'
      have h0 := hon 0 (by decide +kernel)
      have h2 := hon 2 (by decide +kernel)
      obtain ⟨B, r1, r2, r3, r4⟩ := hJ.mkd h2 hnD
      have e6 : A.tmps[6]?.getD undef = .func (.func 141) #[] #[.pointer (some ⟨Bm, 0, none⟩), .pointer (some ⟨n0, 0, none⟩), .pointer (some ⟨Bn, 0, none⟩), .pointer (some ⟨n0 + 1, 0, none⟩)] := (by rw [hA]; kernel_rfl : A.tmps[6]?.getD undef = us 0).trans (hJ.v0 h0)
      have e8 : A.tmps[8]?.getD undef = .slice (some ⟨B, 0, none⟩) 0 m := (by rw [hA]; kernel_rfl : A.tmps[8]?.getD undef = us 2).trans r1
      have HC := HIH.out B r3 r4 A0 (by simp) (Nat.zero_le _) (fun j hj => by simp at hj) (HGp.out A0 B (hJ.g hnD) r2)
      refine wp_enter (f := 141) (args := #[.slice (some ⟨B, 0, none⟩) 0 m, .int .i64 0, .pointer (some ⟨Bm, 0, none⟩), .pointer (some ⟨n0, 0, none⟩), .pointer (some ⟨Bn, 0, none⟩), .pointer (some ⟨n0 + 1, 0, none⟩)]) (w' := A0) ?_ (HC.mono ?_)
      · clear hA hK hon hJ r1 r2 HC
        go_simp
      · rintro e w2 ⟨b2, rfl, hE⟩
        refine ⟨_, rfl, hK _ _ ⟨fun h => by rw [upd_ne (by decide)]; exact hJ.v0 (orNe h (by decide)), fun h => by rw [upd_ne (by decide)]; exact hJ.v1 (orNe h (by decide)), fun h => (h (.inl rfl)).elim, fun _ h => (h (.inl rfl)).elim, fun _ => .inr (hJ.o2 h2), fun _ => ⟨.inr h0, .inr (hJ.o2 h2), .inr h2⟩, fun _ => ?_⟩⟩
        · rcases hE with ⟨rfl, hS⟩ | ⟨rfl, pre, hx⟩
          · exact .inl (by have := hS.j; rwa [List.nil_append] at this)
          · exact .inr ⟨pre, hx⟩
  · intro us D A hJ hall
    have hF := hJ.fin (hall 3 (by decide))
    have HF := Lib.hid hF
    clear hJ hall hF
    simp only [actL, slotL, putL, List.setIfInBounds_toArray, List.set_cons_zero, List.set_cons_succ, Nat.zero_add, Nat.reduceAdd]
    go_wp2_with fail
    go_end0
    refine ⟨⟨_, rfl⟩, ?_⟩
    rcases HF.out with h | ⟨pre, h⟩
    · exact .inl ⟨_, rfl, h⟩
    · exact .inr ⟨pre, h⟩
end Go.Proofs.YtmcncflieoolmaaGreat

/- A block of known values: an array; no condition. -/
namespace Go.Proofs.YtmcncflieoolmaaGreat
set_option linter.unusedVariables false
set_option linter.unusedSimpArgs false
open Go.ChangeShapes Go.WideShapes Go.ChangeAt Go.RowKit Go.Deep

def Arr (w : World) (S : Nat) (vs : List Value) (t : TypeId) : Prop := w.heap[S]? = some (.cells vs.toArray t (0, 0))
theorem Arr.lt {w : World} {S : Nat} {vs : List Value} {t : TypeId} (h : Arr w S vs t) : S < w.heap.size := (Array.getElem?_eq_some_iff.1 h).1
theorem Arr.cell {w : World} {S : Nat} {vs : List Value} {t : TypeId} (h : Arr w S vs t) {j : Nat} {v : Value} (hj : vs[j]? = some v) : w.cell? ⟨S, j, none⟩ = some v := by
  unfold Arr at h
  simp [World.cell?, h, hj]
theorem Arr.free {w : World} {S : Nat} {vs : List Value} {t : TypeId} (h : Arr w S vs t) (j : Nat) : w.frozen? ⟨S, j, none⟩ = false := by
  unfold Arr at h
  simp [World.frozen?, h]
theorem Arr.below {w w' : World} {B S : Nat} {vs : List Value} {t : TypeId} (h : Arr w S vs t) (hb : Below B w w') (hS : S < B) : Arr w' S vs t := (hb.block S hS).trans h
theorem Arr.heap {w w' : World} {S : Nat} {vs : List Value} {t : TypeId} (h : Arr w S vs t) (hh : w'.heap[S]? = w.heap[S]?) : Arr w' S vs t := hh.trans h
theorem Arr.new {w w' : World} {S : Nat} {vs : List Value} {t : TypeId} (hS : w.heap.size = S) (hw : w.alloc (.cells vs.toArray t) = w') : Arr w' S vs t := by
  subst hS hw; exact World.alloc_heap_new w _
theorem Arr.other {w : World} {S S' j : Nat} {vs : List Value} {u : Value} {t : TypeId} (h : Arr w S vs t) (hne : S ≠ S') : Arr (w.setCell ⟨S', j, none⟩ u) S vs t :=
  (Below.heap_setCell w ⟨S', j, none⟩ u S (fun e => hne e)).trans h
theorem Arr.set {w : World} {S j : Nat} {vs : List Value} {u : Value} {t : TypeId} (h : Arr w S vs t) : Arr (w.setCell ⟨S, j, none⟩ u) S (vs.set j u) t := by
  obtain ⟨hlt, hk⟩ := Array.getElem?_eq_some_iff.1 h
  show (w.heap.modify S _)[S]? = _
  rw [Array.getElem?_eq_getElem (by rw [Array.size_modify]; exact hlt), Array.getElem_modify_self, hk]
  simp
theorem Arr.drewN {w : World} {S n : Nat} {vs : List Value} {t : TypeId} (h : Arr w S vs t) : Arr (w.drewN n) S vs t := h.below (below_drewN w.heap.size w n) h.lt
theorem Arr.drew1 {w : World} {S : Nat} {vs : List Value} {t : TypeId} (h : Arr w S vs t) : Arr w.drew S vs t := h.below (below_drewN w.heap.size w 1) h.lt
end Go.Proofs.YtmcncflieoolmaaGreat

/- The walk of slices.Min at a list that is not empty. -/
namespace Go.Proofs.YtmcncflieoolmaaGreat
set_option linter.unusedVariables false
set_option linter.unusedSimpArgs false
open Go.ChangeShapes Go.WideShapes Go.ChangeAt Go.RowKit Go.Deep

def lowTo (xs : List Int) : Nat → Int
  | 0 => iget xs 0
  | k + 1 => min (lowTo xs k) (iget xs k)
theorem lowTo_one (xs : List Int) : lowTo xs 1 = iget xs 0 := by simp [lowTo]
theorem lowTo_le (xs : List Int) : ∀ k j, j < k → lowTo xs k ≤ iget xs j
  | k + 1, j, h => by
    rw [lowTo]
    by_cases e : j = k
    · subst e; omega
    · have := lowTo_le xs k j (by omega); omega
theorem lowTo_mem (xs : List Int) : ∀ k, 1 ≤ k → ∃ j, j < k ∧ lowTo xs k = iget xs j
  | k + 1, _ => by
    by_cases h0 : k = 0
    · subst h0; exact ⟨0, by omega, lowTo_one xs⟩
    · obtain ⟨j, hj, he⟩ := lowTo_mem xs k (by omega)
      rw [lowTo]
      by_cases h : lowTo xs k ≤ iget xs k
      · exact ⟨j, by omega, by omega⟩
      · exact ⟨k, by omega, by omega⟩
set_option maxHeartbeats 800000 in
theorem sMin_any (p : Option Addr) (c : Nat) (xs : List Int) (w : World) (hx : Ints w p c xs) (h0 : 0 < xs.length) :
    Calls Tryz.prog 115 #[.slice p xs.length c] w fun e w' => e = .returned (.int .i64 (lowTo xs xs.length)) ∧ w' = w := by
  have hl1 := hx.length_le
  obtain ⟨b, o, rfl, _, hc0⟩ := hx.get h0
  rw [Nat.add_zero] at hc0
  have hd : decide ((xs.length : Int) < 1) = false := by rw [decide_eq_false_iff_not]; omega
  have h01 : (0 : Int) < xs.length := by omega
  have H1 := Lib.hid (lowTo_one xs)
  go_enter Tryz.func115, Tryz.ntmps115
  go_wp2_with fail
  go_loop [3, 4] (fun s t => ∃ k : Nat, 1 ≤ k ∧ k ≤ xs.length ∧ t = .int .i64 k ∧ s = .int .i64 (lowTo xs k)) (fun _ t => xs.length - (intOf t).toNat)
  case atStart => exact ⟨1, Nat.le_refl _, h0, rfl, by rw [H1.out]⟩
  case round =>
    obtain ⟨k, hk0, hk, rfl, rfl⟩ := hrel
    by_cases hlt : k < xs.length
    · have hk1 : (k : Int) < xs.length := by omega
      have hc := hx.at hlt
      have HS : Hid (lowTo xs (k + 1) = min (lowTo xs k) (iget xs k)) := rfl
      generalize lowTo xs k = y at *
      generalize iget xs k = z at *
      by_cases hyz : y ≤ z
      · have hm : min y z = y := by omega
        rw [hm] at HS
        go_wp2_with fail
        go_round
        case rel => exact ⟨k + 1, by omega, by omega, by go_num, by rw [HS.out] <;> first | rfl | (congr 1; omega)⟩
        case measure => (simp [intOf] <;> omega)
      · have hm : min y z = z := by omega
        rw [hm] at HS
        go_wp2_with fail
        go_round
        case rel => exact ⟨k + 1, by omega, by omega, by go_num, by rw [HS.out] <;> first | rfl | (congr 1; omega)⟩
        case measure => (simp [intOf] <;> omega)
    · have hk1 : ¬ (k : Int) < xs.length := by omega
      obtain rfl : k = xs.length := by omega
      go_wp2_with fail
      go_ret
      exact ⟨rfl, rfl⟩
end Go.Proofs.YtmcncflieoolmaaGreat

/- The walks of share's least, best, Of and All: each share is what the poorest of some partition's bundles is worth; no condition but that the goods are valid. -/
namespace Go.Proofs.YtmcncflieoolmaaGreat
set_option linter.unusedSimpArgs false
open Go.ChangeShapes Go.WideShapes Go.ChangeAt Go.RowKit Go.Deep
set_option linter.unusedVariables false
attribute [local go_sem] Oper.semAt_some run_store_func'

theorem run_arr6_0 (S : Nat) (W : World) : (Instr.sliceAt 177 (.pointer (some ⟨S, 0, none⟩)) none (some (.int .i64 (((0 : Nat) : Int) : Int))) none).run Tryz.prog W = .ok (.slice (some ⟨S, 0, none⟩) 0 6) W := by kernel_rfl
theorem run_arr6_1 (S : Nat) (W : World) : (Instr.sliceAt 177 (.pointer (some ⟨S, 0, none⟩)) none (some (.int .i64 (((1 : Nat) : Int) : Int))) none).run Tryz.prog W = .ok (.slice (some ⟨S, 0, none⟩) 1 6) W := by kernel_rfl
theorem run_arr6_2 (S : Nat) (W : World) : (Instr.sliceAt 177 (.pointer (some ⟨S, 0, none⟩)) none (some (.int .i64 (((2 : Nat) : Int) : Int))) none).run Tryz.prog W = .ok (.slice (some ⟨S, 0, none⟩) 2 6) W := by kernel_rfl
theorem run_arr6_3 (S : Nat) (W : World) : (Instr.sliceAt 177 (.pointer (some ⟨S, 0, none⟩)) none (some (.int .i64 (((3 : Nat) : Int) : Int))) none).run Tryz.prog W = .ok (.slice (some ⟨S, 0, none⟩) 3 6) W := by kernel_rfl
theorem run_arr6_4 (S : Nat) (W : World) : (Instr.sliceAt 177 (.pointer (some ⟨S, 0, none⟩)) none (some (.int .i64 (((4 : Nat) : Int) : Int))) none).run Tryz.prog W = .ok (.slice (some ⟨S, 0, none⟩) 4 6) W := by kernel_rfl
theorem run_arr6_5 (S : Nat) (W : World) : (Instr.sliceAt 177 (.pointer (some ⟨S, 0, none⟩)) none (some (.int .i64 (((5 : Nat) : Int) : Int))) none).run Tryz.prog W = .ok (.slice (some ⟨S, 0, none⟩) 5 6) W := by kernel_rfl
theorem run_arr6_6 (S : Nat) (W : World) : (Instr.sliceAt 177 (.pointer (some ⟨S, 0, none⟩)) none (some (.int .i64 (((6 : Nat) : Int) : Int))) none).run Tryz.prog W = .ok (.slice (some ⟨S, 0, none⟩) 6 6) W := by kernel_rfl
theorem run_arr6 (S n : Nat) (hn : n ≤ 6) (W : World) : (Instr.sliceAt 177 (.pointer (some ⟨S, 0, none⟩)) none (some (.int .i64 (n : Int))) none).run Tryz.prog W = .ok (.slice (some ⟨S, 0, none⟩) n 6) W := by
  have h : n = 0 ∨ n = 1 ∨ n = 2 ∨ n = 3 ∨ n = 4 ∨ n = 5 ∨ n = 6 := by omega
  rcases h with rfl | rfl | rfl | rfl | rfl | rfl | rfl
  · exact run_arr6_0 S W
  · exact run_arr6_1 S W
  · exact run_arr6_2 S W
  · exact run_arr6_3 S W
  · exact run_arr6_4 S W
  · exact run_arr6_5 S W
  · exact run_arr6_6 S W
/-- What the six bundles' first m goods are worth. -/
def sumL (v : List (List Int)) (i : Nat) (x : List Int) (m : Nat) : List Int := (List.range 6).map fun (b : Nat) => worthUp v x i (Int.ofNat b) m
theorem sumL_len (v : List (List Int)) (i : Nat) (x : List Int) (m : Nat) : (sumL v i x m).length = 6 := by simp [sumL]
theorem sumL_get {v : List (List Int)} {i : Nat} {x : List Int} {m b : Nat} (hb : b < 6) : iget (sumL v i x m) b = worthUp v x i (b : Int) m := by simp [sumL, iget, hb]
theorem sumL_set {v : List (List Int)} {i : Nat} {x : List Int} {m k : Nat} (hk : iget x m = (k : Int)) (hk6 : k < 6) : sumL v i x (m + 1) = (sumL v i x m).set k (iget (sumL v i x m) k + iget (rget v i) m) := by
  refine ext_iget (by rw [List.length_set, sumL_len, sumL_len]) fun j hj => ?_
  rw [sumL_len] at hj
  rw [iget_set (by rw [sumL_len]; exact hk6), sumL_get hj, sumL_get hk6]
  by_cases e : k = j
  · subst e
    rw [if_pos rfl, worthUp_eq hk]
  · rw [if_neg e, worthUp_ne (by rw [hk]; omega), sumL_get hj]
theorem arr_ints {w : World} {S : Nat} {xs : List Int} {t : TypeId} {n : Nat} (h : Arr w S (xs.map (Value.int .i64)) t) (hn : n ≤ xs.length) (hl : xs.length ≤ 1000000) (hr : ∀ j, j < xs.length → in64 (iget xs j)) : Ints w (some ⟨S, 0, none⟩) xs.length (xs.take n) := by
  refine ⟨by rw [List.length_take]; omega, by omega, fun e => (by cases e), fun a ha _ => (by cases ha; exact ⟨rfl, h.lt⟩), fun b o e j hj => ?_, fun j hj => ?_⟩
  · cases e
    rw [List.length_take] at hj
    refine h.cell ?_
    have : j < xs.length := by omega
    simp [iget, List.getD, show j < n by omega, this]
  · rw [List.length_take] at hj
    have : iget (xs.take n) j = iget xs j := by simp [iget, List.getD, List.getElem?_take, show j < n by omega]
    rw [this]
    exact hr j (by omega)
/-- What the poorest bundle is worth. -/
def leastX (v : List (List Int)) (i n : Nat) (x : List Int) : Int := lowTo ((sumL v i x x.length).take n) n
theorem leastX_le {v : List (List Int)} {i n : Nat} {x : List Int} (hn : n ≤ 6) {b : Nat} (hb : b < n) : leastX v i n x ≤ worth v x i (b : Int) := by
  have h := lowTo_le ((sumL v i x x.length).take n) n b hb
  have e : iget ((sumL v i x x.length).take n) b = iget (sumL v i x x.length) b := by simp [iget, List.getD, List.getElem?_take, hb]
  rw [e, sumL_get (by omega)] at h
  exact h
theorem leastX_in {v : List (List Int)} {i n : Nat} {x : List Int} (hg : Gds v) (ha : AlcOk v x) (hi : i < v.length) (h1 : 1 ≤ n) (hn : n ≤ 6) : 0 ≤ leastX v i n x ∧ leastX v i n x ≤ 10000 := by
  obtain ⟨b, hb, e⟩ := lowTo_mem ((sumL v i x x.length).take n) n h1
  have e2 : iget ((sumL v i x x.length).take n) b = iget (sumL v i x x.length) b := by simp [iget, List.getD, List.getElem?_take, hb]
  rw [e2, sumL_get (by omega)] at e
  unfold leastX
  rw [e]
  exact worth_in hg ha hi _
theorem alc_of_dig {v : List (List Int)} {n : Nat} {x : List Int} (hn : n ≤ v.length) (h : DigL n (wid v) x) : AlcOk v x := ⟨h.1, fun j hj => by have := h.2 j (by rw [← h.1]; exact hj); omega⟩

set_option maxHeartbeats 4000000 in
set_option maxRecDepth 100000 in
theorem shLeast_any (qi : Option Addr) (di : Nat) (v : List (List Int)) (i n : Nat) (q : Option Addr) (d : Nat) (x : List Int) (w : World) (hi : Ints w qi di (rget v i)) (hx : Ints w q d x) (hg : Gds v) (hiv : i < v.length) (hD : DigL n (wid v) x) (hn1 : 1 ≤ n) (hn : n ≤ v.length) :
    Calls Tryz.prog 125 #[.agg #[.slice qi (wid v) di, .int .i64 (n : Int)], .slice q x.length d] w fun e w' => e = .returned (.int .i64 (leastX v i n x)) ∧ Below w.heap.size w w' := by
  obtain ⟨W0, hW0⟩ : ∃ W, w.alloc (.cells #[.slice qi (wid v) di, .int .i64 (n : Int)] 156) = W := ⟨_, rfl⟩
  obtain ⟨W1, hW1⟩ : ∃ W, W0.alloc (.cells #[.int .i64 0, .int .i64 0, .int .i64 0, .int .i64 0, .int .i64 0, .int .i64 0] 177) = W := ⟨_, rfl⟩
  have hB0 := below_alloc hW0
  have hB1 := below_alloc hW1
  have hs0 : W0.heap.size = w.heap.size + 1 := by rw [← hW0]; simp
  have bX : BoxV W1 w.heap.size [.slice qi (wid v) di, .int .i64 (n : Int)] := (BoxV.new rfl hW0).below hB1
  have hA : Arr W1 (w.heap.size + 1) ((sumL v i x 0).map (Value.int .i64)) 177 := Arr.new hs0 hW1
  have hBw : Below w.heap.size w W1 := hB0.trans (hB1.mono hB0.size)
  have hWl : Hid (W1.heap.size = w.heap.size + 2) := by unfold Hid; rw [← hW1]; simp [hs0]
  have HW0 := Lib.hid hW0
  have HW1 := Lib.hid hW1
  have hrl : Hid ((rget v i).length = wid v) := (hg.2.2.2 i hiv).1
  have Hg := Lib.hid hg
  have HD := Lib.hid hD
  have h6 := hg.2.1
  have h10 := hg.2.2.1
  have Hxl := Lib.hid hD.1
  have hl1 := hx.length_le
  have b0 := bX.cell 0 _ rfl
  have b1 := bX.cell 1 _ rfl
  clear hW0 hW1 hB0 hB1 hs0 hg hD
  go_enter Tryz.func125, Tryz.ntmps125
  go_upto_region 2 with (fail)
  rw [HW0.out, HW1.out]
  go_wp2_with fail
  go_loopw [10] (fun t wj => ∃ m : Nat, m ≤ x.length ∧ t = .int .i64 m ∧ Arr wj (w.heap.size + 1) ((sumL v i x m).map (Value.int .i64)) 177 ∧ Below (w.heap.size + 1) W1 wj) (fun t _ => x.length - (intOf t).toNat)
  case atStart => exact ⟨0, Nat.zero_le _, rfl, hA, Below.refl _ _⟩
  case round =>
    obtain ⟨m, hm, rfl, hA, hbj⟩ := hrel
    have hszj := hbj.size
    rw [hWl.out] at hszj
    have bY : BoxV wr w.heap.size [.slice qi (wid v) di, .int .i64 (n : Int)] := bX.heap hbj.size (hbj.block _ (by omega))
    have b0 := bY.cell 0 _ rfl
    have b1 := bY.cell 1 _ rfl
    by_cases hml : m < x.length
    · have hm1 : (m : Int) < x.length := by omega
      have hBj : Below w.heap.size w wr := hBw.trans (hbj.mono (by omega))
      obtain ⟨b2, o2, rfl, _, hc2⟩ := (hx.below hBj (Nat.le_refl _)).get hml
      have hdm := HD.out.2 m (by have := Hxl.out; omega)
      obtain ⟨k, hk⟩ : ∃ k : Nat, iget x m = (k : Int) := ⟨(iget x m).toNat, by omega⟩
      have hk6 : k < 6 := by omega
      have hk61 : (k : Int) < 6 := by omega
      obtain ⟨b3, o3, rfl, _, hc3⟩ := (hi.below hBj (Nat.le_refl _)).get (j := m) (by rw [hrl.out]; have := Hxl.out; omega)
      have hm2 : (m : Int) < wid v := by have := Hxl.out; omega
      have Hst := Lib.hid (sumL_set (v := v) (i := i) hk hk6)
      have hc4 : wr.cell? ⟨w.heap.size + 1, k, none⟩ = some (.int .i64 (iget (sumL v i x m) k)) := hA.cell (by simp [sumL, iget, hk6])
      have hr1 := worthUp_in Hg.out hiv (k : Int) m (by have := Hxl.out; omega) (a := x)
      rw [← sumL_get hk6] at hr1
      have hr2 := gds_bid Hg.out hiv (j := m) (by have := Hxl.out; omega)
      have hfz := hA.free k
      have HA := Lib.hid hA
      rw [hk] at hc2
      have hm10 : m ≤ 10 := by have := Hxl.out; omega
      obtain ⟨y1, e1⟩ : ∃ y, iget (sumL v i x m) k = y := ⟨_, rfl⟩
      obtain ⟨y2, e2⟩ : ∃ y, iget (rget v i) m = y := ⟨_, rfl⟩
      rw [e1] at hc4 hr1 Hst
      rw [e2] at hc3 hr2 Hst
      clear e1 e2 hk hdm hA hBj
      go_wp2_with fail
      go_still_tail 10, (by kernel_rfl)
      go_wp2_with fail
      go_roundw
      case rel => exact ⟨m + 1, by omega, by go_num, by rw [Hst.out, List.map_set]; exact (HA.out.set).drew1, (hbj.setCell (p := ⟨w.heap.size + 1, k, none⟩) (Nat.le_refl _) _).drew⟩
      case measure => simp [intOf]; omega
    · have hm1 : ¬ (m : Int) < x.length := by omega
      obtain rfl : m = x.length := by omega
      have hIs := arr_ints hA (n := n) (by rw [sumL_len]; omega) (by rw [sumL_len]; omega) (fun j hj => by
        rw [sumL_len] at hj
        rw [sumL_get hj]
        have := worthUp_in Hg.out hiv (j : Int) x.length (by have := Hxl.out; omega) (a := x)
        have := Hxl.out
        exact ⟨by omega, by omega⟩)
      rw [sumL_len] at hIs
      have htl : ((sumL v i x x.length).take n).length = n := by rw [List.length_take, sumL_len]; omega
      have HM := sMin_any _ 6 _ wr hIs (by rw [htl]; omega)
      rw [htl] at HM
      have HM := Lib.hid HM
      have hsl := run_arr6 (w.heap.size + 1) n (by omega)
      clear hIs htl hA
      go_wp2_with fail
      refine HM.out.mono ?_
      rintro e w' ⟨rfl, rfl⟩
      go_wp2_with fail
      go_ret
      exact ⟨rfl, hBw.trans (hbj.mono (by omega))⟩

theorem partitions_any (m n : Int) (w : World) :
    Calls Tryz.prog 126 #[.int .i64 m, .int .i64 n] w fun e w' => e = .returned (.func (.func 140) #[] #[.pointer (some ⟨w.heap.size, 0, none⟩), .pointer (some ⟨w.heap.size + 1, 0, none⟩)]) ∧ w' = (w.alloc (.cells #[.int .i64 m] 3)).alloc (.cells #[.int .i64 n] 3) := by
  go_enter Tryz.func126, Tryz.ntmps126
  go_wp2
  go_ret
  exact ⟨rfl, rfl⟩
/-- A share: none of the bundles of some partition is worth less. -/
def ShrP (v : List (List Int)) (i n : Nat) (y : Int) : Prop := (-1 ≤ y ∧ y ≤ 10000) ∧ (y = -1 ∨ ∃ x, DigL n (wid v) x ∧ ∀ b : Nat, b < n → y ≤ worth v x i (b : Int))
/-- The greatest of what the poorest bundles of some partitions are worth. -/
def bestV (v : List (List Int)) (i n : Nat) (xs : List (List Int)) : Int := xs.foldl (fun y x => max y (leastX v i n x)) (-1)
theorem bestV_snoc (v : List (List Int)) (i n : Nat) (xs : List (List Int)) (x : List Int) : bestV v i n (xs ++ [x]) = max (bestV v i n xs) (leastX v i n x) := by simp [bestV, List.foldl_append]
/-- An agent's share. -/
def shV (v : List (List Int)) (i n : Nat) : Int := bestV v i n (partsF n (wid v) [] 0)
/-- Between two rounds: what the boxes hold. -/
def BestI (S : Nat) (w0 : World) (cl : Value) (v : List (List Int)) (i n : Nat) (pre : List (List Int)) (W : World) : Prop :=
  (∃ y p k c, OneV W (S + 2) (.int .i64 y) 3 ∧ OneV W (S + 3) (.slice p k c) 25 ∧ ShrP v i n y ∧ y = bestV v i n pre) ∧ OneV W (S + 1) cl 138 ∧ OneV W (S + 4) (.int .i64 (wid v : Int)) 3 ∧ OneV W (S + 5) (.int .i64 (n : Int)) 3 ∧ Below S w0 W
theorem bestI_stab (S : Nat) (w0 : World) (cl : Value) (v : List (List Int)) (i n : Nat) : StabR (S + 6) (fun pre W => BestI S w0 cl v i n pre W) := by
  rintro s A B ⟨⟨y, p, k, c, h1, h2, h3⟩, h4, h5, h6, h7⟩ hb
  exact ⟨⟨y, p, k, c, h1.below hb (by omega), h2.below hb (by omega), h3⟩, h4.below hb (by omega), h5.below hb (by omega), h6.below hb (by omega), h7.trans (hb.mono (by omega))⟩
theorem keepsOthers_below' {A B : World} (h : Below A.heap.size A B) : KeepsOthers A B := ⟨h.size, fun k o hk _ => (h.block k (Array.getElem?_eq_some_iff.1 hk).1).trans hk⟩

set_option maxRecDepth 100000 in
set_option maxHeartbeats 8000000 in
theorem shBest_any (qi : Option Addr) (di : Nat) (v : List (List Int)) (i n : Nat) (w : World) (hi : Ints w qi di (rget v i)) (hg : Gds v) (hiv : i < v.length) (hn1 : 1 ≤ n) (hn : n ≤ v.length) :
    Calls Tryz.prog 111 #[.agg #[.slice qi (wid v) di, .int .i64 (n : Int)]] w fun e w' => ∃ p k c, e = .returned (.tuple #[.int .i64 (shV v i n), .slice p k c]) ∧ ShrP v i n (shV v i n) ∧ Below w.heap.size w w' := by
  obtain ⟨W0, hW0⟩ : ∃ W, w.alloc (.cells #[.slice qi (wid v) di, .int .i64 (n : Int)] 156) = W := ⟨_, rfl⟩
  obtain ⟨W1, hW1⟩ : ∃ W, W0.alloc (.cells #[.func (.func 125) #[.agg #[.slice qi (wid v) di, .int .i64 (n : Int)]] #[]] 138) = W := ⟨_, rfl⟩
  obtain ⟨W2, hW2⟩ : ∃ W, W1.alloc (.cells #[.int .i64 (-1)] 3) = W := ⟨_, rfl⟩
  obtain ⟨W3, hW3⟩ : ∃ W, W2.alloc (.cells #[.slice none 0 0] 25) = W := ⟨_, rfl⟩
  obtain ⟨W4, hW4⟩ : ∃ W, W3.alloc (.cells #[.int .i64 (wid v : Int)] 3) = W := ⟨_, rfl⟩
  obtain ⟨w5, hw5⟩ : ∃ W, W4.alloc (.cells #[.int .i64 (n : Int)] 3) = W := ⟨_, rfl⟩
  have hB0 := below_alloc hW0
  have hB1 := below_alloc hW1
  have hB2 := below_alloc hW2
  have hB3 := below_alloc hW3
  have hB4 := below_alloc hW4
  have hB5 := below_alloc hw5
  have hs0 : W0.heap.size = w.heap.size + 1 := by rw [← hW0]; simp
  have hs1 : W1.heap.size = w.heap.size + 2 := by rw [← hW1]; simp [hs0]
  have hs2 : W2.heap.size = w.heap.size + 3 := by rw [← hW2]; simp [hs1]
  have hs3 : W3.heap.size = w.heap.size + 4 := by rw [← hW3]; simp [hs2]
  have hs4 : W4.heap.size = w.heap.size + 5 := by rw [← hW4]; simp [hs3]
  have hs5 : w5.heap.size = w.heap.size + 6 := by rw [← hw5]; simp [hs4]
  have c1 : OneV w5 (w.heap.size + 1) _ 138 := ((((OneV.new hs0 hW1).below hB2 (by omega)).below hB3 (by omega)).below hB4 (by omega)).below hB5 (by omega)
  have c2 : OneV w5 (w.heap.size + 2) (.int .i64 (-1)) 3 := (((OneV.new hs1 hW2).below hB3 (by omega)).below hB4 (by omega)).below hB5 (by omega)
  have c3 : OneV w5 (w.heap.size + 3) (.slice none 0 0) 25 := ((OneV.new hs2 hW3).below hB4 (by omega)).below hB5 (by omega)
  have c4 : OneV w5 (w.heap.size + 4) (.int .i64 (wid v : Int)) 3 := (OneV.new hs3 hW4).below hB5 (by omega)
  have c5 : OneV w5 (w.heap.size + 5) (.int .i64 (n : Int)) 3 := OneV.new hs4 hw5
  have hB24 : Below w.heap.size w W3 := hB0.trans ((hB1.trans ((hB2.trans (hB3.mono (by omega))).mono (by omega))).mono (by omega))
  have hBw : Below w.heap.size w w5 := hB24.trans ((hB4.trans (hB5.mono (by omega))).mono (by omega))
  have hI0 : BestI w.heap.size w (.func (.func 125) #[.agg #[.slice qi (wid v) di, .int .i64 (n : Int)]] #[]) v i n [] w5 := ⟨⟨-1, none, 0, 0, c2, c3, ⟨by omega, .inl rfl⟩, rfl⟩, c1, c4, c5, hBw⟩
  have bX : BoxV W3 w.heap.size [.slice qi (wid v) di, .int .i64 (n : Int)] := (((BoxV.new rfl hW0).below hB1).below hB2).below hB3
  have x0 := bX.cell 0 _ rfl
  have x1 := bX.cell 1 _ rfl
  have CP := partitions_any (wid v : Int) (n : Int) W3
  rw [hs3, hW4, hw5] at CP
  have CP := Lib.hid CP
  have Hw0 := Lib.hid hW0
  have Hw1 := Lib.hid hW1
  have Hw2 := Lib.hid hW2
  have Hw3 := Lib.hid hW3
  have Hg := Lib.hid hg
  have HI0 := Lib.hid hI0
  have h6 := hg.2.1
  have h10 := hg.2.2.1
  clear hW0 hW1 hW2 hW3 hW4 hw5 hB0 hB1 hB2 hB3 hB4 hB5 hs0 hs1 hs2 hs3 hs4 c1 c2 c3 c4 c5 hB24 hBw hI0 hg
  refine (callsIn_wide (n := 8)).1 ?_
  refine callsIn_of_wp_marks Tryz.func111 rfl trivial ?_ rfl
  simp only [Tryz.ntmps111, List.size_toArray, List.length_cons, List.length_nil, Nat.reduceAdd, Nat.reduceSub, Array.replicate_succ, Array.replicate_zero, List.push_toArray, List.append_toArray, List.nil_append, List.cons_append]
  gi_wp2
  rw [Hw0.out, Hw1.out, Hw2.out, Hw3.out]
  refine ⟨trivial, (callsIn_wide.2 CP.out).mono ?_⟩
  rintro e w6 ⟨rfl, rfl⟩
  gi_wp2
  simp only [Nat.add_assoc, Nat.reduceAdd]
  have Hs5 := Lib.hid hs5
  refine range_row (by omega) (gf := 140) (lb := #[.pointer (some ⟨w.heap.size + 4, 0, none⟩), .pointer (some ⟨w.heap.size + 5, 0, none⟩)]) rfl (enters_of Tryz.func140 (by kernel_rfl) rfl)
    (part1_seq (w.heap.size + 4) (w.heap.size + 5) (wid v) n h10 hn1 (by omega)) rfl
    (fun pre W => BestI w.heap.size w (.func (.func 125) #[.agg #[.slice qi (wid v) di, .int .i64 (n : Int)]] #[]) v i n pre W) (fun _ _ => False)
    (by rw [Hs5.out]; exact bestI_stab _ _ _ _ _ _) (fun _ _ _ h _ => h)
    (fun s A hs => ⟨hs.2.2.1.cell, hs.2.2.2.1.cell⟩) HI0.out ?a1 ?assign ?body ?done ?stop
  case assign =>
    intro l x W K hK
    unfold encR
    gi_wp2
    exact hK
  case body =>
    rintro l pre ⟨px, cx, x⟩ W ⟨⟨y, p, k, c, h2, h3, hy, hyb⟩, h1, h4, h5, hbW⟩ hsz hIx hP
    simp only at hIx hP
    have u1 := h1.cell
    have u2 := h2.cell
    have u3 := h3.cell
    have f2 := h2.free
    have f3 := h3.free
    have hxl : x.length ≤ 10 := by rw [hP.1]; exact h10
    have CL := Lib.hid (shLeast_any qi di v i n px cx x W (hi.below hbW (Nat.le_refl _)) hIx Hg.out hiv hP hn1 hn)
    have hln := leastX_in Hg.out (alc_of_dig hn hP) hiv hn1 (by omega : n ≤ 6)
    have hle := fun b (hb : b < n) => leastX_le (v := v) (i := i) (x := x) (by omega : n ≤ 6) hb
    have hS6 : W.heap.size ≥ w.heap.size + 6 := by rw [Hs5.out] at hsz; exact hsz
    gi_wp2
    refine ⟨trivial, (CallsIn.inRound l (callsIn_wide.2 CL.out)).mono ?_⟩
    rintro e w7 ⟨rfl, hb7⟩
    obtain ⟨Y, eY⟩ : ∃ Y, leastX v i n x = Y := ⟨_, rfl⟩
    rw [eY] at hln hle ⊢
    have g1 := h1.below hb7 h1.lt
    have g2 := h2.below hb7 h2.lt
    have g3 := h3.below hb7 h3.lt
    have g4 := h4.below hb7 h4.lt
    have g5 := h5.below hb7 h5.lt
    have hB7 : Below w.heap.size w w7 := hbW.trans (hb7.mono (by omega))
    have hK7 := keepsOthers_below' hb7
    have hKp7 : KpR (w.heap.size + 6) W w7 := KpR.below hb7
    have hs7 := hb7.size
    have v2 := g2.cell
    have CC := Lib.hid (clone_any px cx x w7 (hIx.below hb7 (Nat.le_refl _)) (by omega))
    by_cases hgt : y < Y
    · have hd : decide (y < Y) = true := by rw [decide_eq_true_iff]; exact hgt
      have hSh : ShrP v i n Y := ⟨⟨by omega, hln.2⟩, .inr ⟨x, hP, hle⟩⟩
      have HSh := Lib.hid hSh
      have HYb : Hid (Y = bestV v i n (pre ++ [x])) := by unfold Hid; rw [bestV_snoc, ← hyb, eY]; omega
      clear hSh hyb hle hgt hP hIx u1 u2 u3 f2 f3 CL
      gi_wp2
      refine ⟨trivial, (CallsIn.inRound l (callsIn_wide.2 CC.out)).mono ?_⟩
      rintro e w8 ⟨pc, cc, rfl, hO8, hb8⟩
      have hs8 := hb8.size
      have hB8 : Below w.heap.size w w8 := hB7.trans (hb8.mono (by omega))
      have k2 := g2.below hb8 g2.lt
      have k3 := g3.below hb8 g3.lt
      have k1 := g1.below hb8 g1.lt
      have k4 := g4.below hb8 g4.lt
      have k5 := g5.below hb8 g5.lt
      have f2 := k2.free
      have f3 := k3.free
      have cc2 := k2.cell
      have cc3 := k3.cell
      have hX : KeepsOthers W ((w8.setCell ⟨w.heap.size + 2, 0, none⟩ (.int .i64 Y)).setCell ⟨w.heap.size + 3, 0, none⟩ (.slice pc x.length cc)) ∧ KpR (w.heap.size + 6) W ((w8.setCell ⟨w.heap.size + 2, 0, none⟩ (.int .i64 Y)).setCell ⟨w.heap.size + 3, 0, none⟩ (.slice pc x.length cc)) ∧ BestI w.heap.size w (.func (.func 125) #[.agg #[.slice qi (wid v) di, .int .i64 (n : Int)]] #[]) v i n (pre ++ [x]) ((w8.setCell ⟨w.heap.size + 2, 0, none⟩ (.int .i64 Y)).setCell ⟨w.heap.size + 3, 0, none⟩ (.slice pc x.length cc)) :=
        ⟨((hK7.trans (keepsOthers_below' hb8)).trans (KeepsOthers.setCell _ _ _)).trans (KeepsOthers.setCell _ _ _), ((hKp7.trans (KpR.below hb8)).trans (KpR.setLow (by omega))).trans (KpR.setLow (by omega)),
          ⟨Y, pc, x.length, cc, (k2.set).other (by omega), (k3.other (by omega)).set, HSh.out, HYb.out⟩, (k1.other (by omega)).other (by omega), (k4.other (by omega)).other (by omega), (k5.other (by omega)).other (by omega), (hB8.setCell (p := ⟨w.heap.size + 2, 0, none⟩) (by simp) _).setCell (p := ⟨w.heap.size + 3, 0, none⟩) (by simp) _⟩
      have HX := Lib.hid hX
      clear hX k1 k4 k5 hO8 hb8 hB8
      gi_wp2
      exact HX.out
    · have hd : decide (y < Y) = false := by rw [decide_eq_false_iff_not]; exact hgt
      have hX : KeepsOthers W w7 ∧ KpR (w.heap.size + 6) W w7 ∧ BestI w.heap.size w (.func (.func 125) #[.agg #[.slice qi (wid v) di, .int .i64 (n : Int)]] #[]) v i n (pre ++ [x]) w7 := ⟨hK7, hKp7, ⟨y, p, k, c, g2, g3, hy, by rw [bestV_snoc, ← hyb, eY]; omega⟩, g1, g4, g5, hB7⟩
      have HX := Lib.hid hX
      clear hX hyb hle hgt hP hIx u1 u2 u3 f2 f3 CL CC
      gi_wp2
      exact HX.out
  case done =>
    rintro D xs W hD rfl ⟨⟨y, p, k, c, h2, h3, hy, hyb⟩, h1, h4, h5, hbW⟩ hK
    have u2 := h2.cell
    have u3 := h3.cell
    have HKd := Lib.hid (fun nq => ((below_drewN W.heap.size W nq).block D (Array.getElem?_eq_some_iff.1 hK).1).trans hK)
    have HBw := Lib.hid (fun nq => hbW.trans (below_drewN w.heap.size W nq))
    have hD6 : w.heap.size ≤ D := by rw [Hs5.out] at hD; omega
    have hyS : y = shV v i n := hyb
    subst hyS
    have Hy := Lib.hid hy
    clear hK hy hyb h1 h2 h3 h4 h5
    gi_wp2
    gi_quiet (fail)
    gi_wp2
    refine ⟨by simp, .inl ⟨_, _, rfl, run_takeDeferred (HKd.out _), ?_⟩⟩
    exact ⟨_, results_tmp2 rfl _ _ _, p, k, c, rfl, Hy.out, (HBw.out _).grown (grownBy_putObj' _ _ _) (HBw.out _).size (fun k e => by cases e; exact hD6)⟩
  case stop =>
    rintro D pre W hD h hK
    exact h.elim
end Go.Proofs.YtmcncflieoolmaaGreat
