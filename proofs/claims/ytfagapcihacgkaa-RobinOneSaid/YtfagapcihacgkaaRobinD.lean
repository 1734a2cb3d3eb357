/- The walks of robin.Balanced and of the reference's Balanced, for all turns; no condition. -/
import Derived.Test.YtfagapcihacgkaaRobinA
import Derived.Test.YtfagapcihacgkaaChunk
import Derived.RangeFuncCalls
namespace Go.Proofs.Ytfagapcihacgkaa
set_option linter.unusedVariables false
set_option linter.unusedSimpArgs false
open Go.ChangeShapes Go.WideShapes Go.ChangeAt Go.RowKit Go.Deep
attribute [local go_sem] Oper.semAt_some

/-- Block S is one cell that holds v. -/
def OneV (w : World) (S : Nat) (v : Value) (t : TypeId) : Prop := w.heap[S]? = some (.cells #[v] t (0, 0))
theorem OneV.lt {w : World} {S : Nat} {v : Value} {t : TypeId} (h : OneV w S v t) : S < w.heap.size := (Array.getElem?_eq_some_iff.1 h).1
theorem OneV.cell {w : World} {S : Nat} {v : Value} {t : TypeId} (h : OneV w S v t) : w.cell? ⟨S, 0, none⟩ = some v := by
  unfold OneV at h; simp [World.cell?, h]
theorem OneV.free {w : World} {S : Nat} {v : Value} {t : TypeId} (h : OneV w S v t) : w.frozen? ⟨S, 0, none⟩ = false := by
  unfold OneV at h; simp [World.frozen?, h]
theorem OneV.below {w w' : World} {B S : Nat} {v : Value} {t : TypeId} (h : OneV w S v t) (hb : Below B w w') (hS : S < B) : OneV w' S v t := (hb.block S hS).trans h
theorem OneV.new {w w' : World} {S : Nat} {v : Value} {t : TypeId} (hS : w.heap.size = S) (hw : w.alloc (.cells #[v] t) = w') : OneV w' S v t := by
  subst hS hw; exact World.alloc_heap_new w _
theorem OneV.set {w : World} {S : Nat} {u v : Value} {t : TypeId} (h : OneV w S v t) : OneV (w.setCell ⟨S, 0, none⟩ u) S u t := by
  unfold OneV at *
  show (w.heap.modify S _)[S]? = _
  obtain ⟨h1, h2⟩ := Array.getElem?_eq_some_iff.1 h
  rw [Array.getElem?_eq_getElem (by rw [Array.size_modify]; exact h1), Array.getElem_modify_self, h2]
  rfl
theorem OneV.other {w : World} {S S' : Nat} {u v : Value} {t : TypeId} (h : OneV w S v t) (hne : S ≠ S') : OneV (w.setCell ⟨S', 0, none⟩ u) S v t :=
  (Below.heap_setCell w ⟨S', 0, none⟩ _ S hne).trans h
theorem OneV.kept {w w' : World} {S : Nat} {v : Value} {t : TypeId} {row : Option Nat} (h : OneV w S v t) (hg : w.grownBy w' row) (hr : ∀ r, row = some r → ∃ o : Obj, w.heap[r]? = some o ∧ o.isCells = false) : OneV w' S v t := by
  refine (hg.block S h.lt (fun e => ?_)).trans h
  obtain ⟨o, ho, hc⟩ := hr S e.symm
  unfold OneV at h
  rw [h] at ho; cases ho; cases hc
theorem OneV.putObj {w : World} {S D : Nat} {v : Value} {t : TypeId} {o : Obj} (h : OneV w S v t) (hne : S ≠ D) : OneV (w.putObj D o) S v t :=
  (World.putObj_heap_other (fun e => hne e)).trans h
theorem Ints.pre {w : World} {p : Option Addr} {c : Nat} {xs : List Int} (h : Ints w p c xs) (k : Nat) : Ints w p c (xs.take k) := by
  have hg : ∀ j, j < (xs.take k).length → iget (xs.take k) j = iget xs j := fun j hj => by
    rw [List.length_take] at hj
    simp only [iget, List.getD]
    rw [List.getElem?_take, if_pos (by omega)]
  refine ⟨by have := h.le; rw [List.length_take]; omega, h.max, h.nil, h.plain, fun b o e j hj => ?_, fun j hj => ?_⟩
  · rw [hg j hj]; exact h.cell b o e j (by rw [List.length_take] at hj; omega)
  · rw [hg j hj]; exact h.rng j (by rw [List.length_take] at hj; omega)
theorem has_take {xs : List Int} {i : Nat} (hi : i ≤ xs.length) (x : Int) : hasB (xs.take i) x = true ↔ ∃ j, j < i ∧ iget xs j = x := by
  unfold hasB
  rw [decide_eq_true_iff]
  constructor
  · intro h
    obtain ⟨j, hj, rfl⟩ := List.getElem_of_mem h
    rw [List.length_take] at hj
    exact ⟨j, by omega, by rw [iget_of (by omega), List.getElem_take]⟩
  · rintro ⟨j, hj, rfl⟩
    rw [iget_of (by omega)]
    exact List.mem_iff_getElem.2 ⟨j, by rw [List.length_take]; omega, by rw [List.getElem_take]⟩
/-- No number comes twice in round x. -/
def OkTo (ts : List Int) (m x i : Nat) : Prop := ∀ a, a < i → ∀ j, j < a → iget (ck ts m x) j ≠ iget (ck ts m x) a
def ChunkOk (ts : List Int) (m x : Nat) : Prop := OkTo ts m x (ck ts m x).length
theorem cst_div {n k m : Nat} (hm : m < n) : (cst n k + m) / n = k := by
  unfold cst
  rw [Nat.add_comm, Nat.add_mul_div_right _ _ (by omega), Nat.div_eq_of_lt hm, Nat.zero_add]
theorem bal_step {n : Nat} {ts : List Int} {k m : Nat} (hm : m < n) (h : BalTo n ts (cst n k + m)) (hno : ∀ j, j < m → iget ts (cst n k + j) ≠ iget ts (cst n k + m)) : BalTo n ts (cst n k + (m + 1)) := by
  intro s hs t ht
  by_cases e : s < cst n k + m
  · exact h s e t ht
  · have e2 : s = cst n k + m := by omega
    subst e2
    rintro ⟨h1, h2⟩
    rw [cst_div hm] at h2
    have h3 : cst n k ≤ t := by unfold cst; rw [h2]; exact Nat.div_mul_le_self t n
    obtain ⟨j, rfl⟩ : ∃ j, t = cst n k + j := ⟨t - cst n k, by omega⟩
    exact hno j (by omega) h1.symm
theorem bal_dup {n : Nat} {ts : List Int} {k m j L : Nat} (hm : m < n) (hj : j < m) (hL : cst n k + m < L) (he : iget ts (cst n k + j) = iget ts (cst n k + m)) : ¬ BalTo n ts L := fun h =>
  h (cst n k + m) hL (cst n k + j) (by omega) ⟨he.symm, by rw [cst_div hm, cst_div (by omega)]⟩
theorem bal_less {n : Nat} {ts : List Int} {M L : Nat} (h : BalTo n ts M) (hL : L ≤ M) : BalTo n ts L := fun s hs t ht => h s (by omega) t ht
theorem bal_all {m : Nat} {ts : List Int} {k : Nat} (hm : 1 ≤ m) (h : ∀ x, x < k → ChunkOk ts m x) (hk : ts.length ≤ cst m k) : BalTo m ts ts.length := by
  rintro s hs t ht ⟨h1, h2⟩
  obtain ⟨q, hq⟩ : ∃ q, s / m = q := ⟨_, rfl⟩
  have e1 : cst m q + s % m = s := by unfold cst; rw [← hq, Nat.mul_comm]; exact Nat.div_add_mod s m
  have e2 : cst m q + t % m = t := by unfold cst; rw [← hq, h2, Nat.mul_comm]; exact Nat.div_add_mod t m
  have l1 := Nat.mod_lt s (show m > 0 by omega)
  have hqk : q < k := by
    refine Nat.lt_of_not_le fun hkq => ?_
    have : cst m k ≤ cst m q := Nat.mul_le_mul_right m hkq
    omega
  have hlen : s % m < (ck ts m q).length := by rw [ck_len]; omega
  refine h q hqk (s % m) hlen (t % m) (by omega) ?_
  rw [ck_get (by omega), ck_get hlen, e1, e2]
  exact h1.symm
theorem bal_not {m : Nat} {ts : List Int} {x i j : Nat} (hi : i < (ck ts m x).length) (hj : j < i) (he : iget (ck ts m x) j = iget (ck ts m x) i) : ¬ BalTo m ts ts.length := by
  rw [ck_get (by omega), ck_get hi] at he
  rw [ck_len] at hi
  exact bal_dup (by omega) hj (by omega) he
theorem balB_bad {n : Int} {ts : List Int} (h : ¬ chkT n ts = 0) : balB n ts = false := by simp [balB, h]
theorem balB_ok {n : Nat} {ts : List Int} (h : chkT n ts = 0) : balB n ts = decide (BalTo n ts ts.length) := by
  unfold balB; exact dec_congr ⟨fun h => by simpa using h.2, fun h2 => ⟨h, by simpa using h2⟩⟩

set_option maxHeartbeats 2000000 in
theorem ref18Balanced_any (n : Int) (p : Option Addr) (c : Nat) (ts : List Int) (w : World) (hx : Ints w p c ts) :
    Calls Try.prog 15 #[.int .i64 n, .slice p ts.length c] w fun e w' => e = .returned (.tuple #[.bool (balB n ts), .int .i64 (chkT n ts)]) ∧ Below w.heap.size w w' := by
  have hl1 := hx.length_le
  by_cases hC : chkT n ts = 0
  · have hz : (chkT n ts != 0) = false := by rw [hC]; rfl
    obtain ⟨hn1, hn6, hl60, _⟩ := chkT_zero.1 hC
    obtain ⟨m, rfl⟩ : ∃ m : Nat, n = m := ⟨n.toNat, by omega⟩
    have HC := Lib.hid hC
    have HB := Lib.hid (balB_ok hC)
    clear hC
    go_enter Try.func15, Try.ntmps15
    go_wp2_with fail
    refine (ref18Check_any m p c ts w hx).mono ?_
    rintro e w' ⟨rfl, rfl⟩
    go_wp2_with fail
    go_loopw [6] (fun i wr => ∃ s : Nat, s ≤ ts.length ∧ i = .int .i64 s ∧ Hid (BalTo m ts s) ∧ ∃ N, wr = w'.drewN N) (fun i _ => ts.length - (intOf i).toNat)
    case atStart => exact ⟨0, by omega, rfl, (fun s hs => by omega), drew_refl _⟩
    case round =>
      obtain ⟨s, hs, rfl, hbal, hN⟩ := hrel
      by_cases hsl : s < ts.length
      · have hs1 : (s : Int) < ts.length := by omega
        obtain ⟨wo, rfl⟩ : ∃ wo : World, wo = wr := ⟨_, rfl⟩
        have HN := Lib.hid hN
        have hxo := hx.drew hN
        clear hN
        go_wp2_with fail
        go_loopw [7] (fun i wr => ∃ t : Nat, t ≤ s ∧ i = .int .i64 t ∧ Hid (∀ j, j < t → ¬ (iget ts s = iget ts j ∧ s / m = j / m)) ∧ ∃ N, wr = wo.drewN N) (fun i _ => s - (intOf i).toNat)
        case atStart => exact ⟨0, by omega, rfl, (fun s hs => by omega), drew_refl _⟩
        case round =>
          obtain ⟨t, ht, rfl, hno, hM⟩ := hrel
          by_cases hts : t < s
          · have ht1 : (t : Int) < s := by omega
            have ht2 : (t : Int) < ts.length := by omega
            have hs0 : (0 : Int) ≤ s := by omega
            have ht0 : (0 : Int) ≤ t := by omega
            have hm0 : (1 : Int) ≤ m := by omega
            have hxr := hxo.drew hM
            obtain ⟨b, o, rfl, _, hcs⟩ := hxr.get hsl
            have hct := hxr.at (j := t) (by omega)
            have HM := Lib.hid hM
            by_cases he : iget ts s = iget ts t
            · have hd : (iget ts s == iget ts t) = true := by simpa using he
              have hq1 : (s : Int).tdiv m = ((s / m : Nat) : Int) := by rw [Int.tdiv_eq_ediv_of_nonneg hs0]; simp
              have hq2 : (t : Int).tdiv m = ((t / m : Nat) : Int) := by rw [Int.tdiv_eq_ediv_of_nonneg ht0]; simp
              by_cases hq : s / m = t / m
              · have hd2 : (((s / m : Nat) : Int) == ((t / m : Nat) : Int)) = true := by rw [hq]; simp
                have HR : Hid (balB m ts = false) := by
                  unfold Hid; rw [HB.out, decide_eq_false_iff_not]; exact fun h => h s hsl t hts ⟨he, hq⟩
                clear he hM hxr
                obtain ⟨D, hD⟩ : ∃ D, s / m = D := ⟨_, rfl⟩
                obtain ⟨D2, hD2⟩ : ∃ D2, t / m = D2 := ⟨_, rfl⟩
                have b1 : D ≤ 60 := by rw [← hD]; exact Nat.le_trans (Nat.div_le_self s m) (by omega)
                have b2 : D2 ≤ 60 := by rw [← hD2]; exact Nat.le_trans (Nat.div_le_self t m) (by omega)
                have w1 : IntKind.i64.wrap (D : Int) = D := IntWalk.i64_in _ (by omega)
                have w2 : IntKind.i64.wrap (D2 : Int) = D2 := IntWalk.i64_in _ (by omega)
                rw [hD] at hq1 hd2
                rw [hD2] at hq2 hd2
                clear hD hD2 hq
                go_wp2_with fail
                go_quiet (fail)
                go_wp2_with fail
                go_ret2
                rw [HR.out, HC.out]
                refine ⟨rfl, ?_⟩
                obtain ⟨N1, h1⟩ := HN.out
                obtain ⟨N2, h2⟩ := HM.out
                rw [h2, h1]
                exact ((below_drewN _ _ _).trans (below_drewN _ _ _)).drewN' _
              · have hd2 : (((s / m : Nat) : Int) == ((t / m : Nat) : Int)) = false := by rw [beq_eq_false_iff_ne]; omega
                have HQ : Hid (¬ (iget ts s = iget ts t ∧ s / m = t / m)) := fun h => hq h.2
                clear he hM hxr
                obtain ⟨D, hD⟩ : ∃ D, s / m = D := ⟨_, rfl⟩
                obtain ⟨D2, hD2⟩ : ∃ D2, t / m = D2 := ⟨_, rfl⟩
                have b1 : D ≤ 60 := by rw [← hD]; exact Nat.le_trans (Nat.div_le_self s m) (by omega)
                have b2 : D2 ≤ 60 := by rw [← hD2]; exact Nat.le_trans (Nat.div_le_self t m) (by omega)
                have w1 : IntKind.i64.wrap (D : Int) = D := IntWalk.i64_in _ (by omega)
                have w2 : IntKind.i64.wrap (D2 : Int) = D2 := IntWalk.i64_in _ (by omega)
                rw [hD] at hq1 hd2
                rw [hD2] at hq2 hd2
                clear hD hD2 hq
                go_wp2_with fail
                go_quiet (fail)
                go_wp2_with fail
                go_roundw
                case rel => exact ⟨t + 1, by omega, by go_num, snoc_all' hno.out HQ.out, drew_drewN _ HM.out⟩
                case measure => simp [intOf]; omega
            · have hd : (iget ts s == iget ts t) = false := by simpa using he
              have HQ : Hid (¬ (iget ts s = iget ts t ∧ s / m = t / m)) := fun h => he h.1
              clear he hM hxr
              go_wp2_with fail
              go_quiet (fail)
              go_wp2_with fail
              go_roundw
              case rel => exact ⟨t + 1, by omega, by go_num, snoc_all' hno.out HQ.out, drew_drewN _ HM.out⟩
              case measure => simp [intOf]; omega
          · have ht1 : ¬ (t : Int) < s := by omega
            obtain rfl : t = s := by omega
            have HM := Lib.hid hM
            have HB2 : Hid (BalTo m ts (t + 1)) := fun x hx y hy => by
              by_cases e : x = t
              · subst e; exact hno.out y hy
              · exact hbal.out x (by omega) y hy
            clear hM
            go_wp2_with fail
            go_roundw
            case rel => exact ⟨t + 1, by omega, by go_num, HB2, drew_trans HN.out HM.out⟩
            case measure => simp [intOf]; omega
      · have hs1 : ¬ (s : Int) < ts.length := by omega
        obtain rfl : s = ts.length := by omega
        have HR : Hid (balB m ts = true) := by unfold Hid; rw [HB.out, decide_eq_true_iff]; exact hbal.out
        go_wp2_with fail
        go_ret2
        rw [HR.out, HC.out]
        exact ⟨rfl, by obtain ⟨N1, h1⟩ := hN; rw [h1]; exact below_drewN _ _ _⟩
  · have hz : (chkT n ts != 0) = true := by rw [bne_iff_ne]; exact hC
    have HR := Lib.hid (balB_bad hC)
    clear hC
    go_enter Try.func15, Try.ntmps15
    go_wp2_with fail
    refine (ref18Check_any n p c ts w hx).mono ?_
    rintro e w' ⟨rfl, rfl⟩
    go_wp2_with fail
    refine (ref18Check_any n p c ts w' hx).mono ?_
    rintro e w' ⟨rfl, rfl⟩
    go_wp2_with fail
    go_ret2
    rw [HR.out]
    exact ⟨rfl, Below.refl _ _⟩

set_option maxHeartbeats 8000000 in
set_option maxRecDepth 100000 in
theorem robinBalanced_any (n : Int) (p : Option Addr) (c : Nat) (ts : List Int) (w : World) (hx : Ints w p c ts) :
    Calls Try.prog 14 #[.int .i64 n, .slice p ts.length c] w fun e w' => e = .returned (.tuple #[.bool (balB n ts), .int .i64 (chkT n ts)]) ∧ Below w.heap.size w w' := by
  refine (callsIn_wide (n := 8)).1 ?_
  refine callsIn_of_wp_marks Try.func14 rfl trivial ?_ rfl
  simp only [Try.ntmps14, List.size_toArray, List.length_cons, List.length_nil, Nat.reduceAdd, Nat.reduceSub, Array.replicate_succ, Array.replicate_zero, List.push_toArray, List.append_toArray, List.nil_append, List.cons_append]
  obtain ⟨Wx, hWx⟩ : ∃ W, w.alloc (.cells #[.bool false] 4) = W := ⟨_, rfl⟩
  obtain ⟨W0, hW0⟩ : ∃ W, Wx.alloc (.cells #[.int .i64 0] 29) = W := ⟨_, rfl⟩
  have hB1 := below_alloc hWx
  have hB2 := below_alloc hW0
  have hs : Wx.heap.size = w.heap.size + 1 := by rw [← hWx]; simp
  have b4 : OneV W0 w.heap.size (.bool false) 4 := (OneV.new rfl hWx).below hB2 (by omega)
  have b5 : OneV W0 (w.heap.size + 1) (.int .i64 0) 29 := OneV.new hs hW0
  have hB : Below w.heap.size w W0 := hB1.trans (hB2.mono hB1.size)
  have hx0 := hx.below hB (Nat.le_refl _)
  have hs0 : W0.heap.size = w.heap.size + 2 := by rw [← hW0]; simp [hs]
  have HWx := Lib.hid hWx
  have HW0 := Lib.hid hW0
  have Hs := Lib.hid hs
  have Hs0 := Lib.hid hs0
  clear hWx hW0 hB1 hB2 hs hx hs0
  gi_wp2
  rw [HWx.out, HW0.out]
  refine ⟨trivial, (callsIn_wide.2 (robinCheck_any n p c ts W0 hx0)).mono ?_⟩
  rintro e w1 ⟨rfl, hb1⟩
  have k4 := b4.below hb1 (by rw [Hs0.out]; omega)
  have k5 := b5.below hb1 (by rw [Hs0.out]; omega)
  by_cases hC : chkT n ts = 0
  · have hz : (chkT n ts != 0) = false := by rw [hC]; rfl
    obtain ⟨hn1, hn6, hl60, _⟩ := chkT_zero.1 hC
    obtain ⟨m, rfl⟩ : ∃ m : Nat, n = m := ⟨n.toNat, by omega⟩
    have HC := Lib.hid hC
    have HB := Lib.hid (balB_ok hC)
    clear hC
    gi_wp2
    refine ⟨trivial, (callsIn_wide.2 (chunk_any p ts.length c m (by omega) w1)).mono ?_⟩
    rintro e w2 ⟨rfl, hw2⟩
    gi_wp2
    have hB1 : Below w.heap.size w w1 := hB.trans (hb1.mono hB.size)
    have hsz1 : w.heap.size + 2 ≤ w1.heap.size := by have := hb1.size; have := Hs0.out; omega
    obtain ⟨b, o, hp⟩ : ∃ b o, 0 < ts.length → p = some ⟨b, o, none⟩ := by
      by_cases h0 : 0 < ts.length
      · obtain ⟨b, o, e, _⟩ := hx0.get h0; exact ⟨b, o, fun _ => e⟩
      · exact ⟨0, 0, fun h => absurd h h0⟩
    obtain ⟨W2, hW2⟩ : ∃ W, (w1.alloc (.cells #[.slice p ts.length c] 25)).alloc (.cells #[.int .i64 m] 3) = W := ⟨_, rfl⟩
    rw [hW2]
    have hs2 : W2.heap.size = w1.heap.size + 2 := by rw [← hW2]; simp
    have hB2 : Below w1.heap.size w1 W2 := by rw [← hW2]; exact ((Below.refl _ _).alloc (Nat.le_refl _) _).alloc (by simp) _
    have kS : OneV W2 w1.heap.size (.slice p ts.length c) 25 := by
      rw [← hW2]; exact OneV.below (B := w1.heap.size + 1) (OneV.new rfl rfl) ((Below.refl _ _).alloc (by simp) _) (by omega)
    have kN : OneV W2 (w1.heap.size + 1) (.int .i64 m) 3 := by
      rw [← hW2]; exact OneV.new (by simp) rfl
    have g4 := k4.below hB2 (by omega)
    have g5 := k5.below hB2 (by omega)
    have hx2 := (hx0.below hb1 (Nat.le_refl _)).below hB2 (Nat.le_refl _)
    have hB3 : Below w.heap.size w W2 := hB1.trans (hB2.mono hB1.size)
    have Hp := Lib.hid hp
    have hxm := hx2.max
    have hxl := hx2.le
    clear hW2 hw2 hB2 k4 k5 hp
    have hsz2 : w.heap.size + 2 ≤ W2.heap.size := by omega
    refine wpIn_rangeFunc_ownF rfl (by omega) (gf := 49) (lb := #[.pointer (some ⟨w1.heap.size, 0, none⟩), .pointer (some ⟨w1.heap.size + 1, 0, none⟩)]) rfl trivial (enters_of Try.func49 (by kernel_rfl) rfl)
      (chunk_stops (8 - 1) (by omega) w1.heap.size (w1.heap.size + 1) W2.heap.size b o c m ts.length p Hp.out (by omega) (by omega) (by omega) hxl hxm W2 (by omega) (by omega) rfl kS.cell kN.cell) belowK_t (belowK_b (Nat.le_refl _)) (Below.refl _ _) (fun _ => rfl)
      (fun pre W => Below W2.heap.size W2 W ∧ ∀ x ∈ pre, ChunkOk ts m x)
      (fun cc pre W => cc = .ret ∧ OneV W w.heap.size (.bool false) 4 ∧ OneV W (w.heap.size + 1) (.int .i64 0) 29 ∧ Below w.heap.size w W ∧ ¬ BalTo m ts ts.length)
      (fun s A B row hs hg hr => ⟨hs.1.grown hg hs.1.size (fun k e => (hr k e).1), hs.2⟩)
      (fun cc s A B row hs hg hr => ⟨hs.1, hs.2.1.kept hg (fun r e => (hr r e).2), hs.2.2.1.kept hg (fun r e => (hr r e).2), hs.2.2.2.1.grown hg hs.2.2.2.1.size (fun k e => by have := (hr k e).1; omega), hs.2.2.2.2⟩)
      ⟨Below.refl _ _, fun x hx => (by cases hx)⟩
      (fun x => { tmps := #[.int .i64 m, .slice p ts.length c, undef, undef, .pointer (some ⟨w.heap.size, 0, none⟩), .pointer (some ⟨w.heap.size + 1, 0, none⟩), .int .i64 (chkT m ts), .slice (some ⟨b, o + cst m x, none⟩) (min m (ts.length - cst m x)) (min m (ts.length - cst m x)), undef, undef, .int .i64 m, .slice p ts.length c, .int .i64 (chkT m ts), .int .i64 (chkT m ts), .bool false, undef, .slice p ts.length c, .int .i64 m,
          .func (.func 49) #[] #[.pointer (some ⟨w1.heap.size, 0, none⟩), .pointer (some ⟨w1.heap.size + 1, 0, none⟩)], .slice (some ⟨b, o + cst m x, none⟩) (min m (ts.length - cst m x)) (min m (ts.length - cst m x)), undef, undef, undef, undef, undef, undef, undef, undef, undef, undef, undef, undef, undef], defers := [] }) ?assign ?body ?done ?stop
    case assign =>
      intro l x W K hK
      gi_wp2
      exact hK
    case body =>
      rintro l pre x W ⟨hbW, hok⟩ hpre
      clear hs2
      obtain ⟨C, hC⟩ : ∃ C, ck ts m x = C := ⟨_, rfl⟩
      have hCl : C.length = min m (ts.length - cst m x) := by rw [← hC, ck_len]
      obtain ⟨E, hE⟩ : ∃ E, min m (ts.length - cst m x) = E := ⟨_, rfl⟩
      obtain ⟨Y, hY⟩ : ∃ Y, o + cst m x = Y := ⟨_, rfl⟩
      rw [hE] at hCl
      have hEm : E ≤ 6 := by omega
      have hIC : 0 < E → Ints W (some ⟨b, Y, none⟩) E C := fun h => by
        have hxW := hx2.below hbW (Nat.le_refl _)
        rw [Hp.out (by omega)] at hxW
        rw [← hY]
        exact hxW.part (cst m x) E (by omega) C (by omega) (by omega) (by omega) (fun j hj => by rw [← hC] at hj ⊢; exact ck_get hj)
      have c4 := g4.below hbW (by omega)
      have c5 := g5.below hbW (by omega)
      have HC := Lib.hid hC
      have HCl := Lib.hid hCl
      have HIC := Lib.hid hIC
      rw [hE, hY]
      clear hE hY hC hCl hIC
      gi_wp2
      gi_loop [22] (fun t => ∃ i : Nat, i ≤ E ∧ t = .int .i64 i ∧ Hid (OkTo ts m x i)) (fun t => E - (intOf t).toNat)
      case atStart => exact ⟨0, by omega, rfl, fun a ha => by omega⟩
      case round =>
        obtain ⟨i, hi, rfl, hoki⟩ := hrel
        by_cases hiE : i < E
        · have hi1 : (i : Int) < E := by omega
          have hi0 : (0 : Int) ≤ i := by omega
          have hI := HIC.out (by omega)
          obtain ⟨b', o', hbo, _, hci⟩ := hI.get (j := i) (by rw [HCl.out]; exact hiE)
          obtain ⟨rfl, rfl⟩ : b = b' ∧ Y = o' := by simpa using hbo
          clear hbo
          have hcon := contains_any (some ⟨b, Y, none⟩) E (C.take i) (iget C i) W (hI.pre i)
          have htl : (C.take i).length = i := by rw [List.length_take, HCl.out]; omega
          rw [htl] at hcon
          have Hcon := Lib.hid hcon
          clear hcon htl
          gi_wp2
          refine ⟨trivial, (CallsIn.inRound l (callsIn_wide.2 Hcon.out)).mono ?_⟩
          rintro e w' ⟨rfl, rfl⟩
          have hht := has_take (xs := C) (i := i) (by rw [HCl.out]; omega) (iget C i)
          cases hh : hasB (C.take i) (iget C i) with
          | true =>
            obtain ⟨j, hj, hje⟩ := hht.1 hh
            have hnb : Hid (¬ BalTo m ts ts.length) := bal_not (x := x) (i := i) (j := j) (by rw [HC.out, HCl.out]; exact hiE) hj (by rw [HC.out]; exact hje)
            have u4 := c4.cell
            have u5 := c5.cell
            have f4 := c4.free
            have f5 := c5.free
            have K4 := Lib.hid (c4.set (u := .bool false) |>.other (S' := w.heap.size + 1) (u := .int .i64 0) (by omega))
            have K5 := Lib.hid ((c5.other (S' := w.heap.size) (u := .bool false) (by omega)).set (u := .int .i64 0))
            have KB : Hid (Below w.heap.size w ((w'.setCell ⟨w.heap.size, 0, none⟩ (.bool false)).setCell ⟨w.heap.size + 1, 0, none⟩ (.int .i64 0))) :=
              ((hB3.trans (hbW.mono hB3.size)).setCell (p := ⟨w.heap.size, 0, none⟩) (Nat.le_refl _) _).setCell (p := ⟨w.heap.size + 1, 0, none⟩) (by simp) _
            have KK : Hid (KeepsOthers w' ((w'.setCell ⟨w.heap.size, 0, none⟩ (.bool false)).setCell ⟨w.heap.size + 1, 0, none⟩ (.int .i64 0))) := (KeepsOthers.setCell _ _ _).trans (KeepsOthers.setCell _ _ _)
            clear hh hht hje hbW c4 c5
            gi_wp2
            exact ⟨KK.out, rfl, K4.out, K5.out, KB.out, hnb.out⟩
          | false =>
            have hno : Hid (∀ j, j < i → iget C j ≠ iget C i) := fun j hj e => by
              have := hht.2 ⟨j, hj, e⟩
              rw [hh] at this; cases this
            clear hh hht
            gi_wp2
            go_round
            case rel => exact ⟨i + 1, by omega, by go_num, fun a ha j hj => by
              by_cases e : a = i
              · subst e; rw [HC.out]; exact hno.out j hj
              · exact hoki.out a (by omega) j hj⟩
            case measure => simp [intOf]; omega
        · have hi1 : ¬ (i : Int) < E := by omega
          obtain rfl : i = E := by omega
          have hCk : ChunkOk ts m x := by unfold ChunkOk; rw [HC.out, HCl.out]; exact hoki.out
          have HCk := Lib.hid hCk
          clear hCk
          gi_wp2
          exact ⟨KeepsOthers.refl _, Below.refl _ _, hbW, fun y hy => by
            rcases List.mem_append.1 hy with h | h
            · exact hok y h
            · rw [List.mem_singleton.1 h]; exact HCk.out⟩
    case done =>
      rintro D xs W hD ⟨k, rfl, hLk, hjs⟩ ⟨hbW, hok⟩ hK
      have hbal : balB m ts = true := by
        rw [HB.out, decide_eq_true_iff]
        exact bal_all (by omega) (fun x hx => hok x (List.mem_range.2 hx)) hLk
      have c4 := g4.below hbW (by omega)
      have c5 := g5.below hbW (by omega)
      have u4 := c4.cell
      have u5 := c5.cell
      have f4 := c4.free
      have f5 := c5.free
      have K4 := Lib.hid (c4.set (u := .bool true) |>.other (S' := w.heap.size + 1) (u := .int .i64 0) (by omega))
      have K5 := Lib.hid ((c5.other (S' := w.heap.size) (u := .bool true) (by omega)).set (u := .int .i64 0))
      have KB : Hid (Below w.heap.size w ((W.setCell ⟨w.heap.size, 0, none⟩ (.bool true)).setCell ⟨w.heap.size + 1, 0, none⟩ (.int .i64 0))) :=
        ((hB3.trans (hbW.mono hB3.size)).setCell (p := ⟨w.heap.size, 0, none⟩) (Nat.le_refl _) _).setCell (p := ⟨w.heap.size + 1, 0, none⟩) (by simp) _
      have KK : Hid (KeepsOthers W ((W.setCell ⟨w.heap.size, 0, none⟩ (.bool true)).setCell ⟨w.heap.size + 1, 0, none⟩ (.int .i64 0))) := (KeepsOthers.setCell _ _ _).trans (KeepsOthers.setCell _ _ _)
      have Hbal := Lib.hid hbal
      have hDw : w.heap.size + 2 ≤ D := by omega
      have HKd : Hid (((W.setCell ⟨w.heap.size, 0, none⟩ (.bool true)).setCell ⟨w.heap.size + 1, 0, none⟩ (.int .i64 0)).heap[D]? = some (.deferred (some []))) := KK.out.same D _ hK rfl
      clear hbW c4 c5 hbal hK hs2
      gi_wp2
      obtain ⟨Wf, hWf⟩ : ∃ Wf, (W.setCell ⟨w.heap.size, 0, none⟩ (.bool true)).setCell ⟨w.heap.size + 1, 0, none⟩ (.int .i64 0) = Wf := ⟨_, rfl⟩
      have hK := HKd.out
      have z4 := K4.out
      have z5 := K5.out
      have zB := KB.out
      rw [hWf] at hK z4 z5 zB ⊢
      refine ⟨by simp, .inl ⟨_, _, rfl, run_takeDeferred hK, ?_⟩⟩
      have y4 := (z4.putObj (o := .deferred none) (D := D) (by omega)).cell
      have y5 := (z5.putObj (o := .deferred none) (D := D) (by omega)).cell
      refine ⟨.tuple #[.bool true, .int .i64 0], ?_, by rw [Hbal.out, HC.out], zB.grown (grownBy_putObj' _ _ _) zB.size (fun k e => by cases e; omega)⟩
      simp [results, Try.results14, go_sem, y4, y5]
    case stop =>
      rintro D cc pre W hD hpre ⟨rfl, z4, z5, zB, hnb⟩ hK
      have hbal : Hid (balB m ts = false) := by
        unfold Hid; rw [HB.out, decide_eq_false_iff_not]; exact hnb
      have hDw : w.heap.size + 2 ≤ D := by omega
      have HK := Lib.hid hK
      have Z4 := Lib.hid z4
      have Z5 := Lib.hid z5
      clear hnb hs2 hK z4 z5
      gi_wp2
      refine ⟨by simp, .inl ⟨_, _, rfl, run_takeDeferred HK.out, ?_⟩⟩
      have y4 := (Z4.out.putObj (o := .deferred none) (D := D) (by omega)).cell
      have y5 := (Z5.out.putObj (o := .deferred none) (D := D) (by omega)).cell
      refine ⟨.tuple #[.bool false, .int .i64 0], ?_, by rw [hbal.out, HC.out], zB.grown (grownBy_putObj' _ _ _) zB.size (fun k e => by cases e; omega)⟩
      simp [results, Try.results14, go_sem, y4, y5]
  · have hz : (chkT n ts != 0) = true := by rw [bne_iff_ne]; exact hC
    have HR := Lib.hid (balB_bad hC)
    have c4 := k4.cell
    have c5 := k5.cell
    have f4 := k4.free
    have f5 := k5.free
    clear hC
    gi_wp2
    refine ⟨.tuple #[.bool false, .int .i64 (chkT n ts)], ?_, by rw [HR.out], ?_⟩
    · simp [results, Try.results14, go_sem, c4, c5]
    · exact ((hB.trans (hb1.mono hB.size)).setCell (p := ⟨w.heap.size, 0, none⟩) (Nat.le_refl _) _).setCell (p := ⟨w.heap.size + 1, 0, none⟩) (by simp) _
end Go.Proofs.Ytfagapcihacgkaa
