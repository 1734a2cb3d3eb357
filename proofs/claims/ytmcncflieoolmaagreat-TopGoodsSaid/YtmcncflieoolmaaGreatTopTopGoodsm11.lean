/- The walk of better.all's iterator: it gives every complete allocation; no condition but that the goods are valid. -/
import Derived.Test.YtmcncflieoolmaaGreatTopTopGoodsm10
import Derived.Test.YtmcncflieoolmaaGreatTopTopGoodsm8
import Derived.RangeFuncFrom
import Derived.RangeFuncBox
import Derived.RangeFuncLeaves
import Derived.OwnWalkIn
import Derived.TacticsInMore
import Derived.LoopNIn
import Derived.LoopIn
import Derived.Sort.QuietIn
import Derived.Maps.RangeWalk
import Derived.Shelf.Abstract
import Derived.Test.YtmcncflieoolmaaGreatTopTopGoodsm1
import Derived.Orders
import Derived.WalkKit
import Derived.Test.YtmcncflieoolmaaGreatTopTopGoodsm9
import Derived.Test.YtmcncflieoolmaaGreatTopTopGoodsm3
import Derived.Test.YtmcncflieoolmaaGreatTopTopGoodsm2
import Derived.WalkSpells
import Derived.Deep.LoopGhost
import Derived.Deep.RegionHeld3
import Derived.Deep.RegionWith
import Derived.StillTailTactics
import Derived.Deep.AppendLies
import Derived.Deep.RegionLaw
import Derived.Maps.AppendAt
import Derived.IntWalk
/- The walk of better.all's iterator: it gives every complete allocation; no condition but that the goods are valid. -/
namespace Go.Proofs.YtmcncflieoolmaaGreat
set_option linter.unusedSimpArgs false
open Go.ChangeShapes Go.WideShapes Go.ChangeAt Go.RowKit Go.Deep
set_option linter.unusedVariables false
attribute [local go_sem] Oper.semAt_some

/-- 'make' inside a fence. -/
theorem wpListIn_mk {F : Fence} {N : Nat} {w : World} {ops : Array Oper} {rest : List Oper} {o : Oper} {a : Act} {Q : Exit → Act → World → Prop} (hg : o.guard = none) (l c : Operand) (hop : o.op = Op.makeSlice 25 l c)
    (base n : Nat) (hl : a.eval l = .int .i64 (n : Int)) (hc : a.eval c = .int .i64 (n : Int)) (hn : n ≤ 1000000) (hb : base ≤ w.heap.size)
    (hK : ∀ w', Own w' base (some ⟨w.heap.size, 0, none⟩) n (List.replicate n 0) → w.grownBy w' none → w'.heap.size = w.heap.size + 1 → wpListIn F N Tryz.prog ops Q rest (a.put o.dst (.slice (some ⟨w.heap.size, 0, none⟩) n n)) w') : wpListIn F N Tryz.prog ops Q (o :: rest) a w := by
  obtain ⟨i, hi, hz0, hz1, hz2⟩ := info_parts infoInt
  refine wpListIn_plain hg fun K hK' => ?_
  have hrun := run_make (P := Tryz.prog) w 25 3 i (.int .i64 0) Tryz.underlying25 hi hz0 .i64 .i64 (n : Int) (n : Int) (by omega) (by omega) (by rw [hz2]; omega) (by omega)
  have hcs : (madeCells (Value.int .i64 0).cells (n * 1)).toList = List.replicate n (.int .i64 0) := by
    rw [Nat.mul_one]; exact toList_madeCells_one _ _
  unfold Oper.wpIn
  refine ⟨?_, ?_⟩
  · simp [Oper.about, hop]
  · rw [Oper.semAt_plain F _ _ (by rw [hop]; intro c hc'; cases hc')]
    rw [hz1] at hrun
    simp only [Int.toNat_natCast] at hrun
    simp [execOp, hop, hl, hc, hrun, Result.andThen]
    refine hK' _ _ (hK _ ⟨?_, ?_⟩ (World.grownBy_alloc _ _ _) (by simp))
    · have := World.ownsRow_lit (e := 3) (size := 1) (base := base) w (madeCells (Value.int .i64 0).cells (n * 1)) n hb (by simp [maxLen]; omega) (by rw [size_madeCells])
      rw [hcs] at this
      simpa using this
    · intro j hj
      simp at hj
      simp [iget, List.getD, hj, in64]
theorem Own.kp {w w' : World} {base n : Nat} {p : Option Addr} {c : Nat} {xs : List Int} (h : Own w base p c xs) (hk : KpR n w w') (hn : n ≤ base) : Own w' base p c xs :=
  h.move fun k e => by
    have h1 := h.lt k e
    exact hk.same k (by omega) h1.2 (row_cells h.row (by rw [ownBlock_slice]; exact e)).2
/-- The numbers that lie in a block. -/
def rdI (W : World) (b m : Nat) : List Int := (List.range m).map fun j => match W.cell? ⟨b, j, none⟩ with
  | some (.int _ x) => x
  | _ => 0
theorem rdI_of {W : World} {base b m : Nat} {xs : List Int} (h : Own W base (some ⟨b, 0, none⟩) m xs) (hl : xs.length = m) : rdI W b m = xs := ext_iget (by simp [rdI, hl]) fun j hj => by
  have hjm : j < m := by simpa [rdI] using hj
  have hc := h.at (j := j) (by omega)
  simp [rdI, iget, hjm, hc]

set_option maxRecDepth 100000 in
set_option maxHeartbeats 8000000 in
theorem all1_seq (Bg : Nat) (p : Option Addr) (c : Nat) (v : List (List Int)) (h0 : 0 < v.length) (h6 : v.length ≤ 6) (hm10 : wid v ≤ 10) :
    SeqR 113 #[.pointer (some ⟨Bg, 0, none⟩)] (fun W => W.cell? ⟨Bg, 0, none⟩ = some (.slice p v.length c) ∧ Mat W p c v) (DigL v.length (wid v)) (CovX v.length (wid v)) := by
  intro l J Jx W hSt hStx hPre hY h0J
  obtain ⟨hc0, hM⟩ := hPre _ _ h0J
  obtain ⟨bv, ov, rfl, _, q0, d0, hcr, hI⟩ := hM.get h0
  rw [Nat.add_zero] at hcr
  have hl0 : (0 : Int) < v.length := by omega
  have hWd : wid v = (rget v 0).length := rfl
  rw [hWd] at hm10 hY ⊢
  obtain ⟨m, hm⟩ : ∃ m, (rget v 0).length = m := ⟨_, rfl⟩
  rw [hm] at hm10 hY hcr ⊢
  obtain ⟨B, hB⟩ : ∃ B, W.heap.size = B := ⟨_, rfl⟩
  rw [hB] at hY hSt
  have HB := Lib.hid hB
  have HSt := Lib.hid hSt
  have HPre := Lib.hid hPre
  have HY := Lib.hid hY
  have H0 := Lib.hid h0J
  clear hI hWd hm hSt hStx hPre hY h0J
  refine (callsIn_wide (n := 8)).1 (callsIn_of_wp Tryz.func113 rfl trivial ?_ rfl)
  simp only [Tryz.ntmps113, List.size_toArray, List.length_cons, List.length_nil, Nat.reduceAdd, Nat.reduceSub, Array.replicate_succ, Array.replicate_zero, List.push_toArray, List.append_toArray, List.nil_append, List.cons_append]
  gi_wp2_with (gi_at_make; refine wpListIn_mk rfl (.tmp 9) (.tmp 9) rfl B m rfl rfl (by omega) (Nat.le_of_eq hB.symm) ?_; intro w2 hO2 hg2 hs2)
  have hb2 : Below B W w2 := Below.grown (Below.refl B W) hg2 (Nat.le_of_eq hB.symm) (fun k e => (by cases e))
  have hJ2 := HSt.out _ _ _ H0.out hb2
  rw [HB.out] at hO2
  try rw [HB.out]
  clear hB hg2 hs2 hc0 hM hcr
  gi_loopw [4] (fun _ wr => ∃ (a : List Int) (pre : List (List Int)), Hid (DigL v.length m a) ∧ Hid (CovTo v.length m pre (vlN v.length a m)) ∧ J pre wr ∧ Own wr B (some ⟨B, 0, none⟩) m a ∧ Hid (B ≤ wr.heap.size)) (fun _ wk => v.length ^ m - vlN v.length (rdI wk B m) m)
  case atStart => exact ⟨_, [], zero_dig _ _ h0, (fun b hb hlt => by rw [zero_val] at hlt; omega), hJ2, hO2, by have := hb2.size; have := HB.out; unfold Hid; omega⟩
  case round =>
    clear hO2 hb2 hJ2
    obtain ⟨a, pre, hD, hC, hJ, hO, hsz⟩ := hrel
    have hal := hD.out.1
    have HTa : Hid (rdI wr B m = a) := rdI_of hO hal
    have hY1 := yieldAt_any (m' := 8 - 1) (HY.out pre (some ⟨B, 0, none⟩, m, a) wr hJ hsz.out hO.ints hD.out)
    unfold encR at hY1
    simp only [hal] at hY1
    obtain ⟨fn, tmps, assign, body, hy, hR⟩ := hY1
    have HR := Lib.hid hR
    have HO := Lib.hid hO
    have hC2 : Hid (CovTo v.length m (pre ++ [a]) (vlN v.length a m + 1)) := hC.out.more hD.out
    clear hR hO hJ hC hal
    gi_wp2
    refine HR.out.mono ?_
    rintro e W3 (⟨rfl, hJ3, hk3⟩ | ⟨rfl, hJx3⟩)
    · have hO3 := HO.out.kp hk3 (Nat.le_refl _)
      have hsz3 : Hid (B ≤ W3.heap.size) := Nat.le_trans hsz.out hk3.size
      have HZ : Hid (zf a m = a) := by have := zf_full a; rw [hD.out.1] at this; exact this
      have HC2 := Lib.hid hC2.out
      clear HO hk3 hC2
      gi_wp2
      gi_loopw [4] (fun t wj => ∃ kk : Nat, kk ≤ m ∧ t = .int .i64 ((kk : Int) - 1) ∧ Own wj B (some ⟨B, 0, none⟩) m (zf a kk) ∧ Hid (∀ j, kk ≤ j → j < m → iget a j = (v.length : Int) - 1) ∧ Below B W3 wj) (fun t _ => (intOf t + 1).toNat)
      case atStart => exact ⟨m, Nat.le_refl _, by go_num, by rw [HZ.out]; exact hO3, (fun j h1 h2 => by omega), Below.refl _ _⟩
      case round =>
        clear hO3
        obtain ⟨kk, hkk, rfl, hOj, hT, hbj⟩ := hrel
        have hJj := HSt.out _ _ _ hJ3 hbj
        obtain ⟨hc0, hM⟩ := HPre.out _ _ hJj
        by_cases hk0 : kk = 0
        · subst hk0
          have e0 : (((0 : Nat) : Int) - 1) = -1 := rfl
          rw [e0]
          have hS : Hid (CovX v.length m (pre ++ [a])) := HC2.out.all h0 (fun j hj => hT.out j (Nat.zero_le _) hj)
          clear hOj hT hM e0
          gi_wp2
          gi_quiet (fail)
          gi_wp2
          refine bodyPost_ret (results_none rfl _ _ _) rfl ?_
          exact ⟨⟨_, rfl⟩, .inl ⟨_, hS.out, HSt.out _ _ _ hJj (below_drewN _ _ _)⟩⟩
        · obtain ⟨k, rfl⟩ : ∃ k, kk = k + 1 := ⟨kk - 1, by omega⟩
          have em : ((k + 1 : Nat) : Int) - 1 = (k : Int) := by omega
          rw [em]
          have hkm : k < m := by omega
          have hk1 : (k : Int) < m := by omega
          have hzl : (zf a (k + 1)).length = m := by rw [zf_len]; exact hD.out.1
          have hca := hOj.at (j := k) (by rw [hzl]; exact hkm)
          have hfz := hOj.free k
          have hva : iget (zf a (k + 1)) k = iget a k := by rw [zf_get (by rw [hD.out.1]; exact hkm), if_pos (by omega)]
          rw [hva] at hca
          have hdk := hD.out.2 k hkm
          have hwn : IntKind.i64.wrap ((v.length : Int) - 1) = (v.length : Int) - 1 := IntWalk.i64_in _ (by omega)
          have HOj := Lib.hid hOj
          have hZs : Hid ((zf a (k + 1)).set k 0 = zf a k) := zf_step (by rw [hD.out.1]; exact hkm)
          have hUp : Hid ((zf a (k + 1)).set k (iget a k + 1) = upL a k) := rfl
          by_cases he : iget a k = (v.length : Int) - 1
          · have hb : (iget a k == (v.length : Int) - 1) = true := by rw [beq_iff_eq]; exact he
            have hT2 : Hid (∀ j, k ≤ j → j < m → iget a j = (v.length : Int) - 1) := fun j h1 h2 => by
              by_cases ej : j = k
              · subst ej; exact he
              · exact hT.out j (by omega) h2
            generalize iget a k = y at *
            clear hOj hT hM em hva he hkk
            gi_wp2
            gi_quiet (fail)
            gi_wp2
            go_roundw
            case rel => exact ⟨k, by omega, by go_num, by rw [← hZs.out]; exact ((HOj.out.drewN _).set k ⟨by omega, by omega⟩).1, hT2, ((hbj.trans (below_drewN _ _ _)).setCell (p := ⟨B, k, none⟩) (Nat.le_refl _) _)⟩
            case measure => (simp [intOf] <;> omega)
          · have hb : (iget a k == (v.length : Int) - 1) = false := by rw [beq_eq_false_iff_ne]; exact he
            have hU1 : Hid (DigL v.length m (upL a k)) := upL_dig hD.out hkm he
            have hU2 : Hid (vlN v.length (upL a k) m = vlN v.length a m + 1) := upL_next hD.out hkm (fun j h1 h2 => hT.out j h1 h2)
            have hlt : Hid (vlN v.length a m < v.length ^ m) := vlN_lt m hD.out.2
            have hwa : IntKind.i64.wrap (iget a k + 1) = iget a k + 1 := IntWalk.i64_in _ (by omega)
            have hin : in64 (iget a k + 1) := ⟨by omega, by omega⟩
            generalize iget a k = y at *
            clear hOj hT hM em hva he hkk
            gi_wp2
            gi_quiet (fail)
            gi_wp2
            go_roundw
            case rel => exact ⟨upL a k, pre ++ [a], hU1, by unfold Hid; rw [hU2.out]; exact HC2.out, HSt.out _ _ _ hJj ((below_drewN _ _ _).setCell (p := ⟨B, k, none⟩) (Nat.le_refl _) _), by rw [← hUp.out]; exact ((HOj.out.drewN _).set k hin).1, by unfold Hid; have h1 := hbj.size; have h2 := hsz3.out; simp; omega⟩
            case measure =>
              have hr := rdI_of (xs := upL a k) (by rw [← hUp.out]; exact ((HOj.out.drewN nq).set k hin).1) hU1.out.1
              rw [HTa.out, hr, hU2.out]
              have := hlt.out
              omega
    · gi_wp2
      refine bodyPost_ret (results_none rfl _ _ _) rfl ?_
      exact ⟨⟨_, rfl⟩, .inr ⟨_, hJx3⟩⟩
end Go.Proofs.YtmcncflieoolmaaGreat

/- A region that draws its order and has no guards, walked operation by operation under one invariant, whatever order is drawn; no condition but that operations wait for earlier ones alone. -/
namespace Go.Proofs.YtmcncflieoolmaaGreat
set_option linter.unusedVariables false
set_option linter.unusedSimpArgs false
open Go.ChangeShapes Go.WideShapes Go.ChangeAt Go.RowKit Go.Deep

def upd (us : Nat → Value) (i : Nat) (v : Value) : Nat → Value := fun k => if k = i then v else us k
/-- What an operation waits for. -/
def onL (o : Oper) : List Nat := (o.after.toList.filter fun e => Region.binds .any e).map (·.on)
def backB (ops : Array Oper) : Bool := (List.range ops.size).all fun i => match ops[i]? with
  | some o => o.guard.isNone && (onL o).all (fun k => decide (k < i))
  | none => true
/-- The operations' numbers and the slots that they fill. -/
def slotL : Nat → List Oper → List (Nat × Nat)
  | _, [] => []
  | i, o :: l => match o.dst with
    | some d => (i, d) :: slotL (i + 1) l
    | none => slotL (i + 1) l
def putL : List (Nat × Nat) → Array Value → (Nat → Value) → Array Value
  | [], t, _ => t
  | (i, d) :: l, t, us => (putL l t us).setIfInBounds d (us i)
theorem upd_same (us : Nat → Value) (i : Nat) (v : Value) : upd us i v i = v := by simp [upd]
theorem upd_ne {us : Nat → Value} {i k : Nat} {v : Value} (h : k ≠ i) : upd us i v k = us k := by simp [upd, h]
theorem putL_off : ∀ (l : List (Nat × Nat)) (t : Array Value) (us : Nat → Value) (i : Nat) (v : Value), (∀ d, (i, d) ∉ l) → putL l t (upd us i v) = putL l t us
  | [], _, _, _, _, _ => rfl
  | (j, d) :: l, t, us, i, v, h => by
    have hj : j ≠ i := fun e => h d (by simp [e])
    rw [putL, putL, upd_ne hj, putL_off l t us i v fun d' hd => h d' (List.mem_cons_of_mem _ hd)]
theorem putL_put : ∀ (l : List (Nat × Nat)) (t : Array Value) (us : Nat → Value) (i d : Nat) (v : Value), (l.map (·.1)).Nodup → (l.map (·.2)).Nodup → (i, d) ∈ l → (putL l t us).setIfInBounds d v = putL l t (upd us i v)
  | [], _, _, _, _, _, _, _, h => by cases h
  | (j, e) :: l, t, us, i, d, v, h1, h2, h => by
    rw [List.map_cons, List.nodup_cons] at h1 h2
    rcases List.mem_cons.1 h with e1 | h3
    · cases e1
      rw [putL, putL, upd_same, Array.setIfInBounds_setIfInBounds, putL_off l t us j v fun d' hd => h1.1 (List.mem_map.2 ⟨_, hd, rfl⟩)]
    · have hji : j ≠ i := fun e1 => h1.1 (e1 ▸ List.mem_map.2 ⟨_, h3, rfl⟩)
      have hde : e ≠ d := fun e1 => h2.1 (e1 ▸ List.mem_map.2 ⟨_, h3, rfl⟩)
      rw [putL, putL, upd_ne hji, Array.setIfInBounds_comm _ _ hde, putL_put l t us i d v h1.2 h2.2 h3]
theorem putL_self : ∀ (l : List (Nat × Nat)) (t : Array Value) (us : Nat → Value), (∀ i d, (i, d) ∈ l → ∀ h : d < t.size, us i = t[d]) → putL l t us = t
  | [], _, _, _ => rfl
  | (j, e) :: l, t, us, h => by
    rw [putL, putL_self l t us fun i d hd => h i d (List.mem_cons_of_mem _ hd)]
    apply Array.ext
    · simp
    · intro k h1 h2
      rw [Array.getElem_setIfInBounds h2]
      split
      · rename_i he; subst he; exact h j e (by simp) h2
      · rfl
theorem slotL_mem : ∀ (l : List Oper) (b i : Nat) (o : Oper) (d : Nat), l[i]? = some o → o.dst = some d → (b + i, d) ∈ slotL b l
  | [], _, _, _, _, h, _ => by simp at h
  | x :: l, b, 0, o, d, h, hd => by
    simp at h; subst h
    simp [slotL, hd]
  | x :: l, b, i + 1, o, d, h, hd => by
    have := slotL_mem l (b + 1) i o d (by simpa using h) hd
    rw [show b + (i + 1) = b + 1 + i by omega]
    unfold slotL
    split
    · exact List.mem_cons_of_mem _ this
    · exact this
theorem slotL_idx : ∀ (l : List Oper) (b i d : Nat), (i, d) ∈ slotL b l → b ≤ i ∧ ∃ o, l[i - b]? = some o ∧ o.dst = some d
  | [], _, _, _, h => by cases h
  | x :: l, b, i, d, h => by
    unfold slotL at h
    split at h
    · rename_i d' hd
      rcases List.mem_cons.1 h with e | h
      · cases e; exact ⟨Nat.le_refl _, x, by simp, hd⟩
      · obtain ⟨h1, o, h2, h3⟩ := slotL_idx l (b + 1) i d h
        exact ⟨by omega, o, by rw [show i - b = (i - (b + 1)) + 1 by omega]; simpa using h2, h3⟩
    · obtain ⟨h1, o, h2, h3⟩ := slotL_idx l (b + 1) i d h
      exact ⟨by omega, o, by rw [show i - b = (i - (b + 1)) + 1 by omega]; simpa using h2, h3⟩
theorem slotL_nodup : ∀ (l : List Oper) (b : Nat), ((slotL b l).map (·.1)).Nodup
  | [], _ => List.nodup_nil
  | x :: l, b => by
    unfold slotL
    split
    · rename_i d hd
      rw [List.map_cons, List.nodup_cons]
      refine ⟨fun h => ?_, slotL_nodup l (b + 1)⟩
      obtain ⟨⟨i, d'⟩, h1, h2⟩ := List.mem_map.1 h
      have := (slotL_idx l (b + 1) i d' h1).1
      simp only at h2
      omega
    · exact slotL_nodup l (b + 1)
/-- The frame, with the values us in the slots that the operations fill. -/
def actL (ops : Array Oper) (a : Act) (us : Nat → Value) : Act := { a with tmps := putL (slotL 0 ops.toList) a.tmps us }

section
variable {P : Program} {ops : Array Oper} {Q : Exit → Act → World → Prop}
theorem back_spec (hb : backB ops = true) {i : Nat} {o : Oper} (h : ops[i]? = some o) : o.guard = none ∧ ∀ e ∈ o.after, Region.binds .any e = true → e.on < i := by
  have hlt : i < ops.size := (Array.getElem?_eq_some_iff.1 h).1
  have := List.all_eq_true.1 hb i (List.mem_range.2 hlt)
  simp only [h, Bool.and_eq_true, Option.isNone_iff_eq_none] at this
  refine ⟨this.1, fun e he hbi => ?_⟩
  have h2 := List.all_eq_true.1 this.2 e.on (List.mem_map.2 ⟨e, List.mem_filter.2 ⟨by simpa using he, hbi⟩, rfl⟩)
  simpa using h2
theorem all_listed (hb : backB ops = true) {listed : Array Bool} (hs : listed.size = ops.size) (hr : Region.ready .any ops listed = []) : ∀ k, k < ops.size → listed.getD k false = true := by
  intro k
  induction k using Nat.strongRecOn with
  | _ k ih =>
    intro hk
    cases hl : listed.getD k false with
    | true => rfl
    | false =>
      have hm : k ∈ Region.ready .any ops listed := by
        rw [mem_ready]
        have hks : k < listed.size := by omega
        refine ⟨by simp [hks] at hl ⊢; exact hl, ops[k], by simp [hk], fun e he hbi => ?_⟩
        have := (back_spec hb (i := k) (o := ops[k]) (by simp [hk])).2 e he hbi
        exact ih e.on this (by omega)
      rw [hr] at hm; cases hm
theorem wanted_none {o : Oper} {y : Nat → Option Bool} (h : o.guard = none) : Region.wanted o y = true := by simp [Region.wanted, h]
theorem wpAny_inv (hb : backB ops = true) (hn : ((slotL 0 ops.toList).map (·.2)).Nodup) (a : Act) (J : (Nat → Value) → (Nat → Prop) → World → Prop)
    (hstep : ∀ us D w i o A, A = actL ops a us → ops[i]? = some o → J us D w → ¬ D i → (∀ k ∈ onL o, D k) → ∀ K : Act → World → Prop, (∀ v w', J (upd us i v) (fun k => k = i ∨ D k) w' → K (A.put o.dst v) w') → o.wp P A w K Q)
    (hend : ∀ us D w, J us D w → (∀ k, k < ops.size → D k) → Q .normal (actL ops a us) w) :
    ∀ (fuel : Nat) (listed : Array Bool) (us : Nat → Value) (w : World), listed.size = ops.size → listed.toList.count false ≤ fuel → J us (fun k => listed.getD k false = true) w → wpAny P .any ops Q fuel listed (actL ops a us) w := by
  have hput : ∀ us i o v, ops[i]? = some o → (actL ops a us).put o.dst v = actL ops a (upd us i v) := fun us i o v h => by
    have hl : ops.toList[i]? = some o := by simpa using h
    cases hd : o.dst with
    | none =>
      have hoff : putL (slotL 0 ops.toList) a.tmps (upd us i v) = putL (slotL 0 ops.toList) a.tmps us := putL_off _ _ _ _ _ fun d hm => by
        obtain ⟨_, o', h1, h2⟩ := slotL_idx _ _ _ _ hm
        rw [Nat.sub_zero, hl] at h1
        cases h1
        rw [hd] at h2; cases h2
      simp only [Act.put, actL, hoff]
    | some d =>
      have hm := slotL_mem ops.toList 0 i o d hl hd
      rw [Nat.zero_add] at hm
      have := putL_put _ a.tmps us i d v (slotL_nodup _ _) hn hm
      simp only [Act.put, actL, this]
  intro fuel
  induction fuel with
  | zero =>
    intro listed us w hs hc hJ
    have hall : ∀ k, k < ops.size → listed.getD k false = true := fun k hk => by
      cases hl : listed.getD k false with
      | true => rfl
      | false =>
        have hks : k < listed.size := by omega
        have h1 : listed[k] = false := by simpa [hks] using hl
        have := List.count_pos_iff.2 (show false ∈ listed.toList by rw [← h1]; simp)
        omega
    refine ⟨?_, hend us _ w hJ hall⟩
    rw [List.eq_nil_iff_forall_not_mem]
    intro k hk
    obtain ⟨h1, o, h2, _⟩ := mem_ready.1 hk
    have hlt : k < ops.size := (Array.getElem?_eq_some_iff.1 h2).1
    have h3 := hall k hlt
    have hks : k < listed.size := by omega
    simp [hks] at h1 h3
    rw [h1] at h3; cases h3
  | succ fuel ih =>
    intro listed us w hs hc hJ
    refine ⟨fun hr => hend us _ w hJ (all_listed hb hs hr), fun i hi => ?_⟩
    obtain ⟨h1, o, h2, h3⟩ := mem_ready.1 hi
    have hlt : i < ops.size := (Array.getElem?_eq_some_iff.1 h2).1
    have his : i < listed.size := by omega
    have h1' : listed[i] = false := by simpa [his] using h1
    have hon : ∀ k ∈ onL o, listed.getD k false = true := fun k hk => by
      obtain ⟨e, he, rfl⟩ := List.mem_map.1 hk
      obtain ⟨he1, he2⟩ := List.mem_filter.1 he
      exact h3 e (by simpa using he1) he2
    unfold wpOp
    simp only [h2, wanted_none (back_spec hb h2).1, if_true]
    refine .inl (hstep us _ w i o _ rfl h2 hJ (by simp [his, h1']) hon _ fun v w' hJ' => ?_)
    rw [hput us i o v h2]
    refine ih _ _ _ (by simp [hs]) ?_ ?_
    · rw [Array.toList_setIfInBounds, List.count_set (by simpa using his)]
      have := List.count_pos_iff.2 (show false ∈ listed.toList by rw [← h1']; simp)
      rw [if_pos (by simp [h1']), if_neg (by simp)]
      omega
    · have e : (fun k => (listed.setIfInBounds i true).getD k false = true) = fun k => k = i ∨ listed.getD k false = true := funext fun k => propext (by
        by_cases hk : k = i
        · subst hk; simp [his]
        · simp [Array.getD_eq_getD_getElem?, Array.getElem?_setIfInBounds_ne (Ne.symm hk), hk])
      rw [e]; exact hJ'
/-- A region that draws its order, under an invariant. -/
theorem wp_region_inv {id : Nat} (hm : P.follows .mixedOrders = true) (hb : backB ops = true) (hn : ((slotL 0 ops.toList).map (·.2)).Nodup) (a : Act) (w : World) (J : (Nat → Value) → (Nat → Prop) → World → Prop)
    (h0 : ∀ us, J us (fun _ => False) w.drew)
    (hstep : ∀ us D w i o A, A = actL ops a us → ops[i]? = some o → J us D w → ¬ D i → (∀ k ∈ onL o, D k) → ∀ K : Act → World → Prop, (∀ v w', J (upd us i v) (fun k => k = i ∨ D k) w' → K (A.put o.dst v) w') → o.wp P A w K Q)
    (hend : ∀ us D w, J us D w → (∀ k, k < ops.size → D k) → Q .normal (actL ops a us) w) : (Code.region id ops true).wp P Q a w := by
  refine wp_region_any hm ?_
  obtain ⟨us, hus⟩ : ∃ us : Nat → Value, ∀ i d, (i, d) ∈ slotL 0 ops.toList → ∀ h : d < a.tmps.size, us i = a.tmps[d] := by
    refine ⟨fun i => match ops[i]? with | some o => (match o.dst with | some d => a.tmps.getD d undef | none => undef) | none => undef, fun i d hm h => ?_⟩
    obtain ⟨_, o, h1, h2⟩ := slotL_idx _ _ _ _ hm
    rw [Nat.sub_zero] at h1
    have h1' : ops[i]? = some o := by simpa using h1
    simp [h1', h2, h]
  have ea : actL ops a us = a := by unfold actL; rw [putL_self _ _ _ hus]
  rw [← ea]
  refine wpAny_inv hb hn a J hstep hend _ _ us _ (by simp) (by simp) ?_
  have e : (fun k => (Array.replicate ops.size false).getD k false = true) = fun _ => False := funext fun k => propext (by
    simp [Array.getD_eq_getD_getElem?, Array.getElem?_replicate]; split <;> rfl)
  rw [e]; exact h0 us
end
section
variable {P : Program} {Q : Exit → Act → World → Prop} {K : Act → World → Prop} {o : Oper} {a : Act} {w w' : World}
theorem wp_val {v : Value} (h : (execOp a.eval o).run P w = .ok (.value v) w') (hk : K (a.put o.dst v) w') : o.wp P a w K Q := by
  unfold Oper.wp; rw [h]; exact hk
theorem wp_skip (h : (execOp a.eval o).run P w = .ok .skip w') (hk : K (a.put o.dst undef) w') : o.wp P a w K Q := by
  unfold Oper.wp; rw [h]; exact hk
theorem wp_enter {f : FuncId} {args : Array Value} (h : (execOp a.eval o).run P w = .ok (.enter f args) w') (hc : Calls P f args w' fun e w2 => ∃ u, e = .returned u ∧ K (a.put o.dst u) w2) : o.wp P a w K Q := by
  unfold Oper.wp; rw [h]
  refine Calls.mono hc fun e w2 ⟨u, he, hk⟩ => ?_
  subst he; exact hk
end
end Go.Proofs.YtmcncflieoolmaaGreat

/- What the reference's Link computes is the greatest sum along a simple path; the least prices; plain, no program. -/
namespace Go.Proofs.YtmcncflieoolmaaGreat
set_option linter.unusedVariables false
set_option linter.unusedSimpArgs false

end Go.Proofs.YtmcncflieoolmaaGreat

/- Lists that give each agent but one an item of its own, in their order, and the best of them; plain, no program. -/
namespace Go.Proofs.YtmcncflieoolmaaGreat
set_option linter.unusedVariables false
set_option linter.unusedSimpArgs false

/-- The first i entries fit: -1 at the agent that is left out, else a number below n, no number twice. -/
def PartTo (n : Nat) (sk : Int) (x : List Int) (i : Nat) : Prop :=
  ∀ k, k < i → ((k : Int) = sk → iget x k = -1) ∧ ((k : Int) ≠ sk → 0 ≤ iget x k ∧ iget x k < n ∧ ∀ l, l < k → (l : Int) ≠ sk → iget x l ≠ iget x k)
/-- x gives each agent but sk an item of its own. -/
def Part (n : Nat) (sk : Int) (x : List Int) : Prop := x.length = n ∧ PartTo n sk x n
/-- The value of the first i entries. -/
def pvTo (v : List (List Int)) (sk : Int) (x : List Int) (i : Nat) : Int := sumTo (fun k => if (k : Int) = sk then 0 else bid v k (itm x k)) i
def pv (v : List (List Int)) (sk : Int) (x : List Int) : Int := pvTo v sk x v.length
/-- What the search has found: the best of the lists that it has seen. -/
def Found (v : List (List Int)) (sk : Int) (V : List Int → Prop) (b : List Int) (m : Int) : Prop := FirstMax V (pv v sk) b ∧ (∀ x, V x → Part v.length sk x) ∧ ((b = [] ∧ m = 0) ∨ (b ≠ [] ∧ m = pv v sk b))
theorem Found.congr {v : List (List Int)} {sk : Int} {V W : List Int → Prop} {b : List Int} {m : Int} (h : Found v sk V b m) (e : ∀ x, V x ↔ W x) : Found v sk W b m :=
  ⟨h.1.congr e (fun _ _ => rfl), fun x hx => h.2.1 x ((e x).2 hx), h.2.2⟩

end Go.Proofs.YtmcncflieoolmaaGreat

/- The walk of slices.Clone at slices of integers; at most 900000 numbers. -/
namespace Go.Proofs.YtmcncflieoolmaaGreat
set_option linter.unusedVariables false
set_option linter.unusedSimpArgs false
open Go.ChangeShapes Go.WideShapes Go.ChangeAt Go.RowKit Go.Deep

theorem Own.some_of {w : World} {base : Nat} {p : Option Addr} {c : Nat} {xs : List Int} (h : Own w base p c xs) (hne : xs ≠ []) : ∃ g, p = some ⟨g, 0, none⟩ := by
  rcases h.shape with ⟨_, _, rfl⟩ | ⟨g, rfl, _⟩
  · exact absurd rfl hne
  · exact ⟨g, rfl⟩

set_option maxHeartbeats 400000 in
theorem clone_any (p : Option Addr) (c : Nat) (xs : List Int) (w : World) (hx : Ints w p c xs) (hlen : xs.length ≤ 900000) :
    Calls Tryz.prog 36 #[.slice p xs.length c] w (Gives w xs) := by
  cases p with
  | none =>
    have hc := hx.nil rfl
    subst hc
    have hl : xs.length = 0 := by have := hx.le; omega
    obtain rfl : xs = [] := List.eq_nil_of_length_eq_zero hl
    have hq := fun W => Lib.run_eql_slice_nil (P := Tryz.prog) W 25 3 none 0 0 0 0 Tryz.underlying25
    go_enter Tryz.func36, Tryz.ntmps36
    go_wp2_with fail
    go_ret
    exact ⟨none, 0, rfl, Own.ofNil _ _, Below.refl _ _⟩
  | some a =>
    have hq := fun W => Lib.run_eql_slice_nil (P := Tryz.prog) W 25 3 (some a) xs.length c 0 0 Tryz.underlying25
    go_enter Tryz.func36, Tryz.ntmps36
    go_wp2_with (at_builtin; refine wpList_app rfl (.tmp 5) (.tmp 6) rfl w.heap.size _ _ _ _ [] xs rfl rfl (Own.made _ _ (Nat.le_refl _)) (hx.below ((Below.refl _ _).alloc (Nat.le_refl _) _) (Nat.le_refl _)) (by simp; omega) (by simp) ?_; intro p2 c2 w2 zs hz hO hg hf)
    obtain rfl : zs = xs := hz.out
    go_ret
    exact ⟨p2, c2, rfl, hO, ((Below.refl w.heap.size w).alloc (Nat.le_refl _) _).grown hg (by simp) (fun k e => by simp [blk] at e; omega)⟩
end Go.Proofs.YtmcncflieoolmaaGreat

/- The walk of (*search).from; valid bids. -/
namespace Go.Proofs.YtmcncflieoolmaaGreat
set_option linter.unusedVariables false
set_option linter.unusedSimpArgs false
open Go.ChangeShapes Go.WideShapes Go.ChangeAt Go.RowKit Go.Deep

/-- What the search's struct (block S) holds. -/
structure SS (w0 w : World) (S : Nat) (p : Option Addr) (n c : Nat) (sk : Int) (pre : List Int) (pn : Option Addr) (cn : Nat) (us : List Bool) (b : List Int) (pb : Option Addr) (cb : Nat) (m : Int) : Prop where
  bel : Below w0.heap.size w0 w
  old : w0.heap.size ≤ S
  lt : S < w.heap.size
  c0 : w.cell? ⟨S, 0, none⟩ = some (.slice p n c)
  c1 : w.cell? ⟨S, 1, none⟩ = some (.int .i64 sk)
  c2 : w.cell? ⟨S, 2, none⟩ = some (.slice pn pre.length cn)
  cu : ∀ j, j < 6 → w.cell? ⟨S, 3 + j, none⟩ = some (.bool (bget us j))
  c9 : w.cell? ⟨S, 9, none⟩ = some (.slice pb b.length cb)
  c10 : w.cell? ⟨S, 10, none⟩ = some (.int .i64 m)
  fr : ∀ k, w.frozen? ⟨S, k, none⟩ = false
  now : Own w (S + 1) pn cn pre
  bst : Own w (S + 1) pb cb b
  sep : ∀ k, blk pn = some k → blk pb ≠ some k
  ul : us.length = 6

section
variable {w0 w : World} {S : Nat} {p : Option Addr} {n c : Nat} {sk : Int} {pre : List Int} {pn : Option Addr} {cn : Nat} {us : List Bool} {b : List Int} {pb : Option Addr} {cb : Nat} {m : Int}

theorem ne_off {S j k : Nat} (h : j ≠ k) : (⟨S, j, none⟩ : Addr) ≠ ⟨S, k, none⟩ := fun e => h (by cases e; rfl)
theorem cell_other {w : World} {S j k : Nat} {u v : Value} (h : w.cell? ⟨S, k, none⟩ = some v) (hne : j ≠ k) : (w.setCell ⟨S, j, none⟩ u).cell? ⟨S, k, none⟩ = some v := (World.cell?_setCell_other w _ _ u (ne_off hne)).trans h
theorem Own.setCell_far {w : World} {base : Nat} {p : Option Addr} {c : Nat} {xs : List Int} (h : Own w base p c xs) {S j : Nat} (u : Value) (hS : S < base) : Own (w.setCell ⟨S, j, none⟩ u) base p c xs :=
  ⟨ownsRow_setCell_below h.row hS u, h.rng⟩

/-- What changes no block but those from S + 1 on, and keeps the two lists, keeps all. -/
theorem SS.grow {w' : World} (h : SS w0 w S p n c sk pre pn cn us b pb cb m) (hb : Below (S + 1) w w') (hn : Own w' (S + 1) pn cn pre) (hbt : Own w' (S + 1) pb cb b) : SS w0 w' S p n c sk pre pn cn us b pb cb m :=
  have hc : ∀ j, w'.cell? ⟨S, j, none⟩ = w.cell? ⟨S, j, none⟩ := fun j => hb.cell (p := ⟨S, j, none⟩) (Nat.lt_succ_self S)
  ⟨h.bel.trans (hb.mono (by have := h.old; omega)), h.old, Nat.lt_of_lt_of_le h.lt hb.size, (hc 0).trans h.c0, (hc 1).trans h.c1, (hc 2).trans h.c2, fun j hj => (hc _).trans (h.cu j hj), (hc 9).trans h.c9, (hc 10).trans h.c10,
    fun k => (hb.frozen (p := ⟨S, k, none⟩) (Nat.lt_succ_self S)).trans (h.fr k), hn, hbt, h.sep, h.ul⟩

/-- One number more. -/
theorem SS.push {w2 : World} {q : Option Addr} {d : Nat} {xs : List Int} {o : Obj} (h : SS w0 w S p n c sk pre pn cn us b pb cb m) (hn : Own w2 (S + 1) q d xs) (hg : w.grownBy w2 (blk pn)) (hf : Fresh w pn q) :
    SS w0 (w2.setCell ⟨S, 2, none⟩ (.slice q xs.length d)) S p n c sk xs q d us b pb cb m := by
  have hb : Below (S + 1) w w2 := (Below.refl _ _).grown hg (by have := h.lt; omega) (fun k e => (h.now.lt k e).1)
  have hbt : Own w2 (S + 1) pb cb b := h.bst.keptBy hg (fun k e e2 => h.sep k e2 e)
  have hc : ∀ j, w2.cell? ⟨S, j, none⟩ = w.cell? ⟨S, j, none⟩ := fun j => hb.cell (p := ⟨S, j, none⟩) (Nat.lt_succ_self S)
  have h2 : SS w0 w2 S p n c sk pre none cn us b pb cb m → True := fun _ => trivial
  refine ⟨(h.bel.trans (hb.mono (by have := h.old; omega))).setCell (p := ⟨S, 2, none⟩) h.old _, h.old, by have := h.lt; have := hb.size; simp [World.setCell]; omega, cell_other ((hc 0).trans h.c0) (by omega), cell_other ((hc 1).trans h.c1) (by omega), World.cell?_setCell_same _ _ _ ((hc 2).trans h.c2), fun j hj => cell_other ((hc _).trans (h.cu j hj)) (by omega),
    cell_other ((hc 9).trans h.c9) (by omega), cell_other ((hc 10).trans h.c10) (by omega), fun k => by rw [World.frozen?_setCell]; exact (hb.frozen (p := ⟨S, k, none⟩) (Nat.lt_succ_self S)).trans (h.fr k), hn.setCell_far _ (Nat.lt_succ_self S), hbt.setCell_far _ (Nat.lt_succ_self S), ?_, h.ul⟩
  intro k hk e
  rcases hf k hk with h3 | h3
  · exact h.sep k h3 e
  · have := (h.bst.lt k e).2; omega
/-- A row's first numbers. -/
theorem Own.take {w : World} {base : Nat} {p : Option Addr} {c : Nat} {xs : List Int} (h : Own w base p c xs) {k : Nat} (hk : k ≤ xs.length) (hp : p ≠ none) : Own w base p c (xs.take k) := by
  refine ⟨⟨by simp, ?_⟩, fun j hj => ?_⟩
  · rcases h.row.2 with ⟨h1, _⟩ | ⟨g, cap, cur, h1, h2, h3, h4, h5, h6, h7⟩
    · simp only [Value.slice.injEq] at h1; exact absurd h1.1 hp
    · simp only [Value.slice.injEq] at h1
      obtain ⟨rfl, _, rfl⟩ := h1
      have hl : (xs.take k).length = k := by simp; omega
      refine .inr ⟨g, c, cur, by rw [hl], h2, h3, by omega, h5, h6, ?_⟩
      rw [hl, List.map_take, ← h7, List.take_take]
      congr 1
      omega
  · rw [List.length_take] at hj
    have hj1 : j < k := by omega
    have e : iget (xs.take k) j = iget xs j := by simp [iget, List.getD, List.getElem?_take, hj1]
    rw [e]; exact h.rng j (by omega)
end
theorem SS.after {w0 w w2 : World} {S : Nat} {p : Option Addr} {n c : Nat} {sk : Int} {pre : List Int} {pn : Option Addr} {cn : Nat} {us : List Bool} {b : List Int} {pb : Option Addr} {cb : Nat} {m : Int}
    (h : SS w0 w S p n c sk pre pn cn us b pb cb m) (hg : w.grownBy w2 (blk pn)) : w2.cell? ⟨S, 2, none⟩ = some (.slice pn pre.length cn) ∧ ∀ k, w2.frozen? ⟨S, k, none⟩ = false := by
  have hb : Below (S + 1) w w2 := (Below.refl _ _).grown hg (by have := h.lt; omega) (fun k e => (h.now.lt k e).1)
  exact ⟨(hb.cell (p := ⟨S, 2, none⟩) (Nat.lt_succ_self S)).trans h.c2, fun k => (hb.frozen (p := ⟨S, k, none⟩) (Nat.lt_succ_self S)).trans (h.fr k)⟩
end Go.Proofs.YtmcncflieoolmaaGreat

/- The walks of assign.best; valid bids. -/
namespace Go.Proofs.YtmcncflieoolmaaGreat
set_option linter.unusedVariables false
set_option linter.unusedSimpArgs false
open Go.ChangeShapes Go.WideShapes Go.ChangeAt Go.RowKit Go.Deep

end Go.Proofs.YtmcncflieoolmaaGreat

/- The walks of assign.Check and assign.Best, for every bids. -/
namespace Go.Proofs.YtmcncflieoolmaaGreat
set_option linter.unusedVariables false
set_option linter.unusedSimpArgs false
open Go.ChangeShapes Go.WideShapes Go.ChangeAt Go.RowKit Go.Deep

end Go.Proofs.YtmcncflieoolmaaGreat

/- The walks of the reference's functions Next and Most; valid bids of at most 6 agents. -/
namespace Go.Proofs.YtmcncflieoolmaaGreat
set_option linter.unusedVariables false
set_option linter.unusedSimpArgs false
open Go.ChangeShapes Go.WideShapes Go.ChangeAt Go.RowKit Go.Deep

end Go.Proofs.YtmcncflieoolmaaGreat

/- The walks of the reference's functions Link and Least; valid bids and an assignment. -/
namespace Go.Proofs.YtmcncflieoolmaaGreat
set_option linter.unusedVariables false
set_option linter.unusedSimpArgs false
open Go.ChangeShapes Go.WideShapes Go.ChangeAt Go.RowKit Go.Deep

/-- The weights of an assignment's links. -/
noncomputable def wl (v : List (List Int)) (a : List Int) : Nat → Nat → Int := wt (bid v) v.length (itm a)
end Go.Proofs.YtmcncflieoolmaaGreat

/- The walk of the reference's function Least; valid bids and an assignment. -/
namespace Go.Proofs.YtmcncflieoolmaaGreat
set_option linter.unusedVariables false
set_option linter.unusedSimpArgs false
open Go.ChangeShapes Go.WideShapes Go.ChangeAt Go.RowKit Go.Deep

end Go.Proofs.YtmcncflieoolmaaGreat

/- Raising prices in rounds comes to the greatest sums along paths, the least prices; harm is price; plain, no program. -/
namespace Go.Proofs.YtmcncflieoolmaaGreat
set_option linter.unusedVariables false
set_option linter.unusedSimpArgs false

end Go.Proofs.YtmcncflieoolmaaGreat

/- The walk of assign.Prices, for every bids. -/
namespace Go.Proofs.YtmcncflieoolmaaGreat
set_option linter.unusedVariables false
set_option linter.unusedSimpArgs false
open Go.ChangeShapes Go.WideShapes Go.ChangeAt Go.RowKit Go.Deep

end Go.Proofs.YtmcncflieoolmaaGreat

/- The walks of room.Check and the reference's Check, of slices.Index and room.gcd, of the reference's Great and Same; no condition but sizes. -/
namespace Go.Proofs.YtmcncflieoolmaaGreat
set_option linter.unusedVariables false
set_option linter.unusedSimpArgs false
open Go.ChangeShapes Go.WideShapes Go.ChangeAt Go.RowKit Go.Deep

/-- What Check answers of a flat. -/
def chkR (v : List (List Int)) (r : Int) : Int := if Bids v then (if 0 ≤ r ∧ r ≤ 10000000 then 0 else 8) else chkI v
/-- Equal lists, laid twice. -/
theorem sameI_true {p q : Option Addr} {c d n m : Nat} {xs ys : List Int} {w : World} (hn : xs.length = n) (hm : ys.length = m) (e : xs = ys) (hx : Ints w p c xs) (hy : Ints w q d ys) :
    Calls Tryz.prog 23 #[.slice p n c, .slice q m d] w fun e w' => e = .returned (.bool true) ∧ ∃ n, w' = w.drewN n := by
  subst hn hm e
  refine (same_any p q c d xs xs w hx hy).mono ?_
  rintro e w' ⟨he, hw⟩
  exact ⟨by rw [he, sameB_true rfl], hw⟩
end Go.Proofs.YtmcncflieoolmaaGreat

/- Links closed over every item in turn come to the greatest sums along paths; plain, no program. -/
namespace Go.Proofs.YtmcncflieoolmaaGreat
set_option linter.unusedVariables false
set_option linter.unusedSimpArgs false

end Go.Proofs.YtmcncflieoolmaaGreat

/- The walk of room.Links, for every flat. -/
namespace Go.Proofs.YtmcncflieoolmaaGreat
set_option linter.unusedVariables false
set_option linter.unusedSimpArgs false
open Go.ChangeShapes Go.WideShapes Go.ChangeAt Go.RowKit Go.Deep

theorem own_snocR {w : World} {base : Nat} {p : Option Addr} {c : Nat} {xs : List Int} {y : Int} (h : w.ownsRow base 3 1 (.slice p (xs.length + 1) c) (xs.length + 1) (xs.map (Value.int .i64) ++ [.int .i64 y]))
    (hx : ∀ j, j < xs.length → in64 (iget xs j)) (hy : in64 y) : Own w base p c (xs ++ [y]) := by
  refine ⟨by rw [List.length_append, List.map_append]; exact h, fun j hj => ?_⟩
  rw [List.length_append, List.length_singleton] at hj
  rw [iget_append]
  split
  · exact hx j ‹_›
  · rw [show j - xs.length = 0 by omega]; exact hy
end Go.Proofs.YtmcncflieoolmaaGreat
