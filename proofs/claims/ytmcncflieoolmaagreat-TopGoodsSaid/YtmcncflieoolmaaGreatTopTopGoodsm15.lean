/- The walks of share's Of, All and Short; no condition but that the goods are valid. -/
import Derived.Test.YtmcncflieoolmaaGreatTopTopGoodsm14
import Derived.Test.YtmcncflieoolmaaGreatTopTopGoodsm4
import Derived.Deep.DeepCutAuto
import Derived.Test.YtmcncflieoolmaaGreatTopTopGoodsm6
import Derived.Test.YtmcncflieoolmaaGreatTopTopGoodsm10
import Derived.Test.YtmcncflieoolmaaGreatTopTopGoodsm7
import Derived.Test.YtmcncflieoolmaaGreatTopTopGoodsm2
import Derived.Test.YtmcncflieoolmaaGreatTopTopGoodsm5
import Derived.BigQuiet
import Derived.Deep.RegionHeld3
import Derived.Test.YtmcncflieoolmaaGreatTopTopGoodsm3
/- The walks of share's Of, All and Short; no condition but that the goods are valid. -/
namespace Go.Proofs.YtmcncflieoolmaaGreat
set_option linter.unusedSimpArgs false
open Go.ChangeShapes Go.WideShapes Go.ChangeAt Go.RowKit Go.Deep
set_option linter.unusedVariables false

set_option maxRecDepth 100000 in
set_option maxHeartbeats 4000000 in
theorem shOf_any (p : Option Addr) (c : Nat) (v : List (List Int)) (i : Nat) (w : World) (hx : Mat w p c v) (hg : Gds v) (hiv : i < v.length) :
    Calls Tryz.prog 74 #[.agg #[.slice p v.length c], .int .i64 (i : Int), .int .i64 (v.length : Int)] w fun e w' => ∃ q k d, e = .returned (.tuple #[.int .i64 (shV v i v.length), .slice q k d, .int .i64 0]) ∧ ShrP v i v.length (shV v i v.length) ∧ Below w.heap.size w w' := by
  obtain ⟨W0, hW0⟩ : ∃ W0, w.alloc (.cells #[.slice p v.length c] 24) = W0 := ⟨_, rfl⟩
  have hB : Below w.heap.size w W0 := below_alloc hW0
  have bX : BoxV W0 w.heap.size [.slice p v.length c] := BoxV.new rfl hW0
  have hx := hx.below hB (Nat.le_refl _)
  have x0 := bX.cell 0 _ rfl
  have h1 : 1 ≤ v.length := hg.1
  have h6 := hg.2.1
  have HC := goodsCheck_any p c v W0 hx
  rw [chkG_ok hg] at HC
  have HC := Lib.hid HC
  have d1 : decide ((i : Int) < 0) = false := by rw [decide_eq_false_iff_not]; omega
  have d2 : decide ((v.length : Int) ≤ (i : Int)) = false := by rw [decide_eq_false_iff_not]; omega
  have d3 : decide ((v.length : Int) < 1) = false := by rw [decide_eq_false_iff_not]; omega
  have d4 : decide (6 < (v.length : Int)) = false := by rw [decide_eq_false_iff_not]; omega
  have hi1 : (i : Int) < v.length := by omega
  have HW0 := Lib.hid hW0
  have Hg := Lib.hid hg
  clear hW0 hg
  go_enter Tryz.func74, Tryz.ntmps74
  go_wp2_with fail
  rw [HW0.out]
  refine HC.out.mono ?_
  rintro e w1 ⟨rfl, hb⟩
  have hx1 := hx.below hb (Nat.le_refl _)
  have x0 := (bX.below hb).cell 0 _ rfl
  have hB1 := hB.trans (hb.mono hB.size)
  obtain ⟨b, o, rfl, _, q0, d0, hcr, hI⟩ := hx1.get hiv
  have hrl : (rget v i).length = wid v := (Hg.out.2.2.2 i hiv).1
  have CB := shBest_any q0 d0 v i v.length w1 hI Hg.out hiv h1 (Nat.le_refl _)
  rw [hrl] at hcr
  have CB := Lib.hid CB
  clear hb HC hrl hI
  go_wp2_with fail
  refine CB.out.mono ?_
  rintro e w2 ⟨q, k, d, rfl, hy, hb⟩
  have Hy := Lib.hid hy
  clear hy
  go_wp2_with fail
  go_ret3
  exact ⟨q, k, d, rfl, Hy.out, hB1.trans (hb.mono hB1.size)⟩

/-- The shares of the first m agents. -/
def ShrL (v : List (List Int)) (L : List Int) (m : Nat) : Prop := L.length = m ∧ ∀ i, i < m → ShrP v i v.length (iget L i) ∧ iget L i = shV v i v.length
theorem ShrL.next {v : List (List Int)} {L : List Int} {m : Nat} {y : Int} (h : ShrL v L m) (hy : ShrP v m v.length y) (hyv : y = shV v m v.length) : ShrL v (L ++ [y]) (m + 1) := by
  refine ⟨by rw [List.length_append, h.1]; rfl, fun i hi => ?_⟩
  rw [iget_append]
  by_cases e : i < m
  · rw [if_pos (by rw [h.1]; exact e)]; exact h.2 i e
  · rw [if_neg (by rw [h.1]; exact e), h.1]
    obtain rfl : i = m := by omega
    rw [Nat.sub_self]; exact ⟨hy, hyv⟩
set_option maxRecDepth 100000 in
set_option maxHeartbeats 4000000 in
theorem shAll_any (p : Option Addr) (c : Nat) (v : List (List Int)) (w : World) (hx : Mat w p c v) (hg : Gds v) :
    Calls Tryz.prog 38 #[.agg #[.slice p v.length c]] w fun e w' => ∃ L q d, e = .returned (.tuple #[.slice q v.length d, .int .i64 0]) ∧ Own w' w.heap.size q d L ∧ ShrL v L v.length ∧ Below w.heap.size w w' := by
  obtain ⟨W0, hW0⟩ : ∃ W0, w.alloc (.cells #[.slice p v.length c] 24) = W0 := ⟨_, rfl⟩
  have hB : Below w.heap.size w W0 := below_alloc hW0
  have bX : BoxV W0 w.heap.size [.slice p v.length c] := BoxV.new rfl hW0
  have hx0 := hx.below hB (Nat.le_refl _)
  have x0 := bX.cell 0 _ rfl
  have h6 := hg.2.1
  have HC := goodsCheck_any p c v W0 hx0
  rw [chkG_ok hg] at HC
  have HC := Lib.hid HC
  have HW0 := Lib.hid hW0
  have Hg := Lib.hid hg
  clear hW0 hg hx0
  go_enter Tryz.func38, Tryz.ntmps38
  go_wp2_with fail
  rw [HW0.out]
  refine HC.out.mono ?_
  rintro e w1 ⟨rfl, hb⟩
  have bX1 := bX.below hb
  have x0 := bX1.cell 0 _ rfl
  have hB1 := hB.trans (hb.mono hB.size)
  have hs1 := hB1.size
  clear hb HC
  go_wp2_with fail
  go_loopw [5, 18] (fun s t wr => ∃ m : Nat, m ≤ v.length ∧ t = .int .i64 m ∧ (∃ L q d, Hid (ShrL v L m) ∧ s = .slice q (L : List Int).length d ∧ Own wr (w.heap.size + 1) q d L) ∧ BoxV wr w.heap.size [.slice p v.length c] ∧ Below w.heap.size w wr) (fun _ t _ => v.length - (intOf t).toNat)
  case atStart => exact ⟨0, Nat.zero_le _, rfl, ⟨[], none, 0, ⟨rfl, fun i hi => by omega⟩, rfl, Own.ofNil _ _⟩, bX1, hB1⟩
  case round =>
    clear x0
    obtain ⟨m, hm, rfl, ⟨L, q, d, hL, rfl, hO⟩, bXr, hbr⟩ := hrel
    have x0 := bXr.cell 0 _ rfl
    by_cases hml : m < v.length
    · have hm1 : (m : Int) < v.length := by omega
      have CO := Lib.hid (shOf_any p c v m wr (hx.below hbr (Nat.le_refl _)) Hg.out hml)
      have hLl : L.length ≤ 900000 := by have := hL.out.1; omega
      go_wp2_with fail
      refine CO.out.mono ?_
      rintro e w2 ⟨q2, k2, d2, rfl, hy, hb2⟩
      obtain ⟨y, hyv⟩ : ∃ y, shV v m v.length = y := ⟨_, rfl⟩
      rw [hyv] at hy ⊢
      have hO2 := hO.below hb2 (Nat.le_refl _)
      have bX2 := bXr.below hb2
      have hB2 := hbr.trans (hb2.mono hbr.size)
      have hs2 : w.heap.size + 1 ≤ w2.heap.size := bX2.lt
      have hin : in64 y := ⟨by have := hy.1.1; omega, by have := hy.1.2; omega⟩
      have HN := Lib.hid (hL.out.next hy hyv.symm)
      have hne : blk q ≠ some w.heap.size := fun e => by have := (hO.lt _ e).1; omega
      clear hy hyv CO hO hb2 x0 bXr
      have x0 := bX2.cell 0 _ rfl
      go_wp2_with (at_builtin; refine wpList_app1 rfl (.tmp 31) (.tmp 33) rfl (w.heap.size + 1) _ _ L y rfl rfl rfl hO2 hin hLl hs2 ?_; intro q3 d3 w3 L3 hL3 hO3 hg3 hf3)
      go_roundw
      case rel => exact ⟨m + 1, by omega, by go_num, ⟨L3, _, _, by unfold Hid; rw [hL3.out]; exact HN.out, rfl, hO3⟩, bX2.heap hg3.size (hg3.block _ bX2.lt (fun e => hne e.symm)), hB2.grown hg3 hB2.size (fun k e => by have := (hO2.lt k e).1; omega)⟩
      case measure => simp [intOf]; omega
    · have hm1 : ¬ (m : Int) < v.length := by omega
      obtain rfl : m = v.length := by omega
      rw [show L.length = v.length from hL.out.1]
      go_wp2_with fail
      go_ret2
      exact ⟨L, q, d, rfl, hO.lower (by omega), hL.out, hbr⟩

set_option maxRecDepth 100000 in
set_option maxHeartbeats 4000000 in
/-- Nobody is short whose own bundle is worth what All answers. -/
theorem shShort_any (p : Option Addr) (c : Nat) (v : List (List Int)) (q : Option Addr) (d : Nat) (a : List Int) (w : World) (hx : Mat w p c v) (hi : Ints w q d a) (hF : chkA v a = 0) (hno : ∀ L, ShrL v L v.length → ∀ i, i < v.length → iget L i ≤ worth v a i (i : Int)) :
    Calls Tryz.prog 44 #[.agg #[.slice p v.length c], .slice q a.length d] w fun e w' => e = .returned (.tuple #[.slice none 0 0, .int .i64 0]) ∧ Below w.heap.size w w' := by
  obtain ⟨W0, hW0⟩ : ∃ W0, w.alloc (.cells #[.slice p v.length c] 24) = W0 := ⟨_, rfl⟩
  have hB : Below w.heap.size w W0 := below_alloc hW0
  have bX : BoxV W0 w.heap.size [.slice p v.length c] := BoxV.new rfl hW0
  have hx0 := hx.below hB (Nat.le_refl _)
  have hi0 := hi.below hB (Nat.le_refl _)
  have x0 := bX.cell 0 _ rfl
  have HV := goodsValues_any p c v q d a W0 hx0 hi0
  rw [hF, valsL_ok hF] at HV
  unfold GivesV at HV
  rw [valsG_len] at HV
  have HV := Lib.hid HV
  have HW0 := Lib.hid hW0
  have Hg := Lib.hid (chkA_zero.1 hF).1
  clear hW0 hx0 hi0 hF
  go_enter Tryz.func44, Tryz.ntmps44
  go_wp2_with fail
  rw [HW0.out]
  refine HV.out.mono ?_
  rintro e w1 ⟨pv, cv, rfl, hM, hb⟩
  have bX1 := bX.below hb
  have x0 := bX1.cell 0 _ rfl
  have hB1 := hB.trans (hb.mono hB.size)
  have CA := Lib.hid (shAll_any p c v w1 (hx.below hB1 (Nat.le_refl _)) Hg.out)
  clear hb HV
  go_wp2_with fail
  refine CA.out.mono ?_
  rintro e w2 ⟨L, qa, da, rfl, hO, hL, hb⟩
  have hM2 := hM.below hb (Nat.le_refl _)
  have hB2 := hB1.trans (hb.mono hB1.size)
  have hI2 := hO.ints
  have hLe := Lib.hid (hno L hL)
  have hLl : L.length = v.length := hL.1
  rw [← hLl]
  have HLl := Lib.hid hLl
  clear hb CA hO hL hno hLl hM
  go_wp2_with fail
  go_loop [10, 29] (fun s t => ∃ m : Nat, m ≤ L.length ∧ t = .int .i64 m ∧ s = .slice none 0 0) (fun _ t => L.length - (intOf t).toNat)
  case atStart => exact ⟨0, Nat.zero_le _, rfl, rfl⟩
  case round =>
    obtain ⟨m, hm, rfl, rfl⟩ := hrel
    by_cases hml : m < L.length
    · have hm1 : (m : Int) < L.length := by omega
      have hmv : m < v.length := by have := HLl.out; omega
      have hL6 : L.length ≤ 6 := by have := HLl.out; have := Hg.out.2.1; omega
      obtain ⟨b1, o1, rfl, _, hc1⟩ := hI2.get hml
      obtain ⟨b2, o2, rfl, _, q2, d2, hc2, hr2⟩ := hM2.get (j := m) (by rw [valsG_len]; exact hmv)
      obtain ⟨b3, o3, rfl, _, hc3⟩ := hr2.get (j := m) (by rw [valsG_row hmv, worthRow_len]; exact hmv)
      rw [valsG_row hmv, worthRow_get hmv] at hc3
      rw [valsG_row hmv, worthRow_len, ← HLl.out] at hc2
      have hd : decide (worth v a m (m : Int) < iget L m) = false := by rw [decide_eq_false_iff_not]; have := hLe.out m hmv; omega
      clear hr2
      go_wp2_with fail
      go_round
      case rel => exact ⟨m + 1, by omega, by go_num, rfl⟩
      case measure => simp [intOf]; omega
    · have hm1 : ¬ (m : Int) < L.length := by omega
      go_wp2_with fail
      go_ret2
      exact ⟨rfl, hB2⟩
end Go.Proofs.YtmcncflieoolmaaGreat

/- Turns in rounds take every good, and are fair up to one good (plain); an agent's share, divided by the number of agents. -/
namespace Go.Proofs.YtmcncflieoolmaaGreat
set_option linter.unusedVariables false
set_option linter.unusedSimpArgs false

def hasN (A : List Int) : Nat := A.countP fun x => decide (0 ≤ x)
theorem hasN_all {A : List Int} (h : hasN A = A.length) : ∀ j, j < A.length → 0 ≤ iget A j := fun j hj => by
  have := List.countP_eq_length.1 h (iget A j) (by
    have e : iget A j = A[j] := by simp [iget, List.getD, hj]
    rw [e]; exact List.getElem_mem hj)
  simpa using this
theorem hasN_set {A : List Int} {g : Nat} {y : Int} (hg : g < A.length) (hf : iget A g < 0) (hy : 0 ≤ y) : hasN (A.set g y) = hasN A + 1 := by
  unfold hasN
  have e : iget A g = A[g] := by simp [iget, List.getD, hg]
  rw [List.countP_set hg]
  have h1 : decide (0 ≤ A[g]) = false := by rw [decide_eq_false_iff_not, ← e]; omega
  have h2 : decide (0 ≤ y) = true := by rw [decide_eq_true_iff]; exact hy
  simp [h1, h2]
theorem pk_count {v : List (List Int)} {ts : List Int} (ht : ∀ t, t < ts.length → 0 ≤ iget ts t) : ∀ m, m ≤ ts.length → hasN (pkA v ts m) = wid v ∨ m ≤ hasN (pkA v ts m)
  | 0, _ => .inr (Nat.zero_le _)
  | m + 1, hm => by
    have ih := pk_count ht m (by omega) (v := v)
    have hl := pkA_len v ts m
    have hle : hasN (pkA v ts m) ≤ wid v := by rw [← hl]; exact List.countP_le_length
    have hst : pkA v ts (m + 1) = stepA v (pkA v ts m) (iget ts m) := rfl
    rw [hst]
    unfold stepA
    split
    · next h =>
      have hr := pickTo_range (rget v (iget ts m).toNat) (pkA v ts m) (pkA v ts m).length
      have hb := pickTo_best h
      unfold pick at h ⊢
      rw [hasN_set (by omega) hb.1 (ht m (by omega))]
      rcases ih with e | e
      · left
        have hl2 : hasN ((pkA v ts m).set (pickTo (rget v (iget ts m).toNat) (pkA v ts m) (pkA v ts m).length).toNat (iget ts m)) ≤ wid v := by
          rw [← hl]
          have := List.countP_le_length (p := fun x => decide (0 ≤ x)) (l := (pkA v ts m).set (pickTo (rget v (iget ts m).toNat) (pkA v ts m) (pkA v ts m).length).toNat (iget ts m))
          rw [List.length_set] at this
          exact this
        rw [hasN_set (by omega) hb.1 (ht m (by omega))] at hl2
        omega
      · right; omega
    · next h =>
      left
      have hn := pickTo_none.1 (by unfold pick at h; omega : pickTo (rget v (iget ts m).toNat) (pkA v ts m) (pkA v ts m).length < 0)
      have : hasN (pkA v ts m) = (pkA v ts m).length := by
        refine List.countP_eq_length.2 fun x hx => ?_
        obtain ⟨j, hj, e⟩ := List.mem_iff_getElem.1 hx
        have := hn j hj
        have e2 : iget (pkA v ts m) j = x := by rw [← e]; simp [iget, List.getD, hj]
        rw [e2] at this
        rw [decide_eq_true_iff]; omega
      rw [this, hl]
theorem pick_full {v : List (List Int)} {f : List Int} (hg : Gds v) (hA : IsA f v.length) :
    chkT v.length (seqL f false (wid v)) = 0 ∧ AlcOk v (pkA v (seqL f false (wid v)) (seqL f false (wid v)).length) ∧ FullA v.length (pkA v (seqL f false (wid v)) (seqL f false (wid v)).length) ∧ CalmOne v (pkA v (seqL f false (wid v)) (seqL f false (wid v)).length) := by
  have hm := hg.2.2.1
  have ht := seq_chkT hA hg.1 hg.2.1 false (by omega : wid v ≤ 60)
  have hb := seq_balB hA hg.1 hg.2.1 false (by omega : wid v ≤ 60)
  have hlen := seqL_len f false (wid v)
  rw [balB_ok ht] at hb
  have hOk := turnOk_of (chkG_ok hg) ht
  have hal : AlcOk v (pkA v (seqL f false (wid v)) (seqL f false (wid v)).length) := ⟨pkA_len _ _ _, pkA_ok hOk.turn _ (Nat.le_refl _)⟩
  have hcnt := pk_count (v := v) (ts := seqL f false (wid v)) (fun t h => ((chkT_zero.1 ht).2.2.2 t h).1) _ (Nat.le_refl _)
  have hle : hasN (pkA v (seqL f false (wid v)) (seqL f false (wid v)).length) ≤ wid v := by
    have := List.countP_le_length (p := fun x => decide (0 ≤ x)) (l := pkA v (seqL f false (wid v)) (seqL f false (wid v)).length)
    rw [pkA_len] at this
    exact this
  have hall := hasN_all (A := pkA v (seqL f false (wid v)) (seqL f false (wid v)).length) (by rw [pkA_len]; rw [hlen] at hcnt hle ⊢; omega)
  exact ⟨ht, hal, fun j hj => ⟨hall j hj, (hal.2 j hj).2⟩, calm_one hOk (of_decide_eq_true hb)⟩
/-- The share of an agent is at most the number of agents times what it has. -/
theorem share_own {v : List (List Int)} {a L : List Int} (hg : Gds v) (ha : AlcOk v a) (hf : FullA v.length a) (hC : CalmOne v a) (hL : ShrL v L v.length) {i : Nat} (hi : i < v.length) : iget L i ≤ v.length * worth v a i (i : Int) := by
  have hs := ((hL.2 i hi).1).2
  have hn : 0 ≤ worth v a i (i : Int) := (worthUp_in hg hi (i : Int) a.length (by rw [ha.1]; exact Nat.le_refl _) (a := a)).1
  rcases hs with e | ⟨x, hx, hb⟩
  · have : 0 ≤ (v.length : Int) * worth v a i (i : Int) := Int.mul_nonneg (by omega) hn
    omega
  · obtain ⟨b, h1, h2⟩ := share_le hg ha hf hC (P := x) (by rw [hx.1, ha.1]) hi
    have := hb b h1
    omega
end Go.Proofs.YtmcncflieoolmaaGreat

/- The walks of the laws' fit (chores), and of the reference's Complete. -/
namespace Go.Proofs.YtmcncflieoolmaaGreat
set_option linter.unusedVariables false
set_option linter.unusedSimpArgs false
open Go.ChangeShapes Go.WideShapes Go.ChangeAt Go.RowKit Go.Deep
def complP (a : List Int) : Prop := ∀ k, k < a.length → 0 ≤ iget a k
instance (a : List Int) : Decidable (complP a) := by unfold complP; infer_instance
set_option maxHeartbeats 800000 in
theorem complete_any (p : Option Addr) (c : Nat) (a : List Int) (w : World) (hx : Ints w p c a) :
    Calls Tryz.prog 7 #[.slice p a.length c] w fun e w' => e = .returned (.bool (decide (complP a))) ∧ w' = w := by
  have hl1 := hx.length_le
  go_enter Tryz.func7, Tryz.ntmps7
  go_wp2_with fail
  go_loop [3] (fun t => ∃ k : Nat, k ≤ a.length ∧ t = .int .i64 k ∧ Hid (∀ j, j < k → 0 ≤ iget a j)) (fun t => a.length - (intOf t).toNat)
  case atStart => exact ⟨0, Nat.zero_le _, rfl, fun j hj => absurd hj (Nat.not_lt_zero j)⟩
  case round =>
    obtain ⟨k, hk, rfl, ht⟩ := hrel
    by_cases hlt : k < a.length
    · obtain ⟨b, o, rfl, _, hc⟩ := hx.get hlt
      have hk1 : (k : Int) < a.length := by omega
      by_cases h0 : iget a k < 0
      · have hd : decide (iget a k < 0) = true := by simpa using h0
        have HP : Hid (decide (complP a) = false) := by unfold Hid; rw [decide_eq_false_iff_not]; exact fun h => by have := h k hlt; omega
        clear h0
        go_wp2_with fail
        go_ret
        exact ⟨ret_bool HP.out.symm, rfl⟩
      · have hd : decide (iget a k < 0) = false := by simpa using h0
        have HP : Hid (0 ≤ iget a k) := by unfold Hid; omega
        clear h0
        go_wp2_with fail
        go_round
        case rel => exact ⟨k + 1, by omega, by go_num, snoc_all' ht.out HP.out⟩
        case measure => simp [intOf]; omega
    · have hk1 : ¬ (k : Int) < a.length := by omega
      go_wp2_with fail
      go_ret
      exact ⟨ret_bool (decide_eq_true (fun j hj => ht.out j (by omega))).symm, rfl⟩
end Go.Proofs.YtmcncflieoolmaaGreat

/- The walk of parcenertop.shared: true of a complete allocation that is fair up to one good. -/
namespace Go.Proofs.YtmcncflieoolmaaGreat
set_option linter.unusedVariables false
set_option linter.unusedSimpArgs false
open Go.ChangeShapes Go.WideShapes Go.ChangeAt Go.RowKit Go.Deep

set_option maxHeartbeats 4000000 in
set_option maxRecDepth 100000 in
theorem shared_walk (p : Option Addr) (c : Nat) (v : List (List Int)) (q : Option Addr) (d m : Nat) (a : List Int) (w : World) (hx : Mat w p c v) (hi : Ints w q d a) (hm : a.length = m) (hg : Gds v) (ha : AlcOk v a) (hf : FullA v.length a) (hC : CalmOne v a) :
    Calls Tryz.prog 14 #[.agg #[.slice p v.length c], .slice q m d] w fun e w' => e = .returned (.bool true) ∧ Below w.heap.size w w' := by
  obtain ⟨W0, hW0⟩ : ∃ W0, w.alloc (.cells #[.slice p v.length c] 24) = W0 := ⟨_, rfl⟩
  have hB : Below w.heap.size w W0 := below_alloc hW0
  have bX : BoxV W0 w.heap.size [.slice p v.length c] := BoxV.new rfl hW0
  have hx := hx.below hB (Nat.le_refl _)
  have hi := hi.below hB (Nat.le_refl _)
  have hF := chkA_ok hg ha
  have hcp : decide (complP a) = true := by rw [decide_eq_true_iff]; intro j hj; exact (hf j hj).1
  have CV := Lib.hid (fun W (h : Below W0.heap.size W0 W) => by
    have := ref16Valid_any p c v q d a W (hx.below h (Nat.le_refl _)) (hi.below h (Nat.le_refl _))
    rw [hF, hm] at this
    exact this)
  have CC := Lib.hid (fun W (h : Below W0.heap.size W0 W) => by
    have := complete_any q d a W (hi.below h (Nat.le_refl _))
    rw [hcp, hm] at this
    exact this)
  have CN := Lib.hid (fun W (h : Below W0.heap.size W0 W) => by
    have := nearOne_calm p c v q d a W (hx.below h (Nat.le_refl _)) (hi.below h (Nat.le_refl _)) hF hC
    rw [hm] at this
    exact this)
  have CA := Lib.hid (fun W (h : Below W0.heap.size W0 W) => shAll_any p c v W (hx.below h (Nat.le_refl _)) hg)
  have CG := Lib.hid (fun W (h : Below W0.heap.size W0 W) => by
    have := goodsValues_any p c v q d a W (hx.below h (Nat.le_refl _)) (hi.below h (Nat.le_refl _))
    rw [valsL_ok hF, hF, hm] at this
    unfold GivesV at this
    rw [valsG_len] at this
    exact this)
  have Hg := Lib.hid hg
  have Ha := Lib.hid ha
  have Hs := Lib.hid (fun L (hL : ShrL v L v.length) i (hiv : i < v.length) => share_own hg ha hf hC hL hiv)
  have hn6 := hg.2.1
  have HW0 := Lib.hid hW0
  have x0 := bX.cell 0 _ rfl
  clear hW0 hx hi hg ha hf hC hF hcp hm
  go_enter Tryz.func14, Tryz.ntmps14
  go_wp2_with fail
  rw [HW0.out]
  refine (CV.out W0 (Below.refl _ _)).mono ?_
  rintro e w1 ⟨rfl, hb1⟩
  go_wp2_with fail
  refine (CC.out w1 hb1).mono ?_
  rintro e w2 ⟨rfl, rfl⟩
  clear x0
  have x0 := (bX.below hb1).cell 0 _ rfl
  go_wp2_with fail
  refine (CN.out w2 hb1).mono ?_
  rintro e w3 ⟨pm, nm, cm, rfl, hb3⟩
  have hb3 := hb1.trans (hb3.mono hb1.size)
  clear x0 hb1
  have x0 := (bX.below hb3).cell 0 _ rfl
  go_wp2_with fail
  refine (CA.out w3 hb3).mono ?_
  rintro e w4 ⟨L, qL, dL, rfl, oL, hL, hb4⟩
  have hb5 := hb3.trans (hb4.mono hb3.size)
  clear x0 hb3 hb4
  have x0 := (bX.below hb5).cell 0 _ rfl
  go_wp2_with fail
  refine (CG.out w4 hb5).mono ?_
  rintro e w5 ⟨pV, cV, rfl, mV, hb6⟩
  have hb7 := hb5.trans (hb6.mono hb5.size)
  have iL := oL.ints.below hb6 (Nat.le_refl _)
  clear x0 oL hb5 hb6
  have x0 := (bX.below hb7).cell 0 _ rfl
  have hvv : ((v.length : Int) != v.length) = false := by simp
  have HL := Lib.hid hL
  have hBw : Below w.heap.size w w5 := hB.trans (hb7.mono hB.size)
  have HLl := Lib.hid hL.1
  have MV := Lib.hid mV
  have IL := Lib.hid iL
  clear hL mV iL hb7
  go_wp2_with fail
  go_loopw [12] (fun t wr => ∃ k : Nat, k ≤ v.length ∧ t = .int .i64 (k : Int) ∧ ∃ n, wr = w5.drewN n) (fun t _ => v.length - (intOf t).toNat)
  case atStart => exact ⟨0, Nat.zero_le _, rfl, 0, rfl⟩
  case round =>
    obtain ⟨k, hk, rfl, n, hw⟩ := hrel
    by_cases hlt : k < v.length
    · have hk1 : (k : Int) < v.length := by omega
      have hbn : Below w5.heap.size w5 wr := by rw [hw]; exact below_drewN _ _ _
      obtain ⟨b, o, rfl, _, qr, dr, hc, hr⟩ := (MV.out.below hbn (Nat.le_refl _)).get (j := k) (by rw [valsG_len]; exact hlt)
      rw [valsG_row hlt] at hc hr
      rw [worthRow_len] at hc
      obtain ⟨b1, o1, rfl, _, he⟩ := hr.get (j := k) (by rw [worthRow_len]; exact hlt)
      rw [worthRow_get hlt] at he
      obtain ⟨b2, o2, rfl, _, hl⟩ := (IL.out.below hbn (Nat.le_refl _)).get (j := k) (by rw [HLl.out]; exact hlt)
      have hs := Hs.out L HL.out k hlt
      have hw1 : 0 ≤ worth v a k (k : Int) ∧ worth v a k (k : Int) ≤ 10000 := by
        have := worthUp_in Hg.out hlt (k : Int) a.length (by rw [Ha.out.1]; exact Nat.le_refl _) (a := a)
        have h1 := Hg.out.2.2.1
        have h2 := Ha.out.1
        unfold worth
        omega
      obtain ⟨X, eX⟩ : ∃ y, worth v a k (k : Int) = y := ⟨_, rfl⟩
      obtain ⟨Y, eY⟩ : ∃ y, iget L k = y := ⟨_, rfl⟩
      rw [eX] at he hs hw1
      rw [eY] at hl hs
      have hm2 : 0 ≤ (v.length : Int) * X ∧ (v.length : Int) * X ≤ 60000 := ⟨Int.mul_nonneg (by omega) hw1.1, by
        have := Int.mul_le_mul (by omega : (v.length : Int) ≤ 6) hw1.2 hw1.1 (by omega : (0 : Int) ≤ 6)
        omega⟩
      have u1 : IntKind.i64.wrap ((v.length : Int) * X) = (v.length : Int) * X := IntWalk.i64_in _ (by omega)
      have d1 : decide ((v.length : Int) * X < Y) = false := by rw [decide_eq_false_iff_not]; omega
      have hl6 : v.length ≤ 6 := hn6
      have HW := Lib.hid hw
      clear eX eY hs hm2 hw1 hr hbn hw
      go_wp2_with fail
      go_quiet (fail)
      go_wp2_with fail
      go_roundw
      case rel => exact ⟨k + 1, by omega, by go_num, drew_drewN _ ⟨n, HW.out⟩⟩
      case measure => simp [intOf]; omega
    · have hk1 : ¬ (k : Int) < v.length := by omega
      have hBr : Below w.heap.size w wr := by rw [hw]; exact hBw.drewP ⟨n, rfl⟩
      have HBr := Lib.hid hBr
      clear hw hBr
      go_wp2_with fail
      go_ret
      exact ⟨rfl, HBr.out⟩
end Go.Proofs.YtmcncflieoolmaaGreat

/- A map of n numbers into themselves: the circle that one comes to; plain, no program. -/
namespace Go.Proofs.YtmcncflieoolmaaGreat
set_option linter.unusedVariables false
set_option linter.unusedSimpArgs false
/-- f, k times. -/
def itN (f : Nat → Nat) : Nat → Nat → Nat
  | 0, x => x
  | k + 1, x => f (itN f k x)
theorem itN_add (f : Nat → Nat) (a : Nat) : ∀ b x, itN f (a + b) x = itN f b (itN f a x)
  | 0, _ => rfl
  | b + 1, x => by rw [← Nat.add_assoc, itN, itN, itN_add f a b x]
theorem itN_lt {f : Nat → Nat} {n : Nat} (hf : ∀ x, x < n → f x < n) : ∀ k x, x < n → itN f k x < n
  | 0, _, h => h
  | k + 1, x, h => hf _ (itN_lt hf k x h)
theorem pigeonC : ∀ (n m : Nat) (g : Nat → Nat), (∀ j, j < n → g j < m) → (∀ a b, a < b → b < n → g a ≠ g b) → n ≤ m
  | 0, _, _, _, _ => Nat.zero_le _
  | n + 1, m, g, h1, h2 => by
    have hm := h1 n (by omega)
    have := pigeonC n (m - 1) (fun j => if g n < g j then g j - 1 else g j) (fun j hj => by
      have a := h1 j (by omega)
      have b := h2 j n hj (by omega)
      split <;> omega) (fun a b hab hb => by
      have c := h2 a b hab (by omega)
      have d := h2 a n (by omega) (by omega)
      have e := h2 b n hb (by omega)
      split <;> split <;> omega)
    omega
/-- After n steps one is on the circle. -/
theorem it_back {f : Nat → Nat} {n : Nat} (hf : ∀ x, x < n → f x < n) {x : Nat} (hx : x < n) : ∃ L, 1 ≤ L ∧ L ≤ n ∧ itN f L (itN f n x) = itN f n x := by
  apply Classical.byContradiction
  intro hn
  have h := pigeonC (n + 1) n (fun k => itN f k x) (fun j _ => itN_lt hf j x hx) (fun a b hab hb e => by
    apply hn
    refine ⟨b - a, by omega, by omega, ?_⟩
    have e1 : itN f (n + (b - a)) x = itN f (n - a) (itN f b x) := by rw [← itN_add]; congr 1; omega
    have e2 : itN f n x = itN f (n - a) (itN f a x) := by rw [← itN_add]; congr 1; omega
    rw [← itN_add, e1, e2]
    exact congrArg _ e.symm)
  omega
/-- L is the length of z's circle. -/
def PerC (f : Nat → Nat) (z L : Nat) : Prop := 1 ≤ L ∧ itN f L z = z ∧ ∀ k, 1 ≤ k → k < L → itN f k z ≠ z
theorem per_ex {f : Nat → Nat} {z M : Nat} (h1 : 1 ≤ M) (h2 : itN f M z = z) : ∃ L, L ≤ M ∧ PerC f z L := by
  induction M using Nat.strongRecOn with
  | ind M ih =>
    by_cases h : ∃ k, 1 ≤ k ∧ k < M ∧ itN f k z = z
    · obtain ⟨k, a, b, c⟩ := h
      obtain ⟨L, l1, l2⟩ := ih k b a c
      exact ⟨L, by omega, l2⟩
    · exact ⟨M, Nat.le_refl _, h1, h2, fun k a b c => h ⟨k, a, b, c⟩⟩
theorem per_step {f : Nat → Nat} {z L : Nat} (h : PerC f z L) (k : Nat) : itN f L (itN f k z) = itN f k z := by
  rw [← itN_add, Nat.add_comm, itN_add, h.2.1]
theorem per_inj {f : Nat → Nat} {z L : Nat} (h : PerC f z L) {a b : Nat} (hab : a < b) (hb : b < L) : itN f a z ≠ itN f b z := fun e => by
  have e1 : itN f (L - b + a) z = itN f (L - b) (itN f b z) := by rw [Nat.add_comm, itN_add, e]
  rw [← itN_add, show b + (L - b) = L by omega, h.2.1] at e1
  exact h.2.2 (L - b + a) (by omega) (by omega) e1
theorem per_mod {f : Nat → Nat} {z L : Nat} (h : PerC f z L) : ∀ k, itN f k z = itN f (k % L) z := by
  intro k
  induction k using Nat.strongRecOn with
  | ind k ih =>
    by_cases hk : k < L
    · rw [Nat.mod_eq_of_lt hk]
    · have h1 := h.1
      have e : itN f k z = itN f (k - L) z := by
        have := itN_add f L (k - L) z
        rw [show L + (k - L) = k by omega, h.2.1] at this
        exact this
      rw [e, ih (k - L) (by omega), Nat.mod_eq_sub_mod (a := k) (b := L) (by omega)]
/-- Every one of the circle has it. -/
theorem per_any {f : Nat → Nat} {z L : Nat} (h : PerC f z L) (a : Nat) : PerC f (itN f a z) L := by
  refine ⟨h.1, per_step h a, fun k h1 h2 e => ?_⟩
  have h3 := congrArg (itN f (L - a % L)) e
  have hm := Nat.mod_lt a (show 0 < L from h.1)
  rw [per_mod h a, ← itN_add, ← itN_add, ← itN_add, show a % L + (L - a % L) = L by omega, h.2.1,
    show a % L + (k + (L - a % L)) = L + k by omega, itN_add, h.2.1] at h3
  exact h.2.2 k h1 h2 h3
/-- The circle, from z on. -/
def orb (f : Nat → Nat) (z L : Nat) : List Int := (List.range L).map fun (k : Nat) => Int.ofNat (itN f k z)
theorem orb_len (f : Nat → Nat) (z L : Nat) : (orb f z L).length = L := by simp [orb]
theorem orb_get {f : Nat → Nat} {z L k : Nat} (h : k < L) : iget (orb f z L) k = (itN f k z : Int) := by simp [orb, iget, h]
/-- Turned: from its a-th on. -/
theorem orb_turn {f : Nat → Nat} {z L a : Nat} (h : PerC f z L) (ha : a < L) : (orb f z L).drop a ++ (orb f z L).take a = orb f (itN f a z) L := by
  apply ext_iget
  · simp [orb]; omega
  · intro k hk
    have hkl : k < L := by simp [orb] at hk; omega
    rw [orb_get hkl, iget_append]
    have hd : ((orb f z L).drop a).length = L - a := by simp [orb]
    rw [hd, ← itN_add]
    split
    · have : iget ((orb f z L).drop a) k = iget (orb f z L) (a + k) := by simp [iget, List.getElem?_drop]
      rw [this, orb_get (by omega)]
    · rename_i hge
      have : iget ((orb f z L).take a) (k - (L - a)) = iget (orb f z L) (k - (L - a)) := by
        simp only [iget, List.getD, List.getElem?_take]
        rw [if_pos (by omega)]
      rw [this, orb_get (by omega), show a + k = L + (k - (L - a)) by omega, itN_add, h.2.1]
end Go.Proofs.YtmcncflieoolmaaGreat

/- The walk of chores.least: the first least number of those that count.  (Printed by wip/genleast.py.) -/
namespace Go.Proofs.YtmcncflieoolmaaGreat
set_option linter.unusedVariables false
set_option linter.unusedSimpArgs false
open Go.ChangeShapes Go.WideShapes Go.ChangeAt Go.RowKit Go.Deep

/-- Of the first k, the first least one of those that count, or -1. -/
def leastTo (xs : List Int) (P : Nat → Bool) : Nat → Int
  | 0 => -1
  | k + 1 => if P k = true ∧ (leastTo xs P k < 0 ∨ iget xs k < iget xs (leastTo xs P k).toNat) then (k : Int) else leastTo xs P k
theorem leastTo_range (xs : List Int) (P : Nat → Bool) : ∀ k, -1 ≤ leastTo xs P k ∧ leastTo xs P k < k
  | 0 => by simp [leastTo]
  | k + 1 => by
    have := leastTo_range xs P k
    rw [leastTo]; split <;> omega
set_option maxHeartbeats 1600000 in
theorem least0_any (K : Nat) (P : Nat → Bool) (R : World → Prop) (hcf : ∀ args W, (callFunc K args).run Tryz.prog W = .ok (.enter K args) W) (p : Option Addr) (c : Nat) (xs : List Int) (w : World) (hR : R w) (hI : Hid (∀ W, R W → Ints W p c xs))
    (hf : ∀ j W, j < xs.length → R W → Calls Tryz.prog K #[.int .i64 (j : Nat)] W fun e w' => e = .returned (.bool (P j)) ∧ R w') :
    Calls Tryz.prog 86 #[.slice p xs.length c, .func (.func K) #[] #[]] w fun e w' => e = .returned (.int .i64 (leastTo xs P xs.length)) ∧ R w' := by
  have hl1 := (hI.out _ hR).length_le
  have Hf := Lib.hid hf
  clear hf
  go_enter Tryz.func86, Tryz.ntmps86
  go_wp2_with fail
  go_loopw [5, 10] (fun s t wr => ∃ k : Nat, k ≤ xs.length ∧ t = .int .i64 k ∧ s = .int .i64 (leastTo xs P k) ∧ R wr) (fun _ t _ => xs.length - (intOf t).toNat)
  case atStart => exact ⟨0, Nat.zero_le _, rfl, rfl, hR⟩
  case round =>
    obtain ⟨k, hk, rfl, rfl, hRr⟩ := hrel
    by_cases hlt : k < xs.length
    · obtain ⟨b, o, rfl, _, hc⟩ := (hI.out _ hRr).get hlt
      have hk1 : (k : Int) < xs.length := by omega
      have Hst : Hid (leastTo xs P (k + 1) = if P k = true ∧ (leastTo xs P k < 0 ∨ iget xs k < iget xs (leastTo xs P k).toNat) then (k : Int) else leastTo xs P k) := rfl
      have hrg := leastTo_range xs P k
      obtain ⟨B, eB⟩ : ∃ B, leastTo xs P k = B := ⟨_, rfl⟩
      rw [eB] at Hst hrg ⊢
      clear eB
      go_wp2_with fail
      refine (Hf.out k _ hlt hRr).mono ?_
      rintro e w' ⟨rfl, hR'⟩
      have hx' := hI.out _ hR'
      cases hP : P k with
      | false =>
        have HS : Hid (leastTo xs P (k + 1) = B) := by unfold Hid; rw [Hst.out, if_neg (by simp [hP])]
        clear hP
        go_wp2_with fail
        go_roundw
        case rel => exact ⟨k + 1, by omega, by go_num, by rw [HS.out], hR'⟩
        case measure => (simp [intOf] <;> omega)
      | true =>
        by_cases hneg : B < 0
        · have hd : decide (B < 0) = true := by simpa using hneg
          have HS : Hid (leastTo xs P (k + 1) = k) := by unfold Hid; rw [Hst.out, if_pos ⟨hP, .inl hneg⟩]
          clear hP hneg
          go_wp2_with fail
          go_roundw
          case rel => exact ⟨k + 1, by omega, by go_num, by rw [HS.out], hR'⟩
          case measure => (simp [intOf] <;> omega)
        · have hd : decide (B < 0) = false := by simpa using hneg
          obtain ⟨m, rfl⟩ : ∃ m : Nat, B = m := ⟨B.toNat, by omega⟩
          have hm : m < xs.length := by omega
          have hm1 : (m : Int) < xs.length := by omega
          have hcm := hx'.at hm
          rw [Int.toNat_natCast] at Hst
          cases hlt2 : decide (iget xs k < iget xs m) with
          | true =>
            have HS : Hid (leastTo xs P (k + 1) = k) := by unfold Hid; rw [Hst.out, if_pos ⟨hP, .inr (of_decide_eq_true hlt2)⟩]
            clear hP hneg
            go_wp2_with fail
            go_roundw
            case rel => exact ⟨k + 1, by omega, by go_num, by rw [HS.out], hR'⟩
            case measure => (simp [intOf] <;> omega)
          | false =>
            have HS : Hid (leastTo xs P (k + 1) = m) := by unfold Hid; rw [Hst.out, if_neg (by rintro ⟨_, h | h⟩; exact hneg h; simp at hlt2; omega)]
            clear hP hneg
            go_wp2_with fail
            go_roundw
            case rel => exact ⟨k + 1, by omega, by go_num, by rw [HS.out], hR'⟩
            case measure => (simp [intOf] <;> omega)
    · have hk1 : ¬ (k : Int) < xs.length := by omega
      obtain rfl : k = xs.length := by omega
      go_wp2_with fail
      go_ret
      exact ⟨rfl, hRr⟩

set_option maxHeartbeats 1600000 in
theorem least1_any (K : Nat) (u : Value) (P : Nat → Bool) (R : World → Prop) (hcf : ∀ args W, (callFunc K args).run Tryz.prog W = .ok (.enter K args) W) (p : Option Addr) (c : Nat) (xs : List Int) (w : World) (hR : R w) (hI : Hid (∀ W, R W → Ints W p c xs))
    (hf : ∀ j W, j < xs.length → R W → Calls Tryz.prog K #[.int .i64 (j : Nat), u] W fun e w' => e = .returned (.bool (P j)) ∧ R w') :
    Calls Tryz.prog 86 #[.slice p xs.length c, .func (.func K) #[] #[u]] w fun e w' => e = .returned (.int .i64 (leastTo xs P xs.length)) ∧ R w' := by
  have hl1 := (hI.out _ hR).length_le
  have Hf := Lib.hid hf
  clear hf
  go_enter Tryz.func86, Tryz.ntmps86
  go_wp2_with fail
  go_loopw [5, 10] (fun s t wr => ∃ k : Nat, k ≤ xs.length ∧ t = .int .i64 k ∧ s = .int .i64 (leastTo xs P k) ∧ R wr) (fun _ t _ => xs.length - (intOf t).toNat)
  case atStart => exact ⟨0, Nat.zero_le _, rfl, rfl, hR⟩
  case round =>
    obtain ⟨k, hk, rfl, rfl, hRr⟩ := hrel
    by_cases hlt : k < xs.length
    · obtain ⟨b, o, rfl, _, hc⟩ := (hI.out _ hRr).get hlt
      have hk1 : (k : Int) < xs.length := by omega
      have Hst : Hid (leastTo xs P (k + 1) = if P k = true ∧ (leastTo xs P k < 0 ∨ iget xs k < iget xs (leastTo xs P k).toNat) then (k : Int) else leastTo xs P k) := rfl
      have hrg := leastTo_range xs P k
      obtain ⟨B, eB⟩ : ∃ B, leastTo xs P k = B := ⟨_, rfl⟩
      rw [eB] at Hst hrg ⊢
      clear eB
      go_wp2_with fail
      refine (Hf.out k _ hlt hRr).mono ?_
      rintro e w' ⟨rfl, hR'⟩
      have hx' := hI.out _ hR'
      cases hP : P k with
      | false =>
        have HS : Hid (leastTo xs P (k + 1) = B) := by unfold Hid; rw [Hst.out, if_neg (by simp [hP])]
        clear hP
        go_wp2_with fail
        go_roundw
        case rel => exact ⟨k + 1, by omega, by go_num, by rw [HS.out], hR'⟩
        case measure => (simp [intOf] <;> omega)
      | true =>
        by_cases hneg : B < 0
        · have hd : decide (B < 0) = true := by simpa using hneg
          have HS : Hid (leastTo xs P (k + 1) = k) := by unfold Hid; rw [Hst.out, if_pos ⟨hP, .inl hneg⟩]
          clear hP hneg
          go_wp2_with fail
          go_roundw
          case rel => exact ⟨k + 1, by omega, by go_num, by rw [HS.out], hR'⟩
          case measure => (simp [intOf] <;> omega)
        · have hd : decide (B < 0) = false := by simpa using hneg
          obtain ⟨m, rfl⟩ : ∃ m : Nat, B = m := ⟨B.toNat, by omega⟩
          have hm : m < xs.length := by omega
          have hm1 : (m : Int) < xs.length := by omega
          have hcm := hx'.at hm
          rw [Int.toNat_natCast] at Hst
          cases hlt2 : decide (iget xs k < iget xs m) with
          | true =>
            have HS : Hid (leastTo xs P (k + 1) = k) := by unfold Hid; rw [Hst.out, if_pos ⟨hP, .inr (of_decide_eq_true hlt2)⟩]
            clear hP hneg
            go_wp2_with fail
            go_roundw
            case rel => exact ⟨k + 1, by omega, by go_num, by rw [HS.out], hR'⟩
            case measure => (simp [intOf] <;> omega)
          | false =>
            have HS : Hid (leastTo xs P (k + 1) = m) := by unfold Hid; rw [Hst.out, if_neg (by rintro ⟨_, h | h⟩; exact hneg h; simp at hlt2; omega)]
            clear hP hneg
            go_wp2_with fail
            go_roundw
            case rel => exact ⟨k + 1, by omega, by go_num, by rw [HS.out], hR'⟩
            case measure => (simp [intOf] <;> omega)
    · have hk1 : ¬ (k : Int) < xs.length := by omega
      obtain rfl : k = xs.length := by omega
      go_wp2_with fail
      go_ret
      exact ⟨rfl, hRr⟩
end Go.Proofs.YtmcncflieoolmaaGreat

/- The walk of the reference's Favourite, for valid chores and allocations. -/
namespace Go.Proofs.YtmcncflieoolmaaGreat
set_option linter.unusedVariables false
set_option linter.unusedSimpArgs false
open Go.ChangeShapes Go.WideShapes Go.ChangeAt Go.RowKit Go.Deep

def allP (_ : Nat) : Bool := true
theorem leastTo_one {xs : List Int} : leastTo xs allP 1 = 0 := by simp [leastTo, allP]
theorem leastTo_nonneg {xs : List Int} : ∀ k, 1 ≤ k → 0 ≤ leastTo xs allP k
  | k + 1, _ => by
    by_cases h : k = 0
    · subst h; rw [leastTo_one]; omega
    · have := leastTo_nonneg (xs := xs) k (by omega)
      rw [leastTo]; split <;> omega
end Go.Proofs.YtmcncflieoolmaaGreat
