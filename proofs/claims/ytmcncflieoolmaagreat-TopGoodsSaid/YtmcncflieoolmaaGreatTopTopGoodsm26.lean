/- The walk of share's search for kept divisions: it finds one if there is one; no condition but that the goods are valid. -/
import Derived.Test.YtmcncflieoolmaaGreatTopTopGoodsm15
import Derived.Test.YtmcncflieoolmaaGreatTopTopGoodsm25
import Derived.Test.YtmcncflieoolmaaGreatTopTopGoodsm18
import Derived.Test.YtmcncflieoolmaaGreatTopTopGoodsm2
import Derived.Deep.RegionLaw
/- The walk of share's search for kept divisions: it finds one if there is one; no condition but that the goods are valid. -/
namespace Go.Proofs.YtmcncflieoolmaaGreat
set_option linter.unusedSimpArgs false
open Go.ChangeShapes Go.WideShapes Go.ChangeAt Go.RowKit Go.Deep
set_option linter.unusedVariables false

/-- What each one still lacks of its share when the first k goods are given. -/
def lackL (v : List (List Int)) (s A : List Int) (k : Nat) : List Int := (List.range v.length).map fun (i : Nat) => iget s i - worthUp v A i (Int.ofNat i) k
theorem lackL_len (v : List (List Int)) (s A : List Int) (k : Nat) : (lackL v s A k).length = v.length := by simp [lackL]
theorem lackL_get {v : List (List Int)} {s A : List Int} {k i : Nat} (hi : i < v.length) : iget (lackL v s A k) i = iget s i - worthUp v A i (i : Int) k := by simp [lackL, iget, hi]
theorem worthUp_congr {v : List (List Int)} {A C : List Int} {i : Nat} {x : Int} : ∀ k, (∀ j, j < k → iget A j = iget C j) → worthUp v A i x k = worthUp v C i x k
  | 0, _ => rfl
  | k + 1, h => by rw [worthUp, worthUp, worthUp_congr k (fun j hj => h j (by omega)), h k (by omega)]
theorem lackL_congr {v : List (List Int)} {s A C : List Int} {k : Nat} (h : ∀ j, j < k → iget A j = iget C j) : lackL v s A k = lackL v s C k := by
  unfold lackL
  exact List.map_congr_left fun i _ => by rw [worthUp_congr k h]
theorem lackL_step {v : List (List Int)} {s A : List Int} {k i : Nat} (hi : i < v.length) (hA : iget A k = (i : Int)) : lackL v s A (k + 1) = (lackL v s A k).set i (iget (lackL v s A k) i - iget (rget v i) k) := by
  refine ext_iget (by rw [List.length_set, lackL_len, lackL_len]) fun j hj => ?_
  rw [lackL_len] at hj
  rw [iget_set (by rw [lackL_len]; exact hi), lackL_get hj, lackL_get hi]
  by_cases e : i = j
  · subst e; rw [if_pos rfl, worthUp_eq hA]; omega
  · rw [if_neg e, worthUp_ne (by rw [hA]; omega), lackL_get hj]
theorem lackL_back {v : List (List Int)} {s A : List Int} {k i : Nat} (hi : i < v.length) (hA : iget A k = (i : Int)) : (lackL v s A (k + 1)).set i (iget (lackL v s A (k + 1)) i + iget (rget v i) k) = lackL v s A k := by
  refine ext_iget (by rw [List.length_set, lackL_len, lackL_len]) fun j hj => ?_
  rw [List.length_set, lackL_len] at hj
  rw [iget_set (by rw [lackL_len]; exact hi), lackL_get hj, lackL_get hi]
  by_cases e : i = j
  · subst e; rw [if_pos rfl, worthUp_eq hA, lackL_get hi]; omega
  · rw [if_neg e, lackL_get hj, worthUp_ne (by rw [hA]; omega)]
/-- What the search finds and leaves. -/
structure KeptS (w0 : World) (S gl dl ga da m : Nat) (pv : Option Addr) (cv : Nat) (v : List (List Int)) (A L : List Int) (W : World) : Prop where
  bel : Below w0.heap.size w0 W
  box : BoxV W S [.slice pv v.length cv, .slice (some ⟨gl, 0, none⟩) v.length dl, .slice (some ⟨ga, 0, none⟩) m da]
  lack : Own W w0.heap.size (some ⟨gl, 0, none⟩) dl L
  arr : Own W w0.heap.size (some ⟨ga, 0, none⟩) da A
section
variable {w0 : World} {S gl dl ga da m : Nat} {pv : Option Addr} {cv : Nat} {v : List (List Int)} {A L : List Int} {W : World}
theorem KeptS.drew (h : KeptS w0 S gl dl ga da m pv cv v A L W) : KeptS w0 S gl dl ga da m pv cv v A L W.drew :=
  ⟨h.bel.drew, h.box.below (below_drewN W.heap.size W 1), h.lack.drew1, h.arr.drew1⟩
theorem KeptS.setA (h : KeptS w0 S gl dl ga da m pv cv v A L W) (hS : S ≠ ga) (hl : gl ≠ ga) (j : Nat) {x : Int} (hx : in64 x) : KeptS w0 S gl dl ga da m pv cv v (A.set j x) L (W.setCell ⟨ga, j, none⟩ (.int .i64 x)) :=
  ⟨h.bel.setCell (p := ⟨ga, j, none⟩) (h.arr.lt ga rfl).1 _, h.box.heap (Nat.le_of_eq (size_set W).symm) (heap_set_ne W hS), h.lack.beside (fun e => hl (by simpa [blk] using e)), (h.arr.set j hx).1⟩
theorem KeptS.setL (h : KeptS w0 S gl dl ga da m pv cv v A L W) (hS : S ≠ gl) (hl : gl ≠ ga) (j : Nat) {x : Int} (hx : in64 x) : KeptS w0 S gl dl ga da m pv cv v A (L.set j x) (W.setCell ⟨gl, j, none⟩ (.int .i64 x)) :=
  ⟨h.bel.setCell (p := ⟨gl, j, none⟩) (h.lack.lt gl rfl).1 _, h.box.heap (Nat.le_of_eq (size_set W).symm) (heap_set_ne W hS), (h.lack.set j hx).1, h.arr.beside (fun e => hl (by simpa [blk] using e.symm))⟩
end
/-- No completion of the first k gives everyone its share. -/
def NoKept (v : List (List Int)) (s A : List Int) (m k : Nat) : Prop := ∀ C, DigL v.length m C → (∀ j, j < k → iget C j = iget A j) → ∃ i, i < v.length ∧ worth v C i (i : Int) < iget s i
/-- What the search answers. -/
def KeptE (w0 : World) (S gl dl ga da m : Nat) (pv : Option Addr) (cv : Nat) (v : List (List Int)) (s A : List Int) (k : Nat) (b : Bool) (W : World) : Prop :=
  (b = true ∧ ∃ A' L', DigL v.length m A' ∧ (∀ i, i < v.length → iget s i ≤ worth v A' i (i : Int)) ∧ KeptS w0 S gl dl ga da m pv cv v A' L' W) ∨
    (b = false ∧ ∃ A', A'.length = m ∧ (∀ j, j < k → iget A' j = iget A j) ∧ KeptS w0 S gl dl ga da m pv cv v A' (lackL v s A' k) W ∧ NoKept v s A m k)

theorem kept_no {v : List (List Int)} {s A : List Int} {m k : Nat} (h : ∀ i : Nat, i < v.length → ∀ C, DigL v.length m C → (∀ j, j < k → iget C j = iget A j) → iget C k = (i : Int) → ∃ i, i < v.length ∧ worth v C i (i : Int) < iget s i) (hk : k < m) : NoKept v s A m k := fun C hC hj => by
  have hd := hC.2 k hk
  exact h (iget C k).toNat (by omega) C hC hj (by omega)

set_option maxRecDepth 100000 in
set_option maxHeartbeats 8000000 in
theorem kept_any (w0 : World) (S gl dl ga da m : Nat) (pv : Option Addr) (cv : Nat) (v : List (List Int)) (s : List Int) (hx : Mat w0 pv cv v) (hg : Gds v) (hm : m = wid v) (hSl : S ≠ gl) (hSa : S ≠ ga) (hla : gl ≠ ga) (hs : ∀ i, i < v.length → -1 ≤ iget s i ∧ iget s i ≤ 10000) :
    ∀ (f k : Nat) (A : List Int) (W : World), k + f = m → A.length = m → (∀ j, j < k → 0 ≤ iget A j ∧ iget A j < v.length) → KeptS w0 S gl dl ga da m pv cv v A (lackL v s A k) W →
      Calls Tryz.prog 81 #[.pointer (some ⟨S, 0, none⟩), .int .i64 (k : Int)] W fun e W' => ∃ b, e = .returned (.bool b) ∧ KeptE w0 S gl dl ga da m pv cv v s A k b W'
  | 0, k, A, W, hkm, hAl, hd, hS => by
    obtain rfl : k = m := by omega
    have h0 : 0 < v.length := hg.1
    have hM := sMax_any (some ⟨gl, 0, none⟩) dl (lackL v s A k) W hS.lack.ints (by rw [lackL_len]; exact h0)
    rw [lackL_len] at hM
    have HM := Lib.hid hM
    have c1 := hS.box.cell 1 _ rfl
    have c2 := hS.box.cell 2 _ rfl
    have hE : Hid (KeptE w0 S gl dl ga da k pv cv v s A k (decide (highTo (lackL v s A k) v.length ≤ 0)) W) := by
      have hDA : DigL v.length k A := ⟨hAl, hd⟩
      by_cases hle : highTo (lackL v s A k) v.length ≤ 0
      · refine .inl ⟨decide_eq_true hle, A, _, hDA, fun i hi => ?_, hS⟩
        have h1 := highTo_ge (lackL v s A k) v.length i hi
        rw [lackL_get hi] at h1
        unfold worth
        rw [hAl]
        omega
      · refine .inr ⟨decide_eq_false hle, A, hAl, fun _ _ => rfl, hS, fun C hC hj => ?_⟩
        obtain ⟨i, hi, e⟩ := highTo_mem (lackL v s A k) v.length h0
        rw [lackL_get hi] at e
        refine ⟨i, hi, ?_⟩
        unfold worth
        rw [hC.1, worthUp_congr k hj]
        omega
    clear hS hM hs hx hd hm
    go_enter Tryz.func81, Tryz.ntmps81
    go_wp2_with fail
    refine HM.out.mono ?_
    rintro e w' ⟨rfl, rfl⟩
    go_wp2_with fail
    go_ret
    exact ⟨_, rfl, hE.out⟩
  | f + 1, k, A, W, hkm, hAl, hd, hS => by
    have h0 : 0 < v.length := hg.1
    have h6 := hg.2.1
    have hm10 := hg.2.2.1
    have HIH := Lib.hid (fun A' W' => kept_any w0 S gl dl ga da m pv cv v s hx hg hm hSl hSa hla hs f (k + 1) A' W' (by omega))
    have hne : (((k : Int)) == (m : Int)) = false := by rw [beq_eq_false_iff_ne]; omega
    have hkm1 : (k : Int) < m := by omega
    have c0 := hS.box.cell 0 _ rfl
    have c2 := hS.box.cell 2 _ rfl
    have HS := Lib.hid hS
    have Hg := Lib.hid hg
    have Hm := Lib.hid hm
    have Hs := Lib.hid hs
    have Hd := Lib.hid hd
    have hkm' : k < m := by omega
    clear hS hg hm hs hd hkm
    go_enter Tryz.func81, Tryz.ntmps81
    go_wp2_with fail
    go_loopw [24] (fun t wr => ∃ i : Nat, i ≤ v.length ∧ t = .int .i64 i ∧ ∃ A1, Hid (A1.length = m ∧ ∀ j, j < k → iget A1 j = iget A j) ∧ KeptS w0 S gl dl ga da m pv cv v A1 (lackL v s A1 k) wr ∧ Hid (∀ i' : Nat, i' < i → ∀ C, DigL v.length m C → (∀ j, j < k → iget C j = iget A j) → iget C k = (i' : Int) → ∃ i, i < v.length ∧ worth v C i (i : Int) < iget s i)) (fun t _ => v.length - (intOf t).toNat)
    case atStart => exact ⟨0, Nat.zero_le _, rfl, A, ⟨hAl, fun _ _ => rfl⟩, HS.out, fun i' h => by omega⟩
    case round =>
      clear c0 c2
      obtain ⟨i, hi, rfl, A1, hA1, hK, hNo⟩ := hrel
      by_cases hil : i < v.length
      · have hi1 : (i : Int) < v.length := by omega
        have ii : in64 (i : Int) := ⟨by omega, by omega⟩
        have hK2 := hK.setA hSa hla k ii
        have hLen : Hid ((A1.set k (i : Int)).length = m) := by unfold Hid; rw [List.length_set]; exact hA1.out.1
        have hAg : Hid (∀ j, j < k → iget (A1.set k (i : Int)) j = iget A j) := fun j hj => by
          rw [iget_set (by rw [hA1.out.1]; exact hkm'), if_neg (by omega)]; exact hA1.out.2 j hj
        have hAk : Hid (iget (A1.set k (i : Int)) k = (i : Int)) := by unfold Hid; rw [iget_set (by rw [hA1.out.1]; exact hkm'), if_pos rfl]
        have hcong : lackL v s A1 k = lackL v s (A1.set k (i : Int)) k := lackL_congr fun j hj => by rw [hA1.out.2 j hj, hAg.out j hj]
        rw [hcong] at hK2
        have c1 := hK.box.cell 1 _ rfl
        have c0 := hK.box.cell 0 _ rfl
        have c2 := hK.box.cell 2 _ rfl
        have ca := hK.arr.at (j := k) (by rw [hA1.out.1]; exact hkm')
        have fa := hK.arr.free k
        obtain ⟨W2, hW2⟩ : ∃ W2, wr.setCell ⟨ga, k, none⟩ (.int .i64 (i : Int)) = W2 := ⟨_, rfl⟩
        rw [hW2] at hK2
        have HW2 := Lib.hid hW2
        obtain ⟨A2, eA2⟩ : ∃ A2, A1.set k (i : Int) = A2 := ⟨_, rfl⟩
        rw [eA2] at hK2 hLen hAg hAk
        have hN0 := Lib.hid hNo.out
        clear hW2 hcong eA2 hA1 hNo hK
        go_upto_region 7 with (fail)
        rw [HW2.out]
        clear c0 c1 c2 ca fa
        have c0 := hK2.box.cell 0 _ rfl
        have c1 := hK2.box.cell 1 _ rfl
        have hll : i < (lackL v s A2 k).length := by rw [lackL_len]; exact hil
        have cl := hK2.lack.at hll
        have fl := hK2.lack.free i
        obtain ⟨bv, ov, rfl, _, q1, d1, cr, hr⟩ := (hx.below hK2.bel (Nat.le_refl _)).get hil
        have hrl : Hid ((rget v i).length = m) := (Hg.out.2.2.2 i hil).1.trans Hm.out.symm
        obtain ⟨b3, o3, rfl, _, c3⟩ := hr.get (j := k) (by rw [hrl.out]; exact hkm')
        have hkr : (k : Int) < (rget v i).length := by rw [hrl.out]; exact hkm1
        have hy2 := gds_bid Hg.out hil (j := k) (by rw [← Hm.out]; exact hkm')
        have hb1 := lackL_get (v := v) (s := s) (A := A2) (k := k) hil
        have hb2 := worthUp_in Hg.out hil (i : Int) k (by have := Hm.out; omega) (a := A2)
        have hb3 := Hs.out i hil
        have hst : Hid ((lackL v s A2 k).set i (iget (lackL v s A2 k) i - iget (rget v i) k) = lackL v s A2 (k + 1)) := (lackL_step hil hAk.out).symm
        have hk10 : k ≤ 10 := by have := Hm.out; omega
        have hin : in64 (iget (lackL v s A2 k) i - iget (rget v i) k) := ⟨by omega, by omega⟩
        have hyb : -20000 ≤ iget (lackL v s A2 k) i ∧ iget (lackL v s A2 k) i ≤ 20000 := by omega
        have HK2 := Lib.hid hK2
        have hK3 := Lib.hid ((hK2.setL hSl hla i hin).drew)
        rw [hst.out] at hK3
        obtain ⟨y1, e1⟩ : ∃ y, iget (lackL v s A2 k) i = y := ⟨_, rfl⟩
        obtain ⟨y2, e2⟩ : ∃ y, iget (rget v i) k = y := ⟨_, rfl⟩
        rw [e1, e2] at hK3
        rw [e1] at cl hyb
        rw [e2] at c3 hy2
        clear e1 e2 hb1 hb2 hb3 hin hst hK2 hr
        go_wp2_with fail
        go_still_tail 19, (by kernel_rfl)
        go_wp2_with fail
        obtain ⟨W3, hW3⟩ : ∃ W3, (W2.setCell ⟨gl, i, none⟩ (.int .i64 (y1 - y2))).drew = W3 := ⟨_, rfl⟩
        rw [hW3] at hK3 ⊢
        clear hW3
        have hd3 : ∀ j, j < k + 1 → 0 ≤ iget A2 j ∧ iget A2 j < v.length := fun j hj => by
          by_cases e : j = k
          · subst e; rw [hAk.out]; omega
          · rw [hAg.out j (by omega)]; exact Hd.out j (by omega)
        have CI := HIH.out A2 W3 hLen.out hd3 hK3.out
        have ek : ((k + 1 : Nat) : Int) = (k : Int) + 1 := by omega
        rw [ek] at CI
        have CI := Lib.hid CI
        clear hd3 ek c0 c1 cl fl cr c3
        refine CI.out.mono ?_
        rintro e W4 ⟨b, rfl, hE⟩
        rcases hE with ⟨rfl, A', L', hD', hw', hS'⟩ | ⟨rfl, A', hl', hag', hS', hno'⟩
        · have HE : Hid (KeptE w0 S gl dl ga da m (some ⟨bv, ov, none⟩) cv v s A k true W4) := .inl ⟨rfl, A', L', hD', hw', hS'⟩
          clear hD' hw' hS' CI HIH
          go_wp2_with fail
          go_ret
          exact ⟨true, rfl, HE.out⟩
        · have hAk' : iget A' k = (i : Int) := by rw [hag' k (by omega), hAk.out]
          have hAgA : Hid (A'.length = m ∧ ∀ j, j < k → iget A' j = iget A j) := ⟨hl', fun j hj => by rw [hag' j (by omega), hAg.out j hj]⟩
          have hNo2 : Hid (∀ i' : Nat, i' < i + 1 → ∀ C, DigL v.length m C → (∀ j, j < k → iget C j = iget A j) → iget C k = (i' : Int) → ∃ i, i < v.length ∧ worth v C i (i : Int) < iget s i) := fun i' hi' C hC hj hk => by
            by_cases e : i' = i
            · subst e
              refine hno' C hC fun j hj2 => ?_
              by_cases ej : j = k
              · subst ej; rw [hk, hAk.out]
              · rw [hj j (by omega), hAg.out j (by omega)]
            · exact hN0.out i' (by omega) C hC hj hk
          have c0 := hS'.box.cell 0 _ rfl
          have c1 := hS'.box.cell 1 _ rfl
          have hll : i < (lackL v s A' (k + 1)).length := by rw [lackL_len]; exact hil
          have cl := hS'.lack.at hll
          have fl := hS'.lack.free i
          obtain ⟨qv, hqv⟩ : ∃ x, (some ⟨bv, ov, none⟩ : Option Addr) = x := ⟨_, rfl⟩
          obtain ⟨bw, ow, e2, _, q1', d1', cr, hr⟩ := (hx.below hS'.bel (Nat.le_refl _)).get hil
          cases e2
          obtain ⟨b4, o4, rfl, _, c3⟩ := hr.get (j := k) (by rw [hrl.out]; exact hkm')
          have hb1 := lackL_get (v := v) (s := s) (A := A') (k := k + 1) hil
          have hb2 := worthUp_in Hg.out hil (i : Int) (k + 1) (by have := Hm.out; omega) (a := A')
          have hb3 := Hs.out i hil
          have hy2 := gds_bid Hg.out hil (j := k) (by rw [← Hm.out]; exact hkm')
          have hst : Hid ((lackL v s A' (k + 1)).set i (iget (lackL v s A' (k + 1)) i + iget (rget v i) k) = lackL v s A' k) := lackL_back hil hAk'
          have hin : in64 (iget (lackL v s A' (k + 1)) i + iget (rget v i) k) := ⟨by omega, by omega⟩
          have hyb : -20000 ≤ iget (lackL v s A' (k + 1)) i ∧ iget (lackL v s A' (k + 1)) i ≤ 20000 := by omega
          have hK5 := Lib.hid ((hS'.setL hSl hla i hin).drew)
          rw [hst.out] at hK5
          obtain ⟨z1, e1⟩ : ∃ y, iget (lackL v s A' (k + 1)) i = y := ⟨_, rfl⟩
          obtain ⟨z2, e2⟩ : ∃ y, iget (rget v i) k = y := ⟨_, rfl⟩
          rw [e1, e2] at hK5
          rw [e1] at cl hyb
          rw [e2] at c3 hy2
          clear e1 e2 hb1 hb2 hb3 hin hst hS' hr hno' hag' hl' hAk' CI HIH hqv
          go_wp2_with fail
          go_still_tail 19, (by kernel_rfl)
          go_wp2_with fail
          go_roundw
          case rel => exact ⟨i + 1, by omega, by go_num, A', hAgA.out, hK5.out, hNo2.out⟩
          case measure => simp [intOf]; omega
      · have hi1 : ¬ (i : Int) < v.length := by omega
        obtain rfl : i = v.length := by omega
        have HE : Hid (KeptE w0 S gl dl ga da m pv cv v s A k false wr) := .inr ⟨rfl, A1, hA1.out.1, hA1.out.2, hK, kept_no hNo.out hkm'⟩
        clear hK hNo hA1 HIH
        go_wp2_with fail
        go_ret
        first
          | exact ⟨false, rfl, HE.out⟩
          | exact Or.inl ⟨rfl, HE.out⟩
end Go.Proofs.YtmcncflieoolmaaGreat

/- 'make' at a step of a region that draws its order; no condition but the length. -/
namespace Go.Proofs.YtmcncflieoolmaaGreat
set_option linter.unusedVariables false
set_option linter.unusedSimpArgs false
open Go.ChangeShapes Go.WideShapes Go.ChangeAt Go.RowKit Go.Deep

/-- The block that 'make' makes. -/
def mkB (n : Nat) : Obj := .cells (madeCells (Value.int .i64 0).cells (n * 1)) 3
theorem run_mkN (n : Nat) (hn : n ≤ 1000000) (W : World) : (Instr.makeSlice 25 (.int .i64 (n : Int)) (.int .i64 (n : Int))).run Tryz.prog W = .ok (.slice (some ⟨W.heap.size, 0, none⟩) n n) (W.alloc (mkB n)) := by
  obtain ⟨i, hi, hz0, hz1, hz2⟩ := info_parts infoInt
  have hrun := run_make (P := Tryz.prog) W 25 3 i (.int .i64 0) Tryz.underlying25 hi hz0 .i64 .i64 (n : Int) (n : Int) (by omega) (by omega) (by rw [hz2]; omega) (by omega)
  rw [hz1] at hrun
  simp only [Int.toNat_natCast] at hrun
  exact hrun
theorem own_mkN (W : World) (base n : Nat) (hn : n ≤ 1000000) (hb : base ≤ W.heap.size) : Own (W.alloc (mkB n)) base (some ⟨W.heap.size, 0, none⟩) n (List.replicate n 0) := by
  have hcs : (madeCells (Value.int .i64 0).cells (n * 1)).toList = List.replicate n (.int .i64 0) := by
    rw [Nat.mul_one]; exact toList_madeCells_one _ _
  refine ⟨?_, ?_⟩
  · have := World.ownsRow_lit (e := 3) (size := 1) (base := base) W (madeCells (Value.int .i64 0).cells (n * 1)) n hb (by simp [maxLen]; omega) (by rw [size_madeCells])
    rw [hcs] at this
    unfold mkB
    simpa using this
  · intro j hj
    simp at hj
    simp [iget, List.getD, hj, in64]
end Go.Proofs.YtmcncflieoolmaaGreat
