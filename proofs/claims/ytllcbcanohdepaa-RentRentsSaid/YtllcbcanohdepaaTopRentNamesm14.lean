/- The walks of rent.Fair and rent.Calm, for every flat. -/
import Derived.Test.YtllcbcanohdepaaTopRentNamesm13
import Derived.Test.YtllcbcanohdepaaTopRentNamesm2
import Derived.RangeFuncFrom
import Derived.RangeFuncBox
import Derived.RangeFuncLeaves
import Derived.OwnWalkIn
import Derived.TacticsInMore
import Derived.LoopNIn
import Derived.LoopIn
import Derived.Maps.AppendAt
import Derived.Maps.RangeWalk
import Derived.Shelf.Abstract
import Derived.Ground.SlgmProg
import Derived.Shelf.SortM.Plain
import Derived.Shelf.SortM.SortNone
import Derived.Test.YtllcbcanohdepaaProg
import Derived.Sort.OwnSortedInts
/- The walks of rent.Fair and rent.Calm, for every flat. -/
namespace Go.Proofs.Ytllcbcanohdepaa
set_option linter.unusedVariables false
set_option linter.unusedSimpArgs false
open Go.ChangeShapes Go.WideShapes Go.ChangeAt Go.RowKit Go.Deep

theorem ldF_bd {v : List (List Int)} (hv : Bids v) {i k : Nat} (hi : i < v.length) (hk : k < v.length) : -7000000 ≤ ldF v (bestA v) i k ∧ ldF v (bestA v) i k ≤ 7000000 := by
  have hp := isA_per (bestA_best hv.1).1
  have h1 := (hv.2.2 i hi).2 _ (hp.lt i hi)
  have h2 := (hv.2.2 k hk).2 _ (hp.lt k hk)
  have h3 := linkL_bd hv (hp.lt i hi) (hp.lt k hk)
  unfold ldF
  unfold bid at *
  omega
/-- The gains that Fair and Calm begin with. -/
noncomputable def fairG (v : List (List Int)) : List Int := (List.range v.length).map fun i => highTo (rget (ldL v (bestA v)) i) v.length
noncomputable def calmF (v : List (List Int)) (k : Nat) : Nat → Int
  | 0 => 0
  | i + 1 => min (calmF v k i) (-ldF v (bestA v) i k)
noncomputable def calmG (v : List (List Int)) : List Int := (List.range v.length).map fun k => calmF v k v.length
theorem fairG_get {v : List (List Int)} {i : Nat} (hi : i < v.length) : iget (fairG v) i = highTo (rget (ldL v (bestA v)) i) v.length := by simp [fairG, iget, hi]
theorem fairG_len (v : List (List Int)) : (fairG v).length = v.length := by simp [fairG]
theorem calmG_get {v : List (List Int)} {i : Nat} (hi : i < v.length) : iget (calmG v) i = calmF v i v.length := by simp [calmG, iget, hi]
theorem calmG_len (v : List (List Int)) : (calmG v).length = v.length := by simp [calmG]
theorem fairG_snoc {v : List (List Int)} {k : Nat} (hk : k < v.length) : (fairG v).take (k + 1) = (fairG v).take k ++ [highTo (rget (ldL v (bestA v)) k) v.length] := by
  rw [take_snocI (by rw [fairG_len]; exact hk), fairG_get hk]
theorem fairG_max {v : List (List Int)} (hv : Bids v) {i : Nat} (hi : i < v.length) : (∀ k, k < v.length → ldF v (bestA v) i k ≤ iget (fairG v) i) ∧ ∃ k, k < v.length ∧ iget (fairG v) i = ldF v (bestA v) i k := by
  rw [fairG_get hi]
  refine ⟨fun k hk => ?_, ?_⟩
  · have := highTo_ge (rget (ldL v (bestA v)) i) v.length k hk
    rw [ldL_get hi hk] at this
    exact this
  · obtain ⟨j, hj, he⟩ := highTo_mem (rget (ldL v (bestA v)) i) v.length hv.1
    exact ⟨j, hj, by rw [he, ldL_get hi hj]⟩
theorem fairG_small {v : List (List Int)} (hv : Bids v) : SmallG (fairG v) v.length := by
  refine ⟨fairG_len v, fun i hi => ?_⟩
  obtain ⟨_, k, hk, e⟩ := fairG_max hv hi
  have := ldF_bd hv hi hk
  omega
theorem calmF_bd {v : List (List Int)} (hv : Bids v) {k : Nat} (hk : k < v.length) : ∀ i, i ≤ v.length → -7000000 ≤ calmF v k i ∧ calmF v k i ≤ 0
  | 0, _ => by simp [calmF]
  | i + 1, hi => by
    have h1 := calmF_bd hv hk i (by omega)
    have h2 := ldF_bd hv (show i < v.length by omega) hk
    simp only [calmF]
    omega
theorem calmG_small {v : List (List Int)} (hv : Bids v) : SmallG (calmG v) v.length := by
  refine ⟨calmG_len v, fun i hi => ?_⟩
  rw [calmG_get hi]
  have := calmF_bd hv hi v.length (Nat.le_refl _)
  omega
noncomputable def leaY (v : List (List Int)) (r : Int) (g : List Int) : List Int := if chkR v r = 0 then lowL v.length (leaseL v r (bestA v) g) else []
noncomputable def leaZ (v : List (List Int)) (r : Int) (g : List Int) : Int := if chkR v r = 0 then lowN v.length (leaseL v r (bestA v) g) else 0
/-- A lease's result block with an error number. -/
theorem bestI_len {v : List (List Int)} {r : Int} (h : chkR v r = 0) : (bestI v r).length = v.length := by
  unfold bestI; rw [if_pos h]
  exact (bestA_best (chkR_zero.1 h).1.1).1.1

set_option maxHeartbeats 8000000 in
set_option maxRecDepth 100000 in
theorem rentFair_any (p : Option Addr) (c : Nat) (v : List (List Int)) (r : Int) (w : World) (hx : Mat w p c v) :
    Calls Try.prog 8 #[.agg #[.slice p v.length c, .int .i64 r]] w (GivesLease w (bestI v r) (leaY v r (fairG v)) (leaZ v r (fairG v)) (chkR v r)) := by
  obtain ⟨W0, hW0⟩ : ∃ W0, (w.alloc (.cells #[.slice p v.length c, .int .i64 r] 24)).alloc (.cells #[.slice none 0 0, .slice none 0 0, .int .i64 0] 27) = W0 := ⟨_, rfl⟩
  have hb0 : Below w.heap.size w W0 := by rw [← hW0]; exact ((Below.refl _ _).alloc (Nat.le_refl _) _).alloc (by simp) _
  have hx1 := hx.below hb0 (Nat.le_refl _)
  have hs0 : W0.heap.size = w.heap.size + 2 := by rw [← hW0]; simp
  have h3 : Three W0 (w.heap.size + 1) := Three.new (by simp) hW0.symm
  have H3 := Lib.hid h3
  clear h3
  have hbx0 : W0.cell? ⟨w.heap.size, 0, none⟩ = some (.slice p v.length c) := by rw [← hW0]; simp
  have hbx1 : W0.cell? ⟨w.heap.size, 1, none⟩ = some (.int .i64 r) := by rw [← hW0]; simp
  have HW0 := Lib.hid hW0
  have Hs0 := Lib.hid hs0
  clear hW0 hs0
  go_enter Try.func8, Try.ntmps8
  go_wp2_with fail
  rw [HW0.out]
  refine (leads_any p c v r _ hx1).mono ?_
  rintro e w1 ⟨qa, da, pl, cl, Ql, Dl, rfl, hAo, hLD, hb1⟩
  have hB1 : Below W0.heap.size W0 w1 := hb1
  have hx2 := hx1.below hb1 (Nat.le_refl _)
  have h31 := H3.out.below hb1 (by have := Hs0.out; omega)
  have c0 := (hB1.cell (p := ⟨w.heap.size, 0, none⟩) (by have := Hs0.out; simp only; omega)).trans hbx0
  have c1 := (hB1.cell (p := ⟨w.heap.size, 1, none⟩) (by have := Hs0.out; simp only; omega)).trans hbx1
  have hszw : w.heap.size + 2 ≤ w1.heap.size := by have := hb1.size; have := Hs0.out; omega
  have HB := Lib.hid (hb0.trans (hb1.mono hb0.size))
  have hI := hAo.ints
  have hM := hLD.mat
  have HAo := Lib.hid hAo
  clear hb1 hB1 hx1 hb0 hbx0 hbx1 hAo hLD H3
  by_cases hF : chkR v r = 0
  · have hcz : (chkR v r != 0) = false := by rw [hF]; rfl
    obtain ⟨hv, hr1, hr2⟩ := chkR_zero.1 hF
    have hal := bestI_len hF
    have hll : (leadsL v r).length = v.length := by unfold leadsL; rw [if_pos hF, ldL_len]
    have e1 : leadsL v r = ldL v (bestA v) := by unfold leadsL; rw [if_pos hF]
    have e2 : bestI v r = bestA v := by unfold bestI; rw [if_pos hF]
    have HX := Lib.hid e2
    have HY : Hid (leaY v r (fairG v) = lowL v.length (leaseL v r (bestA v) (fairG v))) := by unfold Hid leaY; rw [if_pos hF]
    have HZ : Hid (leaZ v r (fairG v) = lowN v.length (leaseL v r (bestA v) (fairG v))) := by unfold Hid leaZ; rw [if_pos hF]
    rw [e1] at hM
    rw [e2] at hI
    rw [hal, hll]
    have Hv := Lib.hid hv
    have Hal := Lib.hid hal
    have HF := Lib.hid hF
    have hA := (bestA_best hv.1).1
    have HA := Lib.hid hA
    have Hsg := Lib.hid (fairG_small hv)
    have h0 := hv.1
    have h6 := hv.2.1
    have H31 := Lib.hid h31
    obtain ⟨B, hBB⟩ : ∃ B, w1.heap.size = B := ⟨_, rfl⟩
    have HBB := Lib.hid hBB
    clear e1 e2 hal hll hF hv hA h31 hBB
    go_wp2_with fail
    go_loopw [7, 22] (fun s i wr => ∃ k : Nat, k ≤ v.length ∧ i = .int .i64 k ∧ (∃ zs q d, Hid (zs = (fairG v).take k) ∧ s = .slice q (zs : List Int).length d ∧ Own wr B q d zs) ∧ Below B w1 wr) (fun _ i _ => v.length - (intOf i).toNat)
    case atStart => exact ⟨0, by omega, rfl, ⟨[], none, 0, rfl, rfl, Own.ofNil _ _⟩, Below.refl _ _⟩
    case round =>
      obtain ⟨k, hk, rfl, ⟨zs, qz, dz, hz, rfl, hO⟩, hBk⟩ := hrel
      have hsz := hBk.size
      rw [HBB.out] at hsz
      by_cases hlt : k < v.length
      · have hk1 : (k : Int) < v.length := by omega
        have hMr := hM.below hBk (Nat.le_of_eq HBB.out)
        obtain ⟨b, o, rfl, _, q1, d1, hc, hi⟩ := hMr.get (j := k) (by rw [ldL_len]; exact hlt)
        have hrl := ldL_row_len (v := v) (a := bestA v) hlt
        rw [hrl] at hc
        have Hmx := Lib.hid (fun W (h : Ints W q1 d1 (rget (ldL v (bestA v)) k)) => (by have := sMax_any q1 d1 (rget (ldL v (bestA v)) k) W h (by rw [hrl]; exact h0); rw [hrl] at this; exact this : Calls Try.prog 23 #[.slice q1 v.length d1] W fun e w' => e = .returned (.int .i64 (highTo (rget (ldL v (bestA v)) k) v.length)) ∧ w' = W))
        have Hsn := Lib.hid (fairG_snoc hlt)
        have hgb := Hsg.out.2 k hlt
        rw [fairG_get hlt] at hgb
        have Hi := Lib.hid hi
        have hzl : zs.length ≤ 900000 := by rw [hz.out, List.length_take]; omega
        generalize highTo (rget (ldL v (bestA v)) k) v.length = y at *
        have hy64 : in64 y := ⟨by omega, by omega⟩
        clear hi hrl
        go_wp2_with fail
        refine (Hmx.out _ Hi.out).mono ?_
        rintro e w' ⟨rfl, rfl⟩
        go_wp2_with (at_builtin; refine wpList_app1 rfl (.tmp 26) (.tmp 29) rfl B _ _ zs y rfl rfl rfl hO hy64 hzl hsz ?_; intro p3 c3 w3 u3 hu3 hO3 hg3 hf3)
        have hb3 := below_grown hBk hg3 hsz (fun k' e => hO.lt k' e) (Nat.le_refl _)
        go_roundw
        case rel => exact ⟨k + 1, by omega, by go_num, ⟨u3, _, _, by unfold Hid; rw [hu3.out, Hsn.out, hz.out], rfl, hO3⟩, hb3⟩
        case measure => simp [intOf]; omega
      · have hk1 : ¬ (k : Int) < v.length := by omega
        obtain rfl : k = v.length := by omega
        have hzg : zs = fairG v := by rw [hz.out, List.take_of_length_le (by rw [fairG_len]; exact Nat.le_refl _)]
        have hzl : zs.length = v.length := by rw [hzg, fairG_len]
        have HBk := Lib.hid hBk
        have c0' := (hBk.cell (p := ⟨w.heap.size, 0, none⟩) (by have := HBB.out; simp only; omega)).trans c0
        have c1' := (hBk.cell (p := ⟨w.heap.size, 1, none⟩) (by have := HBB.out; simp only; omega)).trans c1
        have HcL : Hid (∀ W, Below B w1 W → Ints W qz dz zs → Calls Try.prog 24 #[.agg #[.slice p v.length c, .int .i64 r], .slice qa v.length da, .slice qz v.length dz] W fun e w' => ∃ t u, e = .returned (.agg #[.slice qa v.length da, .slice t v.length u, .int .i64 (lowN v.length (leaseL v r (bestA v) (fairG v)))]) ∧ Own w' W.heap.size t u (lowL v.length (leaseL v r (bestA v) (fairG v))) ∧ Below W.heap.size W w') := fun W hW hi => by
          have := HBB.out
          rw [hzg] at hi
          exact lease_any p qa qz c da dz v r (bestA v) (fairG v) W (hx2.below hW (by omega)) (hI.below hW (by omega)) hi Hv.out hr1 hr2 HA.out Hsg.out
        have Hi := Lib.hid hO.ints
        clear hO hM hI c0 c1 hBk hz hx2 hzg
        rw [hzl]
        clear hzl
        go_wp2_with fail
        refine (HcL.out _ HBk.out Hi.out).mono ?_
        rintro e w4 ⟨t, u, rfl, hOt, hb4⟩
        have hb5 := HBk.out.trans (hb4.mono (by have := HBk.out.size; have := HBB.out; omega))
        have h35 := H31.out.below hb5 (by have := HBB.out; omega)
        have H35 := Lib.hid h35
        have HA5 := Lib.hid (HAo.out.below hb5 (Nat.le_of_eq HBB.out))
        have HOt := Lib.hid hOt
        have HB5 := Lib.hid (HB.out.trans (hb5.mono (by have := HBB.out; omega)))
        have hszr : w.heap.size + 2 ≤ wr.heap.size := by have := HBk.out.size; omega
        obtain ⟨⟨x0, t0⟩, ⟨x1, t1⟩, ⟨x2, t2⟩, u0, u1, u2⟩ := h35
        clear hb4 hb5 hOt c0' c1'
        go_wp2_with fail
        clear t0 t1 t2 u0 u1 u2
        obtain ⟨Z, hZ⟩ : ∃ Z, lowN v.length (leaseL v r (bestA v) (fairG v)) = Z := ⟨_, rfl⟩
        rw [hZ] at HZ ⊢
        obtain ⟨k0, k1, k2⟩ := H35.out.set (.slice qa v.length da) (.slice t v.length u) (.int .i64 Z)
        refine bodyPost_ret (v := .tuple #[.agg #[.slice qa v.length da, .slice t v.length u, .int .i64 Z], .int .i64 0]) (by simp [results, Try.results8, go_sem, k0, k1, k2]) rfl ?_
        rw [HX.out, HY.out, HZ.out, HF.out]
        refine ⟨qa, da, t, u, by rw [HA.out.1, lowL_length, leaseL_len], ?_, ?_, ?_⟩
        · rw [← HX.out]
          exact (((HA5.out.setCell_far (j := 0) _ (by have := Hs0.out; omega)).setCell_far (j := 1) _ (by have := Hs0.out; omega)).setCell_far (j := 2) _ (by have := Hs0.out; omega)).ints
        · exact (((HOt.out.setCell_far (j := 0) _ (by omega)).setCell_far (j := 1) _ (by omega)).setCell_far (j := 2) _ (by omega)).ints
        · exact ((HB5.out.setCell (p := ⟨w.heap.size + 1, 0, none⟩) (by simp) _).setCell (p := ⟨w.heap.size + 1, 1, none⟩) (by simp) _).setCell (p := ⟨w.heap.size + 1, 2, none⟩) (by simp) _
  · have hcz : (chkR v r != 0) = true := by rw [bne_iff_ne]; exact hF
    have HX : Hid (bestI v r = []) := by unfold Hid bestI; rw [if_neg hF]
    have HY : Hid (leaY v r (fairG v) = []) := by unfold Hid leaY; rw [if_neg hF]
    have HZ : Hid (leaZ v r (fairG v) = 0) := by unfold Hid leaZ; rw [if_neg hF]
    have H31 := Lib.hid h31
    obtain ⟨⟨x0, t0⟩, ⟨x1, t1⟩, ⟨x2, t2⟩, u0, u1, u2⟩ := h31
    clear hF hM hI hx2
    go_wp2_with fail
    clear t0 t1 t2 u0 u1 u2
    obtain ⟨k0, k1, k2⟩ := H31.out.set (.slice none 0 0) (.slice none 0 0) (.int .i64 0)
    refine bodyPost_ret (v := .tuple #[.agg #[.slice none 0 0, .slice none 0 0, .int .i64 0], .int .i64 (chkR v r)]) (by simp [results, Try.results8, go_sem, k0, k1, k2]) rfl ?_
    rw [HX.out, HY.out, HZ.out]
    exact ⟨none, 0, none, 0, rfl, Ints.ofNil _, Ints.ofNil _, ((HB.out.setCell (p := ⟨w.heap.size + 1, 0, none⟩) (by simp) _).setCell (p := ⟨w.heap.size + 1, 1, none⟩) (by simp) _).setCell (p := ⟨w.heap.size + 1, 2, none⟩) (by simp) _⟩
end Go.Proofs.Ytllcbcanohdepaa

/- slices.Values over a list of ints, and slices.AppendSeq and slices.Collect of what it gives: what each call returns; no condition but sizes. -/
namespace Go.Proofs.Ytllcbcanohdepaa
set_option linter.unusedSimpArgs false
open Go.ChangeShapes Go.WideShapes Go.ChangeAt Go.RowKit Go.Deep
set_option linter.unusedVariables false
attribute [local go_sem] Oper.semAt_some

theorem take_iget {zs : List Int} {k : Nat} (h : k < zs.length) : zs.take (k + 1) = zs.take k ++ [iget zs k] := by
  rw [iget_of h, List.take_succ_eq_append_getElem h]

set_option maxRecDepth 100000 in
set_option maxHeartbeats 2000000 in
theorem values1_in (F : Fence) (n : Nat) (h7 : F.fn 75) (hro : F.round = none) (hn : 1 ≤ n) (l Bs n₀ : Nat) (p : Option Addr) (cap : Nat) (zs : List Int) (J Jx : List Int → World → Prop)
    (hY : ∀ pre x W, J pre W → pre.length < zs.length → YieldAt F (n - 1) Try.prog l #[.int .i64 x] W fun e W' =>
      (e = .returned (.bool true) ∧ J (pre ++ [x]) W' ∧ Below n₀ W W') ∨ (e = .returned (.bool false) ∧ Jx (pre ++ [x]) W'))
    (W : World) (hBs : W.cell? ⟨Bs, 0, none⟩ = some (.slice p zs.length cap)) (hI : Ints W p cap zs) (hp : ∀ a, p = some a → 0 < zs.length → a.block < n₀) (h0 : J [] W) :
    CallsIn F n Try.prog 75 #[.func (.yield l) #[] #[], .pointer (some ⟨Bs, 0, none⟩)] W fun e W' => (∃ v, e = .returned v) ∧
      ((∃ ys, ys = zs ∧ J ys W') ∨ (∃ pre, pre <+: zs ∧ Jx pre W')) := by
  refine callsIn_of_wp Try.func75 rfl h7 ?_ hro
  simp only [Try.ntmps75, List.size_toArray, List.length_cons, List.length_nil, Nat.reduceAdd, Nat.reduceSub, Array.replicate_succ, Array.replicate_zero, List.push_toArray, List.append_toArray, List.nil_append, List.cons_append]
  have hlen := hI.length_le
  gi_wp2
  gi_loopw [7] (fun i wr => ∃ k : Nat, k ≤ zs.length ∧ i = .int .i64 k ∧ J (zs.take k) wr ∧ Below n₀ W wr)
    (fun i _ => zs.length - (intOf i).toNat)
  case atStart => exact ⟨0, Nat.zero_le _, rfl, h0, Below.refl _ _⟩
  case round =>
    obtain ⟨k, hk, rfl, hJs, hnx⟩ := hrel
    by_cases hlt : k < zs.length
    · obtain ⟨b, off, rfl, hb, hc⟩ := hI.get hlt
      have hb' : b < n₀ := hp _ rfl (by omega)
      have hcx : wr.cell? ⟨b, off + k, none⟩ = some (.int .i64 (iget zs k)) := (hnx.cell (p := ⟨b, off + k, none⟩) hb').trans hc
      have hlti : (k : Int) < zs.length := by omega
      obtain ⟨fn, tmps, assign, body, hy, hR⟩ := hY _ (iget zs k) wr hJs (by rw [List.length_take]; omega)
      gi_wp2
      refine hR.mono ?_
      rintro e W3 (⟨rfl, hJ3, hk3⟩ | ⟨rfl, hJx3⟩)
      · gi_wp2
        go_roundw
        case rel => exact ⟨k + 1, by omega, by simp, by rw [take_iget hlt]; exact hJ3, hnx.trans hk3⟩
        case measure => simp [intOf]; omega
      · gi_wp2
        refine bodyPost_ret (results_none rfl _ _ _) rfl ?_
        exact ⟨⟨_, rfl⟩, .inr ⟨_, by rw [← take_iget hlt]; exact List.take_prefix _ _, hJx3⟩⟩
    · obtain rfl : k = zs.length := by omega
      gi_wp2
      go_end0
      exact ⟨⟨_, rfl⟩, .inl ⟨_, rfl, by rw [List.take_length] at hJs; exact hJs⟩⟩

set_option maxHeartbeats 1000000 in
theorem values_in (F : Fence) (n : Nat) (h5 : F.fn 71) (hro : F.round = none) (a : Option Addr) (len cap : Nat) (w : World) :
    CallsIn F n Try.prog 71 #[.slice a len cap] w fun e w' => e = .returned (.func (.func 75) #[] #[.pointer (some ⟨w.heap.size, 0, none⟩)]) ∧ w' = w.alloc (.cells #[.slice a len cap] 25) := by
  refine callsIn_of_wp Try.func71 rfl h5 ?_ hro
  simp only [Try.ntmps71, List.size_toArray, List.length_cons, List.length_nil, Nat.reduceAdd, Nat.reduceSub, Array.replicate_succ, Array.replicate_zero, List.push_toArray, List.append_toArray, List.nil_append, List.cons_append]
  gi_wp2
  go_ret
  exact ⟨rfl, rfl⟩

theorem values_stops (F : Fence) (n : Nat) (h7 : F.fn 75) (hro : F.round = none) (hn : 1 ≤ n) (Bs n₀ : Nat) (p : Option Addr) (cap : Nat) (zs : List Int) (w : World) (hBs : Bs < w.heap.size) (hn₀ : w.heap.size = n₀)
    (hc : w.cell? ⟨Bs, 0, none⟩ = some (.slice p zs.length cap)) (hI : Ints w p cap zs) :
    SeqStopsK F n Try.prog 75 #[.pointer (some ⟨Bs, 0, none⟩)] (fun x : Int => #[Value.int .i64 x]) (Below n₀) (fun ys => ys = zs) (fun pre => pre <+: zs) zs.length w := fun l J Jx W hW _ _ hY h0 =>
  values1_in F n h7 hro hn l Bs n₀ p cap zs J Jx hY W ((hW.cell (p := ⟨Bs, 0, none⟩) hBs).trans hc) (hI.below hW (Nat.le_refl _)) (fun a ha h => hn₀ ▸ (hI.plain a ha (by have := hI.le; omega)).2) h0

/-- Between two rounds of AppendSeq: its box holds a row of its own with what has come. -/
def Got (w0 : World) (B : Nat) (pre : List Int) (W : World) : Prop :=
  ∃ p c, W.heap[B]? = some (.cells #[.slice p pre.length c] 25 (0, 0)) ∧ W.ownsRow (B + 1) 3 1 (.slice p pre.length c) pre.length (pre.map (Value.int .i64)) ∧ Below B w0 W

theorem row_cells {W : World} {base e n k : Nat} {v : Value} {xs : List Value} (h : W.ownsRow base e 1 v n xs) (hk : v.ownBlock = some k) : base ≤ k ∧ ∃ o : Obj, W.heap[k]? = some o ∧ o.isCells = true := by
  rcases h.2 with ⟨rfl, _⟩ | ⟨g, cap, cur, rfl, h3, h5, _⟩
  · cases hk
  · cases hk; exact ⟨h3, _, h5, rfl⟩
theorem got_own (w0 : World) (B B' : Nat) (hB : B = w0.heap.size) (hB' : B ≤ B') : OwnFrom B' (Got w0 B) := by
  rintro s W W' row ⟨p, c, h1, h2, h3⟩ hg hr
  have hne : some B ≠ row := fun e => by
    obtain ⟨_, o, ho, hc⟩ := hr B e.symm
    rw [h1] at ho; cases ho; cases hc
  refine ⟨p, c, (hg.block B (Array.getElem?_eq_some_iff.1 h1).1 hne).trans h1, h2.kept hg ?_, h3.grown hg (by rw [hB]; rw [hB] at h3; exact h3.size) (fun k e => by have := (hr k e).1; omega)⟩
  cases hk : (Value.slice p s.length c).ownBlock with
  | none => exact .inl rfl
  | some k =>
    refine .inr fun e => ?_
    obtain ⟨_, o, ho, hc⟩ := hr k e.symm
    obtain ⟨_, o', ho', hc'⟩ := row_cells h2 hk
    rw [ho] at ho'; cases ho'; rw [hc] at hc'; cases hc'
theorem keepsOthers_own {W W' : World} {base e n : Nat} {v : Value} {xs : List Value} (h : W.ownsRow base e 1 v n xs) (hg : W.grownBy W' v.ownBlock) : KeepsOthers W W' :=
  KeepsOthers.of_grownBy hg fun j o e hj => by
    obtain ⟨_, o', ho', hc'⟩ := row_cells h e
    rw [hj] at ho'; cases ho'; exact hc'

theorem box_after {W w3 : World} {B e n : Nat} {v u : Value} {t t' : TypeId} {xs : List Value} {vs : Array Value} (g1 : W.heap[B]? = some (.cells #[v] t (0, 0))) (g2 : W.ownsRow (B + 1) e 1 u n xs)
    (hg3 : (W.alloc (.cells vs t')).grownBy w3 u.ownBlock) :
    w3.heap[B]? = some (.cells #[v] t (0, 0)) ∧ w3.cell? ⟨B, 0, none⟩ = some v ∧ w3.frozen? ⟨B, 0, none⟩ = false := by
  have hB1 : B < W.heap.size := (Array.getElem?_eq_some_iff.1 g1).1
  have hg1' : w3.heap[B]? = some (.cells #[v] t (0, 0)) := by
    refine (hg3.block B (by simp; omega) (fun e => ?_)).trans ((Below.heap_alloc _ _ _ hB1).trans g1)
    have := (row_cells g2 e.symm).1
    omega
  exact ⟨hg1', by simp [World.cell?, hg1'], by simp [World.frozen?, hg1']⟩

/-- A round's store into the box. -/
theorem got_stored {w0 W w3 : World} {B : Nat} {p1 p' : Option Addr} {c1 c' : Nat} {pre : List Int} {x : Int} {vs : Array Value} {t' : TypeId} (hB : B = w0.heap.size)
    (g1 : W.heap[B]? = some (.cells #[.slice p1 pre.length c1] 25 (0, 0))) (g2 : W.ownsRow (B + 1) 3 1 (.slice p1 pre.length c1) pre.length (pre.map (Value.int .i64))) (g3 : Below B w0 W)
    (hg3 : (W.alloc (.cells vs t')).grownBy w3 (Value.slice p1 pre.length c1).ownBlock) (hown : w3.ownsRow (B + 1) 3 1 (.slice p' (pre.length + 1) c') (pre.length + 1) (pre.map (Value.int .i64) ++ [.int .i64 x])) :
    KeepsOthers W (w3.setCell ⟨B, 0, none⟩ (.slice p' (pre.length + 1) c')) ∧ Below B W (w3.setCell ⟨B, 0, none⟩ (.slice p' (pre.length + 1) c')) ∧ Got w0 B (pre ++ [x]) (w3.setCell ⟨B, 0, none⟩ (.slice p' (pre.length + 1) c')) := by
  have hB1 : B < W.heap.size := (Array.getElem?_eq_some_iff.1 g1).1
  obtain ⟨hb, _, _⟩ := box_after g1 g2 hg3
  have hK : KeepsOthers W w3 := (KeepsOthers.alloc W _).trans (keepsOthers_own (g2.alloc _) hg3)
  have hBl : Below B W w3 := ((Below.refl B W).alloc (by omega) _).grown hg3 (by simp; omega) (fun k e => by have := (row_cells g2 e).1; omega)
  have hgs : w3.grownBy (w3.setCell ⟨B, 0, none⟩ (.slice p' (pre.length + 1) c')) (some B) := grownBy_setCell' _ _ _
  have hBs : Below B W (w3.setCell ⟨B, 0, none⟩ (.slice p' (pre.length + 1) c')) := hBl.setCell (p := ⟨B, 0, none⟩) (Nat.le_refl _) _
  refine ⟨hK.trans (KeepsOthers.setCell _ _ _), hBs, p', c', ?_, ?_, g3.trans hBs⟩
  · rw [List.length_append]
    show (w3.heap.modify B _)[B]? = _
    obtain ⟨h1, h2⟩ := Array.getElem?_eq_some_iff.1 hb
    rw [Array.getElem?_eq_getElem (by rw [Array.size_modify]; exact h1), Array.getElem_modify_self, h2]
    rfl
  · rw [List.length_append, List.map_append]
    refine hown.kept hgs ?_
    cases hk : (Value.slice p' (pre.length + 1) c').ownBlock with
    | none => exact .inl rfl
    | some k => exact .inr fun e => by have := (row_cells hown hk).1; cases e; omega

set_option maxRecDepth 100000 in
set_option maxHeartbeats 2000000 in
theorem appendSeq_in (F : Fence) (n : Nat) (h7 : F.fn 75) (h8 : F.fn 76) (hro : F.round = none) (hn : 3 ≤ n) (Bs : Nat) (p : Option Addr) (c : Nat) (zs : List Int) (hz : zs.length ≤ 1000000) (w : World)
    (hBs : Bs < w.heap.size) (hc : w.cell? ⟨Bs, 0, none⟩ = some (.slice p zs.length c)) (hI : Ints w p c zs) :
    CallsIn F n Try.prog 76 #[.slice none 0 0, .func (.func 75) #[] #[.pointer (some ⟨Bs, 0, none⟩)]] w fun e w' => ∃ p' c', e = .returned (.slice p' zs.length c') ∧ Own w' w.heap.size p' c' zs ∧ Below w.heap.size w w' := by
  have h1 : 1 ≤ n := by omega
  obtain ⟨i0, hi, hz0, hz1, hz2⟩ := info_parts infoInt
  refine callsIn_of_wp_marks Try.func76 rfl h8 ?_ hro
  simp only [Try.ntmps76, List.size_toArray, List.length_cons, List.length_nil, Nat.reduceAdd, Nat.reduceSub, Array.replicate_succ, Array.replicate_zero, List.push_toArray, List.append_toArray, List.nil_append, List.cons_append]
  gi_wp2
  obtain ⟨W0, hW0⟩ : ∃ W0, w.alloc (.cells #[.slice none 0 0] 25) = W0 := ⟨_, rfl⟩
  have hs0 : W0.heap.size = w.heap.size + 1 := by rw [← hW0]; simp
  have hv0 : W0.heap[w.heap.size]? = some (.cells #[.slice none 0 0] 25 (0, 0)) := by rw [← hW0]; exact World.alloc_heap_new w _
  have hb0 : Below w.heap.size w W0 := by rw [← hW0]; exact (Below.refl _ w).alloc (Nat.le_refl _) _
  rw [hW0]
  have hgo := got_own w w.heap.size W0.heap.size rfl (by omega)
  refine wpIn_rangeFunc_ownF hro h1 (gf := 75) (lb := #[.pointer (some ⟨Bs, 0, none⟩)]) rfl h7 (enters_of Try.func75 (by kernel_rfl) rfl)
    (values_stops F (n - 1) h7 hro (by omega) Bs w.heap.size p c zs w hBs rfl hc hI) belowK_t (belowK_b (by omega)) hb0 (fun _ => rfl)
    (Got w w.heap.size) (fun _ _ _ => False) hgo (fun _ _ _ _ _ hs _ _ => hs)
    ⟨none, 0, hv0, World.ownsRow_nil _ _ _ _, hb0⟩
    (fun x => { tmps := #[.slice none 0 0, .func (.func 75) #[] #[.pointer (some ⟨Bs, 0, none⟩)], .pointer (some ⟨w.heap.size, 0, none⟩), undef, .slice none 0 0, .int .i64 x, .func (.func 75) #[] #[.pointer (some ⟨Bs, 0, none⟩)], .int .i64 x, undef, undef, undef, undef, undef], defers := [] }) ?assign ?body ?done ?stop
  case assign =>
    intro l x W K hK
    gi_wp2
    exact hK
  case body =>
    rintro l pre x W ⟨p1, c1, g1, g2, g3⟩ hpre
    obtain ⟨hc2, hf2⟩ : W.cell? ⟨w.heap.size, 0, none⟩ = some (.slice p1 pre.length c1) ∧ W.frozen? ⟨w.heap.size, 0, none⟩ = false := by
      simp [World.cell?, World.frozen?, g1]
    have hB1 : w.heap.size < W.heap.size := (Array.getElem?_eq_some_iff.1 g1).1
    have hpl : pre.length + 1 ≤ 1000001 := by omega
    gi_wp2_with (first
      | (gi_at_builtin; refine wpListIn_append_own _ rfl _ _ 25 rfl (w.heap.size + 1) 3 i0 (.int .i64 0) 1 8 Try.underlying25 hi hz0 hz1 hz2 rfl (by decide) _ pre.length _ rfl (g2.alloc _) ⟨W.heap.size, 0, none⟩ 1 1 [.int .i64 x] rfl rfl (cell_one_new _ _ _) (by simp [Value.oneCell']) (by simp [maxLen]; omega) (by omega) (by simp; omega) ?_; intro v' w3 hown' hg3 hnil3; obtain ⟨p', c', rfl⟩ := own_value hown'; obtain ⟨hg1', hc3, hf3⟩ := box_after g1 g2 hg3; go_frame))
    exact got_stored rfl g1 g2 g3 hg3 hown'
  case done =>
    rintro D ys W hD rfl hgot hK
    obtain ⟨p2, c2, e1, e2, e3⟩ := hgo.putObj (.deferred none) hgot hD hK rfl
    obtain ⟨p1, c1, g1, g2, g3⟩ := hgot
    obtain ⟨hc2, hf2⟩ : W.cell? ⟨w.heap.size, 0, none⟩ = some (.slice p1 ys.length c1) ∧ W.frozen? ⟨w.heap.size, 0, none⟩ = false := by
      simp [World.cell?, World.frozen?, g1]
    have he : p1 = p2 ∧ c1 = c2 := by
      have hne : w.heap.size ≠ D := by omega
      rw [World.putObj_heap_other hne, g1] at e1
      simp at e1; exact e1
    obtain ⟨rfl, rfl⟩ := he
    gi_wp2
    refine ⟨by simp, .inl ⟨_, _, rfl, run_takeDeferred hK, ?_⟩⟩
    exact ⟨_, results_tmp rfl _ _ _, p1, c1, rfl, Own.lower ⟨e2, fun j hj => hI.rng j hj⟩ (by omega), e3⟩
  case stop =>
    rintro D c pre W _ _ h _
    exact h.elim

set_option maxHeartbeats 1000000 in
theorem collect_in (F : Fence) (n : Nat) (h6 : F.fn 73) (h7 : F.fn 75) (h8 : F.fn 76) (hro : F.round = none) (hn : 4 ≤ n) (Bs : Nat) (p : Option Addr) (c : Nat) (zs : List Int) (hz : zs.length ≤ 1000000) (w : World)
    (hBs : Bs < w.heap.size) (hc : w.cell? ⟨Bs, 0, none⟩ = some (.slice p zs.length c)) (hI : Ints w p c zs) :
    CallsIn F n Try.prog 73 #[.func (.func 75) #[] #[.pointer (some ⟨Bs, 0, none⟩)]] w fun e w' => ∃ p' c', e = .returned (.slice p' zs.length c') ∧ Own w' w.heap.size p' c' zs ∧ Below w.heap.size w w' := by
  have h1 : 1 ≤ n := by omega
  refine callsIn_of_wp Try.func73 rfl h6 ?_ hro
  simp only [Try.ntmps73, List.size_toArray, List.length_cons, List.length_nil, Nat.reduceAdd, Nat.reduceSub, Array.replicate_succ, Array.replicate_zero, List.push_toArray, List.append_toArray, List.nil_append, List.cons_append]
  gi_wp2_with (gi_at_call 76; refine (appendSeq_in F (n - 1) h7 h8 hro (by omega) Bs p c zs hz _ hBs hc hI).mono ?_; rintro e w' ⟨p', c', rfl, ho, hb⟩)
  go_ret
  exact ⟨p', c', rfl, ho, hb⟩

end Go.Proofs.Ytllcbcanohdepaa

/-
  DERIVED: THE SHELF's CONTRACTS AT THIS DUMP, IN PLAIN WORDS (tools/lay-plain.mjs out of 'TryShelf.lean', which tools/lay-shelf.mjs wrote): THE SAME DECLARATIONS UNDER THE SAME NAMES: 'import', 'namespace', 'open', 'def', 'theorem' AND NOTHING ELSE: no command of the shelf's: FOR A HAND-IN. Each laying: the table of numbers ('.._ren') and one theorem, a field a fact of the dump's own or the kernel's comparison; each contract: ONE APPLICATION.
-/
namespace Go.Proofs
open Go.Shelf
def Try.laysSlM5_f74_ren : Go.Shelf.Ren := ⟨fun | 5 => 74 | 8 => 78 | 7 => 77 | 19 => 88 | 20 => 72 | 10 => 79 | 11 => 80 | 12 => 81 | 13 => 82 | 14 => 83 | 15 => 84 | 16 => 85 | 17 => 86 | 18 => 87 | 30 => 89 | 31 => 90 | 32 => 91 | 33 => 92 | 34 => 93 | 35 => 94 | 40 => 95 | n => n, fun | 23 => 25 | 25 => 3 | 3 => 3 | 32 => 82 | 22 => 25 | 0 => 0 | 44 => 126 | 46 => 63 | 4 => 4 | 36 => 118 | 35 => 117 | 41 => 123 | 5 => 5 | 9 => 9 | 53 => 127 | 57 => 131 | 63 => 133 | 64 => 134 | n => n, fun | n => n⟩
theorem Try.laysSlM5_f74 : Go.Proofs.SlLaysM.n5 Try.prog Try.laysSlM5_f74_ren := {
  mixed := by kernel_rfl
  f5 := ⟨Try.f74.name, by decide, Try.func74.trans (congrArg some (by kernel_rfl))⟩
  f7 := ⟨Try.f77.name, by decide, Try.func77.trans (congrArg some (by kernel_rfl))⟩
  f8 := Try.func78.trans (congrArg some (by kernel_rfl))
  f10 := ⟨Try.f79.name, by decide, Try.func79.trans (congrArg some (by kernel_rfl))⟩
  f11 := ⟨Try.f80.name, by decide, Try.func80.trans (congrArg some (by kernel_rfl))⟩
  f12 := ⟨Try.f81.name, by decide, Try.func81.trans (congrArg some (by kernel_rfl))⟩
  f13 := ⟨Try.f82.name, by decide, Try.func82.trans (congrArg some (by kernel_rfl))⟩
  f14 := ⟨Try.f83.name, by decide, Try.func83.trans (congrArg some (by kernel_rfl))⟩
  f15 := ⟨Try.f84.name, by decide, Try.func84.trans (congrArg some (by kernel_rfl))⟩
  f16 := ⟨Try.f85.name, by decide, Try.func85.trans (congrArg some (by kernel_rfl))⟩
  f17 := ⟨Try.f86.name, by decide, Try.func86.trans (congrArg some (by kernel_rfl))⟩
  f18 := ⟨Try.f87.name, by decide, Try.func87.trans (congrArg some (by kernel_rfl))⟩
  f19 := Try.func88.trans (congrArg some (by kernel_rfl))
  f20 := Try.func72.trans (congrArg some (by kernel_rfl))
  f30 := ⟨Try.f89.name, by decide, Try.func89.trans (congrArg some (by kernel_rfl))⟩
  f31 := Try.func90.trans (congrArg some (by kernel_rfl))
  f32 := Try.func91.trans (congrArg some (by kernel_rfl))
  f33 := ⟨Try.f92.name, by decide, Try.func92.trans (congrArg some (by kernel_rfl))⟩
  f34 := ⟨Try.f93.name, by decide, Try.func93.trans (congrArg some (by kernel_rfl))⟩
  f35 := ⟨Try.f94.name, by decide, Try.func94.trans (congrArg some (by kernel_rfl))⟩
  f40 := ⟨Try.f95.name, by decide, Try.func95.trans (congrArg some (by kernel_rfl))⟩
  t0 := Try.underlying0
  a0 := Try.isAgg0
  z0 := Try.sizeOf0
  v0 := Try.zeroValue0
  t3 := Try.underlying3
  a3 := Try.isAgg3
  z3 := Try.sizeOf3
  v3 := Try.zeroValue3
  t4 := Try.underlying4
  a4 := Try.isAgg4
  z4 := Try.sizeOf4
  v4 := Try.zeroValue4
  t5 := Try.underlying5
  a5 := Try.isAgg5
  z5 := Try.sizeOf5
  v5 := Try.zeroValue5
  t9 := Try.underlying9
  a9 := Try.isAgg9
  z9 := Try.sizeOf9
  v9 := Try.zeroValue9
  t22 := Try.underlying25
  a22 := Try.isAgg25
  z22 := Try.sizeOf25
  v22 := Try.zeroValue25
  t23 := Try.underlying25
  a23 := Try.isAgg25
  z23 := Try.sizeOf25
  v23 := Try.zeroValue25
  t25 := Try.underlying3
  a25 := Try.isAgg3
  z25 := Try.sizeOf3
  v25 := Try.zeroValue3
  t32 := Try.underlying82
  a32 := Try.isAgg82
  z32 := Try.sizeOf82
  v32 := Try.zeroValue82
  t35 := Try.underlying117
  a35 := Try.isAgg117
  z35 := Try.sizeOf117
  v35 := Try.zeroValue117
  t36 := Try.underlying118
  a36 := Try.isAgg118
  z36 := Try.sizeOf118
  v36 := Try.zeroValue118
  t41 := Try.underlying123
  a41 := Try.isAgg123
  z41 := Try.sizeOf123
  v41 := Try.zeroValue123
  t44 := Try.underlying126
  a44 := Try.isAgg126
  z44 := Try.sizeOf126
  v44 := Try.zeroValue126
  t46 := Try.underlying63
  a46 := Try.isAgg63
  z46 := Try.sizeOf63
  v46 := Try.zeroValue63
  t53 := Try.underlying127
  a53 := Try.isAgg127
  z53 := Try.sizeOf127
  v53 := Try.zeroValue127
  t57 := Try.underlying131
  a57 := Try.isAgg131
  z57 := Try.sizeOf131
  v57 := Try.zeroValue131
  t63 := Try.underlying133
  a63 := Try.isAgg133
  z63 := Try.sizeOf133
  v63 := Try.zeroValue133
  t64 := Try.underlying134
  a64 := Try.isAgg134
  z64 := Try.sizeOf134
  v64 := Try.zeroValue134 }
open Go.Sort Go.RowKit in
theorem Try.slices_Sort_int (blk off cap : Nat) (zs : List Int) (w : World) (hH : Holds (Value.int .i64) w blk off zs.toArray) (hblk : blk < w.heap.size) (hsz : zs.length < 4611686018427387904) :
    Calls Try.prog 74 #[.slice (some ⟨blk, off, none⟩) zs.length cap] w fun e w' =>
      e = .returned (.tuple #[]) ∧ ∃ n os, w' = grow (putRow (Value.int .i64) (Sort.ahead w n) blk off (zs.mergeSort fun x y => decide (x ≤ y)).toArray) os := AnyM.slices_Sort_int Try.laysSlM5_f74 blk off cap zs w hH hblk hsz
open Go.RowKit Go.Sort in
/-- .. and plain. (LAID AT THE INSTANCE 'slices.Sort[[]int,int]': no walk: one application.) -/
theorem Try.slices_Sort_int_none (p : Option Addr) (cap : Nat) (w : World) :
    Calls Try.prog 74 #[.slice p 0 cap] w fun e w' => e = .returned (.tuple #[]) ∧ w' = w := AnyM.slices_Sort_int_none Try.laysSlM5_f74 p cap w
end Go.Proofs

/- slices.Sorted(slices.Values(a)) at a list of ints: what it returns; no condition but the size. -/
namespace Go.Proofs.Ytllcbcanohdepaa
set_option linter.unusedSimpArgs false
open Go.ChangeShapes Go.WideShapes Go.ChangeAt Go.RowKit Go.Deep
set_option linter.unusedVariables false

/-- The list in order. -/
def srt (xs : List Int) : List Int := xs.mergeSort fun x y => decide (x ≤ y)
theorem srt_length (xs : List Int) : (srt xs).length = xs.length := List.length_mergeSort _
theorem srt_perm (xs : List Int) : (srt xs).Perm xs := List.mergeSort_perm _ _
theorem srt_sorted (xs : List Int) : (srt xs).Pairwise (· ≤ ·) := by
  have := List.pairwise_mergeSort (le := fun (x y : Int) => decide (x ≤ y)) (fun a b c h1 h2 => by simp at *; omega) (fun a b => by simp; omega) xs
  exact this.imp (fun h => by simpa using h)

theorem srt_own {W w' : World} {base g c : Nat} {zs : List Int} {n : Nat} {os : Array Obj} (ho : Own W base (some ⟨g, 0, none⟩) c zs) (hw' : w' = Go.Sort.grow (Go.Sort.putRow (Value.int .i64) (Go.Sort.ahead W n) g 0 (srt zs).toArray) os) :
    Own w' base (some ⟨g, 0, none⟩) c (srt zs) ∧ W.grownBy w' (some g) := by
  subst hw'
  rcases ho.row.2 with ⟨h1, _⟩ | ⟨g', cap, cur, h1, h2, h3, h4, h5, h6, h7⟩
  · simp at h1
  · simp only [Value.slice.injEq, Option.some.injEq, Addr.mk.injEq, and_true, true_and] at h1
    obtain ⟨rfl, rfl⟩ := h1
    refine ⟨⟨?_, fun j hj => ?_⟩, grownBy_sortedI _⟩
    · have := ownsRow_sortedI (n := n) (os := os) (srt_length zs) h2 h3 h4 h5 h6
      rw [srt_length]
      exact this
    · have hm : iget (srt zs) j ∈ zs := (srt_perm zs).mem_iff.1 (iget_mem hj)
      obtain ⟨k, hk, he⟩ := List.getElem_of_mem hm
      rw [← he, ← iget_of hk]
      exact ho.rng k hk

set_option maxHeartbeats 1000000 in
theorem collect_any (Bs : Nat) (p : Option Addr) (c : Nat) (zs : List Int) (hz : zs.length ≤ 1000000) (w : World)
    (hBs : Bs < w.heap.size) (hc : w.cell? ⟨Bs, 0, none⟩ = some (.slice p zs.length c)) (hI : Ints w p c zs) :
    Calls Try.prog 73 #[.func (.func 75) #[] #[.pointer (some ⟨Bs, 0, none⟩)]] w fun e w' => ∃ p' c', e = .returned (.slice p' zs.length c') ∧ Own w' w.heap.size p' c' zs ∧ Below w.heap.size w w' :=
  (callsIn_wide (n := 6)).1 (collect_in Fence.wide 6 trivial trivial trivial rfl (by omega) Bs p c zs hz w hBs hc hI)

theorem values_any (a : Option Addr) (len cap : Nat) (w : World) :
    Calls Try.prog 71 #[.slice a len cap] w fun e w' => e = .returned (.func (.func 75) #[] #[.pointer (some ⟨w.heap.size, 0, none⟩)]) ∧ w' = w.alloc (.cells #[.slice a len cap] 25) :=
  (callsIn_wide (n := 6)).1 (values_in Fence.wide 6 trivial rfl a len cap w)

theorem sorted_any (Bs : Nat) (p : Option Addr) (c : Nat) (zs : List Int) (hz : zs.length ≤ 1000000) (w : World)
    (hBs : Bs < w.heap.size) (hc : w.cell? ⟨Bs, 0, none⟩ = some (.slice p zs.length c)) (hI : Ints w p c zs) :
    Calls Try.prog 70 #[.func (.func 75) #[] #[.pointer (some ⟨Bs, 0, none⟩)]] w fun e w' => ∃ p' c', e = .returned (.slice p' (srt zs).length c') ∧ Own w' w.heap.size p' c' (srt zs) ∧ Below w.heap.size w w' := by
  go_enter Try.func70, Try.ntmps70
  go_wp2_with fail
  refine (collect_any Bs p c zs hz w hBs hc hI).mono ?_
  rintro e W ⟨p', c', rfl, ho, hb⟩
  rcases ho.shape with ⟨rfl, rfl, h0⟩ | ⟨g, rfl, h1, h2, h3, h4⟩
  · have hn : zs.length = 0 := by rw [h0]; rfl
    rw [hn]
    go_wp2_with fail
    refine (Try.slices_Sort_int_none none 0 W).mono ?_
    rintro e w' ⟨rfl, rfl⟩
    go_wp2_with fail
    go_ret
    refine ⟨none, 0, by rw [srt_length, hn]; rfl, ?_, hb⟩
    rw [h0, show srt [] = [] from by simp [srt]]; exact Own.ofNil _ _
  · go_wp2_with fail
    refine (Try.slices_Sort_int g 0 c' zs W ?_ h2 (by omega)).mono ?_
    · intro j hj
      have hj' : j < zs.length := by simpa using hj
      refine ⟨?_, ho.free _⟩
      rw [Nat.zero_add, ho.at hj', iget_of hj']; simp [hj']
    rintro e w' ⟨rfl, n, os, hw⟩
    obtain ⟨ho', hg⟩ := srt_own ho hw
    clear hw
    go_wp2_with fail
    go_ret
    exact ⟨_, c', by rw [srt_length]; rfl, ho', hb.grown hg hb.size (fun k e => by cases e; exact h1)⟩

end Go.Proofs.Ytllcbcanohdepaa
