/- The walks of rent.Fair and rent.Calm, for every flat. -/
import Derived.Test.YtmcncflieoolmaaTopTopRentm14
import Derived.Test.YtmcncflieoolmaaTopTopRentm8
import Derived.Test.YtmcncflieoolmaaTopTopRentm11
import Derived.Test.YtmcncflieoolmaaTopTopRentm6
import Derived.Test.YtmcncflieoolmaaTopTopRentm2
import Derived.RangeFuncFrom
import Derived.RangeFuncBox
import Derived.RangeFuncLeaves
import Derived.OwnWalkIn
import Derived.TacticsInMore
import Derived.LoopNIn
import Derived.LoopIn
import Derived.Maps.AppendAt
import Derived.Maps.RangeWalk
import Derived.Shelf.Abstract
/- The walks of rent.Fair and rent.Calm, for every flat. -/
namespace Go.Proofs.Ytmcncflieoolmaa
set_option linter.unusedVariables false
set_option linter.unusedSimpArgs false
open Go.ChangeShapes Go.WideShapes Go.ChangeAt Go.RowKit Go.Deep

theorem ldF_bd {v : List (List Int)} (hv : Bids v) {i k : Nat} (hi : i < v.length) (hk : k < v.length) : -7000000 ≤ ldF v (bestA v) i k ∧ ldF v (bestA v) i k ≤ 7000000 := by
  have hp := isA_per (bestA_best hv.1).1
  have h1 := (hv.2.2 i hi).2 _ (hp.lt i hi)
  have h2 := (hv.2.2 k hk).2 _ (hp.lt k hk)
  have h3 := linkL_bd hv (hp.lt i hi) (hp.lt k hk)
  unfold ldF
  unfold bid at *
  omega
/-- The gains that Fair and Calm begin with. -/
noncomputable def fairG (v : List (List Int)) : List Int := (List.range v.length).map fun i => highTo (rget (ldL v (bestA v)) i) v.length
noncomputable def calmF (v : List (List Int)) (k : Nat) : Nat → Int
  | 0 => 0
  | i + 1 => min (calmF v k i) (-ldF v (bestA v) i k)
noncomputable def calmG (v : List (List Int)) : List Int := (List.range v.length).map fun k => calmF v k v.length
theorem fairG_get {v : List (List Int)} {i : Nat} (hi : i < v.length) : iget (fairG v) i = highTo (rget (ldL v (bestA v)) i) v.length := by simp [fairG, iget, hi]
theorem fairG_len (v : List (List Int)) : (fairG v).length = v.length := by simp [fairG]
theorem calmG_get {v : List (List Int)} {i : Nat} (hi : i < v.length) : iget (calmG v) i = calmF v i v.length := by simp [calmG, iget, hi]
theorem calmG_len (v : List (List Int)) : (calmG v).length = v.length := by simp [calmG]
theorem fairG_snoc {v : List (List Int)} {k : Nat} (hk : k < v.length) : (fairG v).take (k + 1) = (fairG v).take k ++ [highTo (rget (ldL v (bestA v)) k) v.length] := by
  rw [take_snocI (by rw [fairG_len]; exact hk), fairG_get hk]
theorem fairG_max {v : List (List Int)} (hv : Bids v) {i : Nat} (hi : i < v.length) : (∀ k, k < v.length → ldF v (bestA v) i k ≤ iget (fairG v) i) ∧ ∃ k, k < v.length ∧ iget (fairG v) i = ldF v (bestA v) i k := by
  rw [fairG_get hi]
  refine ⟨fun k hk => ?_, ?_⟩
  · have := highTo_ge (rget (ldL v (bestA v)) i) v.length k hk
    rw [ldL_get hi hk] at this
    exact this
  · obtain ⟨j, hj, he⟩ := highTo_mem (rget (ldL v (bestA v)) i) v.length hv.1
    exact ⟨j, hj, by rw [he, ldL_get hi hj]⟩
theorem fairG_small {v : List (List Int)} (hv : Bids v) : SmallG (fairG v) v.length := by
  refine ⟨fairG_len v, fun i hi => ?_⟩
  obtain ⟨_, k, hk, e⟩ := fairG_max hv hi
  have := ldF_bd hv hi hk
  omega
theorem calmF_bd {v : List (List Int)} (hv : Bids v) {k : Nat} (hk : k < v.length) : ∀ i, i ≤ v.length → -7000000 ≤ calmF v k i ∧ calmF v k i ≤ 0
  | 0, _ => by simp [calmF]
  | i + 1, hi => by
    have h1 := calmF_bd hv hk i (by omega)
    have h2 := ldF_bd hv (show i < v.length by omega) hk
    simp only [calmF]
    omega
theorem calmG_small {v : List (List Int)} (hv : Bids v) : SmallG (calmG v) v.length := by
  refine ⟨calmG_len v, fun i hi => ?_⟩
  rw [calmG_get hi]
  have := calmF_bd hv hi v.length (Nat.le_refl _)
  omega
noncomputable def leaY (v : List (List Int)) (r : Int) (g : List Int) : List Int := if chkR v r = 0 then lowL v.length (leaseL v r (bestA v) g) else []
noncomputable def leaZ (v : List (List Int)) (r : Int) (g : List Int) : Int := if chkR v r = 0 then lowN v.length (leaseL v r (bestA v) g) else 0
/-- A lease's result block with an error number. -/
theorem bestI_len {v : List (List Int)} {r : Int} (h : chkR v r = 0) : (bestI v r).length = v.length := by
  unfold bestI; rw [if_pos h]
  exact (bestA_best (chkR_zero.1 h).1.1).1.1

set_option maxHeartbeats 8000000 in
set_option maxRecDepth 100000 in
theorem rentFair_any (p : Option Addr) (c : Nat) (v : List (List Int)) (r : Int) (w : World) (hx : Mat w p c v) :
    Calls Try.prog 7 #[.agg #[.slice p v.length c, .int .i64 r]] w (GivesLease w (bestI v r) (leaY v r (fairG v)) (leaZ v r (fairG v)) (chkR v r)) := by
  obtain ⟨W0, hW0⟩ : ∃ W0, (w.alloc (.cells #[.slice p v.length c, .int .i64 r] 24)).alloc (.cells #[.slice none 0 0, .slice none 0 0, .int .i64 0] 29) = W0 := ⟨_, rfl⟩
  have hb0 : Below w.heap.size w W0 := by rw [← hW0]; exact ((Below.refl _ _).alloc (Nat.le_refl _) _).alloc (by simp) _
  have hx1 := hx.below hb0 (Nat.le_refl _)
  have hs0 : W0.heap.size = w.heap.size + 2 := by rw [← hW0]; simp
  have h3 : Three W0 (w.heap.size + 1) := Three.new (by simp) hW0.symm
  have H3 := Lib.hid h3
  clear h3
  have hbx0 : W0.cell? ⟨w.heap.size, 0, none⟩ = some (.slice p v.length c) := by rw [← hW0]; simp
  have hbx1 : W0.cell? ⟨w.heap.size, 1, none⟩ = some (.int .i64 r) := by rw [← hW0]; simp
  have HW0 := Lib.hid hW0
  have Hs0 := Lib.hid hs0
  clear hW0 hs0
  go_enter Try.func7, Try.ntmps7
  go_wp2_with fail
  rw [HW0.out]
  refine (leads_any p c v r _ hx1).mono ?_
  rintro e w1 ⟨qa, da, pl, cl, Ql, Dl, rfl, hAo, hLD, hb1⟩
  have hB1 : Below W0.heap.size W0 w1 := hb1
  have hx2 := hx1.below hb1 (Nat.le_refl _)
  have h31 := H3.out.below hb1 (by have := Hs0.out; omega)
  have c0 := (hB1.cell (p := ⟨w.heap.size, 0, none⟩) (by have := Hs0.out; simp only; omega)).trans hbx0
  have c1 := (hB1.cell (p := ⟨w.heap.size, 1, none⟩) (by have := Hs0.out; simp only; omega)).trans hbx1
  have hszw : w.heap.size + 2 ≤ w1.heap.size := by have := hb1.size; have := Hs0.out; omega
  have HB := Lib.hid (hb0.trans (hb1.mono hb0.size))
  have hI := hAo.ints
  have hM := hLD.mat
  have HAo := Lib.hid hAo
  clear hb1 hB1 hx1 hb0 hbx0 hbx1 hAo hLD H3
  by_cases hF : chkR v r = 0
  · have hcz : (chkR v r != 0) = false := by rw [hF]; rfl
    obtain ⟨hv, hr1, hr2⟩ := chkR_zero.1 hF
    have hal := bestI_len hF
    have hll : (leadsL v r).length = v.length := by unfold leadsL; rw [if_pos hF, ldL_len]
    have e1 : leadsL v r = ldL v (bestA v) := by unfold leadsL; rw [if_pos hF]
    have e2 : bestI v r = bestA v := by unfold bestI; rw [if_pos hF]
    have HX := Lib.hid e2
    have HY : Hid (leaY v r (fairG v) = lowL v.length (leaseL v r (bestA v) (fairG v))) := by unfold Hid leaY; rw [if_pos hF]
    have HZ : Hid (leaZ v r (fairG v) = lowN v.length (leaseL v r (bestA v) (fairG v))) := by unfold Hid leaZ; rw [if_pos hF]
    rw [e1] at hM
    rw [e2] at hI
    rw [hal, hll]
    have Hv := Lib.hid hv
    have Hal := Lib.hid hal
    have HF := Lib.hid hF
    have hA := (bestA_best hv.1).1
    have HA := Lib.hid hA
    have Hsg := Lib.hid (fairG_small hv)
    have h0 := hv.1
    have h6 := hv.2.1
    have H31 := Lib.hid h31
    obtain ⟨B, hBB⟩ : ∃ B, w1.heap.size = B := ⟨_, rfl⟩
    have HBB := Lib.hid hBB
    clear e1 e2 hal hll hF hv hA h31 hBB
    go_wp2_with fail
    go_loopw [7, 22] (fun s i wr => ∃ k : Nat, k ≤ v.length ∧ i = .int .i64 k ∧ (∃ zs q d, Hid (zs = (fairG v).take k) ∧ s = .slice q (zs : List Int).length d ∧ Own wr B q d zs) ∧ Below B w1 wr) (fun _ i _ => v.length - (intOf i).toNat)
    case atStart => exact ⟨0, by omega, rfl, ⟨[], none, 0, rfl, rfl, Own.ofNil _ _⟩, Below.refl _ _⟩
    case round =>
      obtain ⟨k, hk, rfl, ⟨zs, qz, dz, hz, rfl, hO⟩, hBk⟩ := hrel
      have hsz := hBk.size
      rw [HBB.out] at hsz
      by_cases hlt : k < v.length
      · have hk1 : (k : Int) < v.length := by omega
        have hMr := hM.below hBk (Nat.le_of_eq HBB.out)
        obtain ⟨b, o, rfl, _, q1, d1, hc, hi⟩ := hMr.get (j := k) (by rw [ldL_len]; exact hlt)
        have hrl := ldL_row_len (v := v) (a := bestA v) hlt
        rw [hrl] at hc
        have Hmx := Lib.hid (fun W (h : Ints W q1 d1 (rget (ldL v (bestA v)) k)) => (by have := sMax_any q1 d1 (rget (ldL v (bestA v)) k) W h (by rw [hrl]; exact h0); rw [hrl] at this; exact this : Calls Try.prog 22 #[.slice q1 v.length d1] W fun e w' => e = .returned (.int .i64 (highTo (rget (ldL v (bestA v)) k) v.length)) ∧ w' = W))
        have Hsn := Lib.hid (fairG_snoc hlt)
        have hgb := Hsg.out.2 k hlt
        rw [fairG_get hlt] at hgb
        have Hi := Lib.hid hi
        have hzl : zs.length ≤ 900000 := by rw [hz.out, List.length_take]; omega
        generalize highTo (rget (ldL v (bestA v)) k) v.length = y at *
        have hy64 : in64 y := ⟨by omega, by omega⟩
        clear hi hrl
        go_wp2_with fail
        refine (Hmx.out _ Hi.out).mono ?_
        rintro e w' ⟨rfl, rfl⟩
        go_wp2_with (at_builtin; refine wpList_app1 rfl (.tmp 26) (.tmp 29) rfl B _ _ zs y rfl rfl rfl hO hy64 hzl hsz ?_; intro p3 c3 w3 u3 hu3 hO3 hg3 hf3)
        have hb3 := below_grown hBk hg3 hsz (fun k' e => hO.lt k' e) (Nat.le_refl _)
        go_roundw
        case rel => exact ⟨k + 1, by omega, by go_num, ⟨u3, _, _, by unfold Hid; rw [hu3.out, Hsn.out, hz.out], rfl, hO3⟩, hb3⟩
        case measure => simp [intOf]; omega
      · have hk1 : ¬ (k : Int) < v.length := by omega
        obtain rfl : k = v.length := by omega
        have hzg : zs = fairG v := by rw [hz.out, List.take_of_length_le (by rw [fairG_len]; exact Nat.le_refl _)]
        have hzl : zs.length = v.length := by rw [hzg, fairG_len]
        have HBk := Lib.hid hBk
        have c0' := (hBk.cell (p := ⟨w.heap.size, 0, none⟩) (by have := HBB.out; simp only; omega)).trans c0
        have c1' := (hBk.cell (p := ⟨w.heap.size, 1, none⟩) (by have := HBB.out; simp only; omega)).trans c1
        have HcL : Hid (∀ W, Below B w1 W → Ints W qz dz zs → Calls Try.prog 23 #[.agg #[.slice p v.length c, .int .i64 r], .slice qa v.length da, .slice qz v.length dz] W fun e w' => ∃ t u, e = .returned (.agg #[.slice qa v.length da, .slice t v.length u, .int .i64 (lowN v.length (leaseL v r (bestA v) (fairG v)))]) ∧ Own w' W.heap.size t u (lowL v.length (leaseL v r (bestA v) (fairG v))) ∧ Below W.heap.size W w') := fun W hW hi => by
          have := HBB.out
          rw [hzg] at hi
          exact lease_any p qa qz c da dz v r (bestA v) (fairG v) W (hx2.below hW (by omega)) (hI.below hW (by omega)) hi Hv.out hr1 hr2 HA.out Hsg.out
        have Hi := Lib.hid hO.ints
        clear hO hM hI c0 c1 hBk hz hx2 hzg
        rw [hzl]
        clear hzl
        go_wp2_with fail
        refine (HcL.out _ HBk.out Hi.out).mono ?_
        rintro e w4 ⟨t, u, rfl, hOt, hb4⟩
        have hb5 := HBk.out.trans (hb4.mono (by have := HBk.out.size; have := HBB.out; omega))
        have h35 := H31.out.below hb5 (by have := HBB.out; omega)
        have H35 := Lib.hid h35
        have HA5 := Lib.hid (HAo.out.below hb5 (Nat.le_of_eq HBB.out))
        have HOt := Lib.hid hOt
        have HB5 := Lib.hid (HB.out.trans (hb5.mono (by have := HBB.out; omega)))
        have hszr : w.heap.size + 2 ≤ wr.heap.size := by have := HBk.out.size; omega
        obtain ⟨⟨x0, t0⟩, ⟨x1, t1⟩, ⟨x2, t2⟩, u0, u1, u2⟩ := h35
        clear hb4 hb5 hOt c0' c1'
        go_wp2_with fail
        clear t0 t1 t2 u0 u1 u2
        obtain ⟨Z, hZ⟩ : ∃ Z, lowN v.length (leaseL v r (bestA v) (fairG v)) = Z := ⟨_, rfl⟩
        rw [hZ] at HZ ⊢
        obtain ⟨k0, k1, k2⟩ := H35.out.set (.slice qa v.length da) (.slice t v.length u) (.int .i64 Z)
        refine bodyPost_ret (v := .tuple #[.agg #[.slice qa v.length da, .slice t v.length u, .int .i64 Z], .int .i64 0]) (by simp [results, Try.results7, go_sem, k0, k1, k2]) rfl ?_
        rw [HX.out, HY.out, HZ.out, HF.out]
        refine ⟨qa, da, t, u, by rw [HA.out.1, lowL_length, leaseL_len], ?_, ?_, ?_⟩
        · rw [← HX.out]
          exact (((HA5.out.setCell_far (j := 0) _ (by have := Hs0.out; omega)).setCell_far (j := 1) _ (by have := Hs0.out; omega)).setCell_far (j := 2) _ (by have := Hs0.out; omega)).ints
        · exact (((HOt.out.setCell_far (j := 0) _ (by omega)).setCell_far (j := 1) _ (by omega)).setCell_far (j := 2) _ (by omega)).ints
        · exact ((HB5.out.setCell (p := ⟨w.heap.size + 1, 0, none⟩) (by simp) _).setCell (p := ⟨w.heap.size + 1, 1, none⟩) (by simp) _).setCell (p := ⟨w.heap.size + 1, 2, none⟩) (by simp) _
  · have hcz : (chkR v r != 0) = true := by rw [bne_iff_ne]; exact hF
    have HX : Hid (bestI v r = []) := by unfold Hid bestI; rw [if_neg hF]
    have HY : Hid (leaY v r (fairG v) = []) := by unfold Hid leaY; rw [if_neg hF]
    have HZ : Hid (leaZ v r (fairG v) = 0) := by unfold Hid leaZ; rw [if_neg hF]
    have H31 := Lib.hid h31
    obtain ⟨⟨x0, t0⟩, ⟨x1, t1⟩, ⟨x2, t2⟩, u0, u1, u2⟩ := h31
    clear hF hM hI hx2
    go_wp2_with fail
    clear t0 t1 t2 u0 u1 u2
    obtain ⟨k0, k1, k2⟩ := H31.out.set (.slice none 0 0) (.slice none 0 0) (.int .i64 0)
    refine bodyPost_ret (v := .tuple #[.agg #[.slice none 0 0, .slice none 0 0, .int .i64 0], .int .i64 (chkR v r)]) (by simp [results, Try.results7, go_sem, k0, k1, k2]) rfl ?_
    rw [HX.out, HY.out, HZ.out]
    exact ⟨none, 0, none, 0, rfl, Ints.ofNil _, Ints.ofNil _, ((HB.out.setCell (p := ⟨w.heap.size + 1, 0, none⟩) (by simp) _).setCell (p := ⟨w.heap.size + 1, 1, none⟩) (by simp) _).setCell (p := ⟨w.heap.size + 1, 2, none⟩) (by simp) _⟩
end Go.Proofs.Ytmcncflieoolmaa

/- Leases without envy and the links of the rooms, in plain words; no program. -/
namespace Go.Proofs.Ytmcncflieoolmaa
set_option linter.unusedVariables false
set_option linter.unusedSimpArgs false

/-- Prices p over d under which nobody wants another's room. -/
def EF (v : List (List Int)) (a : List Int) (p : Nat → Int) (d : Int) : Prop := ∀ i, i < v.length → ∀ j, j < v.length → bid v i j * d - p j ≤ bid v i (itm a i) * d - p (itm a i)
theorem sum_gain {v : List (List Int)} {a : List Int} (h : IsA a v.length) (p : Nat → Int) (d : Int) :
    sumTo (fun i => bid v i (itm a i) * d - p (itm a i)) v.length = d * worthI v a - sumTo p v.length := by
  have hw : worthI v a = sumTo (fun i => bid v i (itm a i)) v.length := by unfold worthI; rw [h.1]
  rw [sumTo_sub, (isA_per h).sum p, hw, ← sumTo_mul]
  congr 1
  exact sumTo_congr fun i hi => Int.mul_comm _ _
theorem sum_zero {f : Nat → Int} {n : Nat} (h : ∀ i, i < n → 0 ≤ f i) (h0 : sumTo f n ≤ 0) : ∀ i, i < n → f i = 0 := fun i hi => by
  have := sumTo_single_le h hi
  have := h i hi
  omega
theorem mul_le_cancel {d x y : Int} (hd : 0 < d) (h : d * x ≤ d * y) : x ≤ y := Int.le_of_mul_le_mul_left h hd
/-- Without envy an assignment is one of the best; and its prices do for the best one. -/
theorem ef_best {v : List (List Int)} {a b : List Int} (hb : IsBest v b) (h0 : 0 < v.length) (ha : IsA a v.length) {p : Nat → Int} {d : Int} (hd : 0 < d) (h : EF v a p d) : worthI v a = worthI v b ∧ EF v b p d := by
  have hs1 := sum_gain ha p d
  have hs2 := sum_gain hb.1 p d
  have hle : sumTo (fun i => bid v i (itm b i) * d - p (itm b i)) v.length ≤ sumTo (fun i => bid v i (itm a i) * d - p (itm a i)) v.length := sumTo_le fun i hi => h i hi _ ((isA_lt hb.1 i hi).2)
  have hm := hb.max ha h0
  have hw : worthI v b ≤ worthI v a := mul_le_cancel hd (by omega)
  have he : worthI v a = worthI v b := by omega
  refine ⟨he, fun i hi j hj => ?_⟩
  have hz := sum_zero (f := fun i => (bid v i (itm a i) * d - p (itm a i)) - (bid v i (itm b i) * d - p (itm b i))) (n := v.length) (fun i hi => by
    have := h i hi _ ((isA_lt hb.1 i hi).2)
    omega) (by rw [sumTo_sub, hs1, hs2, he]; omega) i hi
  have := h i hi j hj
  have hz' : (bid v i (itm a i) * d - p (itm a i)) - (bid v i (itm b i) * d - p (itm b i)) = 0 := hz
  omega
theorem ef_other {v : List (List Int)} {a b : List Int} (hb : IsA b v.length) (ha : IsA a v.length) {p : Nat → Int} {d : Int} (h : EF v b p d) (he : worthI v a = worthI v b) : EF v a p d := by
  have hs1 := sum_gain ha p d
  have hs2 := sum_gain hb p d
  intro i hi j hj
  have hz := sum_zero (f := fun i => (bid v i (itm b i) * d - p (itm b i)) - (bid v i (itm a i) * d - p (itm a i))) (n := v.length) (fun i hi => by
    have := h i hi _ ((isA_lt ha i hi).2)
    omega) (by rw [sumTo_sub, hs1, hs2, he]; omega) i hi
  have := h i hi j hj
  have hz' : (bid v i (itm b i) * d - p (itm b i)) - (bid v i (itm a i) * d - p (itm a i)) = 0 := hz
  omega
/-- Prices that follow the links of neighbours. -/
def Pot (w : Nat → Nat → Int) (n : Nat) (p : Nat → Int) (d : Int) : Prop := ∀ y z, y < n → z < n → p y + w y z * d ≤ p z
theorem ef_pot {v : List (List Int)} {b : List Int} (hb : IsA b v.length) {p : Nat → Int} {d : Int} : EF v b p d ↔ Pot (wl v b) v.length p d := by
  constructor
  · intro h y z hy hz
    obtain ⟨i, hi, rfl⟩ := (isA_per hb).surj hy
    rw [wl_of hb hi, Int.sub_mul]
    have := h i hi z hz
    omega
  · intro h i hi j hj
    have := h (itm b i) j (isA_lt hb i hi).2 hj
    rw [wl_of hb hi, Int.sub_mul] at this
    omega
theorem psum_scale (w : Nat → Nat → Int) (d : Int) : ∀ (L : List Nat) (x : Nat), psum (fun x y => w x y * d) x L = psum w x L * d
  | [], _ => by simp [psum]
  | y :: L, x => by rw [psum, psum, psum_scale w d L y, Int.add_mul]
/-- .. follow the links of all. -/
theorem pot_link {w : Nat → Nat → Int} {n : Nat} {g : Nat → Nat → Int} (hC : Clo w n g) (hw : ∀ x, w x x = 0) {p : Nat → Int} {d : Int} (hd : 0 ≤ d) : Pot w n p d ↔ ∀ j k, j < n → k < n → g j k * d ≤ p k - p j := by
  constructor
  · intro h j k hj hk
    obtain ⟨L, hL, rfl, e⟩ := hC.path j k hj hk
    have := psum_le (w := fun x y => w x y * d) (n := n) (h := p) (fun y z hy hz => h y z hy hz) L j hL.lt
    rw [psum_scale, e] at this
    exact this
  · intro h y z hy hz
    by_cases e : y = z
    · subst e; rw [hw]; omega
    · have h1 := hC.most y [z] ⟨by simp [e], fun q hq => by
        rcases List.mem_cons.1 hq with rfl | hq
        · exact hy
        · simp at hq; subst hq; exact hz⟩
      have h2 : w y z ≤ g y z := by simpa [psum, lastOf] using h1
      have h3 := h y z hy hz
      have h4 := Int.mul_le_mul_of_nonneg_right h2 hd
      omega
theorem wl_self (v : List (List Int)) (a : List Int) (x : Nat) : wl v a x x = 0 := wt_self _ _ _ _
/-- The stage's theorem: without envy exactly if the assignment is one of the best and the prices follow the links. -/
theorem ef_iff {v : List (List Int)} {a : List Int} (h0 : 0 < v.length) (ha : IsA a v.length) {p : Nat → Int} {d : Int} (hd : 0 < d) :
    EF v a p d ↔ worthI v a = worthI v (bestA v) ∧ ∀ j k, j < v.length → k < v.length → lnkS (wl v (bestA v)) v.length j k * d ≤ p k - p j := by
  have hb := bestA_best h0
  rw [← pot_link (lnkS_clo (wl v (bestA v)) v.length) (wl_self v (bestA v)) (Int.le_of_lt hd), ← ef_pot hb.1]
  exact ⟨fun h => ef_best hb h0 ha hd h, fun h => ef_other hb.1 ha h.2 h.1⟩
/-- Prices may be raised together, and taken over another number. -/
theorem ef_scale {v : List (List Int)} {a : List Int} {p q : Nat → Int} {d e k c : Int} (hk : 0 < k) (hd : d = k * e) (hp : ∀ j, j < v.length → p j = k * q j + c) (ha : IsA a v.length) : EF v a p d ↔ EF v a q e := by
  subst hd
  have hx : ∀ i j, i < v.length → j < v.length → bid v i j * (k * e) - p j = k * (bid v i j * e - q j) - c := fun i j hi hj => by
    rw [hp j hj, Int.mul_sub, Int.mul_left_comm]; omega
  constructor
  · intro h i hi j hj
    have := h i hi j hj
    rw [hx i j hi hj, hx i _ hi (isA_lt ha i hi).2] at this
    exact mul_le_cancel hk (by omega)
  · intro h i hi j hj
    have := Int.mul_le_mul_of_nonneg_left (h i hi j hj) (Int.le_of_lt hk)
    rw [hx i j hi hj, hx i _ hi (isA_lt ha i hi).2]
    omega
/-- The least prices are without envy. -/
theorem ef_least {v : List (List Int)} (h0 : 0 < v.length) : EF v (bestA v) (fun j => leastP (wl v (bestA v)) v.length j) 1 := by
  have hb := bestA_best h0
  rw [ef_pot hb.1]
  intro y z hy hz
  have := leastP_step hb h0 hy hz
  show leastP (wl v (bestA v)) v.length y + wl v (bestA v) y z * 1 ≤ leastP (wl v (bestA v)) v.length z
  rw [Int.mul_one]; exact this
end Go.Proofs.Ytmcncflieoolmaa

/- slices.Values over a list of ints, and slices.AppendSeq and slices.Collect of what it gives: what each call returns; no condition but sizes. -/
namespace Go.Proofs.Ytmcncflieoolmaa
set_option linter.unusedSimpArgs false
open Go.ChangeShapes Go.WideShapes Go.ChangeAt Go.RowKit Go.Deep
set_option linter.unusedVariables false
attribute [local go_sem] Oper.semAt_some

theorem take_iget {zs : List Int} {k : Nat} (h : k < zs.length) : zs.take (k + 1) = zs.take k ++ [iget zs k] := by
  rw [iget_of h, List.take_succ_eq_append_getElem h]

set_option maxRecDepth 100000 in
set_option maxHeartbeats 2000000 in
theorem values1_in (F : Fence) (n : Nat) (h7 : F.fn 74) (hro : F.round = none) (hn : 1 ≤ n) (l Bs n₀ : Nat) (p : Option Addr) (cap : Nat) (zs : List Int) (J Jx : List Int → World → Prop)
    (hY : ∀ pre x W, J pre W → pre.length < zs.length → YieldAt F (n - 1) Try.prog l #[.int .i64 x] W fun e W' =>
      (e = .returned (.bool true) ∧ J (pre ++ [x]) W' ∧ Below n₀ W W') ∨ (e = .returned (.bool false) ∧ Jx (pre ++ [x]) W'))
    (W : World) (hBs : W.cell? ⟨Bs, 0, none⟩ = some (.slice p zs.length cap)) (hI : Ints W p cap zs) (hp : ∀ a, p = some a → 0 < zs.length → a.block < n₀) (h0 : J [] W) :
    CallsIn F n Try.prog 74 #[.func (.yield l) #[] #[], .pointer (some ⟨Bs, 0, none⟩)] W fun e W' => (∃ v, e = .returned v) ∧
      ((∃ ys, ys = zs ∧ J ys W') ∨ (∃ pre, pre <+: zs ∧ Jx pre W')) := by
  refine callsIn_of_wp Try.func74 rfl h7 ?_ hro
  simp only [Try.ntmps74, List.size_toArray, List.length_cons, List.length_nil, Nat.reduceAdd, Nat.reduceSub, Array.replicate_succ, Array.replicate_zero, List.push_toArray, List.append_toArray, List.nil_append, List.cons_append]
  have hlen := hI.length_le
  gi_wp2
  gi_loopw [7] (fun i wr => ∃ k : Nat, k ≤ zs.length ∧ i = .int .i64 k ∧ J (zs.take k) wr ∧ Below n₀ W wr)
    (fun i _ => zs.length - (intOf i).toNat)
  case atStart => exact ⟨0, Nat.zero_le _, rfl, h0, Below.refl _ _⟩
  case round =>
    obtain ⟨k, hk, rfl, hJs, hnx⟩ := hrel
    by_cases hlt : k < zs.length
    · obtain ⟨b, off, rfl, hb, hc⟩ := hI.get hlt
      have hb' : b < n₀ := hp _ rfl (by omega)
      have hcx : wr.cell? ⟨b, off + k, none⟩ = some (.int .i64 (iget zs k)) := (hnx.cell (p := ⟨b, off + k, none⟩) hb').trans hc
      have hlti : (k : Int) < zs.length := by omega
      obtain ⟨fn, tmps, assign, body, hy, hR⟩ := hY _ (iget zs k) wr hJs (by rw [List.length_take]; omega)
      gi_wp2
      refine hR.mono ?_
      rintro e W3 (⟨rfl, hJ3, hk3⟩ | ⟨rfl, hJx3⟩)
      · gi_wp2
        go_roundw
        case rel => exact ⟨k + 1, by omega, by simp, by rw [take_iget hlt]; exact hJ3, hnx.trans hk3⟩
        case measure => simp [intOf]; omega
      · gi_wp2
        refine bodyPost_ret (results_none rfl _ _ _) rfl ?_
        exact ⟨⟨_, rfl⟩, .inr ⟨_, by rw [← take_iget hlt]; exact List.take_prefix _ _, hJx3⟩⟩
    · obtain rfl : k = zs.length := by omega
      gi_wp2
      go_end0
      exact ⟨⟨_, rfl⟩, .inl ⟨_, rfl, by rw [List.take_length] at hJs; exact hJs⟩⟩

set_option maxHeartbeats 1000000 in
theorem values_in (F : Fence) (n : Nat) (h5 : F.fn 63) (hro : F.round = none) (a : Option Addr) (len cap : Nat) (w : World) :
    CallsIn F n Try.prog 63 #[.slice a len cap] w fun e w' => e = .returned (.func (.func 74) #[] #[.pointer (some ⟨w.heap.size, 0, none⟩)]) ∧ w' = w.alloc (.cells #[.slice a len cap] 27) := by
  refine callsIn_of_wp Try.func63 rfl h5 ?_ hro
  simp only [Try.ntmps63, List.size_toArray, List.length_cons, List.length_nil, Nat.reduceAdd, Nat.reduceSub, Array.replicate_succ, Array.replicate_zero, List.push_toArray, List.append_toArray, List.nil_append, List.cons_append]
  gi_wp2
  go_ret
  exact ⟨rfl, rfl⟩

theorem values_stops (F : Fence) (n : Nat) (h7 : F.fn 74) (hro : F.round = none) (hn : 1 ≤ n) (Bs n₀ : Nat) (p : Option Addr) (cap : Nat) (zs : List Int) (w : World) (hBs : Bs < w.heap.size) (hn₀ : w.heap.size = n₀)
    (hc : w.cell? ⟨Bs, 0, none⟩ = some (.slice p zs.length cap)) (hI : Ints w p cap zs) :
    SeqStopsK F n Try.prog 74 #[.pointer (some ⟨Bs, 0, none⟩)] (fun x : Int => #[Value.int .i64 x]) (Below n₀) (fun ys => ys = zs) (fun pre => pre <+: zs) zs.length w := fun l J Jx W hW _ _ hY h0 =>
  values1_in F n h7 hro hn l Bs n₀ p cap zs J Jx hY W ((hW.cell (p := ⟨Bs, 0, none⟩) hBs).trans hc) (hI.below hW (Nat.le_refl _)) (fun a ha h => hn₀ ▸ (hI.plain a ha (by have := hI.le; omega)).2) h0

/-- Between two rounds of AppendSeq: its box holds a row of its own with what has come. -/
def Got (w0 : World) (B : Nat) (pre : List Int) (W : World) : Prop :=
  ∃ p c, W.heap[B]? = some (.cells #[.slice p pre.length c] 27 (0, 0)) ∧ W.ownsRow (B + 1) 3 1 (.slice p pre.length c) pre.length (pre.map (Value.int .i64)) ∧ Below B w0 W

theorem row_cells {W : World} {base e n k : Nat} {v : Value} {xs : List Value} (h : W.ownsRow base e 1 v n xs) (hk : v.ownBlock = some k) : base ≤ k ∧ ∃ o : Obj, W.heap[k]? = some o ∧ o.isCells = true := by
  rcases h.2 with ⟨rfl, _⟩ | ⟨g, cap, cur, rfl, h3, h5, _⟩
  · cases hk
  · cases hk; exact ⟨h3, _, h5, rfl⟩
theorem got_own (w0 : World) (B B' : Nat) (hB : B = w0.heap.size) (hB' : B ≤ B') : OwnFrom B' (Got w0 B) := by
  rintro s W W' row ⟨p, c, h1, h2, h3⟩ hg hr
  have hne : some B ≠ row := fun e => by
    obtain ⟨_, o, ho, hc⟩ := hr B e.symm
    rw [h1] at ho; cases ho; cases hc
  refine ⟨p, c, (hg.block B (Array.getElem?_eq_some_iff.1 h1).1 hne).trans h1, h2.kept hg ?_, h3.grown hg (by rw [hB]; rw [hB] at h3; exact h3.size) (fun k e => by have := (hr k e).1; omega)⟩
  cases hk : (Value.slice p s.length c).ownBlock with
  | none => exact .inl rfl
  | some k =>
    refine .inr fun e => ?_
    obtain ⟨_, o, ho, hc⟩ := hr k e.symm
    obtain ⟨_, o', ho', hc'⟩ := row_cells h2 hk
    rw [ho] at ho'; cases ho'; rw [hc] at hc'; cases hc'
theorem keepsOthers_own {W W' : World} {base e n : Nat} {v : Value} {xs : List Value} (h : W.ownsRow base e 1 v n xs) (hg : W.grownBy W' v.ownBlock) : KeepsOthers W W' :=
  KeepsOthers.of_grownBy hg fun j o e hj => by
    obtain ⟨_, o', ho', hc'⟩ := row_cells h e
    rw [hj] at ho'; cases ho'; exact hc'

theorem box_after {W w3 : World} {B e n : Nat} {v u : Value} {t t' : TypeId} {xs : List Value} {vs : Array Value} (g1 : W.heap[B]? = some (.cells #[v] t (0, 0))) (g2 : W.ownsRow (B + 1) e 1 u n xs)
    (hg3 : (W.alloc (.cells vs t')).grownBy w3 u.ownBlock) :
    w3.heap[B]? = some (.cells #[v] t (0, 0)) ∧ w3.cell? ⟨B, 0, none⟩ = some v ∧ w3.frozen? ⟨B, 0, none⟩ = false := by
  have hB1 : B < W.heap.size := (Array.getElem?_eq_some_iff.1 g1).1
  have hg1' : w3.heap[B]? = some (.cells #[v] t (0, 0)) := by
    refine (hg3.block B (by simp; omega) (fun e => ?_)).trans ((Below.heap_alloc _ _ _ hB1).trans g1)
    have := (row_cells g2 e.symm).1
    omega
  exact ⟨hg1', by simp [World.cell?, hg1'], by simp [World.frozen?, hg1']⟩

/-- A round's store into the box. -/
theorem got_stored {w0 W w3 : World} {B : Nat} {p1 p' : Option Addr} {c1 c' : Nat} {pre : List Int} {x : Int} {vs : Array Value} {t' : TypeId} (hB : B = w0.heap.size)
    (g1 : W.heap[B]? = some (.cells #[.slice p1 pre.length c1] 27 (0, 0))) (g2 : W.ownsRow (B + 1) 3 1 (.slice p1 pre.length c1) pre.length (pre.map (Value.int .i64))) (g3 : Below B w0 W)
    (hg3 : (W.alloc (.cells vs t')).grownBy w3 (Value.slice p1 pre.length c1).ownBlock) (hown : w3.ownsRow (B + 1) 3 1 (.slice p' (pre.length + 1) c') (pre.length + 1) (pre.map (Value.int .i64) ++ [.int .i64 x])) :
    KeepsOthers W (w3.setCell ⟨B, 0, none⟩ (.slice p' (pre.length + 1) c')) ∧ Below B W (w3.setCell ⟨B, 0, none⟩ (.slice p' (pre.length + 1) c')) ∧ Got w0 B (pre ++ [x]) (w3.setCell ⟨B, 0, none⟩ (.slice p' (pre.length + 1) c')) := by
  have hB1 : B < W.heap.size := (Array.getElem?_eq_some_iff.1 g1).1
  obtain ⟨hb, _, _⟩ := box_after g1 g2 hg3
  have hK : KeepsOthers W w3 := (KeepsOthers.alloc W _).trans (keepsOthers_own (g2.alloc _) hg3)
  have hBl : Below B W w3 := ((Below.refl B W).alloc (by omega) _).grown hg3 (by simp; omega) (fun k e => by have := (row_cells g2 e).1; omega)
  have hgs : w3.grownBy (w3.setCell ⟨B, 0, none⟩ (.slice p' (pre.length + 1) c')) (some B) := grownBy_setCell' _ _ _
  have hBs : Below B W (w3.setCell ⟨B, 0, none⟩ (.slice p' (pre.length + 1) c')) := hBl.setCell (p := ⟨B, 0, none⟩) (Nat.le_refl _) _
  refine ⟨hK.trans (KeepsOthers.setCell _ _ _), hBs, p', c', ?_, ?_, g3.trans hBs⟩
  · rw [List.length_append]
    show (w3.heap.modify B _)[B]? = _
    obtain ⟨h1, h2⟩ := Array.getElem?_eq_some_iff.1 hb
    rw [Array.getElem?_eq_getElem (by rw [Array.size_modify]; exact h1), Array.getElem_modify_self, h2]
    rfl
  · rw [List.length_append, List.map_append]
    refine hown.kept hgs ?_
    cases hk : (Value.slice p' (pre.length + 1) c').ownBlock with
    | none => exact .inl rfl
    | some k => exact .inr fun e => by have := (row_cells hown hk).1; cases e; omega

set_option maxRecDepth 100000 in
set_option maxHeartbeats 2000000 in
theorem appendSeq_in (F : Fence) (n : Nat) (h7 : F.fn 74) (h8 : F.fn 76) (hro : F.round = none) (hn : 3 ≤ n) (Bs : Nat) (p : Option Addr) (c : Nat) (zs : List Int) (hz : zs.length ≤ 1000000) (w : World)
    (hBs : Bs < w.heap.size) (hc : w.cell? ⟨Bs, 0, none⟩ = some (.slice p zs.length c)) (hI : Ints w p c zs) :
    CallsIn F n Try.prog 76 #[.slice none 0 0, .func (.func 74) #[] #[.pointer (some ⟨Bs, 0, none⟩)]] w fun e w' => ∃ p' c', e = .returned (.slice p' zs.length c') ∧ Own w' w.heap.size p' c' zs ∧ Below w.heap.size w w' := by
  have h1 : 1 ≤ n := by omega
  obtain ⟨i0, hi, hz0, hz1, hz2⟩ := info_parts infoInt
  refine callsIn_of_wp_marks Try.func76 rfl h8 ?_ hro
  simp only [Try.ntmps76, List.size_toArray, List.length_cons, List.length_nil, Nat.reduceAdd, Nat.reduceSub, Array.replicate_succ, Array.replicate_zero, List.push_toArray, List.append_toArray, List.nil_append, List.cons_append]
  gi_wp2
  obtain ⟨W0, hW0⟩ : ∃ W0, w.alloc (.cells #[.slice none 0 0] 27) = W0 := ⟨_, rfl⟩
  have hs0 : W0.heap.size = w.heap.size + 1 := by rw [← hW0]; simp
  have hv0 : W0.heap[w.heap.size]? = some (.cells #[.slice none 0 0] 27 (0, 0)) := by rw [← hW0]; exact World.alloc_heap_new w _
  have hb0 : Below w.heap.size w W0 := by rw [← hW0]; exact (Below.refl _ w).alloc (Nat.le_refl _) _
  rw [hW0]
  have hgo := got_own w w.heap.size W0.heap.size rfl (by omega)
  refine wpIn_rangeFunc_ownF hro h1 (gf := 74) (lb := #[.pointer (some ⟨Bs, 0, none⟩)]) rfl h7 (enters_of Try.func74 (by kernel_rfl) rfl)
    (values_stops F (n - 1) h7 hro (by omega) Bs w.heap.size p c zs w hBs rfl hc hI) belowK_t (belowK_b (by omega)) hb0 (fun _ => rfl)
    (Got w w.heap.size) (fun _ _ _ => False) hgo (fun _ _ _ _ _ hs _ _ => hs)
    ⟨none, 0, hv0, World.ownsRow_nil _ _ _ _, hb0⟩
    (fun x => { tmps := #[.slice none 0 0, .func (.func 74) #[] #[.pointer (some ⟨Bs, 0, none⟩)], .pointer (some ⟨w.heap.size, 0, none⟩), undef, .slice none 0 0, .int .i64 x, .func (.func 74) #[] #[.pointer (some ⟨Bs, 0, none⟩)], .int .i64 x, undef, undef, undef, undef, undef], defers := [] }) ?assign ?body ?done ?stop
  case assign =>
    intro l x W K hK
    gi_wp2
    exact hK
  case body =>
    rintro l pre x W ⟨p1, c1, g1, g2, g3⟩ hpre
    obtain ⟨hc2, hf2⟩ : W.cell? ⟨w.heap.size, 0, none⟩ = some (.slice p1 pre.length c1) ∧ W.frozen? ⟨w.heap.size, 0, none⟩ = false := by
      simp [World.cell?, World.frozen?, g1]
    have hB1 : w.heap.size < W.heap.size := (Array.getElem?_eq_some_iff.1 g1).1
    have hpl : pre.length + 1 ≤ 1000001 := by omega
    gi_wp2_with (first
      | (gi_at_builtin; refine wpListIn_append_own _ rfl _ _ 27 rfl (w.heap.size + 1) 3 i0 (.int .i64 0) 1 8 Try.underlying27 hi hz0 hz1 hz2 rfl (by decide) _ pre.length _ rfl (g2.alloc _) ⟨W.heap.size, 0, none⟩ 1 1 [.int .i64 x] rfl rfl (cell_one_new _ _ _) (by simp [Value.oneCell']) (by simp [maxLen]; omega) (by omega) (by simp; omega) ?_; intro v' w3 hown' hg3 hnil3; obtain ⟨p', c', rfl⟩ := own_value hown'; obtain ⟨hg1', hc3, hf3⟩ := box_after g1 g2 hg3; go_frame))
    exact got_stored rfl g1 g2 g3 hg3 hown'
  case done =>
    rintro D ys W hD rfl hgot hK
    obtain ⟨p2, c2, e1, e2, e3⟩ := hgo.putObj (.deferred none) hgot hD hK rfl
    obtain ⟨p1, c1, g1, g2, g3⟩ := hgot
    obtain ⟨hc2, hf2⟩ : W.cell? ⟨w.heap.size, 0, none⟩ = some (.slice p1 ys.length c1) ∧ W.frozen? ⟨w.heap.size, 0, none⟩ = false := by
      simp [World.cell?, World.frozen?, g1]
    have he : p1 = p2 ∧ c1 = c2 := by
      have hne : w.heap.size ≠ D := by omega
      rw [World.putObj_heap_other hne, g1] at e1
      simp at e1; exact e1
    obtain ⟨rfl, rfl⟩ := he
    gi_wp2
    refine ⟨by simp, .inl ⟨_, _, rfl, run_takeDeferred hK, ?_⟩⟩
    exact ⟨_, results_tmp rfl _ _ _, p1, c1, rfl, Own.lower ⟨e2, fun j hj => hI.rng j hj⟩ (by omega), e3⟩
  case stop =>
    rintro D c pre W _ _ h _
    exact h.elim

set_option maxHeartbeats 1000000 in
theorem collect_in (F : Fence) (n : Nat) (h6 : F.fn 72) (h7 : F.fn 74) (h8 : F.fn 76) (hro : F.round = none) (hn : 4 ≤ n) (Bs : Nat) (p : Option Addr) (c : Nat) (zs : List Int) (hz : zs.length ≤ 1000000) (w : World)
    (hBs : Bs < w.heap.size) (hc : w.cell? ⟨Bs, 0, none⟩ = some (.slice p zs.length c)) (hI : Ints w p c zs) :
    CallsIn F n Try.prog 72 #[.func (.func 74) #[] #[.pointer (some ⟨Bs, 0, none⟩)]] w fun e w' => ∃ p' c', e = .returned (.slice p' zs.length c') ∧ Own w' w.heap.size p' c' zs ∧ Below w.heap.size w w' := by
  have h1 : 1 ≤ n := by omega
  refine callsIn_of_wp Try.func72 rfl h6 ?_ hro
  simp only [Try.ntmps72, List.size_toArray, List.length_cons, List.length_nil, Nat.reduceAdd, Nat.reduceSub, Array.replicate_succ, Array.replicate_zero, List.push_toArray, List.append_toArray, List.nil_append, List.cons_append]
  gi_wp2_with (gi_at_call 76; refine (appendSeq_in F (n - 1) h7 h8 hro (by omega) Bs p c zs hz _ hBs hc hI).mono ?_; rintro e w' ⟨p', c', rfl, ho, hb⟩)
  go_ret
  exact ⟨p', c', rfl, ho, hb⟩

end Go.Proofs.Ytmcncflieoolmaa
