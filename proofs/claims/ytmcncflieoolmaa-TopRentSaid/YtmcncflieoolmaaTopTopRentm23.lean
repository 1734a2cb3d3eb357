/- The walk of rent.Calm, for every flat. -/
import Derived.Test.YtmcncflieoolmaaTopTopRentm15
import Derived.Test.YtmcncflieoolmaaTopTopRentm18
import Derived.Deep.RegionHeld3
import Derived.Test.YtmcncflieoolmaaTopTopRentm9
import Derived.Deep.DeepCutAuto
import Derived.Test.YtmcncflieoolmaaTopTopRentm4
import Derived.Maps.RangeWalk
import Derived.RangeFuncOwn
import Derived.Test.YtmcncflieoolmaaTopTopRentm2
import Derived.Test.YtmcncflieoolmaaTopTopRentm13
import Derived.Test.YtmcncflieoolmaaTopTopRentm20
import Derived.Test.YtmcncflieoolmaaTopTopRentm22
/- The walk of rent.Calm, for every flat. -/
namespace Go.Proofs.Ytmcncflieoolmaa
set_option linter.unusedVariables false
set_option linter.unusedSimpArgs false
open Go.ChangeShapes Go.WideShapes Go.ChangeAt Go.RowKit Go.Deep

/-- The gains while they are found. -/
noncomputable def calmT (v : List (List Int)) (i k : Nat) : List Int := (List.range v.length).map fun j => if j < k then calmF v j (i + 1) else calmF v j i
theorem calmT_len (v : List (List Int)) (i k : Nat) : (calmT v i k).length = v.length := by simp [calmT]
theorem calmT_get {v : List (List Int)} {i k j : Nat} (hj : j < v.length) : iget (calmT v i k) j = if j < k then calmF v j (i + 1) else calmF v j i := by simp [calmT, iget, hj]
theorem calmT_zero (v : List (List Int)) : calmT v 0 0 = List.replicate v.length 0 := ints_ext' (fun j hj => by
  rw [calmT_len] at hj
  rw [calmT_get hj]; simp [calmF, iget, hj]) (by simp [calmT])
theorem calmT_full (v : List (List Int)) (i : Nat) : calmT v i v.length = calmT v (i + 1) 0 := ints_ext' (fun j hj => by
  rw [calmT_len] at hj
  rw [calmT_get hj, calmT_get hj, if_pos hj, if_neg (Nat.not_lt_zero j)]) (by simp [calmT])
theorem calmT_end (v : List (List Int)) : calmT v v.length 0 = calmG v := ints_ext' (fun j hj => by
  rw [calmT_len] at hj
  rw [calmT_get hj, calmG_get hj, if_neg (Nat.not_lt_zero j)]) (by simp [calmT, calmG])
theorem calmT_succ {v : List (List Int)} {k m : Nat} (hm : m < v.length) : calmT v k (m + 1) = (calmT v k m).set m (min (calmF v m k) (-ldF v (bestA v) k m)) := ints_ext' (fun j hj => by
  rw [calmT_len] at hj
  rw [calmT_get hj, iget_set (by rw [calmT_len]; exact hm), calmT_get hj]
  by_cases e : m = j
  · subst e; rw [if_pos rfl, if_pos (by omega)]; rfl
  · rw [if_neg e]
    by_cases e2 : j < m
    · rw [if_pos e2, if_pos (by omega)]
    · rw [if_neg e2, if_neg (by omega)]) (by simp [calmT])

set_option maxHeartbeats 8000000 in
set_option maxRecDepth 100000 in
theorem rentCalm_any (p : Option Addr) (c : Nat) (v : List (List Int)) (r : Int) (w : World) (hx : Mat w p c v) :
    Calls Try.prog 8 #[.agg #[.slice p v.length c, .int .i64 r]] w (GivesLease w (bestI v r) (leaY v r (calmG v)) (leaZ v r (calmG v)) (chkR v r)) := by
  obtain ⟨W0, hW0⟩ : ∃ W0, (w.alloc (.cells #[.slice p v.length c, .int .i64 r] 24)).alloc (.cells #[.slice none 0 0, .slice none 0 0, .int .i64 0] 29) = W0 := ⟨_, rfl⟩
  have hb0 : Below w.heap.size w W0 := by rw [← hW0]; exact ((Below.refl _ _).alloc (Nat.le_refl _) _).alloc (by simp) _
  have hx1 := hx.below hb0 (Nat.le_refl _)
  have hs0 : W0.heap.size = w.heap.size + 2 := by rw [← hW0]; simp
  have h3 : Three W0 (w.heap.size + 1) := Three.new (by simp) hW0.symm
  have H3 := Lib.hid h3
  clear h3
  have hbx0 : W0.cell? ⟨w.heap.size, 0, none⟩ = some (.slice p v.length c) := by rw [← hW0]; simp
  have hbx1 : W0.cell? ⟨w.heap.size, 1, none⟩ = some (.int .i64 r) := by rw [← hW0]; simp
  have HW0 := Lib.hid hW0
  have Hs0 := Lib.hid hs0
  clear hW0 hs0
  go_enter Try.func8, Try.ntmps8
  go_wp2_with fail
  rw [HW0.out]
  refine (leads_any p c v r _ hx1).mono ?_
  rintro e w1 ⟨qa, da, pl, cl, Ql, Dl, rfl, hAo, hLD, hb1⟩
  have hB1 : Below W0.heap.size W0 w1 := hb1
  have hx2 := hx1.below hb1 (Nat.le_refl _)
  have h31 := H3.out.below hb1 (by have := Hs0.out; omega)
  have c0 := (hB1.cell (p := ⟨w.heap.size, 0, none⟩) (by have := Hs0.out; simp only; omega)).trans hbx0
  have c1 := (hB1.cell (p := ⟨w.heap.size, 1, none⟩) (by have := Hs0.out; simp only; omega)).trans hbx1
  have hszw : w.heap.size + 2 ≤ w1.heap.size := by have := hb1.size; have := Hs0.out; omega
  have HB := Lib.hid (hb0.trans (hb1.mono hb0.size))
  have hI := hAo.ints
  have hM := hLD.mat
  have HAo := Lib.hid hAo
  clear hb1 hB1 hx1 hb0 hbx0 hbx1 hAo hLD H3
  by_cases hF : chkR v r = 0
  · have hcz : (chkR v r != 0) = false := by rw [hF]; rfl
    obtain ⟨hv, hr1, hr2⟩ := chkR_zero.1 hF
    have hal := bestI_len hF
    have hll : (leadsL v r).length = v.length := by unfold leadsL; rw [if_pos hF, ldL_len]
    have e1 : leadsL v r = ldL v (bestA v) := by unfold leadsL; rw [if_pos hF]
    have e2 : bestI v r = bestA v := by unfold bestI; rw [if_pos hF]
    have HX := Lib.hid e2
    have HY : Hid (leaY v r (calmG v) = lowL v.length (leaseL v r (bestA v) (calmG v))) := by unfold Hid leaY; rw [if_pos hF]
    have HZ : Hid (leaZ v r (calmG v) = lowN v.length (leaseL v r (bestA v) (calmG v))) := by unfold Hid leaZ; rw [if_pos hF]
    rw [e1] at hM
    rw [e2] at hI
    rw [hal, hll]
    have Hv := Lib.hid hv
    have Hal := Lib.hid hal
    have HF := Lib.hid hF
    have hA := (bestA_best hv.1).1
    have HA := Lib.hid hA
    have Hsg := Lib.hid (calmG_small hv)
    have h0 := hv.1
    have h6 := hv.2.1
    have H31 := Lib.hid h31
    obtain ⟨B, hBB⟩ : ∃ B, w1.heap.size = B := ⟨_, rfl⟩
    have HBB := Lib.hid hBB
    clear e1 e2 hal hll hF hv hA h31 hBB
    go_wp2_with (at_make; refine wpList_mk rfl (.tmp 23) (.tmp 23) rfl B v.length rfl rfl (by omega) (Nat.le_of_eq HBB.out.symm) ?_; intro w2 hO2 hg2 hs2)
    have hB2 : Below B w1 w2 := (Below.refl _ _).grown hg2 (by have := HBB.out; omega) (fun k e => by cases e)
    rw [HBB.out] at hO2 ⊢
    rw [← calmT_zero v] at hO2
    have HO2 := Lib.hid hO2
    have HB2 := Lib.hid hB2
    clear hO2 hg2 hs2 hB2
    go_loopw [27] (fun i wr => ∃ k : Nat, k ≤ v.length ∧ i = .int .i64 k ∧ Own wr B (some ⟨B, 0, none⟩) v.length (calmT v k 0) ∧ Below B w1 wr) (fun i _ => v.length - (intOf i).toNat)
    case atStart => exact ⟨0, by omega, rfl, HO2.out, HB2.out⟩
    case round =>
      obtain ⟨k, hk, rfl, hO, hBk⟩ := hrel
      by_cases hlt : k < v.length
      · have hk1 : (k : Int) < v.length := by omega
        have hMr := hM.below hBk (Nat.le_of_eq HBB.out)
        obtain ⟨b, o, rfl, _, q1, d1, hc, hi⟩ := hMr.get (j := k) (by rw [ldL_len]; exact hlt)
        have hrl := ldL_row_len (v := v) (a := bestA v) hlt
        rw [hrl] at hc
        have hi1 := hM.at (j := k) (by rw [ldL_len]; exact hlt)
        obtain ⟨q1', d1', hc1, hI1⟩ := hi1
        have hqq : q1 = q1' ∧ d1 = d1' := by
          have h := (hBk.cell (p := ⟨b, o + k, none⟩) (World.block_lt_of_cell? _ _ hc1 |> fun h => by have := HBB.out; simp only at *; omega)).trans hc1
          rw [hrl] at h
          rw [h] at hc
          simp at hc
          exact ⟨hc.1.symm, hc.2.symm⟩
        obtain ⟨rfl, rfl⟩ := hqq
        have HI1 := Lib.hid hI1
        have Hrl := Lib.hid hrl
        have HO := Lib.hid hO
        have HBk := Lib.hid hBk
        clear hrl hi hc1 hI1 hO hBk
        go_wp2_with fail
        go_loopw [33] (fun i wr => ∃ m : Nat, m ≤ v.length ∧ i = .int .i64 m ∧ Own wr B (some ⟨B, 0, none⟩) v.length (calmT v k m) ∧ Below B w1 wr) (fun i _ => v.length - (intOf i).toNat)
        case atStart => exact ⟨0, by omega, rfl, HO.out, HBk.out⟩
        case round =>
          obtain ⟨m, hm, rfl, hO, hBm⟩ := hrel
          by_cases hml : m < v.length
          · have hm1 : (m : Int) < v.length := by omega
            obtain ⟨b1, o1, rfl, _, hc2⟩ := (HI1.out.below hBm (Nat.le_of_eq HBB.out)).get (j := m) (by rw [Hrl.out]; exact hml)
            rw [ldL_get hlt hml] at hc2
            have hcx := hO.at (j := m) (by rw [calmT_len]; exact hml)
            rw [calmT_get hml, if_neg (Nat.lt_irrefl m)] at hcx
            have hfx := hO.free m
            have Hst := Lib.hid (calmT_succ (v := v) (k := k) hml)
            have b1' := calmF_bd Hv.out hml k (Nat.le_of_lt hlt)
            have b2' := ldF_bd Hv.out hlt hml
            have HO := Lib.hid hO
            have HBm := Lib.hid hBm
            generalize calmF v m k = y1 at *
            generalize ldF v (bestA v) k m = y2 at *
            clear hO hBm
            have hin1 : in64 y1 := ⟨by omega, by omega⟩
            have hin2 : in64 (-y2) := ⟨by omega, by omega⟩
            by_cases hgt : ¬ -y2 < y1
            · have Hm : Hid (min y1 (-y2) = y1) := by unfold Hid; omega
              go_wp2_with fail
              go_roundw
              case rel => exact ⟨m + 1, by omega, by go_num, by rw [Hst.out, Hm.out]; exact (HO.out.set m hin1).1, HBm.out.setCell (p := ⟨B, m, none⟩) (Nat.le_refl _) _⟩
              case measure => simp [intOf]; omega
            · have Hm : Hid (min y1 (-y2) = -y2) := by unfold Hid; omega
              have hle : -y2 < y1 := by omega
              go_wp2_with fail
              go_roundw
              case rel => exact ⟨m + 1, by omega, by go_num, by rw [Hst.out, Hm.out]; exact (HO.out.set m hin2).1, HBm.out.setCell (p := ⟨B, m, none⟩) (Nat.le_refl _) _⟩
              case measure => simp [intOf]; omega
          · have hm1 : ¬ (m : Int) < v.length := by omega
            obtain rfl : m = v.length := by omega
            rw [calmT_full] at hO
            go_wp2_with fail
            go_roundw
            case rel => exact ⟨k + 1, by omega, by go_num, hO, hBm⟩
            case measure => simp [intOf]; omega
      · have hk1 : ¬ (k : Int) < v.length := by omega
        obtain rfl : k = v.length := by omega
        obtain ⟨zs, hzg⟩ : ∃ zs, zs = calmT v v.length 0 := ⟨_, rfl⟩
        rw [← hzg] at hO
        rw [calmT_end] at hzg
        have hzl : zs.length = v.length := by rw [hzg, calmG_len]
        have HBk := Lib.hid hBk
        have c0' := (hBk.cell (p := ⟨w.heap.size, 0, none⟩) (by have := HBB.out; simp only; omega)).trans c0
        have c1' := (hBk.cell (p := ⟨w.heap.size, 1, none⟩) (by have := HBB.out; simp only; omega)).trans c1
        have HcL : Hid (∀ W, Below B w1 W → Ints W (some ⟨B, 0, none⟩) v.length zs → Calls Try.prog 23 #[.agg #[.slice p v.length c, .int .i64 r], .slice qa v.length da, .slice (some ⟨B, 0, none⟩) v.length v.length] W fun e w' => ∃ t u, e = .returned (.agg #[.slice qa v.length da, .slice t v.length u, .int .i64 (lowN v.length (leaseL v r (bestA v) (calmG v)))]) ∧ Own w' W.heap.size t u (lowL v.length (leaseL v r (bestA v) (calmG v))) ∧ Below W.heap.size W w') := fun W hW hi => by
          have := HBB.out
          rw [hzg] at hi
          exact lease_any p qa (some ⟨B, 0, none⟩) c da v.length v r (bestA v) (calmG v) W (hx2.below hW (by omega)) (hI.below hW (by omega)) hi Hv.out hr1 hr2 HA.out Hsg.out
        have Hi := Lib.hid hO.ints
        clear hO hM hI c0 c1 hBk hx2 hzg hzl
        go_wp2_with fail
        refine (HcL.out _ HBk.out Hi.out).mono ?_
        rintro e w4 ⟨t, u, rfl, hOt, hb4⟩
        have hb5 := HBk.out.trans (hb4.mono (by have := HBk.out.size; have := HBB.out; omega))
        have h35 := H31.out.below hb5 (by have := HBB.out; omega)
        have H35 := Lib.hid h35
        have HA5 := Lib.hid (HAo.out.below hb5 (Nat.le_of_eq HBB.out))
        have HOt := Lib.hid hOt
        have HB5 := Lib.hid (HB.out.trans (hb5.mono (by have := HBB.out; omega)))
        have hszr : w.heap.size + 2 ≤ wr.heap.size := by have := HBk.out.size; omega
        obtain ⟨⟨x0, t0⟩, ⟨x1, t1⟩, ⟨x2, t2⟩, u0, u1, u2⟩ := h35
        clear hb4 hb5 hOt c0' c1'
        go_wp2_with fail
        clear t0 t1 t2 u0 u1 u2
        obtain ⟨Z, hZ⟩ : ∃ Z, lowN v.length (leaseL v r (bestA v) (calmG v)) = Z := ⟨_, rfl⟩
        rw [hZ] at HZ ⊢
        obtain ⟨k0, k1, k2⟩ := H35.out.set (.slice qa v.length da) (.slice t v.length u) (.int .i64 Z)
        refine bodyPost_ret (v := .tuple #[.agg #[.slice qa v.length da, .slice t v.length u, .int .i64 Z], .int .i64 0]) (by simp [results, Try.results8, go_sem, k0, k1, k2]) rfl ?_
        rw [HX.out, HY.out, HZ.out, HF.out]
        refine ⟨qa, da, t, u, by rw [HA.out.1, lowL_length, leaseL_len], ?_, ?_, ?_⟩
        · rw [← HX.out]
          exact (((HA5.out.setCell_far (j := 0) _ (by have := Hs0.out; omega)).setCell_far (j := 1) _ (by have := Hs0.out; omega)).setCell_far (j := 2) _ (by have := Hs0.out; omega)).ints
        · exact (((HOt.out.setCell_far (j := 0) _ (by omega)).setCell_far (j := 1) _ (by omega)).setCell_far (j := 2) _ (by omega)).ints
        · exact ((HB5.out.setCell (p := ⟨w.heap.size + 1, 0, none⟩) (by simp) _).setCell (p := ⟨w.heap.size + 1, 1, none⟩) (by simp) _).setCell (p := ⟨w.heap.size + 1, 2, none⟩) (by simp) _
  · have hcz : (chkR v r != 0) = true := by rw [bne_iff_ne]; exact hF
    have HX : Hid (bestI v r = []) := by unfold Hid bestI; rw [if_neg hF]
    have HY : Hid (leaY v r (calmG v) = []) := by unfold Hid leaY; rw [if_neg hF]
    have HZ : Hid (leaZ v r (calmG v) = 0) := by unfold Hid leaZ; rw [if_neg hF]
    have H31 := Lib.hid h31
    obtain ⟨⟨x0, t0⟩, ⟨x1, t1⟩, ⟨x2, t2⟩, u0, u1, u2⟩ := h31
    clear hF hM hI hx2
    go_wp2_with fail
    clear t0 t1 t2 u0 u1 u2
    obtain ⟨k0, k1, k2⟩ := H31.out.set (.slice none 0 0) (.slice none 0 0) (.int .i64 0)
    refine bodyPost_ret (v := .tuple #[.agg #[.slice none 0 0, .slice none 0 0, .int .i64 0], .int .i64 (chkR v r)]) (by simp [results, Try.results8, go_sem, k0, k1, k2]) rfl ?_
    rw [HX.out, HY.out, HZ.out]
    exact ⟨none, 0, none, 0, rfl, Ints.ofNil _, Ints.ofNil _, ((HB.out.setCell (p := ⟨w.heap.size + 1, 0, none⟩) (by simp) _).setCell (p := ⟨w.heap.size + 1, 1, none⟩) (by simp) _).setCell (p := ⟨w.heap.size + 1, 2, none⟩) (by simp) _⟩
end Go.Proofs.Ytmcncflieoolmaa

/- The walk of the reference's Envies, for every flat and lease; no condition but the lists' sizes. -/
namespace Go.Proofs.Ytmcncflieoolmaa
set_option linter.unusedVariables false
set_option linter.unusedSimpArgs false
open Go.ChangeShapes Go.WideShapes Go.ChangeAt Go.RowKit Go.Deep

end Go.Proofs.Ytmcncflieoolmaa

/- The walk of the reference's Range, for every flat and room. -/
namespace Go.Proofs.Ytmcncflieoolmaa
set_option linter.unusedVariables false
set_option linter.unusedSimpArgs false
open Go.ChangeShapes Go.WideShapes Go.ChangeAt Go.RowKit Go.Deep

end Go.Proofs.Ytmcncflieoolmaa

/- Lists that a text lays out itself, and the best assignment of given numbers, by looking at all; no condition. -/
namespace Go.Proofs.Ytmcncflieoolmaa
open Go.ChangeShapes Go.WideShapes Go.ChangeAt Go.RowKit Go.Deep
set_option linter.unusedVariables false
set_option linter.unusedSimpArgs false

theorem Ints.lit (w : World) (xs : List Int) (hsz : xs.length ≤ 1000000) (hr : ∀ x ∈ xs, in64 x) :
    Ints (w.alloc (.cells (xs.map (Value.int .i64)).toArray 3)) (some ⟨w.heap.size, 0, none⟩) xs.length xs :=
  (Own.lit w w.heap.size (Nat.le_refl _) xs hsz (fun j hj => hr _ (iget_mem hj))).ints

theorem Mat.lit (w : World) (rows : List (Option Addr × Nat × List Int)) (hsz : rows.length ≤ 1000000) (hr : ∀ r ∈ rows, Ints w r.1 r.2.1 r.2.2) :
    Mat (w.alloc (.cells (rows.map fun r => Value.slice r.1 r.2.2.length r.2.1).toArray 27)) (some ⟨w.heap.size, 0, none⟩) rows.length (rows.map fun r => r.2.2) := by
  have hb : Below w.heap.size w (w.alloc (.cells (rows.map fun r => Value.slice r.1 r.2.2.length r.2.1).toArray 27)) := (Below.refl _ w).alloc (Nat.le_refl _) _
  have hn := World.alloc_heap_new w (.cells (rows.map fun r => Value.slice r.1 r.2.2.length r.2.1).toArray 27)
  refine ⟨by simp, by omega, fun h => (by cases h), ?_, ?_⟩
  · rintro a ⟨⟩ _
    exact ⟨rfl, by simp⟩
  · rintro b o ⟨⟩ j hj
    have hj' : j < rows.length := by simpa using hj
    have hg : rget (rows.map fun r => r.2.2) j = rows[j].2.2 := by rw [rget_of hj]; simp
    refine ⟨rows[j].1, rows[j].2.1, ?_, ?_⟩
    · simp only [World.cell?]
      rw [hn, hg, Nat.zero_add]
      simp [hj']
    · rw [hg]
      exact (hr _ (List.getElem_mem hj')).below hb (Nat.le_refl _)

/-- All lists of m numbers below n. -/
def allD (n : Nat) : Nat → List (List Int)
  | 0 => [[]]
  | m + 1 => (allD n m).flatMap fun l => (List.range n).map fun (j : Nat) => (j : Int) :: l
theorem mem_allD {n : Nat} : ∀ (m : Nat) (l : List Int), l.length = m → (∀ x ∈ l, 0 ≤ x ∧ x < n) → l ∈ allD n m := by
  intro m
  induction m with
  | zero => intro l hl _; obtain rfl := List.eq_nil_of_length_eq_zero hl; simp [allD]
  | succ m ih =>
    intro l hl hd
    cases l with
    | nil => simp at hl
    | cons x t =>
      simp only [allD, List.mem_flatMap, List.mem_map, List.mem_range]
      refine ⟨t, ih t (by simpa using hl) (fun y hy => hd y (List.mem_cons_of_mem _ hy)), x.toNat, ?_, ?_⟩
      · have := hd x (List.mem_cons_self ..); omega
      · have := hd x (List.mem_cons_self ..)
        rw [show ((x.toNat : Nat) : Int) = x from by omega]
def lltB (a b : List Int) : Bool := (List.range a.length).any fun i => ((List.range i).all fun j => iget a j == iget b j) && decide (iget a i < iget b i)
theorem llt_of {a b : List Int} (h : lltB a b = true) : llt a b := by
  unfold lltB at h
  obtain ⟨i, hi, h2⟩ := List.any_eq_true.1 h
  rw [Bool.and_eq_true] at h2
  refine ⟨i, by simpa using hi, fun j hj => ?_, by simpa using h2.2⟩
  have := List.all_eq_true.1 h2.1 j (by simpa using hj)
  simpa using this
/-- Looks at all lists: a is the best assignment. -/
def bestChk (v : List (List Int)) (a : List Int) : Bool :=
  isAB a v.length && (allD v.length v.length).all fun x => !isAB x v.length || decide (worthI v x < worthI v a) || (decide (worthI v x = worthI v a) && (x == a || lltB a x))
theorem isBest_of_chk {v : List (List Int)} {a : List Int} (h : bestChk v a = true) : IsBest v a := by
  unfold bestChk at h
  rw [Bool.and_eq_true] at h
  have hA : IsA a v.length := by simpa [isAB] using h.1
  refine ⟨hA, .inr ⟨hA, fun x hx => ?_⟩⟩
  have hm : x ∈ allD v.length v.length := mem_allD _ _ hx.1 (fun y hy => by
    obtain ⟨j, hj, rfl⟩ := List.getElem_of_mem hy
    have := isA_digits hx j hj
    rwa [iget_of hj] at this)
  have h2 := List.all_eq_true.1 h.2 x hm
  have hxb : isAB x v.length = true := by simp [isAB, hx]
  rw [hxb] at h2
  simp only [Bool.not_true, Bool.false_or, Bool.or_eq_true, Bool.and_eq_true, decide_eq_true_iff, beq_iff_eq] at h2
  rcases h2 with h3 | ⟨h3, h4 | h4⟩
  · exact .inl h3
  · exact .inr ⟨h3, .inl h4⟩
  · exact .inr ⟨h3, .inr (llt_of h4)⟩
end Go.Proofs.Ytmcncflieoolmaa

/- Room's functions at given flats and leases, for examples; links that can be reckoned; no condition but what each says. -/
namespace Go.Proofs.Ytmcncflieoolmaa
set_option linter.unusedVariables false
set_option linter.unusedSimpArgs false
open Go.ChangeShapes Go.WideShapes Go.ChangeAt Go.RowKit Go.Deep

/-- Who has room j. -/
def owC (a : List Int) (j : Nat) : Nat := (firstC (fun i => decide (itm a i = j)) a.length)
where
  firstC (P : Nat → Bool) (n : Nat) : Nat := ((List.range n).find? P).getD 0
theorem owC_of {a : List Int} {n : Nat} (h : IsA a n) {i : Nat} (hi : i < n) : owC a (itm a i) = i := by
  unfold owC owC.firstC
  cases hf : (List.range a.length).find? (fun k => decide (itm a k = itm a i)) with
  | none =>
    have := List.find?_eq_none.1 hf i (List.mem_range.2 (by rw [h.1]; exact hi))
    simp at this
  | some k =>
    have h1 := List.find?_some hf
    have h2 := List.mem_range.1 (List.mem_of_find?_eq_some hf)
    rw [decide_eq_true_iff] at h1
    exact (isA_per h).inj k i (by rw [← h.1]; exact h2) hi h1
def wlC (v : List (List Int)) (a : List Int) (j k : Nat) : Int := bid v (owC a j) k - bid v (owC a j) j
theorem wlC_eq {v : List (List Int)} {a : List Int} (h : IsA a v.length) {j : Nat} (hj : j < v.length) (k : Nat) : wl v a j k = wlC v a j k := by
  obtain ⟨i, hi, rfl⟩ := (isA_per h).surj hj
  rw [wl_of h hi]
  unfold wlC
  rw [owC_of h hi]
def linkC (v : List (List Int)) (a : List Int) : List (List Int) := fwB v.length ((List.range v.length).map fun j => (List.range v.length).map fun k => wlC v a j k) v.length
theorem linkC_eq {v : List (List Int)} {a : List Int} (hb : IsBest v a) (h0 : 0 < v.length) : linkL v a = linkC v a := by
  rw [← fw_links hb h0]
  unfold linkC link0
  congr 1
  refine List.map_congr_left fun j hj => List.map_congr_left fun k _ => wlC_eq hb.1 (List.mem_range.1 hj) k
/-- What can be reckoned of the even lease and the ranges, the best assignment being known. -/
def rawC (v : List (List Int)) (a : List Int) (r : Int) : List Int := (List.range v.length).map fun j => iget (bfR v a v.length) j * v.length + (r - sumTo (iget (bfR v a v.length)) v.length)
theorem rawC_eq {v : List (List Int)} {a : List Int} (hb : IsBest v a) (h0 : 0 < v.length) (r : Int) : rawP v r = rawC v a r := by
  unfold rawP restI rawC
  rw [bestA_eq hb, bfR_least hb h0]
theorem even_e {v : List (List Int)} {a ps : List Int} {r z : Int} (hb : IsBest v a) (h0 : 0 < v.length) (hc : chkR v r = 0) (h1 : lowL v.length (rawC v a r) = ps) (h2 : lowN v.length (rawC v a r) = z) : evenX v r = a ∧ evenY v r = ps ∧ evenZ v r = z := by
  unfold evenX evenY evenZ
  rw [if_pos hc, if_pos hc, if_pos hc, bestA_eq hb, rawC_eq hb h0, h1, h2]
  exact ⟨rfl, rfl, rfl⟩
theorem links_e {v D : List (List Int)} {a : List Int} {r : Int} (hb : IsBest v a) (h0 : 0 < v.length) (hc : chkR v r = 0) (h1 : linkC v a = D) : linksL v r = D := by
  unfold linksL
  rw [if_pos hc, bestA_eq hb, linkC_eq hb h0, h1]
theorem range_e {v : List (List Int)} {a : List Int} {r : Int} {j : Nat} (hb : IsBest v a) (h0 : 0 < v.length) (hc : chkR v r = 0) (hj : j < v.length) {x y p q : Int}
    (h1 : rN (r + sumTo (fun i => bid (linkC v a) i j) v.length) v.length = x) (h2 : rD (r + sumTo (fun i => bid (linkC v a) i j) v.length) v.length = y)
    (h3 : rN (r - sumTo (fun i => bid (linkC v a) j i) v.length) v.length = p) (h4 : rD (r - sumTo (fun i => bid (linkC v a) j i) v.length) v.length = q) :
    rngLo v r j = .agg #[.int .i64 x, .int .i64 y] ∧ rngHi v r j = .agg #[.int .i64 p, .int .i64 q] ∧ rngE v r j = 0 := by
  obtain ⟨e1, e2, e3⟩ := rng_in (v := v) (r := r) hc hj
  rw [e1, e2, e3]
  unfold ratV lowI highI
  rw [bestA_eq hb, linkC_eq hb h0, h1, h2, h3, h4]
  exact ⟨rfl, rfl, rfl⟩

theorem roomCheck_e {p : Option Addr} {c n : Nat} {v : List (List Int)} {r e : Int} {w : World} (h : chkR v r = e) (hx : Mat w p c v) (hv : v.length = n := by rfl) :
    Calls Try.prog 18 #[.agg #[.slice p n c, .int .i64 r]] w fun e' w' => e' = .returned (.int .i64 e) ∧ Below w.heap.size w w' := by
  subst hv h; exact roomCheck_any p c v r w hx
theorem roomEven_e {p : Option Addr} {c n na np : Nat} {v : List (List Int)} {r z e : Int} {a ps : List Int} {w : World} (h : evenX v r = a ∧ evenY v r = ps ∧ evenZ v r = z) (he : chkR v r = e) (hx : Mat w p c v) (hv : v.length = n := by rfl) (h1 : a.length = na := by rfl) (h2 : ps.length = np := by rfl) :
    Calls Try.prog 6 #[.agg #[.slice p n c, .int .i64 r]] w fun e' w' => ∃ q d s f, e' = .returned (.tuple #[.agg #[.slice q na d, .slice s np f, .int .i64 z], .int .i64 e]) ∧ Ints w' q d a ∧ Ints w' s f ps ∧ Below w.heap.size w w' := by
  obtain ⟨rfl, rfl, rfl⟩ := h
  subst hv h1 h2 he
  exact roomEven_any p c v r w hx
theorem roomLinks_e {p : Option Addr} {c n m : Nat} {v D : List (List Int)} {r e : Int} {w : World} (h : linksL v r = D) (he : chkR v r = e) (hx : Mat w p c v) (hv : v.length = n := by rfl) (h1 : D.length = m := by rfl) :
    Calls Try.prog 39 #[.agg #[.slice p n c, .int .i64 r]] w fun e' w' => ∃ q d, e' = .returned (.tuple #[.slice q m d, .int .i64 e]) ∧ Mat w' q d D ∧ Below w.heap.size w w' := by
  subst hv h he h1
  refine (roomLinks_any p c v r w hx).mono ?_
  rintro e w' ⟨q, d, Q, D, h1, h2, h3⟩
  exact ⟨q, d, h1, h2.mat, h3⟩
theorem roomRange_e {p : Option Addr} {c n : Nat} {v : List (List Int)} {r j e : Int} {x y p' q' : Int} {w : World} (h : rngLo v r j = .agg #[.int .i64 x, .int .i64 y] ∧ rngHi v r j = .agg #[.int .i64 p', .int .i64 q'] ∧ rngE v r j = e) (hx : Mat w p c v) (hv : v.length = n := by rfl) (hj : in64B j = true := by decide) :
    Calls Try.prog 13 #[.agg #[.slice p n c, .int .i64 r], .int .i64 j] w fun e' w' => e' = .returned (.tuple #[.agg #[.int .i64 x, .int .i64 y], .agg #[.int .i64 p', .int .i64 q'], .int .i64 e]) ∧ Below w.heap.size w w' := by
  subst hv
  have hj2 : in64 j := by simp [in64B] at hj; exact hj
  refine (roomRange_any p c v r j w hx hj2).mono ?_
  rintro e w' ⟨h1, h2⟩
  rw [h.1, h.2.1, h.2.2] at h1
  exact ⟨h1, h2⟩
theorem roomValid_e {p q s : Option Addr} {c d f n m k : Nat} {v : List (List Int)} {r z e : Int} {al ps : List Int} {w : World} (h : vldR v r al ps z = e) (hx : Mat w p c v) (hy : Ints w q d al) (hz : Ints w s f ps) (hv : v.length = n := by rfl) (h1 : al.length = m := by rfl) (h2 : ps.length = k := by rfl) (hl : m ≤ 1000000 := by decide) :
    Calls Try.prog 52 #[.agg #[.slice p n c, .int .i64 r], .agg #[.slice q m d, .slice s k f, .int .i64 z]] w fun e' w' => e' = .returned (.int .i64 e) ∧ Below w.heap.size w w' := by
  subst hv h1 h2 h
  exact roomValid_any p q s c d f v r al ps z w hx hy hz hl
theorem roomGains_e {p q s : Option Addr} {c d f n m k ng : Nat} {v : List (List Int)} {r z e : Int} {al ps gs : List Int} {w : World} (h : vldR v r al ps z = e) (hg : gnsL v r al ps z = gs) (hx : Mat w p c v) (hy : Ints w q d al) (hz : Ints w s f ps) (hv : v.length = n := by rfl) (h1 : al.length = m := by rfl) (h2 : ps.length = k := by rfl) (hl : m ≤ 1000000 := by decide) (h3 : gs.length = ng := by rfl) :
    Calls Try.prog 33 #[.agg #[.slice p n c, .int .i64 r], .agg #[.slice q m d, .slice s k f, .int .i64 z]] w fun e' w' => ∃ q' d', e' = .returned (.tuple #[.slice q' ng d', .int .i64 e]) ∧ Ints w' q' d' gs ∧ Below w.heap.size w w' := by
  subst hv h1 h2 h hg h3
  refine (roomGains_any p q s c d f v r al ps z w hx hy hz hl).mono ?_
  rintro e w' ⟨q', d', h1, h2, h3⟩
  exact ⟨q', d', h1, h2.ints, h3⟩
theorem roomEnvies_e {p q s : Option Addr} {c d f n m k ng : Nat} {v : List (List Int)} {r z e : Int} {al ps : List Int} {gs : List (Nat × Nat)} {w : World} (h : vldR v r al ps z = e) (hg : envsL v r al ps z = gs) (hx : Mat w p c v) (hy : Ints w q d al) (hz : Ints w s f ps) (hv : v.length = n := by rfl) (h1 : al.length = m := by rfl) (h2 : ps.length = k := by rfl) (hl : m ≤ 1000000 := by decide) (h3 : gs.length = ng := by rfl) :
    Calls Try.prog 25 #[.agg #[.slice p n c, .int .i64 r], .agg #[.slice q m d, .slice s k f, .int .i64 z]] w fun e' w' => ∃ q' d', e' = .returned (.tuple #[.slice q' ng d', .int .i64 e]) ∧ OwnP w' w.heap.size q' d' gs ∧ Below w.heap.size w w' := by
  subst hv h1 h2 h hg h3
  exact roomEnvies_any p q s c d f v r al ps z w hx hy hz hl

/-- A literal row of pairs. -/
theorem ownP_lit (w : World) (xs : List (Nat × Nat)) (hsz : xs.length ≤ 1000000) :
    OwnP (w.alloc (.cells (cellsP xs).toArray 84)) w.heap.size (some ⟨w.heap.size, 0, none⟩) xs.length xs := by
  have hl : (cellsP xs).length = xs.length * 2 := by
    clear hsz
    induction xs with
    | nil => rfl
    | cons x xs ih => simp only [cellsP, List.flatMap_cons, List.length_append, List.length_cons, List.length_nil] at ih ⊢; omega
  refine ⟨?_⟩
  have := World.ownsRow_lit (e := 84) (size := 2) (base := w.heap.size) w (cellsP xs).toArray xs.length (Nat.le_refl _) (by simp [maxLen]; omega) (by simp [hl])
  simpa using this
/-- The chapter's flat. -/
def GV14 : List (List Int) := [[5, 3], [4, 1]]
theorem gv14_best : IsBest GV14 [1, 0] := isBest_of_chk (by decide +kernel)
theorem gv14_chk : chkR GV14 5 = 0 := by decide +kernel
theorem gv14_even : evenX GV14 5 = [1, 0] ∧ evenY GV14 5 = [7, 3] ∧ evenZ GV14 5 = 2 := even_e gv14_best (by decide) gv14_chk (by decide +kernel) (by decide +kernel)
theorem gv14_links : linksL GV14 5 = [[0, -3], [2, 0]] := links_e gv14_best (by decide) gv14_chk (by decide +kernel)
theorem gv14_range : rngLo GV14 5 (0 : Nat) = .agg #[.int .i64 7, .int .i64 2] ∧ rngHi GV14 5 (0 : Nat) = .agg #[.int .i64 4, .int .i64 1] ∧ rngE GV14 5 (0 : Nat) = 0 :=
  range_e gv14_best (by decide) gv14_chk (by decide) (by decide +kernel) (by decide +kernel) (by decide +kernel) (by decide +kernel)
end Go.Proofs.Ytmcncflieoolmaa

/- Rent's functions at given flats and leases, for examples; no condition but what each says. -/
namespace Go.Proofs.Ytmcncflieoolmaa
set_option linter.unusedVariables false
set_option linter.unusedSimpArgs false
open Go.ChangeShapes Go.WideShapes Go.ChangeAt Go.RowKit Go.Deep

def ldC (v : List (List Int)) (a : List Int) (i k : Nat) : Int := bid v i (itm a i) - bid v k (itm a k) + bid (linkC v a) (itm a i) (itm a k)
theorem ldC_eq {v : List (List Int)} {a : List Int} (hb : IsBest v a) (h0 : 0 < v.length) (i k : Nat) : ldF v (bestA v) i k = ldC v a i k := by
  unfold ldF ldC
  rw [bestA_eq hb, linkC_eq hb h0]
def fairC (v : List (List Int)) (a : List Int) : List Int := (List.range v.length).map fun i => highTo ((List.range v.length).map fun k => ldC v a i k) v.length
theorem fairC_eq {v : List (List Int)} {a : List Int} (hb : IsBest v a) (h0 : 0 < v.length) : fairG v = fairC v a := by
  unfold fairG fairC
  refine List.map_congr_left fun i hi => ?_
  rw [ldL_row (List.mem_range.1 hi)]
  congr 1
  exact List.map_congr_left fun k _ => ldC_eq hb h0 i k
def calmFC (v : List (List Int)) (a : List Int) (k : Nat) : Nat → Int
  | 0 => 0
  | i + 1 => min (calmFC v a k i) (-ldC v a i k)
theorem calmFC_eq {v : List (List Int)} {a : List Int} (hb : IsBest v a) (h0 : 0 < v.length) (k : Nat) : ∀ i, calmF v k i = calmFC v a k i
  | 0 => rfl
  | i + 1 => by simp only [calmF, calmFC]; rw [calmFC_eq hb h0 k i, ldC_eq hb h0]
def calmC (v : List (List Int)) (a : List Int) : List Int := (List.range v.length).map fun k => calmFC v a k v.length
theorem calmC_eq {v : List (List Int)} {a : List Int} (hb : IsBest v a) (h0 : 0 < v.length) : calmG v = calmC v a := by
  unfold calmG calmC
  exact List.map_congr_left fun k _ => calmFC_eq hb h0 k _
def leaseC (v : List (List Int)) (r : Int) (a g : List Int) : List Int := (List.range v.length).map fun j => prI v r a g (owC a j)
theorem leaseC_eq {v : List (List Int)} {a : List Int} (hA : IsA a v.length) (r : Int) (g : List Int) : leaseL v r a g = leaseC v r a g := by
  unfold leaseL leaseC
  refine List.map_congr_left fun j hj => ?_
  obtain ⟨i, hi, rfl⟩ := (isA_per hA).surj (List.mem_range.1 hj)
  rw [inv_itm hA hi, owC_of hA hi]
theorem lea_e {v : List (List Int)} {a g ps : List Int} {r z : Int} (hb : IsBest v a) (hc : chkR v r = 0) (h1 : lowL v.length (leaseC v r a g) = ps) (h2 : lowN v.length (leaseC v r a g) = z) : bestI v r = a ∧ leaY v r g = ps ∧ leaZ v r g = z := by
  unfold bestI leaY leaZ
  rw [if_pos hc, if_pos hc, if_pos hc, bestA_eq hb, leaseC_eq hb.1, h1, h2]
  exact ⟨rfl, rfl, rfl⟩
theorem fair_e {v : List (List Int)} {a g ps : List Int} {r z : Int} (hb : IsBest v a) (h0 : 0 < v.length) (hc : chkR v r = 0) (hg : fairC v a = g) (h1 : lowL v.length (leaseC v r a g) = ps) (h2 : lowN v.length (leaseC v r a g) = z) : bestI v r = a ∧ leaY v r (fairG v) = ps ∧ leaZ v r (fairG v) = z := by
  rw [fairC_eq hb h0, hg]; exact lea_e hb hc h1 h2
theorem calm_e {v : List (List Int)} {a g ps : List Int} {r z : Int} (hb : IsBest v a) (h0 : 0 < v.length) (hc : chkR v r = 0) (hg : calmC v a = g) (h1 : lowL v.length (leaseC v r a g) = ps) (h2 : lowN v.length (leaseC v r a g) = z) : bestI v r = a ∧ leaY v r (calmG v) = ps ∧ leaZ v r (calmG v) = z := by
  rw [calmC_eq hb h0, hg]; exact lea_e hb hc h1 h2
theorem worst_e {v : List (List Int)} {al ps : List Int} {r : Int} {z : Nat} {x y p q : Int} (h : vldR v r al ps z = 0) (h1 : rN (lowTo (gainL v al ps z) v.length) z = x) (h2 : rD (lowTo (gainL v al ps z) v.length) z = y) (h3 : rN (highTo (gainL v al ps z) v.length) z = p) (h4 : rD (highTo (gainL v al ps z) v.length) z = q) :
    wLo v r al ps z = .agg #[.int .i64 x, .int .i64 y] ∧ wHi v r al ps z = .agg #[.int .i64 p, .int .i64 q] ∧ vldR v r al ps z = 0 := by
  unfold wLo wHi
  rw [if_pos h, if_pos h]
  unfold ratV
  simp only [Int.toNat_natCast]
  rw [h1, h2, h3, h4]
  exact ⟨rfl, rfl, h⟩
theorem worst_off {v : List (List Int)} {al ps : List Int} {r z : Int} {e : Int} (h : vldR v r al ps z = e) (he : e ≠ 0) :
    wLo v r al ps z = .agg #[.int .i64 0, .int .i64 0] ∧ wHi v r al ps z = .agg #[.int .i64 0, .int .i64 0] ∧ vldR v r al ps z = e := by
  have : vldR v r al ps z ≠ 0 := by rw [h]; exact he
  unfold wLo wHi
  rw [if_neg this, if_neg this]
  exact ⟨rfl, rfl, h⟩
theorem stake_e {v : List (List Int)} {a : List Int} {r : Int} {k : Nat} (hb : IsBest v a) (h0 : 0 < v.length) (hc : chkR v r = 0) (hk : k < v.length) {x y p q : Int}
    (h1 : rN (bid v k (itm a k) * v.length - (r - sumTo (fun i => bid (linkC v a) (itm a k) i) v.length)) v.length = x) (h2 : rD (bid v k (itm a k) * v.length - (r - sumTo (fun i => bid (linkC v a) (itm a k) i) v.length)) v.length = y)
    (h3 : rN (bid v k (itm a k) * v.length - (r + sumTo (fun i => bid (linkC v a) i (itm a k)) v.length)) v.length = p) (h4 : rD (bid v k (itm a k) * v.length - (r + sumTo (fun i => bid (linkC v a) i (itm a k)) v.length)) v.length = q) :
    skLo v r k = .agg #[.int .i64 x, .int .i64 y] ∧ skHi v r k = .agg #[.int .i64 p, .int .i64 q] ∧ skE v r k = 0 := by
  obtain ⟨e1, e2, e3⟩ := sk_in (v := v) (r := r) hc hk
  rw [e1, e2, e3]
  unfold ratV stLo stHi lowI highI
  rw [bestA_eq hb, linkC_eq hb h0, h1, h2, h3, h4]
  exact ⟨rfl, rfl, rfl⟩
theorem rentFair_e {p : Option Addr} {c n na np : Nat} {v : List (List Int)} {r z e : Int} {a ps : List Int} {w : World} (h : bestI v r = a ∧ leaY v r (fairG v) = ps ∧ leaZ v r (fairG v) = z) (he : chkR v r = e) (hx : Mat w p c v) (hv : v.length = n := by rfl) (h1 : a.length = na := by rfl) (h2 : ps.length = np := by rfl) :
    Calls Try.prog 7 #[.agg #[.slice p n c, .int .i64 r]] w fun e' w' => ∃ q d s f, e' = .returned (.tuple #[.agg #[.slice q na d, .slice s np f, .int .i64 z], .int .i64 e]) ∧ Ints w' q d a ∧ Ints w' s f ps ∧ Below w.heap.size w w' := by
  obtain ⟨rfl, rfl, rfl⟩ := h
  subst hv h1 h2 he
  exact rentFair_any p c v r w hx
theorem rentCalm_e {p : Option Addr} {c n na np : Nat} {v : List (List Int)} {r z e : Int} {a ps : List Int} {w : World} (h : bestI v r = a ∧ leaY v r (calmG v) = ps ∧ leaZ v r (calmG v) = z) (he : chkR v r = e) (hx : Mat w p c v) (hv : v.length = n := by rfl) (h1 : a.length = na := by rfl) (h2 : ps.length = np := by rfl) :
    Calls Try.prog 8 #[.agg #[.slice p n c, .int .i64 r]] w fun e' w' => ∃ q d s f, e' = .returned (.tuple #[.agg #[.slice q na d, .slice s np f, .int .i64 z], .int .i64 e]) ∧ Ints w' q d a ∧ Ints w' s f ps ∧ Below w.heap.size w w' := by
  obtain ⟨rfl, rfl, rfl⟩ := h
  subst hv h1 h2 he
  exact rentCalm_any p c v r w hx
theorem rentWorst_e {p q s : Option Addr} {c d f n m k : Nat} {v : List (List Int)} {r z e : Int} {al ps : List Int} {x y x' y' : Int} {w : World} (h : wLo v r al ps z = .agg #[.int .i64 x, .int .i64 y] ∧ wHi v r al ps z = .agg #[.int .i64 x', .int .i64 y'] ∧ vldR v r al ps z = e) (hx : Mat w p c v) (hy : Ints w q d al) (hz : Ints w s f ps) (hv : v.length = n := by rfl) (h1 : al.length = m := by rfl) (h2 : ps.length = k := by rfl) (hl : al.length ≤ 1000000 := by decide) :
    Calls Try.prog 10 #[.agg #[.slice p n c, .int .i64 r], .agg #[.slice q m d, .slice s k f, .int .i64 z]] w fun e' w' => e' = .returned (.tuple #[.agg #[.int .i64 x, .int .i64 y], .agg #[.int .i64 x', .int .i64 y'], .int .i64 e]) ∧ Below w.heap.size w w' := by
  subst hv h1 h2
  refine (rentWorst_any p q s c d f v r al ps z w hx hy hz hl).mono ?_
  rintro e w' ⟨h1, h2⟩
  rw [h.1, h.2.1, h.2.2] at h1
  exact ⟨h1, h2⟩
theorem rentStake_e {p : Option Addr} {c n : Nat} {v : List (List Int)} {r g e : Int} {x y p' q' : Int} {w : World} (h : skLo v r g = .agg #[.int .i64 x, .int .i64 y] ∧ skHi v r g = .agg #[.int .i64 p', .int .i64 q'] ∧ skE v r g = e) (hx : Mat w p c v) (hv : v.length = n := by rfl) (hg : in64B g = true := by decide) :
    Calls Try.prog 28 #[.agg #[.slice p n c, .int .i64 r], .int .i64 g] w fun e' w' => e' = .returned (.tuple #[.agg #[.int .i64 x, .int .i64 y], .agg #[.int .i64 p', .int .i64 q'], .int .i64 e]) ∧ Below w.heap.size w w' := by
  subst hv
  have hg2 : in64 g := by simp [in64B] at hg; exact hg
  refine (rentStake_any p c v r g w hx hg2).mono ?_
  rintro e w' ⟨h1, h2⟩
  rw [h.1, h.2.1, h.2.2] at h1
  exact ⟨h1, h2⟩
/-- The chapter's flats. -/
def GV15 : List (List Int) := [[5, 3], [4, 1]]
theorem gv15_best : IsBest GV15 [1, 0] := isBest_of_chk (by decide +kernel)
theorem gv15_chk : chkR GV15 5 = 0 := by decide +kernel
theorem gv15_fair : bestI GV15 5 = [1, 0] ∧ leaY GV15 5 (fairG GV15) = [7, 3] ∧ leaZ GV15 5 (fairG GV15) = 2 := fair_e gv15_best (by decide) gv15_chk (by rfl) (by decide +kernel) (by decide +kernel)
theorem gv15_stake : skLo GV15 5 (0 : Nat) = .agg #[.int .i64 3, .int .i64 2] ∧ skHi GV15 5 (0 : Nat) = .agg #[.int .i64 2, .int .i64 1] ∧ skE GV15 5 (0 : Nat) = 0 :=
  stake_e gv15_best (by decide) gv15_chk (by decide) (by decide +kernel) (by decide +kernel) (by decide +kernel) (by decide +kernel)
def LV15 : List (List Int) := [[8, 4], [6, 6]]
theorem lv15_best : IsBest LV15 [0, 1] := isBest_of_chk (by decide +kernel)
theorem lv15_chk : chkR LV15 9 = 0 := by decide +kernel
theorem lv15_fair : bestI LV15 9 = [0, 1] ∧ leaY LV15 9 (fairG LV15) = [11, 7] ∧ leaZ LV15 9 (fairG LV15) = 2 := fair_e lv15_best (by decide) lv15_chk (by rfl) (by decide +kernel) (by decide +kernel)
theorem lv15_calm : bestI LV15 9 = [0, 1] ∧ leaY LV15 9 (calmG LV15) = [11, 7] ∧ leaZ LV15 9 (calmG LV15) = 2 := calm_e lv15_best (by decide) lv15_chk (by rfl) (by decide +kernel) (by decide +kernel)
theorem lv15_worst : wLo LV15 9 [0, 1] [11, 7] (2 : Nat) = .agg #[.int .i64 5, .int .i64 2] ∧ wHi LV15 9 [0, 1] [11, 7] (2 : Nat) = .agg #[.int .i64 5, .int .i64 2] ∧ vldR LV15 9 [0, 1] [11, 7] (2 : Nat) = 0 :=
  worst_e (by decide +kernel) (by decide +kernel) (by decide +kernel) (by decide +kernel) (by decide +kernel)
end Go.Proofs.Ytmcncflieoolmaa

/- The walks of the reference's Free and of the laws' fit; no condition but the lists' sizes. -/
namespace Go.Proofs.Ytmcncflieoolmaa
set_option linter.unusedVariables false
set_option linter.unusedSimpArgs false
open Go.ChangeShapes Go.WideShapes Go.ChangeAt Go.RowKit Go.Deep

end Go.Proofs.Ytmcncflieoolmaa
