/- The walk of rent.Calm, for every flat. -/
import Derived.Test.YtllcbcanohdepaaTopRentNamesm14
import Derived.Test.YtllcbcanohdepaaTopRentNamesm15
import Derived.Test.YtllcbcanohdepaaTopRentNamesm4
import Derived.Deep.AppendLies
import Derived.Laws.StructEq
/- The walk of rent.Calm, for every flat. -/
namespace Go.Proofs.Ytllcbcanohdepaa
set_option linter.unusedVariables false
set_option linter.unusedSimpArgs false
open Go.ChangeShapes Go.WideShapes Go.ChangeAt Go.RowKit Go.Deep

/-- The gains while they are found. -/
noncomputable def calmT (v : List (List Int)) (i k : Nat) : List Int := (List.range v.length).map fun j => if j < k then calmF v j (i + 1) else calmF v j i
theorem calmT_len (v : List (List Int)) (i k : Nat) : (calmT v i k).length = v.length := by simp [calmT]
theorem calmT_get {v : List (List Int)} {i k j : Nat} (hj : j < v.length) : iget (calmT v i k) j = if j < k then calmF v j (i + 1) else calmF v j i := by simp [calmT, iget, hj]
theorem calmT_zero (v : List (List Int)) : calmT v 0 0 = List.replicate v.length 0 := ints_ext' (fun j hj => by
  rw [calmT_len] at hj
  rw [calmT_get hj]; simp [calmF, iget, hj]) (by simp [calmT])
theorem calmT_full (v : List (List Int)) (i : Nat) : calmT v i v.length = calmT v (i + 1) 0 := ints_ext' (fun j hj => by
  rw [calmT_len] at hj
  rw [calmT_get hj, calmT_get hj, if_pos hj, if_neg (Nat.not_lt_zero j)]) (by simp [calmT])
theorem calmT_end (v : List (List Int)) : calmT v v.length 0 = calmG v := ints_ext' (fun j hj => by
  rw [calmT_len] at hj
  rw [calmT_get hj, calmG_get hj, if_neg (Nat.not_lt_zero j)]) (by simp [calmT, calmG])
theorem calmT_succ {v : List (List Int)} {k m : Nat} (hm : m < v.length) : calmT v k (m + 1) = (calmT v k m).set m (min (calmF v m k) (-ldF v (bestA v) k m)) := ints_ext' (fun j hj => by
  rw [calmT_len] at hj
  rw [calmT_get hj, iget_set (by rw [calmT_len]; exact hm), calmT_get hj]
  by_cases e : m = j
  · subst e; rw [if_pos rfl, if_pos (by omega)]; rfl
  · rw [if_neg e]
    by_cases e2 : j < m
    · rw [if_pos e2, if_pos (by omega)]
    · rw [if_neg e2, if_neg (by omega)]) (by simp [calmT])

set_option maxHeartbeats 8000000 in
set_option maxRecDepth 100000 in
theorem rentCalm_any (p : Option Addr) (c : Nat) (v : List (List Int)) (r : Int) (w : World) (hx : Mat w p c v) :
    Calls Try.prog 9 #[.agg #[.slice p v.length c, .int .i64 r]] w (GivesLease w (bestI v r) (leaY v r (calmG v)) (leaZ v r (calmG v)) (chkR v r)) := by
  obtain ⟨W0, hW0⟩ : ∃ W0, (w.alloc (.cells #[.slice p v.length c, .int .i64 r] 24)).alloc (.cells #[.slice none 0 0, .slice none 0 0, .int .i64 0] 27) = W0 := ⟨_, rfl⟩
  have hb0 : Below w.heap.size w W0 := by rw [← hW0]; exact ((Below.refl _ _).alloc (Nat.le_refl _) _).alloc (by simp) _
  have hx1 := hx.below hb0 (Nat.le_refl _)
  have hs0 : W0.heap.size = w.heap.size + 2 := by rw [← hW0]; simp
  have h3 : Three W0 (w.heap.size + 1) := Three.new (by simp) hW0.symm
  have H3 := Lib.hid h3
  clear h3
  have hbx0 : W0.cell? ⟨w.heap.size, 0, none⟩ = some (.slice p v.length c) := by rw [← hW0]; simp
  have hbx1 : W0.cell? ⟨w.heap.size, 1, none⟩ = some (.int .i64 r) := by rw [← hW0]; simp
  have HW0 := Lib.hid hW0
  have Hs0 := Lib.hid hs0
  clear hW0 hs0
  go_enter Try.func9, Try.ntmps9
  go_wp2_with fail
  rw [HW0.out]
  refine (leads_any p c v r _ hx1).mono ?_
  rintro e w1 ⟨qa, da, pl, cl, Ql, Dl, rfl, hAo, hLD, hb1⟩
  have hB1 : Below W0.heap.size W0 w1 := hb1
  have hx2 := hx1.below hb1 (Nat.le_refl _)
  have h31 := H3.out.below hb1 (by have := Hs0.out; omega)
  have c0 := (hB1.cell (p := ⟨w.heap.size, 0, none⟩) (by have := Hs0.out; simp only; omega)).trans hbx0
  have c1 := (hB1.cell (p := ⟨w.heap.size, 1, none⟩) (by have := Hs0.out; simp only; omega)).trans hbx1
  have hszw : w.heap.size + 2 ≤ w1.heap.size := by have := hb1.size; have := Hs0.out; omega
  have HB := Lib.hid (hb0.trans (hb1.mono hb0.size))
  have hI := hAo.ints
  have hM := hLD.mat
  have HAo := Lib.hid hAo
  clear hb1 hB1 hx1 hb0 hbx0 hbx1 hAo hLD H3
  by_cases hF : chkR v r = 0
  · have hcz : (chkR v r != 0) = false := by rw [hF]; rfl
    obtain ⟨hv, hr1, hr2⟩ := chkR_zero.1 hF
    have hal := bestI_len hF
    have hll : (leadsL v r).length = v.length := by unfold leadsL; rw [if_pos hF, ldL_len]
    have e1 : leadsL v r = ldL v (bestA v) := by unfold leadsL; rw [if_pos hF]
    have e2 : bestI v r = bestA v := by unfold bestI; rw [if_pos hF]
    have HX := Lib.hid e2
    have HY : Hid (leaY v r (calmG v) = lowL v.length (leaseL v r (bestA v) (calmG v))) := by unfold Hid leaY; rw [if_pos hF]
    have HZ : Hid (leaZ v r (calmG v) = lowN v.length (leaseL v r (bestA v) (calmG v))) := by unfold Hid leaZ; rw [if_pos hF]
    rw [e1] at hM
    rw [e2] at hI
    rw [hal, hll]
    have Hv := Lib.hid hv
    have Hal := Lib.hid hal
    have HF := Lib.hid hF
    have hA := (bestA_best hv.1).1
    have HA := Lib.hid hA
    have Hsg := Lib.hid (calmG_small hv)
    have h0 := hv.1
    have h6 := hv.2.1
    have H31 := Lib.hid h31
    obtain ⟨B, hBB⟩ : ∃ B, w1.heap.size = B := ⟨_, rfl⟩
    have HBB := Lib.hid hBB
    clear e1 e2 hal hll hF hv hA h31 hBB
    go_wp2_with (at_make; refine wpList_mk rfl (.tmp 23) (.tmp 23) rfl B v.length rfl rfl (by omega) (Nat.le_of_eq HBB.out.symm) ?_; intro w2 hO2 hg2 hs2)
    have hB2 : Below B w1 w2 := (Below.refl _ _).grown hg2 (by have := HBB.out; omega) (fun k e => by cases e)
    rw [HBB.out] at hO2 ⊢
    rw [← calmT_zero v] at hO2
    have HO2 := Lib.hid hO2
    have HB2 := Lib.hid hB2
    clear hO2 hg2 hs2 hB2
    go_loopw [27] (fun i wr => ∃ k : Nat, k ≤ v.length ∧ i = .int .i64 k ∧ Own wr B (some ⟨B, 0, none⟩) v.length (calmT v k 0) ∧ Below B w1 wr) (fun i _ => v.length - (intOf i).toNat)
    case atStart => exact ⟨0, by omega, rfl, HO2.out, HB2.out⟩
    case round =>
      obtain ⟨k, hk, rfl, hO, hBk⟩ := hrel
      by_cases hlt : k < v.length
      · have hk1 : (k : Int) < v.length := by omega
        have hMr := hM.below hBk (Nat.le_of_eq HBB.out)
        obtain ⟨b, o, rfl, _, q1, d1, hc, hi⟩ := hMr.get (j := k) (by rw [ldL_len]; exact hlt)
        have hrl := ldL_row_len (v := v) (a := bestA v) hlt
        rw [hrl] at hc
        have hi1 := hM.at (j := k) (by rw [ldL_len]; exact hlt)
        obtain ⟨q1', d1', hc1, hI1⟩ := hi1
        have hqq : q1 = q1' ∧ d1 = d1' := by
          have h := (hBk.cell (p := ⟨b, o + k, none⟩) (World.block_lt_of_cell? _ _ hc1 |> fun h => by have := HBB.out; simp only at *; omega)).trans hc1
          rw [hrl] at h
          rw [h] at hc
          simp at hc
          exact ⟨hc.1.symm, hc.2.symm⟩
        obtain ⟨rfl, rfl⟩ := hqq
        have HI1 := Lib.hid hI1
        have Hrl := Lib.hid hrl
        have HO := Lib.hid hO
        have HBk := Lib.hid hBk
        clear hrl hi hc1 hI1 hO hBk
        go_wp2_with fail
        go_loopw [33] (fun i wr => ∃ m : Nat, m ≤ v.length ∧ i = .int .i64 m ∧ Own wr B (some ⟨B, 0, none⟩) v.length (calmT v k m) ∧ Below B w1 wr) (fun i _ => v.length - (intOf i).toNat)
        case atStart => exact ⟨0, by omega, rfl, HO.out, HBk.out⟩
        case round =>
          obtain ⟨m, hm, rfl, hO, hBm⟩ := hrel
          by_cases hml : m < v.length
          · have hm1 : (m : Int) < v.length := by omega
            obtain ⟨b1, o1, rfl, _, hc2⟩ := (HI1.out.below hBm (Nat.le_of_eq HBB.out)).get (j := m) (by rw [Hrl.out]; exact hml)
            rw [ldL_get hlt hml] at hc2
            have hcx := hO.at (j := m) (by rw [calmT_len]; exact hml)
            rw [calmT_get hml, if_neg (Nat.lt_irrefl m)] at hcx
            have hfx := hO.free m
            have Hst := Lib.hid (calmT_succ (v := v) (k := k) hml)
            have b1' := calmF_bd Hv.out hml k (Nat.le_of_lt hlt)
            have b2' := ldF_bd Hv.out hlt hml
            have HO := Lib.hid hO
            have HBm := Lib.hid hBm
            generalize calmF v m k = y1 at *
            generalize ldF v (bestA v) k m = y2 at *
            clear hO hBm
            have hin1 : in64 y1 := ⟨by omega, by omega⟩
            have hin2 : in64 (-y2) := ⟨by omega, by omega⟩
            by_cases hgt : ¬ -y2 < y1
            · have Hm : Hid (min y1 (-y2) = y1) := by unfold Hid; omega
              go_wp2_with fail
              go_roundw
              case rel => exact ⟨m + 1, by omega, by go_num, by rw [Hst.out, Hm.out]; exact (HO.out.set m hin1).1, HBm.out.setCell (p := ⟨B, m, none⟩) (Nat.le_refl _) _⟩
              case measure => simp [intOf]; omega
            · have Hm : Hid (min y1 (-y2) = -y2) := by unfold Hid; omega
              have hle : -y2 < y1 := by omega
              go_wp2_with fail
              go_roundw
              case rel => exact ⟨m + 1, by omega, by go_num, by rw [Hst.out, Hm.out]; exact (HO.out.set m hin2).1, HBm.out.setCell (p := ⟨B, m, none⟩) (Nat.le_refl _) _⟩
              case measure => simp [intOf]; omega
          · have hm1 : ¬ (m : Int) < v.length := by omega
            obtain rfl : m = v.length := by omega
            rw [calmT_full] at hO
            go_wp2_with fail
            go_roundw
            case rel => exact ⟨k + 1, by omega, by go_num, hO, hBm⟩
            case measure => simp [intOf]; omega
      · have hk1 : ¬ (k : Int) < v.length := by omega
        obtain rfl : k = v.length := by omega
        obtain ⟨zs, hzg⟩ : ∃ zs, zs = calmT v v.length 0 := ⟨_, rfl⟩
        rw [← hzg] at hO
        rw [calmT_end] at hzg
        have hzl : zs.length = v.length := by rw [hzg, calmG_len]
        have HBk := Lib.hid hBk
        have c0' := (hBk.cell (p := ⟨w.heap.size, 0, none⟩) (by have := HBB.out; simp only; omega)).trans c0
        have c1' := (hBk.cell (p := ⟨w.heap.size, 1, none⟩) (by have := HBB.out; simp only; omega)).trans c1
        have HcL : Hid (∀ W, Below B w1 W → Ints W (some ⟨B, 0, none⟩) v.length zs → Calls Try.prog 24 #[.agg #[.slice p v.length c, .int .i64 r], .slice qa v.length da, .slice (some ⟨B, 0, none⟩) v.length v.length] W fun e w' => ∃ t u, e = .returned (.agg #[.slice qa v.length da, .slice t v.length u, .int .i64 (lowN v.length (leaseL v r (bestA v) (calmG v)))]) ∧ Own w' W.heap.size t u (lowL v.length (leaseL v r (bestA v) (calmG v))) ∧ Below W.heap.size W w') := fun W hW hi => by
          have := HBB.out
          rw [hzg] at hi
          exact lease_any p qa (some ⟨B, 0, none⟩) c da v.length v r (bestA v) (calmG v) W (hx2.below hW (by omega)) (hI.below hW (by omega)) hi Hv.out hr1 hr2 HA.out Hsg.out
        have Hi := Lib.hid hO.ints
        clear hO hM hI c0 c1 hBk hx2 hzg hzl
        go_wp2_with fail
        refine (HcL.out _ HBk.out Hi.out).mono ?_
        rintro e w4 ⟨t, u, rfl, hOt, hb4⟩
        have hb5 := HBk.out.trans (hb4.mono (by have := HBk.out.size; have := HBB.out; omega))
        have h35 := H31.out.below hb5 (by have := HBB.out; omega)
        have H35 := Lib.hid h35
        have HA5 := Lib.hid (HAo.out.below hb5 (Nat.le_of_eq HBB.out))
        have HOt := Lib.hid hOt
        have HB5 := Lib.hid (HB.out.trans (hb5.mono (by have := HBB.out; omega)))
        have hszr : w.heap.size + 2 ≤ wr.heap.size := by have := HBk.out.size; omega
        obtain ⟨⟨x0, t0⟩, ⟨x1, t1⟩, ⟨x2, t2⟩, u0, u1, u2⟩ := h35
        clear hb4 hb5 hOt c0' c1'
        go_wp2_with fail
        clear t0 t1 t2 u0 u1 u2
        obtain ⟨Z, hZ⟩ : ∃ Z, lowN v.length (leaseL v r (bestA v) (calmG v)) = Z := ⟨_, rfl⟩
        rw [hZ] at HZ ⊢
        obtain ⟨k0, k1, k2⟩ := H35.out.set (.slice qa v.length da) (.slice t v.length u) (.int .i64 Z)
        refine bodyPost_ret (v := .tuple #[.agg #[.slice qa v.length da, .slice t v.length u, .int .i64 Z], .int .i64 0]) (by simp [results, Try.results9, go_sem, k0, k1, k2]) rfl ?_
        rw [HX.out, HY.out, HZ.out, HF.out]
        refine ⟨qa, da, t, u, by rw [HA.out.1, lowL_length, leaseL_len], ?_, ?_, ?_⟩
        · rw [← HX.out]
          exact (((HA5.out.setCell_far (j := 0) _ (by have := Hs0.out; omega)).setCell_far (j := 1) _ (by have := Hs0.out; omega)).setCell_far (j := 2) _ (by have := Hs0.out; omega)).ints
        · exact (((HOt.out.setCell_far (j := 0) _ (by omega)).setCell_far (j := 1) _ (by omega)).setCell_far (j := 2) _ (by omega)).ints
        · exact ((HB5.out.setCell (p := ⟨w.heap.size + 1, 0, none⟩) (by simp) _).setCell (p := ⟨w.heap.size + 1, 1, none⟩) (by simp) _).setCell (p := ⟨w.heap.size + 1, 2, none⟩) (by simp) _
  · have hcz : (chkR v r != 0) = true := by rw [bne_iff_ne]; exact hF
    have HX : Hid (bestI v r = []) := by unfold Hid bestI; rw [if_neg hF]
    have HY : Hid (leaY v r (calmG v) = []) := by unfold Hid leaY; rw [if_neg hF]
    have HZ : Hid (leaZ v r (calmG v) = 0) := by unfold Hid leaZ; rw [if_neg hF]
    have H31 := Lib.hid h31
    obtain ⟨⟨x0, t0⟩, ⟨x1, t1⟩, ⟨x2, t2⟩, u0, u1, u2⟩ := h31
    clear hF hM hI hx2
    go_wp2_with fail
    clear t0 t1 t2 u0 u1 u2
    obtain ⟨k0, k1, k2⟩ := H31.out.set (.slice none 0 0) (.slice none 0 0) (.int .i64 0)
    refine bodyPost_ret (v := .tuple #[.agg #[.slice none 0 0, .slice none 0 0, .int .i64 0], .int .i64 (chkR v r)]) (by simp [results, Try.results9, go_sem, k0, k1, k2]) rfl ?_
    rw [HX.out, HY.out, HZ.out]
    exact ⟨none, 0, none, 0, rfl, Ints.ofNil _, Ints.ofNil _, ((HB.out.setCell (p := ⟨w.heap.size + 1, 0, none⟩) (by simp) _).setCell (p := ⟨w.heap.size + 1, 1, none⟩) (by simp) _).setCell (p := ⟨w.heap.size + 1, 2, none⟩) (by simp) _⟩
end Go.Proofs.Ytllcbcanohdepaa

/- The walk of the reference's Valid, for every flat and lease; no condition but the lists' sizes. -/
namespace Go.Proofs.Ytllcbcanohdepaa
set_option linter.unusedVariables false
set_option linter.unusedSimpArgs false
open Go.ChangeShapes Go.WideShapes Go.ChangeAt Go.RowKit Go.Deep

set_option maxHeartbeats 8000000 in
set_option maxRecDepth 100000 in
theorem refValid_any (p q s : Option Addr) (c d f : Nat) (v : List (List Int)) (r : Int) (al ps : List Int) (z : Int) (w : World) (hx : Mat w p c v) (hy : Ints w q d al) (hz : Ints w s f ps) :
    Calls Try.prog 16 #[.agg #[.slice p v.length c, .int .i64 r], .agg #[.slice q al.length d, .slice s ps.length f, .int .i64 z]] w fun e w' => e = .returned (.int .i64 (vldR v r al ps z)) ∧ Below w.heap.size w w' := by
  obtain ⟨Wx, hWx⟩ : ∃ W, w.alloc (.cells #[.slice p v.length c, .int .i64 r] 24) = W := ⟨_, rfl⟩
  obtain ⟨W0, hW0⟩ : ∃ W, Wx.alloc (.cells #[.slice q al.length d, .slice s ps.length f, .int .i64 z] 27) = W := ⟨_, rfl⟩
  have hB1 := below_alloc hWx
  have hB2 := below_alloc hW0
  have bX : BoxV W0 w.heap.size [.slice p v.length c, .int .i64 r] := (BoxV.new rfl hWx).below hB2
  have hs : Wx.heap.size = w.heap.size + 1 := by rw [← hWx]; simp
  have bL : BoxV W0 (w.heap.size + 1) [.slice q al.length d, .slice s ps.length f, .int .i64 z] := BoxV.new hs hW0
  have hB : Below w.heap.size w W0 := hB1.trans (hB2.mono hB1.size)
  have mX := hx.below hB (Nat.le_refl _)
  have mA := hy.below hB (Nat.le_refl _)
  have mP := hz.below hB (Nat.le_refl _)
  have HWx := Lib.hid hWx
  have HW0 := Lib.hid hW0
  clear hWx hW0 hB1 hB2 hs hx hy hz
  have hvl := mX.length_le
  have hpl := mP.length_le
  go_enter Try.func16, Try.ntmps16
  go_wp2_with fail
  rw [HWx.out, HW0.out]
  refine (refCheckR_any p c v r _ mX).mono ?_
  rintro e w1 ⟨rfl, hb⟩
  replace mX := mX.below hb (Nat.le_refl _)
  replace mA := mA.below hb (Nat.le_refl _)
  replace mP := mP.below hb (Nat.le_refl _)
  replace bX := bX.below hb
  replace bL := bL.below hb
  replace hB := hB.trans (hb.mono hB.size)
  clear hb
  have x0 := bX.cell 0 _ rfl
  have x1 := bX.cell 1 _ rfl
  have l0 := bL.cell 0 _ rfl
  have l1 := bL.cell 1 _ rfl
  have l2 := bL.cell 2 _ rfl
  by_cases hC : chkR v r = 0
  · have hcz : (chkR v r != 0) = false := by rw [hC]; rfl
    have HC := Lib.hid hC
    clear hC
    go_wp2_with fail
    refine (assigned_any q d al v.length _ hvl mA).mono ?_
    rintro e w2 ⟨rfl, rfl⟩
    obtain ⟨hv, hr1, hr2⟩ := chkR_zero.1 HC.out
    have hv6 := hv.2.1
    by_cases hA : IsA al v.length
    · have hE : isAB al v.length = true := isAB_true hA
      have HA := Lib.hid hA
      clear hA hv
      rw [hE]
      by_cases hp : ps.length = v.length
      · have g3 : ((ps.length : Int) != (v.length : Int)) = false := by rw [hp]; simp
        have Hp := Lib.hid hp
        have hp6 : ps.length ≤ 6 := by omega
        clear hp
        by_cases hz1 : z < 1
        · have g1 : decide (z < 1) = true := by simpa using hz1
          go_wp2_with fail
          go_ret
          exact ⟨ret_int (vld_off HC.out fun h => by have := h.2.1; omega).symm, hB⟩
        have g1 : decide (z < 1) = false := by simpa using hz1
        by_cases hz2 : 60 < z
        · have g2 : decide (60 < z) = true := by simpa using hz2
          go_wp2_with fail
          go_ret
          exact ⟨ret_int (vld_off HC.out fun h => by have := h.2.2.1; omega).symm, hB⟩
        have g2 : decide (60 < z) = false := by simpa using hz2
        have hz3 : 1 ≤ z := by omega
        have hz4 : z ≤ 60 := by omega
        clear hz1 hz2
        go_wp2_with fail
        clear x0 x1 l0 l1 l2
        go_loopw [5, 6] (fun s i wr => ∃ k : Nat, k ≤ ps.length ∧ i = .int .i64 k ∧ s = .int .i64 (sumTo (iget ps) k) ∧ Hid (PriceOk z ps k) ∧ Below w2.heap.size w2 wr) (fun _ i _ => ps.length - (intOf i).toNat)
        case atStart => exact ⟨0, by omega, rfl, rfl, fun j hj => by omega, Below.refl _ _⟩
        case round =>
          obtain ⟨k, hk, rfl, rfl, ht, hb⟩ := hrel
          have HBk := Lib.hid hb
          replace mX := mX.below hb (Nat.le_refl _)
          replace mA := mA.below hb (Nat.le_refl _)
          replace mP := mP.below hb (Nat.le_refl _)
          replace bX := bX.below hb
          replace bL := bL.below hb
          replace hB := hB.trans (hb.mono hB.size)
          clear hb
          have x0 := bX.cell 0 _ rfl
          have x1 := bX.cell 1 _ rfl
          have l0 := bL.cell 0 _ rfl
          have l1 := bL.cell 1 _ rfl
          have l2 := bL.cell 2 _ rfl
          have hS := price_sum hz4 (by omega) ht.out
          by_cases hlt : k < ps.length
          · obtain ⟨b, o, rfl, _, hc⟩ := mP.get hlt
            have hk1 : (k : Int) < ps.length := by omega
            by_cases hlow : iget ps k < -10000000 * z
            · have hdl : decide (iget ps k < -10000000 * z) = true := by simpa using hlow
              have hn := Lib.hid (show ¬ VldP v r al ps z from fun h => by have := (h.2.2.2.2.1 k hlt).1; omega)
              clear hS hlow
              go_wp2_with fail
              go_quiet (fail)
              go_wp2_with fail
              go_ret
              exact ⟨ret_int (vld_off HC.out hn.out).symm, hB.drewN' nq⟩
            · have hdl : decide (iget ps k < -10000000 * z) = false := by simpa using hlow
              by_cases hhi : 10000000 * z < iget ps k
              · have hdh : decide (10000000 * z < iget ps k) = true := by simpa using hhi
                have hn := Lib.hid (show ¬ VldP v r al ps z from fun h => by have := (h.2.2.2.2.1 k hlt).2; omega)
                clear hS hlow hhi
                go_wp2_with fail
                go_quiet (fail)
                go_wp2_with fail
                go_ret
                exact ⟨ret_int (vld_off HC.out hn.out).symm, hB.drewN' nq⟩
              · have hdh : decide (10000000 * z < iget ps k) = false := by simpa using hhi
                have Hn := Lib.hid (show PriceOk z ps (k + 1) from snoc_all ht.out ⟨by omega, by omega⟩)
                have Hs : Hid (sumTo (iget ps) (k + 1) = sumTo (iget ps) k + iget ps k) := rfl
                generalize sumTo (iget ps) k = s0 at *
                obtain ⟨hS1, hS2⟩ := hS
                have e1 : -600000000 ≤ iget ps k := by omega
                have e2 : iget ps k ≤ 600000000 := by omega
                clear hlow hhi
                go_wp2_with fail
                go_quiet (fail)
                go_wp2_with fail
                go_roundw
                case rel => exact ⟨k + 1, by omega, by go_num, by rw [Hs.out], Hn, HBk.out.drewN' nq⟩
                case measure => simp [intOf]; omega
          · have hk1 : ¬ (k : Int) < ps.length := by omega
            obtain rfl : k = ps.length := by omega
            obtain ⟨m1, m2⟩ := rz_bd hr1 hr2 hz3 hz4
            rw [Int.mul_comm] at m1 m2
            have hw : IntKind.i64.wrap (z * r) = z * r := IntWalk.i64_in _ (by omega)
            by_cases hq : sumTo (iget ps) ps.length = z * r
            · have g4 : (sumTo (iget ps) ps.length != z * r) = false := by rw [hq]; simp
              have Hq := Lib.hid hq
              clear hq
              go_wp2_with fail
              go_ret
              exact ⟨ret_int (vld_ok HC.out ⟨HA.out, hz3, hz4, Hp.out, ht.out, by rw [Hq.out, Int.mul_comm]⟩).symm, hB⟩
            · have g4 : (sumTo (iget ps) ps.length != z * r) = true := by rw [bne_iff_ne]; exact hq
              have Hq := Lib.hid hq
              clear hq
              go_wp2_with fail
              go_ret
              exact ⟨ret_int (vld_off HC.out fun h => Hq.out (by rw [Int.mul_comm]; exact h.2.2.2.2.2)).symm, hB⟩
      · have g3 : ((ps.length : Int) != (v.length : Int)) = true := by rw [bne_iff_ne]; omega
        have Hp := Lib.hid hp
        clear hp
        go_wp2_with fail
        go_ret
        exact ⟨ret_int (vld_off HC.out fun h => Hp.out h.2.2.2.1).symm, hB⟩
    · have hE : isAB al v.length = false := isAB_false hA
      have HA := Lib.hid hA
      clear hA hv
      rw [hE]
      go_wp2_with fail
      go_ret
      exact ⟨ret_int (vld_off HC.out fun h => HA.out h.1).symm, hB⟩
  · have hcz : (chkR v r != 0) = true := by rw [bne_iff_ne]; exact hC
    have HC := Lib.hid hC
    clear hC
    go_wp2_with fail
    refine (refCheckR_any p c v r _ mX).mono ?_
    rintro e w2 ⟨rfl, hb⟩
    go_wp2_with fail
    go_ret
    exact ⟨ret_int (vld_bad HC.out).symm, hB.trans (hb.mono hB.size)⟩
end Go.Proofs.Ytllcbcanohdepaa

/- The walks of the reference's Gain and Gains, for every flat and lease; no condition but that the lease is valid (Gain). -/
namespace Go.Proofs.Ytllcbcanohdepaa
set_option linter.unusedVariables false
set_option linter.unusedSimpArgs false
open Go.ChangeShapes Go.WideShapes Go.ChangeAt Go.RowKit Go.Deep

theorem gain_bd {v : List (List Int)} {al ps : List Int} {z : Int} (hg : Good v al ps z) {i j : Nat} (hi : i < v.length) (hj : j < v.length) : -1000000000 ≤ gainI v ps z i j ∧ gainI v ps z i j ≤ 1000000000 := by
  obtain ⟨v1, v2⟩ := hg.bid i hi j hj
  obtain ⟨p1, p2⟩ := hg.price j hj
  obtain ⟨m1, m2⟩ := bz_bd v1 v2 hg.z1 hg.z2
  have e : gainI v ps z i j = iget (rget v i) j * z - iget ps j := rfl
  omega

set_option maxHeartbeats 8000000 in
set_option maxRecDepth 100000 in
theorem refGain_ok (p q s : Option Addr) (c d f : Nat) (v : List (List Int)) (r : Int) (al ps : List Int) (z : Int) (i j : Nat) (w : World) (hx : Mat w p c v) (hz : Ints w s f ps) (hg : Good v al ps z) (hi : i < v.length) (hj : j < v.length) :
    Calls Try.prog 19 #[.agg #[.slice p v.length c, .int .i64 r], .agg #[.slice q al.length d, .slice s ps.length f, .int .i64 z], .int .i64 i, .int .i64 j] w fun e w' => e = .returned (.int .i64 (gainI v ps z i j)) ∧ Below w.heap.size w w' := by
  obtain ⟨Wx, hWx⟩ : ∃ W, w.alloc (.cells #[.slice p v.length c, .int .i64 r] 24) = W := ⟨_, rfl⟩
  obtain ⟨W0, hW0⟩ : ∃ W, Wx.alloc (.cells #[.slice q al.length d, .slice s ps.length f, .int .i64 z] 27) = W := ⟨_, rfl⟩
  have hB1 := below_alloc hWx
  have hB2 := below_alloc hW0
  have bX : BoxV W0 w.heap.size [.slice p v.length c, .int .i64 r] := (BoxV.new rfl hWx).below hB2
  have hs : Wx.heap.size = w.heap.size + 1 := by rw [← hWx]; simp
  have bL : BoxV W0 (w.heap.size + 1) [.slice q al.length d, .slice s ps.length f, .int .i64 z] := BoxV.new hs hW0
  have hB : Below w.heap.size w W0 := hB1.trans (hB2.mono hB1.size)
  have mX := hx.below hB (Nat.le_refl _)
  have mP := hz.below hB (Nat.le_refl _)
  have HWx := Lib.hid hWx
  have HW0 := Lib.hid hW0
  clear hWx hW0 hB1 hB2 hs hx hz
  obtain ⟨v1, v2⟩ := hg.bid i hi j hj
  obtain ⟨p1, p2⟩ := hg.price j hj
  obtain ⟨m1, m2⟩ := bz_bd v1 v2 hg.z1 hg.z2
  have hrow := hg.row i hi
  have hpl := hg.plen
  have h6 := hg.six
  obtain ⟨b2, o2, rfl, _, qr, dr, hc2, hI⟩ := mX.get hi
  obtain ⟨b3, o3, rfl, _, hc3⟩ := hI.get (show j < (rget v i).length by rw [hrow]; exact hj)
  obtain ⟨b4, o4, rfl, _, hc4⟩ := mP.get (show j < ps.length by rw [hpl]; exact hj)
  have x0 := bX.cell 0 _ rfl
  have x1 := bX.cell 1 _ rfl
  have l0 := bL.cell 0 _ rfl
  have l1 := bL.cell 1 _ rfl
  have l2 := bL.cell 2 _ rfl
  have hi1 : (i : Int) < v.length := by omega
  have hj1 : (j : Int) < (rget v i).length := by omega
  have hj2 : (j : Int) < ps.length := by omega
  have He : Hid (gainI v ps z i j = iget (rget v i) j * z - iget ps j) := rfl
  clear hg hrow hpl
  obtain ⟨x, hxx⟩ : ∃ x, iget (rget v i) j = x := ⟨_, rfl⟩
  obtain ⟨y, hyy⟩ : ∃ y, iget ps j = y := ⟨_, rfl⟩
  rw [hxx] at hc3 v1 v2 m1 m2 He
  rw [hyy] at hc4 p1 p2 He
  clear hxx hyy
  have hw1 : IntKind.i64.wrap (x * z) = x * z := IntWalk.i64_in _ (by omega)
  have hw2 : IntKind.i64.wrap (x * z - y) = x * z - y := IntWalk.i64_in _ (by omega)
  go_enter Try.func19, Try.ntmps19
  go_wp2_with fail
  rw [HWx.out, HW0.out]
  go_quiet (fail)
  go_wp2_with fail
  go_ret
  refine ⟨ret_int ?_, hB.drewN' nq⟩
  rw [He.out]

end Go.Proofs.Ytllcbcanohdepaa

/- Rows of pairs that a call itself makes: how they are read, appended to, compared; no condition but sizes. -/
namespace Go.Proofs.Ytllcbcanohdepaa
set_option linter.unusedVariables false
set_option linter.unusedSimpArgs false
open Go.ChangeShapes Go.WideShapes Go.ChangeAt Go.RowKit Go.Deep

theorem infoPair : (Try.prog.info? 81).map (fun i => (i.zero, i.size, i.bytes)) = some (some (.agg #[.int .i64 0, .int .i64 0]), 2, 16) := by kernel_rfl
/-- The cells of a list of pairs. -/
def cellsP (xs : List (Nat × Nat)) : List Value := xs.flatMap fun x => [.int .i64 x.1, .int .i64 x.2]
def pget (xs : List (Nat × Nat)) (j : Nat) : Nat × Nat := xs.getD j (0, 0)
theorem cellsP_append (xs ys : List (Nat × Nat)) : cellsP (xs ++ ys) = cellsP xs ++ cellsP ys := by simp [cellsP]
theorem cellsP_get : ∀ (xs : List (Nat × Nat)) (j : Nat), j < xs.length → (cellsP xs)[j * 2]? = some (.int .i64 (pget xs j).1) ∧ (cellsP xs)[j * 2 + 1]? = some (.int .i64 (pget xs j).2)
  | x :: xs, 0, _ => ⟨rfl, rfl⟩
  | x :: xs, j + 1, h => by
    have ih := cellsP_get xs j (by simpa using h)
    have e : cellsP (x :: xs) = Value.int .i64 x.1 :: Value.int .i64 x.2 :: cellsP xs := rfl
    have e1 : (j + 1) * 2 = j * 2 + 1 + 1 := by omega
    have e2 : pget (x :: xs) (j + 1) = pget xs j := rfl
    rw [e, e1, e2, List.getElem?_cons_succ, List.getElem?_cons_succ, List.getElem?_cons_succ, List.getElem?_cons_succ]
    exact ih

/-- The slice (p, xs.length, c) is a row of the call's own, in a block from base on, and holds the pairs xs. -/
structure OwnP (w : World) (base : Nat) (p : Option Addr) (c : Nat) (xs : List (Nat × Nat)) : Prop where
  row : w.ownsRow base 81 2 (.slice p xs.length c) xs.length (cellsP xs)
theorem OwnP.ofNil (w : World) (base : Nat) : OwnP w base none 0 [] := ⟨World.ownsRow_nil w base _ _⟩
theorem OwnP.lt {w : World} {base : Nat} {p : Option Addr} {c : Nat} {xs : List (Nat × Nat)} (h : OwnP w base p c xs) : ∀ k, blk p = some k → base ≤ k ∧ k < w.heap.size := fun k hk => h.row.lt k (by rw [ownBlock_slice]; exact hk)
theorem OwnP.lower {w : World} {base base' : Nat} {p : Option Addr} {c : Nat} {xs : List (Nat × Nat)} (h : OwnP w base p c xs) (hb : base' ≤ base) : OwnP w base' p c xs := by
  refine ⟨⟨h.row.1, ?_⟩⟩
  rcases h.row.2 with h1 | ⟨g, cap, cur, h1, h2, r⟩
  · exact .inl h1
  · exact .inr ⟨g, cap, cur, h1, Nat.le_trans hb h2, r⟩
theorem OwnP.keptBy {w w' : World} {base : Nat} {p : Option Addr} {c : Nat} {xs : List (Nat × Nat)} (h : OwnP w base p c xs) {row : Option Nat} (hg : w.grownBy w' row) (hne : ∀ k, blk p = some k → row ≠ some k) : OwnP w' base p c xs :=
  ⟨h.row.kept hg (by
    rw [ownBlock_slice]
    cases hb : blk p with
    | none => exact .inl rfl
    | some k => exact .inr fun e => hne k hb e.symm)⟩
theorem OwnP.below {w w' : World} {base B : Nat} {p : Option Addr} {c : Nat} {xs : List (Nat × Nat)} (h : OwnP w base p c xs) (hb : Below B w w') (hB : w.heap.size ≤ B) : OwnP w' base p c xs :=
  h.keptBy (grownBy_of_below hb hB none) (fun _ _ h => by cases h)
theorem OwnP.drew {w w' : World} {base : Nat} {p : Option Addr} {c : Nat} {xs : List (Nat × Nat)} (h : OwnP w base p c xs) (hw : ∃ n, w' = w.drewN n) : OwnP w' base p c xs := by
  obtain ⟨n, rfl⟩ := hw
  exact h.below (below_drewN w.heap.size w n) (Nat.le_refl _)
theorem OwnP.alloc {w : World} {base : Nat} {p : Option Addr} {c : Nat} {xs : List (Nat × Nat)} (h : OwnP w base p c xs) (o : Obj) : OwnP (w.alloc o) base p c xs := ⟨h.row.alloc o⟩
theorem OwnP.cap {w : World} {base : Nat} {p : Option Addr} {c : Nat} {xs : List (Nat × Nat)} (h : OwnP w base p c xs) : xs.length ≤ 9223372036854775807 := by
  rcases h.row.2 with ⟨_, h2⟩ | ⟨g, cap, cur, _, _, _, h4, h5, _, _⟩
  · omega
  · simp only [maxLen] at h5; omega
theorem OwnP.get {w : World} {base : Nat} {p : Option Addr} {c : Nat} {xs : List (Nat × Nat)} (h : OwnP w base p c xs) {j : Nat} (hj : j < xs.length) :
    ∃ g, p = some ⟨g, 0, none⟩ ∧ base ≤ g ∧ g < w.heap.size ∧ w.cell? ⟨g, j * 2, none⟩ = some (.int .i64 (pget xs j).1) ∧ w.cell? ⟨g, j * 2 + 1, none⟩ = some (.int .i64 (pget xs j).2) := by
  obtain ⟨g, cap, hv, hb, hlt⟩ := h.row.form (by omega)
  simp only [Value.slice.injEq] at hv
  obtain ⟨rfl, _, rfl⟩ := hv
  obtain ⟨e1, e2⟩ := cellsP_get xs j hj
  exact ⟨g, rfl, hb, hlt, (h.row.cellAt (j * 2) (by omega)).trans e1, (h.row.cellAt (j * 2 + 1) (by omega)).trans e2⟩

/-- 'append(s, [2]int{i, k})', the pair laid in a new block. -/
theorem wpList_appP {w : World} {ops : Array Oper} {rest : List Oper} {o : Oper} {a : Act} {Q : Exit → Act → World → Prop} (hgd : o.guard = none) (s x : Operand)
    (ho : o.op = .call { callee := .builtin .append, args := #[s, x], argTypes := #[60, 60] })
    (base : Nat) (p : Option Addr) (c : Nat) (xs : List (Nat × Nat)) (y0 y1 : Nat) (hs : a.eval s = .slice p xs.length c) {B : Nat} (hx : a.eval x = .slice (some ⟨B, 0, none⟩) 1 1) (hB : w.heap.size = B) (hown : OwnP w base p c xs)
    (hsz : xs.length ≤ 900000) (hbase : base ≤ w.heap.size)
    (h : ∀ p' c' w' zs, Hid (zs = xs ++ [(y0, y1)]) → OwnP w' base p' c' zs → w.grownBy w' (blk p) → Fresh w p p' → wpList Try.prog ops Q rest (a.put o.dst (.slice p' zs.length c')) w') : wpList Try.prog ops Q (o :: rest) a (w.alloc (.cells #[.int .i64 y0, .int .i64 y1] 81)) := by
  subst hB
  refine wpList_appG (w := w.alloc (.cells #[.int .i64 y0, .int .i64 y1] 81)) hgd s x 60 81 ho (.agg #[.int .i64 0, .int .i64 0]) 2 16 Try.underlying60 infoPair (by kernel_rfl) (by decide) base p (some ⟨w.heap.size, 0, none⟩) xs.length 1 c 1 (cellsP xs) [.int .i64 y0, .int .i64 y1] hs hx (hown.row.alloc _)
    (fun e => (by cases e)) rfl ?_ (by simp [Value.oneCell']) (by simp [maxLen]; omega) (by omega) (by simp; omega) ?_
  · rintro ad ⟨⟩ j u hu
    rw [add_plain, World.cell?_alloc_at _ _ _ _ rfl]
    simpa using hu
  · intro p' c' w' h2 h3 h4
    have hg : w.grownBy w' (blk p) := ⟨h3.os, h3.tape, h3.output, by have := h3.size; simp at this; omega, fun k hk hne => by
      rw [h3.block k (by simp; omega) hne]
      exact Below.heap_alloc _ _ _ hk⟩
    have hfr : Fresh w p p' := fun k hk => by
      rcases h4 k hk with h5 | h5
      · exact .inl h5
      · exact .inr (by simp at h5; omega)
    have := h p' c' w' (xs ++ [(y0, y1)]) rfl ⟨by rw [List.length_append, cellsP_append]; exact h2⟩ hg hfr
    rw [List.length_append] at this
    exact this

/-- Two pairs compared. -/
theorem eqPair (a b c d : Int) (w : World) : (Op.equalIn 10000 81 (.agg #[.int .i64 a, .int .i64 b]) (.agg #[.int .i64 c, .int .i64 d])).run Try.prog w = .ok (a == c && b == d) w := by
  have u3 := Try.underlying3
  have a3 := Try.isAgg3
  have z3 := Try.sizeOf3
  rw [show (10000 : Nat) = 9999 + 1 from rfl, Op.equalIn]
  simp only [Sem.run_bind, run_underlying Try.underlying81, Result.andThen_ok]
  simp only [Std.Legacy.Range.forIn_eq_forIn_range', Std.Legacy.Range.size, Nat.sub_zero, Nat.add_sub_cancel, Nat.div_one, List.range'_succ, List.range'_zero, List.forIn_cons, List.forIn_nil]
  go_simp
  by_cases h1 : a = c <;> by_cases h2 : b = d <;> simp [h1, h2]

end Go.Proofs.Ytllcbcanohdepaa

/- The walk of room.Envies, for every flat and lease; no condition but the lists' sizes. -/
namespace Go.Proofs.Ytllcbcanohdepaa
set_option linter.unusedVariables false
set_option linter.unusedSimpArgs false
open Go.ChangeShapes Go.WideShapes Go.ChangeAt Go.RowKit Go.Deep

/-- Whether agent i would rather have agent k's room; who envies whom, row by row. -/
def envB (v : List (List Int)) (al ps : List Int) (z : Int) (i k : Nat) : Bool := decide (gainI v ps z i (itm al i) < gainI v ps z i (itm al k))
def envRow (v : List (List Int)) (al ps : List Int) (z : Int) (i n : Nat) : List (Nat × Nat) := ((List.range n).filter fun k => envB v al ps z i k).map fun k => (i, k)
def envTo (v : List (List Int)) (al ps : List Int) (z : Int) (m n : Nat) : List (Nat × Nat) := (List.range m).flatMap fun i => envRow v al ps z i n
def envsL (v : List (List Int)) (r : Int) (al ps : List Int) (z : Int) : List (Nat × Nat) := if vldR v r al ps z = 0 then envTo v al ps z v.length v.length else []
theorem envRow_zero (v : List (List Int)) (al ps : List Int) (z : Int) (i : Nat) : envRow v al ps z i 0 = [] := rfl
theorem envRow_yes {v : List (List Int)} {al ps : List Int} {z : Int} {i k : Nat} (h : envB v al ps z i k = true) : envRow v al ps z i (k + 1) = envRow v al ps z i k ++ [(i, k)] := by
  simp [envRow, List.range_succ, List.filter_append, h]
theorem envRow_no {v : List (List Int)} {al ps : List Int} {z : Int} {i k : Nat} (h : envB v al ps z i k = false) : envRow v al ps z i (k + 1) = envRow v al ps z i k := by
  simp [envRow, List.range_succ, List.filter_append, h]
theorem envTo_succ (v : List (List Int)) (al ps : List Int) (z : Int) (m n : Nat) : envTo v al ps z (m + 1) n = envTo v al ps z m n ++ envRow v al ps z m n := by
  simp [envTo, List.range_succ, List.flatMap_append]
theorem envRow_len (v : List (List Int)) (al ps : List Int) (z : Int) (i n : Nat) : (envRow v al ps z i n).length ≤ n := by
  simp only [envRow, List.length_map]
  exact Nat.le_trans (List.length_filter_le _ _) (by simp)
theorem envTo_len (v : List (List Int)) (al ps : List Int) (z : Int) (m n : Nat) : (envTo v al ps z m n).length ≤ m * n := by
  induction m with
  | zero => simp [envTo]
  | succ m ih =>
    rw [envTo_succ, List.length_append, Nat.succ_mul]
    have := envRow_len v al ps z m n
    omega

end Go.Proofs.Ytllcbcanohdepaa
