/- The walk of rent.Calm, for every flat. -/
import Derived.Test.YtllcbcanohdepaaGreatTopRentFindsm15
import Derived.Test.YtllcbcanohdepaaGreatTopRentFindsm4
import Derived.Test.YtllcbcanohdepaaGreatTopRentFindsm6
/- The walk of rent.Calm, for every flat. -/
namespace Go.Proofs.YtllcbcanohdepaaGreat
set_option linter.unusedVariables false
set_option linter.unusedSimpArgs false
open Go.ChangeShapes Go.WideShapes Go.ChangeAt Go.RowKit Go.Deep

/-- The gains while they are found. -/
noncomputable def calmT (v : List (List Int)) (i k : Nat) : List Int := (List.range v.length).map fun j => if j < k then calmF v j (i + 1) else calmF v j i
theorem calmT_len (v : List (List Int)) (i k : Nat) : (calmT v i k).length = v.length := by simp [calmT]
theorem calmT_get {v : List (List Int)} {i k j : Nat} (hj : j < v.length) : iget (calmT v i k) j = if j < k then calmF v j (i + 1) else calmF v j i := by simp [calmT, iget, hj]
theorem calmT_zero (v : List (List Int)) : calmT v 0 0 = List.replicate v.length 0 := ints_ext' (fun j hj => by
  rw [calmT_len] at hj
  rw [calmT_get hj]; simp [calmF, iget, hj]) (by simp [calmT])
theorem calmT_full (v : List (List Int)) (i : Nat) : calmT v i v.length = calmT v (i + 1) 0 := ints_ext' (fun j hj => by
  rw [calmT_len] at hj
  rw [calmT_get hj, calmT_get hj, if_pos hj, if_neg (Nat.not_lt_zero j)]) (by simp [calmT])
theorem calmT_end (v : List (List Int)) : calmT v v.length 0 = calmG v := ints_ext' (fun j hj => by
  rw [calmT_len] at hj
  rw [calmT_get hj, calmG_get hj, if_neg (Nat.not_lt_zero j)]) (by simp [calmT, calmG])
theorem calmT_succ {v : List (List Int)} {k m : Nat} (hm : m < v.length) : calmT v k (m + 1) = (calmT v k m).set m (min (calmF v m k) (-ldF v (bestA v) k m)) := ints_ext' (fun j hj => by
  rw [calmT_len] at hj
  rw [calmT_get hj, iget_set (by rw [calmT_len]; exact hm), calmT_get hj]
  by_cases e : m = j
  · subst e; rw [if_pos rfl, if_pos (by omega)]; rfl
  · rw [if_neg e]
    by_cases e2 : j < m
    · rw [if_pos e2, if_pos (by omega)]
    · rw [if_neg e2, if_neg (by omega)]) (by simp [calmT])

set_option maxHeartbeats 8000000 in
set_option maxRecDepth 100000 in
theorem rentCalm_any (p : Option Addr) (c : Nat) (v : List (List Int)) (r : Int) (w : World) (hx : Mat w p c v) :
    Calls Tryz.prog 8 #[.agg #[.slice p v.length c, .int .i64 r]] w (GivesLease w (bestI v r) (leaY v r (calmG v)) (leaZ v r (calmG v)) (chkR v r)) := by
  obtain ⟨W0, hW0⟩ : ∃ W0, (w.alloc (.cells #[.slice p v.length c, .int .i64 r] 24)).alloc (.cells #[.slice none 0 0, .slice none 0 0, .int .i64 0] 27) = W0 := ⟨_, rfl⟩
  have hb0 : Below w.heap.size w W0 := by rw [← hW0]; exact ((Below.refl _ _).alloc (Nat.le_refl _) _).alloc (by simp) _
  have hx1 := hx.below hb0 (Nat.le_refl _)
  have hs0 : W0.heap.size = w.heap.size + 2 := by rw [← hW0]; simp
  have h3 : Three W0 (w.heap.size + 1) := Three.new (by simp) hW0.symm
  have H3 := Lib.hid h3
  clear h3
  have hbx0 : W0.cell? ⟨w.heap.size, 0, none⟩ = some (.slice p v.length c) := by rw [← hW0]; simp
  have hbx1 : W0.cell? ⟨w.heap.size, 1, none⟩ = some (.int .i64 r) := by rw [← hW0]; simp
  have HW0 := Lib.hid hW0
  have Hs0 := Lib.hid hs0
  clear hW0 hs0
  go_enter Tryz.func8, Tryz.ntmps8
  go_wp2_with fail
  rw [HW0.out]
  refine (leads_any p c v r _ hx1).mono ?_
  rintro e w1 ⟨qa, da, pl, cl, Ql, Dl, rfl, hAo, hLD, hb1⟩
  have hB1 : Below W0.heap.size W0 w1 := hb1
  have hx2 := hx1.below hb1 (Nat.le_refl _)
  have h31 := H3.out.below hb1 (by have := Hs0.out; omega)
  have c0 := (hB1.cell (p := ⟨w.heap.size, 0, none⟩) (by have := Hs0.out; simp only; omega)).trans hbx0
  have c1 := (hB1.cell (p := ⟨w.heap.size, 1, none⟩) (by have := Hs0.out; simp only; omega)).trans hbx1
  have hszw : w.heap.size + 2 ≤ w1.heap.size := by have := hb1.size; have := Hs0.out; omega
  have HB := Lib.hid (hb0.trans (hb1.mono hb0.size))
  have hI := hAo.ints
  have hM := hLD.mat
  have HAo := Lib.hid hAo
  clear hb1 hB1 hx1 hb0 hbx0 hbx1 hAo hLD H3
  by_cases hF : chkR v r = 0
  · have hcz : (chkR v r != 0) = false := by rw [hF]; rfl
    obtain ⟨hv, hr1, hr2⟩ := chkR_zero.1 hF
    have hal := bestI_len hF
    have hll : (leadsL v r).length = v.length := by unfold leadsL; rw [if_pos hF, ldL_len]
    have e1 : leadsL v r = ldL v (bestA v) := by unfold leadsL; rw [if_pos hF]
    have e2 : bestI v r = bestA v := by unfold bestI; rw [if_pos hF]
    have HX := Lib.hid e2
    have HY : Hid (leaY v r (calmG v) = lowL v.length (leaseL v r (bestA v) (calmG v))) := by unfold Hid leaY; rw [if_pos hF]
    have HZ : Hid (leaZ v r (calmG v) = lowN v.length (leaseL v r (bestA v) (calmG v))) := by unfold Hid leaZ; rw [if_pos hF]
    rw [e1] at hM
    rw [e2] at hI
    rw [hal, hll]
    have Hv := Lib.hid hv
    have Hal := Lib.hid hal
    have HF := Lib.hid hF
    have hA := (bestA_best hv.1).1
    have HA := Lib.hid hA
    have Hsg := Lib.hid (calmG_small hv)
    have h0 := hv.1
    have h6 := hv.2.1
    have H31 := Lib.hid h31
    obtain ⟨B, hBB⟩ : ∃ B, w1.heap.size = B := ⟨_, rfl⟩
    have HBB := Lib.hid hBB
    clear e1 e2 hal hll hF hv hA h31 hBB
    go_wp2_with (at_make; refine wpList_mk rfl (.tmp 23) (.tmp 23) rfl B v.length rfl rfl (by omega) (Nat.le_of_eq HBB.out.symm) ?_; intro w2 hO2 hg2 hs2)
    have hB2 : Below B w1 w2 := (Below.refl _ _).grown hg2 (by have := HBB.out; omega) (fun k e => by cases e)
    rw [HBB.out] at hO2 ⊢
    rw [← calmT_zero v] at hO2
    have HO2 := Lib.hid hO2
    have HB2 := Lib.hid hB2
    clear hO2 hg2 hs2 hB2
    go_loopw [27] (fun i wr => ∃ k : Nat, k ≤ v.length ∧ i = .int .i64 k ∧ Own wr B (some ⟨B, 0, none⟩) v.length (calmT v k 0) ∧ Below B w1 wr) (fun i _ => v.length - (intOf i).toNat)
    case atStart => exact ⟨0, by omega, rfl, HO2.out, HB2.out⟩
    case round =>
      obtain ⟨k, hk, rfl, hO, hBk⟩ := hrel
      by_cases hlt : k < v.length
      · have hk1 : (k : Int) < v.length := by omega
        have hMr := hM.below hBk (Nat.le_of_eq HBB.out)
        obtain ⟨b, o, rfl, _, q1, d1, hc, hi⟩ := hMr.get (j := k) (by rw [ldL_len]; exact hlt)
        have hrl := ldL_row_len (v := v) (a := bestA v) hlt
        rw [hrl] at hc
        have hi1 := hM.at (j := k) (by rw [ldL_len]; exact hlt)
        obtain ⟨q1', d1', hc1, hI1⟩ := hi1
        have hqq : q1 = q1' ∧ d1 = d1' := by
          have h := (hBk.cell (p := ⟨b, o + k, none⟩) (World.block_lt_of_cell? _ _ hc1 |> fun h => by have := HBB.out; simp only at *; omega)).trans hc1
          rw [hrl] at h
          rw [h] at hc
          simp at hc
          exact ⟨hc.1.symm, hc.2.symm⟩
        obtain ⟨rfl, rfl⟩ := hqq
        have HI1 := Lib.hid hI1
        have Hrl := Lib.hid hrl
        have HO := Lib.hid hO
        have HBk := Lib.hid hBk
        clear hrl hi hc1 hI1 hO hBk
        go_wp2_with fail
        go_loopw [33] (fun i wr => ∃ m : Nat, m ≤ v.length ∧ i = .int .i64 m ∧ Own wr B (some ⟨B, 0, none⟩) v.length (calmT v k m) ∧ Below B w1 wr) (fun i _ => v.length - (intOf i).toNat)
        case atStart => exact ⟨0, by omega, rfl, HO.out, HBk.out⟩
        case round =>
          obtain ⟨m, hm, rfl, hO, hBm⟩ := hrel
          by_cases hml : m < v.length
          · have hm1 : (m : Int) < v.length := by omega
            obtain ⟨b1, o1, rfl, _, hc2⟩ := (HI1.out.below hBm (Nat.le_of_eq HBB.out)).get (j := m) (by rw [Hrl.out]; exact hml)
            rw [ldL_get hlt hml] at hc2
            have hcx := hO.at (j := m) (by rw [calmT_len]; exact hml)
            rw [calmT_get hml, if_neg (Nat.lt_irrefl m)] at hcx
            have hfx := hO.free m
            have Hst := Lib.hid (calmT_succ (v := v) (k := k) hml)
            have b1' := calmF_bd Hv.out hml k (Nat.le_of_lt hlt)
            have b2' := ldF_bd Hv.out hlt hml
            have HO := Lib.hid hO
            have HBm := Lib.hid hBm
            generalize calmF v m k = y1 at *
            generalize ldF v (bestA v) k m = y2 at *
            clear hO hBm
            have hin1 : in64 y1 := ⟨by omega, by omega⟩
            have hin2 : in64 (-y2) := ⟨by omega, by omega⟩
            by_cases hgt : ¬ -y2 < y1
            · have Hm : Hid (min y1 (-y2) = y1) := by unfold Hid; omega
              go_wp2_with fail
              go_roundw
              case rel => exact ⟨m + 1, by omega, by go_num, by rw [Hst.out, Hm.out]; exact (HO.out.set m hin1).1, HBm.out.setCell (p := ⟨B, m, none⟩) (Nat.le_refl _) _⟩
              case measure => simp [intOf]; omega
            · have Hm : Hid (min y1 (-y2) = -y2) := by unfold Hid; omega
              have hle : -y2 < y1 := by omega
              go_wp2_with fail
              go_roundw
              case rel => exact ⟨m + 1, by omega, by go_num, by rw [Hst.out, Hm.out]; exact (HO.out.set m hin2).1, HBm.out.setCell (p := ⟨B, m, none⟩) (Nat.le_refl _) _⟩
              case measure => simp [intOf]; omega
          · have hm1 : ¬ (m : Int) < v.length := by omega
            obtain rfl : m = v.length := by omega
            rw [calmT_full] at hO
            go_wp2_with fail
            go_roundw
            case rel => exact ⟨k + 1, by omega, by go_num, hO, hBm⟩
            case measure => simp [intOf]; omega
      · have hk1 : ¬ (k : Int) < v.length := by omega
        obtain rfl : k = v.length := by omega
        obtain ⟨zs, hzg⟩ : ∃ zs, zs = calmT v v.length 0 := ⟨_, rfl⟩
        rw [← hzg] at hO
        rw [calmT_end] at hzg
        have hzl : zs.length = v.length := by rw [hzg, calmG_len]
        have HBk := Lib.hid hBk
        have c0' := (hBk.cell (p := ⟨w.heap.size, 0, none⟩) (by have := HBB.out; simp only; omega)).trans c0
        have c1' := (hBk.cell (p := ⟨w.heap.size, 1, none⟩) (by have := HBB.out; simp only; omega)).trans c1
        have HcL : Hid (∀ W, Below B w1 W → Ints W (some ⟨B, 0, none⟩) v.length zs → Calls Tryz.prog 19 #[.agg #[.slice p v.length c, .int .i64 r], .slice qa v.length da, .slice (some ⟨B, 0, none⟩) v.length v.length] W fun e w' => ∃ t u, e = .returned (.agg #[.slice qa v.length da, .slice t v.length u, .int .i64 (lowN v.length (leaseL v r (bestA v) (calmG v)))]) ∧ Own w' W.heap.size t u (lowL v.length (leaseL v r (bestA v) (calmG v))) ∧ Below W.heap.size W w') := fun W hW hi => by
          have := HBB.out
          rw [hzg] at hi
          exact lease_any p qa (some ⟨B, 0, none⟩) c da v.length v r (bestA v) (calmG v) W (hx2.below hW (by omega)) (hI.below hW (by omega)) hi Hv.out hr1 hr2 HA.out Hsg.out
        have Hi := Lib.hid hO.ints
        clear hO hM hI c0 c1 hBk hx2 hzg hzl
        go_wp2_with fail
        refine (HcL.out _ HBk.out Hi.out).mono ?_
        rintro e w4 ⟨t, u, rfl, hOt, hb4⟩
        have hb5 := HBk.out.trans (hb4.mono (by have := HBk.out.size; have := HBB.out; omega))
        have h35 := H31.out.below hb5 (by have := HBB.out; omega)
        have H35 := Lib.hid h35
        have HA5 := Lib.hid (HAo.out.below hb5 (Nat.le_of_eq HBB.out))
        have HOt := Lib.hid hOt
        have HB5 := Lib.hid (HB.out.trans (hb5.mono (by have := HBB.out; omega)))
        have hszr : w.heap.size + 2 ≤ wr.heap.size := by have := HBk.out.size; omega
        obtain ⟨⟨x0, t0⟩, ⟨x1, t1⟩, ⟨x2, t2⟩, u0, u1, u2⟩ := h35
        clear hb4 hb5 hOt c0' c1'
        go_wp2_with fail
        clear t0 t1 t2 u0 u1 u2
        obtain ⟨Z, hZ⟩ : ∃ Z, lowN v.length (leaseL v r (bestA v) (calmG v)) = Z := ⟨_, rfl⟩
        rw [hZ] at HZ ⊢
        obtain ⟨k0, k1, k2⟩ := H35.out.set (.slice qa v.length da) (.slice t v.length u) (.int .i64 Z)
        refine bodyPost_ret (v := .tuple #[.agg #[.slice qa v.length da, .slice t v.length u, .int .i64 Z], .int .i64 0]) (by simp [results, Tryz.results8, go_sem, k0, k1, k2]) rfl ?_
        rw [HX.out, HY.out, HZ.out, HF.out]
        refine ⟨qa, da, t, u, by rw [HA.out.1, lowL_length, leaseL_len], ?_, ?_, ?_⟩
        · rw [← HX.out]
          exact (((HA5.out.setCell_far (j := 0) _ (by have := Hs0.out; omega)).setCell_far (j := 1) _ (by have := Hs0.out; omega)).setCell_far (j := 2) _ (by have := Hs0.out; omega)).ints
        · exact (((HOt.out.setCell_far (j := 0) _ (by omega)).setCell_far (j := 1) _ (by omega)).setCell_far (j := 2) _ (by omega)).ints
        · exact ((HB5.out.setCell (p := ⟨w.heap.size + 1, 0, none⟩) (by simp) _).setCell (p := ⟨w.heap.size + 1, 1, none⟩) (by simp) _).setCell (p := ⟨w.heap.size + 1, 2, none⟩) (by simp) _
  · have hcz : (chkR v r != 0) = true := by rw [bne_iff_ne]; exact hF
    have HX : Hid (bestI v r = []) := by unfold Hid bestI; rw [if_neg hF]
    have HY : Hid (leaY v r (calmG v) = []) := by unfold Hid leaY; rw [if_neg hF]
    have HZ : Hid (leaZ v r (calmG v) = 0) := by unfold Hid leaZ; rw [if_neg hF]
    have H31 := Lib.hid h31
    obtain ⟨⟨x0, t0⟩, ⟨x1, t1⟩, ⟨x2, t2⟩, u0, u1, u2⟩ := h31
    clear hF hM hI hx2
    go_wp2_with fail
    clear t0 t1 t2 u0 u1 u2
    obtain ⟨k0, k1, k2⟩ := H31.out.set (.slice none 0 0) (.slice none 0 0) (.int .i64 0)
    refine bodyPost_ret (v := .tuple #[.agg #[.slice none 0 0, .slice none 0 0, .int .i64 0], .int .i64 (chkR v r)]) (by simp [results, Tryz.results8, go_sem, k0, k1, k2]) rfl ?_
    rw [HX.out, HY.out, HZ.out]
    exact ⟨none, 0, none, 0, rfl, Ints.ofNil _, Ints.ofNil _, ((HB.out.setCell (p := ⟨w.heap.size + 1, 0, none⟩) (by simp) _).setCell (p := ⟨w.heap.size + 1, 1, none⟩) (by simp) _).setCell (p := ⟨w.heap.size + 1, 2, none⟩) (by simp) _⟩
end Go.Proofs.YtllcbcanohdepaaGreat

/- The walk of the reference's Twin: a copy, every row in a block of its own; at most 900000 rows, each of at most 900000 numbers. -/
namespace Go.Proofs.YtllcbcanohdepaaGreat
set_option linter.unusedVariables false
set_option linter.unusedSimpArgs false
open Go.ChangeShapes Go.WideShapes Go.ChangeAt Go.RowKit Go.Deep

theorem take_row (v : List (List Int)) {k : Nat} (h : k < v.length) : v.take (k + 1) = v.take k ++ [rget v k] := by
  rw [List.take_succ_eq_append_getElem h, rget_of h]

theorem twin_step {w wr w2 : World} {p' p2 : Option Addr} {c' : Nat} {v : List (List Int)} {Q : Nat → Option Addr} {D : Nat → Nat} (hb : Below w.heap.size w wr)
    (hD : DMat wr w.heap.size p' c' v Q D) (hg : (wr.alloc (.cells #[] 3)).grownBy w2 (blk (some ⟨wr.heap.size, 0, none⟩))) (hf : Fresh (wr.alloc (.cells #[] 3)) (some ⟨wr.heap.size, 0, none⟩) p2) :
    DMat w2 w.heap.size p' c' v Q D ∧ (∀ j, j < v.length → ∀ b, blk (Q j) = some b → blk p2 ≠ some b) ∧ Below w.heap.size w w2 := by
  have hsz := hb.size
  have hb1 : Below wr.heap.size wr w2 := by
    refine ((Below.refl _ _).alloc (Nat.le_refl _) _).grown hg (by simp) ?_
    intro b hbb
    simp [blk] at hbb; omega
  refine ⟨hD.below hb1 (Nat.le_refl _), ?_, hb.trans (hb1.mono hsz)⟩
  intro j hj b hbq e
  have h1 := (hD.lt j hj b hbq).2
  rcases hf b e with h2 | h2
  · simp [blk] at h2; omega
  · simp at h2; omega
theorem twin_step2 {w w2 w3 : World} {p' : Option Addr} {c' : Nat} {v : List (List Int)} {Q : Nat → Option Addr} {D : Nat → Nat} (hb : Below w.heap.size w w2)
    (hD : DMat w2 w.heap.size p' c' v Q D) (hg : w2.grownBy w3 (blk p')) (hsz : w.heap.size ≤ w2.heap.size) : Below w.heap.size w w3 :=
  hb.grown hg hsz (fun k hk => (hD.tmat.lt k hk).1)

set_option maxHeartbeats 800000 in
theorem twin_any (p : Option Addr) (c : Nat) (v : List (List Int)) (w : World) (hx : Mat w p c v) (hlen : v.length ≤ 900000) (hrow : ∀ j, j < v.length → (rget v j).length ≤ 900000) :
    Calls Tryz.prog 5 #[.slice p v.length c] w (GivesD w v) := by
  go_enter Tryz.func5, Tryz.ntmps5
  go_wp2
  go_loopw [3, 4] (fun t i wr => ∃ k : Nat, k ≤ v.length ∧ i = .int .i64 k ∧ (∃ u p' c' Q D, Hid (u = v.take k) ∧ t = .slice p' (u : List (List Int)).length c' ∧ DMat wr w.heap.size p' c' u Q D) ∧ Below w.heap.size w wr) (fun _ i _ => v.length - (intOf i).toNat)
  case atStart => exact ⟨0, by omega, rfl, ⟨[], none, 0, fun _ => none, fun _ => 0, rfl, rfl, DMat.ofNil _ _⟩, Below.refl _ _⟩
  case round =>
    obtain ⟨k, hk, rfl, ⟨u, p', c', Q, D, hu, rfl, hD⟩, hb⟩ := hrel
    have hx := hx.below hb (Nat.le_refl _)
    have hl1 := hx.length_le
    by_cases hlt : k < v.length
    · obtain ⟨b, o, rfl, _, q1, d1, hc, hi⟩ := hx.get hlt
      have hk1 : (k : Int) < v.length := by omega
      have hsz := hb.size
      have hr := hrow k hlt
      go_wp2_with (first
        | (at_builtin; refine wpList_app rfl (.tmp 12) (.tmp 16) rfl w.heap.size _ _ _ _ [] (rget v k) rfl rfl (Own.made _ _ hsz) (hi.below ((Below.refl _ _).alloc (Nat.le_refl _) _) (Nat.le_refl _)) (by simp; omega) (by simp; omega) ?_; intro p2 c2 w2 r2 hr2 hO2 hg2 hf2; obtain rfl : r2 = rget v k := hr2.out; obtain ⟨hD2, hn2, hb2⟩ := twin_step hb hD hg2 hf2; have hsz2 := hb2.size)
        | (at_builtin; refine wpList_appOwnRow rfl (.tmp 11) (.tmp 18) rfl w.heap.size _ _ _ Q D _ _ (rget v k) rfl rfl rfl hD2 hO2 hn2 (by have := congrArg List.length hu.out; rw [List.length_take] at this; omega) hsz2 ?_; intro p3 c3 w3 u3 hu3 hD3 hg3 hf3))
      have hb3 := twin_step2 hb2 hD2 hg3 hsz2
      go_wp2
      go_roundw
      case rel => exact ⟨k + 1, by omega, by go_num, ⟨_, _, _, _, _, by rw [take_row v hlt, ← hu.out]; exact hu3, rfl, hD3⟩, hb3⟩
      case measure => simp [intOf]; omega
    · have hk1 : ¬ (k : Int) < v.length := by omega
      obtain rfl : k = v.length := by omega
      obtain rfl : u = v := by rw [hu.out, List.take_length]
      go_wp2
      go_ret
      exact ⟨_, _, _, _, rfl, hD, hb⟩
end Go.Proofs.YtllcbcanohdepaaGreat
