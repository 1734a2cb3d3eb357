/- The walk of the reference's Links, for every flat. -/
import Derived.Test.YtojldecldemfaaaRoomB
namespace Go.Proofs.Ytojldecldemfaaa
set_option linter.unusedVariables false
set_option linter.unusedSimpArgs false
open Go.ChangeShapes Go.WideShapes Go.ChangeAt Go.RowKit Go.Deep

theorem cell_one_at {W : World} {v : Value} {t : TypeId} {B : Nat} (hB : W.heap.size = B) : ∀ (j : Nat) (u : Value), [v][j]? = some u → (W.alloc (.cells #[v] t)).cell? ((⟨B, 0, none⟩ : Addr).add j) = some u := by
  subst hB; exact cell_one_new _ _ _
theorem most_okR (p : Option Addr) (c : Nat) (v : List (List Int)) (w : World) (hx : Mat w p c v) (hv : Bids v) :
    Calls Try.prog 43 #[.slice p v.length c] w fun e w' => ∃ q d, e = .returned (.slice q v.length d) ∧ Own w' w.heap.size q d (bestA v) ∧ Below w.heap.size w w' := by
  refine (most_any p c v w hx hv).mono ?_
  rintro e w' ⟨q, d, rfl, hO, hb⟩
  exact ⟨q, d, by rw [(bestA_best hv.1).1.1], hO, hb⟩
theorem linkL_len (v : List (List Int)) (a : List Int) : (linkL v a).length = v.length := by simp [linkL]
theorem linkL_row {v : List (List Int)} {a : List Int} {k : Nat} (hk : k < v.length) : rget (linkL v a) k = (List.range v.length).map fun j => lnkS (wl v a) v.length k j := by simp [linkL, rget, hk]
theorem linkL_row_len {v : List (List Int)} {a : List Int} {k : Nat} (hk : k < v.length) : (rget (linkL v a) k).length = v.length := by rw [linkL_row hk]; simp
theorem linkL_snoc {v : List (List Int)} {a : List Int} {k m : Nat} (hk : k < v.length) (hm : m < v.length) : (rget (linkL v a) k).take (m + 1) = (rget (linkL v a) k).take m ++ [lnkS (wl v a) v.length k m] := by
  rw [List.take_succ_eq_append_getElem (by rw [linkL_row_len hk]; exact hm)]
  simp [linkL_row hk]

set_option maxHeartbeats 8000000 in
set_option maxRecDepth 100000 in
theorem refLinks_any (p : Option Addr) (c : Nat) (v : List (List Int)) (r : Int) (w : World) (hx : Mat w p c v) :
    Calls Try.prog 14 #[.agg #[.slice p v.length c, .int .i64 r]] w (GivesD2 w (linksL v r) (chkR v r)) := by
  have hb0 : Below w.heap.size w (w.alloc (.cells #[.slice p v.length c, .int .i64 r] 24)) := (Below.refl _ _).alloc (Nat.le_refl _) _
  have hx1 := hx.below hb0 (Nat.le_refl _)
  obtain ⟨i0, hi0, hz0, hz1, hz2⟩ := info_parts infoInt
  by_cases hF : chkR v r = 0
  · obtain ⟨hv, hr1, hr2⟩ := chkR_zero.1 hF
    have h6 := hv.2.1
    have h0 := hv.1
    have hmk := fun W => run_mkB v.length (by omega) W
    have hcz : (chkR v r != 0) = false := by rw [hF]; rfl
    have HL : Hid (linksL v r = linkL v (bestA v)) := by unfold Hid linksL; rw [if_pos hF]
    have HF := Lib.hid hF
    have Hv := Lib.hid hv
    have HB := Lib.hid (bestA_best hv.1)
    clear hF hv
    go_enter Try.func14, Try.ntmps14
    go_wp2_with fail
    refine (refCheckR_any p c v r _ hx1).mono ?_
    rintro e w1 ⟨rfl, hb1⟩
    have hx2 := hx1.below hb1 (Nat.le_refl _)
    have hB1 := hb0.trans (hb1.mono (by simp))
    have hbx : w1.cell? ⟨w.heap.size, 0, none⟩ = some (.slice p v.length c) := (hb1.cell (p := ⟨w.heap.size, 0, none⟩) (by simp)).trans (by simp)
    clear hb0 hx1 hb1
    go_wp2_with fail
    refine (most_okR p c v w1 hx2 Hv.out).mono ?_
    rintro e w2 ⟨pa, ca, rfl, hAo, hb2⟩
    have hA := hAo.ints
    clear hAo
    have hx3 := hx2.below hb2 (Nat.le_refl _)
    have hbx2 := (hb2.cell (p := ⟨w.heap.size, 0, none⟩) (World.block_lt_of_cell? _ _ hbx)).trans hbx
    have hB2 := hB1.trans (hb2.mono hB1.size)
    have hlt2 := World.block_lt_of_cell? _ _ hbx2
    simp only at hlt2
    clear hb2 hx2 hbx hB1
    obtain ⟨a, ha⟩ : ∃ a, bestA v = a := ⟨_, rfl⟩
    obtain ⟨B0, hB0⟩ : ∃ B0, w2.heap.size = B0 := ⟨_, rfl⟩
    have hle0 : w.heap.size ≤ B0 := by omega
    have hlt0 : w.heap.size < B0 := by omega
    rw [ha] at hA HB HL
    have HB0 := Lib.hid hB0
    clear hB0 ha
    go_wp2_with fail
    go_loopw [5, 6] (fun s i wr => ∃ k : Nat, k ≤ v.length ∧ i = .int .i64 k ∧ (∃ u p' c' Q D, Hid (u = (linkL v a).take k) ∧ s = .slice p' (u : List (List Int)).length c' ∧ DMat wr B0 p' c' u Q D) ∧ Below B0 w2 wr) (fun _ i _ => v.length - (intOf i).toNat)
    case atStart => exact ⟨0, by omega, rfl, ⟨[], none, 0, fun _ => none, fun _ => 0, rfl, rfl, DMat.ofNil _ _⟩, Below.refl _ _⟩
    case round =>
      obtain ⟨k, hk, rfl, ⟨u, p', c', Q, D, hu, rfl, hU⟩, hB⟩ := hrel
      have hbr := (hB.cell (p := ⟨w.heap.size, 0, none⟩) hlt0).trans hbx2
      have hszr := hB.size
      rw [HB0.out] at hszr
      by_cases hlt : k < v.length
      · have hk1 : (k : Int) < v.length := by omega
        obtain ⟨W9, hW9⟩ : ∃ W9, W9 = wr := ⟨_, rfl⟩
        subst hW9
        obtain ⟨B1, hB1⟩ : ∃ B1, W9.heap.size = B1 := ⟨_, rfl⟩
        have hle1 : B0 ≤ B1 := by omega
        have hlt1 : w.heap.size < B1 := by omega
        have HB1 := Lib.hid hB1
        clear hB1
        go_wp2_with fail
        go_loopw [7, 8] (fun s i wj => ∃ m : Nat, m ≤ v.length ∧ i = .int .i64 m ∧ (∃ rr q' d', Hid (rr = (rget (linkL v a) k).take m) ∧ s = .slice q' (rr : List Int).length d' ∧ Own wj B1 q' d' rr) ∧ Below B1 W9 wj) (fun _ i _ => v.length - (intOf i).toNat)
        case atStart => exact ⟨0, by omega, rfl, ⟨[], none, 0, rfl, rfl, Own.ofNil _ _⟩, Below.refl _ _⟩
        case round =>
          obtain ⟨m, hm, rfl, ⟨rr, q', d', hr, rfl, hR⟩, hbj⟩ := hrel
          have hszj := hbj.size
          rw [HB1.out] at hszj
          have hbxj := (hbj.cell (p := ⟨w.heap.size, 0, none⟩) hlt1).trans hbr
          by_cases hlt2 : m < v.length
          · have hm1 : (m : Int) < v.length := by omega
            have hltj : w.heap.size < wr.heap.size := by omega
            have hbw : Below w2.heap.size w2 wr := by rw [HB0.out]; exact hB.trans (hbj.mono hle1)
            have hlink := fun W (h : W = wr) => h ▸ link0_any (wr := wr) hx3 hA Hv.out HB.out.1 hlt hlt2 hbw
            have Hlink := Lib.hid hlink
            have hbl := lnkS_bound Hv.out HB.out.1 m hlt
            have Hs := Lib.hid (linkL_snoc (v := v) (a := a) hlt hlt2)
            have hrr : rr.length ≤ 900000 := by rw [hr.out, List.length_take]; omega
            clear hlink hbw
            obtain ⟨L, hL⟩ : ∃ L, lnkS (wl v a) v.length k m = L := ⟨_, rfl⟩
            rw [hL] at hbl Hs Hlink
            clear hL
            have hy64 : in64 L := ⟨by omega, by omega⟩
            go_wp2_with fail
            go_region_law (first
              | (refine step_append_lies _ rfl (.tmp 31) (.tmp 42) 26 rfl B1 3 i0 (.int .i64 0) 1 8 Try.underlying26 hi0 hz0 hz1 hz2 rfl (by decide) (.slice q' rr.length d') rr.length (rr.map (Value.int .i64)) (by simp [Act.eval, Act.put]) (show Own _ B1 _ _ rr from by repeat (first | exact hR | apply Own.drewN | apply Own.drew1 | apply Own.alloc)).row ⟨wr.heap.size + 1, 0, none⟩ 1 1 [.int .i64 L] (by simp [Act.eval, Act.put]) rfl (cell_one_at (by simp)) (by simp [Value.oneCell']) (by decide) (by simp [maxLen]; omega) (by omega) (by simp; omega) _ rfl ?_; intro g cap w3 hown3 hg3 hor3 hlt3)
              | (go_simp; go_at_call 47; refine (Hlink.out _ rfl).mono ?_; rintro e w' ⟨rfl, N, rfl⟩))
            all_goals
              have hb3 : Below B1 W9 w3 := Below.grown (show Below B1 W9 _ from by repeat (first | exact hbj | apply Below.drewN' | apply Below.drew | refine Below.alloc ?_ (by first | omega | (simp; omega)) _)) hg3 (by simp; omega) (fun k' e => by rw [ownBlock_slice] at e; exact (hR.lt k' e).1)
              go_wp2_with fail
              go_roundw
              case rel => exact ⟨m + 1, by omega, by go_num, ⟨rr ++ [L], _, cap, by unfold Hid; rw [Hs.out, hr.out], by simp, own_snocR hown3 hR.rng hy64⟩, hb3⟩
              case measure => simp [intOf]; omega
          · have hm1 : ¬ (m : Int) < v.length := by omega
            obtain rfl : m = v.length := by omega
            have hrw : rr = rget (linkL v a) k := by rw [hr.out, List.take_of_length_le (by rw [linkL_row_len hlt]; exact Nat.le_refl _)]
            have hU2 := hU.below hbj (Nat.le_of_eq HB1.out)
            have hul : u.length ≤ 900000 := by have := congrArg List.length hu.out; rw [List.length_take] at this; omega
            have hR2 := hR.lower hle1
            have hnew : ∀ j, j < u.length → ∀ k', blk (Q j) = some k' → blk q' ≠ some k' := fun j hj k' e1 e2 => by
              have h1 := (hU.lt j hj k' e1).2
              have h2 := (hR.lt k' e2).1
              have := HB1.out
              omega
            have hBj : Below B0 w2 wr := hB.trans (hbj.mono hle1)
            have Hrw := Lib.hid hrw
            clear hrw hr
            go_wp2_with (at_builtin; refine wpList_appOwnRow rfl (.tmp 44) (.tmp 46) rfl B0 _ _ _ Q D _ _ rr rfl rfl rfl hU2 hR2 hnew hul (by omega) ?_; intro p3 c3 w3 u3 hu3 hD3 hg3 hf3)
            go_roundw
            case rel => exact ⟨k + 1, by omega, by go_num, ⟨u3, _, _, _, _, by unfold Hid; rw [hu3.out, hu.out, Hrw.out, take_rows _ (by rw [linkL_len]; exact hlt)], rfl, hD3⟩, hBj.grown hg3 (by omega) (fun k' e => (hU2.tmat.lt k' e).1)⟩
            case measure => simp [intOf]; omega
      · have hk1 : ¬ (k : Int) < v.length := by omega
        obtain rfl : k = v.length := by omega
        have hul : u = linkL v a := by rw [hu.out, List.take_of_length_le (by rw [linkL_len]; exact Nat.le_refl _)]
        subst hul
        have HDe := Lib.hid hU
        have HBb := Lib.hid hB
        clear hU hB
        go_wp2_with fail
        go_ret2
        rw [HL.out, HF.out]
        exact ⟨p', c', Q, D, rfl, ⟨HDe.out.tmat.top.lower' hle0, fun i hi => (HDe.out.rows i hi).lower hle0, HDe.out.apart⟩, hB2.trans (HBb.out.mono hle0)⟩
  · have hcz : (chkR v r != 0) = true := by rw [bne_iff_ne]; exact hF
    have HL : Hid (linksL v r = []) := by unfold Hid linksL; rw [if_neg hF]
    clear hF
    go_enter Try.func14, Try.ntmps14
    go_wp2_with fail
    refine (refCheckR_any p c v r _ hx1).mono ?_
    rintro e w1 ⟨rfl, hb1⟩
    have hbx : w1.cell? ⟨w.heap.size, 0, none⟩ = some (.slice p v.length c) := (hb1.cell (p := ⟨w.heap.size, 0, none⟩) (by simp)).trans (by simp)
    have hbx2 : w1.cell? ⟨w.heap.size, 1, none⟩ = some (.int .i64 r) := (hb1.cell (p := ⟨w.heap.size, 1, none⟩) (by simp)).trans (by simp)
    have hx2 := hx1.below hb1 (Nat.le_refl _)
    have hB1 := hb0.trans (hb1.mono (by simp))
    go_wp2_with fail
    refine (refCheckR_any p c v r _ hx2).mono ?_
    rintro e w2 ⟨rfl, hb2⟩
    go_wp2_with fail
    go_ret2
    rw [HL.out]
    exact ⟨none, 0, fun _ => none, fun _ => 0, rfl, DMat.ofNil _ _, hB1.trans (hb2.mono hB1.size)⟩
end Go.Proofs.Ytojldecldemfaaa
