/- The walk of AssignNames: the limits and errors are as they are told; no condition. -/
import Derived.Test.YtjjbeccimeehfaaStrict
import Derived.Test.YtjjbeccimeehfaaSt
import Derived.Deep.RegionWith
import Derived.Deep.DeepCutAuto
namespace Go.Proofs.Ytjjbeccimeehfaa
open Go.ChangeShapes Go.WideShapes Go.ChangeAt Go.RowKit Go.Deep
set_option linter.unusedVariables false
set_option linter.unusedSimpArgs false

def BADS : List (List (List Int)) := [[], [[]], [[1, 2]], [[1], [2]], [[-1]], [[1000001]], [[1, 2], [3]]]
theorem bads_bad : ∀ v ∈ BADS, chkI v = 8 := by decide +kernel
def LISTS : List (List Int) := [[], [0], [0, 0], [0, 2], [-1, 0], [0, 1, 2]]
theorem lists_bad : ∀ a ∈ LISTS, valE GV a = 8 ∧ prvE GV a [0, 0] = 8 ∧ a.length ≤ 3 := by decide +kernel
def ONE : List (List Int) := [[1000000]]
def SIX : List (List Int) := [[0, 1, 0, 0, 0, 0], [0, 0, 1, 0, 0, 0], [0, 0, 0, 1, 0, 0], [0, 0, 0, 0, 1, 0], [0, 0, 0, 0, 0, 1], [9, 0, 0, 0, 0, 0]]
theorem one_bids : Bids ONE := by decide +kernel
theorem six_bids : Bids SIX := by decide +kernel
theorem one_best : IsBest ONE [0] := isBest_of_chk (by decide +kernel)
theorem six_best : IsBest SIX [1, 2, 3, 4, 5, 0] := strict_chk (by decide +kernel) (by decide +kernel)
theorem one_bestL : bestL ONE = [0] := by unfold bestL; rw [if_pos one_bids, bestA_eq one_best]
theorem six_bestL : bestL SIX = [1, 2, 3, 4, 5, 0] := by unfold bestL; rw [if_pos six_bids, bestA_eq six_best]
theorem one_bestN : bestN ONE = 1000000 := by unfold bestN; rw [if_pos one_bids, bestA_eq one_best]; decide +kernel
theorem six_bestN : bestN SIX = 14 := by unfold bestN; rw [if_pos six_bids, bestA_eq six_best]; decide +kernel
theorem one_priceL : priceL ONE = [0] := by unfold priceL; rw [if_pos one_bids, bestA_eq one_best, ← bfR_least one_best one_bids.1]; decide +kernel
theorem one_harmL : harmL ONE = [0] := by
  have h0 : IsBest (zeroed ONE 0) [0] := isBest_of_chk (by decide +kernel)
  unfold harmL
  rw [if_pos one_bids]
  show [harmN ONE (bestA ONE) 0] = _
  unfold harmN
  rw [bestA_eq h0, bestA_eq one_best]
  decide +kernel

theorem list_at {k : Nat} (h : k < 6) : valE GV (rget LISTS k) = 8 ∧ prvE GV (rget LISTS k) [0, 0] = 8 ∧ (rget LISTS k).length ≤ 3 := lists_bad _ (rget_mem h)

set_option maxHeartbeats 8000000 in
set_option maxRecDepth 100000 in
theorem names_walk (w : World) : Calls Try.prog 8 #[] w fun e w' => e = .returned (.bool true) ∧ Below w.heap.size w w' := by
  have hS := St.start w
  replace hS := ((hS.lit [] 0).litM (ks := [0]) (.cons rfl .nil) 1).lit [1, 2] 2
  replace hS := ((hS.litM (ks := [0]) (.cons rfl .nil) 1).lit [1] 1).lit [2] 1
  replace hS := ((hS.litM (ks := [1, 0]) (.cons rfl (.cons rfl .nil)) 2).lit [-1] 1).litM (ks := [0]) (.cons rfl .nil) 1
  replace hS := (((hS.lit [1000001] 1).litM (ks := [0]) (.cons rfl .nil) 1).lit [1, 2] 2).lit [3] 1
  replace hS := (hS.litM (ks := [1, 0]) (.cons rfl (.cons rfl .nil)) 2).litMs (ks := [0, 12, 10, 7, 5, 3, 0]) (.nul (.cons rfl (.cons rfl (.cons rfl (.cons rfl (.cons rfl (.cons rfl .nil))))))) 22
  obtain ⟨G, hG0, hGs, hG⟩ := hS.frame
  clear hS
  go_enter Try.func8, Try.ntmps8
  go_wp2_with fail
  go_loopw [2] (fun i wr => ∃ k : Nat, k ≤ 7 ∧ i = .int .i64 k ∧ G wr) (fun i _ => 7 - (intOf i).toNat)
  case atStart => exact ⟨0, by omega, rfl, hG0⟩
  case round =>
    obtain ⟨k, hk, rfl, hGr⟩ := hrel
    have hS := hG.out _ hGr
    by_cases hlt : k < 7
    · obtain ⟨v, hv⟩ : ∃ v, BADS[k]? = some v := ⟨_, List.getElem?_eq_getElem hlt⟩
      obtain ⟨p, c, hc, hM⟩ := hS.matsAt 0 (ms := BADS) rfl k v hv
      have h8 := bads_bad v (List.mem_of_getElem? hv)
      have hk1 : (k : Int) < 7 := by omega
      have H8 := Lib.hid h8
      clear hv h8 hS
      go_wp2_with fail
      refine (check_e rfl H8.out hM).mono ?_
      rintro e w' ⟨rfl, rfl⟩
      go_wp2_with fail
      go_roundw
      case rel => exact ⟨k + 1, by omega, by go_num, hGr⟩
      case measure => simp [intOf]; omega
    · have hk1 : ¬ (k : Int) < 7 := by omega
      clear hG0 hG hGs hGr
      have hmk : ∀ W, (Instr.makeSlice 22 (.int .i64 7) (.int .i64 7)).run Try.prog W = .ok (.slice (some ⟨W.heap.size, 0, none⟩) 7 7) (W.alloc (.cells #[.slice none 0 0, .slice none 0 0, .slice none 0 0, .slice none 0 0, .slice none 0 0, .slice none 0 0, .slice none 0 0] 25)) := fun _ => by kernel_rfl
      replace hS := hS.mkM 7
      go_wp2_with fail
      refine (check_e (y := 4) rfl (by decide +kernel) (hS.matAt 0 rfl)).mono ?_
      rintro e w' ⟨rfl, rfl⟩
      replace hS := ((hS.lit [1000000] 1).litM (ks := [0]) (.cons rfl .nil) 1).lit [0] 1
      replace hS := ((hS.lit [0, 0] 2).lit [0, 2] 2).lit [-1, 0] 2
      replace hS := (hS.lit [0, 1, 2] 3).litM (ks := [100, 4, 3, 2, 1, 0]) (.nul (.cons rfl (.cons rfl (.cons rfl (.cons rfl (.cons rfl .nil)))))) 6
      obtain ⟨G, hG0, hGs, hG⟩ := hS.frame
      clear hS
      go_wp2_with fail
      go_loopw [6, 7, 8, 9, 10] (fun i _ _ _ _ wr => ∃ k : Nat, k ≤ 6 ∧ i = .int .i64 k ∧ G wr) (fun i _ _ _ _ _ => 6 - (intOf i).toNat)
      case atStart => exact ⟨0, by omega, rfl, hG0⟩
      case round =>
        obtain ⟨k, hk, rfl, hGr⟩ := hrel
        have hS := hG.out _ hGr
        by_cases hlt : k < 6
        · obtain ⟨q, d, hc, hI⟩ := (hS.matAt 0 (v := LISTS) rfl).at (j := k) hlt
          obtain ⟨h1, h2, h3⟩ := list_at hlt
          rw [Nat.zero_add] at hc
          have hk1 : (k : Int) < 6 := by omega
          have H1 := Lib.hid h1
          have H2 := Lib.hid h2
          clear h1 h2 hS
          go_upto_region 13 with (fail)
          go_cut [7, 8] (fun s7 s8 wx => (∃ x, s7 = .int .i64 x) ∧ s8 = .int .i64 8 ∧ G wx)
          case first =>
            have hGd := hGs.out _ _ hGr (below_drewN wr.heap.size wr 1)
            have hId := hI.drewN 1
            go_region_with (first
              | (go_at_call 31; refine (given_any _).mono ?_; rintro e w3 ⟨pg, cg, rfl, hMg, hbg⟩; have hG3 := hGs.out _ _ hGd hbg; have hc3 := (hbg.cell (p := ⟨_, k, none⟩) (World.block_lt_of_cell? _ _ hc)).trans hc; have hI3 := hId.below hbg (Nat.le_refl _))
              | (go_at_call 22; refine (value_e (v := GV) rfl rfl rfl H1.out (by omega) hMg hI3).mono ?_; rintro e w4 ⟨rfl, hb4⟩; have hG4 := hGs.out _ _ hG3 hb4))
            all_goals (go_wp2_with fail; go_meet; exact ⟨⟨_, rfl⟩, rfl, hG4⟩)
          case rest =>
            obtain ⟨⟨x, rfl⟩, rfl, hGc⟩ := hcut
            have hS := hG.out _ hGc
            obtain ⟨q, d, hc, hI⟩ := (hS.matAt 0 (v := LISTS) rfl).at (j := k) hlt
            rw [Nat.zero_add] at hc
            clear hS
            go_upto_region 14 with (fail)
            go_cut [9, 10] (fun s9 s10 wx => (∃ x, s9 = .bool x) ∧ s10 = .int .i64 8 ∧ G wx)
            case first =>
              have hB1 : Below wc.heap.size wc wc.drew := below_drewN wc.heap.size wc 1
              have hB2 : Below wc.heap.size wc (wc.alloc (.cells #[.int .i64 0, .int .i64 0] 3)).drew := ((Below.refl _ wc).alloc (Nat.le_refl _) _).drew
              have hGd := hGs.out _ _ hGc hB1
              have hGa := hGs.out _ _ hGc hB2
              have hcd : wc.drew.cell? ⟨_, k, none⟩ = _ := hc
              have hId := hI.below hB1 (Nat.le_refl _)
              have hIa := hI.below hB2 (Nat.le_refl _)
              have hlb := World.block_lt_of_cell? _ _ hc
              simp only at hlb
              have hca := (hB2.cell (p := ⟨_, k, none⟩) hlb).trans hc
              have hLa : Ints (wc.alloc (.cells #[.int .i64 0, .int .i64 0] 3)).drew (some ⟨wc.heap.size, 0, none⟩) 2 [0, 0] := (ints_lit wc [0, 0] (by simp) (in64_all (by decide +kernel))).drewN 1
              have hg2 : GV.length = 2 := rfl
              have hz2 : ([0, 0] : List Int).length = 2 := rfl
              have hm6 : (rget LISTS k).length ≤ 1000000 := by omega
              go_region_with (first
                | (go_at_call 31; (with_reducible refine (given_any wc.drew).mono ?_); rintro e w3 ⟨pg, cg, rfl, hMg, hbg⟩; have hG3 := hGs.out _ _ hGd hbg; have hc3 := (hbg.cell (World.block_lt_of_cell? _ _ hcd)).trans hcd; have hlt3 := World.block_lt_of_cell? _ _ hc3; simp only at hlt3; have hI3 := Ints.below hId hbg (Nat.le_refl _); have hB3 : Below w3.heap.size w3 (w3.alloc (.cells #[.int .i64 0, .int .i64 0] 3)) := (Below.refl _ w3).alloc (Nat.le_refl _) _; have hG3a := hGs.out _ _ hG3 hB3; have hM3a := hMg.below hB3 (Nat.le_refl _); have hI3a := hI3.below hB3 (Nat.le_refl _); have hL3a : Ints (w3.alloc (.cells #[.int .i64 0, .int .i64 0] 3)) (some ⟨w3.heap.size, 0, none⟩) 2 [0, 0] := ints_lit w3 [0, 0] (by simp) (in64_all (by decide +kernel)))
                | (go_at_call 31; (with_reducible refine (given_any (wc.alloc (.cells #[.int .i64 0, .int .i64 0] 3)).drew).mono ?_); rintro e w3 ⟨pg, cg, rfl, hMg, hbg⟩; have hG3 := hGs.out _ _ hGa hbg; have hc3 := (hbg.cell (World.block_lt_of_cell? _ _ hca)).trans hca; have hlt3 := World.block_lt_of_cell? _ _ hc3; simp only at hlt3; have hI3 := Ints.below hIa hbg (Nat.le_refl _); have hL3 := Ints.below hLa hbg (Nat.le_refl _))
                | (go_at_call 24; first | ((with_reducible refine (proves_e (v := GV) (pr := [0, 0]) (w := (w3.alloc (.cells #[.int .i64 0, .int .i64 0] 3))) hg2 rfl hz2 rfl H2.out hm6 hM3a hI3a hL3a).mono ?_); rintro e w4 ⟨rfl, hb4⟩; have hG4 := hGs.out _ _ hG3a hb4) | ((with_reducible refine (proves_e (v := GV) (pr := [0, 0]) (w := w3) hg2 rfl hz2 rfl H2.out hm6 hMg hI3 hL3).mono ?_); rintro e w4 ⟨rfl, hb4⟩; have hG4 := hGs.out _ _ hG3 hb4)))
              all_goals (go_wp2_with fail; go_meet; exact ⟨⟨_, rfl⟩, rfl, hG4⟩)
            case rest =>
              obtain ⟨⟨x, rfl⟩, rfl, hGc⟩ := hcut
              go_wp2_with fail
              go_roundw
              case rel => exact ⟨k + 1, by omega, by go_num, hGc⟩
              case measure => simp [intOf]; omega
        · have hk1 : ¬ (k : Int) < 6 := by omega
          clear hG0 hG hGs hGr
          replace hS := hS.pop.pop.pop.pop.pop.pop
          go_wp2_with fail
          refine (given_any _).mono ?_
          rintro e w1 ⟨p1, c1, rfl, hM, hb⟩
          replace hS := (((hS.step hb).addM (n := 2) rfl hM).lit [1, 0] 2).lit [0] 1
          clear hM hb
          go_wp2_with fail
          refine (proves_e (v := GV) (a := [1, 0]) (pr := [0]) (y := 8) rfl rfl rfl rfl (by decide +kernel) (by decide) (hS.matAt 2 rfl) (hS.intsAt 1 rfl) (hS.intsAt 0 rfl)).mono ?_
          rintro e w2 ⟨rfl, hb⟩
          replace hS := (hS.step hb).pop.pop.pop
          clear hb
          go_wp2_with fail
          refine (given_any _).mono ?_
          rintro e w1 ⟨p1, c1, rfl, hM, hb⟩
          replace hS := (((hS.step hb).addM (n := 2) rfl hM).lit [1, 0] 2).lit [0, -1] 2
          clear hM hb
          go_wp2_with fail
          refine (proves_e (v := GV) (a := [1, 0]) (pr := [0, -1]) (y := 8) rfl rfl rfl rfl (by decide +kernel) (by decide) (hS.matAt 2 rfl) (hS.intsAt 1 rfl) (hS.intsAt 0 rfl)).mono ?_
          rintro e w2 ⟨rfl, hb⟩
          replace hS := (hS.step hb).pop.pop.pop
          clear hb
          go_wp2_with fail
          refine (given_any _).mono ?_
          rintro e w1 ⟨p1, c1, rfl, hM, hb⟩
          replace hS := (((hS.step hb).addM (n := 2) rfl hM).lit [1, 0] 2).lit [10000001, 0] 2
          clear hM hb
          go_wp2_with fail
          refine (proves_e (v := GV) (a := [1, 0]) (pr := [10000001, 0]) (y := 8) rfl rfl rfl rfl (by decide +kernel) (by decide) (hS.matAt 2 rfl) (hS.intsAt 1 rfl) (hS.intsAt 0 rfl)).mono ?_
          rintro e w2 ⟨rfl, hb⟩
          replace hS := (hS.step hb).pop.pop.pop
          clear hb
          go_wp2_with fail
          refine (best_e (v := ONE) (y := 0) rfl one_bestL rfl one_bestN (by decide +kernel) (hS.matAt 0 rfl)).mono ?_
          rintro e w2 ⟨qx, dx, rfl, hI, hb⟩
          replace hS := (hS.step hb).addI (n := 1) rfl hI
          clear hI hb
          go_wp2_with fail
          refine (prices_e (v := ONE) (y := 0) rfl one_priceL rfl (by decide +kernel) (hS.matAt 1 rfl)).mono ?_
          rintro e w2 ⟨qp, dp, rfl, hI, hb⟩
          replace hS := (hS.step hb).addI (n := 1) rfl hI
          clear hI hb
          go_wp2_with fail
          refine (harm_e (v := ONE) (y := 0) rfl one_harmL rfl (by decide +kernel) (hS.matAt 2 rfl)).mono ?_
          rintro e w2 ⟨qh, dh, rfl, hI, hb⟩
          replace hS := (hS.step hb).addI (n := 1) rfl hI
          clear hI hb
          go_wp2_with fail
          refine (given_any _).mono ?_
          rintro e w1 ⟨p1, c1, rfl, hM, hb⟩
          replace hS := ((hS.step hb).addM (n := 2) rfl hM).lit [0, 1] 2
          clear hM hb
          go_wp2_with fail
          refine (value_e (v := GV) (a := [0, 1]) (x := 6) (y := 0) rfl rfl (by decide +kernel) (by decide +kernel) (by decide) (hS.matAt 1 rfl) (hS.intsAt 0 rfl)).mono ?_
          rintro e w2 ⟨rfl, hb⟩
          replace hS := (hS.step hb).pop.pop
          clear hb
          replace hS := ((hS.lit [0, 1, 0, 0, 0, 0] 6).lit [0, 0, 1, 0, 0, 0] 6).lit [0, 0, 0, 1, 0, 0] 6
          replace hS := ((hS.lit [0, 0, 0, 0, 1, 0] 6).lit [0, 0, 0, 0, 0, 1] 6).lit [9, 0, 0, 0, 0, 0] 6
          replace hS := hS.litM (ks := [5, 4, 3, 2, 1, 0]) (.cons rfl (.cons rfl (.cons rfl (.cons rfl (.cons rfl (.cons rfl .nil)))))) 6
          go_wp2_with fail
          refine (best_e (v := SIX) (y := 0) rfl six_bestL rfl six_bestN (by decide +kernel) (hS.matAt 0 rfl)).mono ?_
          rintro e w2 ⟨qy, dy, rfl, hI, hb⟩
          replace hS := (hS.step hb).addI (n := 6) rfl hI
          clear hI hb
          go_wp2_with fail
          refine (alive_any _).mono ?_
          rintro e w1 ⟨rfl, hb⟩
          replace hS := hS.step hb
          clear hb
          go_wp2_with fail
          refine (check_e (v := ONE) (y := 0) rfl (by decide +kernel) (hS.matAt 11 rfl)).mono ?_
          rintro e w' ⟨rfl, rfl⟩
          replace hS := hS.lit [0] 1
          go_wp2_with fail
          refine (same_e rfl rfl rfl (hS.intsAt 11 rfl) (hS.intsAt 0 rfl)).mono ?_
          rintro e w1 ⟨rfl, hw⟩
          replace hS := (hS.drew hw).pop
          clear hw
          replace hS := hS.lit [0] 1
          go_wp2_with fail
          refine (same_e rfl rfl rfl (hS.intsAt 10 rfl) (hS.intsAt 0 rfl)).mono ?_
          rintro e w1 ⟨rfl, hw⟩
          replace hS := (hS.drew hw).pop
          clear hw
          replace hS := hS.lit [0] 1
          go_wp2_with fail
          refine (same_e rfl rfl rfl (hS.intsAt 9 rfl) (hS.intsAt 0 rfl)).mono ?_
          rintro e w1 ⟨rfl, hw⟩
          replace hS := (hS.drew hw).pop
          clear hw
          replace hS := hS.lit [1, 2, 3, 4, 5, 0] 6
          go_wp2_with fail
          refine (same_e rfl rfl rfl (hS.intsAt 1 rfl) (hS.intsAt 0 rfl)).mono ?_
          rintro e w1 ⟨rfl, hw⟩
          replace hS := (hS.drew hw).pop
          clear hw
          go_wp2_with fail
          go_ret
          exact ⟨rfl, hS.bel⟩
end Go.Proofs.Ytjjbeccimeehfaa
