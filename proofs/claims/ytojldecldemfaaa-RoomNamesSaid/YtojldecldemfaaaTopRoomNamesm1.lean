/- RoomNames: for every input the law returns true, and each argument reads as it read before; no condition. -/
import Derived.Test.YtojldecldemfaaaTopRoomRentsm21
import Derived.Test.YtojldecldemfaaaTopRoomRentsm16
import Derived.Test.YtojldecldemfaaaTopRoomRentsm20
import Derived.Deep.RegionHeld3
import Derived.BigQuiet
import Derived.ChangeOld
namespace Go.Proofs.Ytojldecldemfaaa
set_option linter.unusedVariables false
set_option linter.unusedSimpArgs false
open Go.ChangeShapes Go.WideShapes Go.ChangeAt Go.RowKit Go.Deep

/-- 'make([][]int, n)' at a numeral, run wherever it stands. -/
theorem run_mkM (n : Nat) (hn : n ≤ 100000) (W : World) : (Instr.makeSlice 22 (.int .i64 (n : Int)) (.int .i64 (n : Int))).run Try.prog W = .ok (.slice (some ⟨W.heap.size, 0, none⟩) n n) (W.alloc (.cells (List.replicate n (.slice none 0 0)).toArray 26)) := by
  obtain ⟨i, hi, hz0, hz1, hz2⟩ := info_parts infoRow
  have hrun := run_make (P := Try.prog) W 22 26 i (.slice none 0 0) Try.underlying22 hi hz0 .i64 .i64 (n : Int) (n : Int) (by omega) (by omega) (by rw [hz2]; omega) (by omega)
  rw [hz1] at hrun
  simp only [Int.toNat_natCast] at hrun
  have hcs : madeCells (Value.slice none 0 0).cells (n * 1) = (List.replicate n (Value.slice none 0 0)).toArray := by
    apply Array.toList_inj.1
    rw [Nat.mul_one]
    exact (toList_madeCells_one _ _).trans (by simp)
  rw [hcs] at hrun
  exact hrun
theorem gns_bad {v : List (List Int)} {r z : Int} {al ps : List Int} (h : vldR v r al ps z = 8) : gnsL v r al ps z = [] := by unfold gnsL; rw [if_neg (by rw [h]; decide)]
theorem even_bad {v : List (List Int)} {r : Int} (h : chkR v r ≠ 0) : evenX v r = [] ∧ evenY v r = [] ∧ evenZ v r = 0 := by
  unfold evenX evenY evenZ; rw [if_neg h, if_neg h, if_neg h]; exact ⟨rfl, rfl, rfl⟩
theorem six14_best : IsBest [[4, 1, 0], [4, 0, 1], [4, 0, 0]] [1, 2, 0] := isBest_of_chk (by decide +kernel)
theorem one14_best : IsBest [[7]] [0] := isBest_of_chk (by decide +kernel)
set_option maxHeartbeats 16000000 in
set_option maxRecDepth 100000 in
theorem roomNames_walk (w : World) : Calls Try.prog 5 #[] w fun e w' => e = .returned (.bool true) ∧ Below w.heap.size w w' := by
  have mk7 : ∀ W, (Instr.makeSlice 22 (.int .i64 7) (.int .i64 7)).run Try.prog W = .ok (.slice (some ⟨W.heap.size, 0, none⟩) 7 7) (W.alloc (.cells (List.replicate 7 (.slice none 0 0)).toArray 26)) := fun W => run_mkM 7 (by omega) W
  go_enter Try.func5, Try.ntmps5
  have hS := St.start w
  replace hS := hS.lit [7] 1
  replace hS := hS.litM (ks := [0]) (.cons rfl .nil) 1
  replace hS := hS.box [.slice (some ⟨w.heap.size + 1, 0, none⟩) 1 1, .int .i64 10000000] 24
  replace hS := hS.lit [0] 1
  replace hS := hS.lit [10000000] 1
  replace hS := hS.lit [0] 1
  replace hS := hS.lit [10000000] 1
  replace hS := hS.lit [1] 1
  replace hS := hS.lit [10000000] 1
  replace hS := hS.lit [0] 1
  replace hS := hS.lit [9] 1
  replace hS := hS.lit [0] 1
  replace hS := hS.lit [0] 1
  replace hS := hS.lit [610000000] 1
  replace hS := hS.box [.slice none 0 0, .slice none 0 0, .int .i64 0, .slice (some ⟨w.heap.size + 1 + 1 + 1, 0, none⟩) 1 1, .slice (some ⟨w.heap.size + 1 + 1 + 1 + 1, 0, none⟩) 1 1, .int .i64 0, .slice (some ⟨w.heap.size + 1 + 1 + 1 + 1 + 1, 0, none⟩) 1 1, .slice (some ⟨w.heap.size + 1 + 1 + 1 + 1 + 1 + 1, 0, none⟩) 1 1, .int .i64 2, .slice (some ⟨w.heap.size + 1 + 1 + 1 + 1 + 1 + 1 + 1, 0, none⟩) 1 1, .slice (some ⟨w.heap.size + 1 + 1 + 1 + 1 + 1 + 1 + 1 + 1, 0, none⟩) 1 1, .int .i64 1, .slice (some ⟨w.heap.size + 1 + 1 + 1 + 1 + 1 + 1 + 1 + 1 + 1, 0, none⟩) 1 1, .slice (some ⟨w.heap.size + 1 + 1 + 1 + 1 + 1 + 1 + 1 + 1 + 1 + 1, 0, none⟩) 1 1, .int .i64 1, .slice (some ⟨w.heap.size + 1 + 1 + 1 + 1 + 1 + 1 + 1 + 1 + 1 + 1 + 1, 0, none⟩) 1 1, .slice none 0 0, .int .i64 1, .slice (some ⟨w.heap.size + 1 + 1 + 1 + 1 + 1 + 1 + 1 + 1 + 1 + 1 + 1 + 1, 0, none⟩) 1 1, .slice (some ⟨w.heap.size + 1 + 1 + 1 + 1 + 1 + 1 + 1 + 1 + 1 + 1 + 1 + 1 + 1, 0, none⟩) 1 1, .int .i64 61] 28
  have hH := hS.frame
  obtain ⟨G, hG, Hcl, Hst⟩ := hH
  have hlsz : w.heap.size < w.heap.size + 1 := by omega
  have HL : Hid (∀ a, G a → ∀ k, k < 7 → ∃ (q s : Option Addr) (al ps : List Int) (d f : Nat) (z : Int), a.cell? ⟨w.heap.size + 1 + 1 + 1 + 1 + 1 + 1 + 1 + 1 + 1 + 1 + 1 + 1 + 1 + 1, k * 3, none⟩ = some (.slice q al.length d) ∧ a.cell? ⟨w.heap.size + 1 + 1 + 1 + 1 + 1 + 1 + 1 + 1 + 1 + 1 + 1 + 1 + 1 + 1, k * 3 + 1, none⟩ = some (.slice s ps.length f) ∧ a.cell? ⟨w.heap.size + 1 + 1 + 1 + 1 + 1 + 1 + 1 + 1 + 1 + 1 + 1 + 1 + 1 + 1, k * 3 + 2, none⟩ = some (.int .i64 z) ∧ Ints a q d al ∧ Ints a s f ps ∧ vldR [[7]] 10000000 al ps z = 8 ∧ al.length ≤ 10 ∧ ps.length ≤ 10) := fun a ha k hk => by
    have hS := Hst.out a ha
    match k, hk with
    | 0, _ => exact ⟨none, none, [], [], 0, 0, 0, hS.boxAt 0 0 rfl rfl, hS.boxAt 0 1 rfl rfl, hS.boxAt 0 2 rfl rfl, (Ints.ofNil _), (Ints.ofNil _), by decide +kernel, by decide, by decide⟩
    | 1, _ => exact ⟨_, _, [0], [10000000], 1, 1, 0, hS.boxAt 0 3 rfl rfl, hS.boxAt 0 4 rfl rfl, hS.boxAt 0 5 rfl rfl, (hS.intsAt 11 rfl), (hS.intsAt 10 rfl), by decide +kernel, by decide, by decide⟩
    | 2, _ => exact ⟨_, _, [0], [10000000], 1, 1, 2, hS.boxAt 0 6 rfl rfl, hS.boxAt 0 7 rfl rfl, hS.boxAt 0 8 rfl rfl, (hS.intsAt 9 rfl), (hS.intsAt 8 rfl), by decide +kernel, by decide, by decide⟩
    | 3, _ => exact ⟨_, _, [1], [10000000], 1, 1, 1, hS.boxAt 0 9 rfl rfl, hS.boxAt 0 10 rfl rfl, hS.boxAt 0 11 rfl rfl, (hS.intsAt 7 rfl), (hS.intsAt 6 rfl), by decide +kernel, by decide, by decide⟩
    | 4, _ => exact ⟨_, _, [0], [9], 1, 1, 1, hS.boxAt 0 12 rfl rfl, hS.boxAt 0 13 rfl rfl, hS.boxAt 0 14 rfl rfl, (hS.intsAt 5 rfl), (hS.intsAt 4 rfl), by decide +kernel, by decide, by decide⟩
    | 5, _ => exact ⟨_, none, [0], [], 1, 0, 1, hS.boxAt 0 15 rfl rfl, hS.boxAt 0 16 rfl rfl, hS.boxAt 0 17 rfl rfl, (hS.intsAt 3 rfl), (Ints.ofNil _), by decide +kernel, by decide, by decide⟩
    | 6, _ => exact ⟨_, _, [0], [610000000], 1, 1, 61, hS.boxAt 0 18 rfl rfl, hS.boxAt 0 19 rfl rfl, hS.boxAt 0 20 rfl rfl, (hS.intsAt 2 rfl), (hS.intsAt 1 rfl), by decide +kernel, by decide, by decide⟩
  have HO : Hid (∀ a, G a → a.cell? ⟨w.heap.size + 1 + 1, 0, none⟩ = some (.slice (some ⟨w.heap.size + 1, 0, none⟩) 1 1) ∧ a.cell? ⟨w.heap.size + 1 + 1, 1, none⟩ = some (.int .i64 10000000) ∧ Mat a (some ⟨w.heap.size + 1, 0, none⟩) 1 [[7]]) := fun a ha => by
    have hS := Hst.out a ha
    exact ⟨hS.boxAt 12 0 rfl rfl, hS.boxAt 12 1 rfl rfl, hS.matAt 13 rfl⟩
  clear hS hlsz
  go_wp2_with fail
  go_loopw [3] (fun t wr => ∃ k : Nat, k ≤ 7 ∧ t = .int .i64 k ∧ G wr) (fun t _ => 7 - (intOf t).toNat)
  case atStart => exact ⟨0, by omega, rfl, hG⟩
  case round =>
    obtain ⟨k, hk, rfl, hGr⟩ := hrel
    by_cases hlt : k < 7
    · have hk1 : (k : Int) < 7 := by omega
      obtain ⟨q, s, al, ps, d, f, z, c0, c1, c2, iA, iP, hv, hl1, hl2⟩ := HL.out wr hGr k hlt
      obtain ⟨o0, o1, mO⟩ := HO.out wr hGr
      have hgl : w.heap.size + 1 + 1 + 1 + 1 + 1 + 1 + 1 + 1 + 1 + 1 + 1 + 1 + 1 + 1 < wr.heap.size := (Hst.out wr hGr).boxLt 0 rfl
      have hol : w.heap.size + 1 + 1 < wr.heap.size := (Hst.out wr hGr).boxLt 12 rfl
      have Hmk : Hid (∀ W, Below wr.heap.size wr W → (W.cell? ⟨w.heap.size + 1 + 1, 0, none⟩ = some (.slice (some ⟨w.heap.size + 1, 0, none⟩) 1 1) ∧ W.cell? ⟨w.heap.size + 1 + 1, 1, none⟩ = some (.int .i64 10000000) ∧ W.cell? ⟨w.heap.size + 1 + 1 + 1 + 1 + 1 + 1 + 1 + 1 + 1 + 1 + 1 + 1 + 1 + 1, k * 3, none⟩ = some (.slice q al.length d) ∧ W.cell? ⟨w.heap.size + 1 + 1 + 1 + 1 + 1 + 1 + 1 + 1 + 1 + 1 + 1 + 1 + 1 + 1, k * 3 + 1, none⟩ = some (.slice s ps.length f) ∧ W.cell? ⟨w.heap.size + 1 + 1 + 1 + 1 + 1 + 1 + 1 + 1 + 1 + 1 + 1 + 1 + 1 + 1, k * 3 + 2, none⟩ = some (.int .i64 z) ∧ Below wr.heap.size wr W)) := fun W h =>
        ⟨(h.cell (p := ⟨w.heap.size + 1 + 1, 0, none⟩) hol).trans o0, (h.cell (p := ⟨w.heap.size + 1 + 1, 1, none⟩) hol).trans o1, (h.cell (p := ⟨w.heap.size + 1 + 1 + 1 + 1 + 1 + 1 + 1 + 1 + 1 + 1 + 1 + 1 + 1 + 1, k * 3, none⟩) hgl).trans c0, (h.cell (p := ⟨w.heap.size + 1 + 1 + 1 + 1 + 1 + 1 + 1 + 1 + 1 + 1 + 1 + 1 + 1 + 1, k * 3 + 1, none⟩) hgl).trans c1, (h.cell (p := ⟨w.heap.size + 1 + 1 + 1 + 1 + 1 + 1 + 1 + 1 + 1 + 1 + 1 + 1 + 1 + 1, k * 3 + 2, none⟩) hgl).trans c2, h⟩
      have HG := Lib.hid (fun W (h : Below wr.heap.size wr W) => roomGains_e (n := 1) hv (gns_bad hv) (mO.below h (Nat.le_refl _)) (iA.below h (Nat.le_refl _)) (iP.below h (Nat.le_refl _)) rfl rfl rfl (by omega) rfl)
      have HV := Lib.hid (fun W (h : Below wr.heap.size wr W) => roomValid_e (n := 1) hv (mO.below h (Nat.le_refl _)) (iA.below h (Nat.le_refl _)) (iP.below h (Nat.le_refl _)) rfl rfl rfl (by omega))
      clear c0 c1 c2 o0 o1 mO iA iP hv
      go_wp2_with fail
      go_region_held3 (fun W => W.cell? ⟨w.heap.size + 1 + 1, 0, none⟩ = some (.slice (some ⟨w.heap.size + 1, 0, none⟩) 1 1) ∧ W.cell? ⟨w.heap.size + 1 + 1, 1, none⟩ = some (.int .i64 10000000) ∧ W.cell? ⟨w.heap.size + 1 + 1 + 1 + 1 + 1 + 1 + 1 + 1 + 1 + 1 + 1 + 1 + 1 + 1, k * 3, none⟩ = some (.slice q al.length d) ∧ W.cell? ⟨w.heap.size + 1 + 1 + 1 + 1 + 1 + 1 + 1 + 1 + 1 + 1 + 1 + 1 + 1 + 1, k * 3 + 1, none⟩ = some (.slice s ps.length f) ∧ W.cell? ⟨w.heap.size + 1 + 1 + 1 + 1 + 1 + 1 + 1 + 1 + 1 + 1 + 1 + 1 + 1 + 1, k * 3 + 2, none⟩ = some (.int .i64 z) ∧ Below wr.heap.size wr W)
        (first | assumption | exact Hmk.out _ hGc | exact Hmk.out _ (below_drewN wr.heap.size wr 1) | exact Hmk.out _ (Below.refl _ _))
        (first
          | (go_at_call 21; refine (HG.out _ (by go_split_ands; assumption)).mono ?_; rintro e w4 ⟨pq, cq, rfl, _, hb4⟩; have hGc : Below wr.heap.size wr w4 := Below.trans (by go_split_ands; assumption) (hb4.mono (Below.size (B := wr.heap.size) (w := wr) (by go_split_ands; assumption)))))
      clear hb4
      go_wp2_with fail
      go_region_held3 (fun W => W.cell? ⟨w.heap.size + 1 + 1, 0, none⟩ = some (.slice (some ⟨w.heap.size + 1, 0, none⟩) 1 1) ∧ W.cell? ⟨w.heap.size + 1 + 1, 1, none⟩ = some (.int .i64 10000000) ∧ W.cell? ⟨w.heap.size + 1 + 1 + 1 + 1 + 1 + 1 + 1 + 1 + 1 + 1 + 1 + 1 + 1 + 1, k * 3, none⟩ = some (.slice q al.length d) ∧ W.cell? ⟨w.heap.size + 1 + 1 + 1 + 1 + 1 + 1 + 1 + 1 + 1 + 1 + 1 + 1 + 1 + 1, k * 3 + 1, none⟩ = some (.slice s ps.length f) ∧ W.cell? ⟨w.heap.size + 1 + 1 + 1 + 1 + 1 + 1 + 1 + 1 + 1 + 1 + 1 + 1 + 1 + 1, k * 3 + 2, none⟩ = some (.int .i64 z) ∧ Below wr.heap.size wr W)
        (first | assumption | exact Hmk.out _ hGd | exact Hmk.out _ (hGc.drewN' 1) | exact Hmk.out _ hGc)
        (first
          | (go_at_call 25; refine (HV.out _ (by go_split_ands; assumption)).mono ?_; rintro e w5 ⟨rfl, hb4⟩; have hGd : Below wr.heap.size wr w5 := Below.trans (by go_split_ands; assumption) (hb4.mono (Below.size (B := wr.heap.size) (w := wr) (by go_split_ands; assumption)))))
      go_wp2_with fail
      go_roundw
      case rel => exact ⟨k + 1, by omega, by go_num, Hcl.out _ _ hGr hGd⟩
      case measure => simp [intOf]; omega
    · obtain rfl : k = 7 := by omega
      have hk1 : ¬ ((7 : Nat) : Int) < 7 := by omega
      have hS := Hst.out wr hGr
      clear HL HO Hcl Hst hG hGr
      replace hS := hS.lit [7] 1
      replace hS := hS.litM (ks := [0]) (.cons rfl .nil) 1
      go_wp2_with fail
      refine (roomCheck_e (r := -1) (e := 8) (by decide +kernel) (hS.matAt 0 rfl)).mono ?_
      rintro e w3 ⟨rfl, hb⟩
      replace hS := hS.step hb
      clear hb 
      replace hS := hS.lit [7] 1
      replace hS := hS.litM (ks := [0]) (.cons rfl .nil) 1
      go_wp2_with fail
      refine (roomCheck_e (r := 10000001) (e := 8) (by decide +kernel) (hS.matAt 0 rfl)).mono ?_
      rintro e w6 ⟨rfl, hb⟩
      replace hS := hS.step hb
      clear hb 
      replace hS := hS.mkM 7
      go_wp2_with fail
      refine (roomCheck_e (r := -1) (e := 4) (by decide +kernel) (hS.matAt 0 rfl)).mono ?_
      rintro e w7 ⟨rfl, hb⟩
      replace hS := hS.step hb
      clear hb 
      go_wp2_with fail
      refine (given14_any _).mono ?_
      rintro e w8 ⟨pw8, cw8, rfl, hM, hb⟩
      replace hS := hS.step hb
      replace hS := hS.addM rfl hM
      clear hb hM
      go_wp2_with fail
      refine (roomRange_e (x := 0) (y := 0) (p' := 0) (q' := 0) (j := 2) (e := 2) (rng_off gv14_chk (by decide)) (hS.matAt 0 rfl)).mono ?_
      rintro e w9 ⟨rfl, hb⟩
      replace hS := hS.step hb
      clear hb 
      replace hS := hS.box [.int .i64 0, .int .i64 0] 40
      replace hS := hS.box [.int .i64 0, .int .i64 0] 40
      go_wp2_with fail
      refine (given14_any _).mono ?_
      rintro e w10 ⟨pw10, cw10, rfl, hM, hb⟩
      replace hS := hS.step hb
      replace hS := hS.addM rfl hM
      clear hb hM
      go_wp2_with fail
      refine (roomRange_e (x := 0) (y := 0) (p' := 0) (q' := 0) (j := -1) (e := 2) (rng_off gv14_chk (by decide)) (hS.matAt 0 rfl)).mono ?_
      rintro e w11 ⟨rfl, hb⟩
      replace hS := hS.step hb
      clear hb 
      replace hS := hS.box [.int .i64 0, .int .i64 0] 40
      replace hS := hS.box [.int .i64 0, .int .i64 0] 40
      go_wp2_with fail
      refine (roomEven_e (v := []) (r := 0) (e := 8) (even_bad (by decide)) (by decide +kernel) (Mat.ofNil _)).mono ?_
      rintro e w12 ⟨paw12, caw12, ppw12, cpw12, rfl, hA, hP, hb⟩
      replace hS := hS.step hb
      replace hS := hS.addI rfl hA
      replace hS := hS.addI rfl hP
      clear hb hA hP
      replace hS := hS.box [.slice paw12 0 caw12, .slice ppw12 0 cpw12, .int .i64 0] 28
      go_wp2_with fail
      refine (given14_any _).mono ?_
      rintro e w13 ⟨pw13, cw13, rfl, hM, hb⟩
      replace hS := hS.step hb
      replace hS := hS.addM rfl hM
      clear hb hM
      replace hS := hS.lit [0, 1] 2
      replace hS := hS.lit [10000001, -9999996] 2
      go_wp2_with fail
      refine (roomValid_e (z := 1) (e := 8) (by decide +kernel) (hS.matAt 2 rfl) (hS.intsAt 1 rfl) (hS.intsAt 0 rfl)).mono ?_
      rintro e w16 ⟨rfl, hb⟩
      replace hS := hS.step hb
      clear hb 
      go_wp2_with fail
      refine (given14_any _).mono ?_
      rintro e w17 ⟨pw17, cw17, rfl, hM, hb⟩
      replace hS := hS.step hb
      replace hS := hS.addM rfl hM
      clear hb hM
      replace hS := hS.lit [0, 1] 2
      replace hS := hS.lit [10000000, -9999995] 2
      go_wp2_with fail
      refine (roomValid_e (z := 1) (e := 0) (by decide +kernel) (hS.matAt 2 rfl) (hS.intsAt 1 rfl) (hS.intsAt 0 rfl)).mono ?_
      rintro e w20 ⟨rfl, hb⟩
      replace hS := hS.step hb
      clear hb 
      have kone_0 := hS.boxAt 32 0 rfl rfl
      have kone_1 := hS.boxAt 32 1 rfl rfl
      have lone := hS.boxLt 32 rfl
      go_wp2_with fail
      refine (roomEven_e (r := 10000000) (e := 0) (even_e (a := [0]) (ps := [10000000]) (z := 1) one14_best (by decide) (by decide +kernel) (by decide +kernel) (by decide +kernel)) (by decide +kernel) (hS.matAt 33 rfl)).mono ?_
      rintro e w21 ⟨paw21, caw21, ppw21, cpw21, rfl, hA, hP, hb⟩
      replace hS := hS.step hb
      replace hS := hS.addI rfl hA
      replace hS := hS.addI rfl hP
      clear hb hA hP
      clear kone_0 kone_1 lone
      replace hS := hS.box [.slice paw21 1 caw21, .slice ppw21 1 cpw21, .int .i64 1] 28
      replace hS := hS.lit [4, 1, 0] 3
      replace hS := hS.lit [4, 0, 1] 3
      replace hS := hS.lit [4, 0, 0] 3
      replace hS := hS.litM (ks := [2, 1, 0]) (.cons rfl (.cons rfl (.cons rfl .nil))) 3
      go_wp2_with fail
      refine (roomEven_e (r := 1) (e := 0) (even_e (a := [1, 2, 0]) (ps := [7, -2, -2]) (z := 3) six14_best (by decide) (by decide +kernel) (by decide +kernel) (by decide +kernel)) (by decide +kernel) (hS.matAt 0 rfl)).mono ?_
      rintro e w26 ⟨paw26, caw26, ppw26, cpw26, rfl, hA, hP, hb⟩
      replace hS := hS.step hb
      replace hS := hS.addI rfl hA
      replace hS := hS.addI rfl hP
      clear hb hA hP
      replace hS := hS.box [.slice paw26 3 caw26, .slice ppw26 3 cpw26, .int .i64 3] 28
      have kone_0 := hS.boxAt 42 0 rfl rfl
      have kone_1 := hS.boxAt 42 1 rfl rfl
      have lone := hS.boxLt 42 rfl
      replace hS := hS.lit [0] 1
      replace hS := hS.lit [600000000] 1
      go_wp2_with fail
      refine (roomValid_e (r := 10000000) (z := 60) (e := 0) (by decide +kernel) (hS.matAt 45 rfl) (hS.intsAt 1 rfl) (hS.intsAt 0 rfl)).mono ?_
      rintro e w29 ⟨rfl, hb⟩
      replace hS := hS.step hb
      clear hb 
      clear kone_0 kone_1 lone
      go_wp2_with fail
      refine (alive14_any _).mono ?_
      rintro e w30 ⟨rfl, hb⟩
      replace hS := hS.step hb
      clear hb 
      have kew21_0 := hS.boxAt 9 0 rfl rfl
      have kew21_1 := hS.boxAt 9 1 rfl rfl
      have kew21_2 := hS.boxAt 9 2 rfl rfl
      have lew21 := hS.boxLt 9 rfl
      replace hS := hS.lit [0] 1
      replace hS := hS.lit [10000000] 1
      go_wp2_with fail
      refine (sameLease_true rfl rfl rfl rfl rfl rfl rfl (hS.intsAt 13 rfl) (hS.intsAt 12 rfl) (hS.intsAt 1 rfl) (hS.intsAt 0 rfl)).mono ?_
      rintro e w33 ⟨rfl, hb⟩
      replace hS := hS.step hb
      clear hb 
      clear kew21_0 kew21_1 kew21_2 lew21
      have kew26_0 := hS.boxAt 4 0 rfl rfl
      have kew26_1 := hS.boxAt 4 1 rfl rfl
      have kew26_2 := hS.boxAt 4 2 rfl rfl
      have lew26 := hS.boxLt 4 rfl
      replace hS := hS.lit [1, 2, 0] 3
      replace hS := hS.lit [7, -2, -2] 3
      go_wp2_with fail
      refine (sameLease_true rfl rfl rfl rfl rfl rfl rfl (hS.intsAt 8 rfl) (hS.intsAt 7 rfl) (hS.intsAt 1 rfl) (hS.intsAt 0 rfl)).mono ?_
      rintro e w36 ⟨rfl, hb⟩
      replace hS := hS.step hb
      clear hb 
      clear kew26_0 kew26_1 kew26_2 lew26
      go_wp2_with fail
      go_ret
      exact ⟨rfl, hS.bel⟩
end Go.Proofs.Ytojldecldemfaaa

/- RoomNames: for every input the law returns true, and each argument reads as it read before; no condition. -/
namespace Go.Proofs.Ytojldecldemfaaa.RoomNamesTop
open Go.ChangeShapes Go.WideShapes Go.ChangeAt Go.RowKit Go.Deep
set_option linter.unusedVariables false

set_option maxRecDepth 100000 in
theorem lifted (os : Os) (started : os.Started) (H : Type) (enc : TypeId × Value → H) :
    ReturnsInHanded {} Try.checked os 5 .any (Rows.roomNamesSpec.pre6 enc Try.prog Try.f5 Rows.roomNamesRow.domain false) (Rows.roomNamesSpec.post enc Try.prog Try.f5 false true false false) := by
  refine returnsInHanded_of_change (C := Try.checked) own started (by kernel_rfl) Try.func5
    (ChangeSpec.witness6 (enc := enc) (C := Try.checked) false ⟨#[], #[], []⟩ 8 (by kernel_rfl) (by kernel_rfl) (by kernel_rfl) (by kernel_rfl)) ?_
  intro W base args ds gs before hval0 hW hcnd _
  have hval : ∀ (j : Nat) t v, Try.f5.params[j]? = some t → args[j]? = some v → Value.okWide Try.prog W .any base t v := hval0
  have hW' := hW
  obtain ⟨p, q, hA0, hV, rfl, hfz, hnd⟩ := hW
  have hA : DataW.TrodAll enc Try.prog W 0 (fun _ => true) true Try.f5.params.toList args.toList ds p := hA0
  rw [Try.params5] at hA hval
  obtain ⟨hargs, rfl, rfl⟩ := trodAll_nil hA
  obtain rfl : args = #[] := by cases args; simp_all
  obtain ⟨rfl, rfl⟩ := trodVars_none hV
  clear hA0 hval0
  refine (roomNames_walk W).mono fun e W' ⟨he, bel⟩ => ?_
  subst he
  exact ⟨_, rfl, _, _, _, [], _, [], hW', trodAll_mk1 (shut_bool Try.underlying4 _), trodAll_mk0, rfl, bel.frame _, fun h => by cases h⟩

theorem over : Rows.roomNamesRow.holds Try.pinned (OpenSpec.ofChange Rows.roomNamesSpec) :=
  OpenClaim.holds_of_wide 5 Try.f5 rfl rfl rfl rfl rfl rfl rfl ⟨rfl, rfl, rfl, rfl, rfl⟩ rfl rfl rfl rfl rfl (by kernel_rfl) Try.func5 (by kernel_rfl)
    (of_decide_eq_true (by kernel_rfl)) (by unfold Func.isWrapper; first | (rw [if_pos (by decide +kernel)]; kernel_rfl) | (rw [if_neg (by decide +kernel)]; exact ⟨rfl, rfl⟩))
    (fun os started H enc _ => lifted os started H enc)
end Go.Proofs.Ytojldecldemfaaa.RoomNamesTop
namespace Go.Proofs.Ytojldecldemfaaa
/-- The statement. -/
theorem roomNames_holds : Rows.RoomNamesSaid := RoomNamesTop.over
#print axioms roomNames_holds
end Go.Proofs.Ytojldecldemfaaa
