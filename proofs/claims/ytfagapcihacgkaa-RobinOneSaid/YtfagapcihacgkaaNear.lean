/- The walks of near.envies, first and One, for valid goods and allocations. -/
import Derived.Test.YtfagapcihacgkaaGoodsE
import Derived.Test.YtfagapcihacgkaaTrip
import Derived.Test.YtfagapcihacgkaaIdx
import Derived.Deep.RegionHeld3
import Derived.Deep.AppendLies
namespace Go.Proofs.Ytfagapcihacgkaa
set_option linter.unusedVariables false
set_option linter.unusedSimpArgs false
open Go.ChangeShapes Go.WideShapes Go.ChangeAt Go.RowKit Go.Deep

/-- Who envies whom, and by how much. -/
def envT (v : List (List Int)) (a : List Int) : List Trip := (prTo (gP v a) v.length v.length).map fun x => (x.1, x.2, worth v a x.1 (x.2 : Int) - worth v a x.1 (x.1 : Int))
theorem pget_of {xs : List (Nat × Nat)} {j : Nat} (h : j < xs.length) : pget xs j = xs[j] := by simp [pget, h]
theorem envT_take {v : List (List Int)} {a : List Int} {k i j : Nat} (hk : k < (prTo (gP v a) v.length v.length).length) (hi : (pget (prTo (gP v a) v.length v.length) k).1 = i) (hj : (pget (prTo (gP v a) v.length v.length) k).2 = j) :
    (envT v a).take (k + 1) = (envT v a).take k ++ [(i, j, worth v a i (j : Int) - worth v a i (i : Int))] := by
  rw [pget_of hk] at hi hj
  rw [List.take_add_one]
  congr 1
  unfold envT
  rw [List.getElem?_map, List.getElem?_eq_getElem hk]
  simp [hi, hj]
theorem pget_in {v : List (List Int)} {a : List Int} {k : Nat} (hk : k < (prTo (gP v a) v.length v.length).length) : (pget (prTo (gP v a) v.length v.length) k).1 < v.length ∧ (pget (prTo (gP v a) v.length v.length) k).2 < v.length := by
  have : pget (prTo (gP v a) v.length v.length) k ∈ prTo (gP v a) v.length v.length := by rw [pget_of hk]; exact List.getElem_mem hk
  obtain ⟨h1, h2, _⟩ := prTo_mem.1 this
  exact ⟨h1, h2⟩

def GivesT (E : TypeId) (w : World) (xs : List Trip) (k : Int) (e : Ending) (w' : World) : Prop :=
  ∃ p c, e = .returned (.tuple #[.slice p xs.length c, .int .i64 k]) ∧ OwnT E w' w.heap.size p c xs ∧ Below w.heap.size w w'

theorem OwnT.drewN {E : TypeId} {w : World} {base : Nat} {p : Option Addr} {c : Nat} {xs : List Trip} (h : OwnT E w base p c xs) (n : Nat) : OwnT E (w.drewN n) base p c xs := h.drew ⟨n, rfl⟩
theorem OwnT.drew1 {E : TypeId} {w : World} {base : Nat} {p : Option Addr} {c : Nat} {xs : List Trip} (h : OwnT E w base p c xs) : OwnT E w.drew base p c xs := h.drew ⟨1, rfl⟩
theorem cell_three_new (W : World) (x y z : Value) (t : TypeId) : ∀ (j : Nat) (u : Value), [x, y, z][j]? = some u → (W.alloc (.cells #[x, y, z] t)).cell? ((⟨W.heap.size, 0, none⟩ : Addr).add j) = some u := fun j u hu => by
  rw [add_plain, World.cell?_alloc_at _ _ _ _ rfl]
  simpa using hu
theorem grown_cell {w w' : World} {row : Option Nat} (h : w.grownBy w' row) {k t : Nat} (hk : k < w.heap.size) (hne : row ≠ some k) : w'.cell? ⟨k, t, none⟩ = w.cell? ⟨k, t, none⟩ := by
  simp only [World.cell?]
  rw [h.block k hk (Ne.symm hne)]
theorem ownT_snoc {E : TypeId} {w : World} {base : Nat} {p : Option Addr} {c : Nat} {xs : List Trip} {i j : Nat} {y : Int} (h : w.ownsRow base E 3 (.slice p (xs.length + 1) c) (xs.length + 1) (cellsT xs ++ [.int .i64 (i : Int), .int .i64 (j : Int), .int .i64 y])) :
    OwnT E w base p c (xs ++ [(i, j, y)]) := ⟨by rw [List.length_append, cellsT_append]; exact h⟩

set_option maxHeartbeats 8000000 in
set_option maxRecDepth 100000 in
theorem nearEnvies_any (p : Option Addr) (c : Nat) (v : List (List Int)) (q : Option Addr) (d : Nat) (a : List Int) (w : World) (hx : Mat w p c v) (hi : Ints w q d a) (hF : chkA v a = 0) :
    Calls Try.prog 43 #[.agg #[.slice p v.length c], .slice q a.length d] w (GivesT 78 w (envT v a) 0) := by
  obtain ⟨W0, hW0⟩ : ∃ W0, w.alloc (.cells #[.slice p v.length c] 24) = W0 := ⟨_, rfl⟩
  have hB : Below w.heap.size w W0 := below_alloc hW0
  have bX : BoxV W0 w.heap.size [.slice p v.length c] := BoxV.new rfl hW0
  have hx := hx.below hB (Nat.le_refl _)
  have hi := hi.below hB (Nat.le_refl _)
  have x0 := bX.cell 0 _ rfl
  have HW0 := Lib.hid hW0
  clear hW0
  have hl1 := hx.length_le
  have hl2 := hi.length_le
  have C1 := Lib.hid (fun W hX hI => goodsValues_any p c v q d a W hX hI)
  have C2 := Lib.hid (fun W hX hI => goodsEnvies_any p c v q d a W hX hI)
  rw [valsL_ok hF, hF] at C1
  rw [envG_ok hF, hF] at C2
  obtain ⟨hg, ha⟩ := chkA_zero.1 hF
  have Hg := Lib.hid hg
  have Ha := Lib.hid ha
  clear hF hg ha
  go_enter Try.func43, Try.ntmps43
  go_wp2_with fail
  rw [HW0.out]
  refine (C1.out _ hx hi).mono ?_
  rintro e w1 ⟨pv, cv, rfl, mV, hb1⟩
  rw [valsG_len]
  replace hx := hx.below hb1 (Nat.le_refl _)
  replace hi := hi.below hb1 (Nat.le_refl _)
  replace bX := bX.below hb1
  replace x0 := bX.cell 0 _ rfl
  replace hB := hB.trans (hb1.mono hB.size)
  clear hb1
  go_wp2_with fail
  refine (C2.out _ hx hi).mono ?_
  rintro e w2 ⟨pe, ce, rfl, oE, hb1⟩
  replace mV := mV.below hb1 (Nat.le_refl _)
  replace hB := hB.trans (hb1.mono hB.size)
  clear hb1 C1 C2 bX x0 hx hi
  have hcap := oE.cap
  have hElen := prTo_len (gP v a) v.length v.length
  have h66 : v.length * v.length ≤ 6 * 6 := Nat.mul_le_mul Hg.out.2.1 Hg.out.2.1
  have Hst := Lib.hid (fun k i j h1 h2 h3 => envT_take (v := v) (a := a) (k := k) (i := i) (j := j) h1 h2 h3)
  have Hin := Lib.hid (fun k h => pget_in (v := v) (a := a) (k := k) h)
  have HTl : Hid ((envT v a).length = (prTo (gP v a) v.length v.length).length) := by unfold Hid envT; simp
  obtain ⟨E, eE⟩ : ∃ E, prTo (gP v a) v.length v.length = E := ⟨_, rfl⟩
  rw [eE] at oE hcap hElen HTl ⊢
  simp only [eE] at Hst Hin
  clear eE
  obtain ⟨B, hBB⟩ : ∃ B, w2.heap.size = B := ⟨_, rfl⟩
  have HBB := Lib.hid hBB
  have hwB : w.heap.size ≤ B := by have := hB.size; omega
  clear hBB
  go_wp2_with fail
  go_loopw [10, 30] (fun s t wr => ∃ k : Nat, k ≤ E.length ∧ t = .int .i64 k ∧ (∃ zs q d, Hid (zs = (envT v a).take k) ∧ s = .slice q (zs : List Trip).length d ∧ OwnT 78 wr B q d zs) ∧ Below B w2 wr) (fun _ t _ => E.length - (intOf t).toNat)
  case atStart => exact ⟨0, Nat.zero_le _, rfl, ⟨[], none, 0, rfl, rfl, OwnT.ofNil _ _⟩, Below.refl _ _⟩
  case round =>
    obtain ⟨k, hk, rfl, ⟨zs, qz, dz, hz, rfl, hO⟩, hbr⟩ := hrel
    by_cases hlt : k < E.length
    · have hk1 : (k : Int) < E.length := by omega
      obtain ⟨ge, rfl, _, _, hce, hce2⟩ := (oE.below hbr (Nat.le_of_eq HBB.out)).get hlt
      obtain ⟨h1, h2⟩ := Hin.out k hlt
      obtain ⟨i, ei⟩ : ∃ i, (pget E k).1 = i := ⟨_, rfl⟩
      obtain ⟨j, ej⟩ : ∃ j, (pget E k).2 = j := ⟨_, rfl⟩
      have HS := Lib.hid (Hst.out k i j hlt ei ej)
      rw [ei] at hce h1
      rw [ej] at hce2 h2
      clear ei ej
      go_wp2_with fail
      have hszB := hbr.size
      rw [HBB.out] at hszB
      obtain ⟨W1, hW1⟩ : ∃ W, wr.alloc (.cells #[.int .i64 (i : Int), .int .i64 (j : Int)] 56) = W := ⟨_, rfl⟩
      have hb1 : Below wr.heap.size wr W1 := below_alloc hW1
      have bP : BoxV W1 wr.heap.size [.int .i64 (i : Int), .int .i64 (j : Int)] := BoxV.new rfl hW1
      have p0 := bP.cell 0 _ rfl
      have p1 := bP.cell 1 _ rfl
      have hbw : Below B w2 W1 := hbr.trans (hb1.mono hszB)
      obtain ⟨bv, ov, rfl, hlV2, qi, di, hcv, hI⟩ := mV.get (j := i) (by rw [valsG_len]; exact h1)
      rw [valsG_row h1] at hcv hI
      rw [worthRow_len] at hcv
      obtain ⟨br, or', rfl, hlR2, hci⟩ := hI.get (j := i) (by rw [worthRow_len]; exact h1)
      have hcj := hI.at (j := j) (by rw [worthRow_len]; exact h2)
      rw [worthRow_get h1] at hci
      rw [worthRow_get h2] at hcj
      rw [HBB.out] at hlV2 hlR2
      have hy := worth_in Hg.out Ha.out h1 (j : Int)
      have hzz := worth_in Hg.out Ha.out h1 (i : Int)
      have hVl := valsG_len v a
      have hi1 : (i : Int) < v.length := by omega
      have hj1 : (j : Int) < v.length := by omega
      have hzl : zs.length ≤ 900000 := by rw [hz.out, List.length_take]; omega
      have HO1 := Lib.hid (hO.below hb1 (Nat.le_refl _))
      have hsz1 : B ≤ W1.heap.size := Nat.le_trans hszB hb1.size
      have hlP := bP.lt
      obtain ⟨y, ey⟩ : ∃ y, worth v a i (j : Int) = y := ⟨_, rfl⟩
      obtain ⟨z, ez⟩ : ∃ z, worth v a i (i : Int) = z := ⟨_, rfl⟩
      rw [ey] at hcj hy HS
      rw [ez] at hci hzz HS
      have hcv2 := hcv
      have hci2 := hci
      have hcj2 := hcj
      replace hcv := (hbw.cell (p := ⟨bv, ov + i, none⟩) hlV2).trans hcv
      replace hci := (hbw.cell (p := ⟨br, or' + i, none⟩) hlR2).trans hci
      replace hcj := (hbw.cell (p := ⟨br, or' + j, none⟩) hlR2).trans hcj
      have hlV : bv < W1.heap.size := by have := hbw.size; have := HBB.out; omega
      have hlR : br < W1.heap.size := by have := hbw.size; have := HBB.out; omega
      have hOlt := hO.lt
      rw [hW1]
      clear ey ez hO hce hce2 hI hVl
      have Hwr : Hid (IntKind.i64.wrap (y - z) = y - z) := IntWalk.i64_in _ (by omega)
      have Hmk : Hid (∀ W, Below W1.heap.size W1 W → (W.cell? ⟨wr.heap.size, 0, none⟩ = some (.int .i64 (i : Int)) ∧ W.cell? ⟨wr.heap.size, 1, none⟩ = some (.int .i64 (j : Int)) ∧ W.cell? ⟨bv, ov + i, none⟩ = some (.slice (some ⟨br, or', none⟩) v.length di) ∧ W.cell? ⟨br, or' + i, none⟩ = some (.int .i64 z) ∧ W.cell? ⟨br, or' + j, none⟩ = some (.int .i64 y))) := fun W hG =>
        ⟨(hG.cell (p := ⟨wr.heap.size, 0, none⟩) hlP).trans p0, (hG.cell (p := ⟨wr.heap.size, 1, none⟩) hlP).trans p1, (hG.cell (p := ⟨bv, ov + i, none⟩) hlV).trans hcv, (hG.cell (p := ⟨br, or' + i, none⟩) hlR).trans hci, (hG.cell (p := ⟨br, or' + j, none⟩) hlR).trans hcj⟩
      have Hmk2 : Hid (∀ W, Below B w2 W → W.cell? ⟨wr.heap.size, 0, none⟩ = some (.int .i64 (i : Int)) → W.cell? ⟨wr.heap.size, 1, none⟩ = some (.int .i64 (j : Int)) → (W.cell? ⟨wr.heap.size, 0, none⟩ = some (.int .i64 (i : Int)) ∧ W.cell? ⟨wr.heap.size, 1, none⟩ = some (.int .i64 (j : Int)) ∧ W.cell? ⟨bv, ov + i, none⟩ = some (.slice (some ⟨br, or', none⟩) v.length di) ∧ W.cell? ⟨br, or' + i, none⟩ = some (.int .i64 z) ∧ W.cell? ⟨br, or' + j, none⟩ = some (.int .i64 y))) := fun W hG g0 g1 =>
        ⟨g0, g1, (hG.cell (p := ⟨bv, ov + i, none⟩) hlV2).trans hcv2, (hG.cell (p := ⟨br, or' + i, none⟩) hlR2).trans hci2, (hG.cell (p := ⟨br, or' + j, none⟩) hlR2).trans hcj2⟩
      have Hne : Hid ((Value.slice qz zs.length dz).ownBlock ≠ some wr.heap.size) := fun e => by rw [ownBlock_slice] at e; have := (hOlt _ e).2; omega
      obtain ⟨i0, hi0, hz0, hz1, hz2⟩ := info_parts (show (Try.prog.info? 78).map (fun i => (i.zero, i.size, i.bytes)) = some (some (.agg #[.int .i64 0, .int .i64 0, .int .i64 0]), 3, 24) by kernel_rfl)
      clear hcv2 hci2 hcj2 hOlt
      go_region_held3 (fun W => W.cell? ⟨wr.heap.size, 0, none⟩ = some (Value.int .i64 (i : Int)) ∧ W.cell? ⟨wr.heap.size, 1, none⟩ = some (Value.int .i64 (j : Int)) ∧ W.cell? ⟨bv, ov + i, none⟩ = some (Value.slice (some ⟨br, or', none⟩) v.length di) ∧ W.cell? ⟨br, or' + i, none⟩ = some (Value.int .i64 z) ∧ W.cell? ⟨br, or' + j, none⟩ = some (Value.int .i64 y))
        (first | assumption | exact hS4 | exact Hmk.out _ (by repeat (first | exact Below.refl _ _ | apply Below.drewN' | apply Below.drew | refine Below.alloc ?_ (by first | omega | (simp; omega)) _)))
        (first
          | (refine step_append_lies _ rfl (.tmp 34) (.tmp 59) 74 rfl B 78 i0 (.agg #[.int .i64 0, .int .i64 0, .int .i64 0]) 3 24 (by kernel_rfl) hi0 hz0 hz1 hz2 rfl (by decide) (.slice qz zs.length dz) zs.length (cellsT zs) (by simp [Act.eval, Act.put]) (show OwnT 78 _ B _ _ zs from by repeat (first | exact HO1.out | apply OwnT.drewN | apply OwnT.drew1 | apply OwnT.alloc)).row ⟨W1.heap.size, 0, none⟩ 1 1 [.int .i64 (i : Int), .int .i64 (j : Int), .int .i64 (IntKind.i64.wrap (y - z))] (by simp [Act.eval, Act.put]) rfl (cell_three_new _ _ _ _ _) (by simp [Value.oneCell']) (by decide) (by simp [maxLen]; omega) (by omega) (by simp; omega) _ rfl ?_; intro g cap w4 hown3 hg3 hor3 hlt3; have hb4 : Below B w2 w4 := Below.grown (show Below B w2 _ from by repeat (first | exact hbw | apply Below.drewN' | apply Below.drew | refine Below.alloc ?_ (by first | omega | (simp; omega)) _)) hg3 (by simp; omega) (fun k' e => by rw [ownBlock_slice] at e; exact (HO1.out.lt k' e).1); have hS4 := Hmk2.out w4 hb4 ((grown_cell hg3 (by simp; omega) Hne.out).trans (((show Below W1.heap.size W1 _ from by repeat (first | exact Below.refl _ _ | apply Below.drewN' | apply Below.drew | refine Below.alloc ?_ (by first | omega | (simp; omega)) _)).cell (p := ⟨wr.heap.size, 0, none⟩) hlP).trans p0)) ((grown_cell hg3 (by simp; omega) Hne.out).trans (((show Below W1.heap.size W1 _ from by repeat (first | exact Below.refl _ _ | apply Below.drewN' | apply Below.drew | refine Below.alloc ?_ (by first | omega | (simp; omega)) _)).cell (p := ⟨wr.heap.size, 1, none⟩) hlP).trans p1))))
      all_goals
        rw [Hwr.out] at hown3
        go_wp2_with fail
        go_roundw
        case rel => exact ⟨k + 1, by omega, by go_num, ⟨zs ++ [(i, j, y - z)], _, cap, by unfold Hid; rw [hz.out, HS.out], by simp, ownT_snoc hown3⟩, hb4⟩
        case measure => simp [intOf]; omega
    · have hk1 : ¬ (k : Int) < E.length := by omega
      obtain rfl : k = E.length := by omega
      have hzr : zs = envT v a := by rw [hz.out, List.take_of_length_le (by rw [HTl.out]; exact Nat.le_refl _)]
      subst hzr
      go_wp2_with fail
      go_ret2
      exact ⟨qz, dz, rfl, hO.lower hwB, hB.trans (hbr.mono hwB)⟩
end Go.Proofs.Ytfagapcihacgkaa
