/- Matrices of the call's own, beside others: what stays, and a store into one number; no condition. -/
import Derived.Test.YtllcbcanohdepaaGreatTopRentFindsm4
import Derived.Test.YtllcbcanohdepaaGreatTopRentFindsm8
import Derived.StillTailTactics
import Derived.Deep.AppendLies
import Derived.Deep.RegionLaw
import Derived.Maps.AppendAt
import Derived.IntWalk
/- Matrices of the call's own, beside others: what stays, and a store into one number; no condition. -/
namespace Go.Proofs.YtllcbcanohdepaaGreat
open Go.ChangeShapes Go.WideShapes Go.ChangeAt Go.RowKit Go.Deep
set_option linter.unusedVariables false
set_option linter.unusedSimpArgs false

theorem ownsRow_move {w w' : World} {base e n : Nat} {v : Value} {xs : List Value} (h : w.ownsRow base e 1 v n xs) (hk : ∀ k, v.ownBlock = some k → w'.heap[k]? = w.heap[k]?) : w'.ownsRow base e 1 v n xs := by
  refine ⟨h.1, ?_⟩
  rcases h.2 with h1 | ⟨g, cap, cur, rfl, h3, h5, r⟩
  · exact .inl h1
  · exact .inr ⟨g, cap, cur, rfl, h3, (hk g rfl).trans h5, r⟩
theorem Own.move {w w' : World} {base : Nat} {p : Option Addr} {c : Nat} {xs : List Int} (h : Own w base p c xs) (hk : ∀ k, blk p = some k → w'.heap[k]? = w.heap[k]?) : Own w' base p c xs :=
  ⟨ownsRow_move h.row (by rw [ownBlock_slice]; exact hk), h.rng⟩
/-- All its blocks lie below B. -/
def Within (B : Nat) (p : Option Addr) (n : Nat) (Q : Nat → Option Addr) : Prop := (∀ k, blk p = some k → k < B) ∧ ∀ j, j < n → ∀ k, blk (Q j) = some k → k < B
theorem DMat.within {w : World} {base : Nat} {p : Option Addr} {c : Nat} {v : List (List Int)} {Q : Nat → Option Addr} {D : Nat → Nat} (h : DMat w base p c v Q D) : Within w.heap.size p v.length Q :=
  ⟨fun k hk => (h.tmat.lt k hk).2, fun j hj k hk => ((h.rows j hj).lt k hk).2⟩
theorem DMat.move {w w' : World} {base : Nat} {p : Option Addr} {c : Nat} {v : List (List Int)} {Q : Nat → Option Addr} {D : Nat → Nat} (h : DMat w base p c v Q D)
    (h1 : ∀ k, blk p = some k → w'.heap[k]? = w.heap[k]?) (h2 : ∀ j, j < v.length → ∀ k, blk (Q j) = some k → w'.heap[k]? = w.heap[k]?) : DMat w' base p c v Q D :=
  ⟨ownsRow_move h.top (by rw [ownBlock_slice]; exact h1), fun j hj => (h.rows j hj).move (h2 j hj), h.apart⟩
theorem DMat.belowW {w w' : World} {base B : Nat} {p : Option Addr} {c : Nat} {v : List (List Int)} {Q : Nat → Option Addr} {D : Nat → Nat} (h : DMat w base p c v Q D) (hw : Within B p v.length Q) (hb : Below B w w') : DMat w' base p c v Q D :=
  h.move (fun k hk => hb.block k (hw.1 k hk)) (fun j hj k hk => hb.block k (hw.2 j hj k hk))
/-- All its blocks lie from base on: what turns only blocks below base leaves it. -/
theorem DMat.above {w w' : World} {base : Nat} {p : Option Addr} {c : Nat} {v : List (List Int)} {Q : Nat → Option Addr} {D : Nat → Nat} (h : DMat w base p c v Q D) (hk : ∀ k, base ≤ k → w'.heap[k]? = w.heap[k]?) : DMat w' base p c v Q D :=
  h.move (fun k e => hk k (h.tmat.lt k e).1) (fun j hj k e => hk k ((h.rows j hj).lt k e).1)
theorem DMat.setElem {w : World} {base g gt ct : Nat} {v : List (List Int)} {Q : Nat → Option Addr} {D : Nat → Nat} (h : DMat w base (some ⟨gt, 0, none⟩) ct v Q D) {i t : Nat} (hi : i < v.length) (hQ : Q i = some ⟨g, 0, none⟩) {x : Int} (hx : in64 x) :
    DMat (w.setCell ⟨g, t, none⟩ (.int .i64 x)) base (some ⟨gt, 0, none⟩) ct (v.set i ((rget v i).set t x)) Q D := by
  have hr := h.rows i hi
  rw [hQ] at hr
  obtain ⟨h1, h2⟩ := hr.set t hx
  have hgt : gt ≠ g := fun e => by
    have := top_not_row h.top (h.rows i hi)
    rw [hQ] at this
    exact this (by simp [blk, e])
  refine ⟨?_, fun j hj => ?_, fun a b ha hb hne k hk => h.apart a b (by simpa using ha) (by simpa using hb) hne k hk⟩
  · have he : rowsV Q D (v.set i ((rget v i).set t x)) = rowsV Q D v := by
      unfold rowsV
      rw [List.length_set]
      refine List.map_congr_left fun j hj => ?_
      rw [rget_set hi]
      by_cases e : i = j
      · subst e; simp
      · rw [if_neg e]
    rw [he, List.length_set]
    refine ownsRow_move h.top fun k hk => ?_
    rw [ownBlock_slice] at hk
    simp [blk] at hk
    subst hk
    exact Below.heap_setCell w ⟨g, t, none⟩ _ gt (fun e => hgt e)
  · rw [List.length_set] at hj
    rw [rget_set hi]
    by_cases e : i = j
    · subst e
      rw [if_pos rfl, hQ]; exact h1
    · rw [if_neg e]
      refine (h.rows j hj).move fun k hk => ?_
      refine Below.heap_setCell w ⟨g, t, none⟩ _ k (fun ek => ?_)
      simp only at ek
      subst ek
      exact h.apart j i hj hi (fun e2 => e e2.symm) k hk (by rw [hQ]; rfl)
end Go.Proofs.YtllcbcanohdepaaGreat

/- The walk of room.Links, for every flat. -/
namespace Go.Proofs.YtllcbcanohdepaaGreat
set_option linter.unusedVariables false
set_option linter.unusedSimpArgs false
open Go.ChangeShapes Go.WideShapes Go.ChangeAt Go.RowKit Go.Deep

theorem own_snocR {w : World} {base : Nat} {p : Option Addr} {c : Nat} {xs : List Int} {y : Int} (h : w.ownsRow base 3 1 (.slice p (xs.length + 1) c) (xs.length + 1) (xs.map (Value.int .i64) ++ [.int .i64 y]))
    (hx : ∀ j, j < xs.length → in64 (iget xs j)) (hy : in64 y) : Own w base p c (xs ++ [y]) := by
  refine ⟨by rw [List.length_append, List.map_append]; exact h, fun j hj => ?_⟩
  rw [List.length_append, List.length_singleton] at hj
  rw [iget_append]
  split
  · exact hx j ‹_›
  · rw [show j - xs.length = 0 by omega]; exact hy
/-- What Links hands back. -/
noncomputable def linksL (v : List (List Int)) (r : Int) : List (List Int) := if chkR v r = 0 then linkL v (bestA v) else []
/-- The call hands back a table, every row its own, and a number that is an error. -/
def GivesD2 (w : World) (v : List (List Int)) (k : Int) (e : Ending) (w' : World) : Prop := ∃ p c Q D, e = .returned (.tuple #[.slice p v.length c, .int .i64 k]) ∧ DMat w' w.heap.size p c v Q D ∧ Below w.heap.size w w'
theorem best_okR (p : Option Addr) (c : Nat) (v : List (List Int)) (w : World) (hx : Mat w p c v) (hv : Bids v) :
    Calls Tryz.prog 36 #[.slice p v.length c] w fun e w' => ∃ q d, e = .returned (.tuple #[.slice q v.length d, .int .i64 (worthI v (bestA v)), .int .i64 0]) ∧ Own w' w.heap.size q d (bestA v) ∧ Below w.heap.size w w' := by
  refine (bestTop_any p c v w hx).mono ?_
  rintro e w' ⟨q, d, rfl, hO, hb⟩
  have h1 : bestL v = bestA v := by unfold bestL; rw [if_pos hv]
  have h2 : bestN v = worthI v (bestA v) := by unfold bestN; rw [if_pos hv]
  have h3 := (bestA_best hv.1).1.1
  rw [h1] at hO
  exact ⟨q, d, by rw [h1, h2, chkI_bids hv, h3], hO, hb⟩
theorem _root_.Go.World.ownsRow.lower' {w : World} {base base' e n : Nat} {v : Value} {xs : List Value} (h : w.ownsRow base e 1 v n xs) (hb : base' ≤ base) : w.ownsRow base' e 1 v n xs := by
  refine ⟨h.1, ?_⟩
  rcases h.2 with h1 | ⟨g, cap, cur, h1, h2, r⟩
  · exact .inl h1
  · exact .inr ⟨g, cap, cur, h1, Nat.le_trans hb h2, r⟩
theorem link0_len (v : List (List Int)) (a : List Int) : (link0 v a).length = v.length := by simp [link0]
theorem link0_row {v : List (List Int)} {a : List Int} {k : Nat} (hk : k < v.length) : rget (link0 v a) k = (List.range v.length).map fun j => wl v a k j := by simp [link0, rget, hk]
theorem link0_row_len {v : List (List Int)} {a : List Int} {k : Nat} (hk : k < v.length) : (rget (link0 v a) k).length = v.length := by rw [link0_row hk]; simp
theorem link0_snoc {v : List (List Int)} {a : List Int} {k m : Nat} (hk : k < v.length) (hm : m < v.length) : (rget (link0 v a) k).take (m + 1) = (rget (link0 v a) k).take m ++ [wl v a k m] := by
  rw [List.take_succ_eq_append_getElem (by rw [link0_row_len hk]; exact hm)]
  simp [link0_row hk]
theorem take_rows (v : List (List Int)) {k : Nat} (h : k < v.length) : v.take (k + 1) = v.take k ++ [rget v k] := by
  rw [List.take_succ_eq_append_getElem h, rget_of h]
/-- The numbers that the closing comes by are small. -/
theorem fw_low {n : Nat} {D : List (List Int)} {M : Int} (h : Sq n D) (hl : ∀ x y, x < n → y < n → M ≤ bid D x y) {b j k : Nat} (hb : b ≤ n) (hj : j < n) (hk : k ≤ n) : ∀ x y, x < n → y < n → M ≤ bid (fwK (fwJ n (fwB n D b) b j) b j k) x y := by
  intro x y hx hy
  have h1 := fwK_ge (b := b) (fwJ_sq (fwB_sq h b) b j) hj x y k hk
  have h2 := fwJ_ge (b := b) (fwB_sq h b) x y j (by omega)
  have h3 : ∀ b, b ≤ n → M ≤ bid (fwB n D b) x y := by
    intro b
    induction b with
    | zero => intro _; exact hl x y hx hy
    | succ b ih => intro hb; exact Int.le_trans (ih (by omega)) (fwJ_ge (fwB_sq h b) x y n (Nat.le_refl _))
  have := h3 b hb
  omega
theorem fw_small {v : List (List Int)} (hv : Bids v) {b j k : Nat} (hb : b < v.length) (hj : j < v.length) (hk : k ≤ v.length) {x y : Nat} (hx : x < v.length) (hy : y < v.length) :
    -1000000 ≤ bid (fwK (fwJ v.length (fwB v.length (link0 v (bestA v)) b) b j) b j k) x y ∧ bid (fwK (fwJ v.length (fwB v.length (link0 v (bestA v)) b) b j) b j k) x y ≤ 6000000 := by
  have hB := bestA_best hv.1
  have hN := noGain_best hB hv.1
  have hC := lnkS_clo (wl v (bestA v)) v.length
  have hsq : Sq v.length (link0 v (bestA v)) := tab_sq _ _
  have he : ∀ x y, x < v.length → y < v.length → bid (link0 v (bestA v)) x y = wl v (bestA v) x y := fun x y hx hy => tab_bid _ hx hy
  refine ⟨fw_low hsq (fun x y hx hy => by rw [he x y hx hy]; exact (wl_bound hv hB.1 hx hy).1) (by omega) hj hk x y hx hy, ?_⟩
  have ht := fun x y z hx hy hz => hC.tri hN (x := x) (y := y) (z := z) hx hy hz
  have hu : UnderG v.length (lnkS (wl v (bestA v)) v.length) (link0 v (bestA v)) := fun x y hx hy => by
    rw [he x y hx hy]
    have h1 := hC.step hN hx hx hy
    rw [hC.self hx] at h1
    omega
  have h1 := fwK_under (fwJ_sq (fwB_sq hsq b) b j) ht (fwJ_under (fwB_sq hsq b) ht (fwB_under hsq ht hu b (by omega)) hb j (by omega)) hb hj k hk x y hx hy
  have := (lnkS_bound hv hB.1 y hx).2
  omega
theorem fwSt_eq (D : List (List Int)) (b j k : Nat) : fwK D b j (k + 1) = (fwK D b j k).set j ((rget (fwK D b j k) j).set k (max (iget (rget (fwK D b j k) j) k) (iget (rget (fwK D b j k) j) b + iget (rget (fwK D b j k) b) k))) := rfl

set_option maxHeartbeats 8000000 in
set_option maxRecDepth 100000 in
theorem roomLinks_any (p : Option Addr) (c : Nat) (v : List (List Int)) (r : Int) (w : World) (hx : Mat w p c v) :
    Calls Tryz.prog 35 #[.agg #[.slice p v.length c, .int .i64 r]] w (GivesD2 w (linksL v r) (chkR v r)) := by
  have hb0 : Below w.heap.size w (w.alloc (.cells #[.slice p v.length c, .int .i64 r] 24)) := (Below.refl _ _).alloc (Nat.le_refl _) _
  have hx1 := hx.below hb0 (Nat.le_refl _)
  obtain ⟨i0, hi0, hz0, hz1, hz2⟩ := info_parts infoInt
  by_cases hF : chkR v r = 0
  · obtain ⟨hv, hr1, hr2⟩ := chkR_zero.1 hF
    have h6 := hv.2.1
    have h0 := hv.1
    have hcz : (chkR v r != 0) = false := by rw [hF]; rfl
    have HL : Hid (linksL v r = linkL v (bestA v)) := by unfold Hid linksL; rw [if_pos hF]
    have HF := Lib.hid hF
    have Hv := Lib.hid hv
    have HB := Lib.hid (bestA_best hv.1)
    clear hF hv
    go_enter Tryz.func35, Tryz.ntmps35
    go_wp2_with fail
    refine (roomCheck_any p c v r _ hx1).mono ?_
    rintro e w1 ⟨rfl, hb1⟩
    have hx2 := hx1.below hb1 (Nat.le_refl _)
    have hB1 := hb0.trans (hb1.mono (by simp))
    have hbx : w1.cell? ⟨w.heap.size, 0, none⟩ = some (.slice p v.length c) := (hb1.cell (p := ⟨w.heap.size, 0, none⟩) (by simp)).trans (by simp)
    clear hb0 hx1 hb1
    go_wp2_with fail
    refine (best_okR p c v w1 hx2 Hv.out).mono ?_
    rintro e w2 ⟨pa, ca, rfl, hAo, hb2⟩
    have hA := hAo.ints
    clear hAo
    have hx3 := hx2.below hb2 (Nat.le_refl _)
    have hbx2 := (hb2.cell (p := ⟨w.heap.size, 0, none⟩) (World.block_lt_of_cell? _ _ hbx)).trans hbx
    have hB2 := hB1.trans (hb2.mono hB1.size)
    have hlt2 := World.block_lt_of_cell? _ _ hbx2
    simp only at hlt2
    clear hb2 hx2 hbx hB1
    obtain ⟨a, ha⟩ : ∃ a, bestA v = a := ⟨_, rfl⟩
    obtain ⟨B0, hB0⟩ : ∃ B0, w2.heap.size = B0 := ⟨_, rfl⟩
    have hle0 : w.heap.size ≤ B0 := by omega
    rw [ha] at hA HB HL
    have HB0 := Lib.hid hB0
    have Ha := Lib.hid ha
    clear hB0 ha
    go_wp2_with fail
    go_loopw [9, 32] (fun s i wr => ∃ k : Nat, k ≤ v.length ∧ i = .int .i64 k ∧ (∃ u p' c' Q D, Hid (u = (link0 v a).take k) ∧ s = .slice p' (u : List (List Int)).length c' ∧ DMat wr B0 p' c' u Q D) ∧ Below B0 w2 wr) (fun _ i _ => v.length - (intOf i).toNat)
    case atStart => exact ⟨0, by omega, rfl, ⟨[], none, 0, fun _ => none, fun _ => 0, rfl, rfl, DMat.ofNil _ _⟩, Below.refl _ _⟩
    case round =>
      obtain ⟨k, hk, rfl, ⟨u, p', c', Q, D, hu, rfl, hU⟩, hB⟩ := hrel
      have hxr := hx3.below hB (Nat.le_of_eq HB0.out)
      have hAr := hA.below hB (Nat.le_of_eq HB0.out)
      have hbr := (hB.cell (p := ⟨w.heap.size, 0, none⟩) (by have := HB0.out; simp only; omega)).trans hbx2
      have hszr := hB.size
      rw [HB0.out] at hszr
      by_cases hlt : k < v.length
      · have hk1 : (k : Int) < v.length := by omega
        obtain ⟨hw1, hw2, hw3⟩ := link_owner Hv.out HB.out.1 hlt
        obtain ⟨o1, _⟩ := (isA_per HB.out.1).inv_spec hlt
        obtain ⟨ow, how⟩ : ∃ ow, inv v.length (itm a) k = ow := ⟨_, rfl⟩
        rw [how] at o1 hw1 hw2 hw3
        clear how
        have Hw1 := Lib.hid hw1
        have Hw2 := Lib.hid hw2
        have Hw3 := Lib.hid hw3
        clear hw1 hw2 hw3
        have hcall : Calls Tryz.prog 61 #[.slice pa v.length ca, .int .i64 k] wr fun e w' => e = .returned (.int .i64 ow) ∧ w' = wr := by
          rw [← HB.out.1.1]; exact index_of pa ca a k ow wr hAr (by rw [HB.out.1.1]; exact o1) Hw1.out Hw2.out
        have Hcall := Lib.hid hcall
        clear hcall
        go_wp2_with fail
        refine Hcall.out.mono ?_
        rintro e w' ⟨rfl, rfl⟩
        obtain ⟨B1, hB1⟩ : ∃ B1, w'.heap.size = B1 := ⟨_, rfl⟩
        have hle1 : B0 ≤ B1 := by omega
        have HB1 := Lib.hid hB1
        clear hB1
        go_wp2_with fail
        go_loopw [12, 39] (fun s i wj => ∃ m : Nat, m ≤ v.length ∧ i = .int .i64 m ∧ (∃ rr q' d', Hid (rr = (rget (link0 v a) k).take m) ∧ s = .slice q' (rr : List Int).length d' ∧ Own wj B1 q' d' rr) ∧ Below B1 w' wj) (fun _ i _ => v.length - (intOf i).toNat)
        case atStart => exact ⟨0, by omega, rfl, ⟨[], none, 0, rfl, rfl, Own.ofNil _ _⟩, Below.refl _ _⟩
        case round =>
          obtain ⟨m, hm, rfl, ⟨rr, q', d', hr, rfl, hR⟩, hbj⟩ := hrel
          have hszj := hbj.size
          rw [HB1.out] at hszj
          by_cases hlt2 : m < v.length
          · have hm1 : (m : Int) < v.length := by omega
            have hbxj := (hbj.cell (p := ⟨w.heap.size, 0, none⟩) (by have := HB0.out; simp only; omega)).trans hbr
            obtain ⟨b, oo, rfl, _, q1, d1, hc, hi⟩ := (hxr.below hbj (Nat.le_of_eq HB1.out)).get o1
            have hrl : (rget v ow).length = v.length := (Hv.out.2.2 ow o1).1
            obtain ⟨b3, o3, rfl, _, hc3⟩ := hi.get (j := m) (by omega)
            have hc4 := hi.at (j := k) (by omega)
            have hr1 := (Hv.out.2.2 ow o1).2 m hlt2
            have hr2 := (Hv.out.2.2 ow o1).2 k hlt
            have hk2 : (m : Int) < (rget v ow).length := by omega
            have hk3 : (k : Int) < (rget v ow).length := by omega
            have hk4 : (ow : Int) < v.length := by omega
            have Hs := Lib.hid (link0_snoc (v := v) (a := a) hlt hlt2)
            rw [Hw3.out m] at Hs
            have hrr : rr.length ≤ 900000 := by rw [hr.out, List.length_take]; omega
            clear hrl
            obtain ⟨y1, e1⟩ : ∃ y, iget (rget v ow) m = y := ⟨_, rfl⟩
            obtain ⟨y2, e2⟩ : ∃ y, iget (rget v ow) k = y := ⟨_, rfl⟩
            rw [e1] at hc3 hr1 Hs
            rw [e2] at hc4 hr2 Hs
            clear e1 e2
            have hy64 : in64 (y1 - y2) := ⟨by omega, by omega⟩
            go_wp2_with fail
            have Hwr : Hid (IntKind.i64.wrap (y1 - y2) = y1 - y2) := IntWalk.i64_in _ (by omega)
            go_region_law (refine step_append_lies _ rfl (.tmp 42) (.tmp 60) 25 rfl B1 3 i0 (.int .i64 0) 1 8 Tryz.underlying25 hi0 hz0 hz1 hz2 rfl (by decide) (.slice q' rr.length d') rr.length (rr.map (Value.int .i64)) (by simp [Act.eval, Act.put]) (show Own _ B1 _ _ rr from by repeat (first | exact hR | apply Own.drewN | apply Own.drew1 | apply Own.alloc)).row ⟨wr.heap.size, 0, none⟩ 1 1 [.int .i64 (IntKind.i64.wrap (y1 - y2))] (by simp [Act.eval, Act.put]) rfl (cell_one_new _ _ _) (by simp [Value.oneCell']) (by decide) (by simp [maxLen]; omega) (by omega) (by simp; omega) _ rfl ?_; intro g cap w3 hown3 hg3 hor3 hlt3)
            all_goals
              rw [Hwr.out] at hown3
              have hb3 : Below B1 w' w3 := Below.grown (show Below B1 w' _ from by repeat (first | exact hbj | apply Below.drewN' | apply Below.drew | refine Below.alloc ?_ (by omega) _)) hg3 (by simp; omega) (fun k' e => by rw [ownBlock_slice] at e; exact (hR.lt k' e).1)
              go_wp2_with fail
              go_roundw
              case rel => exact ⟨m + 1, by omega, by go_num, ⟨rr ++ [y1 - y2], _, cap, by unfold Hid; rw [Hs.out, hr.out], by simp, own_snocR hown3 hR.rng hy64⟩, hb3⟩
              case measure => simp [intOf]; omega
          · have hm1 : ¬ (m : Int) < v.length := by omega
            obtain rfl : m = v.length := by omega
            have hrw : rr = rget (link0 v a) k := by rw [hr.out, List.take_of_length_le (by rw [link0_row_len hlt]; exact Nat.le_refl _)]
            have hU2 := hU.below hbj (Nat.le_of_eq HB1.out)
            have hul : u.length ≤ 900000 := by have := congrArg List.length hu.out; rw [List.length_take] at this; omega
            have hR2 := hR.lower hle1
            have hnew : ∀ j, j < u.length → ∀ k', blk (Q j) = some k' → blk q' ≠ some k' := fun j hj k' e1 e2 => by
              have h1 := (hU.lt j hj k' e1).2
              have h2 := (hR.lt k' e2).1
              have := HB1.out
              omega
            have hBj : Below B0 w2 wr := hB.trans (hbj.mono hle1)
            have Hrw := Lib.hid hrw
            clear hrw hr
            go_wp2_with (at_builtin; refine wpList_appOwnRow rfl (.tmp 63) (.tmp 65) rfl B0 _ _ _ Q D _ _ rr rfl rfl rfl hU2 hR2 hnew hul (by omega) ?_; intro p3 c3 w3 u3 hu3 hD3 hg3 hf3)
            go_roundw
            case rel => exact ⟨k + 1, by omega, by go_num, ⟨u3, _, _, _, _, by unfold Hid; rw [hu3.out, hu.out, Hrw.out, take_rows _ (by rw [link0_len]; exact hlt)], rfl, hD3⟩, hBj.grown hg3 (by omega) (fun k' e => (hU2.tmat.lt k' e).1)⟩
            case measure => simp [intOf]; omega
      · have hk1 : ¬ (k : Int) < v.length := by omega
        obtain rfl : k = v.length := by omega
        have hul : u = link0 v a := by rw [hu.out, List.take_of_length_le (by rw [link0_len]; exact Nat.le_refl _)]
        subst hul
        rw [link0_len]
        obtain ⟨g, rfl, hg1, hg2, _, _⟩ := hU.tmat.get (j := 0) (by rw [link0_len]; omega)
        have hsq : Sq v.length (link0 v a) := tab_sq _ _
        have Hsq := Lib.hid hsq
        have HU := Lib.hid hU
        have HBw := Lib.hid hB
        have Hfw : Hid (fwB v.length (link0 v a) v.length = linkL v a) := fw_links HB.out h0
        have Hsm : Hid (∀ b j k x y : Nat, b < v.length → j < v.length → k ≤ v.length → x < v.length → y < v.length → -1000000 ≤ bid (fwK (fwJ v.length (fwB v.length (link0 v a) b) b j) b j k) x y ∧ bid (fwK (fwJ v.length (fwB v.length (link0 v a) b) b j) b j k) x y ≤ 6000000) := by
          intro b j k x y hb hj hk hx hy
          have := fw_small Hv.out hb hj hk hx hy
          rwa [Ha.out] at this
        clear hu hsq hU hB hxr hAr hbr hx3 hA hbx2 hg1 hg2 HB Ha
        go_wp2_with fail
        go_loopw [69] (fun t wr => ∃ b : Nat, b ≤ v.length ∧ t = .int .i64 b ∧ DMat wr B0 (some ⟨g, 0, none⟩) c' (fwB v.length (link0 v a) b) Q D ∧ Below B0 w2 wr) (fun t _ => v.length - (intOf t).toNat)
        case atStart => exact ⟨0, by omega, rfl, HU.out, HBw.out⟩
        case round =>
          obtain ⟨b, hbn, rfl, hD, hBb⟩ := hrel
          have HD := Lib.hid hD
          have HBb := Lib.hid hBb
          clear hD hBb HU HBw
          by_cases hbl : b < v.length
          · have hb1 : (b : Int) < v.length := by omega
            go_wp2_with fail
            go_loopw [73] (fun t wr => ∃ j : Nat, j ≤ v.length ∧ t = .int .i64 j ∧ DMat wr B0 (some ⟨g, 0, none⟩) c' (fwJ v.length (fwB v.length (link0 v a) b) b j) Q D ∧ Below B0 w2 wr) (fun t _ => v.length - (intOf t).toNat)
            case atStart => exact ⟨0, by omega, rfl, HD.out, HBb.out⟩
            case round =>
              obtain ⟨j, hjn, rfl, hD, hBb⟩ := hrel
              have HDj := Lib.hid hD
              have HBj := Lib.hid hBb
              clear hD hBb
              by_cases hjl : j < v.length
              · have hj1 : (j : Int) < v.length := by omega
                go_wp2_with fail
                go_loopw [77] (fun t wr => ∃ k : Nat, k ≤ v.length ∧ t = .int .i64 k ∧ DMat wr B0 (some ⟨g, 0, none⟩) c' (fwK (fwJ v.length (fwB v.length (link0 v a) b) b j) b j k) Q D ∧ Below B0 w2 wr) (fun t _ => v.length - (intOf t).toNat)
                case atStart => exact ⟨0, by omega, rfl, HDj.out, HBj.out⟩
                case round =>
                  obtain ⟨k, hkn, rfl, hD, hBb⟩ := hrel
                  by_cases hkl : k < v.length
                  · have hk1 : (k : Int) < v.length := by omega
                    have hsqk := fwK_sq (fwJ_sq (fwB_sq Hsq.out b) b j) b j k
                    have Hst := Lib.hid (fwSt_eq (fwJ v.length (fwB v.length (link0 v a) b) b j) b j k)
                    have s1 := Hsm.out b j k j k hbl hjl hkn hjl hkl
                    have s2 := Hsm.out b j k j b hbl hjl hkn hjl hbl
                    have s3 := Hsm.out b j k b k hbl hjl hkn hbl hkl
                    unfold bid at s1 s2 s3
                    generalize fwK (fwJ v.length (fwB v.length (link0 v a) b) b j) b j k = M at *
                    obtain ⟨hl1, hl2⟩ := hsqk
                    have t1 := hD.tmat.at (j := j) (by rw [hl1]; exact hjl)
                    have t2 := hD.tmat.at (j := b) (by rw [hl1]; exact hbl)
                    have r1 := hD.rows j (by rw [hl1]; exact hjl)
                    have r2 := hD.rows b (by rw [hl1]; exact hbl)
                    rw [hl2 j hjl] at t1
                    rw [hl2 b hbl] at t2
                    obtain ⟨gj, hgj, _, _, c1, f1⟩ := r1.get (j := k) (by rw [hl2 j hjl]; exact hkl)
                    have hrj : Own wr B0 (some ⟨gj, 0, none⟩) (D j) (rget M j) := hgj ▸ r1
                    have c2 := hrj.at (j := b) (by rw [hl2 j hjl]; exact hbl)
                    obtain ⟨gb, hgb, _, _, c3, _⟩ := r2.get (j := k) (by rw [hl2 b hbl]; exact hkl)
                    rw [hgj] at t1
                    rw [hgb] at t2
                    have HDm := Lib.hid hD
                    have HBm := Lib.hid hBb
                    have Hl1 := Lib.hid hl1
                    have Hgj := Lib.hid hgj
                    clear hD hBb hl1 hl2 r1 r2 hrj hgj hgb
                    obtain ⟨y1, e1⟩ : ∃ y, iget (rget M j) k = y := ⟨_, rfl⟩
                    obtain ⟨y2, e2⟩ : ∃ y, iget (rget M j) b = y := ⟨_, rfl⟩
                    obtain ⟨y3, e3⟩ : ∃ y, iget (rget M b) k = y := ⟨_, rfl⟩
                    rw [e1] at c1 s1 Hst
                    rw [e2] at c2 s2 Hst
                    rw [e3] at c3 s3 Hst
                    clear e1 e2 e3
                    have hin3 : in64 y1 := ⟨by omega, by omega⟩
                    have hin4 : in64 (y2 + y3) := ⟨by omega, by omega⟩
                    by_cases hgt : y1 < y2 + y3
                    · have Hm : Hid (max y1 (y2 + y3) = y2 + y3) := by unfold Hid; omega
                      go_wp2_with fail
                      go_still_tail 29, (by kernel_rfl)
                      go_wp2_with fail
                      go_roundw
                      case rel => exact ⟨k + 1, by omega, by go_num, by rw [Hst.out, Hm.out]; exact (HDm.out.setElem (t := k) (by rw [Hl1.out]; exact hjl) Hgj.out hin4).below (below_drewN _ _ 1) (Nat.le_refl _), (HBm.out.setCell (p := ⟨gj, k, none⟩) (by have := (HDm.out.rows j (by rw [Hl1.out]; exact hjl)).lt gj (by rw [Hgj.out]; rfl); exact this.1) _).drew⟩
                      case measure => simp [intOf]; omega
                    · have Hm : Hid (max y1 (y2 + y3) = y1) := by unfold Hid; omega
                      have hle : y2 + y3 ≤ y1 := by omega
                      go_wp2_with fail
                      go_still_tail 29, (by kernel_rfl)
                      go_wp2_with fail
                      go_roundw
                      case rel => exact ⟨k + 1, by omega, by go_num, by rw [Hst.out, Hm.out]; exact (HDm.out.setElem (t := k) (by rw [Hl1.out]; exact hjl) Hgj.out hin3).below (below_drewN _ _ 1) (Nat.le_refl _), (HBm.out.setCell (p := ⟨gj, k, none⟩) (by have := (HDm.out.rows j (by rw [Hl1.out]; exact hjl)).lt gj (by rw [Hgj.out]; rfl); exact this.1) _).drew⟩
                      case measure => simp [intOf]; omega
                  · have hk1 : ¬ (k : Int) < v.length := by omega
                    obtain rfl : k = v.length := by omega
                    go_wp2_with fail
                    go_roundw
                    case rel => exact ⟨j + 1, by omega, by go_num, hD, hBb⟩
                    case measure => simp [intOf]; omega
              · have hj1 : ¬ (j : Int) < v.length := by omega
                obtain rfl : j = v.length := by omega
                go_wp2_with fail
                go_roundw
                case rel => exact ⟨b + 1, by omega, by go_num, HDj.out, HBj.out⟩
                case measure => simp [intOf]; omega
          · have hb1 : ¬ (b : Int) < v.length := by omega
            obtain rfl : b = v.length := by omega
            have hD := HD.out
            rw [Hfw.out] at hD
            have hll : (linkL v a).length = v.length := by simp [linkL]
            have Hll := Lib.hid hll
            clear hll
            have HDe := Lib.hid hD
            clear hD
            go_wp2_with fail
            go_ret2
            rw [HL.out, HF.out]
            exact ⟨some ⟨g, 0, none⟩, c', Q, D, by rw [Hll.out]; rfl, ⟨HDe.out.tmat.top.lower' hle0, fun i hi => (HDe.out.rows i hi).lower hle0, HDe.out.apart⟩, hB2.trans (HBb.out.mono hle0)⟩
  · have hcz : (chkR v r != 0) = true := by rw [bne_iff_ne]; exact hF
    have HL : Hid (linksL v r = []) := by unfold Hid linksL; rw [if_neg hF]
    clear hF
    go_enter Tryz.func35, Tryz.ntmps35
    go_wp2_with fail
    refine (roomCheck_any p c v r _ hx1).mono ?_
    rintro e w1 ⟨rfl, hb1⟩
    go_wp2_with fail
    go_ret2
    rw [HL.out]
    exact ⟨none, 0, fun _ => none, fun _ => 0, rfl, DMat.ofNil _ _, hb0.trans (hb1.mono (by simp))⟩
end Go.Proofs.YtllcbcanohdepaaGreat

/- The walk of the reference's Links, for every flat. -/
namespace Go.Proofs.YtllcbcanohdepaaGreat
set_option linter.unusedVariables false
set_option linter.unusedSimpArgs false
open Go.ChangeShapes Go.WideShapes Go.ChangeAt Go.RowKit Go.Deep

theorem cell_one_at {W : World} {v : Value} {t : TypeId} {B : Nat} (hB : W.heap.size = B) : ∀ (j : Nat) (u : Value), [v][j]? = some u → (W.alloc (.cells #[v] t)).cell? ((⟨B, 0, none⟩ : Addr).add j) = some u := by
  subst hB; exact cell_one_new _ _ _
theorem most_okR (p : Option Addr) (c : Nat) (v : List (List Int)) (w : World) (hx : Mat w p c v) (hv : Bids v) :
    Calls Tryz.prog 21 #[.slice p v.length c] w fun e w' => ∃ q d, e = .returned (.slice q v.length d) ∧ Own w' w.heap.size q d (bestA v) ∧ Below w.heap.size w w' := by
  refine (most_any p c v w hx hv).mono ?_
  rintro e w' ⟨q, d, rfl, hO, hb⟩
  exact ⟨q, d, by rw [(bestA_best hv.1).1.1], hO, hb⟩
theorem linkL_len (v : List (List Int)) (a : List Int) : (linkL v a).length = v.length := by simp [linkL]
theorem linkL_row {v : List (List Int)} {a : List Int} {k : Nat} (hk : k < v.length) : rget (linkL v a) k = (List.range v.length).map fun j => lnkS (wl v a) v.length k j := by simp [linkL, rget, hk]
theorem linkL_row_len {v : List (List Int)} {a : List Int} {k : Nat} (hk : k < v.length) : (rget (linkL v a) k).length = v.length := by rw [linkL_row hk]; simp
theorem linkL_snoc {v : List (List Int)} {a : List Int} {k m : Nat} (hk : k < v.length) (hm : m < v.length) : (rget (linkL v a) k).take (m + 1) = (rget (linkL v a) k).take m ++ [lnkS (wl v a) v.length k m] := by
  rw [List.take_succ_eq_append_getElem (by rw [linkL_row_len hk]; exact hm)]
  simp [linkL_row hk]

set_option maxHeartbeats 8000000 in
set_option maxRecDepth 100000 in
theorem refLinks_any (p : Option Addr) (c : Nat) (v : List (List Int)) (r : Int) (w : World) (hx : Mat w p c v) :
    Calls Tryz.prog 56 #[.agg #[.slice p v.length c, .int .i64 r]] w (GivesD2 w (linksL v r) (chkR v r)) := by
  have hb0 : Below w.heap.size w (w.alloc (.cells #[.slice p v.length c, .int .i64 r] 24)) := (Below.refl _ _).alloc (Nat.le_refl _) _
  have hx1 := hx.below hb0 (Nat.le_refl _)
  obtain ⟨i0, hi0, hz0, hz1, hz2⟩ := info_parts infoInt
  by_cases hF : chkR v r = 0
  · obtain ⟨hv, hr1, hr2⟩ := chkR_zero.1 hF
    have h6 := hv.2.1
    have h0 := hv.1
    have hmk := fun W => run_mkB v.length (by omega) W
    have hcz : (chkR v r != 0) = false := by rw [hF]; rfl
    have HL : Hid (linksL v r = linkL v (bestA v)) := by unfold Hid linksL; rw [if_pos hF]
    have HF := Lib.hid hF
    have Hv := Lib.hid hv
    have HB := Lib.hid (bestA_best hv.1)
    clear hF hv
    go_enter Tryz.func56, Tryz.ntmps56
    go_wp2_with fail
    refine (refCheckR_any p c v r _ hx1).mono ?_
    rintro e w1 ⟨rfl, hb1⟩
    have hx2 := hx1.below hb1 (Nat.le_refl _)
    have hB1 := hb0.trans (hb1.mono (by simp))
    have hbx : w1.cell? ⟨w.heap.size, 0, none⟩ = some (.slice p v.length c) := (hb1.cell (p := ⟨w.heap.size, 0, none⟩) (by simp)).trans (by simp)
    clear hb0 hx1 hb1
    go_wp2_with fail
    refine (most_okR p c v w1 hx2 Hv.out).mono ?_
    rintro e w2 ⟨pa, ca, rfl, hAo, hb2⟩
    have hA := hAo.ints
    clear hAo
    have hx3 := hx2.below hb2 (Nat.le_refl _)
    have hbx2 := (hb2.cell (p := ⟨w.heap.size, 0, none⟩) (World.block_lt_of_cell? _ _ hbx)).trans hbx
    have hB2 := hB1.trans (hb2.mono hB1.size)
    have hlt2 := World.block_lt_of_cell? _ _ hbx2
    simp only at hlt2
    clear hb2 hx2 hbx hB1
    obtain ⟨a, ha⟩ : ∃ a, bestA v = a := ⟨_, rfl⟩
    obtain ⟨B0, hB0⟩ : ∃ B0, w2.heap.size = B0 := ⟨_, rfl⟩
    have hle0 : w.heap.size ≤ B0 := by omega
    have hlt0 : w.heap.size < B0 := by omega
    rw [ha] at hA HB HL
    have HB0 := Lib.hid hB0
    clear hB0 ha
    go_wp2_with fail
    go_loopw [5, 6] (fun s i wr => ∃ k : Nat, k ≤ v.length ∧ i = .int .i64 k ∧ (∃ u p' c' Q D, Hid (u = (linkL v a).take k) ∧ s = .slice p' (u : List (List Int)).length c' ∧ DMat wr B0 p' c' u Q D) ∧ Below B0 w2 wr) (fun _ i _ => v.length - (intOf i).toNat)
    case atStart => exact ⟨0, by omega, rfl, ⟨[], none, 0, fun _ => none, fun _ => 0, rfl, rfl, DMat.ofNil _ _⟩, Below.refl _ _⟩
    case round =>
      obtain ⟨k, hk, rfl, ⟨u, p', c', Q, D, hu, rfl, hU⟩, hB⟩ := hrel
      have hbr := (hB.cell (p := ⟨w.heap.size, 0, none⟩) hlt0).trans hbx2
      have hszr := hB.size
      rw [HB0.out] at hszr
      by_cases hlt : k < v.length
      · have hk1 : (k : Int) < v.length := by omega
        obtain ⟨W9, hW9⟩ : ∃ W9, W9 = wr := ⟨_, rfl⟩
        subst hW9
        obtain ⟨B1, hB1⟩ : ∃ B1, W9.heap.size = B1 := ⟨_, rfl⟩
        have hle1 : B0 ≤ B1 := by omega
        have hlt1 : w.heap.size < B1 := by omega
        have HB1 := Lib.hid hB1
        clear hB1
        go_wp2_with fail
        go_loopw [7, 8] (fun s i wj => ∃ m : Nat, m ≤ v.length ∧ i = .int .i64 m ∧ (∃ rr q' d', Hid (rr = (rget (linkL v a) k).take m) ∧ s = .slice q' (rr : List Int).length d' ∧ Own wj B1 q' d' rr) ∧ Below B1 W9 wj) (fun _ i _ => v.length - (intOf i).toNat)
        case atStart => exact ⟨0, by omega, rfl, ⟨[], none, 0, rfl, rfl, Own.ofNil _ _⟩, Below.refl _ _⟩
        case round =>
          obtain ⟨m, hm, rfl, ⟨rr, q', d', hr, rfl, hR⟩, hbj⟩ := hrel
          have hszj := hbj.size
          rw [HB1.out] at hszj
          have hbxj := (hbj.cell (p := ⟨w.heap.size, 0, none⟩) hlt1).trans hbr
          by_cases hlt2 : m < v.length
          · have hm1 : (m : Int) < v.length := by omega
            have hltj : w.heap.size < wr.heap.size := by omega
            have hbw : Below w2.heap.size w2 wr := by rw [HB0.out]; exact hB.trans (hbj.mono hle1)
            have hlink := fun W (h : W = wr) => h ▸ link0_any (wr := wr) hx3 hA Hv.out HB.out.1 hlt hlt2 hbw
            have Hlink := Lib.hid hlink
            have hbl := lnkS_bound Hv.out HB.out.1 m hlt
            have Hs := Lib.hid (linkL_snoc (v := v) (a := a) hlt hlt2)
            have hrr : rr.length ≤ 900000 := by rw [hr.out, List.length_take]; omega
            clear hlink hbw
            obtain ⟨L, hL⟩ : ∃ L, lnkS (wl v a) v.length k m = L := ⟨_, rfl⟩
            rw [hL] at hbl Hs Hlink
            clear hL
            have hy64 : in64 L := ⟨by omega, by omega⟩
            go_wp2_with fail
            go_region_law (first
              | (refine step_append_lies _ rfl (.tmp 31) (.tmp 42) 25 rfl B1 3 i0 (.int .i64 0) 1 8 Tryz.underlying25 hi0 hz0 hz1 hz2 rfl (by decide) (.slice q' rr.length d') rr.length (rr.map (Value.int .i64)) (by simp [Act.eval, Act.put]) (show Own _ B1 _ _ rr from by repeat (first | exact hR | apply Own.drewN | apply Own.drew1 | apply Own.alloc)).row ⟨wr.heap.size + 1, 0, none⟩ 1 1 [.int .i64 L] (by simp [Act.eval, Act.put]) rfl (cell_one_at (by simp)) (by simp [Value.oneCell']) (by decide) (by simp [maxLen]; omega) (by omega) (by simp; omega) _ rfl ?_; intro g cap w3 hown3 hg3 hor3 hlt3)
              | (go_simp; go_at_call 73; refine (Hlink.out _ rfl).mono ?_; rintro e w' ⟨rfl, N, rfl⟩))
            all_goals
              have hb3 : Below B1 W9 w3 := Below.grown (show Below B1 W9 _ from by repeat (first | exact hbj | apply Below.drewN' | apply Below.drew | refine Below.alloc ?_ (by first | omega | (simp; omega)) _)) hg3 (by simp; omega) (fun k' e => by rw [ownBlock_slice] at e; exact (hR.lt k' e).1)
              go_wp2_with fail
              go_roundw
              case rel => exact ⟨m + 1, by omega, by go_num, ⟨rr ++ [L], _, cap, by unfold Hid; rw [Hs.out, hr.out], by simp, own_snocR hown3 hR.rng hy64⟩, hb3⟩
              case measure => simp [intOf]; omega
          · have hm1 : ¬ (m : Int) < v.length := by omega
            obtain rfl : m = v.length := by omega
            have hrw : rr = rget (linkL v a) k := by rw [hr.out, List.take_of_length_le (by rw [linkL_row_len hlt]; exact Nat.le_refl _)]
            have hU2 := hU.below hbj (Nat.le_of_eq HB1.out)
            have hul : u.length ≤ 900000 := by have := congrArg List.length hu.out; rw [List.length_take] at this; omega
            have hR2 := hR.lower hle1
            have hnew : ∀ j, j < u.length → ∀ k', blk (Q j) = some k' → blk q' ≠ some k' := fun j hj k' e1 e2 => by
              have h1 := (hU.lt j hj k' e1).2
              have h2 := (hR.lt k' e2).1
              have := HB1.out
              omega
            have hBj : Below B0 w2 wr := hB.trans (hbj.mono hle1)
            have Hrw := Lib.hid hrw
            clear hrw hr
            go_wp2_with (at_builtin; refine wpList_appOwnRow rfl (.tmp 44) (.tmp 46) rfl B0 _ _ _ Q D _ _ rr rfl rfl rfl hU2 hR2 hnew hul (by omega) ?_; intro p3 c3 w3 u3 hu3 hD3 hg3 hf3)
            go_roundw
            case rel => exact ⟨k + 1, by omega, by go_num, ⟨u3, _, _, _, _, by unfold Hid; rw [hu3.out, hu.out, Hrw.out, take_rows _ (by rw [linkL_len]; exact hlt)], rfl, hD3⟩, hBj.grown hg3 (by omega) (fun k' e => (hU2.tmat.lt k' e).1)⟩
            case measure => simp [intOf]; omega
      · have hk1 : ¬ (k : Int) < v.length := by omega
        obtain rfl : k = v.length := by omega
        have hul : u = linkL v a := by rw [hu.out, List.take_of_length_le (by rw [linkL_len]; exact Nat.le_refl _)]
        subst hul
        have HDe := Lib.hid hU
        have HBb := Lib.hid hB
        clear hU hB
        go_wp2_with fail
        go_ret2
        rw [HL.out, HF.out]
        exact ⟨p', c', Q, D, rfl, ⟨HDe.out.tmat.top.lower' hle0, fun i hi => (HDe.out.rows i hi).lower hle0, HDe.out.apart⟩, hB2.trans (HBb.out.mono hle0)⟩
  · have hcz : (chkR v r != 0) = true := by rw [bne_iff_ne]; exact hF
    have HL : Hid (linksL v r = []) := by unfold Hid linksL; rw [if_neg hF]
    clear hF
    go_enter Tryz.func56, Tryz.ntmps56
    go_wp2_with fail
    refine (refCheckR_any p c v r _ hx1).mono ?_
    rintro e w1 ⟨rfl, hb1⟩
    have hbx : w1.cell? ⟨w.heap.size, 0, none⟩ = some (.slice p v.length c) := (hb1.cell (p := ⟨w.heap.size, 0, none⟩) (by simp)).trans (by simp)
    have hbx2 : w1.cell? ⟨w.heap.size, 1, none⟩ = some (.int .i64 r) := (hb1.cell (p := ⟨w.heap.size, 1, none⟩) (by simp)).trans (by simp)
    have hx2 := hx1.below hb1 (Nat.le_refl _)
    have hB1 := hb0.trans (hb1.mono (by simp))
    go_wp2_with fail
    refine (refCheckR_any p c v r _ hx2).mono ?_
    rintro e w2 ⟨rfl, hb2⟩
    go_wp2_with fail
    go_ret2
    rw [HL.out]
    exact ⟨none, 0, fun _ => none, fun _ => 0, rfl, DMat.ofNil _ _, hB1.trans (hb2.mono hB1.size)⟩
end Go.Proofs.YtllcbcanohdepaaGreat
