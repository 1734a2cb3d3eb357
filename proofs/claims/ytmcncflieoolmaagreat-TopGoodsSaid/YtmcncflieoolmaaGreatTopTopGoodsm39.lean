/- The walk of nash's search, whole; no condition but that the goods are valid, and few. -/
import Derived.Test.YtmcncflieoolmaaGreatTopTopGoodsm27
import Derived.Test.YtmcncflieoolmaaGreatTopTopGoodsm35
/- The walk of nash's search, whole; no condition but that the goods are valid, and few. -/
namespace Go.Proofs.YtmcncflieoolmaaGreat
set_option linter.unusedSimpArgs false
open Go.ChangeShapes Go.WideShapes Go.ChangeAt Go.RowKit Go.Deep
set_option linter.unusedVariables false

theorem NashS.weaken {w0 : World} {S gg dg ga da m : Nat} {pv : Option Addr} {cv : Nat} {v : List (List Int)} {A G : List Int} {P P' : List Int → Prop} {W : World} (h : NashS w0 S gg dg ga da m pv cv v A G P W) (hp : ∀ C, P' C → P C) : NashS w0 S gg dg ga da m pv cv v A G P' W := by
  obtain ⟨bv, c, H, L, h1, h2⟩ := h.st
  refine ⟨h.bel, h.gains, h.arr, bv, c, H, L, h1, ?_⟩
  rcases h2 with ⟨a, b⟩ | ⟨B, gb, db, a1, a2, a3, a4, a5, a6, a7, a8⟩
  · exact .inl ⟨a, fun C hC => b C (hp C hC)⟩
  · exact .inr ⟨B, gb, db, a1, a2, a3, a4, a5, a6, a7, fun C hC => a8 C (hp C hC)⟩
theorem ownUp_congr {v : List (List Int)} {A C : List Int} {k : Nat} (h : ∀ j, j < k → iget A j = iget C j) : ownUp v A k = ownUp v C k := by
  unfold ownUp
  exact List.map_congr_left fun i _ => worthUp_congr k h
theorem ownUp_back {v : List (List Int)} {A : List Int} {k i : Nat} (hi : i < v.length) (hA : iget A k = (i : Int)) : (ownUp v A (k + 1)).set i (iget (ownUp v A (k + 1)) i - iget (rget v i) k) = ownUp v A k := by
  refine ext_iget (by rw [List.length_set, ownUp_len, ownUp_len]) fun j hj => ?_
  rw [List.length_set, ownUp_len] at hj
  rw [iget_set (by rw [ownUp_len]; exact hi), ownUp_get hj, ownUp_get hi]
  by_cases e : i = j
  · subst e; rw [if_pos rfl, worthUp_eq hA, ownUp_get hi]; omega
  · rw [if_neg e, ownUp_get hj, worthUp_ne (by rw [hA]; omega)]
/-- What is seen when the search is done with all that begins as A does. -/
def seenP (n m : Nat) (P : List Int → Prop) (A : List Int) (k : Nat) (C : List Int) : Prop := P C ∨ (DigL n m C ∧ ∀ j, j < k → iget C j = iget A j)
def seenI (n m : Nat) (P : List Int → Prop) (A : List Int) (k i : Nat) (C : List Int) : Prop := P C ∨ (DigL n m C ∧ (∀ j, j < k → iget C j = iget A j) ∧ iget C k < i)

set_option maxRecDepth 100000 in
set_option maxHeartbeats 8000000 in
theorem nash_from (w0 : World) (S gg dg ga da m : Nat) (pv : Option Addr) (cv : Nat) (v : List (List Int)) (hx : Mat w0 pv cv v) (hg : Gds v) (hm : m = wid v) (h4 : v.length ≤ 4) (hS0 : w0.heap.size ≤ S) (hSg : S ≠ gg) (hSa : S ≠ ga) (hga : gg ≠ ga) :
    ∀ (f k : Nat) (A : List Int) (P : List Int → Prop) (W : World), k + f = m → A.length = m → (∀ j, j < k → 0 ≤ iget A j ∧ iget A j < v.length) → NashS w0 S gg dg ga da m pv cv v A (ownUp v A k) P W →
      Calls Tryz.prog 35 #[.pointer (some ⟨S, 0, none⟩), .int .i64 (k : Int)] W fun e W' => (∃ x, e = .returned x) ∧ ∃ A', Hid (A'.length = m ∧ ∀ j, j < k → iget A' j = iget A j) ∧ NashS w0 S gg dg ga da m pv cv v A' (ownUp v A' k) (seenP v.length m P A k) W'
  | 0, k, A, P, W, hkm, hAl, hd, hS => by
    obtain rfl : k = m := by omega
    have hD : DigL v.length k A := ⟨hAl, hd⟩
    have hO : ownUp v A k = ownL v A := by unfold ownL; rw [hAl]
    rw [hO] at hS
    refine (nash_leaf w0 S gg dg ga da k pv cv v hg hm h4 hS0 hSg hSa hga A hD P W hS).mono ?_
    rintro e W' ⟨he, hS'⟩
    have hw := hS'.weaken (P' := seenP v.length k P A k) fun C hC => by
      rcases hC with hC | ⟨hC, hj⟩
      · exact .inl hC
      · exact .inr (ext_iget (by rw [hC.1, hAl]) fun j hj2 => hj j (by rw [← hC.1]; exact hj2))
    exact ⟨he, A, ⟨hAl, fun _ _ => rfl⟩, by rw [hO]; exact hw⟩
  | f + 1, k, A, P, W, hkm, hAl, hd, hS => by
    have h0 : 0 < v.length := hg.1
    have h6 := hg.2.1
    have hm10 := hg.2.2.1
    have HIH := Lib.hid (fun A' P' W' => nash_from w0 S gg dg ga da m pv cv v hx hg hm h4 hS0 hSg hSa hga f (k + 1) A' P' W' (by omega))
    have hne : (((k : Int)) == (m : Int)) = false := by rw [beq_eq_false_iff_ne]; omega
    have hkm1 : (k : Int) < m := by omega
    obtain ⟨bv, cc, HH, LL, hA0, _⟩ := hS.st
    have c0 := hA0.cell (j := 0) rfl
    have c2 := hA0.cell (j := 2) rfl
    have HS := Lib.hid hS
    have Hg := Lib.hid hg
    have Hm := Lib.hid hm
    have Hd := Lib.hid hd
    have hkm' : k < m := by omega
    clear hS hg hm hd hkm hA0
    go_enter Tryz.func35, Tryz.ntmps35
    go_wp2_with fail
    go_loopw [50] (fun t wr => ∃ i : Nat, i ≤ v.length ∧ t = .int .i64 i ∧ ∃ A1, Hid (A1.length = m ∧ ∀ j, j < k → iget A1 j = iget A j) ∧ NashS w0 S gg dg ga da m pv cv v A1 (ownUp v A1 k) (seenI v.length m P A k i) wr) (fun t _ => v.length - (intOf t).toNat)
    case atStart => exact ⟨0, Nat.zero_le _, rfl, A, ⟨hAl, fun _ _ => rfl⟩, HS.out.weaken fun C hC => by
      rcases hC with hC | ⟨h1, _, h2⟩
      · exact hC
      · have := (h1.2 k hkm').1; omega⟩
    case round =>
      clear c0 c2
      obtain ⟨i, hi, rfl, A1, hA1, hK⟩ := hrel
      by_cases hil : i < v.length
      · have hi1 : (i : Int) < v.length := by omega
        have ii : in64 (i : Int) := ⟨by omega, by omega⟩
        have hK2 := hK.setA hSa hga k ii
        have hLen : Hid ((A1.set k (i : Int)).length = m) := by unfold Hid; rw [List.length_set]; exact hA1.out.1
        have hAg : Hid (∀ j, j < k → iget (A1.set k (i : Int)) j = iget A j) := fun j hj => by
          rw [iget_set (by rw [hA1.out.1]; exact hkm'), if_neg (by omega)]; exact hA1.out.2 j hj
        have hAk : Hid (iget (A1.set k (i : Int)) k = (i : Int)) := by unfold Hid; rw [iget_set (by rw [hA1.out.1]; exact hkm'), if_pos rfl]
        have hcong : ownUp v A1 k = ownUp v (A1.set k (i : Int)) k := ownUp_congr fun j hj => by rw [hA1.out.2 j hj, hAg.out j hj]
        rw [hcong] at hK2
        obtain ⟨bv1, cc1, HH1, LL1, hAr1, _⟩ := hK.st
        have c0 := hAr1.cell (j := 0) rfl
        have c1 := hAr1.cell (j := 1) rfl
        have c2 := hAr1.cell (j := 2) rfl
        have ca := hK.arr.at (j := k) (by rw [hA1.out.1]; exact hkm')
        have fa := hK.arr.free k
        obtain ⟨W2, hW2⟩ : ∃ W2, wr.setCell ⟨ga, k, none⟩ (.int .i64 (i : Int)) = W2 := ⟨_, rfl⟩
        rw [hW2] at hK2
        have HW2 := Lib.hid hW2
        obtain ⟨A2, eA2⟩ : ∃ A2, A1.set k (i : Int) = A2 := ⟨_, rfl⟩
        rw [eA2] at hK2 hLen hAg hAk
        clear hW2 hcong eA2 hA1 hK hAr1
        go_upto_region 8 with (fail)
        rw [HW2.out]
        clear c0 c1 c2 ca fa
        obtain ⟨bv2, cc2, HH2, LL2, hAr2, _⟩ := hK2.st
        have c0 := hAr2.cell (j := 0) rfl
        have c1 := hAr2.cell (j := 1) rfl
        have hll : i < (ownUp v A2 k).length := by rw [ownUp_len]; exact hil
        have cl := hK2.gains.at hll
        have fl := hK2.gains.free i
        obtain ⟨bv, ov, rfl, _, q1, d1, cr, hr⟩ := (hx.below hK2.bel (Nat.le_refl _)).get hil
        have hrl : Hid ((rget v i).length = m) := (Hg.out.2.2.2 i hil).1.trans Hm.out.symm
        obtain ⟨b3, o3, rfl, _, c3⟩ := hr.get (j := k) (by rw [hrl.out]; exact hkm')
        have hkr : (k : Int) < (rget v i).length := by rw [hrl.out]; exact hkm1
        have hy2 := gds_bid Hg.out hil (j := k) (by rw [← Hm.out]; exact hkm')
        have hb1 := ownUp_get (v := v) (a := A2) (m := k) hil
        have hb2 := worthUp_in Hg.out hil (i : Int) k (by have := Hm.out; omega) (a := A2)
        have hst : Hid ((ownUp v A2 k).set i (iget (ownUp v A2 k) i + iget (rget v i) k) = ownUp v A2 (k + 1)) := (ownUp_set hAk.out hil).symm
        have hk10 : k ≤ 10 := by have := Hm.out; omega
        have hin : in64 (iget (ownUp v A2 k) i + iget (rget v i) k) := ⟨by omega, by omega⟩
        have hyb : -20000 ≤ iget (ownUp v A2 k) i ∧ iget (ownUp v A2 k) i ≤ 20000 := by omega
        have hK3 := Lib.hid ((hK2.setG hSg hga i hin).below (below_drewN _ _ 1))
        rw [hst.out] at hK3
        obtain ⟨y1, e1⟩ : ∃ y, iget (ownUp v A2 k) i = y := ⟨_, rfl⟩
        obtain ⟨y2, e2⟩ : ∃ y, iget (rget v i) k = y := ⟨_, rfl⟩
        rw [e1, e2] at hK3
        rw [e1] at cl hyb
        rw [e2] at c3 hy2
        clear e1 e2 hb1 hb2 hin hst hK2 hr hAr2
        go_wp2_with fail
        go_still_tail 19, (by kernel_rfl)
        go_wp2_with fail
        obtain ⟨W3, hW3⟩ : ∃ W3, (W2.setCell ⟨gg, i, none⟩ (.int .i64 (y1 + y2))).drew = W3 := ⟨_, rfl⟩
        replace hK3 : Hid (NashS w0 S gg dg ga da m (some ⟨bv, ov, none⟩) cv v A2 (ownUp v A2 (k + 1)) (seenI v.length m P A k i) W3) := by rw [← hW3]; exact hK3
        rw [hW3]
        clear hW3
        have hd3 : ∀ j, j < k + 1 → 0 ≤ iget A2 j ∧ iget A2 j < v.length := fun j hj => by
          by_cases e : j = k
          · subst e; rw [hAk.out]; omega
          · rw [hAg.out j (by omega)]; exact Hd.out j (by omega)
        have CI := HIH.out A2 _ W3 hLen.out hd3 hK3.out
        have ek : ((k + 1 : Nat) : Int) = (k : Int) + 1 := by omega
        rw [ek] at CI
        have CI := Lib.hid CI
        clear hd3 ek c0 c1 cl fl cr c3
        refine CI.out.mono ?_
        rintro e W4 ⟨⟨xr, rfl⟩, A', hA', hS'⟩
        have hAk' : iget A' k = (i : Int) := by rw [hA'.out.2 k (by omega), hAk.out]
        have hAgA : Hid (A'.length = m ∧ ∀ j, j < k → iget A' j = iget A j) := ⟨hA'.out.1, fun j hj => by rw [hA'.out.2 j (by omega), hAg.out j hj]⟩
        have hS2 := hS'.weaken (P' := seenI v.length m P A k (i + 1)) fun C hC => by
          rcases hC with hC | ⟨h1, h2, h3⟩
          · exact .inl (.inl hC)
          · by_cases e : iget C k = (i : Int)
            · refine .inr ⟨h1, fun j hj => ?_⟩
              by_cases ej : j = k
              · subst ej; rw [e, hAk.out]
              · rw [h2 j (by omega), hAg.out j (by omega)]
            · exact .inl (.inr ⟨h1, h2, by omega⟩)
        obtain ⟨bv3, cc3, HH3, LL3, hAr3, _⟩ := hS2.st
        have c0 := hAr3.cell (j := 0) rfl
        have c1 := hAr3.cell (j := 1) rfl
        have hll : i < (ownUp v A' (k + 1)).length := by rw [ownUp_len]; exact hil
        have cl := hS2.gains.at hll
        have fl := hS2.gains.free i
        obtain ⟨bw, ow, e2, _, q1', d1', cr, hr⟩ := (hx.below hS2.bel (Nat.le_refl _)).get hil
        cases e2
        obtain ⟨b4, o4, rfl, _, c3⟩ := hr.get (j := k) (by rw [hrl.out]; exact hkm')
        have hb1 := ownUp_get (v := v) (a := A') (m := k + 1) hil
        have hb2 := worthUp_in Hg.out hil (i : Int) (k + 1) (by have := Hm.out; omega) (a := A')
        have hy2 := gds_bid Hg.out hil (j := k) (by rw [← Hm.out]; exact hkm')
        have hst : Hid ((ownUp v A' (k + 1)).set i (iget (ownUp v A' (k + 1)) i - iget (rget v i) k) = ownUp v A' k) := ownUp_back hil hAk'
        have hin : in64 (iget (ownUp v A' (k + 1)) i - iget (rget v i) k) := ⟨by omega, by omega⟩
        have hyb : -20000 ≤ iget (ownUp v A' (k + 1)) i ∧ iget (ownUp v A' (k + 1)) i ≤ 20000 := by omega
        have hK5 := Lib.hid ((hS2.setG hSg hga i hin).below (below_drewN _ _ 1))
        rw [hst.out] at hK5
        obtain ⟨z1, e1⟩ : ∃ y, iget (ownUp v A' (k + 1)) i = y := ⟨_, rfl⟩
        obtain ⟨z2, e2⟩ : ∃ y, iget (rget v i) k = y := ⟨_, rfl⟩
        rw [e1, e2] at hK5
        rw [e1] at cl hyb
        rw [e2] at c3 hy2
        clear e1 e2 hb1 hb2 hin hst hS' hS2 hr hA' hAk' CI HIH hAr3
        go_wp2_with fail
        go_still_tail 19, (by kernel_rfl)
        go_wp2_with fail
        go_roundw
        case rel => exact ⟨i + 1, by omega, by go_num, A', hAgA.out, hK5.out⟩
        case measure => simp [intOf]; omega
      · have hi1 : ¬ (i : Int) < v.length := by omega
        obtain rfl : i = v.length := by omega
        have HE : Hid (∃ A', Hid (A'.length = m ∧ ∀ j, j < k → iget A' j = iget A j) ∧ NashS w0 S gg dg ga da m pv cv v A' (ownUp v A' k) (seenP v.length m P A k) wr) := ⟨A1, hA1, hK.weaken fun C hC => by
          rcases hC with hC | ⟨h1, h2⟩
          · exact .inl hC
          · exact .inr ⟨h1, h2, (h1.2 k hkm').2⟩⟩
        clear hK hA1 HIH
        go_wp2_with fail
        go_end0
        exact ⟨⟨_, rfl⟩, HE.out⟩
end Go.Proofs.YtmcncflieoolmaaGreat

/- The walk of nash.Best, for valid goods of few agents and goods.  (Printed by wip/gennashe.py.) -/
namespace Go.Proofs.YtmcncflieoolmaaGreat
set_option linter.unusedSimpArgs false
open Go.ChangeShapes Go.WideShapes Go.ChangeAt Go.RowKit Go.Deep
set_option linter.unusedVariables false

theorem nash_init1 (w wz : World) (b o c : Nat) (v : List (List Int)) (hB : Below w.heap.size w wz) (h1 : v.length ≤ 1000000) (h2 : wid v ≤ 1000000) : NashS w (wz.heap.size + 1 + 1) (wz.heap.size) v.length (wz.heap.size + 1) (wid v) (wid v) (some ⟨b, o, none⟩) c v (List.replicate (wid v) 0) (List.replicate v.length 0) (fun _ => False) (((wz.alloc (mkB v.length)).alloc (mkB (wid v))).alloc (.cells #[.slice (some ⟨b, o, none⟩) v.length c, .slice (some ⟨wz.heap.size, 0, none⟩) v.length v.length, .slice (some ⟨wz.heap.size + 1, 0, none⟩) (wid v) (wid v), .slice none 0 0, .int .i64 0, .int .i64 0, .int .i64 0] 75)).drew := by
  obtain ⟨Wc, hWc⟩ : ∃ W, (wz.alloc (mkB v.length)).alloc (mkB (wid v)) = W := ⟨_, rfl⟩
  have hwz := hB.size
  have hsa : (wz.alloc (mkB v.length)).heap.size = wz.heap.size + 1 := by simp
  have hsc : Wc.heap.size = wz.heap.size + 1 + 1 := by rw [← hWc]; simp
  have hBa : Below wz.heap.size wz (wz.alloc (mkB v.length)) := (Below.refl _ _).alloc (Nat.le_refl _) _
  have hBc : Below (wz.alloc (mkB v.length)).heap.size (wz.alloc (mkB v.length)) Wc := hWc ▸ (Below.refl _ _).alloc (Nat.le_refl _) _
  have hO1 : Own Wc w.heap.size (some ⟨wz.heap.size, 0, none⟩) (v.length) (List.replicate (v.length) 0) := (own_mkN wz w.heap.size (v.length) (by omega) hwz).below hBc (Nat.le_refl _)
  have hO2 : Own Wc w.heap.size (some ⟨wz.heap.size + 1, 0, none⟩) ((wid v)) (List.replicate ((wid v)) 0) := by
    have := own_mkN (wz.alloc (mkB v.length)) w.heap.size ((wid v)) (by omega) (by omega)
    rw [hsa, hWc] at this
    exact this
  have hBw : Below w.heap.size w Wc := hB.trans ((hBa.trans (hBc.mono (by omega))).mono hwz)
  obtain ⟨Wb, hWb⟩ : ∃ W, Wc.alloc (.cells #[.slice (some ⟨b, o, none⟩) v.length c, .slice (some ⟨wz.heap.size, 0, none⟩) v.length v.length, .slice (some ⟨wz.heap.size + 1, 0, none⟩) (wid v) (wid v), .slice none 0 0, .int .i64 0, .int .i64 0, .int .i64 0] 75) = W := ⟨_, rfl⟩
  have hBb := below_alloc hWb
  have aK : Arr Wb (wz.heap.size + 1 + 1) _ 75 := Arr.new hsc hWb
  have hN : NashS w (wz.heap.size + 1 + 1) (wz.heap.size) v.length (wz.heap.size + 1) (wid v) (wid v) (some ⟨b, o, none⟩) c v (List.replicate (wid v) 0) (List.replicate v.length 0) (fun _ => False) Wb := ⟨hBw.trans (hBb.mono hBw.size), hO1.below hBb (Nat.le_refl _), hO2.below hBb (Nat.le_refl _), _, _, _, _, aK, .inl ⟨rfl, fun _ h => h⟩⟩
  rw [hWc, hWb]
  exact hN.below (below_drewN _ _ 1)
theorem nash_init2 (w wz : World) (b o c : Nat) (v : List (List Int)) (hB : Below w.heap.size w wz) (h1 : v.length ≤ 1000000) (h2 : wid v ≤ 1000000) : NashS w (wz.heap.size + 1 + 1) (wz.heap.size + 1) v.length (wz.heap.size) (wid v) (wid v) (some ⟨b, o, none⟩) c v (List.replicate (wid v) 0) (List.replicate v.length 0) (fun _ => False) (((wz.alloc (mkB (wid v))).alloc (mkB v.length)).alloc (.cells #[.slice (some ⟨b, o, none⟩) v.length c, .slice (some ⟨wz.heap.size + 1, 0, none⟩) v.length v.length, .slice (some ⟨wz.heap.size, 0, none⟩) (wid v) (wid v), .slice none 0 0, .int .i64 0, .int .i64 0, .int .i64 0] 75)).drew := by
  obtain ⟨Wc, hWc⟩ : ∃ W, (wz.alloc (mkB (wid v))).alloc (mkB v.length) = W := ⟨_, rfl⟩
  have hwz := hB.size
  have hsa : (wz.alloc (mkB (wid v))).heap.size = wz.heap.size + 1 := by simp
  have hsc : Wc.heap.size = wz.heap.size + 1 + 1 := by rw [← hWc]; simp
  have hBa : Below wz.heap.size wz (wz.alloc (mkB (wid v))) := (Below.refl _ _).alloc (Nat.le_refl _) _
  have hBc : Below (wz.alloc (mkB (wid v))).heap.size (wz.alloc (mkB (wid v))) Wc := hWc ▸ (Below.refl _ _).alloc (Nat.le_refl _) _
  have hO1 : Own Wc w.heap.size (some ⟨wz.heap.size, 0, none⟩) ((wid v)) (List.replicate ((wid v)) 0) := (own_mkN wz w.heap.size ((wid v)) (by omega) hwz).below hBc (Nat.le_refl _)
  have hO2 : Own Wc w.heap.size (some ⟨wz.heap.size + 1, 0, none⟩) (v.length) (List.replicate (v.length) 0) := by
    have := own_mkN (wz.alloc (mkB (wid v))) w.heap.size (v.length) (by omega) (by omega)
    rw [hsa, hWc] at this
    exact this
  have hBw : Below w.heap.size w Wc := hB.trans ((hBa.trans (hBc.mono (by omega))).mono hwz)
  obtain ⟨Wb, hWb⟩ : ∃ W, Wc.alloc (.cells #[.slice (some ⟨b, o, none⟩) v.length c, .slice (some ⟨wz.heap.size + 1, 0, none⟩) v.length v.length, .slice (some ⟨wz.heap.size, 0, none⟩) (wid v) (wid v), .slice none 0 0, .int .i64 0, .int .i64 0, .int .i64 0] 75) = W := ⟨_, rfl⟩
  have hBb := below_alloc hWb
  have aK : Arr Wb (wz.heap.size + 1 + 1) _ 75 := Arr.new hsc hWb
  have hN : NashS w (wz.heap.size + 1 + 1) (wz.heap.size + 1) v.length (wz.heap.size) (wid v) (wid v) (some ⟨b, o, none⟩) c v (List.replicate (wid v) 0) (List.replicate v.length 0) (fun _ => False) Wb := ⟨hBw.trans (hBb.mono hBw.size), hO2.below hBb (Nat.le_refl _), hO1.below hBb (Nat.le_refl _), _, _, _, _, aK, .inl ⟨rfl, fun _ h => h⟩⟩
  rw [hWc, hWb]
  exact hN.below (below_drewN _ _ 1)
set_option maxRecDepth 100000 in
set_option maxHeartbeats 8000000 in
theorem nashBest_any (p : Option Addr) (c : Nat) (v : List (List Int)) (w : World) (hx : Mat w p c v) (hg : Gds v) (h4 : v.length ≤ 4) (hw6 : wid v ≤ 6) :
    Calls Tryz.prog 13 #[.agg #[.slice p v.length c]] w fun e w' => ∃ B q d x1 x2 x3, e = .returned (.tuple #[.slice q (wid v) d, .agg #[.int .i64 x1, .int .i64 x2, .int .i64 x3], .int .i64 0]) ∧ Ints w' q d B ∧ DigL v.length (wid v) B ∧ (∀ C, DigL v.length (wid v) C → keyLe v C B) ∧ Below w.heap.size w w' := by
  obtain ⟨W0, hW0⟩ : ∃ W0, w.alloc (.cells #[.slice p v.length c] 24) = W0 := ⟨_, rfl⟩
  obtain ⟨W1, hW1⟩ : ∃ W, W0.alloc (.cells #[.int .i64 0, .int .i64 0, .int .i64 0] 41) = W := ⟨_, rfl⟩
  have hBa := below_alloc hW0
  have hBb := below_alloc hW1
  have hs0 : W0.heap.size = w.heap.size + 1 := by rw [← hW0]; simp
  have hB : Below w.heap.size w W1 := hBa.trans (hBb.mono hBa.size)
  have bX : BoxV W1 w.heap.size [.slice p v.length c] := (BoxV.new rfl hW0).below hBb
  have res0 : Arr W1 (w.heap.size + 1) [.int .i64 0, .int .i64 0, .int .i64 0] 41 := Arr.new hs0 hW1
  have hx0 := hx.below hB (Nat.le_refl _)
  have x0 := bX.cell 0 _ rfl
  have h0 : 0 < v.length := hg.1
  have HC := goodsCheck_any p c v W1 hx0
  rw [chkG_ok hg] at HC
  have HC := Lib.hid HC
  have HW0 := Lib.hid hW0
  have HW1 := Lib.hid hW1
  have Hg := Lib.hid hg
  clear hW0 hW1 hg hBa hBb hs0
  go_enter Tryz.func13, Tryz.ntmps13
  go_wp2_with fail
  rw [HW0.out, HW1.out]
  refine HC.out.mono ?_
  rintro e w1 ⟨rfl, hb⟩
  have bX1 := bX.below hb
  have x0 := bX1.cell 0 _ rfl
  have res1 := res0.below hb res0.lt
  have hB1 := hB.trans (hb.mono hB.size)
  have hs0 : w.heap.size + 1 < W1.heap.size := res0.lt
  have hs1 := hb.size
  have hbW := hb
  obtain ⟨b, o, rfl, _, q0, d0, hcr, hI⟩ := (hx0.below hbW (Nat.le_refl _)).get h0
  rw [Nat.add_zero] at hcr
  have hl0 : (0 : Int) < v.length := by omega
  replace hcr : w1.cell? ⟨b, o, none⟩ = some (.slice q0 (wid v) d0) := hcr
  clear hb HC hI bX
  go_wp2_with fail
  go_loop [6, 19] (fun t i => ∃ k : Nat, k ≤ wid v ∧ i = .int .i64 k ∧ t = .int .i64 ((v.length ^ k : Nat) : Int)) (fun _ i => wid v - (intOf i).toNat)
  case atStart => exact ⟨0, Nat.zero_le _, rfl, rfl⟩
  case round =>
    obtain ⟨k, hk, rfl, rfl⟩ := hrel
    by_cases hlt : k < wid v
    · have hk1 : (k : Int) < wid v := by omega
      have h1 := pow_small h4 (k := k + 1) (by omega)
      have e1 := pow_step v.length k
      obtain ⟨y, ey⟩ : ∃ y, v.length ^ k = y := ⟨_, rfl⟩
      have He := Lib.hid ey
      rw [ey] at e1 ⊢
      obtain ⟨z, ez⟩ : ∃ z, v.length ^ (k + 1) = z := ⟨_, rfl⟩
      have Hz := Lib.hid ez
      rw [ez] at e1 h1
      clear ey ez
      have hwr : IntKind.i64.wrap ((y : Int) * (v.length : Int)) = (z : Int) := by rw [e1]; exact IntWalk.i64_in _ (by omega)
      have hd : decide ((20000 : Int) < (z : Int)) = false := by rw [decide_eq_false_iff_not]; omega
      clear e1
      go_wp2_with fail
      go_round
      case rel => exact ⟨k + 1, by omega, by go_num, by rw [Hz.out]⟩
      case measure => simp [intOf]; omega
    · have hk1 : ¬ (k : Int) < wid v := by omega
      go_wp2_with fail
      obtain ⟨wz, rfl⟩ : ∃ W, W = w1 := ⟨_, rfl⟩
      have hwz := hB1.size
      have Hmk : Hid (∀ W, Below wz.heap.size wz W → W.cell? ⟨w.heap.size, 0, none⟩ = some (.slice (some ⟨b, o, none⟩) v.length c) ∧ W.cell? ⟨b, o, none⟩ = some (.slice q0 (wid v) d0)) := fun W hG =>
        ⟨(hG.cell (p := ⟨w.heap.size, 0, none⟩) (World.block_lt_of_cell? _ _ x0)).trans x0, (hG.cell (p := ⟨b, o, none⟩) (World.block_lt_of_cell? _ _ hcr)).trans hcr⟩
      have hmk := run_mkN (wid v) (by omega)
      have hmk2 := run_mkN v.length (by omega)
      have xa := (Hmk.out (wz.alloc (mkB (wid v))) ((Below.refl _ _).alloc (Nat.le_refl _) _)).1
      have xb := (Hmk.out (wz.alloc (mkB (wid v))) ((Below.refl _ _).alloc (Nat.le_refl _) _)).2
      have xc := (Hmk.out (wz.alloc (mkB v.length)) ((Below.refl _ _).alloc (Nat.le_refl _) _)).1
      have xd := (Hmk.out (wz.alloc (mkB v.length)) ((Below.refl _ _).alloc (Nat.le_refl _) _)).2
      have xe := (Hmk.out ((wz.alloc (mkB v.length)).alloc (mkB (wid v))) (((Below.refl _ _).alloc (Nat.le_refl _) _).alloc (by simp) _)).1
      have xf := (Hmk.out ((wz.alloc (mkB (wid v))).alloc (mkB v.length)) (((Below.refl _ _).alloc (Nat.le_refl _) _).alloc (by simp) _)).1
      go_region
      · have hKS := nash_init1 W1 wz b o c v hbW (by omega) (by omega)
        have hzs := hbW.size
        have CK := nash_from W1 (wz.heap.size + 1 + 1) (wz.heap.size) v.length (wz.heap.size + 1) (wid v) (wid v) (some ⟨b, o, none⟩) c v hx0 Hg.out rfl h4 (by omega) (by omega) (by omega) (by omega) (wid v) 0 (List.replicate (wid v) 0) (fun _ => False) _ (by omega) (by simp) (fun j hj => by omega) (by rw [ownUp_zero]; exact hKS)
        have CK := Lib.hid CK
        clear hKS hmk hmk2 Hmk xa xb xc xd xe xf
        go_wp2_with fail
        refine CK.out.mono ?_
        rintro e w3 ⟨⟨xr, rfl⟩, A', _, hS3⟩
        obtain ⟨bv, c1, c2, c3, aS, hBS⟩ := hS3.st
        have hBest : ∃ B gb db, bv = .slice (some ⟨gb, 0, none⟩) (wid v) db ∧ DigL v.length (wid v) B ∧ Own w3 W1.heap.size (some ⟨gb, 0, none⟩) db B ∧ ∀ C, DigL v.length (wid v) C → keyLe v C B := by
          rcases hBS with ⟨_, hno⟩ | ⟨B, gb, db, e1, e2, e3, _, _, _, _, e4⟩
          · exact absurd (.inr ⟨zero_dig v.length (wid v) h0, fun j hj => by omega⟩) (hno _)
          · exact ⟨B, gb, db, e1, e2, e3, fun C hC => e4 C (.inr ⟨hC, fun j hj => by omega⟩)⟩
        obtain ⟨B, gb, db, rfl, hBD, hBO, hBk⟩ := hBest
        have aR := res0.below hS3.bel res0.lt
        have hB3 := hB.trans (hS3.bel.mono (by omega))
        have HCl : Hid (∀ W, Below w3.heap.size w3 W → Calls Tryz.prog 36 #[.slice (some ⟨gb, 0, none⟩) (wid v) db] W fun e w' => ∃ p' c', e = .returned (.slice p' (wid v) c') ∧ Own w' W.heap.size p' c' B ∧ Below W.heap.size W w') := fun W hW => by
          have := clone_any (some ⟨gb, 0, none⟩) db B W (hBO.ints.below hW (Nat.le_refl _)) (by rw [hBD.1]; omega)
          rw [hBD.1] at this
          refine this.mono ?_
          rintro e w' ⟨p', c', h1, h2, h3⟩
          rw [hBD.1] at h1
          exact ⟨p', c', h1, h2, h3⟩
        have s3 := aS.cell (j := 3) rfl
        have s4 := aS.cell (j := 4) rfl
        have s5 := aS.cell (j := 5) rfl
        have s6 := aS.cell (j := 6) rfl
        have HBD := Lib.hid (show DigL v.length (wid v) B ∧ ∀ C, DigL v.length (wid v) C → keyLe v C B from ⟨hBD, hBk⟩)
        clear hS3 hBS hBD hBO hBk CK
        go_wp2_with fail
        go_region_law (go_simp; go_at_call 36; refine (HCl.out _ (below_drewN w3.heap.size w3 1)).mono ?_; rintro e wC ⟨pc, cc, rfl, hIC, hbC⟩; have hGC : Below w3.heap.size w3 wC := (below_drewN w3.heap.size w3 1).trans (hbC.mono (below_drewN w3.heap.size w3 1).size); have zS := aS.below hGC aS.lt; have zR := aR.below hGC aR.lt; have z3 := zS.cell (j := 3) rfl; have z4 := zS.cell (j := 4) rfl; have z5 := zS.cell (j := 5) rfl; have z6 := zS.cell (j := 6) rfl; have r0 := zR.cell (j := 0) rfl; have r1 := zR.cell (j := 1) rfl; have r2 := zR.cell (j := 2) rfl; have q0 := zR.free 0; have q1 := zR.free 1; have q2 := zR.free 2)
        all_goals
          have hw3s := hB3.size
          have hne : blk pc ≠ some (w.heap.size + 1) := fun e => by
            have h1 := (hIC.lt _ e).1
            have h2 := aR.lt
            simp at h1
            omega
          have y := ((zR.set (j := 0) (u := .int .i64 c1)).set (j := 1) (u := .int .i64 c2)).set (j := 2) (u := .int .i64 c3)
          have y0 := y.cell (j := 0) rfl
          have y1 := y.cell (j := 1) rfl
          have y2 := y.cell (j := 2) rfl
          have hBC : Below w.heap.size w (((wC.setCell ⟨w.heap.size + 1, 0, none⟩ (.int .i64 c1)).setCell ⟨w.heap.size + 1, 1, none⟩ (.int .i64 c2)).setCell ⟨w.heap.size + 1, 2, none⟩ (.int .i64 c3)) := (((hB3.trans (hGC.mono hw3s)).setCell (p := ⟨w.heap.size + 1, 0, none⟩) (by simp) _).setCell (p := ⟨w.heap.size + 1, 1, none⟩) (by simp) _).setCell (p := ⟨w.heap.size + 1, 2, none⟩) (by simp) _
          have hIf := (((hIC.beside (x := 0) (u := .int .i64 c1) hne).beside (x := 1) (u := .int .i64 c2) hne).beside (x := 2) (u := .int .i64 c3) hne).ints
          have HF := Lib.hid (And.intro hIf (And.intro HBD.out.1 (And.intro HBD.out.2 hBC)))
          clear hIC hbC hGC zS zR z3 z4 z5 z6 r0 r1 r2 q0 q1 q2 hBC hIf hne y HCl
          go_wp2_with fail
          refine bodyPost_ret (v := .tuple #[.slice pc (wid v) cc, .agg #[.int .i64 c1, .int .i64 c2, .int .i64 c3], .int .i64 0]) (by simp [results, Tryz.results13, go_sem, y0, y1, y2]) rfl ?_
          exact ⟨B, pc, cc, c1, c2, c3, rfl, HF.out⟩
      · have hKS := nash_init2 W1 wz b o c v hbW (by omega) (by omega)
        have hzs := hbW.size
        have CK := nash_from W1 (wz.heap.size + 1 + 1) (wz.heap.size + 1) v.length (wz.heap.size) (wid v) (wid v) (some ⟨b, o, none⟩) c v hx0 Hg.out rfl h4 (by omega) (by omega) (by omega) (by omega) (wid v) 0 (List.replicate (wid v) 0) (fun _ => False) _ (by omega) (by simp) (fun j hj => by omega) (by rw [ownUp_zero]; exact hKS)
        have CK := Lib.hid CK
        clear hKS hmk hmk2 Hmk xa xb xc xd xe xf
        go_wp2_with fail
        refine CK.out.mono ?_
        rintro e w3 ⟨⟨xr, rfl⟩, A', _, hS3⟩
        obtain ⟨bv, c1, c2, c3, aS, hBS⟩ := hS3.st
        have hBest : ∃ B gb db, bv = .slice (some ⟨gb, 0, none⟩) (wid v) db ∧ DigL v.length (wid v) B ∧ Own w3 W1.heap.size (some ⟨gb, 0, none⟩) db B ∧ ∀ C, DigL v.length (wid v) C → keyLe v C B := by
          rcases hBS with ⟨_, hno⟩ | ⟨B, gb, db, e1, e2, e3, _, _, _, _, e4⟩
          · exact absurd (.inr ⟨zero_dig v.length (wid v) h0, fun j hj => by omega⟩) (hno _)
          · exact ⟨B, gb, db, e1, e2, e3, fun C hC => e4 C (.inr ⟨hC, fun j hj => by omega⟩)⟩
        obtain ⟨B, gb, db, rfl, hBD, hBO, hBk⟩ := hBest
        have aR := res0.below hS3.bel res0.lt
        have hB3 := hB.trans (hS3.bel.mono (by omega))
        have HCl : Hid (∀ W, Below w3.heap.size w3 W → Calls Tryz.prog 36 #[.slice (some ⟨gb, 0, none⟩) (wid v) db] W fun e w' => ∃ p' c', e = .returned (.slice p' (wid v) c') ∧ Own w' W.heap.size p' c' B ∧ Below W.heap.size W w') := fun W hW => by
          have := clone_any (some ⟨gb, 0, none⟩) db B W (hBO.ints.below hW (Nat.le_refl _)) (by rw [hBD.1]; omega)
          rw [hBD.1] at this
          refine this.mono ?_
          rintro e w' ⟨p', c', h1, h2, h3⟩
          rw [hBD.1] at h1
          exact ⟨p', c', h1, h2, h3⟩
        have s3 := aS.cell (j := 3) rfl
        have s4 := aS.cell (j := 4) rfl
        have s5 := aS.cell (j := 5) rfl
        have s6 := aS.cell (j := 6) rfl
        have HBD := Lib.hid (show DigL v.length (wid v) B ∧ ∀ C, DigL v.length (wid v) C → keyLe v C B from ⟨hBD, hBk⟩)
        clear hS3 hBS hBD hBO hBk CK
        go_wp2_with fail
        go_region_law (go_simp; go_at_call 36; refine (HCl.out _ (below_drewN w3.heap.size w3 1)).mono ?_; rintro e wC ⟨pc, cc, rfl, hIC, hbC⟩; have hGC : Below w3.heap.size w3 wC := (below_drewN w3.heap.size w3 1).trans (hbC.mono (below_drewN w3.heap.size w3 1).size); have zS := aS.below hGC aS.lt; have zR := aR.below hGC aR.lt; have z3 := zS.cell (j := 3) rfl; have z4 := zS.cell (j := 4) rfl; have z5 := zS.cell (j := 5) rfl; have z6 := zS.cell (j := 6) rfl; have r0 := zR.cell (j := 0) rfl; have r1 := zR.cell (j := 1) rfl; have r2 := zR.cell (j := 2) rfl; have q0 := zR.free 0; have q1 := zR.free 1; have q2 := zR.free 2)
        all_goals
          have hw3s := hB3.size
          have hne : blk pc ≠ some (w.heap.size + 1) := fun e => by
            have h1 := (hIC.lt _ e).1
            have h2 := aR.lt
            simp at h1
            omega
          have y := ((zR.set (j := 0) (u := .int .i64 c1)).set (j := 1) (u := .int .i64 c2)).set (j := 2) (u := .int .i64 c3)
          have y0 := y.cell (j := 0) rfl
          have y1 := y.cell (j := 1) rfl
          have y2 := y.cell (j := 2) rfl
          have hBC : Below w.heap.size w (((wC.setCell ⟨w.heap.size + 1, 0, none⟩ (.int .i64 c1)).setCell ⟨w.heap.size + 1, 1, none⟩ (.int .i64 c2)).setCell ⟨w.heap.size + 1, 2, none⟩ (.int .i64 c3)) := (((hB3.trans (hGC.mono hw3s)).setCell (p := ⟨w.heap.size + 1, 0, none⟩) (by simp) _).setCell (p := ⟨w.heap.size + 1, 1, none⟩) (by simp) _).setCell (p := ⟨w.heap.size + 1, 2, none⟩) (by simp) _
          have hIf := (((hIC.beside (x := 0) (u := .int .i64 c1) hne).beside (x := 1) (u := .int .i64 c2) hne).beside (x := 2) (u := .int .i64 c3) hne).ints
          have HF := Lib.hid (And.intro hIf (And.intro HBD.out.1 (And.intro HBD.out.2 hBC)))
          clear hIC hbC hGC zS zR z3 z4 z5 z6 r0 r1 r2 q0 q1 q2 hBC hIf hne y HCl
          go_wp2_with fail
          refine bodyPost_ret (v := .tuple #[.slice pc (wid v) cc, .agg #[.int .i64 c1, .int .i64 c2, .int .i64 c3], .int .i64 0]) (by simp [results, Tryz.results13, go_sem, y0, y1, y2]) rfl ?_
          exact ⟨B, pc, cc, c1, c2, c3, rfl, HF.out⟩
end Go.Proofs.YtmcncflieoolmaaGreat
