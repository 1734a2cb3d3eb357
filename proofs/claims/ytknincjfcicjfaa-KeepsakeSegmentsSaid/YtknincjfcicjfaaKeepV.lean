/- The walk of keepsake.places at rankings; no condition. -/
import Derived.Test.YtknincjfcicjfaaKeepU
import Derived.Test.YtknincjfcicjfaaMkM
namespace Go.Proofs.Ytknincjfcicjfaa
set_option linter.unusedVariables false
set_option linter.unusedSimpArgs false
open Go.ChangeShapes Go.WideShapes Go.ChangeAt Go.RowKit Go.Deep

/-- The places of all items in all rankings. -/
def plcS (v : List (List Int)) (i : Nat) : List (List Int) := (List.range v.length).map fun j => if j < i then plcR (rget v j) else []
theorem plcS_len (v : List (List Int)) (i : Nat) : (plcS v i).length = v.length := by simp [plcS]
theorem plcS_get {v : List (List Int)} {i j : Nat} (h : j < v.length) : rget (plcS v i) j = if j < i then plcR (rget v j) else [] := by simp [plcS, rget, h]
theorem mext {xs ys : List (List Int)} (hl : xs.length = ys.length) (h : ∀ j, j < xs.length → rget xs j = rget ys j) : xs = ys := by
  apply List.ext_getElem hl
  intro i h1 h2
  have := h i h1
  rwa [rget_of h1, rget_of h2] at this
theorem plcS_zero (v : List (List Int)) : plcS v 0 = List.replicate v.length [] := by
  refine mext (by simp [plcS]) fun j hj => ?_
  rw [plcS_len] at hj
  rw [plcS_get hj, if_neg (by omega)]
  simp [rget, hj]
theorem plcS_set {v : List (List Int)} {i : Nat} (h : i < v.length) : (plcS v i).set i (plcR (rget v i)) = plcS v (i + 1) := by
  refine mext (by simp [plcS]) fun j hj => ?_
  rw [List.length_set, plcS_len] at hj
  rw [rget_set (by rw [plcS_len]; exact h), plcS_get hj, plcS_get hj]
  by_cases e : i = j
  · subst e; rw [if_pos rfl, if_pos (by omega)]
  · rw [if_neg e]
    by_cases e2 : j < i
    · rw [if_pos e2, if_pos (by omega)]
    · rw [if_neg e2, if_neg (by omega)]
def plcM (v : List (List Int)) : List (List Int) := plcS v v.length
theorem plcM_len (v : List (List Int)) : (plcM v).length = v.length := plcS_len _ _
theorem plcM_row {v : List (List Int)} {i : Nat} (h : i < v.length) : rget (plcM v) i = plcR (rget v i) := by unfold plcM; rw [plcS_get h, if_pos h]
set_option maxHeartbeats 4000000 in
set_option maxRecDepth 100000 in
theorem places_any (p : Option Addr) (c : Nat) (v : List (List Int)) (w : World) (hx : Mat w p c v) (hv6 : v.length ≤ 6) (hrk : Hid (∀ i, i < v.length → IsA (rget v i) (rget v i).length ∧ (rget v i).length ≤ 1000)) :
    Calls Try.prog 41 #[.slice p v.length c] w (GivesD w (plcM v)) := by
  have hl1 := hx.length_le
  have hmk : ∀ W, (Instr.makeSlice 22 (.int .i64 (v.length : Int)) (.int .i64 (v.length : Int))).run Try.prog W = .ok (.slice (some ⟨W.heap.size, 0, none⟩) v.length v.length) (W.alloc (.cells (nilRows v.length) 23)) := fun W => run_mkMk _ (by omega) W
  have HM := Lib.hid (dmat_made w v.length w.heap.size (Nat.le_refl _) (by omega))
  have H0 := Lib.hid (plcS_zero v)
  have Hset := Lib.hid (fun i (h : i < v.length) => plcS_set h)
  have Hlen := Lib.hid (fun i => plcS_len v i)
  have Hg2 : Hid (plcS v v.length = plcM v) := rfl
  obtain ⟨W0, hW0⟩ : ∃ W, w.alloc (.cells (nilRows v.length) 23) = W := ⟨_, rfl⟩
  have hB0 := below_alloc hW0
  have HW0 := Lib.hid hW0
  rw [hW0, ← H0.out] at HM
  clear hW0
  go_enter Try.func41, Try.ntmps41
  go_wp2_with fail
  rw [HW0.out]
  clear hmk
  obtain ⟨g, hg⟩ : ∃ g, w.heap.size = g := ⟨_, rfl⟩
  have Hg := Lib.hid hg
  rw [hg] at HM hB0 ⊢
  clear hg
  go_loopw [13] (fun t wr => ∃ (i : Nat) (Q : Nat → Option Addr) (D : Nat → Nat), i ≤ v.length ∧ t = .int .i64 i ∧ DMat wr g (some ⟨g, 0, none⟩) v.length (plcS v i) Q D ∧ Below g w wr) (fun t _ => v.length - (intOf t).toNat)
  case atStart => exact ⟨0, _, _, Nat.zero_le _, rfl, HM.out, hB0⟩
  case round =>
    clear HM hB0
    obtain ⟨i, Q, D, hi, rfl, hD, hBr⟩ := hrel
    have hszr : g ≤ wr.heap.size := by have := hBr.size; have := Hg.out; omega
    by_cases hlt : i < v.length
    · have hi1 : (i : Int) < v.length := by omega
      obtain ⟨b, o, rfl, hbl, q, d, hc0, hI0⟩ := hx.get hlt
      have hc := (hBr.cell (p := ⟨b, o + i, none⟩) (by rw [← Hg.out]; exact hbl)).trans hc0
      have hA := (hrk.out i hlt).1
      have hl9 := (hrk.out i hlt).2
      have HSet := Lib.hid (Hset.out i hlt)
      obtain ⟨l, hl⟩ : ∃ l, rget v i = l := ⟨_, rfl⟩
      rw [hl] at hA hl9 hc HSet hI0
      have hll := hI0.length_le
      have HA := Lib.hid hA
      have hpl : i < (plcS v i).length := by rw [Hlen.out]; exact hlt
      clear hl hA hc0
      go_wp2_with (at_make; refine wpList_mk rfl (.tmp 21) (.tmp 21) rfl g l.length rfl rfl (by omega) hszr ?_; intro w2 hO2 hg2 hs2; have hD2 := hD.keptBy hg2 (fun _ _ e => by cases e) (fun _ _ _ _ e => by cases e); have hgG := hD2.tmat.get hpl; obtain ⟨_, h5, _, hgl2, hcg, hfg2⟩ := hgG; cases h5)
      have hB2 : Below g w w2 := hBr.grown hg2 hszr (fun k e => by cases e)
      have hnew : ∀ j, j < (plcS v i).length → ∀ k, blk (Q j) = some k → blk (some (⟨wr.heap.size, 0, none⟩ : Addr)) ≠ some k := fun j hj k hk e => by
        have := (hD.lt j hj k hk).2
        simp [blk] at e
        omega
      rw [← plcTo_zero HA.out] at hO2
      have hO2' : Own w2 g (some ⟨wr.heap.size, 0, none⟩) l.length (plcTo l 0) := hO2
      have hD3 := hD2.setRow (i := i) hpl hO2' hnew
      rw [plcTo_len] at hD3
      have hB3 : Below g w (w2.setCell ⟨g, i, none⟩ (.slice (some ⟨wr.heap.size, 0, none⟩) l.length l.length)) := hB2.setCell (p := ⟨g, i, none⟩) (Nat.le_refl _) _
      obtain ⟨gr, hgr⟩ : ∃ q, wr.heap.size = q := ⟨_, rfl⟩
      rw [hgr] at hD3 hB3 ⊢
      have hgrl : g ≤ gr := by omega
      have HD3 := Lib.hid hD3
      clear hgr hD hO2 hO2' hg2 hs2 hD2 hnew hD3 hfg2 hszr hB2 hcg hBr hc
      go_loopw [26] (fun t wk => ∃ (k : Nat) (Q' : Nat → Option Addr) (D' : Nat → Nat), k ≤ l.length ∧ t = .int .i64 k ∧ DMat wk g (some ⟨g, 0, none⟩) v.length ((plcS v i).set i (plcTo l k)) Q' D' ∧ Q' i = some ⟨gr, 0, none⟩ ∧ D' i = l.length ∧ Below g w wk) (fun t _ => l.length - (intOf t).toNat)
      case atStart => exact ⟨0, _, _, Nat.zero_le _, rfl, HD3.out, by simp, by simp, hB3⟩
      case round =>
        clear HD3 hB3
        obtain ⟨k, Q', D', hk, rfl, hD, hQ, hDi, hBk⟩ := hrel
        have hip : i < ((plcS v i).set i (plcTo l k)).length := by rw [List.length_set]; exact hpl
        by_cases hlt2 : k < l.length
        · have hk1 : (k : Int) < l.length := by omega
          obtain ⟨b2, o2, rfl, _, hc2⟩ := (hI0.below hBk (Nat.le_of_eq Hg.out)).get hlt2
          have hx1 := (isA_lt HA.out k hlt2)
          have hx0 : iget l k = ((itm l k : Nat) : Int) := by unfold itm; omega
          rw [hx0] at hc2
          have hxl := hx1.2
          have HPS := Lib.hid (plcTo_set HA.out hlt2)
          have hcT := hD.tmat.at hip
          rw [rget_set hpl, if_pos rfl, hQ, hDi, plcTo_len] at hcT
          have hR := hD.rows i hip
          rw [rget_set hpl, if_pos rfl, hQ, hDi] at hR
          have hcR := hR.at (j := itm l k) (by rw [plcTo_len]; exact hxl)
          have hfR := hR.free (itm l k)
          have hDS := hD.setElem hip hQ (t := itm l k) (x := (k : Int)) ⟨by omega, by omega⟩
          rw [rget_set hpl, if_pos rfl, List.set_set, HPS.out] at hDS
          have HDS := Lib.hid hDS
          have hQ2 := Lib.hid hQ
          have hDi2 := Lib.hid hDi
          obtain ⟨x, hxx⟩ : ∃ x, itm l k = x := ⟨_, rfl⟩
          rw [hxx] at hc2 hxl hcR hfR HDS
          have hxl1 : (x : Int) < l.length := by omega
          clear hx1 hx0 hDS hQ hDi hR hxx hD HPS
          go_wp2_with fail
          go_roundw
          case rel => exact ⟨k + 1, Q', D', by omega, by go_num, HDS.out, hQ2.out, hDi2.out, hBk.setCell (p := ⟨gr, x, none⟩) hgrl _⟩
          case measure => (simp [intOf] <;> omega)
        · have hk1 : ¬ (k : Int) < l.length := by omega
          obtain rfl : k = l.length := by omega
          rw [plcTo_full HA.out, HSet.out] at hD
          go_wp2_with fail
          go_roundw
          case rel => exact ⟨i + 1, Q', D', by omega, by go_num, hD, hBk⟩
          case measure => (simp [intOf] <;> omega)
    · have hi1 : ¬ (i : Int) < v.length := by omega
      obtain rfl : i = v.length := by omega
      rw [Hg2.out] at hD
      have Hpl : Hid ((plcM v).length = v.length) := plcM_len v
      go_wp2_with fail
      go_ret
      unfold GivesD
      rw [Hpl.out, Hg.out]
      exact ⟨_, _, Q, D, rfl, hD, hBr⟩
end Go.Proofs.Ytknincjfcicjfaa
