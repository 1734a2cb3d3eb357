/- The walks of keepsake.rounds and of the reference's has and rounds, for markers. -/
import Derived.Test.YtknincjfcicjfaaKeepB
import Derived.Deep.DeepCutAuto
namespace Go.Proofs.Ytknincjfcicjfaa
set_option linter.unusedVariables false
set_option linter.unusedSimpArgs false
open Go.ChangeShapes Go.WideShapes Go.ChangeAt Go.RowKit Go.Deep

/-- The list of all agents while it is filled. -/
def idTo (n k : Nat) : List Int := (List.range n).map fun (j : Nat) => if j < k then (j : Int) else 0
theorem idTo_len (n k : Nat) : (idTo n k).length = n := by simp [idTo]
theorem idTo_get {n k j : Nat} (h : j < n) : iget (idTo n k) j = if j < k then (j : Int) else 0 := by simp [idTo, iget, h]
theorem idTo_zero (n : Nat) : idTo n 0 = List.replicate n 0 := by
  apply List.ext_getElem
  · simp [idTo]
  · intro i h1 h2; simp [idTo]
theorem idTo_set {n k : Nat} (h : k < n) : (idTo n k).set k (k : Int) = idTo n (k + 1) := by
  apply List.ext_getElem
  · simp [idTo]
  · intro j h1 h2
    rw [List.getElem_set]
    simp only [idTo, List.getElem_map, List.getElem_range]
    by_cases e : k = j
    · subst e; simp
    · rw [if_neg e]
      by_cases e2 : j < k
      · rw [if_pos e2, if_pos (by omega)]
      · rw [if_neg e2, if_neg (by omega)]
theorem idTo_full (n : Nat) : idTo n n = leftN n [] := by
  rw [leftN_nil]
  unfold idTo
  exact List.map_congr_left fun j hj => if_pos (List.mem_range.1 hj)
theorem cell_kept {w w' : World} {row : Option Nat} (h : w.grownBy w' row) {b o : Nat} (hb : b < w.heap.size) (hne : row ≠ some b) : w'.cell? ⟨b, o, none⟩ = w.cell? ⟨b, o, none⟩ :=
  World.cell?_of_block (w := w) (a := ⟨b, o, none⟩) (h.block b hb (fun e => hne e.symm))

theorem minR_any (m : Int) (c : Nat) (v : List (List Int)) (bv ov B2 B3 g cg r : Nat) (ls : List Int) (base : Nat) (W1 : World) (B4 : Nat) (hB4 : B4 < W1.heap.size) (hM : Marks m v) (hr : r < v.length) (hls : ls = leftN v.length (rnd m v r)) (hx : Mat W1 (some ⟨bv, ov, none⟩) c v) (hO : Own W1 base (some ⟨g, 0, none⟩) cg ls)
    (h2 : W1.cell? ⟨B2, 0, none⟩ = some (.int .i64 m)) (h3 : W1.cell? ⟨B3, 0, none⟩ = some (.slice (some ⟨bv, ov, none⟩) v.length c)) (h4 : W1.cell? ⟨B4, 0, none⟩ = some (.int .i64 (r : Int))) (l2 : B2 < W1.heap.size) (l3 : B3 < W1.heap.size) :
    Calls Try.prog 43 #[.slice (some ⟨g, 0, none⟩) ls.length cg, .func (.func 44) #[] #[.pointer (some ⟨B2, 0, none⟩), .pointer (some ⟨B3, 0, none⟩), .pointer (some ⟨B4, 0, none⟩)]] W1
      fun e w' => ∃ b : Nat, e = .returned (.int .i64 (b : Int)) ∧ b < v.length ∧ Hid ((b : Int) = lstK (keyR m v r) ls) ∧ Below W1.heap.size W1 w' := by
  have hne : ls ≠ [] := by rw [hls]; exact leftN_ne (by rw [rnd_len]; exact hr)
  have hmem : ∀ x ∈ ls, ∃ i : Nat, x = i ∧ i < v.length := fun x hx => by
    rw [hls] at hx
    have := leftN_mem.1 hx
    exact ⟨x.toNat, by omega, by omega⟩
  refine (minFunc3_any 44 _ _ _ (keyR m v r) (fun W => Below W1.heap.size W1 W) enter_rounds1 (some ⟨g, 0, none⟩) cg ls W1 (Below.refl _ _) (Lib.hid fun W h => hO.ints.below h (Nat.le_refl _)) (List.length_pos_iff.2 hne) (fun x hx => by obtain ⟨i, rfl, _⟩ := hmem x hx; omega) ?_).mono ?_
  · intro x y W hx' hy' hW
    obtain ⟨i, rfl, hi⟩ := hmem x hx'
    obtain ⟨j, rfl, hj⟩ := hmem y hy'
    refine (rounds1_any m r c v bv ov i j B2 B3 B4 W hM hr hi hj (hx.below hW (Nat.le_refl _)) ((hW.cell (p := ⟨B2, 0, none⟩) l2).trans h2) ((hW.cell (p := ⟨B3, 0, none⟩) l3).trans h3) ((hW.cell (p := ⟨B4, 0, none⟩) hB4).trans h4)
      (Nat.lt_of_lt_of_le l2 hW.size) (Nat.lt_of_lt_of_le l3 hW.size) (Nat.lt_of_lt_of_le hB4 hW.size)).mono ?_
    rintro e w' ⟨rfl, hb⟩
    exact ⟨rfl, hW.trans (hb.mono hW.size)⟩
  · rintro e w' ⟨rfl, hb⟩
    obtain ⟨b, hb1, hb2⟩ := hmem _ (lstK_mem (key := keyR m v r) (fun x hx => by obtain ⟨i, rfl, _⟩ := hmem x hx; omega) hne)
    exact ⟨b, by rw [hb1], hb2, hb1.symm, hb⟩
theorem delR_any (base g cg : Nat) (ls : List Int) (y : Int) (B9 : Nat) (W : World) (hO : Own W base (some ⟨g, 0, none⟩) cg ls) (hc : W.cell? ⟨B9, 0, none⟩ = some (.int .i64 y)) (hl : B9 < W.heap.size) (hne : g ≠ B9) (hlen : ls.length ≤ 1000) :
    Calls Try.prog 45 #[.slice (some ⟨g, 0, none⟩) ls.length cg, .func (.func 46) #[] #[.pointer (some ⟨B9, 0, none⟩)]] W
      fun e w' => ∃ zs, Hid (zs = ls.filter fun x => !decide (x = y)) ∧ e = .returned (.slice (some ⟨g, 0, none⟩) (zs : List Int).length cg) ∧ Own w' base (some ⟨g, 0, none⟩) cg zs ∧ W.grownBy w' (some g) := by
  refine (del1_any 46 (.pointer (some ⟨B9, 0, none⟩)) (fun x => decide (x = y)) (fun W' => W'.cell? ⟨B9, 0, none⟩ = some (.int .i64 y) ∧ B9 < W'.heap.size) enter_rounds2 base g cg ls W hO ⟨hc, hl⟩
    (Lib.hid fun W1 W2 h hg => ⟨(cell_kept hg h.2 (by simpa using hne)).trans h.1, Nat.lt_of_lt_of_le h.2 hg.size⟩) (fun x W' _ h => rounds2_any x y B9 W' h.1) (by omega)).mono ?_
  rintro e w' ⟨rfl, h1, h2, _⟩
  exact ⟨_, rfl, rfl, h1, h2⟩
set_option maxHeartbeats 4000000 in
set_option maxRecDepth 100000 in
theorem keepRounds_any (m : Int) (p : Option Addr) (c : Nat) (v : List (List Int)) (w : World) (hM : Marks m v) (hx : Mat w p c v) :
    Calls Try.prog 29 #[.int .i64 m, .slice p v.length c] w (Gives w (rndL m v)) := by
  have hv0 : 0 < v.length := hM.2.2.1
  have hv6 : v.length ≤ 6 := hM.2.2.2.1
  obtain ⟨bv, ov, rfl, _, _⟩ := hx.get hv0
  obtain ⟨Wa, hWa⟩ : ∃ W, w.alloc (.cells #[.int .i64 m] 3) = W := ⟨_, rfl⟩
  obtain ⟨W0, hW0⟩ : ∃ W, Wa.alloc (.cells #[.slice (some ⟨bv, ov, none⟩) v.length c] 22) = W := ⟨_, rfl⟩
  have hsa : Wa.heap.size = w.heap.size + 1 := by rw [← hWa]; simp
  have hs0 : W0.heap.size = w.heap.size + 2 := by rw [← hW0]; simp [hsa]
  have b2 : BoxV Wa w.heap.size [.int .i64 m] := BoxV.new rfl hWa
  have b3 : BoxV W0 (w.heap.size + 1) [.slice (some ⟨bv, ov, none⟩) v.length c] := BoxV.new hsa hW0
  have hBa := below_alloc hWa
  have hBb := below_alloc hW0
  replace b2 := b2.below hBb
  have hB0 : Below w.heap.size w W0 := hBa.trans (hBb.mono hBa.size)
  have hx0 := hx.below hB0 (Nat.le_refl _)
  have k2 := b2.cell 0 _ rfl
  have k3 := b3.cell 0 _ rfl
  have l2 := b2.lt
  have l3 := b3.lt
  have HWa := Lib.hid hWa
  have HW0 := Lib.hid hW0
  have Hs0 := Lib.hid hs0
  have HM := Lib.hid hM
  clear hWa hW0 hBa hBb b2 b3 hsa hs0 hM hx
  have Hset := Lib.hid (fun k (h : k < v.length) => idTo_set h)
  have Hz : Hid (List.replicate v.length (0 : Int) = idTo v.length 0) := (idTo_zero _).symm
  have Hfull := Lib.hid (idTo_full v.length)
  have Hlen := Lib.hid (fun k => idTo_len v.length k)
  go_enter Try.func29, Try.ntmps29
  go_upto_region 1 with fail
  rw [HWa.out, HW0.out]
  go_wp2_with (at_make; refine wpList_mk rfl (.tmp 11) (.tmp 11) rfl W0.heap.size v.length rfl rfl (by omega) (Nat.le_refl _) ?_; intro w1 hO hg1 hs1)
  have hB1 : Below W0.heap.size W0 w1 := below_grown (p := none) (base := W0.heap.size) (Below.refl _ _) hg1 (Nat.le_refl _) (fun _ h => by cases h) (Nat.le_refl _)
  rw [Hz.out] at hO
  clear hg1 hs1
  go_loopw [15] (fun t wr => ∃ k : Nat, k ≤ v.length ∧ t = .int .i64 k ∧ Own wr W0.heap.size (some ⟨W0.heap.size, 0, none⟩) v.length (idTo v.length k) ∧ Below W0.heap.size W0 wr) (fun t _ => v.length - (intOf t).toNat)
  case atStart => exact ⟨0, Nat.zero_le _, rfl, hO, hB1⟩
  case round =>
    clear hO hB1
    obtain ⟨k, hk, rfl, hO, hBr⟩ := hrel
    by_cases hlt : k < v.length
    · have hk1 : (k : Int) < v.length := by omega
      have hcA := hO.at (j := k) (by rw [Hlen.out]; exact hlt)
      have hfA := hO.free k
      have HO := Lib.hid (hO.set k (x := (k : Int)) ⟨by omega, by omega⟩)
      clear hO
      go_wp2_with fail
      go_roundw
      case rel => exact ⟨k + 1, by omega, by go_num, by rw [← Hset.out k hlt]; exact HO.out.1, hBr.setCell (p := ⟨W0.heap.size, k, none⟩) (Nat.le_refl _) _⟩
      case measure => (simp [intOf] <;> omega)
    · have hk1 : ¬ (k : Int) < v.length := by omega
      obtain rfl : k = v.length := by omega
      obtain ⟨ls0, hls0⟩ : ∃ l, idTo v.length v.length = l := ⟨_, rfl⟩
      have Hl0 : Hid (ls0.length = v.length) := by unfold Hid; rw [← hls0]; exact Hlen.out _
      rw [hls0] at hO
      have Hls0 : Hid (ls0 = leftN v.length (rnd m v 0)) := by unfold Hid; rw [← hls0]; exact Hfull.out
      clear hls0
      obtain ⟨g, hg⟩ : ∃ g, W0.heap.size = g := ⟨_, rfl⟩
      have k3r := (hBr.cell (p := ⟨w.heap.size + 1, 0, none⟩) l3).trans k3
      rw [hg] at hO
      obtain ⟨nl, hnl⟩ : ∃ n, v.length = n := ⟨_, rfl⟩
      have Hg := Lib.hid hg
      have hst : Hid (Value.slice (some ⟨W0.heap.size, 0, none⟩) v.length v.length = Value.slice (some ⟨g, 0, none⟩) ls0.length v.length) := by unfold Hid; rw [Hl0.out, hg]
      clear hg hnl
      go_wp2_with fail
      go_loopw [5, 7, 25] (fun s o t wr => ∃ (r : Nat) (ls os : List Int) (pO : Option Addr) (cO : Nat), r ≤ v.length ∧ t = .int .i64 r ∧ s = .slice (some ⟨g, 0, none⟩) ls.length v.length ∧ o = .slice pO os.length cO ∧ Hid (ls = leftN v.length (rnd m v r)) ∧ Hid (os = rnd m v r) ∧ Own wr W0.heap.size (some ⟨g, 0, none⟩) v.length ls ∧ Own wr W0.heap.size pO cO os ∧ blk pO ≠ some g ∧ Below W0.heap.size W0 wr) (fun _ _ t _ => v.length - (intOf t).toNat)
      case atStart => exact ⟨0, ls0, [], none, 0, Nat.zero_le _, rfl, hst.out, rfl, Hls0, Lib.hid rfl, Hg.out ▸ hO, Own.ofNil _ _, by simp [blk], hBr⟩
      case round =>
        clear hO hBr k3r
        obtain ⟨r, ls, os, pO, cO, hrn, rfl, rfl, rfl, hls, hos, hL, hO, hne, hBr⟩ := hrel
        by_cases hlt2 : r < v.length
        · have hr1 : (r : Int) < v.length := by omega
          obtain ⟨W1, hW1⟩ : ∃ W, wr.alloc (.cells #[.int .i64 (r : Int)] 3) = W := ⟨_, rfl⟩
          have hB1 := below_alloc hW1
          have b4 : BoxV W1 wr.heap.size [.int .i64 (r : Int)] := BoxV.new rfl hW1
          have hMin := minR_any m c v bv ov w.heap.size (w.heap.size + 1) g v.length r ls W0.heap.size W1 wr.heap.size b4.lt HM.out hlt2 hls.out ((hx0.below hBr (Nat.le_refl _)).below hB1 (Nat.le_refl _)) (hL.below hB1 (Nat.le_refl _))
            ((hB1.cell (p := ⟨w.heap.size, 0, none⟩) (Nat.lt_of_lt_of_le l2 hBr.size)).trans ((hBr.cell (p := ⟨w.heap.size, 0, none⟩) l2).trans k2))
            ((hB1.cell (p := ⟨w.heap.size + 1, 0, none⟩) (Nat.lt_of_lt_of_le l3 hBr.size)).trans ((hBr.cell (p := ⟨w.heap.size + 1, 0, none⟩) l3).trans k3)) (b4.cell 0 _ rfl)
            (Nat.lt_of_lt_of_le l2 (Nat.le_trans hBr.size hB1.size)) (Nat.lt_of_lt_of_le l3 (Nat.le_trans hBr.size hB1.size))
          have hosl : os.length ≤ 1000 := by rw [hos.out, rnd_len]; omega
          have hlsl : ls.length ≤ 1000 := by
            rw [hls.out]
            have := List.length_filter_le (fun x => decide (x ∉ rnd m v r)) ((List.range v.length).map fun (k : Nat) => (k : Int))
            have e : (leftN v.length (rnd m v r)).length ≤ v.length := by simpa [leftN] using this
            omega
          have hL1 := hL.below hB1 (Nat.le_refl _)
          have hO1 := hO.below hB1 (Nat.le_refl _)
          have hBr1 : Below W0.heap.size W0 W1 := hBr.trans (hB1.mono hBr.size)
          have HMin := Lib.hid hMin
          have HW1 := Lib.hid hW1
          clear hMin hW1 hB1 b4 hL hO hBr
          go_wp2_with fail
          rw [HW1.out]
          refine HMin.out.mono ?_
          rintro e w2 ⟨b, rfl, hbn, hbk, hb⟩
          have hL2 := hL1.below hb (Nat.le_refl _)
          have hO2 := hO1.below hb (Nat.le_refl _)
          have hBr2 : Below W0.heap.size W0 w2 := hBr1.trans (hb.mono hBr1.size)
          have hglt := (hL2.lt g rfl).2
          have hple := fun k hk => (hO2.lt k hk).2
          have hplb := fun k hk => (hO2.lt k hk)
          have hb64 : in64 (b : Int) := ⟨by omega, by omega⟩
          obtain ⟨W3, hW3⟩ : ∃ W, w2.alloc (.cells #[.int .i64 (b : Int)] 3) = W := ⟨_, rfl⟩
          have hB3 := below_alloc hW3
          have b9 : BoxV W3 w2.heap.size [.int .i64 (b : Int)] := BoxV.new rfl hW3
          have hO3 := hO2.below hB3 (Nat.le_refl _)
          have hL3 := hL2.below hB3 (Nat.le_refl _)
          have hBr3 : Below W0.heap.size W0 W3 := hBr2.trans (hB3.mono hBr2.size)
          have k9 := b9.cell 0 _ rfl
          have l9 := b9.lt
          have hpl3 := fun k hk => (hO3.lt k hk)
          have hsz3 : W3.heap.size = w2.heap.size + 1 := by rw [← hW3]; simp
          have HW3 := Lib.hid hW3
          have Hsz3 := Lib.hid hsz3
          clear hW3 hsz3 hb hL1 hO1 hBr1 hB3 b9 hO2 hL2 hBr2
          go_upto_region 12 with fail
          rw [HW3.out]
          have hbase : W0.heap.size ≤ W3.heap.size := hBr3.size
          go_wp2_with (at_builtin; refine wpList_app1 rfl (.tmp 31) (.tmp 33) rfl W0.heap.size pO cO os (b : Int) rfl rfl rfl hO3 hb64 (by omega) hbase ?_; intro p4 c4 w4 zs hzs hO4 hg4 hf4)
          have hL4 := hL3.keptBy hg4 (fun k hk e => hne (by rw [e, ← hk]; rfl))
          have k9' := (cell_kept (o := 0) hg4 l9 (fun e => by have := hple _ e; omega)).trans k9
          have hne4 : blk p4 ≠ some g := fun e => by
            rcases hf4 g e with h | h
            · exact hne h
            · omega
          have hDel := delR_any W0.heap.size g v.length ls (b : Int) w2.heap.size w4 hL4 k9' (Nat.lt_of_lt_of_le l9 hg4.size) (by omega) hlsl
          have hBr4 := below_grown hBr3 hg4 hbase hpl3 (Nat.le_refl _)
          have HDel := Lib.hid hDel
          have Hg4 := Lib.hid hg4
          clear hDel hg4 hf4 hO3 hL3 k9 hL4 k9'
          go_wp2_with fail
          refine HDel.out.mono ?_
          rintro e w5 ⟨ys, hys, rfl, hL5, hg5⟩
          have hO5 := hO4.keptBy hg5 (fun k hk e => hne4 (by rw [hk]; exact e.symm))
          have hBr5 : Below W0.heap.size W0 w5 := hBr4.grown hg5 (Nat.le_trans hbase Hg4.out.size) (fun k hk => by cases hk; exact (hL5.lt g rfl).1)
          go_wp2_with fail
          go_roundw
          case rel =>
            refine ⟨r + 1, ys, zs, p4, c4, by omega, by go_num, rfl, rfl, ?_, ?_, hL5, hO5, hne4, hBr5⟩
            · unfold Hid
              rw [hys.out, hls.out, rnd, leftN_snoc]
              rw [← hls.out, ← hbk.out]
            · unfold Hid
              rw [hzs.out, rnd, ← hls.out, ← hbk.out, hos.out]
          case measure => (simp [intOf] <;> omega)
        · have hr1 : ¬ (r : Int) < v.length := by omega
          obtain rfl : r = v.length := by omega
          go_wp2_with fail
          go_ret
          refine ⟨pO, cO, ?_, ?_, hB0.trans (hBr.mono hB0.size)⟩
          · rw [hos.out]; rfl
          · unfold rndL; rw [← hos.out]; exact hO.lower hB0.size
end Go.Proofs.Ytknincjfcicjfaa
