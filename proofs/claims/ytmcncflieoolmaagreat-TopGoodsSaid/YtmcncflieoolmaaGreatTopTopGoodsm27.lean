/- The walk of nash's search: it keeps a list with the greatest product; no condition but that the goods are valid, and few. -/
import Derived.Test.YtmcncflieoolmaaGreatTopTopGoodsm25
import Derived.Test.YtmcncflieoolmaaGreatTopTopGoodsm26
import Derived.Deep.AppendLies
import Derived.Deep.RegionLaw
import Derived.Deep.DeepAppendRoom
import Derived.Deep.RegionHeld3
import Derived.BigQuiet
import Derived.Deep.DeepCutAuto
import Derived.Test.YtmcncflieoolmaaGreatTopTopGoodsm14
import Derived.Test.YtmcncflieoolmaaGreatTopTopGoodsm3
import Derived.Test.YtmcncflieoolmaaGreatTopTopGoodsm10
import Derived.WalkMore
/- The walk of nash's search: it keeps a list with the greatest product; no condition but that the goods are valid, and few. -/
namespace Go.Proofs.YtmcncflieoolmaaGreat
set_option linter.unusedSimpArgs false
open Go.ChangeShapes Go.WideShapes Go.ChangeAt Go.RowKit Go.Deep
set_option linter.unusedVariables false

theorem nilE_yes (W : World) : (binOp BinOp.eql 25 (.slice none 0 0) (.slice none 0 0)).run Tryz.prog W = .ok (.bool true) W := by kernel_rfl
theorem nilE_no (g l c : Nat) (W : World) : (binOp BinOp.eql 25 (.slice (some ⟨g, 0, none⟩) l c) (.slice none 0 0)).run Tryz.prog W = .ok (.bool false) W := by kernel_rfl
attribute [local go_sem] nilE_yes nilE_no
/-- How many have something; the product of what they have. -/
def nCnt (v : List (List Int)) (C : List Int) : Int := pcnt (ownL v C) v.length
def nPrd (v : List (List Int)) (C : List Int) : Int := pprd (ownL v C) v.length
def keyLe (v : List (List Int)) (C B : List Int) : Prop := nCnt v C < nCnt v B ∨ (nCnt v C = nCnt v B ∧ nPrd v C ≤ nPrd v B)
theorem keyLe_refl (v : List (List Int)) (C : List Int) : keyLe v C C := .inr ⟨rfl, Int.le_refl _⟩
theorem keyLe_trans {v : List (List Int)} {A B C : List Int} (h : keyLe v A B) (h2 : keyLe v B C) : keyLe v A C := by
  unfold keyLe at *; omega
/-- What Cmp tells of two products. -/
theorem or3_key {c1 P1 c2 P2 : Int} : 0 < or3 (cmp3 c1 c2) (cmp3 (P1 / 1000000000000) (P2 / 1000000000000)) (cmp3 (P1 % 1000000000000) (P2 % 1000000000000)) ↔ (c2 < c1 ∨ (c1 = c2 ∧ P2 < P1)) := by
  have h1 := Int.mul_ediv_add_emod P1 1000000000000
  have h2 := Int.mul_ediv_add_emod P2 1000000000000
  have a1 : 0 ≤ P1 % 1000000000000 := Int.emod_nonneg _ (by decide)
  have a2 : P1 % 1000000000000 < 1000000000000 := Int.emod_lt_of_pos _ (by decide)
  have b1 : 0 ≤ P2 % 1000000000000 := Int.emod_nonneg _ (by decide)
  have b2 : P2 % 1000000000000 < 1000000000000 := Int.emod_lt_of_pos _ (by decide)
  generalize P1 / 1000000000000 = H1 at *
  generalize P2 / 1000000000000 = H2 at *
  generalize P1 % 1000000000000 = L1 at *
  generalize P2 % 1000000000000 = L2 at *
  unfold or3 cmp3
  subst h1 h2
  split <;> split <;> (try split) <;> (try split) <;> (try split) <;> (try split) <;> omega
/-- The best list so far. -/
def BestS (w0 : World) (S gg ga m : Nat) (v : List (List Int)) (P : List Int → Prop) (bv : Value) (c H L : Int) (W : World) : Prop :=
  (bv = .slice none 0 0 ∧ ∀ C, ¬ P C) ∨ ∃ B gb db, bv = .slice (some ⟨gb, 0, none⟩) m db ∧ DigL v.length m B ∧ Own W w0.heap.size (some ⟨gb, 0, none⟩) db B ∧ gb ≠ gg ∧ gb ≠ ga ∧ gb ≠ S ∧ [.int .i64 c, .int .i64 H, .int .i64 L] = pvV (nCnt v B) (nPrd v B) ∧ ∀ C, P C → keyLe v C B
structure NashS (w0 : World) (S gg dg ga da m : Nat) (pv : Option Addr) (cv : Nat) (v : List (List Int)) (A G : List Int) (P : List Int → Prop) (W : World) : Prop where
  bel : Below w0.heap.size w0 W
  gains : Own W w0.heap.size (some ⟨gg, 0, none⟩) dg G
  arr : Own W w0.heap.size (some ⟨ga, 0, none⟩) da A
  st : ∃ bv c H L, Arr W S [.slice pv v.length cv, .slice (some ⟨gg, 0, none⟩) v.length dg, .slice (some ⟨ga, 0, none⟩) m da, bv, .int .i64 c, .int .i64 H, .int .i64 L] 75 ∧ BestS w0 S gg ga m v P bv c H L W
theorem BestS.heap {w0 : World} {S gg ga m : Nat} {v : List (List Int)} {P : List Int → Prop} {bv : Value} {c H L : Int} {W W' : World} (h : BestS w0 S gg ga m v P bv c H L W) (hk : ∀ k, k < W.heap.size → k ≠ gg → k ≠ ga → k ≠ S → W'.heap[k]? = W.heap[k]?) : BestS w0 S gg ga m v P bv c H L W' := by
  rcases h with h | ⟨B, gb, db, h1, h2, h3, h4, h5, h6, h7⟩
  · exact .inl h
  · exact .inr ⟨B, gb, db, h1, h2, h3.move (fun k e => by
      have e2 : k = gb := by simpa [blk] using e.symm
      subst e2
      exact hk k (h3.lt k rfl).2 h4 h5 h6), h4, h5, h6, h7⟩
section
variable {w0 : World} {S gg dg ga da m : Nat} {pv : Option Addr} {cv : Nat} {v : List (List Int)} {A G : List Int} {P : List Int → Prop} {W W' : World}
theorem NashS.below (h : NashS w0 S gg dg ga da m pv cv v A G P W) (hb : Below W.heap.size W W') : NashS w0 S gg dg ga da m pv cv v A G P W' := by
  obtain ⟨bv, c, H, L, h1, h2⟩ := h.st
  exact ⟨h.bel.trans (hb.mono h.bel.size), h.gains.below hb (Nat.le_refl _), h.arr.below hb (Nat.le_refl _), bv, c, H, L, h1.below hb h1.lt, h2.heap fun k hk _ _ _ => hb.block k hk⟩
theorem NashS.setA (h : NashS w0 S gg dg ga da m pv cv v A G P W) (hS : S ≠ ga) (hl : gg ≠ ga) (j : Nat) {x : Int} (hx : in64 x) : NashS w0 S gg dg ga da m pv cv v (A.set j x) G P (W.setCell ⟨ga, j, none⟩ (.int .i64 x)) := by
  obtain ⟨bv, c, H, L, h1, h2⟩ := h.st
  exact ⟨h.bel.setCell (p := ⟨ga, j, none⟩) (h.arr.lt ga rfl).1 _, h.gains.beside (fun e => hl (by simpa [blk] using e)), (h.arr.set j hx).1, bv, c, H, L, h1.other hS, h2.heap fun k _ _ h3 _ => heap_set_ne W h3⟩
theorem NashS.setG (h : NashS w0 S gg dg ga da m pv cv v A G P W) (hS : S ≠ gg) (hl : gg ≠ ga) (j : Nat) {x : Int} (hx : in64 x) : NashS w0 S gg dg ga da m pv cv v A (G.set j x) P (W.setCell ⟨gg, j, none⟩ (.int .i64 x)) := by
  obtain ⟨bv, c, H, L, h1, h2⟩ := h.st
  exact ⟨h.bel.setCell (p := ⟨gg, j, none⟩) (h.gains.lt gg rfl).1 _, (h.gains.set j hx).1, h.arr.beside (fun e => hl (by simpa [blk] using e.symm)), bv, c, H, L, h1.other hS, h2.heap fun k _ h3 _ _ => heap_set_ne W h3⟩
end
/-- 'append([]int{}, a...)', run. -/
theorem run_appNew (w : World) (base g ga : Nat) (d : Nat) (A : List Int) (hg : Own w base (some ⟨g, 0, none⟩) 0 []) (hq : Ints w (some ⟨ga, 0, none⟩) d A) (hl : A.length ≤ 900000) (hb : base ≤ w.heap.size) :
    ∃ gb cap w', (Builtin.append_ #[25, 25] 25 #[.slice (some ⟨g, 0, none⟩) 0 0, .slice (some ⟨ga, 0, none⟩) A.length d]).run Tryz.prog w = .ok (.slice (some ⟨gb, 0, none⟩) A.length cap) w' ∧ Own w' base (some ⟨gb, 0, none⟩) cap A ∧ w.grownBy w' (some g) ∧ (gb = g ∨ gb = w.heap.size) := by
  obtain ⟨i, hi, hz0, hz1, hz2⟩ := info_parts infoInt
  have hnews : ∀ j u, (A.map (Value.int .i64))[j]? = some u → w.cell? ((⟨ga, 0, none⟩ : Addr).add j) = some u := fun j u hu => by
    have hj : j < A.length := by
      have := (List.getElem?_eq_some_iff.1 hu).1
      simpa using this
    have h1 := hq.at hj
    rw [add_plain]
    rw [List.getElem?_map, List.getElem?_eq_getElem hj] at hu
    simp at hu
    subst hu
    rwa [iget_of hj] at h1
  have hone : ∀ u ∈ A.map (Value.int .i64), u.oneCell' = true := fun u hu => by
    obtain ⟨x, _, rfl⟩ := List.mem_map.1 hu
    simp [Value.oneCell']
  by_cases h0 : A = []
  · subst h0
    obtain ⟨w', hr, h2, h3⟩ := run_append_own_spare (P := Tryz.prog) w base 25 25 3 i 1 Tryz.underlying25 hi hz1 g 0 0 [] hg.row ⟨ga, 0, none⟩ 0 d [] rfl (fun j u hu => by simp at hu) (fun u hu => by cases hu) (by omega)
    exact ⟨g, 0, w', hr, ⟨h2, fun j hj => by simp at hj⟩, h3, .inl rfl⟩
  · have hpos : 0 < A.length := List.length_pos_iff.2 h0
    obtain ⟨gb, cap, w', hr, h2, h3, h4, h5⟩ := run_append_lies (P := Tryz.prog) w 25 25 base 3 i (.int .i64 0) 1 8 Tryz.underlying25 hi hz0 hz1 hz2 rfl (by decide) (.slice (some ⟨g, 0, none⟩) 0 0) 0 [] hg.row ⟨ga, 0, none⟩ A.length d (A.map (Value.int .i64)) (by simp) hnews hone hpos (by simp [maxLen]; omega) (by omega) hb _ rfl
    rw [Nat.zero_add] at hr h2
    rw [List.nil_append] at h2
    exact ⟨gb, cap, w', hr, ⟨h2, hq.rng⟩, h3, h4.imp (fun e => by simpa [Value.ownBlock] using e.symm) id⟩
theorem step_appNew {ops : Array Oper} {o : Oper} {a : Act} {K : Act → World → Prop} {Q : Exit → Act → World → Prop} {E : Prop} {w : World} (hgd : o.guard = none) (s x : Operand)
    (ho : o.op = .call { callee := .builtin .append, args := #[s, x], argTypes := #[25, 25] }) (hty : o.type = 25) (base g ga d m : Nat) (A : List Int) (hs : a.eval s = .slice (some ⟨g, 0, none⟩) 0 0) (hx : a.eval x = .slice (some ⟨ga, 0, none⟩) m d) (hm : A.length = m)
    (hg : Own w base (some ⟨g, 0, none⟩) 0 []) (hq : Ints w (some ⟨ga, 0, none⟩) d A) (hl : m ≤ 900000) (hb : base ≤ w.heap.size)
    (h : ∀ gb cap w', Own w' base (some ⟨gb, 0, none⟩) cap A → w.grownBy w' (some g) → (gb = g ∨ gb = w.heap.size) → K (a.put o.dst (.slice (some ⟨gb, 0, none⟩) m cap)) w') :
    if Region.wanted o (yielded ops a.tmps) = true then Oper.wp Tryz.prog o a w K Q else E := by
  have hw : Region.wanted o (yielded ops a.tmps) = true := by simp [Region.wanted, hgd]
  rw [if_pos hw]
  subst hm
  obtain ⟨gb, cap, w', hr, h2, h3, h4⟩ := run_appNew w base g ga d A hg hq hl hb
  unfold Oper.wp execOp
  simp only [ho, hty, resolve, invoke, builtin, Sem.run_bind, Sem.run_pure, Result.andThen_ok, List.map_toArray, List.map_cons, List.map_nil, hs, hx, hr]
  exact h gb cap w' h2 h3 h4
/-- The state at a leaf. -/
def leafP (P : List Int → Prop) (A : List Int) (C : List Int) : Prop := P C ∨ C = A

set_option maxRecDepth 100000 in
set_option maxHeartbeats 8000000 in
theorem nash_leaf (w0 : World) (S gg dg ga da m : Nat) (pv : Option Addr) (cv : Nat) (v : List (List Int)) (hg : Gds v) (hm : m = wid v) (h4 : v.length ≤ 4) (hS0 : w0.heap.size ≤ S) (hSg : S ≠ gg) (hSa : S ≠ ga) (hga : gg ≠ ga) (A : List Int) (hD : DigL v.length m A) (P : List Int → Prop) (W : World) (hS : NashS w0 S gg dg ga da m pv cv v A (ownL v A) P W) :
    Calls Tryz.prog 35 #[.pointer (some ⟨S, 0, none⟩), .int .i64 (m : Int)] W fun e W' => (∃ x, e = .returned x) ∧ NashS w0 S gg dg ga da m pv cv v A (ownL v A) (leafP P A) W' := by
  obtain ⟨bv, c, H, L, hArr, hB⟩ := hS.st
  have hgl : (ownL v A).length = v.length := ownL_len v A
  have hPr := product_any (some ⟨gg, 0, none⟩) dg (ownL v A) W hS.gains.ints (by omega) (fun j hj => by
    rw [hgl] at hj
    rw [ownL_get hj]
    exact worth_in hg ⟨by rw [hD.1, hm], fun i hi => by have := hD.2 i (by rw [← hD.1]; exact hi); omega⟩ hj _)
  rw [hgl] at hPr
  obtain ⟨C1, hC1⟩ : ∃ x, pcnt (ownL v A) v.length = x := ⟨_, rfl⟩
  obtain ⟨P1, hP1⟩ : ∃ x, pprd (ownL v A) v.length = x := ⟨_, rfl⟩
  rw [hC1, hP1] at hPr
  have hPr2 : Calls Tryz.prog 70 #[.slice (some ⟨gg, 0, none⟩) v.length dg] W fun e w' => e = .returned (.agg #[.int .i64 C1, .int .i64 (P1 / 1000000000000), .int .i64 (P1 % 1000000000000)]) ∧ Below W.heap.size W w' := hPr
  obtain ⟨H1, hH1⟩ : ∃ x, P1 / 1000000000000 = x := ⟨_, rfl⟩
  obtain ⟨L1, hL1⟩ : ∃ x, P1 % 1000000000000 = x := ⟨_, rfl⟩
  rw [hH1, hL1] at hPr2
  have HPr := Lib.hid hPr2
  have HH1 := Lib.hid hH1
  have HL1 := Lib.hid hL1
  have hk1 : nCnt v A = C1 := hC1
  have hk2 : nPrd v A = P1 := hP1
  have c1 := hArr.cell (j := 1) rfl
  have c2 := hArr.cell (j := 2) rfl
  have HS := Lib.hid hS
  have HB := Lib.hid hB
  have HArr := Lib.hid hArr
  have HD := Lib.hid hD
  have hm10 : m ≤ 10 := by have := hg.2.2.1; omega
  clear hPr hPr2 hH1 hL1 hC1 hP1 hS hB hgl hArr hD hg hm
  go_enter Tryz.func35, Tryz.ntmps35
  go_wp2_with fail
  refine HPr.out.mono ?_
  rintro e w3 ⟨rfl, hb3⟩
  obtain ⟨W4, hW4⟩ : ∃ W, w3.alloc (.cells #[.int .i64 C1, .int .i64 H1, .int .i64 L1] 41) = W := ⟨_, rfl⟩
  have hb4 : Below W.heap.size W W4 := hb3.trans ((below_alloc hW4).mono hb3.size)
  have a4 : Arr W4 w3.heap.size [.int .i64 C1, .int .i64 H1, .int .i64 L1] 41 := Arr.new rfl hW4
  have hS4 := HS.out.below hb4
  have hA4 := HArr.out.below hb4 HArr.out.lt
  have hB4 := HB.out.heap (W' := W4) (fun k hk _ _ _ => hb4.block k hk)
  have HW4 := Lib.hid hW4
  have hp4 : w3.heap.size < W4.heap.size := a4.lt
  have hSlt : S < w3.heap.size := Nat.lt_of_lt_of_le HArr.out.lt hb3.size
  clear hW4 HB HArr c1 c2 HPr
  go_upto_region 2 with (fail)
  rw [HW4.out]
  clear hb3 hb4
  rcases hB4 with ⟨rfl, hnP⟩ | ⟨B, gb0, db, rfl, hBD, hBO, hb1, hb2, hb3, hbp, hbm⟩
  · have c3 := hA4.cell (j := 3) rfl
    go_quiet (fail)
    go_wp2_with fail
    obtain ⟨wz, hwz⟩ : ∃ W, W4.drewN nq = W := ⟨_, rfl⟩
    have hbz : Below W4.heap.size W4 wz := hwz ▸ below_drewN W4.heap.size W4 nq
    have hSz := hS4.below hbz
    have aZ := hA4.below hbz hA4.lt
    have pZ := a4.below hbz a4.lt
    rw [hwz]
    have s2 := aZ.cell (j := 2) rfl
    have s3 := aZ.cell (j := 3) rfl
    have s4 := aZ.cell (j := 4) rfl
    have s5 := aZ.cell (j := 5) rfl
    have s6 := aZ.cell (j := 6) rfl
    have fr := aZ.free
    have f3 := fr 3
    have f4 := fr 4
    have f5 := fr 5
    have f6 := fr 6
    have p0 := pZ.cell (j := 0) rfl
    have p1 := pZ.cell (j := 1) rfl
    have p2 := pZ.cell (j := 2) rfl
    have hszz := hSz.bel.size
    have hbe : Below wz.heap.size wz (wz.alloc (.cells #[] 3)) := (Below.refl _ _).alloc (Nat.le_refl _) _
    have HO5 := Lib.hid ((Own.made wz w0.heap.size hszz).drew1)
    have HI5 := Lib.hid ((hSz.arr.ints.below hbe (Nat.le_refl _)).below (below_drewN _ _ 1) (Nat.le_refl _))
    have Hk5 : Hid (∀ W5, (wz.alloc (.cells #[] 3)).drew.grownBy W5 (some wz.heap.size) → Below wz.heap.size wz W5) := fun W5 h => (hbe.trans ((below_drewN _ _ 1).mono hbe.size)).grown h (by simp) (fun k e => by cases e; exact Nat.le_refl _)
    have Hk6 : Hid (∀ W5, Below wz.heap.size wz W5 → Arr W5 S [.slice pv v.length cv, .slice (some ⟨gg, 0, none⟩) v.length dg, .slice (some ⟨ga, 0, none⟩) m da, .slice none 0 0, .int .i64 c, .int .i64 H, .int .i64 L] 75 ∧ Arr W5 w3.heap.size [.int .i64 C1, .int .i64 H1, .int .i64 L1] 41) := fun W5 h => ⟨aZ.below h aZ.lt, pZ.below h pZ.lt⟩
    have e2 := ((Hk6.out _ hbe).1.cell (j := 2) rfl)
    have e3 := ((Hk6.out _ hbe).1.cell (j := 3) rfl)
    have q0 := ((Hk6.out _ hbe).2.cell (j := 0) rfl)
    have q1 := ((Hk6.out _ hbe).2.cell (j := 1) rfl)
    have q2 := ((Hk6.out _ hbe).2.cell (j := 2) rfl)
    clear fr
    go_region_law (refine step_appNew rfl (.tmp 34) (.tmp 38) rfl rfl w0.heap.size wz.heap.size ga da m A (by simp [Act.eval, Act.put]) (by simp [Act.eval, Act.put]) HD.out.1 HO5.out HI5.out (by omega) (by simp; omega) ?_; intro gb cap W5 hO5 hg5 hgb; have hB5 := Hk5.out W5 hg5; obtain ⟨aY, pY⟩ := Hk6.out W5 hB5; have t3 := aY.cell (j := 3) rfl; have t4 := aY.cell (j := 4) rfl; have t5 := aY.cell (j := 5) rfl; have t6 := aY.cell (j := 6) rfl; have g3 := aY.free 3; have g4 := aY.free 4; have g5 := aY.free 5; have g6 := aY.free 6; have r0 := pY.cell (j := 0) rfl; have r1 := pY.cell (j := 1) rfl; have r2 := pY.cell (j := 2) rfl)
    all_goals
      have hgl5 := hSz.gains.lt gg rfl
      have hal5 := hSz.arr.lt ga rfl
      have hSz5 := aZ.lt
      have hgb5 : gb = wz.heap.size ∨ gb = wz.heap.size + 1 := hgb.imp id (fun e => by rw [e]; simp)
      have hN : NashS w0 S gg dg ga da m pv cv v A (ownL v A) (leafP P A) ((((W5.setCell ⟨S, 3, none⟩ (.slice (some ⟨gb, 0, none⟩) m cap)).setCell ⟨S, 4, none⟩ (.int .i64 C1)).setCell ⟨S, 5, none⟩ (.int .i64 H1)).setCell ⟨S, 6, none⟩ (.int .i64 L1)) := by
        refine ⟨((((hSz.bel.trans (hB5.mono hszz)).setCell (p := ⟨S, 3, none⟩) hS0 _).setCell (p := ⟨S, 4, none⟩) hS0 _).setCell (p := ⟨S, 5, none⟩) hS0 _).setCell (p := ⟨S, 6, none⟩) hS0 _, ?_, ?_, _, C1, H1, L1, (((aY.set (j := 3)).set (j := 4)).set (j := 5)).set (j := 6), .inr ⟨A, gb, cap, rfl, HD.out, ?_, by omega, by omega, by omega, ?_, ?_⟩⟩
        · have hz : blk (some ⟨gg, 0, none⟩ : Option Addr) ≠ some S := fun e => hSg (by simpa [blk] using e.symm)
          exact ((((hSz.gains.below hB5 (Nat.le_refl _)).beside hz).beside hz).beside hz).beside hz
        · have hz : blk (some ⟨ga, 0, none⟩ : Option Addr) ≠ some S := fun e => hSa (by simpa [blk] using e.symm)
          exact ((((hSz.arr.below hB5 (Nat.le_refl _)).beside hz).beside hz).beside hz).beside hz
        · have hz : blk (some ⟨gb, 0, none⟩ : Option Addr) ≠ some S := fun e => by
            have : gb = S := by simpa [blk] using e
            omega
          exact (((hO5.beside hz).beside hz).beside hz).beside hz
        · unfold pvV; rw [hk1, hk2, HH1.out, HL1.out]
        · rintro C (hC | rfl)
          · exact absurd hC (hnP C)
          · exact keyLe_refl _ _
      have HN := Lib.hid hN
      clear hN aY pY t3 t4 t5 t6 r0 r1 r2 hO5 hg5 hgb hB5 HO5 HI5 Hk5 Hk6 e2 e3 q0 q1 q2
      go_wp2_with fail
      refine bodyPost_ret (results_none rfl _ _ _) rfl ?_
      exact ⟨⟨_, rfl⟩, HN.out⟩
  · have s3 := hA4.cell (j := 3) rfl
    have s4 := hA4.cell (j := 4) rfl
    have s5 := hA4.cell (j := 5) rfl
    have s6 := hA4.cell (j := 6) rfl
    have p0 := a4.cell (j := 0) rfl
    have p1 := a4.cell (j := 1) rfl
    have p2 := a4.cell (j := 2) rfl
    have Hmk : Hid (∀ W, Below W4.heap.size W4 W → (W.cell? ⟨S, 3, none⟩ = some (.slice (some ⟨gb0, 0, none⟩) m db) ∧ W.cell? ⟨S, 4, none⟩ = some (.int .i64 c) ∧ W.cell? ⟨S, 5, none⟩ = some (.int .i64 H) ∧ W.cell? ⟨S, 6, none⟩ = some (.int .i64 L) ∧ W.cell? ⟨w3.heap.size, 0, none⟩ = some (.int .i64 C1) ∧ W.cell? ⟨w3.heap.size, 1, none⟩ = some (.int .i64 H1) ∧ W.cell? ⟨w3.heap.size, 2, none⟩ = some (.int .i64 L1) ∧ Below W4.heap.size W4 W)) := fun W hG => by
      have z := hA4.below hG hA4.lt
      have y := a4.below hG a4.lt
      exact ⟨z.cell (j := 3) rfl, z.cell (j := 4) rfl, z.cell (j := 5) rfl, z.cell (j := 6) rfl, y.cell (j := 0) rfl, y.cell (j := 1) rfl, y.cell (j := 2) rfl, hG⟩
    have HCm := Lib.hid (fun W => nashCmp_any C1 H1 L1 c H L W)
    have hkey : (0 < or3 (cmp3 C1 c) (cmp3 H1 H) (cmp3 L1 L)) ↔ (nCnt v B < nCnt v A ∨ (nCnt v A = nCnt v B ∧ nPrd v B < nPrd v A)) := by
      unfold pvV at hbp
      simp only [List.cons.injEq, Value.int.injEq, true_and, and_true] at hbp
      obtain ⟨e1, e2, e3⟩ := hbp
      rw [e1, e2, e3, ← HH1.out, ← HL1.out, or3_key, hk1, hk2]
    obtain ⟨R, hR⟩ : ∃ R, or3 (cmp3 C1 c) (cmp3 H1 H) (cmp3 L1 L) = R := ⟨_, rfl⟩
    have hRc : HCm = HCm := rfl
    have HCm2 : Hid (∀ W, Calls Tryz.prog 71 #[.agg #[.int .i64 C1, .int .i64 H1, .int .i64 L1], .agg #[.int .i64 c, .int .i64 H, .int .i64 L]] W fun e w' => e = .returned (.int .i64 R) ∧ Below W.heap.size W w') := fun W => by have := HCm.out W; rw [hR] at this; exact this
    rw [hR] at hkey
    clear hR hRc HCm s3 s4 s5 s6 p0 p1 p2
    have HBB := Lib.hid (show BestS w0 S gg ga m v P (.slice (some ⟨gb0, 0, none⟩) m db) c H L W4 from .inr ⟨B, gb0, db, rfl, hBD, hBO, hb1, hb2, hb3, hbp, hbm⟩)
    have hbp2 := Lib.hid hbp
    clear hbp
    by_cases hgt : 0 < R
    · have hd : decide (0 < R) = true := by rw [decide_eq_true_iff]; exact hgt
      have hBA : keyLe v B A := by have := hkey.1 hgt; unfold keyLe; omega
      go_region_held3 (fun W => W.cell? ⟨S, 3, none⟩ = some (.slice (some ⟨gb0, 0, none⟩) m db) ∧ W.cell? ⟨S, 4, none⟩ = some (.int .i64 c) ∧ W.cell? ⟨S, 5, none⟩ = some (.int .i64 H) ∧ W.cell? ⟨S, 6, none⟩ = some (.int .i64 L) ∧ W.cell? ⟨w3.heap.size, 0, none⟩ = some (.int .i64 C1) ∧ W.cell? ⟨w3.heap.size, 1, none⟩ = some (.int .i64 H1) ∧ W.cell? ⟨w3.heap.size, 2, none⟩ = some (.int .i64 L1) ∧ Below W4.heap.size W4 W)
        (first | assumption | exact Hmk.out _ hG | exact Hmk.out _ (below_drewN W4.heap.size W4 1) | exact Hmk.out _ (Below.refl _ _))
        (first
          | (go_at_call 71; refine (HCm2.out _).mono ?_; rintro e wz ⟨rfl, hbC⟩; have hG : Below W4.heap.size W4 wz := Below.trans (by go_split_ands; assumption) (hbC.mono (Below.size (B := W4.heap.size) (w := W4) (by go_split_ands; assumption)))))
      have hbz := hG
      have hSz := hS4.below hbz
      have aZ := hA4.below hbz hA4.lt
      have pZ := a4.below hbz a4.lt
      go_wp2_with fail
      have s2 := aZ.cell (j := 2) rfl
      have s3 := aZ.cell (j := 3) rfl
      have s4 := aZ.cell (j := 4) rfl
      have s5 := aZ.cell (j := 5) rfl
      have s6 := aZ.cell (j := 6) rfl
      have fr := aZ.free
      have f3 := fr 3
      have f4 := fr 4
      have f5 := fr 5
      have f6 := fr 6
      have p0 := pZ.cell (j := 0) rfl
      have p1 := pZ.cell (j := 1) rfl
      have p2 := pZ.cell (j := 2) rfl
      have hszz := hSz.bel.size
      have hbe : Below wz.heap.size wz (wz.alloc (.cells #[] 3)) := (Below.refl _ _).alloc (Nat.le_refl _) _
      have HO5 := Lib.hid ((Own.made wz w0.heap.size hszz).drew1)
      have HI5 := Lib.hid ((hSz.arr.ints.below hbe (Nat.le_refl _)).below (below_drewN _ _ 1) (Nat.le_refl _))
      have Hk5 : Hid (∀ W5, (wz.alloc (.cells #[] 3)).drew.grownBy W5 (some wz.heap.size) → Below wz.heap.size wz W5) := fun W5 h => (hbe.trans ((below_drewN _ _ 1).mono hbe.size)).grown h (by simp) (fun k e => by cases e; exact Nat.le_refl _)
      have Hk6 : Hid (∀ W5, Below wz.heap.size wz W5 → Arr W5 S [.slice pv v.length cv, .slice (some ⟨gg, 0, none⟩) v.length dg, .slice (some ⟨ga, 0, none⟩) m da, .slice (some ⟨gb0, 0, none⟩) m db, .int .i64 c, .int .i64 H, .int .i64 L] 75 ∧ Arr W5 w3.heap.size [.int .i64 C1, .int .i64 H1, .int .i64 L1] 41) := fun W5 h => ⟨aZ.below h aZ.lt, pZ.below h pZ.lt⟩
      have e2 := ((Hk6.out _ hbe).1.cell (j := 2) rfl)
      have e3 := ((Hk6.out _ hbe).1.cell (j := 3) rfl)
      have q0 := ((Hk6.out _ hbe).2.cell (j := 0) rfl)
      have q1 := ((Hk6.out _ hbe).2.cell (j := 1) rfl)
      have q2 := ((Hk6.out _ hbe).2.cell (j := 2) rfl)
      clear fr
      go_region_law (refine step_appNew rfl (.tmp 34) (.tmp 38) rfl rfl w0.heap.size wz.heap.size ga da m A (by simp [Act.eval, Act.put]) (by simp [Act.eval, Act.put]) HD.out.1 HO5.out HI5.out (by omega) (by simp; omega) ?_; intro gb cap W5 hO5 hg5 hgb; have hB5 := Hk5.out W5 hg5; obtain ⟨aY, pY⟩ := Hk6.out W5 hB5; have t3 := aY.cell (j := 3) rfl; have t4 := aY.cell (j := 4) rfl; have t5 := aY.cell (j := 5) rfl; have t6 := aY.cell (j := 6) rfl; have g3 := aY.free 3; have g4 := aY.free 4; have g5 := aY.free 5; have g6 := aY.free 6; have r0 := pY.cell (j := 0) rfl; have r1 := pY.cell (j := 1) rfl; have r2 := pY.cell (j := 2) rfl)
      all_goals
        have hgl5 := hSz.gains.lt gg rfl
        have hal5 := hSz.arr.lt ga rfl
        have hSz5 := aZ.lt
        have hgb5 : gb = wz.heap.size ∨ gb = wz.heap.size + 1 := hgb.imp id (fun e => by rw [e]; simp)
        have hN : NashS w0 S gg dg ga da m pv cv v A (ownL v A) (leafP P A) ((((W5.setCell ⟨S, 3, none⟩ (.slice (some ⟨gb, 0, none⟩) m cap)).setCell ⟨S, 4, none⟩ (.int .i64 C1)).setCell ⟨S, 5, none⟩ (.int .i64 H1)).setCell ⟨S, 6, none⟩ (.int .i64 L1)) := by
          refine ⟨((((hSz.bel.trans (hB5.mono hszz)).setCell (p := ⟨S, 3, none⟩) hS0 _).setCell (p := ⟨S, 4, none⟩) hS0 _).setCell (p := ⟨S, 5, none⟩) hS0 _).setCell (p := ⟨S, 6, none⟩) hS0 _, ?_, ?_, _, C1, H1, L1, (((aY.set (j := 3)).set (j := 4)).set (j := 5)).set (j := 6), .inr ⟨A, gb, cap, rfl, HD.out, ?_, by omega, by omega, by omega, ?_, ?_⟩⟩
          · have hz : blk (some ⟨gg, 0, none⟩ : Option Addr) ≠ some S := fun e => hSg (by simpa [blk] using e.symm)
            exact ((((hSz.gains.below hB5 (Nat.le_refl _)).beside hz).beside hz).beside hz).beside hz
          · have hz : blk (some ⟨ga, 0, none⟩ : Option Addr) ≠ some S := fun e => hSa (by simpa [blk] using e.symm)
            exact ((((hSz.arr.below hB5 (Nat.le_refl _)).beside hz).beside hz).beside hz).beside hz
          · have hz : blk (some ⟨gb, 0, none⟩ : Option Addr) ≠ some S := fun e => by
              have : gb = S := by simpa [blk] using e
              omega
            exact (((hO5.beside hz).beside hz).beside hz).beside hz
          · unfold pvV; rw [hk1, hk2, HH1.out, HL1.out]
          · rintro C (hC | rfl)
            · exact keyLe_trans (hbm C hC) hBA
            · exact keyLe_refl _ _
        have HN := Lib.hid hN
        clear hN aY pY t3 t4 t5 t6 r0 r1 r2 hO5 hg5 hgb hB5 HO5 HI5 Hk5 Hk6 e2 e3 q0 q1 q2
        go_wp2_with fail
        refine bodyPost_ret (results_none rfl _ _ _) rfl ?_
        exact ⟨⟨_, rfl⟩, HN.out⟩
    · have hd : decide (0 < R) = false := by rw [decide_eq_false_iff_not]; exact hgt
      have hAB : keyLe v A B := by have h := fun h => hgt (hkey.2 h); unfold keyLe; omega
      go_region_held3 (fun W => W.cell? ⟨S, 3, none⟩ = some (.slice (some ⟨gb0, 0, none⟩) m db) ∧ W.cell? ⟨S, 4, none⟩ = some (.int .i64 c) ∧ W.cell? ⟨S, 5, none⟩ = some (.int .i64 H) ∧ W.cell? ⟨S, 6, none⟩ = some (.int .i64 L) ∧ W.cell? ⟨w3.heap.size, 0, none⟩ = some (.int .i64 C1) ∧ W.cell? ⟨w3.heap.size, 1, none⟩ = some (.int .i64 H1) ∧ W.cell? ⟨w3.heap.size, 2, none⟩ = some (.int .i64 L1) ∧ Below W4.heap.size W4 W)
        (first | assumption | exact Hmk.out _ hG | exact Hmk.out _ (below_drewN W4.heap.size W4 1) | exact Hmk.out _ (Below.refl _ _))
        (first
          | (go_at_call 71; refine (HCm2.out _).mono ?_; rintro e wz ⟨rfl, hbC⟩; have hG : Below W4.heap.size W4 wz := Below.trans (by go_split_ands; assumption) (hbC.mono (Below.size (B := W4.heap.size) (w := W4) (by go_split_ands; assumption)))))
      have hSz := hS4.below hG
      obtain ⟨bv', c', H', L', x1, x2⟩ := hS4.st
      have hN : NashS w0 S gg dg ga da m pv cv v A (ownL v A) (leafP P A) wz := ⟨hSz.bel, hSz.gains, hSz.arr, _, _, _, _, hA4.below hG hA4.lt, .inr ⟨B, gb0, db, rfl, hBD, hBO.below hG (Nat.le_refl _), hb1, hb2, hb3, hbp2.out, fun C hC => by
        rcases hC with hC | rfl
        · exact hbm C hC
        · exact hAB⟩⟩
      have HN := Lib.hid hN
      clear hN
      go_wp2_with fail
      refine bodyPost_ret (results_none rfl _ _ _) rfl ?_
      exact ⟨⟨_, rfl⟩, HN.out⟩
end Go.Proofs.YtmcncflieoolmaaGreat

/- The envy graph as an array of six rows of six: the walk of free. -/
namespace Go.Proofs.YtmcncflieoolmaaGreat
set_option linter.unusedVariables false
set_option linter.unusedSimpArgs false
open Go.ChangeShapes Go.WideShapes Go.ChangeAt Go.RowKit Go.Deep

/-- The cells of a graph; cell i * 6 + k: i envies k. -/
def grL (E : Nat → Bool) : List Value := (List.range 36).map fun (j : Nat) => Value.bool (E j)
theorem grL_len (E : Nat → Bool) : (grL E).length = 36 := by simp [grL]
theorem grL_get (E : Nat → Bool) {j : Nat} (h : j < 36) : (grL E)[j]? = some (.bool (E j)) := by simp [grL, h]
theorem grL_set (E : Nat → Bool) {j : Nat} (h : j < 36) (b : Bool) : (grL E).set j (.bool b) = grL (fun k => if k = j then b else E k) := by
  apply List.ext_getElem?
  intro k
  rw [List.getElem?_set, grL_len]
  by_cases hk : k < 36
  · rw [grL_get _ hk, grL_get _ hk]
    by_cases e : j = k
    · subst e; simp [hk]
    · rw [if_neg e, if_neg (fun h => e h.symm)]
  · have h1 : ∀ F, (grL F)[k]? = none := fun F => List.getElem?_eq_none (by rw [grL_len]; omega)
    rw [h1, h1]
    by_cases e : j = k
    · omega
    · rw [if_neg e]
/-- The least agent below n that nobody envies, or -1. -/
def FreeR (E : Nat → Bool) (n : Nat) (z : Int) : Prop :=
  (z = -1 ∧ ∀ i, i < n → ∃ k, k < n ∧ E (k * 6 + i) = true) ∨ ∃ i : Nat, z = i ∧ i < n ∧ (∀ k, k < n → E (k * 6 + i) = false) ∧ ∀ i', i' < i → ∃ k, k < n ∧ E (k * 6 + i') = true

set_option maxHeartbeats 4000000 in
set_option maxRecDepth 100000 in
theorem gfree_any (E : Nat → Bool) (n : Nat) (hn : n ≤ 6) (w : World) :
    Calls Tryz.prog 32 #[.agg (grL E).toArray, .int .i64 (n : Int)] w fun e w' => ∃ z, e = .returned (.int .i64 z) ∧ FreeR E n z ∧ Below w.heap.size w w' := by
  obtain ⟨W0, hW0⟩ : ∃ W0, w.alloc (.cells (grL E).toArray 66) = W0 := ⟨_, rfl⟩
  have hB : Below w.heap.size w W0 := below_alloc hW0
  have hA : Arr W0 w.heap.size (grL E) 66 := Arr.new rfl hW0
  have HW0 := Lib.hid hW0
  clear hW0
  go_enter Tryz.func32, Tryz.ntmps32
  go_wp2_with fail
  go_step3
  go_wp2_with fail
  rw [HW0.out]
  go_step3
  go_wp2_with fail
  go_loop [8] (fun t => ∃ i : Nat, i ≤ n ∧ t = .int .i64 (i : Int) ∧ Hid (∀ i', i' < i → ∃ k, k < n ∧ E (k * 6 + i') = true)) (fun t => n - (intOf t).toNat)
  case atStart => exact ⟨0, Nat.zero_le _, rfl, fun i' h => absurd h (by omega)⟩
  case round =>
    obtain ⟨i, hi, rfl, hF⟩ := hrel
    by_cases hlt : i < n
    · have hi1 : (i : Int) < n := by omega
      go_wp2_with fail
      go_loop [12] (fun t => ∃ k : Nat, k ≤ n ∧ t = .int .i64 (k : Int) ∧ Hid (∀ k', k' < k → E (k' * 6 + i) = false)) (fun t => n - (intOf t).toNat)
      case atStart => exact ⟨0, Nat.zero_le _, rfl, fun k' h => absurd h (by omega)⟩
      case round =>
        obtain ⟨k, hk, rfl, hG⟩ := hrel
        by_cases hlk : k < n
        · have hk1 : (k : Int) < n := by omega
          have hk3 : decide ((0 : Int) ≤ k) = true := by rw [decide_eq_true_iff]; omega
          have hk4 : decide (k < 6) = true := by rw [decide_eq_true_iff]; omega
          have hk5 : decide ((k : Int) < 6) = true := by rw [decide_eq_true_iff]; omega
          have hi3 : decide ((0 : Int) ≤ i) = true := by rw [decide_eq_true_iff]; omega
          have hi4 : decide (i < 6) = true := by rw [decide_eq_true_iff]; omega
          have hi5 : decide ((i : Int) < 6) = true := by rw [decide_eq_true_iff]; omega
          have hc := hA.cell (grL_get E (j := k * 6 + i) (by omega))
          cases hb : E (k * 6 + i) with
          | true =>
            rw [hb] at hc
            go_wp2_with fail
            go_round
            case rel => exact ⟨i + 1, by omega, by go_num, fun i' h => by
              by_cases e : i' = i
              · subst e; exact ⟨k, hlk, hb⟩
              · exact hF.out i' (by omega)⟩
            case measure => (simp [intOf] <;> omega)
          | false =>
            rw [hb] at hc
            go_wp2_with fail
            go_round
            case rel => exact ⟨k + 1, by omega, by go_num, fun k' h => by
              by_cases e : k' = k
              · subst e; exact hb
              · exact hG.out k' (by omega)⟩
            case measure => (simp [intOf] <;> omega)
        · have hk1 : ¬ (k : Int) < n := by omega
          go_wp2_with fail
          go_ret
          exact ⟨_, rfl, .inr ⟨i, rfl, hlt, fun k' h => hG.out k' (by omega), hF.out⟩, hB⟩
    · have hi1 : ¬ (i : Int) < n := by omega
      go_wp2_with fail
      go_ret
      exact ⟨_, rfl, .inl ⟨rfl, fun i' h => hF.out i' (by omega)⟩, hB⟩
end Go.Proofs.YtmcncflieoolmaaGreat
