/- The walk of rounds.Run: what it comes to.  (Printed by wip/gengrr.py.) -/
import Derived.Test.YtmcncflieoolmaaGreatTopTopGoodsm29
import Derived.Test.YtmcncflieoolmaaGreatTopTopGoodsm23
import Derived.Test.YtmcncflieoolmaaGreatTopTopGoodsm22
/- The walk of rounds.Run: what it comes to.  (Printed by wip/gengrr.py.) -/
namespace Go.Proofs.YtmcncflieoolmaaGreat
set_option linter.unusedVariables false
set_option linter.unusedSimpArgs false
open Go.ChangeShapes Go.WideShapes Go.ChangeAt Go.RowKit Go.Deep
attribute [local go_sem] nilG_no nilG_yes

theorem FreeR.uniq {E : Nat → Bool} {n : Nat} {z z' : Int} (h : FreeR E n z) (h' : FreeR E n z') : z = z' := by
  rcases h with ⟨rfl, a⟩ | ⟨i, rfl, hi, a, b⟩ <;> rcases h' with ⟨rfl, a'⟩ | ⟨i', rfl, hi', a', b'⟩
  · rfl
  · obtain ⟨k, hk, e⟩ := a i' hi'
    rw [a' k hk] at e; cases e
  · obtain ⟨k, hk, e⟩ := a' i hi
    rw [a k hk] at e; cases e
  · rcases Nat.lt_trichotomy i i' with h1 | h1 | h1
    · obtain ⟨k, hk, e⟩ := b' i h1
      rw [a k hk] at e; cases e
    · rw [h1]
    · obtain ⟨k, hk, e⟩ := b i' h1
      rw [a' k hk] at e; cases e
theorem pot_give {v : List (List Int)} {a : List Int} {g : Nat} {y : Int} (hg : Gds v) (ha : AlcOk v a) (hgl : g < a.length) (hf : iget a g = -1) : pot v a ≤ pot v (a.set g y) :=
  sumTo_le fun i hi => by
    rw [worth_set hgl hf (by omega)]
    have hb := (gds_bid hg hi (by rw [← ha.1]; exact hgl : g < wid v)).1
    split <;> omega
theorem ordT_of {o : List Int} {m : Nat} (h : OrdP o (m : Int)) : OrdT o m := ⟨fun j hj => ⟨(h j hj).1, (h j hj).2.1⟩, fun i j hij hj => (h j hj).2.2 i hij⟩
theorem ordT_take {o : List Int} {m k : Nat} (h : OrdT o m) : OrdT (o.take k) m := by
  have e : ∀ j, j < (o.take k).length → iget (o.take k) j = iget o j := fun j hj => by
    rw [List.length_take] at hj
    simp only [iget, List.getD, List.getElem?_take]
    rw [if_pos (by omega)]
  refine ⟨fun j hj => ?_, fun i j hij hj => ?_⟩
  · rw [e j hj]; exact h.1 j (by rw [List.length_take] at hj; omega)
  · rw [e j hj, e i (by omega)]; exact h.2 i j hij (by rw [List.length_take] at hj; omega)
theorem take_igetR {o : List Int} {k : Nat} (hk : k < o.length) : o.take (k + 1) = o.take k ++ [iget o k] := by
  rw [List.take_add_one, List.getElem?_eq_getElem hk]
  simp [iget, hk]
/-- A row of steps of which only the number is known. -/
def RowS (w : World) (base : Nat) (p : Option Addr) (c n : Nat) : Prop := ∃ vs, w.ownsRow base 72 3 (.slice p n c) n vs
theorem RowS.ofNil (w : World) (base : Nat) : RowS w base none 0 0 := ⟨[], World.ownsRow_nil w base _ _⟩
theorem RowS.lt {w : World} {base : Nat} {p : Option Addr} {c n : Nat} (h : RowS w base p c n) : ∀ k, blk p = some k → base ≤ k ∧ k < w.heap.size := fun k hk => by
  obtain ⟨vs, h⟩ := h
  exact h.lt k (by rw [ownBlock_slice]; exact hk)
theorem RowS.kept {w w' : World} {base : Nat} {p : Option Addr} {c n : Nat} (h : RowS w base p c n) {row : Option Nat} (hg : w.grownBy w' row) (hne : ∀ k, blk p = some k → row ≠ some k) : RowS w' base p c n := by
  obtain ⟨vs, h⟩ := h
  refine ⟨vs, h.kept hg ?_⟩
  rw [ownBlock_slice]
  cases hb : blk p with
  | none => exact .inl rfl
  | some k => exact .inr fun e => hne k hb e.symm
theorem RowS.below {w w' : World} {B base : Nat} {p : Option Addr} {c n : Nat} (h : RowS w base p c n) (hb : Below B w w') (hB : w.heap.size ≤ B) : RowS w' base p c n :=
  h.kept (grownBy_of_below hb hB none) (fun _ _ h => by cases h)
/-- 'append(s, Step{..})', the step laid in a new block. -/
theorem wpList_appSR {w : World} {ops : Array Oper} {rest : List Oper} {o : Oper} {a : Act} {K : Exit → Act → World → Prop} (hgd : o.guard = none) (s x : Operand)
    (ho : o.op = .call { callee := .builtin .append, args := #[s, x], argTypes := #[37, 37] })
    (base : Nat) (p : Option Addr) (c n : Nat) (u0 u1 u2 : Value) (hu : u0.oneCell' = true ∧ u1.oneCell' = true ∧ u2.oneCell' = true) (hs : a.eval s = .slice p n c) {B : Nat} (hx : a.eval x = .slice (some ⟨B, 0, none⟩) 1 1) (hB : B = w.heap.size) (hown : RowS w base p c n)
    (hsz : n ≤ 900000) (hbase : base ≤ w.heap.size)
    (h : ∀ p' c' w', RowS w' base p' c' (n + 1) → w.grownBy w' (blk p) → Fresh w p p' → wpList Tryz.prog ops K rest (a.put o.dst (.slice p' (n + 1) c')) w') : wpList Tryz.prog ops K (o :: rest) a (w.alloc (.cells #[u0, u1, u2] 72)) := by
  subst hB
  obtain ⟨vs, hown⟩ := hown
  refine wpList_appG (w := w.alloc (.cells #[u0, u1, u2] 72)) hgd s x 37 72 ho (.agg #[.slice none 0 0, .int .i64 0, .int .i64 0]) 3 40 Tryz.underlying37 infoStep (by kernel_rfl) (by decide) base p (some ⟨w.heap.size, 0, none⟩) n 1 c 1 vs [u0, u1, u2] hs hx (hown.alloc _)
    (fun e => (by cases e)) rfl ?_ (by simp [hu.1, hu.2.1, hu.2.2]) (by simp [maxLen]; omega) (by omega) (by simp; omega) ?_
  · rintro ad ⟨⟩ j u hu
    rw [add_plain, World.cell?_alloc_at _ _ _ _ rfl]
    simpa using hu
  · intro p' c' w' h2 h3 h4
    have hg : w.grownBy w' (blk p) := ⟨h3.os, h3.tape, h3.output, by have := h3.size; simp at this; omega, fun k hk hne => by
      rw [h3.block k (by simp; omega) hne]
      exact Below.heap_alloc _ _ _ hk⟩
    have hfr : Fresh w p p' := fun k hk => by
      rcases h4 k hk with h5 | h5
      · exact .inl h5
      · exact .inr (by simp at h5; omega)
    exact h p' c' w' ⟨_, h2⟩ hg hfr
theorem grown_setCells (S : Nat) : ∀ (vs : List Value) (o : Nat) (w : World), w.grownBy (w.setCells S o vs) (some S)
  | [], _, w => ⟨rfl, rfl, rfl, Nat.le_refl _, fun _ _ _ => rfl⟩
  | v :: r, o, w => by
    have h1 : w.grownBy (w.setCell ⟨S, o, none⟩ v) (some S) := ⟨rfl, rfl, rfl, by rw [size_set]; exact Nat.le_refl _, fun k h1 h2 => Below.heap_setCell w ⟨S, o, none⟩ v k (fun e => h2 (by rw [e]))⟩
    have h2 := grown_setCells S r (o + 1) (w.setCell ⟨S, o, none⟩ v)
    exact grown_trans h1 h2
/-- The length of a slice. -/
def sLen : Value → Nat
  | .slice _ n _ => n
  | _ => 0

set_option maxHeartbeats 16000000 in
set_option maxRecDepth 100000 in
theorem roundsRun_any (p q : Option Addr) (c d : Nat) (v : List (List Int)) (o : List Int) (w : World) (hx : Mat w p c v) (hy : Ints w q d o) (hg : Gds v) (hOrd : OrdP o (wid v : Int)) :
    Calls Tryz.prog 12 #[.agg #[.slice p v.length c], .slice q o.length d] w fun e w' => ∃ p' c' A ps ns cs, e = .returned (.tuple #[.slice p' (A : List Int).length c', .slice ps ns cs, .int .i64 0]) ∧ Own w' w.heap.size p' c' A ∧ RunTo v o A ∧ Below w.heap.size w w' := by
  obtain ⟨W0, hW0⟩ : ∃ W0, w.alloc (.cells #[.slice p v.length c] 24) = W0 := ⟨_, rfl⟩
  have hB : Below w.heap.size w W0 := below_alloc hW0
  have bX : BoxV W0 w.heap.size [.slice p v.length c] := BoxV.new rfl hW0
  have x0 := bX.cell 0 _ rfl
  have HW0 := Lib.hid hW0
  clear hW0
  have hl1 := hx.length_le
  have hl2 := hy.length_le
  have hgz : chkG v = 0 := chkG_zero.2 hg
  have HCk := goodsCheck_any p c v _ (hx.below hB (Nat.le_refl _))
  rw [hgz] at HCk
  have HCk := Lib.hid HCk
  clear hgz
  go_enter Tryz.func12, Tryz.ntmps12
  go_wp2_with fail
  rw [HW0.out]
  refine HCk.out.mono ?_
  rintro e w1 ⟨rfl, hb1⟩
  clear x0 HCk
  replace bX := bX.below hb1
  replace hB := hB.trans (hb1.mono hB.size)
  clear hb1
  have x0 := bX.cell 0 _ rfl
  have Hg := Lib.hid hg
  have Hx := Lib.hid hx
  have Hy := Lib.hid hy
  have h0v : 0 < v.length := hg.1
  obtain ⟨b, o', rfl, _, q0, d0, hc0, hi0⟩ := (hx.below hB (Nat.le_refl _)).get (j := 0) h0v
  rw [Nat.add_zero] at hc0
  obtain ⟨m, hm⟩ : ∃ m, wid v = m := ⟨_, rfl⟩
  have hm0 : (rget v 0).length = m := hm
  rw [hm0] at hc0
  rw [hm] at hOrd
  have Hord := Lib.hid hOrd
  have Hm := Lib.hid hm
  have hm10 : m ≤ 10 := by have := hg.2.2.1; omega
  have hv1 : (0 : Int) < v.length := by omega
  have hv6 : v.length ≤ 6 := hg.2.1
  clear hm hm0 hi0 hx hy hg hOrd
  have hI1 := ints_one w1 (x := -1) ⟨by omega, by omega⟩ 3
  have hBa : Below w1.heap.size w1 (w1.alloc (.cells #[.int .i64 (-1)] 3)) := (Below.refl _ _).alloc (Nat.le_refl _) _
  have hc0' : (w1.alloc (.cells #[.int .i64 (-1)] 3)).cell? ⟨b, o', none⟩ = _ := (hBa.cell (p := ⟨b, o', none⟩) (World.block_lt_of_cell? _ _ hc0)).trans hc0
  have x0' : (w1.alloc (.cells #[.int .i64 (-1)] 3)).cell? ⟨w.heap.size, 0, none⟩ = _ := (hBa.cell (p := ⟨w.heap.size, 0, none⟩) (World.block_lt_of_cell? _ _ x0)).trans x0
  go_wp2_with fail
  refine (repeat1_any _ _ (-1) m _ hI1 (by omega) ⟨by omega, by omega⟩).mono ?_
  rintro e w3 ⟨g0, c1, rfl, hO, hb'⟩
  have hb := hBa.trans (hb'.mono hBa.size)
  have hbs := hBa.size
  have lX := bX.lt
  replace hO := hO.lower (base' := w.heap.size + 1) (by omega)
  clear x0 x0' hc0 hc0' hI1 hb' hBa
  replace bX := bX.below hb
  replace hB := hB.trans (hb.mono hB.size)
  have hgw := (hO.lt g0 rfl).1
  clear hb hbs lX
  have hiv : Ints w3 q d o := Hy.out.below hB (Nat.le_refl _)
  go_wp2_with fail
  go_loop [4, 5, 6, 28] (fun s4 s5 s6 t => s4 = .slice (some ⟨g0, 0, none⟩) m c1 ∧ s5 = .slice none 0 0 ∧ s6 = .int .i64 0 ∧ ∃ n : Nat, n ≤ o.length ∧ t = .int .i64 n) (fun _ _ _ t => o.length - (intOf t).toNat)
  case atStart => exact ⟨rfl, rfl, rfl, 0, Nat.zero_le _, rfl⟩
  case round =>
    obtain ⟨rfl, rfl, rfl, n, hn, rfl⟩ := hrel
    by_cases hlt : n < o.length
    · have hn1 : (n : Int) < o.length := by omega
      obtain ⟨b3, o3, rfl, _, hc⟩ := hiv.get hlt
      have hsl := run_pre (some ⟨b3, o3, none⟩) o.length d n (by have := hiv.le; omega)
      obtain ⟨hn1', hn2, hn3⟩ := Hord.out n hlt
      have HB := hasB_take (xs := o) (i := n) (by omega) (iget o n)
      have HC := containsR (some ⟨b3, o3, none⟩) d n o (iget o n) (by omega) w3 hiv
      have hH : hasB (o.take n) (iget o n) = false := by
        cases hh : hasB (o.take n) (iget o n) with
        | false => rfl
        | true =>
          obtain ⟨j, hj, e⟩ := HB.1 hh
          exact absurd e (hn3 j hj)
      rw [hH] at HC
      obtain ⟨x, ex⟩ : ∃ x, iget o n = x := ⟨_, rfl⟩
      rw [ex] at hc HC hn1' hn2
      have HC := Lib.hid HC
      have hd : decide (x < 0) = false := by rw [decide_eq_false_iff_not]; omega
      have hd2 : decide ((m : Int) ≤ x) = false := by rw [decide_eq_false_iff_not]; omega
      clear ex hH HB hn3 hn1' hn2
      go_wp2_with fail
      refine HC.out.mono ?_
      rintro e w' ⟨rfl, rfl⟩
      go_wp2_with fail
      go_round
      case rel => exact ⟨rfl, rfl, rfl, n + 1, by omega, by go_num⟩
      case measure => (simp [intOf] <;> omega)
    · have hn1 : ¬ (n : Int) < o.length := by omega
      obtain rfl : n = o.length := by omega
      have hR0 : Hid (RunTo v [] (List.replicate m (-1))) := by unfold Hid; rw [← Hm.out]; exact .start
      clear hiv
      have hOl : o.length ≤ 10 := by have := ordP_len Hord.out; omega
      have hP0 : Hid (((0 : Nat) : Int) ≤ ((0 : Nat) : Int) + pot v (List.replicate m (-1))) := by
        have := (pot_in Hg.out (run_inv Hg.out hR0.out (by rw [Hm.out]; exact ⟨fun j h => (by simp at h), fun i j _ h => (by simp at h)⟩)).ok).1
        unfold Hid; omega
      have HI := Lib.hid (fun k A (h : RunTo v (o.take k) A) => run_inv Hg.out h (by rw [Hm.out]; exact ordT_take (ordT_of Hord.out)))
      go_wp2_with fail
      go_loopw [4, 5, 51] (fun s4 s5 t wr => ∃ k : Nat, k ≤ o.length ∧ t = .int .i64 (k : Int) ∧ ∃ A g cA pz n cz, s4 = .slice (some ⟨g, 0, none⟩) m cA ∧ s5 = .slice pz n cz ∧ Own wr (w.heap.size + 1) (some ⟨g, 0, none⟩) cA A ∧ RowS wr (w.heap.size + 1) pz cz n ∧ Hid (blk pz ≠ some g) ∧ Hid (RunTo v (o.take k) A) ∧ Hid ((n : Int) ≤ (k : Int) + pot v A) ∧ BoxV wr w.heap.size [.slice (some ⟨b, o', none⟩) v.length c] ∧ Below w.heap.size w wr) (fun _ _ t _ => o.length - (intOf t).toNat)
      case atStart => exact ⟨0, Nat.zero_le _, rfl, List.replicate m (-1), g0, c1, none, 0, 0, rfl, rfl, hO, RowS.ofNil _ _, (fun h => by cases h), hR0.out, hP0.out, bX, hB⟩
      case round =>
        clear hO hP0 hR0 bX hB
        obtain ⟨k, hk, rfl, A, g, cA, pz, n, cz, rfl, rfl, hO, hS, hne, hR, hPn, bX, hbw⟩ := hrel
        by_cases hlt : k < o.length
        · have hk1 : (k : Int) < o.length := by omega
          obtain ⟨n1, n2, _⟩ := Hord.out k hlt
          obtain ⟨x, hx⟩ : ∃ x : Nat, iget o k = x := ⟨(iget o k).toNat, by omega⟩
          have hxm : x < m := by omega
          have hmp : 0 < m := by omega
          have hxm1 : (x : Int) < m := by omega
          have hx0 : (0 : Int) ≤ x := by omega
          have hI := HI.out k A hR.out
          have hAl : A.length = m := by rw [hI.ok.1]; exact Hm.out
          have hF := chkA_ok Hg.out hI.ok
          have x0 := bX.cell 0 _ rfl
          obtain ⟨b3, o3, hq3, _, hc⟩ := (Hy.out.below hbw (Nat.le_refl _)).get hlt
          rw [hx] at hc
          have Hx0 := Lib.hid hx
          have KE := Lib.hid (envy_any (some ⟨b, o', none⟩) c v (some ⟨g, 0, none⟩) cA m A wr hAl (Hx.out.below hbw (Nat.le_refl _)) hO.ints hF hv6)
          subst hq3
          clear hx n1 n2 hF hAl hI
          go_wp2_with fail
          refine KE.out.mono ?_
          rintro e we ⟨rfl, hbe⟩
          clear x0 hc KE
          replace hO := hO.below hbe (Nat.le_refl _)
          replace hS := hS.below hbe (Nat.le_refl _)
          replace bX := bX.below hbe
          replace hbw := hbw.trans (hbe.mono hbw.size)
          clear hbe
          have hlX := bX.lt
          have hA0 : Arr (we.alloc (.cells #[.bool false, .bool false, .bool false, .bool false, .bool false, .bool false, .bool false, .bool false, .bool false, .bool false, .bool false, .bool false, .bool false, .bool false, .bool false, .bool false, .bool false, .bool false, .bool false, .bool false, .bool false, .bool false, .bool false, .bool false, .bool false, .bool false, .bool false, .bool false, .bool false, .bool false, .bool false, .bool false, .bool false, .bool false, .bool false, .bool false] 66)) we.heap.size (grL (prE [])) 66 := Arr.new rfl (by rw [← zeroG])
          have hth : (we.alloc (.cells #[.bool false, .bool false, .bool false, .bool false, .bool false, .bool false, .bool false, .bool false, .bool false, .bool false, .bool false, .bool false, .bool false, .bool false, .bool false, .bool false, .bool false, .bool false, .bool false, .bool false, .bool false, .bool false, .bool false, .bool false, .bool false, .bool false, .bool false, .bool false, .bool false, .bool false, .bool false, .bool false, .bool false, .bool false, .bool false, .bool false] 66)).there we.heap.size 0 (grL (envE v A)).toArray.size := by
            have := hA0.there
            rw [grL_len] at this
            rw [show (grL (envE v A)).toArray.size = 36 from grL_len _]; exact this
          have hA1 := hA0.setAll (vs' := grL (envE v A)) (by rw [grL_len, grL_len])
          have hBs : Below we.heap.size we ((we.alloc (.cells #[.bool false, .bool false, .bool false, .bool false, .bool false, .bool false, .bool false, .bool false, .bool false, .bool false, .bool false, .bool false, .bool false, .bool false, .bool false, .bool false, .bool false, .bool false, .bool false, .bool false, .bool false, .bool false, .bool false, .bool false, .bool false, .bool false, .bool false, .bool false, .bool false, .bool false, .bool false, .bool false, .bool false, .bool false, .bool false, .bool false] 66)).setCells we.heap.size 0 (grL (envE v A))) := below_setCells (Nat.le_refl _) _ _ _ ((Below.refl _ _).alloc (Nat.le_refl _) _)
          obtain ⟨Bg, hBg⟩ : ∃ B, we.heap.size = B := ⟨_, rfl⟩
          rw [hBg] at hlX
          go_wp2_with ((with_reducible show wpList _ _ _ (⟨none, .store 66 _ _, _, _, _, _⟩ :: _) _ _); go_must (refine wpList_store_mid rfl 66 (.tmp 12) (.tmp 57) rfl we.heap.size 0 (grL (envE v A)).toArray (by simp [Act.eval, Act.put]) (by simp [Act.eval, Act.put]) hth (infoG (envE v A)) (grL_one (envE v A)) ?_))
          rw [hBg] at hA1
          have hO1 := hO.below hBs (Nat.le_refl _)
          have hS1 := hS.below hBs (Nat.le_refl _)
          have bX1 := bX.below hBs
          have hbw1 := hbw.trans (hBs.mono hbw.size)
          have hgB : g ≠ Bg := by have := (hO.lt g rfl).2; omega
          have hpB : blk pz ≠ some Bg := fun e => by have := (hS.lt _ e).2; omega
          simp only [hBg, Act.put]
          clear hA0 hth
          go_loopw [4, 5] (fun s4 s5 wr => ∃ A g cA pz n cz, s4 = .slice (some ⟨g, 0, none⟩) m cA ∧ s5 = .slice pz n cz ∧ Own wr (w.heap.size + 1) (some ⟨g, 0, none⟩) cA A ∧ RowS wr (w.heap.size + 1) pz cz n ∧ Hid (blk pz ≠ some g) ∧ Hid (g ≠ Bg) ∧ Hid (blk pz ≠ some Bg) ∧ Hid (RunTo v (o.take k) A) ∧ Hid ((n : Int) ≤ (k : Int) + pot v A) ∧ BoxV wr w.heap.size [.slice (some ⟨b, o', none⟩) v.length c] ∧ Below w.heap.size w wr ∧ Arr wr Bg (grL (envE v A)) 66) (fun _ s5 _ => 70000 - sLen s5)
          case atStart =>
            rw [hBg] at hO1 hS1 bX1 hbw1
            exact ⟨A, g, cA, pz, n, cz, rfl, rfl, hO1, hS1, hne, hgB, hpB, hR, hPn, bX1, hbw1, hA1⟩
          case round =>
            clear hO hS hne hR hPn bX hbw hA1 hBs hO1 hS1 bX1 hbw1 hgB hpB hBg
            obtain ⟨A, g, cA, pz, n, cz, rfl, rfl, hO, hS, hne, hgB, hpB, hR, hPn, bX, hbw, hG⟩ := hrel
            have hI := HI.out k A hR.out
            have hAl : A.length = m := by rw [hI.ok.1]; exact Hm.out
            have hpin := pot_in Hg.out hI.ok
            have hn7 : n ≤ 69999 := by have := hPn.out; omega
            have hBgl := hG.lt
            have hgr := hG.range
            have x0 := bX.cell 0 _ rfl
            have HIk := Lib.hid hI
            have Alen := Lib.hid hAl
            have KF := Lib.hid (fun W => gfree_any (envE v A) v.length hv6 W)
            clear hI hAl hpin
            go_wp2_with ((with_reducible show wpList _ _ _ (⟨some 58, _, _, _, _, _⟩ :: _) _ _); go_must (refine wpList_load_mid rfl 66 (.tmp 12) rfl Bg 0 (by simp [Act.eval, Act.put]) (grL (envE v A)) _ hgr Tryz.underlying66 rfl (infoG (envE v A)) ?_))
            refine (KF.out _).mono ?_
            rintro e wf ⟨z, rfl, hz, hb⟩
            clear x0 hgr
            replace hO := hO.below hb (Nat.le_refl _)
            replace hS := hS.below hb (Nat.le_refl _)
            replace bX := bX.below hb
            replace hG := hG.below hb hG.lt
            replace hbw := hbw.trans (hb.mono hbw.size)
            clear hb
            have x0 := bX.cell 0 _ rfl
            have hgr := hG.range
            have hBgl := hG.lt
            by_cases hz0 : z < 0
            · obtain rfl : z = -1 := by
                rcases hz with ⟨e, _⟩ | ⟨i, e, _⟩
                · exact e
                · omega
              have Hz := Lib.hid hz
              have KC := Lib.hid (gcircle_any (envE v A) wf)
              clear hz hz0
              go_wp2_with ((with_reducible show wpList _ _ _ (⟨some 64, _, _, _, _, _⟩ :: _) _ _); go_must (refine wpList_load_mid rfl 66 (.tmp 12) rfl Bg 0 (by simp [Act.eval, Act.put]) (grL (envE v A)) _ hgr Tryz.underlying66 rfl (infoG (envE v A)) ?_))
              refine KC.out.mono ?_
              rintro e wc ⟨u, rfl, hbc, hu⟩
              have hcr : ∃ g2 o2 c2 r, u = .slice (some ⟨g2, o2, none⟩) (r : List Int).length c2 ∧ Ints wc (some ⟨g2, o2, none⟩) c2 r ∧ EnvC v A r ∧ 0 < r.length ∧ RunTo v (o.take k) (passL A r) := by
                rcases hu with ⟨_, hno⟩ | ⟨g2, o2, c2, r, mm, ii, e, hIr, hi6, hm1, hcl⟩
                · obtain ⟨mm, ii, r, h1, h2, h3, h4⟩ := circ_ex h0v hv6 Hz.out
                  exact absurd h4 (hno mm ii h1 h2 h3 r)
                · obtain ⟨hC, hl⟩ := close_env hv6 hi6 hcl
                  exact ⟨g2, o2, c2, r, e, hIr, hC, by omega, .pass hR.out Hz.out hi6 hm1 hcl⟩
              obtain ⟨g2, o2, c2, r, rfl, hIr, hC, hr0, hRp⟩ := hcr
              have hpp := pot_pass hC HIk.out.ok hr0
              have HC := Lib.hid hC
              have HRp := Lib.hid hRp
              have HPp := Lib.hid (show ((n + 1 : Nat) : Int) ≤ (k : Int) + pot v (passL A r) by have := hPn.out; omega)
              clear x0 hgr hu hC hRp hpp KC
              replace hO := hO.below hbc (Nat.le_refl _)
              replace hS := hS.below hbc (Nat.le_refl _)
              replace bX := bX.below hbc
              replace hG := hG.below hbc hG.lt
              replace hbw := hbw.trans (hbc.mono hbw.size)
              clear hbc
              have x0 := bX.cell 0 _ rfl
              have KP := Lib.hid (rpass_any (some ⟨b, o', none⟩) c v (some ⟨g, 0, none⟩) cA m A (some ⟨g2, o2, none⟩) c2 r Alen.out hmp Hg.out HIk.out.ok HC.out.circ wc (Hx.out.below hbw (Nat.le_refl _)) hO.ints hIr)
              go_wp2_with fail
              refine KP.out.mono ?_
              rintro e wp ⟨g3, c3, rfl, hO3, hbp⟩
              have hg3 := (hO3.lt g3 rfl)
              have hwz := hbw.size
              have hSl := hS.lt
              have hGl := hG.lt
              have hlX := bX.lt
              replace hO3 := hO3.lower (base' := w.heap.size + 1) (by omega)
              replace hS := hS.below hbp (Nat.le_refl _)
              replace bX := bX.below hbp
              replace hG := hG.below hbp hG.lt
              replace hbw := hbw.trans (hbp.mono hbw.size)
              have hpz := hbp.size
              have hne3 : Hid (blk pz ≠ some g3) := fun e => by have := (hSl _ e).2; have := hg3.1; omega
              have hg3B : Hid (g3 ≠ Bg) := by unfold Hid; have := hg3.1; omega
              have hIp := HI.out k _ HRp.out
              have hAlp : (passL A r).length = m := by rw [hIp.ok.1]; exact Hm.out
              have hFp := chkA_ok Hg.out hIp.ok
              have KE := Lib.hid (fun W h1 h2 => envy_any (some ⟨b, o', none⟩) c v (some ⟨g3, 0, none⟩) c3 m (passL A r) W hAlp h1 h2 hFp hv6)
              obtain ⟨A2, hA2⟩ : ∃ A2, passL A r = A2 := ⟨_, rfl⟩
              rw [hA2] at KE hO3 HRp HPp
              have hbs3 : w.heap.size + 1 ≤ wp.heap.size := by omega
              have HX := Lib.hid bX
              have HS := Lib.hid hS
              have HG := Lib.hid hG
              have HO := Lib.hid hO3
              have HB := Lib.hid hbw
              clear x0 hO hbp hFp hAlp hIp hA2 KP hS bX hG hO3 hbw
              go_wp2_with (at_builtin; refine wpList_appSR rfl (.tmp 70) (.tmp 73) rfl (w.heap.size + 1) pz cz n _ _ _ ⟨rfl, rfl, rfl⟩ rfl rfl rfl HS.out (by omega) hbs3 ?_; intro p4 c4 w5 hS5 hg5 hf5; have hX5 := HX.out.heap hg5.size (hg5.block _ (by omega) (fun e => by have := (HS.out.lt _ e.symm).1; omega)); have x5 := hX5.cell 0 _ rfl)
              have hb5 : Below (w.heap.size + 1) wp w5 := (Below.refl _ _).grown hg5 hbs3 (fun k' e => (HS.out.lt k' e).1)
              have hO5 := HO.out.keptBy hg5 (fun k' e e2 => by simp [blk] at e; subst e; exact hne3.out e2)
              have hG5 := HG.out.heap (hg5.block Bg (by omega) (fun e => hpB.out e.symm))
              have hB5 := HB.out.trans (hb5.mono (by omega) : Below w.heap.size wp w5)
              refine (KE.out _ (Hx.out.below hB5 (Nat.le_refl _)) hO5.ints).mono ?_
              rintro e w6 ⟨rfl, hb6⟩
              have hne5 : Hid (blk p4 ≠ some g3) := fun e => by
                rcases hf5 _ e with h | h
                · exact hne3.out h
                · have := hg3.2; omega
              have hpB5 : Hid (blk p4 ≠ some Bg) := fun e => by
                rcases hf5 _ e with h | h
                · exact hpB.out h
                · omega
              have hO6 := hO5.below hb6 (Nat.le_refl _)
              have hS6 := hS5.below hb6 (Nat.le_refl _)
              have hG6 := hG5.below hb6 hG5.lt
              have hX6 := hX5.below hb6
              have hB6 := hB5.trans (hb6.mono hB5.size)
              have hth : w6.there Bg 0 (grL (envE v A2)).toArray.size := by
                have := hG6.there
                rw [grL_len] at this
                rw [show (grL (envE v A2)).toArray.size = 36 from grL_len _]; exact this
              have hgs : w6.grownBy (w6.setCells Bg 0 (grL (envE v A2))) (some Bg) := grown_setCells Bg _ _ _
              have hO7 := hO6.keptBy hgs (fun k' e e2 => by simp [blk] at e; subst e; cases e2; exact hg3B.out rfl)
              have hS7 := hS6.kept hgs (fun k' e e2 => by cases e2; exact hpB5.out e)
              have hG7 := hG6.setAll (vs' := grL (envE v A2)) (by rw [grL_len, grL_len])
              have hX7 := hX6.heap hgs.size (hgs.block _ hX6.lt (fun e => by cases e; omega))
              have hB7 := below_setCells (S := Bg) (by omega) (grL (envE v A2)) 0 _ hB6
              clear hO6 hS6 hG6 hX6 hB6 hO5 hS5 hG5 hX5 hB5 hb5 hb6 x5 hgs KE KF
              go_wp2_with ((with_reducible show wpList _ _ _ (⟨none, .store 66 _ _, _, _, _, _⟩ :: _) _ _); go_must (refine wpList_store_mid rfl 66 (.tmp 12) (.tmp 77) rfl Bg 0 (grL (envE v A2)).toArray (by simp [Act.eval, Act.put]) (by simp [Act.eval, Act.put]) hth (infoG (envE v A2)) (grL_one (envE v A2)) ?_))
              simp only [Act.put]
              go_roundw
              case rel => exact ⟨A2, g3, c3, p4, n + 1, c4, rfl, rfl, hO7, hS7, hne5, hg3B, hpB5, HRp, HPp, hX7, hB7, hG7⟩
              case measure => (simp [sLen] <;> omega)
            · have hd : decide (z < 0) = false := by rw [decide_eq_false_iff_not]; exact hz0
              have Hz := Lib.hid hz
              have hz00 : 0 ≤ z := by omega
              have hRg : RunTo v (o.take (k + 1)) (A.set x z) := by
                rw [take_igetR hlt, Hx0.out]
                have := RunTo.give (g := ((x : Nat) : Int)) hR.out hz hz00
                rwa [Int.toNat_natCast] at this
              have HRg := Lib.hid hRg
              have hz6 : in64 z := by
                obtain ⟨y, rfl, hy, _⟩ := hz.unenv hv6 hz00
                exact ⟨by omega, by omega⟩
              have hfree : iget A x = -1 := by
                have h1 := HIk.out.got x (by rw [Hm.out]; exact hxm)
                have h2 := HIk.out.ok.2 x (by rw [Alen.out]; exact hxm)
                have h3 : ¬ ((x : Nat) : Int) ∈ o.take k := fun hm => by
                  have hT := ordT_take (k := k + 1) (ordT_of Hord.out)
                  rw [take_igetR hlt, Hx0.out] at hT
                  obtain ⟨j, hj, e⟩ := List.getElem_of_mem hm
                  have := hT.2 j (o.take k).length hj (by rw [List.length_append]; simp)
                  rw [iget_append, if_pos hj, iget_append, if_neg (by omega), Nat.sub_self, show iget [((x : Nat) : Int)] 0 = (x : Int) from rfl, iget_of hj] at this
                  exact this e
                have h4 : ¬ 0 ≤ iget A x := fun e => h3 (h1.1 e)
                omega
              have HPg := Lib.hid (show ((n + 1 : Nat) : Int) ≤ ((k + 1 : Nat) : Int) + pot v (A.set x z) by
                have h1 := hPn.out
                have h2 := pot_give (y := z) Hg.out HIk.out.ok (by rw [Alen.out]; exact hxm) hfree
                omega)
              clear hz hRg hfree hz0
              go_wp2_with ((with_reducible show wpList _ _ _ (⟨some 80, _, _, _, _, _⟩ :: _) _ _); go_must (refine wpList_load_mid rfl 66 (.tmp 12) rfl Bg 0 (by simp [Act.eval, Act.put]) (grL (envE v A)) _ hgr Tryz.underlying66 rfl (infoG (envE v A)) ?_))
              refine (KF.out _).mono ?_
              rintro e wg ⟨z', rfl, hz', hb⟩
              obtain rfl : z' = z := hz'.uniq Hz.out
              clear x0 hz' hgr
              replace hO := hO.below hb (Nat.le_refl _)
              replace hS := hS.below hb (Nat.le_refl _)
              replace bX := bX.below hb
              replace hbw := hbw.trans (hb.mono hbw.size)
              clear hb hG
              obtain ⟨hgw2, hgl2, hcA, hfA⟩ := own_cell hO (j := x) (by rw [Alen.out]; exact hxm)
              have HO := Lib.hid hO
              have HS := Lib.hid hS
              have HX := Lib.hid bX
              have HBw := Lib.hid hbw
              obtain ⟨W6, hW6⟩ : ∃ W6, wg.setCell ⟨g, x, none⟩ (.int .i64 z') = W6 := ⟨_, rfl⟩
              have hO6 := (HO.out.set x hz6).1
              have hgr6 := (HO.out.set x hz6).2
              have hS6 := HS.out.kept hgr6 (fun k' e e2 => by cases e2; exact hne.out e)
              have hX6 := HX.out.heap hgr6.size (heap_set_ne _ (g := g) (x := x) (u := .int .i64 z') (by omega))
              have hB6 := HBw.out.setCell (p := ⟨g, x, none⟩) (by simp only; omega) (.int .i64 z')
              have hs6 : W6.heap.size = _ := (congrArg (fun W => W.heap.size) hW6).symm.trans (size_set _)
              have hgl6 : g < W6.heap.size := by rw [hs6]; exact hgl2
              rw [hW6] at hO6 hS6 hX6 hB6
              obtain ⟨_, _, hcA6, _⟩ := own_cell hO6 (j := x) (by rw [List.length_set, Alen.out]; exact hxm)
              rw [iget_set (by rw [Alen.out]; exact hxm), if_pos rfl] at hcA6
              have HW6 := Lib.hid hW6
              rw [← hW6] at hcA6
              have HO6 := Lib.hid hO6
              have HS6 := Lib.hid hS6
              have HX6 := Lib.hid hX6
              have HB6 := Lib.hid hB6
              have hs7 : w.heap.size + 1 ≤ W6.heap.size := by have := hB6.size; have := (HX6.out).lt; omega
              have Hs6 := Lib.hid (show wg.heap.size = W6.heap.size from hs6.symm)
              clear hW6 hgr6 hO6 hS6 hX6 hB6 hs6 HO HS HX HBw hO hS bX hbw KF
              go_wp2_with (at_builtin; rw [HW6.out]; refine wpList_appSR rfl (.tmp 86) (.tmp 93) rfl (w.heap.size + 1) pz cz n _ _ _ ⟨rfl, rfl, rfl⟩ rfl rfl Hs6.out HS6.out (by omega) hs7 ?_; intro p3 c3 w7 hS7 hg7 hf7)
              go_roundw
              case rel =>
                have hzl := HS6.out.lt
                exact ⟨k + 1, by omega, by go_num, A.set x z', g, cA, p3, n + 1, c3, rfl, rfl, HO6.out.keptBy hg7 (fun k' e e2 => by cases e; exact hne.out e2), hS7,
                  (fun e => by
                    rcases hf7 g e with h | h
                    · exact hne.out h
                    · omega),
                  HRg, HPg, HX6.out.heap hg7.size (hg7.block _ (by omega) (fun e => by have := (hzl _ e.symm).1; omega)), below_grown HB6.out hg7 (by omega) hzl (by omega)⟩
              case measure => (simp [intOf] <;> omega)
        · have hk1 : ¬ (k : Int) < o.length := by omega
          obtain rfl : k = o.length := by omega
          have hI := HI.out _ A hR.out
          have hAl : Hid (A.length = m) := by unfold Hid; rw [hI.ok.1]; exact Hm.out
          rw [List.take_length] at hR
          clear hI
          go_wp2_with fail
          go_ret3
          exact ⟨_, cA, A, ⟨pz, n, cz, by rw [hAl.out]; rfl⟩, hO.lower (by omega), hR.out, hbw⟩
end Go.Proofs.YtmcncflieoolmaaGreat
