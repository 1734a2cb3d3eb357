/- The walk of adjust.Divide, for goods of two agents with the same points. -/
import Derived.Test.YtmcncflieoolmaaGreatTopTopGoodsm31
import Derived.Test.YtmcncflieoolmaaGreatTopTopGoodsm32
import Derived.Test.YtmcncflieoolmaaGreatTopTopGoodsm8
import Derived.Test.YtmcncflieoolmaaGreatTopTopGoodsm29
import Derived.Deep.CutRange
import Derived.RangeFuncBox
/- The walk of adjust.Divide, for goods of two agents with the same points. -/
namespace Go.Proofs.YtmcncflieoolmaaGreat
set_option linter.unusedVariables false
set_option linter.unusedSimpArgs false
open Go.ChangeShapes Go.WideShapes Go.ChangeAt Go.RowKit Go.Deep

/-- What Divide gives. -/
def DivIs (v : List (List Int)) (A : List Int) (s pn pd : Int) : Prop := ∃ L t, OrdS v L ∧ ((t ≤ L.length ∧ moreA v (mvA v L t) = 0 ∧ A = mvA v L t ∧ s = -1 ∧ pn = 0 ∧ pd = 1) ∨
  (t < L.length ∧ 0 < moreA v (mvA v L t) ∧ ∃ x P : Nat, iget (rget v (rcA v)) (iget L t).toNat + iget (rget v (1 - rcA v)) (iget L t).toNat = x ∧ moreA v (mvA v L t) < x ∧ (P : Int) = (if rcA v = 1 then moreA v (mvA v L t) else x - moreA v (mvA v L t)) ∧ A = (mvA v L t).set (iget L t).toNat 0 ∧ s = iget L t ∧ pn = rN (P : Int) x ∧ pd = rD (P : Int) x))
theorem divIs_ok {v : List (List Int)} {A : List Int} {s pn pd : Int} (hg : Gds v) (h2 : v.length = 2) (h : DivIs v A s pn pd) : DivOk v A s pn pd := by
  obtain ⟨L, t, hL, ⟨ht, hm, rfl, rfl, rfl, rfl⟩ | ⟨ht, hm, x, P, hx, hlt, hP, rfl, rfl, rfl, rfl⟩⟩ := h
  · exact div_stop hg h2 hL ht hm
  · exact div_split hg h2 hL ht hm hx hlt hP
/-- Between two rounds of the first loop. -/
structure DivA (v : List (List Int)) (w1 : World) (B : Nat) (k : Nat) (wr : World) : Prop where
  own : ∃ q d zs, Hid (zs = (owA v).take k) ∧ Hid (zs.length = k) ∧ Arr wr B [.slice q zs.length d, .int .i64 (-1), .int .i64 0, .int .i64 1] 52 ∧ Own wr (B + 2) q d zs
  has : Arr wr (B + 1) [.int .i64 (worthUp v (owA v) 0 0 k), .int .i64 (worthUp v (owA v) 1 1 k)] 88
  bel : Below B w1 wr
/-- The goods that the richer one may pass over, in their order. -/
def ordU (v : List (List Int)) (j : Nat) : List Int := ((List.range j).filter fun i => decide (iget (owA v) i = (rcA v : Int) ∧ 0 < iget (rget v (1 - rcA v)) i)).map fun (i : Nat) => (i : Int)
theorem ordU_yes {v : List (List Int)} {j : Nat} (h : iget (owA v) j = (rcA v : Int)) (h2 : 0 < iget (rget v (1 - rcA v)) j) : ordU v (j + 1) = ordU v j ++ [(j : Int)] := by
  unfold ordU
  rw [List.range_succ, List.filter_append, List.map_append]
  simp [h, h2]
theorem ordU_no {v : List (List Int)} {j : Nat} (h : ¬ (iget (owA v) j = (rcA v : Int) ∧ 0 < iget (rget v (1 - rcA v)) j)) : ordU v (j + 1) = ordU v j := by
  unfold ordU
  rw [List.range_succ, List.filter_append, List.map_append]
  simp
  intro h1
  exact Int.not_lt.1 fun h2 => h ⟨h1, h2⟩
theorem ordU_len (v : List (List Int)) (j : Nat) : (ordU v j).length ≤ j := by
  unfold ordU
  rw [List.length_map]
  exact Nat.le_trans (List.length_filter_le _ _) (by simp)
theorem ordU_mem {v : List (List Int)} {j : Nat} {x : Int} : x ∈ ordU v j ↔ ∃ k : Nat, k < j ∧ iget (owA v) k = (rcA v : Int) ∧ 0 < iget (rget v (1 - rcA v)) k ∧ x = (k : Int) := by
  unfold ordU
  rw [List.mem_map]
  constructor
  · rintro ⟨k, hk, rfl⟩
    rw [List.mem_filter, List.mem_range, decide_eq_true_iff] at hk
    exact ⟨k, hk.1, hk.2.1, hk.2.2, rfl⟩
  · rintro ⟨k, h1, h2, h3, rfl⟩
    exact ⟨k, by rw [List.mem_filter, List.mem_range, decide_eq_true_iff]; exact ⟨h1, h2, h3⟩, rfl⟩
theorem ordU_nodup (v : List (List Int)) (j : Nat) : (ordU v j).Nodup := by
  unfold ordU
  refine List.Pairwise.map _ ?_ ((List.nodup_range (n := j)).filter _)
  intro a b h e
  exact h (by omega)
theorem ordS_of {v : List (List Int)} {M : List Int} (hp : M.Perm (ordU v (wid v))) (hs : SrtI (rget v (rcA v)) (rget v (1 - rcA v)) M M.length) : OrdS v M := by
  have hget : ∀ s (h : s < M.length), iget M s = M[s] := fun s h => by simp [iget, List.getD, h]
  have hm : ∀ s, s < M.length → iget M s ∈ ordU v (wid v) := fun s h => by
    rw [hget s h]; exact hp.mem_iff.1 (List.getElem_mem h)
  have hn : M.Nodup := hp.nodup_iff.2 (ordU_nodup v _)
  refine ⟨fun s h => ?_, fun k hk h1 h2 => ?_, fun s t h1 h2 e => ?_, fun s h => ?_⟩
  · obtain ⟨k, h1, h2, h3, h4⟩ := ordU_mem.1 (hm s h)
    rw [h4, Int.toNat_natCast]
    exact ⟨by omega, by omega, h2, h3⟩
  · have : (k : Int) ∈ M := hp.mem_iff.2 (ordU_mem.2 ⟨k, hk, h1, h2, rfl⟩)
    obtain ⟨s, hs, e⟩ := List.mem_iff_getElem.1 this
    exact ⟨s, hs, by rw [hget s hs]; exact e⟩
  · rw [hget s h1, hget t h2] at e
    have hw := List.pairwise_iff_getElem.1 hn
    rcases Nat.lt_trichotomy s t with h | h | h
    · exact absurd e (hw s t h1 h2 h)
    · exact h
    · exact absurd e.symm (hw t s h2 h1 h)
  · have h1 := hs s h
    unfold cmpA cmp3 at h1
    split at h1
    · omega
    · omega
theorem twoOne (w : World) (x y : Value) (t : TypeId) : OneV ((w.alloc (.cells #[x] t)).alloc (.cells #[y] t)).drew w.heap.size x t ∧ OneV ((w.alloc (.cells #[x] t)).alloc (.cells #[y] t)).drew (w.heap.size + 1) y t ∧ Below w.heap.size w ((w.alloc (.cells #[x] t)).alloc (.cells #[y] t)).drew := by
  have h1 : OneV (w.alloc (.cells #[x] t)) w.heap.size x t := OneV.new rfl rfl
  have h2 : OneV ((w.alloc (.cells #[x] t)).alloc (.cells #[y] t)) (w.heap.size + 1) y t := OneV.new (by simp) rfl
  have b1 : Below w.heap.size w (w.alloc (.cells #[x] t)) := below_alloc rfl
  have b2 : Below (w.alloc (.cells #[x] t)).heap.size (w.alloc (.cells #[x] t)) ((w.alloc (.cells #[x] t)).alloc (.cells #[y] t)) := below_alloc rfl
  have b3 : Below ((w.alloc (.cells #[x] t)).alloc (.cells #[y] t)).heap.size ((w.alloc (.cells #[x] t)).alloc (.cells #[y] t)) ((w.alloc (.cells #[x] t)).alloc (.cells #[y] t)).drew := below_drewN _ _ 1
  exact ⟨(h1.below b2 h1.lt).below b3 (Nat.lt_of_lt_of_le h1.lt b2.size), h2.below b3 h2.lt, (b1.trans (b2.mono b1.size)).trans (b3.mono (Nat.le_trans b1.size b2.size))⟩
theorem grownBy_setCellA (W : World) (b j : Nat) (v : Value) : W.grownBy (W.setCell ⟨b, j, none⟩ v) (some b) :=
  ⟨rfl, rfl, rfl, by simp, fun k _ hne => Below.heap_setCell W ⟨b, j, none⟩ v k (fun e => hne (by rw [e]))⟩
def hasL (v : List (List Int)) (A : List Int) : List Value := [.int .i64 (worth v A 0 0), .int .i64 (worth v A 1 1)]
theorem hasL_get {v : List (List Int)} {A : List Int} {r : Nat} (h : r ≤ 1) : (hasL v A)[r]? = some (.int .i64 (worth v A r (r : Int))) := by
  rcases (show r = 0 ∨ r = 1 by omega) with e | e <;> subst e <;> rfl
theorem hasL_set {v : List (List Int)} {A A' : List Int} {r r' : Nat} (h : r + r' = 1) : ((hasL v A).set r (.int .i64 (worth v A' r (r : Int)))).set r' (.int .i64 (worth v A' r' (r' : Int))) = hasL v A' := by
  rcases (show (r = 0 ∧ r' = 1) ∨ (r = 1 ∧ r' = 0) by omega) with ⟨e, e2⟩ | ⟨e, e2⟩ <;> subst e <;> subst e2 <;> rfl
theorem moreA_eq {v : List (List Int)} {A : List Int} {r r' : Nat} (er : rcA v = r) (er' : 1 - rcA v = r') (h : r + r' = 1) : moreA v A = worth v A r (r : Int) - worth v A r' (r' : Int) := by
  unfold moreA
  rw [er', er, show (1 : Int) - (r : Int) = (r' : Int) by omega]
/-- Between two rounds of the third loop. -/
structure DivT (v : List (List Int)) (M : List Int) (w1 : World) (B E S T : Nat) (q : Option Addr) (d n : Nat) (vS vT : Value) (q2 : Option Addr) (d2 : Nat) (i : Nat) (wr : World) : Prop where
  own : Own wr (B + 2) q d (mvA v M i)
  pts : Arr wr B [.slice q n d, .int .i64 (-1), .int .i64 0, .int .i64 1] 52
  has : Arr wr (B + 1) (hasL v (mvA v M i)) 88
  oS : OneV wr S vS 25
  oT : OneV wr T vT 25
  ord : Own wr E q2 d2 M
  bel : Below B w1 wr
  more : 0 ≤ moreA v (mvA v M i)
theorem DivT.drewN {v : List (List Int)} {M : List Int} {w1 : World} {B E S T : Nat} {q : Option Addr} {d n : Nat} {vS vT : Value} {q2 : Option Addr} {d2 i : Nat} {wr : World} (h : DivT v M w1 B E S T q d n vS vT q2 d2 i wr) (m : Nat) : DivT v M w1 B E S T q d n vS vT q2 d2 i (wr.drewN m) :=
  ⟨h.own.drewN m, h.pts.drewN, h.has.drewN, h.oS.below (below_drewN wr.heap.size wr m) h.oS.lt, h.oT.below (below_drewN wr.heap.size wr m) h.oT.lt, h.ord.drewN m, h.bel.drewP ⟨m, rfl⟩, h.more⟩
/-- What Divide answers. -/
def PostD (v : List (List Int)) (w : World) (e : Ending) (w' : World) : Prop := ∃ q d A n s pn pd, e = .returned (.tuple #[.agg #[.slice q n d, .int .i64 s, .int .i64 pn, .int .i64 pd], .int .i64 0]) ∧ A.length = n ∧ DivIs v A s pn pd ∧ Ints w' q d A ∧ Below w.heap.size w w'
theorem grown_setCellsA (S : Nat) : ∀ (vs : List Value) (o : Nat) (w : World), w.grownBy (w.setCells S o vs) (some S)
  | [], _, w => ⟨rfl, rfl, rfl, Nat.le_refl _, fun _ _ _ => rfl⟩
  | v :: r, o, w => grown_trans (grownBy_setCellA w S o v) (grown_setCellsA S r (o + 1) (w.setCell ⟨S, o, none⟩ v))
set_option maxHeartbeats 4000000 in
set_option maxRecDepth 100000 in
theorem divide_walk (p : Option Addr) (c : Nat) (v : List (List Int)) (w : World) (hx : Mat w p c v) (hg : Gds v) (h2 : v.length = 2) (hall : allG v 0 = allG v 1) (hnz : allG v 0 ≠ 0) (Q : Ending → World → Prop) (HQ : Hid (∀ e w', PostD v w e w' → Q e w')) :
    Calls Tryz.prog 21 #[.agg #[.slice p v.length c]] w Q := by
  obtain ⟨W0, hW0⟩ : ∃ W0, w.alloc (.cells #[.slice p v.length c] 24) = W0 := ⟨_, rfl⟩
  have hB : Below w.heap.size w W0 := below_alloc hW0
  have bX : BoxV W0 w.heap.size [.slice p v.length c] := BoxV.new rfl hW0
  have hS : W0.heap.size = w.heap.size + 1 := by rw [← hW0]; simp
  obtain ⟨W1, hW1⟩ : ∃ W1, W0.alloc (.cells #[.slice none 0 0, .int .i64 0, .int .i64 0, .int .i64 0] 52) = W1 := ⟨_, rfl⟩
  have hB1 : Below W0.heap.size W0 W1 := below_alloc hW1
  have aR : Arr W1 (w.heap.size + 1) [.slice none 0 0, .int .i64 0, .int .i64 0, .int .i64 0] 52 := Arr.new hS hW1
  have bX := bX.below hB1
  have hBw : Below w.heap.size w W1 := hB.trans (hB1.mono hB.size)
  have hx := hx.below hBw (Nat.le_refl _)
  have HC := Lib.hid (adjCheck_any p c v W1 hx hg h2 hall hnz)
  have hS1 : W1.heap.size = w.heap.size + 1 + 1 := by rw [← hW1]; simp [hS]
  have HX := Lib.hid hx
  have Hg := Lib.hid hg
  have H2 := Lib.hid h2
  have Hall := Lib.hid hall
  have HW0 := Lib.hid hW0
  have HW1 := Lib.hid hW1
  have HaR := Lib.hid aR
  have HS1 := Lib.hid hS1
  clear hW0 hW1 hx h2 hall hnz hg hS hS1 aR
  go_enter Tryz.func21, Tryz.ntmps21
  go_wp2_with fail
  rw [HW0.out, HW1.out]
  refine HC.out.mono ?_
  rintro e w1 ⟨rfl, hb1⟩
  obtain ⟨B, eB⟩ : ∃ B, w1.heap.size = B := ⟨_, rfl⟩
  have hBl : W1.heap.size ≤ B := by rw [← eB]; exact hb1.size
  have HeB := Lib.hid eB
  clear HC
  go_upto_region 6 with (fail)
  obtain ⟨w2, hw2⟩ : ∃ W, (w1.alloc (.cells #[.slice none 0 0, .int .i64 (-1), .int .i64 0, .int .i64 1] 52)).alloc (.cells #[.int .i64 0, .int .i64 0] 88) = W := ⟨_, rfl⟩
  have st : DivA v w1 B 0 w2 := by
    have h1 := Arr.new (w := w1) (vs := [.slice none 0 0, .int .i64 (-1), .int .i64 0, .int .i64 1]) (t := 52) eB rfl
    have hs1 : (w1.alloc (.cells #[.slice none 0 0, .int .i64 (-1), .int .i64 0, .int .i64 1] 52)).heap.size = B + 1 := by simp [eB]
    have h2 := Arr.new (vs := [.int .i64 0, .int .i64 0]) (t := 88) hs1 hw2
    have hb2 := below_alloc hw2
    refine ⟨⟨none, 0, [], rfl, rfl, h1.below hb2 h1.lt, Own.ofNil _ _⟩, h2, ?_⟩
    rw [← eB]
    exact (below_alloc rfl).trans (hb2.mono (by simp))
  have hb2 : Below W1.heap.size W1 w2 := hb1.trans (st.bel.mono hBl)
  have HST := Lib.hid st
  have HBl := Lib.hid hBl
  rw [hw2]
  obtain ⟨b, o, rfl, hbl, q0, d0, hc03, hi0⟩ := HX.out.get (j := 0) (by rw [H2.out]; omega)
  obtain ⟨b', o', e', _, q1, d1, hc13, hi1⟩ := HX.out.get (j := 1) (by rw [H2.out]; omega)
  cases e'
  rw [Nat.add_zero] at hc03
  have x0 := (bX.below hb2).cell 0 _ rfl
  have hc0 := (hb2.cell (p := ⟨b, o, none⟩) hbl).trans hc03
  have lv0 : (0 : Int) < v.length := by rw [H2.out]; omega
  have lv1 : (1 : Int) < v.length := by rw [H2.out]; omega
  have lv0n : 0 < v.length := by rw [H2.out]; omega
  have lv1n : 1 < v.length := by rw [H2.out]; omega
  have L3 := HX.out.length_le
  have hv0 := Hg.out.2.2.2 0 (by rw [H2.out]; omega)
  have hv1 := Hg.out.2.2.2 1 (by rw [H2.out]; omega)
  obtain ⟨n, en⟩ : ∃ n, wid v = n := ⟨_, rfl⟩
  have e0 : (rget v 0).length = n := hv0.1.trans en
  have e1 : (rget v 1).length = n := hv1.1.trans en
  have hn10 : n ≤ 10 := by rw [← en]; exact Hg.out.2.2.1
  have V0 := Lib.hid (fun k (hk : k < n) => hv0.2 k (by rw [e0]; exact hk))
  have V1 := Lib.hid (fun k (hk : k < n) => hv1.2 k (by rw [e1]; exact hk))
  have HI0 := Lib.hid hi0
  have HI1 := Lib.hid hi1
  have En := Lib.hid en
  have E0 := Lib.hid e0
  have E1 := Lib.hid e1
  have HC13 := Lib.hid hc13
  have HC03 := Lib.hid hc03
  have Hbl := Lib.hid hbl
  rw [e0] at hc0
  clear hw2 st hv0 hv1 hi0 hi1 en e0 e1 hc13 hc03 hbl hBl eB hb2
  go_wp2_with fail
  go_loopw [34] (fun t wr => ∃ k : Nat, k ≤ n ∧ t = .int .i64 (k : Int) ∧ DivA v w1 B k wr) (fun t _ => n - (intOf t).toNat)
  case atStart => exact ⟨0, Nat.zero_le _, rfl, HST.out⟩
  case round =>
    obtain ⟨k, hk, rfl, hst⟩ := hrel
    by_cases hlt : k < n
    · have hk1 : (k : Int) < (n : Int) := by omega
      have hb3 : Below W1.heap.size W1 wr := hb1.trans (hst.bel.mono HBl.out)
      clear x0 hc0
      have x0 := (bX.below hb3).cell 0 _ rfl
      have hc0 := (hb3.cell (p := ⟨b, o, none⟩) Hbl.out).trans HC03.out
      have hc1 := (hb3.cell (p := ⟨b, o + 1, none⟩) Hbl.out).trans HC13.out
      rw [E0.out] at hc0
      rw [E1.out] at hc1
      obtain ⟨b0, o0, rfl, hb0l, he03⟩ := HI0.out.get (j := k) (by rw [E0.out]; exact hlt)
      obtain ⟨b1, o1, rfl, hb1l, he13⟩ := HI1.out.get (j := k) (by rw [E1.out]; exact hlt)
      have he0 := (hb3.cell (p := ⟨b0, o0 + k, none⟩) hb0l).trans he03
      have he1 := (hb3.cell (p := ⟨b1, o1 + k, none⟩) hb1l).trans he13
      have r0 := V0.out k hlt
      have r1 := V1.out k hlt
      have L1 := HI0.out.length_le
      have L2 := HI1.out.length_le
      rw [E0.out] at L1
      rw [E1.out] at L2
      obtain ⟨q, d, zs, hz, hzl, hA, hO⟩ := hst.own
      have hH := hst.has
      have s0 := hH.cell (j := 0) rfl
      have s1 := hH.cell (j := 1) rfl
      have hw0 := worthUp_in Hg.out (i := 0) (by rw [H2.out]; omega) (0 : Int) k (by have := En.out; omega) (a := owA v)
      have hw1 := worthUp_in Hg.out (i := 1) (by rw [H2.out]; omega) (1 : Int) k (by have := En.out; omega) (a := owA v)
      have ok := owA_get (v := v) (j := k) (by have := En.out; omega)
      have p0 := hA.cell (j := 0) rfl
      have pf0 := hA.free 0
      have T1 : Hid ((owA v).take (k + 1) = (owA v).take k ++ [iget (owA v) k]) := take_iget (by rw [owA_len]; have := En.out; omega)
      have U0 : Hid (worthUp v (owA v) 0 0 (k + 1) = worthUp v (owA v) 0 0 k + (if iget (owA v) k = 0 then iget (rget v 0) k else 0)) := rfl
      have U1 : Hid (worthUp v (owA v) 1 1 (k + 1) = worthUp v (owA v) 1 1 k + (if iget (owA v) k = 1 then iget (rget v 1) k else 0)) := rfl
      obtain ⟨h0, e0⟩ : ∃ y, worthUp v (owA v) 0 0 k = y := ⟨_, rfl⟩
      obtain ⟨h1, e1⟩ : ∃ y, worthUp v (owA v) 1 1 k = y := ⟨_, rfl⟩
      obtain ⟨X, eX⟩ : ∃ y, iget (rget v 0) k = y := ⟨_, rfl⟩
      obtain ⟨Y, eY⟩ : ∃ y, iget (rget v 1) k = y := ⟨_, rfl⟩
      rw [e0] at hH s0 hw0 U0
      rw [e1] at hH s1 hw1 U1
      rw [eX] at r0 he0 he03 ok U0
      rw [eY] at r1 he1 he13 ok U1
      have HH := Lib.hid hH
      have HA := Lib.hid hA
      have HO := Lib.hid hO
      have Hst := Lib.hid hst.bel
      have HE03 := Lib.hid he03
      have HE13 := Lib.hid he13
      have HB0l := Lib.hid hb0l
      have HB1l := Lib.hid hb1l
      have hzl9 : zs.length ≤ 900000 := by rw [hzl.out]; omega
      have hb2w : B + 2 ≤ wr.heap.size := hH.lt
      have hBlt : B < wr.heap.size := by omega
      clear e0 e1 eX eY hH hA hO hst he03 he13 hb0l hb1l
      by_cases hlt2 : X < Y
      · rw [if_pos hlt2] at ok
        have hd : decide (X < Y) = true := by rw [decide_eq_true_iff]; exact hlt2
        have Ok := Lib.hid ok
        clear ok
        have i1 : in64 (1 : Int) := ⟨by decide, by decide⟩
        have u1 : IntKind.i64.wrap (h1 + Y) = h1 + Y := IntWalk.i64_in _ (by omega)
        go_wp2_with (at_builtin; refine wpList_app1 rfl (.tmp 49) (.tmp 51) rfl (B + 2) _ _ zs 1 rfl rfl rfl HO.out i1 hzl9 hb2w ?_; intro q3 d3 w3 zs3 hz3 hO3 hg3 hf3; have hA3 := HA.out.heap (hg3.block B hBlt (fun e => by first | (have := (HO.out.lt B e).1; omega) | (have := (HO.out.lt B e.symm).1; omega))); have p3 := hA3.cell (j := 0) rfl; have pf3 := hA3.free 0)
        obtain ⟨w4, hw4⟩ : ∃ W, w3.setCell ⟨B, 0, none⟩ (.slice q3 zs3.length d3) = W := ⟨_, rfl⟩
        have hA4 : Arr w4 B [.slice q3 zs3.length d3, .int .i64 (-1), .int .i64 0, .int .i64 1] 52 := by rw [← hw4]; exact hA3.set (j := 0)
        have hH4 : Arr w4 (B + 1) [.int .i64 h0, .int .i64 h1] 88 := by rw [← hw4]; exact (HH.out.heap (hg3.block (B + 1) HH.out.lt (fun e => by first | (have := (HO.out.lt (B + 1) e).1; omega) | (have := (HO.out.lt (B + 1) e.symm).1; omega)))).other (by omega)
        have hO4 : Own w4 (B + 2) q3 d3 zs3 := by
          rw [← hw4]
          exact hO3.keptBy (grownBy_setCell' w3 B _) (fun k hk e => by have := (hO3.lt k hk).1; cases e; omega)
        have hB4 : Below B w1 w4 := by
          rw [← hw4]
          exact (below_grown Hst.out hg3 (by omega) HO.out.lt (by omega)).setCell (p := ⟨B, 0, none⟩) (Nat.le_refl _) _
        rw [hw4]
        have hb4 : Below W1.heap.size W1 w4 := hb1.trans (hB4.mono HBl.out)
        clear hw4 p3 pf3 hA3 x0 hc0 hc1 he0 he1 s0 s1 p0 pf0
        have x0 := (bX.below hb4).cell 0 _ rfl
        have hc1 := (hb4.cell (p := ⟨b, o + 1, none⟩) Hbl.out).trans HC13.out
        rw [E1.out] at hc1
        have he1 := (hb4.cell (p := ⟨b1, o1 + k, none⟩) HB1l.out).trans HE13.out
        have s0 := hH4.cell (j := 0) rfl
        have s1 := hH4.cell (j := 1) rfl
        have sf0 := hH4.free 0
        have sf1 := hH4.free 1
        have HH4 := Lib.hid hH4
        have HA4 := Lib.hid hA4
        have HO4 := Lib.hid hO4
        have HB4 := Lib.hid hB4
        have Hz3 : Hid (zs3 = (owA v).take (k + 1) ∧ zs3.length = k + 1) := by
          have e := hz3.out
          rw [T1.out, ← hz.out, Ok.out]
          exact ⟨e, by rw [e, List.length_append, hzl.out]; rfl⟩
        clear hH4 hA4 hO4 hB4 hb4 hO3 hz3
        go_wp2_with fail
        go_still_tail 13, (by kernel_rfl)
        go_wp2_with fail
        go_roundw
        case rel =>
          refine ⟨k + 1, by omega, by go_num, ⟨q3, d3, zs3, Hz3.out.1, Hz3.out.2, (HA4.out.other (by omega)).drew1, (HO4.out.keptBy (grownBy_setCellA _ (B + 1) 1 _) (fun k hk e => by have := (HO4.out.lt k hk).1; cases e; omega)).drew1⟩, ?_, (HB4.out.setCell (p := ⟨B + 1, 1, none⟩) (by simp) _).drew⟩
          rw [U0.out, U1.out, Ok.out, if_neg (by omega : ¬ (1 : Int) = 0), if_pos (rfl : (1 : Int) = 1), Int.add_zero]
          exact (HH4.out.set (j := 1)).drew1
        case measure => simp [intOf]; omega
      · rw [if_neg hlt2] at ok
        have hd : decide (X < Y) = false := by rw [decide_eq_false_iff_not]; exact hlt2
        have Ok := Lib.hid ok
        clear ok
        have i1 : in64 (0 : Int) := ⟨by decide, by decide⟩
        have u1 : IntKind.i64.wrap (h0 + X) = h0 + X := IntWalk.i64_in _ (by omega)
        go_wp2_with (at_builtin; refine wpList_app1 rfl (.tmp 49) (.tmp 51) rfl (B + 2) _ _ zs 0 rfl rfl rfl HO.out i1 hzl9 hb2w ?_; intro q3 d3 w3 zs3 hz3 hO3 hg3 hf3; have hA3 := HA.out.heap (hg3.block B hBlt (fun e => by first | (have := (HO.out.lt B e).1; omega) | (have := (HO.out.lt B e.symm).1; omega))); have p3 := hA3.cell (j := 0) rfl; have pf3 := hA3.free 0)
        obtain ⟨w4, hw4⟩ : ∃ W, w3.setCell ⟨B, 0, none⟩ (.slice q3 zs3.length d3) = W := ⟨_, rfl⟩
        have hA4 : Arr w4 B [.slice q3 zs3.length d3, .int .i64 (-1), .int .i64 0, .int .i64 1] 52 := by rw [← hw4]; exact hA3.set (j := 0)
        have hH4 : Arr w4 (B + 1) [.int .i64 h0, .int .i64 h1] 88 := by rw [← hw4]; exact (HH.out.heap (hg3.block (B + 1) HH.out.lt (fun e => by first | (have := (HO.out.lt (B + 1) e).1; omega) | (have := (HO.out.lt (B + 1) e.symm).1; omega)))).other (by omega)
        have hO4 : Own w4 (B + 2) q3 d3 zs3 := by
          rw [← hw4]
          exact hO3.keptBy (grownBy_setCell' w3 B _) (fun k hk e => by have := (hO3.lt k hk).1; cases e; omega)
        have hB4 : Below B w1 w4 := by
          rw [← hw4]
          exact (below_grown Hst.out hg3 (by omega) HO.out.lt (by omega)).setCell (p := ⟨B, 0, none⟩) (Nat.le_refl _) _
        rw [hw4]
        have hb4 : Below W1.heap.size W1 w4 := hb1.trans (hB4.mono HBl.out)
        clear hw4 p3 pf3 hA3 x0 hc0 hc1 he0 he1 s0 s1 p0 pf0
        have x0 := (bX.below hb4).cell 0 _ rfl
        have hc0 := (hb4.cell (p := ⟨b, o, none⟩) Hbl.out).trans HC03.out
        rw [E0.out] at hc0
        have he0 := (hb4.cell (p := ⟨b0, o0 + k, none⟩) HB0l.out).trans HE03.out
        have s0 := hH4.cell (j := 0) rfl
        have s1 := hH4.cell (j := 1) rfl
        have sf0 := hH4.free 0
        have sf1 := hH4.free 1
        have HH4 := Lib.hid hH4
        have HA4 := Lib.hid hA4
        have HO4 := Lib.hid hO4
        have HB4 := Lib.hid hB4
        have Hz3 : Hid (zs3 = (owA v).take (k + 1) ∧ zs3.length = k + 1) := by
          have e := hz3.out
          rw [T1.out, ← hz.out, Ok.out]
          exact ⟨e, by rw [e, List.length_append, hzl.out]; rfl⟩
        clear hH4 hA4 hO4 hB4 hb4 hO3 hz3
        go_wp2_with fail
        go_still_tail 13, (by kernel_rfl)
        go_wp2_with fail
        go_roundw
        case rel =>
          refine ⟨k + 1, by omega, by go_num, ⟨q3, d3, zs3, Hz3.out.1, Hz3.out.2, (HA4.out.other (by omega)).drew1, (HO4.out.keptBy (grownBy_setCellA _ (B + 1) 0 _) (fun k hk e => by have := (HO4.out.lt k hk).1; cases e; omega)).drew1⟩, ?_, (HB4.out.setCell (p := ⟨B + 1, 0, none⟩) (by simp) _).drew⟩
          rw [U0.out, U1.out, Ok.out, if_pos (rfl : (0 : Int) = 0), if_neg (by omega : ¬ (0 : Int) = 1), Int.add_zero]
          exact (HH4.out.set (j := 0)).drew1
        case measure => simp [intOf]; omega
    · have hk1 : ¬ (k : Int) < (n : Int) := by omega
      obtain rfl : k = n := by omega
      have hb3 : Below W1.heap.size W1 wr := hb1.trans (hst.bel.mono HBl.out)
      clear x0 hc0
      have x0 := (bX.below hb3).cell 0 _ rfl
      have hc0 := (hb3.cell (p := ⟨b, o, none⟩) Hbl.out).trans HC03.out
      have hc1 := (hb3.cell (p := ⟨b, o + 1, none⟩) Hbl.out).trans HC13.out
      rw [E0.out] at hc0
      rw [E1.out] at hc1
      obtain ⟨q, d, zs, hz, hzl, hA, hO⟩ := hst.own
      have hH := hst.has
      have s0 := hH.cell (j := 0) rfl
      have s1 := hH.cell (j := 1) rfl
      have hzz : zs = owA v := by
        rw [hz.out]
        exact List.take_of_length_le (by rw [owA_len, En.out]; exact Nat.le_refl _)
      have hw0 : worthUp v (owA v) 0 0 k = worth v (owA v) 0 0 := by unfold worth; rw [owA_len, En.out]
      have hw1 : worthUp v (owA v) 1 1 k = worth v (owA v) 1 1 := by unfold worth; rw [owA_len, En.out]
      rw [hw0] at s0 hH
      rw [hw1] at s1 hH
      have hrc : rcA v = if worth v (owA v) 0 0 < worth v (owA v) 1 1 then 1 else 0 := rfl
      have HH := Lib.hid hH
      have HA := Lib.hid hA
      have HO := Lib.hid hO
      have Hst := Lib.hid hst.bel
      have Hzz := Lib.hid hzz
      have Hrc := Lib.hid hrc
      clear hw0 hw1 hH hA hO hst hzz hrc
      go_upto_if 72 with (fail)
      go_cut [10] (fun s10 wx => s10 = .int .i64 (rcA v : Int) ∧ wx = wr)
      case first =>
        by_cases hlt : worth v (owA v) 0 0 < worth v (owA v) 1 1
        · have hd : decide (worth v (owA v) 0 0 < worth v (owA v) 1 1) = true := by rw [decide_eq_true_iff]; exact hlt
          have Hlt : Hid (rcA v = 1) := by rw [Hid, Hrc.out, if_pos hlt]
          go_wp2_with fail
          go_meet
          exact ⟨by rw [Hlt.out]; rfl, rfl⟩
        · have hd : decide (worth v (owA v) 0 0 < worth v (owA v) 1 1) = false := by rw [decide_eq_false_iff_not]; exact hlt
          have Hlt : Hid (rcA v = 0) := by rw [Hid, Hrc.out, if_neg hlt]
          go_wp2_with fail
          go_meet
          exact ⟨by rw [Hlt.out]; rfl, rfl⟩
      case rest =>
        obtain ⟨rfl, hw⟩ := hcut
        replace hw := hw.symm
        subst hw
        have hrr : rcA v ≤ 1 := by rcases rcA_two v with e | e <;> omega
        obtain ⟨r, er⟩ : ∃ r, rcA v = r := ⟨_, rfl⟩
        obtain ⟨r', er'⟩ : ∃ r', 1 - rcA v = r' := ⟨_, rfl⟩
        have hrs : r + r' = 1 := by omega
        have Er := Lib.hid er
        have Er' := Lib.hid er'
        have hw1r : IntKind.i64.wrap (1 - (r : Int)) = (r' : Int) := by rw [show (1 : Int) - (r : Int) = (r' : Int) by omega]; exact IntWalk.i64_in _ (by omega)
        have R0 : (r : Int) < v.length := by rw [H2.out]; omega
        have R1 : (r' : Int) < v.length := by rw [H2.out]; omega
        rw [er]
        -- the two rows, by number
        have hrow : ∃ qr dr qs ds, wr.cell? ⟨b, o + r, none⟩ = some (.slice qr k dr) ∧ wr.cell? ⟨b, o + r', none⟩ = some (.slice qs k ds) ∧ Hid (Ints W1 qr dr (rget v r) ∧ Ints W1 qs ds (rget v r')) := by
          rcases (show (r = 0 ∧ r' = 1) ∨ (r = 1 ∧ r' = 0) by omega) with ⟨e2, e3⟩ | ⟨e2, e3⟩
          · rw [e2, e3]; exact ⟨q0, d0, q1, d1, hc0, hc1, HI0.out, HI1.out⟩
          · rw [e2, e3]; exact ⟨q1, d1, q0, d0, hc1, hc0, HI1.out, HI0.out⟩
        obtain ⟨qr, dr, qs, ds, hcr, hcs, HI⟩ := hrow
        clear er er' hc0 hc1 hrr
        go_upto_region 18 with (fail)
        go_cut [11, 12] (fun s11 s12 wx => ∃ S T, s11 = .pointer (some ⟨S, 0, none⟩) ∧ s12 = .pointer (some ⟨T, 0, none⟩) ∧ OneV wx S (.slice qr k dr) 25 ∧ OneV wx T (.slice qs k ds) 25 ∧ S ≠ T ∧ wr.heap.size ≤ S ∧ wr.heap.size ≤ T ∧ Below wr.heap.size wr wx)
        case first =>
          have hlw : w.heap.size < wr.heap.size := (bX.below hb3).lt
          have hlb : b < wr.heap.size := Nat.lt_of_lt_of_le Hbl.out hb3.size
          go_region
          all_goals
            go_wp2_with fail
            go_meet
            first
              | exact ⟨_, _, rfl, rfl, (twoOne _ _ _ _).1, (twoOne _ _ _ _).2.1, by omega, by omega, by omega, (twoOne _ _ _ _).2.2⟩
              | exact ⟨_, _, rfl, rfl, (twoOne _ _ _ _).2.1, (twoOne _ _ _ _).1, by omega, by omega, by omega, (twoOne _ _ _ _).2.2⟩
        case rest =>
          obtain ⟨S, T, rfl, rfl, oS, oT, hST, hSl, hTl, hbc⟩ := hcut
          obtain ⟨E, eE⟩ : ∃ E, wc.heap.size = E := ⟨_, rfl⟩
          have hH3 := HH.out.below hbc HH.out.lt
          have hA3 := HA.out.below hbc HA.out.lt
          have hO3 := HO.out.below hbc (Nat.le_refl _)
          have hBwr : B + 2 ≤ wr.heap.size := HH.out.lt
          have hwrE : wr.heap.size ≤ E := by rw [← eE]; exact hbc.size
          have hB3 : Below B w1 wc := Hst.out.trans (hbc.mono (by omega))
          have hbW : Below W1.heap.size W1 wc := hb3.trans (hbc.mono hb3.size)
          have hkr : (rget v r).length = k := by
            rcases (show (r = 0 ∧ r' = 1) ∨ (r = 1 ∧ r' = 0) by omega) with ⟨e2, e3⟩ | ⟨e2, e3⟩
            · rw [e2]; exact E0.out
            · rw [e2]; exact E1.out
          have hks : (rget v r').length = k := by
            rcases (show (r = 0 ∧ r' = 1) ∨ (r = 1 ∧ r' = 0) by omega) with ⟨e2, e3⟩ | ⟨e2, e3⟩
            · rw [e3]; exact E1.out
            · rw [e3]; exact E0.out
          have Hkr := Lib.hid hkr
          have Hks := Lib.hid hks
          have Vr : Hid (∀ j, j < k → 0 ≤ iget (rget v r) j ∧ iget (rget v r) j ≤ 1000) := by
            rcases (show (r = 0 ∧ r' = 1) ∨ (r = 1 ∧ r' = 0) by omega) with ⟨e2, e3⟩ | ⟨e2, e3⟩
            · rw [e2]; exact V0.out
            · rw [e2]; exact V1.out
          have Vs : Hid (∀ j, j < k → 0 ≤ iget (rget v r') j ∧ iget (rget v r') j ≤ 1000) := by
            rcases (show (r = 0 ∧ r' = 1) ∨ (r = 1 ∧ r' = 0) by omega) with ⟨e2, e3⟩ | ⟨e2, e3⟩
            · rw [e3]; exact V1.out
            · rw [e3]; exact V0.out
          have p0 := hA3.cell (j := 0) rfl
          have HE := Lib.hid eE
          have hcW : Below E wc wc := Below.refl _ _
          have hSE : S < E := by rw [← eE]; exact oS.lt
          have hTE : T < E := by rw [← eE]; exact oT.lt
          have OS := Lib.hid oS
          have OT := Lib.hid oT
          have HH3 := Lib.hid hH3
          have HA3 := Lib.hid hA3
          have HO3 := Lib.hid hO3
          have HB3 := Lib.hid hB3
          have HbW := Lib.hid hbW
          have Hq0 : Hid (∀ kk, blk q = some kk → B + 2 ≤ kk ∧ kk ≠ S ∧ kk ≠ T ∧ kk < E) := fun kk h => by
            have := HO.out.lt kk h
            exact ⟨this.1, by omega, by omega, by omega⟩
          have hzl2 := Lib.hid hzl.out
          clear oS oT hH3 hA3 hO3 hB3 hbW hbc eE hkr hks hcr hcs x0 s0 s1 hb3
          go_upto_region 20 with (fail)
          go_wp2_with fail
          go_loopw [87, 13] (fun t s wr => ∃ j : Nat, j ≤ k ∧ t = .int .i64 (j : Int) ∧ ∃ q2 d2 zs2, s = .slice q2 zs2.length d2 ∧ Hid (zs2 = ordU v j) ∧ Own wr E q2 d2 zs2 ∧ Below E wc wr) (fun t _ _ => k - (intOf t).toNat)
          case atStart => exact ⟨0, Nat.zero_le _, rfl, none, 0, [], rfl, rfl, Own.ofNil _ _, Below.refl _ _⟩
          case round =>
            obtain ⟨j, hj, rfl, q2, d2, zs2, rfl, hz2, hO4, hB4⟩ := hrel
            have hb4 : Below W1.heap.size W1 wr := HbW.out.trans (hB4.mono (by rw [← HE.out]; exact HbW.out.size))
            by_cases hlt : j < k
            · have hk2 : (j : Int) < (k : Int) := by omega
              have hk3 : (j : Int) < (zs.length : Int) := by rw [hzl2.out]; exact hk2
              obtain ⟨gq, rfl, _, hg2, hc5, _⟩ := (HO3.out.below hB4 (by rw [HE.out]; exact Nat.le_refl _)).get (j := j) (by rw [hzl2.out]; exact hlt)
              obtain ⟨bs, os, rfl, hbs, hes⟩ := (HI.out.2.below hb4 (Nat.le_refl _)).get (j := j) (by rw [Hks.out]; exact hlt)
              have t0 := (OT.out.below hB4 hTE).cell
              have hsin := Vs.out j hlt
              have hzz2 : iget zs j = iget (owA v) j := by rw [Hzz.out]
              have Ys : Hid (iget (owA v) j = (r : Int) → 0 < iget (rget v r') j → ordU v (j + 1) = ordU v j ++ [(j : Int)]) := fun h1 h2 => ordU_yes (by rw [Er.out]; exact h1) (by rw [Er'.out]; exact h2)
              have Ns : Hid (¬ (iget (owA v) j = (r : Int) ∧ 0 < iget (rget v r') j) → ordU v (j + 1) = ordU v j) := fun h => ordU_no (by rw [Er'.out, Er.out]; exact h)
              rw [hzz2] at hc5
              obtain ⟨y1, ey1⟩ : ∃ y, iget (owA v) j = y := ⟨_, rfl⟩
              obtain ⟨y2, ey2⟩ : ∃ y, iget (rget v r') j = y := ⟨_, rfl⟩
              rw [ey1] at hc5 Ys Ns
              rw [ey2] at hes Ys Ns
              have hzl4 : zs2.length ≤ 900000 := by rw [hz2.out]; have := ordU_len v j; omega
              have hsz : E ≤ wr.heap.size := by have := hB4.size; rw [HE.out] at this; exact this
              have ij : in64 (j : Int) := ⟨by omega, by omega⟩
              have HO4 := Lib.hid hO4
              have HB4 := Lib.hid hB4
              clear hzz2 ey1 ey2 hO4 hB4 hb4 hg2 hbs
              by_cases he : y1 = (r : Int)
              · have hb : (y1 == (r : Int)) = true := by rw [he]; simp
                by_cases hp : 0 < y2
                · have hpd : decide (0 < y2) = true := by rw [decide_eq_true_iff]; exact hp
                  have Ys := Lib.hid (Ys.out he hp)
                  clear Ns he
                  go_wp2_with (at_builtin; refine wpList_app1 rfl (.tmp 102) (.tmp 104) rfl E _ _ zs2 (j : Int) rfl rfl rfl HO4.out ij hzl4 hsz ?_; intro q3 d3 w3 zs3 hz3 hO5 hg3 hf3)
                  go_roundw
                  case rel => exact ⟨j + 1, by omega, by go_num, q3, d3, zs3, rfl, by unfold Hid; rw [hz3.out, hz2.out, Ys.out], hO5, below_grown HB4.out hg3 hsz HO4.out.lt (Nat.le_refl _)⟩
                  case measure => simp [intOf]; omega
                · have hpd : decide (0 < y2) = false := by rw [decide_eq_false_iff_not]; exact hp
                  have Ns := Lib.hid (Ns.out (fun h => hp h.2))
                  clear Ys he
                  go_wp2_with fail
                  go_roundw
                  case rel => exact ⟨j + 1, by omega, by go_num, q2, d2, zs2, rfl, by unfold Hid; rw [Ns.out, hz2.out], HO4.out, HB4.out⟩
                  case measure => simp [intOf]; omega
              · have hb : (y1 == (r : Int)) = false := by rw [beq_eq_false_iff_ne]; exact he
                have Ns := Lib.hid (Ns.out (fun h => he h.1))
                clear Ys
                go_wp2_with fail
                go_roundw
                case rel => exact ⟨j + 1, by omega, by go_num, q2, d2, zs2, rfl, by unfold Hid; rw [Ns.out, hz2.out], HO4.out, HB4.out⟩
                case measure => simp [intOf]; omega
            · have hk2 : ¬ (j : Int) < (k : Int) := by omega
              have hk3 : ¬ (j : Int) < (zs.length : Int) := by rw [hzl2.out]; exact hk2
              obtain rfl : j = k := by omega
              have HCW : CmpW wc E S T j (rget v r) (rget v r') := fun W a b hW ha hb => by
                have hbW2 : Below W1.heap.size W1 W := HbW.out.trans (hW.mono (by rw [← HE.out]; exact HbW.out.size))
                exact divCmp_any S T qr qs dr ds (rget v r) (rget v r') a b W (by rw [Hkr.out]; exact (OS.out.below hW hSE).cell) (by rw [Hks.out]; exact (OT.out.below hW hTE).cell) (HI.out.1.below hbW2 (Nat.le_refl _)) (HI.out.2.below hbW2 (Nat.le_refl _)) (fun x hx => Vr.out x (by rw [← Hkr.out]; exact hx)) (fun x hx => Vs.out x (by rw [← Hks.out]; exact hx)) (by rw [Hkr.out]; exact ha) (by rw [Hkr.out]; exact hb) (by rw [Hks.out]; exact ha) (by rw [Hks.out]; exact hb)
              have hok : ∀ x, x < zs2.length → 0 ≤ iget zs2 x ∧ iget zs2 x < j := fun x hx => by
                have : iget zs2 x ∈ ordU v j := by
                  rw [← hz2.out]
                  have : iget zs2 x = zs2[x] := by simp [iget, List.getD, hx]
                  rw [this]; exact List.getElem_mem hx
                obtain ⟨y, h1, _, _, h4⟩ := ordU_mem.1 this
                omega
              have hlz : zs2.length ≤ 19 := by rw [hz2.out]; have := ordU_len v j; omega
              have HSO := Lib.hid (sortStable_any wc E S T j zs2.length (rget v r) (rget v r') HCW q2 d2 zs2 wr hB4 hO4 hok rfl hlz)
              clear HCW hok hO4 hB4 hb4
              go_wp2_with fail
              refine HSO.out.mono ?_
              rintro e w5 ⟨⟨x, rfl⟩, M, hMp, hMs, hMO, hMB⟩
              have hML : M.length = zs2.length := hMp.length_eq
              have hOrd : OrdS v M := by
                refine ordS_of (by rw [En.out, ← hz2.out]; exact hMp) ?_
                rw [Er'.out, Er.out]; exact hMs
              have hT0 : DivT v M w1 B E S T q d zs.length (.slice qr j dr) (.slice qs j ds) q2 d2 0 w5 := by
                refine ⟨?_, HA3.out.below hMB (by rw [← HE.out]; exact HA3.out.lt), HH3.out.below hMB (by rw [← HE.out]; exact HH3.out.lt), OS.out.below hMB hSE, OT.out.below hMB hTE, hMO, HB3.out.trans (hMB.mono (by omega)), moreA_start v⟩
                have := HO3.out.below hMB (by rw [HE.out]; exact Nat.le_refl _)
                rw [Hzz.out] at this
                exact this
              have HT0 := Lib.hid hT0
              have HOrd := Lib.hid hOrd
              have HML := Lib.hid hML
              have Hq : Hid (∀ kk, blk q = some kk → B + 2 ≤ kk ∧ kk ≠ S ∧ kk ≠ T ∧ kk < E) := Hq0.out
              clear hT0 hOrd hML hMp hMs hMO hMB HSO
              go_wp2_with fail
              go_loopw [112] (fun t wr => ∃ i : Nat, i ≤ zs2.length ∧ t = .int .i64 (i : Int) ∧ DivT v M w1 B E S T q d zs.length (.slice qr j dr) (.slice qs j ds) q2 d2 i wr) (fun t _ => zs2.length - (intOf t).toNat)
              case atStart => exact ⟨0, Nat.zero_le _, rfl, HT0.out⟩
              case round =>
                obtain ⟨i, hi, rfl, hT⟩ := hrel
                have hbb : Below W1.heap.size W1 wr := hb1.trans (hT.bel.mono HBl.out)
                by_cases hlt : i < zs2.length
                · have hk4 : (i : Int) < (zs2.length : Int) := by omega
                  have hiM : i < M.length := by rw [HML.out]; exact hlt
                  have mm := HOrd.out.mem i hiM
                  obtain ⟨g, eg⟩ : ∃ g : Nat, iget M i = (g : Int) := ⟨(iget M i).toNat, by omega⟩
                  have hgj : g < j := by have := En.out; omega
                  have hSB : S ≠ B + 1 := by omega
                  have hTB : T ≠ B + 1 := by omega
                  obtain ⟨g2, rfl, hg2a, hg2b, co, _⟩ := hT.ord.get hiM
                  rw [eg] at co
                  obtain ⟨br, ox, rfl, hbr, her⟩ := HI.out.1.get (j := g) (by rw [Hkr.out]; exact hgj)
                  obtain ⟨bs, oy, rfl, hbs, hes⟩ := HI.out.2.get (j := g) (by rw [Hks.out]; exact hgj)
                  have Hbr := Lib.hid hbr
                  have Hbs := Lib.hid hbs
                  have Her := Lib.hid her
                  have Hes := Lib.hid hes
                  have her := (hbb.cell (p := ⟨br, ox + g, none⟩) hbr).trans her
                  have hes := (hbb.cell (p := ⟨bs, oy + g, none⟩) hbs).trans hes
                  have rr := Vr.out g hgj
                  have rs := Vs.out g hgj
                  have hc1 := hT.has.cell (j := r) (hasL_get (by omega))
                  have hc2 := hT.has.cell (j := r') (hasL_get (by omega))
                  have cS := hT.oS.cell
                  have cT := hT.oT.cell
                  have hmore := moreA_eq (A := mvA v M i) Er.out Er'.out hrs
                  have hw1 := worthUp_in Hg.out (i := r) (by rw [H2.out]; omega) (r : Int) (mvA v M i).length (by rw [mvA_len]; exact Nat.le_refl _) (a := mvA v M i)
                  have hw2 := worthUp_in Hg.out (i := r') (by rw [H2.out]; omega) (r' : Int) (mvA v M i).length (by rw [mvA_len]; exact Nat.le_refl _) (a := mvA v M i)
                  rw [mvA_len, En.out] at hw1 hw2
                  obtain ⟨a1, ea1⟩ : ∃ y, worth v (mvA v M i) r (r : Int) = y := ⟨_, rfl⟩
                  obtain ⟨a2, ea2⟩ : ∃ y, worth v (mvA v M i) r' (r' : Int) = y := ⟨_, rfl⟩
                  have hw1 : 0 ≤ a1 ∧ a1 ≤ 10000 := by
                    have e : worthUp v (mvA v M i) r (r : Int) j = a1 := by rw [← ea1]; unfold worth; rw [mvA_len, En.out]
                    omega
                  have hw2 : 0 ≤ a2 ∧ a2 ≤ 10000 := by
                    have e : worthUp v (mvA v M i) r' (r' : Int) j = a2 := by rw [← ea2]; unfold worth; rw [mvA_len, En.out]
                    omega
                  obtain ⟨x1, ex1⟩ : ∃ y, iget (rget v r) g = y := ⟨_, rfl⟩
                  obtain ⟨x2, ex2⟩ : ∃ y, iget (rget v r') g = y := ⟨_, rfl⟩
                  rw [ea1] at hc1 hmore
                  rw [ea2] at hc2 hmore
                  rw [ex1] at her rr
                  rw [ex2] at hes rs
                  have u1 : IntKind.i64.wrap (a1 - a2) = a1 - a2 := IntWalk.i64_in _ (by omega)
                  have u2 : IntKind.i64.wrap (x1 + x2) = x1 + x2 := IntWalk.i64_in _ (by omega)
                  have u3 : IntKind.i64.wrap (x1 + x2 - (a1 - a2)) = x1 + x2 - (a1 - a2) := IntWalk.i64_in _ (by omega)
                  have u4 : IntKind.i64.wrap (a1 - x1) = a1 - x1 := IntWalk.i64_in _ (by omega)
                  have u5 : IntKind.i64.wrap (a2 + x2) = a2 + x2 := IntWalk.i64_in _ (by omega)
                  have rb : (r : Int) < 2 := by omega
                  have rb' : (r' : Int) < 2 := by omega
                  have rbn : r < 2 := by omega
                  have rbn' : r' < 2 := by omega
                  have gj : (g : Int) < (j : Int) := by omega
                  have Eg := Lib.hid eg
                  have Ea1 := Lib.hid ea1
                  have Ea2 := Lib.hid ea2
                  have Ex1 := Lib.hid ex1
                  have Ex2 := Lib.hid ex2
                  have Hmore := Lib.hid hmore
                  have HT := Lib.hid hT
                  have Hbb := Lib.hid hbb
                  have Hrr := Lib.hid (And.intro rr rs)
                  have Hww := Lib.hid (And.intro hw1 hw2)
                  have HM2 := Lib.hid hT.more
                  clear eg ea1 ea2 ex1 ex2 hmore hT hbb mm hw1 hw2 rr rs hbr hbs hg2a hg2b
                  by_cases hm : a1 - a2 ≤ 0
                  · have hmd : decide (a1 - a2 ≤ 0) = true := by rw [decide_eq_true_iff]; exact hm
                    go_wp2_with fail
                    go_quiet (fail)
                    go_upto_region 43 with (fail)
                    obtain ⟨wz, hwz⟩ : ∃ X, wr.drewN nq = X := ⟨_, rfl⟩
                    have pz : Arr wz B [.slice q zs.length d, .int .i64 (-1), .int .i64 (0), .int .i64 (1)] 52 := by rw [← hwz]; exact HT.out.pts.drewN
                    have oz : Own wz (B + 2) q d (mvA v M i) := by rw [← hwz]; exact HT.out.own.drewN _
                    have bz : Below W1.heap.size W1 wz := by rw [← hwz]; exact Hbb.out.drewP ⟨_, rfl⟩
                    rw [hwz]
                    clear hwz
                    have rz := HaR.out.below bz HaR.out.lt
                    have z0 := pz.cell (j := 0) rfl
                    have z1 := pz.cell (j := 1) rfl
                    have z2 := pz.cell (j := 2) rfl
                    have z3 := pz.cell (j := 3) rfl
                    have hGs : (Tryz.prog.info? 52).map (·.size) = some (4 : Nat) := by kernel_rfl
                    have r3 := rz.setAll (vs' := [.slice q zs.length d, .int .i64 (-1), .int .i64 (0), .int .i64 (1)]) rfl
                    have hth : wz.there (w.heap.size + 1) 0 4 := rz.there
                    have HSB := Lib.hid (And.intro HS1.out HBl.out)
                    have oz2 := (oz.keptBy (grown_setCellsA (w.heap.size + 1) [.slice q zs.length d, .int .i64 (-1), .int .i64 (0), .int .i64 (1)] 0 wz) (fun kk h e => by have h1 := (oz.lt kk h).1; have h2 := HSB.out; cases e; omega)).ints
                    have bz2 := below_setCells (S := w.heap.size + 1) (by omega) [.slice q zs.length d, .int .i64 (-1), .int .i64 (0), .int .i64 (1)] 0 _ (hBw.trans (bz.mono hBw.size))
                    have HR3 := Lib.hid r3
                    have Hgoal : Hid (PostD v w (.returned (.tuple #[.agg #[.slice q zs.length d, .int .i64 (-1), .int .i64 (0), .int .i64 (1)], .int .i64 0])) (wz.setCells (w.heap.size + 1) 0 [.slice q zs.length d, .int .i64 (-1), .int .i64 (0), .int .i64 (1)])) :=
                      ⟨q, d, _, zs.length, _, _, _, rfl, by simp [mvA_len, En.out, hzl2.out], ⟨M, i, HOrd.out, .inl ⟨by rw [HML.out]; exact hi, by have h1 := Hmore.out; have h2 := HM2.out; omega, rfl, rfl, rfl, rfl⟩⟩, oz2, bz2⟩
                    clear oz bz rz pz oz2 bz2 r3
                    rename_i hK43
                    go_wp2_with ((with_reducible show wpList _ _ _ (⟨none, .store 52 _ _, _, _, _, _⟩ :: _) _ _); go_must (refine wpList_store_mid rfl 52 (.tmp 2) (.tmp 183) rfl (w.heap.size + 1) 0 #[.slice q zs.length d, .int .i64 (-1), .int .i64 (0), .int .i64 (1)] (by simp [Act.eval, Act.put]) (by simp [Act.eval, Act.put]) hth hGs (by simp [Value.oneCell']) ?_); simp only [Act.put]; go_step; go_step; go_step; refine hK43 _ _ ?_; go_step; generalize hwy : World.setCells _ _ _ _ = wy; clear hK43; have hwy : wz.setCells (w.heap.size + 1) 0 [.slice q zs.length d, .int .i64 (-1), .int .i64 (0), .int .i64 (1)] = wy := hwy; have r3 := HR3.out; rw [hwy] at r3; have k0 := r3.cell (j := 0) rfl; have k1 := r3.cell (j := 1) rfl; have k2 := r3.cell (j := 2) rfl; have k3 := r3.cell (j := 3) rfl; refine bodyPost_ret (v := .tuple #[.agg #[.slice q zs.length d, .int .i64 (-1), .int .i64 (0), .int .i64 (1)], .int .i64 0]) ?_ rfl ?_; (simp [results, Tryz.results21, go_sem, k0, k1, k2, k3]); rw [← hwy]; exact HQ.out _ _ Hgoal.out)
                  · have hmd : decide (a1 - a2 ≤ 0) = false := by rw [decide_eq_false_iff_not]; exact hm
                    by_cases hx : a1 - a2 < x1 + x2
                    · have hxd : decide (a1 - a2 < x1 + x2) = true := by rw [decide_eq_true_iff]; exact hx
                      by_cases hr1 : r = 1
                      · have hrb : ((r : Int) == 1) = true := by rw [hr1]; rfl
                        have Hr1 := Lib.hid hr1
                        clear hr1
                        obtain ⟨X, hX⟩ : ∃ X : Nat, x1 + x2 = (X : Int) := ⟨(x1 + x2).toNat, by have := Hrr.out; omega⟩
                        obtain ⟨P, hP⟩ : ∃ P : Nat, a1 - a2 = (P : Int) := ⟨(a1 - a2).toNat, by have := Hrr.out; omega⟩
                        have hXb : X ≤ 2000 ∧ 0 < X ∧ P ≤ 10000 := by have := Hrr.out; have := Hww.out; omega
                        have HX2 := Lib.hid hX
                        have HP2 := Lib.hid hP
                        have HXb := Lib.hid hXb
                        have CM : Hid (∀ W, Calls Tryz.prog 55 #[.int .i64 (a1 - a2), .int .i64 (x1 + x2)] W fun e w' => e = .returned (.tuple #[.agg #[.int .i64 (rN (P : Int) X), .int .i64 (rD (P : Int) X)], .int .i64 0]) ∧ Below W.heap.size W w') := fun W => by
                          rw [hP, hX]
                          exact make_any (P : Int) X W (by omega) (by omega) (by omega) (by omega)
                        obtain ⟨n0, en0⟩ : ∃ y, rN (P : Int) X = y := ⟨_, rfl⟩
                        obtain ⟨m0, em0⟩ : ∃ y, rD (P : Int) X = y := ⟨_, rfl⟩
                        rw [en0, em0] at CM
                        have En0 := Lib.hid en0
                        have Em0 := Lib.hid em0
                        clear hX hP hXb en0 em0
                        go_wp2_with fail
                        go_quiet (fail)
                        obtain ⟨n1, rfl⟩ : ∃ n1, n1 = nq := ⟨_, rfl⟩
                        go_wp2_with fail
                        go_quiet (fail)
                        go_upto_region 37 with (fail)
                        have hT6 := HT.out.drewN (n1 + nq)
                        have hb6 : Below W1.heap.size W1 (wr.drewN (n1 + nq)) := Hbb.out.drewP ⟨_, rfl⟩
                        generalize wr.drewN (n1 + nq) = w6 at hT6 hb6 ⊢
                        have hgz : g < (mvA v M i).length := by rw [mvA_len, En.out]; omega
                        have gz : (g : Int) < (zs.length : Int) := by rw [hzl2.out]; omega
                        obtain ⟨gq, rfl, hq1, hq2, cg, fg⟩ := hT6.own.get hgz
                        have p0 := hT6.pts.cell (j := 0) rfl
                        have p1 := hT6.pts.cell (j := 1) rfl
                        have pf1 := hT6.pts.free 1
                        have HT6 := Lib.hid hT6
                        have Hb6 := Lib.hid hb6
                        have HBB := HBl.out
                        clear co her hes hc1 hc2 cS cT hT6 hb6
                        have hne : (⟨gq, g, none⟩ : Addr) ≠ ⟨B, 1, none⟩ := fun e => by cases e; omega
                        have p1' := (World.cell?_setCell_other w6 ⟨gq, g, none⟩ ⟨B, 1, none⟩ (.int .i64 0) hne).trans p1
                        go_upto_region 38 with (fail)
                        have hA7 : Arr ((w6.setCell ⟨gq, g, none⟩ (.int .i64 0)).setCell ⟨B, 1, none⟩ (.int .i64 (g : Int))) B [.slice (some ⟨gq, 0, none⟩) zs.length d, .int .i64 (g : Int), .int .i64 0, .int .i64 1] 52 := (HT6.out.pts.other (by omega)).set (j := 1)
                        have hO7 : Own ((w6.setCell ⟨gq, g, none⟩ (.int .i64 0)).setCell ⟨B, 1, none⟩ (.int .i64 (g : Int))) (B + 2) (some ⟨gq, 0, none⟩) d ((mvA v M i).set g 0) := (HT6.out.own.set g (by exact ⟨by decide, by decide⟩)).1.keptBy (grownBy_setCellA _ B 1 _) (fun kk h e => by have h1 : gq = kk := (by simpa [blk] using h); have h2 := Option.some.inj e; omega)
                        have hb7 : Below W1.heap.size W1 ((w6.setCell ⟨gq, g, none⟩ (.int .i64 0)).setCell ⟨B, 1, none⟩ (.int .i64 (g : Int))) := (Hb6.out.setCell (p := ⟨gq, g, none⟩) (by simp; omega) _).setCell (p := ⟨B, 1, none⟩) (by simp; omega) _
                        generalize ((w6.setCell ⟨gq, g, none⟩ (.int .i64 0)).setCell ⟨B, 1, none⟩ (.int .i64 (g : Int))) = w7 at hA7 hO7 hb7 ⊢
                        go_wp2_with fail
                        refine (CM.out _).mono ?_
                        rintro e w8 ⟨rfl, hb8⟩
                        have hA8 := hA7.below hb8 hA7.lt
                        have hO8 := hO7.below hb8 (Nat.le_refl _)
                        have hb9 := hb7.trans (hb8.mono hb7.size)
                        have p2 := hA8.cell (j := 2) rfl
                        have p3 := hA8.cell (j := 3) rfl
                        have pf2 := hA8.free 2
                        have pf3 := hA8.free 3
                        clear p0 p1 p1' pf1 cg fg
                        go_upto_region 43 with (fail)
                        obtain ⟨wz, hwz⟩ : ∃ X, (w8.setCell ⟨B, 2, none⟩ (.int .i64 n0)).setCell ⟨B, 3, none⟩ (.int .i64 m0) = X := ⟨_, rfl⟩
                        have pz : Arr wz B [.slice (some ⟨gq, 0, none⟩) zs.length d, .int .i64 ((g : Int)), .int .i64 (n0), .int .i64 (m0)] 52 := by rw [← hwz]; exact (hA8.set (j := 2)).set (j := 3)
                        have oz : Own wz (B + 2) (some ⟨gq, 0, none⟩) d ((mvA v M i).set g 0) := by rw [← hwz]; exact (hO8.keptBy (grownBy_setCellA _ B 2 _) (fun kk h e => by have h1 : gq = kk := (by simpa [blk] using h); have h2 := Option.some.inj e; omega)).keptBy (grownBy_setCellA _ B 3 _) (fun kk h e => by have h1 : gq = kk := (by simpa [blk] using h); have h2 := Option.some.inj e; omega)
                        have bz : Below W1.heap.size W1 wz := by rw [← hwz]; exact (hb9.setCell (p := ⟨B, 2, none⟩) (by simp; omega) _).setCell (p := ⟨B, 3, none⟩) (by simp; omega) _
                        rw [hwz]
                        clear hwz
                        have rz := HaR.out.below bz HaR.out.lt
                        have z0 := pz.cell (j := 0) rfl
                        have z1 := pz.cell (j := 1) rfl
                        have z2 := pz.cell (j := 2) rfl
                        have z3 := pz.cell (j := 3) rfl
                        have hGs : (Tryz.prog.info? 52).map (·.size) = some (4 : Nat) := by kernel_rfl
                        have r3 := rz.setAll (vs' := [.slice (some ⟨gq, 0, none⟩) zs.length d, .int .i64 ((g : Int)), .int .i64 (n0), .int .i64 (m0)]) rfl
                        have hth : wz.there (w.heap.size + 1) 0 4 := rz.there
                        have HSB := Lib.hid (And.intro HS1.out HBl.out)
                        have oz2 := (oz.keptBy (grown_setCellsA (w.heap.size + 1) [.slice (some ⟨gq, 0, none⟩) zs.length d, .int .i64 ((g : Int)), .int .i64 (n0), .int .i64 (m0)] 0 wz) (fun kk h e => by have h1 := (oz.lt kk h).1; have h2 := HSB.out; cases e; omega)).ints
                        have bz2 := below_setCells (S := w.heap.size + 1) (by omega) [.slice (some ⟨gq, 0, none⟩) zs.length d, .int .i64 ((g : Int)), .int .i64 (n0), .int .i64 (m0)] 0 _ (hBw.trans (bz.mono hBw.size))
                        have HR3 := Lib.hid r3
                        have Hgoal : Hid (PostD v w (.returned (.tuple #[.agg #[.slice (some ⟨gq, 0, none⟩) zs.length d, .int .i64 ((g : Int)), .int .i64 (n0), .int .i64 (m0)], .int .i64 0])) (wz.setCells (w.heap.size + 1) 0 [.slice (some ⟨gq, 0, none⟩) zs.length d, .int .i64 ((g : Int)), .int .i64 (n0), .int .i64 (m0)])) :=
                          ⟨some ⟨gq, 0, none⟩, d, _, zs.length, _, _, _, rfl, by simp [mvA_len, En.out, hzl2.out], by
                          refine ⟨M, i, HOrd.out, .inr ⟨hiM, by rw [Hmore.out]; omega, X, P, ?_, ?_, ?_, ?_, Eg.out.symm, En0.out.symm, Em0.out.symm⟩⟩
                          · rw [Eg.out, Int.toNat_natCast, Er'.out, Er.out, Ex1.out, Ex2.out]; exact HX2.out
                          · rw [Hmore.out]; have := HX2.out; omega
                          · rw [Er.out, Hmore.out, if_pos Hr1.out]; have h1 := HP2.out; have h2 := HX2.out; omega
                          · rw [Eg.out, Int.toNat_natCast], oz2, bz2⟩
                        clear oz bz rz pz oz2 bz2 r3
                        rename_i hK43
                        go_wp2_with ((with_reducible show wpList _ _ _ (⟨none, .store 52 _ _, _, _, _, _⟩ :: _) _ _); go_must (refine wpList_store_mid rfl 52 (.tmp 2) (.tmp 183) rfl (w.heap.size + 1) 0 #[.slice (some ⟨gq, 0, none⟩) zs.length d, .int .i64 ((g : Int)), .int .i64 (n0), .int .i64 (m0)] (by simp [Act.eval, Act.put]) (by simp [Act.eval, Act.put]) hth hGs (by simp [Value.oneCell']) ?_); simp only [Act.put]; go_step; go_step; go_step; refine hK43 _ _ ?_; go_step; generalize hwy : World.setCells _ _ _ _ = wy; clear hK43; have hwy : wz.setCells (w.heap.size + 1) 0 [.slice (some ⟨gq, 0, none⟩) zs.length d, .int .i64 ((g : Int)), .int .i64 (n0), .int .i64 (m0)] = wy := hwy; have r3 := HR3.out; rw [hwy] at r3; have k0 := r3.cell (j := 0) rfl; have k1 := r3.cell (j := 1) rfl; have k2 := r3.cell (j := 2) rfl; have k3 := r3.cell (j := 3) rfl; refine bodyPost_ret (v := .tuple #[.agg #[.slice (some ⟨gq, 0, none⟩) zs.length d, .int .i64 ((g : Int)), .int .i64 (n0), .int .i64 (m0)], .int .i64 0]) ?_ rfl ?_; (simp [results, Tryz.results21, go_sem, k0, k1, k2, k3]); rw [← hwy]; exact HQ.out _ _ Hgoal.out)
                      · have hrb : ((r : Int) == 1) = false := by rw [beq_eq_false_iff_ne]; omega
                        have Hr1 := Lib.hid hr1
                        clear hr1
                        obtain ⟨X, hX⟩ : ∃ X : Nat, x1 + x2 = (X : Int) := ⟨(x1 + x2).toNat, by have := Hrr.out; omega⟩
                        obtain ⟨P, hP⟩ : ∃ P : Nat, x1 + x2 - (a1 - a2) = (P : Int) := ⟨(x1 + x2 - (a1 - a2)).toNat, by have := Hrr.out; omega⟩
                        have hXb : X ≤ 2000 ∧ 0 < X ∧ P ≤ 10000 := by have := Hrr.out; have := Hww.out; omega
                        have HX2 := Lib.hid hX
                        have HP2 := Lib.hid hP
                        have HXb := Lib.hid hXb
                        have CM : Hid (∀ W, Calls Tryz.prog 55 #[.int .i64 (x1 + x2 - (a1 - a2)), .int .i64 (x1 + x2)] W fun e w' => e = .returned (.tuple #[.agg #[.int .i64 (rN (P : Int) X), .int .i64 (rD (P : Int) X)], .int .i64 0]) ∧ Below W.heap.size W w') := fun W => by
                          rw [hP, hX]
                          exact make_any (P : Int) X W (by omega) (by omega) (by omega) (by omega)
                        obtain ⟨n0, en0⟩ : ∃ y, rN (P : Int) X = y := ⟨_, rfl⟩
                        obtain ⟨m0, em0⟩ : ∃ y, rD (P : Int) X = y := ⟨_, rfl⟩
                        rw [en0, em0] at CM
                        have En0 := Lib.hid en0
                        have Em0 := Lib.hid em0
                        clear hX hP hXb en0 em0
                        go_wp2_with fail
                        go_quiet (fail)
                        obtain ⟨n1, rfl⟩ : ∃ n1, n1 = nq := ⟨_, rfl⟩
                        go_wp2_with fail
                        go_quiet (fail)
                        go_upto_region 37 with (fail)
                        have hT6 := HT.out.drewN (n1 + nq)
                        have hb6 : Below W1.heap.size W1 (wr.drewN (n1 + nq)) := Hbb.out.drewP ⟨_, rfl⟩
                        generalize wr.drewN (n1 + nq) = w6 at hT6 hb6 ⊢
                        have hgz : g < (mvA v M i).length := by rw [mvA_len, En.out]; omega
                        have gz : (g : Int) < (zs.length : Int) := by rw [hzl2.out]; omega
                        obtain ⟨gq, rfl, hq1, hq2, cg, fg⟩ := hT6.own.get hgz
                        have p0 := hT6.pts.cell (j := 0) rfl
                        have p1 := hT6.pts.cell (j := 1) rfl
                        have pf1 := hT6.pts.free 1
                        have HT6 := Lib.hid hT6
                        have Hb6 := Lib.hid hb6
                        have HBB := HBl.out
                        clear co her hes hc1 hc2 cS cT hT6 hb6
                        have hne : (⟨gq, g, none⟩ : Addr) ≠ ⟨B, 1, none⟩ := fun e => by cases e; omega
                        have p1' := (World.cell?_setCell_other w6 ⟨gq, g, none⟩ ⟨B, 1, none⟩ (.int .i64 0) hne).trans p1
                        go_upto_region 38 with (fail)
                        have hA7 : Arr ((w6.setCell ⟨gq, g, none⟩ (.int .i64 0)).setCell ⟨B, 1, none⟩ (.int .i64 (g : Int))) B [.slice (some ⟨gq, 0, none⟩) zs.length d, .int .i64 (g : Int), .int .i64 0, .int .i64 1] 52 := (HT6.out.pts.other (by omega)).set (j := 1)
                        have hO7 : Own ((w6.setCell ⟨gq, g, none⟩ (.int .i64 0)).setCell ⟨B, 1, none⟩ (.int .i64 (g : Int))) (B + 2) (some ⟨gq, 0, none⟩) d ((mvA v M i).set g 0) := (HT6.out.own.set g (by exact ⟨by decide, by decide⟩)).1.keptBy (grownBy_setCellA _ B 1 _) (fun kk h e => by have h1 : gq = kk := (by simpa [blk] using h); have h2 := Option.some.inj e; omega)
                        have hb7 : Below W1.heap.size W1 ((w6.setCell ⟨gq, g, none⟩ (.int .i64 0)).setCell ⟨B, 1, none⟩ (.int .i64 (g : Int))) := (Hb6.out.setCell (p := ⟨gq, g, none⟩) (by simp; omega) _).setCell (p := ⟨B, 1, none⟩) (by simp; omega) _
                        generalize ((w6.setCell ⟨gq, g, none⟩ (.int .i64 0)).setCell ⟨B, 1, none⟩ (.int .i64 (g : Int))) = w7 at hA7 hO7 hb7 ⊢
                        go_wp2_with fail
                        refine (CM.out _).mono ?_
                        rintro e w8 ⟨rfl, hb8⟩
                        have hA8 := hA7.below hb8 hA7.lt
                        have hO8 := hO7.below hb8 (Nat.le_refl _)
                        have hb9 := hb7.trans (hb8.mono hb7.size)
                        have p2 := hA8.cell (j := 2) rfl
                        have p3 := hA8.cell (j := 3) rfl
                        have pf2 := hA8.free 2
                        have pf3 := hA8.free 3
                        clear p0 p1 p1' pf1 cg fg
                        go_upto_region 43 with (fail)
                        obtain ⟨wz, hwz⟩ : ∃ X, (w8.setCell ⟨B, 2, none⟩ (.int .i64 n0)).setCell ⟨B, 3, none⟩ (.int .i64 m0) = X := ⟨_, rfl⟩
                        have pz : Arr wz B [.slice (some ⟨gq, 0, none⟩) zs.length d, .int .i64 ((g : Int)), .int .i64 (n0), .int .i64 (m0)] 52 := by rw [← hwz]; exact (hA8.set (j := 2)).set (j := 3)
                        have oz : Own wz (B + 2) (some ⟨gq, 0, none⟩) d ((mvA v M i).set g 0) := by rw [← hwz]; exact (hO8.keptBy (grownBy_setCellA _ B 2 _) (fun kk h e => by have h1 : gq = kk := (by simpa [blk] using h); have h2 := Option.some.inj e; omega)).keptBy (grownBy_setCellA _ B 3 _) (fun kk h e => by have h1 : gq = kk := (by simpa [blk] using h); have h2 := Option.some.inj e; omega)
                        have bz : Below W1.heap.size W1 wz := by rw [← hwz]; exact (hb9.setCell (p := ⟨B, 2, none⟩) (by simp; omega) _).setCell (p := ⟨B, 3, none⟩) (by simp; omega) _
                        rw [hwz]
                        clear hwz
                        have rz := HaR.out.below bz HaR.out.lt
                        have z0 := pz.cell (j := 0) rfl
                        have z1 := pz.cell (j := 1) rfl
                        have z2 := pz.cell (j := 2) rfl
                        have z3 := pz.cell (j := 3) rfl
                        have hGs : (Tryz.prog.info? 52).map (·.size) = some (4 : Nat) := by kernel_rfl
                        have r3 := rz.setAll (vs' := [.slice (some ⟨gq, 0, none⟩) zs.length d, .int .i64 ((g : Int)), .int .i64 (n0), .int .i64 (m0)]) rfl
                        have hth : wz.there (w.heap.size + 1) 0 4 := rz.there
                        have HSB := Lib.hid (And.intro HS1.out HBl.out)
                        have oz2 := (oz.keptBy (grown_setCellsA (w.heap.size + 1) [.slice (some ⟨gq, 0, none⟩) zs.length d, .int .i64 ((g : Int)), .int .i64 (n0), .int .i64 (m0)] 0 wz) (fun kk h e => by have h1 := (oz.lt kk h).1; have h2 := HSB.out; cases e; omega)).ints
                        have bz2 := below_setCells (S := w.heap.size + 1) (by omega) [.slice (some ⟨gq, 0, none⟩) zs.length d, .int .i64 ((g : Int)), .int .i64 (n0), .int .i64 (m0)] 0 _ (hBw.trans (bz.mono hBw.size))
                        have HR3 := Lib.hid r3
                        have Hgoal : Hid (PostD v w (.returned (.tuple #[.agg #[.slice (some ⟨gq, 0, none⟩) zs.length d, .int .i64 ((g : Int)), .int .i64 (n0), .int .i64 (m0)], .int .i64 0])) (wz.setCells (w.heap.size + 1) 0 [.slice (some ⟨gq, 0, none⟩) zs.length d, .int .i64 ((g : Int)), .int .i64 (n0), .int .i64 (m0)])) :=
                          ⟨some ⟨gq, 0, none⟩, d, _, zs.length, _, _, _, rfl, by simp [mvA_len, En.out, hzl2.out], by
                          refine ⟨M, i, HOrd.out, .inr ⟨hiM, by rw [Hmore.out]; omega, X, P, ?_, ?_, ?_, ?_, Eg.out.symm, En0.out.symm, Em0.out.symm⟩⟩
                          · rw [Eg.out, Int.toNat_natCast, Er'.out, Er.out, Ex1.out, Ex2.out]; exact HX2.out
                          · rw [Hmore.out]; have := HX2.out; omega
                          · rw [Er.out, Hmore.out, if_neg Hr1.out]; have h1 := HP2.out; have h2 := HX2.out; omega
                          · rw [Eg.out, Int.toNat_natCast], oz2, bz2⟩
                        clear oz bz rz pz oz2 bz2 r3
                        rename_i hK43
                        go_wp2_with ((with_reducible show wpList _ _ _ (⟨none, .store 52 _ _, _, _, _, _⟩ :: _) _ _); go_must (refine wpList_store_mid rfl 52 (.tmp 2) (.tmp 183) rfl (w.heap.size + 1) 0 #[.slice (some ⟨gq, 0, none⟩) zs.length d, .int .i64 ((g : Int)), .int .i64 (n0), .int .i64 (m0)] (by simp [Act.eval, Act.put]) (by simp [Act.eval, Act.put]) hth hGs (by simp [Value.oneCell']) ?_); simp only [Act.put]; go_step; go_step; go_step; refine hK43 _ _ ?_; go_step; generalize hwy : World.setCells _ _ _ _ = wy; clear hK43; have hwy : wz.setCells (w.heap.size + 1) 0 [.slice (some ⟨gq, 0, none⟩) zs.length d, .int .i64 ((g : Int)), .int .i64 (n0), .int .i64 (m0)] = wy := hwy; have r3 := HR3.out; rw [hwy] at r3; have k0 := r3.cell (j := 0) rfl; have k1 := r3.cell (j := 1) rfl; have k2 := r3.cell (j := 2) rfl; have k3 := r3.cell (j := 3) rfl; refine bodyPost_ret (v := .tuple #[.agg #[.slice (some ⟨gq, 0, none⟩) zs.length d, .int .i64 ((g : Int)), .int .i64 (n0), .int .i64 (m0)], .int .i64 0]) ?_ rfl ?_; (simp [results, Tryz.results21, go_sem, k0, k1, k2, k3]); rw [← hwy]; exact HQ.out _ _ Hgoal.out)
                    · have hxd : decide (a1 - a2 < x1 + x2) = false := by rw [decide_eq_false_iff_not]; exact hx
                      go_wp2_with fail
                      go_quiet (fail)
                      obtain ⟨n1, rfl⟩ : ∃ n1, n1 = nq := ⟨_, rfl⟩
                      go_wp2_with fail
                      go_quiet (fail)
                      go_upto_region 39 with (fail)
                      have hT6 := HT.out.drewN (n1 + nq)
                      have hb6 : Below W1.heap.size W1 (wr.drewN (n1 + nq)) := Hbb.out.drewP ⟨_, rfl⟩
                      generalize wr.drewN (n1 + nq) = w6 at hT6 hb6 ⊢
                      have hgz : g < (mvA v M i).length := by rw [mvA_len, En.out]; omega
                      have gz : (g : Int) < (zs.length : Int) := by rw [hzl2.out]; omega
                      obtain ⟨gq, rfl, hq1, hq2, cg, fg⟩ := hT6.own.get hgz
                      have hqn := Hq.out gq rfl
                      have p0 := hT6.pts.cell (j := 0) rfl
                      have HBB := HBl.out
                      have HT6 := Lib.hid hT6
                      have Hb6 := Lib.hid hb6
                      have ir : in64 (r' : Int) := ⟨by omega, by omega⟩
                      clear co her hes hc1 hc2 cS cT hT6 hb6
                      go_upto_region 40 with (fail)
                      have hmv : mvA v M (i + 1) = (mvA v M i).set g (r' : Int) := by
                        simp only [mvA]
                        rw [Eg.out, Int.toNat_natCast, Er.out, show (1 : Int) - (r : Int) = (r' : Int) by omega]
                      have h7o := (HT6.out.own.set g ir)
                      have h7p : Arr (w6.setCell ⟨gq, g, none⟩ (.int .i64 (r' : Int))) B _ _ := HT6.out.pts.other (by omega)
                      have h7h : Arr (w6.setCell ⟨gq, g, none⟩ (.int .i64 (r' : Int))) (B + 1) _ _ := HT6.out.has.other (by omega)
                      have h7S : OneV (w6.setCell ⟨gq, g, none⟩ (.int .i64 (r' : Int))) S _ _ := (show _ = _ from Below.heap_setCell w6 ⟨gq, g, none⟩ _ S (fun e => hqn.2.1 e.symm)).trans HT6.out.oS
                      have h7T : OneV (w6.setCell ⟨gq, g, none⟩ (.int .i64 (r' : Int))) T _ _ := (show _ = _ from Below.heap_setCell w6 ⟨gq, g, none⟩ _ T (fun e => hqn.2.2.1 e.symm)).trans HT6.out.oT
                      have h7r := HT6.out.ord.keptBy h7o.2 (fun kk h e => by have := (HT6.out.ord.lt kk h).1; cases e; omega)
                      have h7b := HT6.out.bel.setCell (p := ⟨gq, g, none⟩) (by simp; omega) (.int .i64 (r' : Int))
                      have h7w := Hb6.out.setCell (p := ⟨gq, g, none⟩) (by simp; omega) (.int .i64 (r' : Int))
                      have h7o := h7o.1
                      generalize w6.setCell ⟨gq, g, none⟩ (.int .i64 (r' : Int)) = w7 at h7o h7p h7h h7S h7T h7r h7b h7w ⊢
                      clear p0 cg fg
                      have hc1 := h7h.cell (j := r) (hasL_get (by omega))
                      have fc1 := h7h.free r
                      have cS := h7S.cell
                      have her := (h7w.cell (p := ⟨br, ox + g, none⟩) Hbr.out).trans Her.out
                      rw [Ea1.out] at hc1
                      rw [Ex1.out] at her
                      have HF := Lib.hid (And.intro h7o (And.intro h7p (And.intro h7h (And.intro h7S (And.intro h7T (And.intro h7r (And.intro h7b h7w)))))))
                      clear h7o h7p h7h h7S h7T h7r h7b h7w
                      go_wp2_with fail
                      go_still_tail 9, (by kernel_rfl)
                      go_wp2_with fail
                      obtain ⟨h7o, h7p, h7h, h7S, h7T, h7r, h7b, h7w⟩ := HF.out
                      have h8o := (h7o.keptBy (grownBy_setCellA w7 (B + 1) r (.int .i64 (a1 - x1))) (fun kk h e => by have h1 : gq = kk := (by simpa [blk] using h); have h2 := Option.some.inj e; omega)).drew1
                      have h8p := (h7p.other (S' := B + 1) (j := r) (u := .int .i64 (a1 - x1)) (by omega)).drew1
                      have h8h := (h7h.set (j := r) (u := .int .i64 (a1 - x1))).drew1
                      have h8S : OneV (w7.setCell ⟨B + 1, r, none⟩ (.int .i64 (a1 - x1))).drew S _ _ := (((show _ = _ from Below.heap_setCell w7 ⟨B + 1, r, none⟩ (.int .i64 (a1 - x1)) S (fun e => hSB e)).trans h7S : OneV (w7.setCell ⟨B + 1, r, none⟩ (.int .i64 (a1 - x1))) S _ _))
                      have h8T : OneV (w7.setCell ⟨B + 1, r, none⟩ (.int .i64 (a1 - x1))).drew T _ _ := (((show _ = _ from Below.heap_setCell w7 ⟨B + 1, r, none⟩ (.int .i64 (a1 - x1)) T (fun e => hTB e)).trans h7T : OneV (w7.setCell ⟨B + 1, r, none⟩ (.int .i64 (a1 - x1))) T _ _))
                      have h8r := (h7r.keptBy (grownBy_setCellA w7 (B + 1) r (.int .i64 (a1 - x1))) (fun kk h e => by have := (h7r.lt kk h).1; cases e; omega)).drew1
                      have h8b := (h7b.setCell (p := ⟨B + 1, r, none⟩) (by simp) (.int .i64 (a1 - x1))).drew
                      have h8w := (h7w.setCell (p := ⟨B + 1, r, none⟩) (by simp; omega) (.int .i64 (a1 - x1))).drew
                      have hc2' : (w7.setCell ⟨B + 1, r, none⟩ (.int .i64 (a1 - x1))).drew.cell? ⟨B + 1, r', none⟩ = some (.int .i64 a2) := by
                        rw [← Ea2.out]
                        refine h8h.cell ?_
                        rw [List.getElem?_set_ne (by omega)]
                        exact hasL_get (by omega)
                      generalize (w7.setCell ⟨B + 1, r, none⟩ (.int .i64 (a1 - x1))).drew = w8 at h8o h8p h8h h8S h8T h8r h8b h8w hc2' ⊢
                      clear hc1 fc1 cS her HF h7o h7p h7h h7S h7T h7r h7b h7w
                      have fc2 := h8h.free r'
                      have cT := h8T.cell
                      have hes := (h8w.cell (p := ⟨bs, oy + g, none⟩) Hbs.out).trans Hes.out
                      rw [Ex2.out] at hes
                      have HF := Lib.hid (And.intro h8o (And.intro h8p (And.intro h8h (And.intro h8S (And.intro h8T (And.intro h8r (And.intro h8b h8w)))))))
                      clear h8o h8p h8h h8S h8T h8r h8b h8w
                      go_wp2_with fail
                      go_still_tail 10, (by kernel_rfl)
                      go_wp2_with fail
                      go_roundw
                      case rel =>
                        obtain ⟨h8o, h8p, h8h, h8S, h8T, h8r, h8b, h8w⟩ := HF.out
                        have hri := mvA_rich HOrd.out hiM
                        rw [Er'.out, Er.out, Eg.out, Int.toNat_natCast, show (1 : Int) - (r : Int) = (r' : Int) by omega, Ex1.out, Ex2.out, Ea1.out, Ea2.out] at hri
                        refine ⟨i + 1, by omega, by go_num, ⟨?_, (h8p.other (by omega)).drew1, ?_, ?_, ?_, ?_, (h8b.setCell (p := ⟨B + 1, r', none⟩) (by simp) _).drew, ?_⟩⟩
                        · rw [hmv]
                          exact (h8o.keptBy (grownBy_setCellA w8 (B + 1) r' _) (fun kk h e => by have h1 : gq = kk := (by simpa [blk] using h); have h2 := Option.some.inj e; omega)).drew1
                        · have e := hasL_set (v := v) (A := mvA v M i) (A' := mvA v M (i + 1)) hrs
                          rw [hri.1, hri.2] at e
                          rw [← e]
                          exact (h8h.set (j := r')).drew1
                        · exact (show _ = _ from Below.heap_setCell w8 ⟨B + 1, r', none⟩ _ S (fun e => hSB e)).trans h8S
                        · exact (show _ = _ from Below.heap_setCell w8 ⟨B + 1, r', none⟩ _ T (fun e => hTB e)).trans h8T
                        · exact (h8r.keptBy (grownBy_setCellA w8 (B + 1) r' _) (fun kk h e => by have := (h8r.lt kk h).1; cases e; omega)).drew1
                        · rw [moreA_eq Er.out Er'.out hrs, hri.1, hri.2]; omega
                      case measure => simp [intOf]; omega
                · have hk4 : ¬ (i : Int) < (zs2.length : Int) := by omega
                  obtain rfl : i = zs2.length := by omega
                  go_upto_region 43 with (fail)
                  obtain ⟨wz, hwz⟩ : ∃ X, wr = X := ⟨_, rfl⟩
                  have pz : Arr wz B [.slice q zs.length d, .int .i64 (-1), .int .i64 (0), .int .i64 (1)] 52 := by rw [← hwz]; exact hT.pts
                  have oz : Own wz (B + 2) q d (mvA v M zs2.length) := by rw [← hwz]; exact hT.own
                  have bz : Below W1.heap.size W1 wz := by rw [← hwz]; exact hbb
                  rw [hwz]
                  clear hwz
                  have rz := HaR.out.below bz HaR.out.lt
                  have z0 := pz.cell (j := 0) rfl
                  have z1 := pz.cell (j := 1) rfl
                  have z2 := pz.cell (j := 2) rfl
                  have z3 := pz.cell (j := 3) rfl
                  have hGs : (Tryz.prog.info? 52).map (·.size) = some (4 : Nat) := by kernel_rfl
                  have r3 := rz.setAll (vs' := [.slice q zs.length d, .int .i64 (-1), .int .i64 (0), .int .i64 (1)]) rfl
                  have hth : wz.there (w.heap.size + 1) 0 4 := rz.there
                  have HSB := Lib.hid (And.intro HS1.out HBl.out)
                  have oz2 := (oz.keptBy (grown_setCellsA (w.heap.size + 1) [.slice q zs.length d, .int .i64 (-1), .int .i64 (0), .int .i64 (1)] 0 wz) (fun kk h e => by have h1 := (oz.lt kk h).1; have h2 := HSB.out; cases e; omega)).ints
                  have bz2 := below_setCells (S := w.heap.size + 1) (by omega) [.slice q zs.length d, .int .i64 (-1), .int .i64 (0), .int .i64 (1)] 0 _ (hBw.trans (bz.mono hBw.size))
                  have HR3 := Lib.hid r3
                  have Hgoal : Hid (PostD v w (.returned (.tuple #[.agg #[.slice q zs.length d, .int .i64 (-1), .int .i64 (0), .int .i64 (1)], .int .i64 0])) (wz.setCells (w.heap.size + 1) 0 [.slice q zs.length d, .int .i64 (-1), .int .i64 (0), .int .i64 (1)])) :=
                    ⟨q, d, _, zs.length, _, _, _, rfl, by simp [mvA_len, En.out, hzl2.out], ⟨M, zs2.length, HOrd.out, .inl ⟨by rw [HML.out]; exact hi, by have h1 := hT.more; have h2 := div_end Hg.out H2.out HOrd.out Hall.out; rw [HML.out] at h2; omega, rfl, rfl, rfl, rfl⟩⟩, oz2, bz2⟩
                  clear oz bz rz pz oz2 bz2 r3
                  rename_i hK43
                  go_wp2_with ((with_reducible show wpList _ _ _ (⟨none, .store 52 _ _, _, _, _, _⟩ :: _) _ _); go_must (refine wpList_store_mid rfl 52 (.tmp 2) (.tmp 183) rfl (w.heap.size + 1) 0 #[.slice q zs.length d, .int .i64 (-1), .int .i64 (0), .int .i64 (1)] (by simp [Act.eval, Act.put]) (by simp [Act.eval, Act.put]) hth hGs (by simp [Value.oneCell']) ?_); simp only [Act.put]; go_step; go_step; go_step; refine hK43 _ _ ?_; go_step; generalize hwy : World.setCells _ _ _ _ = wy; clear hK43; have hwy : wz.setCells (w.heap.size + 1) 0 [.slice q zs.length d, .int .i64 (-1), .int .i64 (0), .int .i64 (1)] = wy := hwy; have r3 := HR3.out; rw [hwy] at r3; have k0 := r3.cell (j := 0) rfl; have k1 := r3.cell (j := 1) rfl; have k2 := r3.cell (j := 2) rfl; have k3 := r3.cell (j := 3) rfl; refine bodyPost_ret (v := .tuple #[.agg #[.slice q zs.length d, .int .i64 (-1), .int .i64 (0), .int .i64 (1)], .int .i64 0]) ?_ rfl ?_; (simp [results, Tryz.results21, go_sem, k0, k1, k2, k3]); rw [← hwy]; exact HQ.out _ _ Hgoal.out)
theorem divide_any (p : Option Addr) (c : Nat) (v : List (List Int)) (w : World) (hx : Mat w p c v) (hg : Gds v) (h2 : v.length = 2) (hall : allG v 0 = allG v 1) (hnz : allG v 0 ≠ 0) :
    Calls Tryz.prog 21 #[.agg #[.slice p v.length c]] w (PostD v w) := divide_walk p c v w hx hg h2 hall hnz _ (fun _ _ h => h)
end Go.Proofs.YtmcncflieoolmaaGreat
