/- The walk of envy: the graph of an allocation.  (Printed by wip/gengrd.py.) -/
import Derived.Test.YtmcncflieoolmaaGreatTopTopGoodsm28
import Derived.Test.YtmcncflieoolmaaGreatTopTopGoodsm5
import Derived.Test.YtmcncflieoolmaaGreatTopTopGoodsm20
import Derived.Test.YtmcncflieoolmaaGreatTopTopGoodsm10
/- The walk of envy: the graph of an allocation.  (Printed by wip/gengrd.py.) -/
namespace Go.Proofs.YtmcncflieoolmaaGreat
set_option linter.unusedVariables false
set_option linter.unusedSimpArgs false
open Go.ChangeShapes Go.WideShapes Go.ChangeAt Go.RowKit Go.Deep

/-- The graph of pairs. -/
def prE (L : List (Nat × Nat)) (j : Nat) : Bool := L.any fun x => decide (j = x.1 * 6 + x.2)
theorem prE_snoc (L : List (Nat × Nat)) (i k : Nat) : prE (L ++ [(i, k)]) = fun j => if j = i * 6 + k then true else prE L j := by
  funext j
  unfold prE
  rw [List.any_append]
  by_cases h : j = i * 6 + k
  · rw [if_pos h]; simp [h]
  · rw [if_neg h]; simp [h]
/-- The graph of an allocation. -/
def envE (v : List (List Int)) (a : List Int) : Nat → Bool := prE (prTo (gP v a) v.length v.length)
theorem envE_true {v : List (List Int)} {a : List Int} (hv : v.length ≤ 6) {i k : Nat} (hk : k < 6) : envE v a (i * 6 + k) = true ↔ i < v.length ∧ k < v.length ∧ gP v a i k = true := by
  unfold envE prE
  rw [List.any_eq_true]
  constructor
  · rintro ⟨x, hx, h⟩
    obtain ⟨h1, h2, h3⟩ := prTo_mem.1 hx
    rw [decide_eq_true_iff] at h
    have e1 : x.1 = i := by omega
    have e2 : x.2 = k := by omega
    rw [← e1, ← e2]; exact ⟨h1, h2, h3⟩
  · rintro ⟨h1, h2, h3⟩
    exact ⟨(i, k), prTo_mem.2 ⟨h1, h2, h3⟩, by simp⟩
theorem Arr.setFrom {S : Nat} {t : TypeId} : ∀ (vs' vs pre : List Value) (w : World), vs'.length = vs.length → Arr w S (pre ++ vs) t → Arr (w.setCells S pre.length vs') S (pre ++ vs') t
  | [], vs, pre, w, hl, h => by
    obtain rfl : vs = [] := List.eq_nil_of_length_eq_zero hl.symm
    exact h
  | x :: vs', y :: vs, pre, w, hl, h => by
    have h1 := h.set (j := pre.length) (u := x)
    have e : (pre ++ y :: vs).set pre.length x = (pre ++ [x]) ++ vs := by rw [List.set_append_right _ _ (Nat.le_refl _)]; simp
    rw [e] at h1
    have h2 := Arr.setFrom vs' vs (pre ++ [x]) _ (by simpa using hl) h1
    rw [List.length_append, List.length_singleton] at h2
    rw [show pre ++ x :: vs' = (pre ++ [x]) ++ vs' by simp]
    exact h2
  | x :: vs', [], pre, w, hl, h => by cases hl
theorem Arr.setAll {w : World} {S : Nat} {t : TypeId} {vs vs' : List Value} (h : Arr w S vs t) (hl : vs'.length = vs.length) : Arr (w.setCells S 0 vs') S vs' t := Arr.setFrom vs' vs [] w hl h
theorem Arr.there {w : World} {S : Nat} {vs : List Value} {t : TypeId} (h : Arr w S vs t) : w.there S 0 vs.length := fun j hj => by
  rw [Nat.zero_add]; exact ⟨by rw [h.cell (List.getElem?_eq_getElem hj)]; rfl, h.free j⟩
theorem below_setCells {B S : Nat} {w : World} (hS : B ≤ S) : ∀ (vs : List Value) (o : Nat) (W : World), Below B w W → Below B w (W.setCells S o vs)
  | [], _, _, h => h
  | v :: r, o, W, h => below_setCells hS r (o + 1) _ (h.setCell (p := ⟨S, o, none⟩) hS v)
theorem Arr.apart {S S' : Nat} {t : TypeId} {vs : List Value} (hne : S ≠ S') : ∀ (cs : List Value) (o : Nat) (w : World), Arr w S vs t → Arr (w.setCells S' o cs) S vs t
  | [], _, _, h => h
  | c :: r, o, w, h => Arr.apart hne r (o + 1) _ (h.other hne)
theorem grL_one (E : Nat → Bool) : (grL E).toArray.all (·.oneCell') = true := all_oneCell_toArray fun v hv => by
  obtain ⟨j, _, rfl⟩ := List.mem_map.1 hv
  simp [Value.oneCell']
theorem infoG (E : Nat → Bool) : (Tryz.prog.info? 66).map (·.size) = some (grL E).length := by rw [grL_len]; kernel_rfl
theorem zeroG : (#[.bool false, .bool false, .bool false, .bool false, .bool false, .bool false, .bool false, .bool false, .bool false, .bool false, .bool false, .bool false, .bool false, .bool false, .bool false, .bool false, .bool false, .bool false, .bool false, .bool false, .bool false, .bool false, .bool false, .bool false, .bool false, .bool false, .bool false, .bool false, .bool false, .bool false, .bool false, .bool false, .bool false, .bool false, .bool false, .bool false] : Array Value) = (grL (prE [])).toArray := by rfl

set_option maxHeartbeats 4000000 in
set_option maxRecDepth 100000 in
theorem envy_any (p : Option Addr) (c : Nat) (v : List (List Int)) (q : Option Addr) (d m : Nat) (a : List Int) (w : World) (hm : a.length = m) (hx : Mat w p c v) (hi : Ints w q d a) (hF : chkA v a = 0) (hv6 : v.length ≤ 6) :
    Calls Tryz.prog 31 #[.agg #[.slice p v.length c], .slice q m d] w fun e w' => e = .returned (.agg (grL (envE v a)).toArray) ∧ Below w.heap.size w w' := by
  subst hm
  obtain ⟨W00, hW00⟩ : ∃ W0, w.alloc (.cells #[.slice p v.length c] 24) = W0 := ⟨_, rfl⟩
  obtain ⟨W01, hW01⟩ : ∃ W0, W00.alloc (.cells #[.bool false, .bool false, .bool false, .bool false, .bool false, .bool false, .bool false, .bool false, .bool false, .bool false, .bool false, .bool false, .bool false, .bool false, .bool false, .bool false, .bool false, .bool false, .bool false, .bool false, .bool false, .bool false, .bool false, .bool false, .bool false, .bool false, .bool false, .bool false, .bool false, .bool false, .bool false, .bool false, .bool false, .bool false, .bool false, .bool false] 66) = W0 := ⟨_, rfl⟩
  obtain ⟨W0, hW0⟩ : ∃ W0, W01.alloc (.cells #[.bool false, .bool false, .bool false, .bool false, .bool false, .bool false, .bool false, .bool false, .bool false, .bool false, .bool false, .bool false, .bool false, .bool false, .bool false, .bool false, .bool false, .bool false, .bool false, .bool false, .bool false, .bool false, .bool false, .bool false, .bool false, .bool false, .bool false, .bool false, .bool false, .bool false, .bool false, .bool false, .bool false, .bool false, .bool false, .bool false] 66) = W0 := ⟨_, rfl⟩
  have hB1 : Below w.heap.size w W00 := below_alloc hW00
  have hs1 : W00.heap.size = w.heap.size + 1 := by rw [← hW00]; simp
  have hs2 : W01.heap.size = w.heap.size + 1 + 1 := by rw [← hW01]; simp [hs1]
  have hs3 : W0.heap.size = w.heap.size + 1 + 1 + 1 := by rw [← hW0]; simp [hs2]
  have hB2 := below_alloc hW01
  have hB3 := below_alloc hW0
  have x1 := ((BoxV.new rfl hW00 : BoxV W00 w.heap.size [.slice p v.length c]).below hB2).below hB3
  have a1 : Arr W0 (w.heap.size + 1) (grL (prE [])) 66 := (show Arr W01 (w.heap.size + 1) (grL (prE [])) 66 from Arr.new hs1 (by rw [← zeroG]; exact hW01)).below hB3 (by omega)
  have a2 : Arr W0 (w.heap.size + 1 + 1) (grL (prE [])) 66 := Arr.new hs2 (by rw [← zeroG]; exact hW0)
  have hB : Below w.heap.size w W0 := hB1.trans ((hB2.mono (by omega)).trans (hB3.mono (by omega)))
  have hx' := hx.below hB (Nat.le_refl _)
  have hi' := hi.below hB (Nat.le_refl _)
  have x0 := x1.cell 0 _ rfl
  have HW00 := Lib.hid hW00
  have HW01 := Lib.hid hW01
  have HW0 := Lib.hid hW0
  have HC := goodsEnvies_any p c v q d a W0 hx' hi'
  rw [envG_ok hF, hF] at HC
  have HC := Lib.hid HC
  have hElen := prTo_len (gP v a) v.length v.length
  have h66 : v.length * v.length ≤ 6 * 6 := Nat.mul_le_mul hv6 hv6
  have Hin := Lib.hid (fun k h => pget_lt (P := gP v a) (n := v.length) (k := k) h)
  have HE : Hid (envE v a = prE (prTo (gP v a) v.length v.length)) := rfl
  obtain ⟨L, eL⟩ : ∃ L, prTo (gP v a) v.length v.length = L := ⟨_, rfl⟩
  rw [eL] at HC hElen HE
  simp only [eL] at Hin
  have Hs3 := Lib.hid hs3
  have Hv6 := Lib.hid hv6
  clear hW00 hW01 hW0 hB1 hB2 hB3 hs1 hs2 hs3 x1 hx hi hF eL hx' hi' hv6
  go_enter Tryz.func31, Tryz.ntmps31
  go_upto_region 2 with (fail)
  rw [HW00.out, HW01.out, HW0.out]
  go_wp2_with fail
  refine HC.out.mono ?_
  rintro e w1 ⟨pe, ce, rfl, oE, hb1⟩
  have hBw := hB.trans (hb1.mono hB.size)
  have hcap := oE.cap
  have b1 := a1.below hb1 a1.lt
  have b2 := a2.below hb1 a2.lt
  have hsw := hb1.size
  go_wp2_with fail
  go_loopw [18] (fun t wr => ∃ k : Nat, k ≤ L.length ∧ t = .int .i64 (k : Int) ∧ Below w.heap.size w wr ∧ wr.heap.size ≥ w1.heap.size ∧ OwnP wr W0.heap.size pe ce L ∧ Arr wr (w.heap.size + 1) (grL (prE [])) 66 ∧ Arr wr (w.heap.size + 1 + 1) (grL (prE (L.take k))) 66) (fun t _ => L.length - (intOf t).toNat)
  case atStart => exact ⟨0, Nat.zero_le _, rfl, hBw, Nat.le_refl _, oE, b1, b2⟩
  case round =>
    obtain ⟨k, hk, rfl, hBr, hsr, oR, r1, r2⟩ := hrel
    by_cases hlt : k < L.length
    · have hk1 : (k : Int) < L.length := by omega
      obtain ⟨ge, rfl, hge, hge2, hce, hce2⟩ := oR.get hlt
      obtain ⟨h1, h2⟩ := Hin.out k hlt
      have htk := take_pget hlt
      obtain ⟨i, ei⟩ : ∃ i, (pget L k).1 = i := ⟨_, rfl⟩
      obtain ⟨j, ej⟩ : ∃ j, (pget L k).2 = j := ⟨_, rfl⟩
      have hpk := pget_eq ei ej
      rw [hpk] at htk
      rw [ei] at hce h1
      rw [ej] at hce2 h2
      clear ei ej hpk
      have hv := Hv6.out
      have hi1 : decide (i < 6) = true := by rw [decide_eq_true_iff]; omega
      have hi2 : decide ((i : Int) < 6) = true := by rw [decide_eq_true_iff]; omega
      have hi3 : decide ((0 : Int) ≤ i) = true := by rw [decide_eq_true_iff]; omega
      have hi4 : (i : Int) < 6 := by omega
      have hj1 : decide (j < 6) = true := by rw [decide_eq_true_iff]; omega
      have hj2 : decide ((j : Int) < 6) = true := by rw [decide_eq_true_iff]; omega
      have hj3 : decide ((0 : Int) ≤ j) = true := by rw [decide_eq_true_iff]; omega
      have hj4 : (j : Int) < 6 := by omega
      obtain ⟨W1, hW1⟩ : ∃ W, wr.alloc (.cells #[.int .i64 (i : Int), .int .i64 (j : Int)] 88) = W := ⟨_, rfl⟩
      have hb1 : Below wr.heap.size wr W1 := below_alloc hW1
      have bP : BoxV W1 wr.heap.size [.int .i64 (i : Int), .int .i64 (j : Int)] := BoxV.new rfl hW1
      have HW1 := Lib.hid hW1
      have p0 := bP.cell 0 _ rfl
      have p1 := bP.cell 1 _ rfl
      have y1 := r1.below hb1 r1.lt
      have y2 := r2.below hb1 r2.lt
      have fr := y2.free (i * 6 + j)
      have yc := y2.cell (grL_get _ (j := i * 6 + j) (by omega))
      have hs1 : W1.heap.size = wr.heap.size + 1 := by rw [← hW1]; simp
      clear hW1
      go_wp2_with fail
      rw [HW1.out]
      go_region
      have y3 := y2.set (j := i * 6 + j) (u := .bool true)
      rw [grL_set _ (by omega), ← prE_snoc, ← htk] at y3
      have z1 := (y1.other (S' := w.heap.size + 1 + 1) (j := i * 6 + j) (u := .bool true) (by omega)).drew1
      have z2 := y3.drew1
      have hBf : Below w.heap.size w ((W1.setCell ⟨w.heap.size + 1 + 1, i * 6 + j, none⟩ (.bool true)).drew) := ((hBr.trans (hb1.mono hBr.size)).setCell (p := ⟨w.heap.size + 1 + 1, i * 6 + j, none⟩) (by simp; omega) _).drew
      have hOf := ((oR.below hb1 (Nat.le_refl _)).keptBy (show W1.grownBy (W1.setCell ⟨w.heap.size + 1 + 1, i * 6 + j, none⟩ (.bool true)) (some (w.heap.size + 1 + 1)) from ⟨rfl, rfl, rfl, by rw [size_set]; exact Nat.le_refl _, fun k h1 h2 => Below.heap_setCell W1 ⟨w.heap.size + 1 + 1, i * 6 + j, none⟩ _ k (fun e => h2 (by rw [e]))⟩) (fun g hg e => by
        have := Hs3.out
        have h1 : ge = g := by simpa [blk] using hg
        have h2 : w.heap.size + 1 + 1 = g := by simpa using e
        omega)).below (below_drewN _ _ 1) (Nat.le_refl _)
      have hszf : w1.heap.size ≤ ((W1.setCell ⟨w.heap.size + 1 + 1, i * 6 + j, none⟩ (.bool true)).drew).heap.size := by
        show w1.heap.size ≤ (W1.setCell ⟨w.heap.size + 1 + 1, i * 6 + j, none⟩ (.bool true)).heap.size
        rw [size_set]; omega
      clear y3 yc fr p0 p1 bP
      go_wp2_with fail
      go_roundw
      case rel => exact ⟨k + 1, by omega, by go_num, hBf, hszf, hOf, z1, z2⟩
      case measure => (simp [intOf] <;> omega)
    · have hk1 : ¬ (k : Int) < L.length := by omega
      obtain rfl : k = L.length := by omega
      rw [List.take_length, ← HE.out] at r2
      have hr2 := r2.range
      have r3 := r1.setAll (vs' := grL (envE v a)) (by rw [grL_len, grL_len])
      have hth : wr.there (w.heap.size + 1) 0 (grL (envE v a)).toArray.size := by
        have := r1.there
        rw [grL_len] at this
        rw [show (grL (envE v a)).toArray.size = 36 from grL_len _]; exact this
      have hBe := below_setCells (S := w.heap.size + 1) (by omega) (grL (envE v a)) 0 _ hBr
      have hGs := infoG (envE v a)
      have hG1 := grL_one (envE v a)
      obtain ⟨G, hG⟩ : ∃ G, grL (envE v a) = G := ⟨_, rfl⟩
      rw [hG] at hr2 r3 hth hBe hGs hG1
      go_wp2_with (first | ((with_reducible show wpList _ _ _ (⟨some 29, _, _, _, _, _⟩ :: _) _ _); go_must (refine wpList_load_mid rfl 66 (.tmp 5) rfl (w.heap.size + 1 + 1) 0 (by simp [Act.eval, Act.put]) G _ hr2 Tryz.underlying66 rfl hGs ?_)) | ((with_reducible show wpList _ _ _ (⟨none, .store 66 _ _, _, _, _, _⟩ :: _) _ _); go_must (refine wpList_store_mid rfl 66 (.tmp 4) (.tmp 29) rfl (w.heap.size + 1) 0 G.toArray (by simp [Act.eval, Act.put]) (by simp [Act.eval, Act.put]) hth hGs hG1 ?_)))
      have hLv := run_loadVar_mid (P := Tryz.prog) _ (w.heap.size + 1) 0 66 G _ r3.range Tryz.underlying66 rfl hGs
      refine bodyPost_ret (v := .agg G.toArray) (by
        simp [results, Tryz.results31, asAddr, Sem.run_bind, Sem.run_pure, Result.andThen, hLv]) rfl ?_
      exact ⟨rfl, hBe⟩
end Go.Proofs.YtmcncflieoolmaaGreat

/- A division in rounds is content up to one good; circles are there while nobody is free; plain, no program. -/
namespace Go.Proofs.YtmcncflieoolmaaGreat
set_option linter.unusedVariables false
set_option linter.unusedSimpArgs false

theorem gP_true {v : List (List Int)} {a : List Int} {i k : Nat} : gP v a i k = true ↔ worth v a i (i : Int) < worth v a i (k : Int) := by unfold gP; rw [decide_eq_true_iff]
/-- Content up to one good. -/
def Ef1 (v : List (List Int)) (a : List Int) : Prop := ∀ i k, i < v.length → k < v.length → worth v a i (i : Int) < worth v a i (k : Int) → ∃ j, j < a.length ∧ iget a j = (k : Int) ∧ worth v a i (k : Int) - worth v a i (i : Int) ≤ iget (rget v i) j
theorem ef_calm {v : List (List Int)} {a : List Int} (h : Ef1 v a) : CalmOne v a := by
  rintro t ht
  unfold envT at ht
  obtain ⟨x, hx, rfl⟩ := List.mem_map.1 ht
  obtain ⟨h1, h2, h3⟩ := prTo_mem.1 hx
  rw [gP_true] at h3
  obtain ⟨j, hj, e1, e2⟩ := h x.1 x.2 h1 h2 h3
  rw [anyN_true]
  exact ⟨j, hj, by unfold fgP; rw [decide_eq_true_iff]; exact ⟨e1, e2⟩⟩
/-- A good for one whom nobody envies. -/
theorem ef_give {v : List (List Int)} {a : List Int} {g y : Nat} (hg : Gds v) (ha : AlcOk v a) (h : Ef1 v a) (hgl : g < a.length) (hf : iget a g = -1) (hy : y < v.length) (hc : ∀ k, k < v.length → gP v a k y = false) : Ef1 v (a.set g (y : Int)) := by
  intro i k hi hk hlt
  rw [worth_set hgl hf (by omega), worth_set hgl hf (by omega)] at hlt ⊢
  have hb := (gds_bid hg hi (by rw [← ha.1]; exact hgl : g < wid v)).1
  have hyi := hc i hi
  have hni : ¬ worth v a i (i : Int) < worth v a i (y : Int) := fun e => by rw [gP_true.2 e] at hyi; cases hyi
  by_cases ek : k = y
  · rw [ek, if_pos rfl] at hlt ⊢
    refine ⟨g, by rw [List.length_set]; exact hgl, by rw [iget_set hgl, if_pos rfl], ?_⟩
    by_cases eik : i = y
    · rw [eik] at hlt
      omega
    · rw [if_neg (show ¬ ((y : Nat) : Int) = (i : Int) by omega)] at hlt ⊢
      omega
  · rw [if_neg (show ¬ ((y : Nat) : Int) = (k : Int) by omega)] at hlt ⊢
    have hlt2 : worth v a i (i : Int) < worth v a i (k : Int) := by split at hlt <;> omega
    obtain ⟨j, hj, e1, e2⟩ := h i k hi hk hlt2
    have hne : g ≠ j := fun e => by subst e; omega
    refine ⟨j, by rw [List.length_set]; exact hj, by rw [iget_set hgl, if_neg hne]; exact e1, ?_⟩
    split <;> omega
/-- A circle of envy. -/
structure EnvC (v : List (List Int)) (a : List Int) (c : List Int) : Prop where
  circ : CircOk c v.length
  env : ∀ j, j < c.length → gP v a (iget c j).toNat (iget c ((j + 1) % c.length)).toNat = true
theorem circ_own {v : List (List Int)} {a c : List Int} (hC : EnvC v a c) (ha : AlcOk v a) {i : Nat} (hi : i < v.length) :
    worth v (passL a c) i (i : Int) = worth v a i (iget (toL c v.length) i) ∧ worth v a i (i : Int) ≤ worth v (passL a c) i (i : Int) ∧ ((∃ j, j < c.length ∧ iget c j = (i : Int)) → worth v a i (i : Int) < worth v (passL a c) i (i : Int)) := by
  have hw := worth_pass hC.circ ha.2 hi (i := i)
  by_cases hin : ∃ j, j < c.length ∧ iget c j = (i : Int)
  · obtain ⟨j, hj, e⟩ := hin
    have h1 := hC.env j hj
    have h2 := toL_on hC.circ hj
    rw [e, Int.toNat_natCast] at h1 h2
    have h3 := hC.circ.at' ((j + 1) % c.length) (Nat.mod_lt _ (by omega))
    rw [gP_true, show (((iget c ((j + 1) % c.length)).toNat : Nat) : Int) = iget c ((j + 1) % c.length) by omega, ← h2, ← hw] at h1
    exact ⟨hw, by omega, fun _ => h1⟩
  · have hti := toL_off hC.circ hi (fun j hj e => hin ⟨j, hj, e⟩)
    rw [hti] at hw
    exact ⟨by rw [hti]; exact hw, by omega, fun h => absurd h hin⟩
theorem ef_pass {v : List (List Int)} {a c : List Int} (hC : EnvC v a c) (ha : AlcOk v a) (h : Ef1 v a) : Ef1 v (passL a c) := by
  have hA := toL_isA hC.circ
  intro i k hi hk hlt
  obtain ⟨e1, e2, _⟩ := circ_own hC ha hi
  obtain ⟨t1, t2⟩ := isA_lt hA k hk
  have etk : ((itm (toL c v.length) k : Nat) : Int) = iget (toL c v.length) k := by simp only [itm]; omega
  have hwk := worth_pass hC.circ ha.2 hk (i := i)
  rw [← etk] at hwk
  rw [hwk] at hlt ⊢
  obtain ⟨j, hj, h1, h2⟩ := h i _ hi t2 (by omega)
  refine ⟨j, by rw [passL_len]; exact hj, ?_, by omega⟩
  rw [passL_get hj, h1]
  obtain ⟨y, hy, e3, e4⟩ := lastP_to hC.circ t2
  rw [e3]
  have := isA_inj hA hy hk (by rw [e4, etk])
  omega
/-- What the own bundles are worth. -/
def pot (v : List (List Int)) (a : List Int) : Int := sumTo (fun i => worth v a i (i : Int)) v.length
theorem pot_in {v : List (List Int)} {a : List Int} (hg : Gds v) (ha : AlcOk v a) : 0 ≤ pot v a ∧ pot v a ≤ 60000 := by
  have hw : ∀ i, i < v.length → 0 ≤ worth v a i (i : Int) ∧ worth v a i (i : Int) ≤ 10000 := fun i hi => by
    have := worthUp_in hg hi (i : Int) a.length (by rw [ha.1]; exact Nat.le_refl _) (a := a)
    have hm := hg.2.2.1
    unfold worth
    have := ha.1
    omega
  refine ⟨sumTo_nonneg fun i hi => (hw i hi).1, ?_⟩
  have h1 := sumTo_le (f := fun i => worth v a i (i : Int)) (g := fun _ => 10000) fun i hi => (hw i hi).2
  rw [sumTo_const] at h1
  have := hg.2.1
  unfold pot
  omega
theorem sumTo_ltG {f g : Nat → Int} {n k : Nat} (h : ∀ i, i < n → f i ≤ g i) (hk : k < n) (hl : f k < g k) : sumTo f n < sumTo g n := by
  have h1 := sumTo_le (f := fun x => if x = k then g k else f x) (g := g) (n := n) fun i hi => by
    by_cases e : i = k
    · simp [e]
    · simp [e]; exact h i hi
  rw [sumTo_update f k (g k) hk] at h1
  omega
theorem pot_pass {v : List (List Int)} {a c : List Int} (hC : EnvC v a c) (ha : AlcOk v a) (hc : 0 < c.length) : pot v a < pot v (passL a c) := by
  have h0 := hC.circ.at' 0 hc
  have hk : (iget c 0).toNat < v.length := by omega
  exact sumTo_ltG (fun i hi => (circ_own hC ha hi).2.1) hk ((circ_own hC ha hk).2.2 ⟨0, hc, by omega⟩)

/-- A way through the graph. -/
structure WayC (E : Nat → Bool) (l : List Int) : Prop where
  pos : 0 < l.length
  at' : ∀ j, j < l.length → 0 ≤ iget l j ∧ iget l j < 6
  inj : ∀ i j, i < j → j < l.length → iget l i ≠ iget l j
  edge : ∀ j, j + 1 < l.length → E ((iget l j).toNat * 6 + (iget l (j + 1)).toNat) = true
theorem hasB_false {xs : List Int} {x : Int} (h : hasB xs x = false) {j : Nat} (hj : j < xs.length) : iget xs j ≠ x := fun e => by
  have : hasB xs x = true := by
    unfold hasB; rw [decide_eq_true_iff, ← e, iget_of hj]; exact List.getElem_mem hj
  rw [this] at h; cases h
theorem WayC.snoc {E : Nat → Bool} {l : List Int} (h : WayC E l) {k : Nat} (hk : k < 6) (he : E (lastN l * 6 + k) = true) (hn : hasB l (k : Int) = false) : WayC E (l ++ [(k : Int)]) := by
  have hp := h.pos
  have hg : ∀ j, iget (l ++ [(k : Int)]) j = if j < l.length then iget l j else iget [(k : Int)] (j - l.length) := fun j => iget_append
  refine ⟨by rw [List.length_append]; omega, fun j hj => ?_, fun i j hij hj => ?_, fun j hj => ?_⟩
  · rw [List.length_append, List.length_singleton] at hj
    rw [hg]
    split
    · exact h.at' j ‹_›
    · rw [show j - l.length = 0 by omega]; simp [iget]; omega
  · rw [List.length_append, List.length_singleton] at hj
    rw [hg, hg, if_pos (by omega : i < l.length)]
    split
    · exact h.inj i j hij ‹_›
    · rw [show j - l.length = 0 by omega, show iget [(k : Int)] 0 = (k : Int) from rfl]
      exact hasB_false hn (by omega)
  · rw [List.length_append, List.length_singleton] at hj
    rw [hg, hg, if_pos (by omega : j < l.length)]
    split
    · exact h.edge j ‹_›
    · have : j = l.length - 1 := by omega
      subst this
      rw [show l.length - 1 + 1 - l.length = 0 by omega, show iget [(k : Int)] 0 = (k : Int) from rfl, Int.toNat_natCast]
      exact he
theorem close_way {E : Nat → Bool} : ∀ (m : Nat) (l r : List Int), WayC E l → CloseP E m l r → WayC E r ∧ E (lastN r * 6 + (iget r 0).toNat) = true ∧ r.length = l.length + m
  | 0, l, r, h, hc => by obtain ⟨rfl, he⟩ := hc; exact ⟨h, he, rfl⟩
  | m + 1, l, r, h, hc => by
    obtain ⟨k, _, hk, he, hn, hc⟩ := hc
    have := close_way m _ r (h.snoc hk he hn) hc
    rw [List.length_append, List.length_singleton] at this
    exact ⟨this.1, this.2.1, by omega⟩
theorem close_env {v : List (List Int)} {a c : List Int} {m i : Nat} (hv : v.length ≤ 6) (hi : i < 6) (hc : CloseP (envE v a) m [(i : Int)] c) : EnvC v a c ∧ c.length = m + 1 := by
  have h0 : WayC (envE v a) [(i : Int)] := ⟨by simp, fun j hj => by
    have : j = 0 := by simp at hj; omega
    subst this; simp [iget]; omega, fun i j h1 h2 => by simp at h2; omega, fun j hj => by simp at hj⟩
  obtain ⟨hw, he, hl⟩ := close_way m _ c h0 hc
  have hE : ∀ j, j < c.length → envE v a ((iget c j).toNat * 6 + (iget c ((j + 1) % c.length)).toNat) = true := fun j hj => by
    by_cases h : j + 1 < c.length
    · rw [Nat.mod_eq_of_lt h]; exact hw.edge j h
    · have : j = c.length - 1 := by omega
      rw [show j + 1 = c.length by omega, Nat.mod_self, this]
      exact he
  have hB := fun j hj => (envE_true hv (by have := hw.at' ((j + 1) % c.length) (Nat.mod_lt _ hw.pos); omega)).1 (hE j hj)
  refine ⟨⟨⟨fun j hj => ?_, hw.inj⟩, fun j hj => (hB j hj).2.2⟩, by simp at hl; omega⟩
  have := (hB j hj).1
  have := hw.at' j hj
  omega

/-- While nobody is free there is a circle. -/
theorem circ_ex {v : List (List Int)} {a : List Int} (h0 : 0 < v.length) (hv : v.length ≤ 6) (hf : FreeR (envE v a) v.length (-1)) : ∃ m i r, 1 ≤ m ∧ m < 6 ∧ i < 6 ∧ CloseP (envE v a) m [((i : Nat) : Int)] r := by
  have hall : ∀ i, i < v.length → ∃ k, k < v.length ∧ envE v a (k * 6 + i) = true := by
    rcases hf with ⟨_, h⟩ | ⟨i, e, _⟩
    · exact h
    · omega
  obtain ⟨f, hfl, hfE⟩ : ∃ f : Nat → Nat, (∀ x, x < v.length → f x < v.length) ∧ ∀ x, x < v.length → envE v a (f x * 6 + x) = true := by
    refine ⟨fun x => if h : x < v.length then (hall x h).choose else 0, fun x hx => ?_, fun x hx => ?_⟩
    · simp only [dif_pos hx]; exact (hall x hx).choose_spec.1
    · simp only [dif_pos hx]; exact (hall x hx).choose_spec.2
  obtain ⟨M, hM1, _, hM⟩ := it_back hfl h0
  obtain ⟨L, _, hP0⟩ := per_ex hM1 hM
  have hz0 := itN_lt hfl v.length 0 h0
  -- the least one of the circle
  obtain ⟨s, hs, hmin⟩ : ∃ s, s < L ∧ ∀ k, itN f s (itN f v.length 0) ≤ itN f k (itN f v.length 0) := by
    have : ∀ K, 1 ≤ K → ∃ s, s < K ∧ ∀ k, k < K → itN f s (itN f v.length 0) ≤ itN f k (itN f v.length 0) := by
      intro K
      induction K with
      | zero => intro h; omega
      | succ K ih =>
        intro _
        by_cases hK : K = 0
        · subst hK; exact ⟨0, by omega, fun k hk => by rw [show k = 0 by omega]; exact Nat.le_refl _⟩
        · obtain ⟨s, hs, h⟩ := ih (by omega)
          by_cases hle : itN f s (itN f v.length 0) ≤ itN f K (itN f v.length 0)
          · refine ⟨s, by omega, fun k hk => ?_⟩
            by_cases e : k = K
            · rw [e]; exact hle
            · exact h k (by omega)
          · refine ⟨K, by omega, fun k hk => ?_⟩
            by_cases e : k = K
            · rw [e]; exact Nat.le_refl _
            · have := h k (by omega); omega
    obtain ⟨s, hs, h⟩ := this L hP0.1
    refine ⟨s, hs, fun k => ?_⟩
    rw [per_mod hP0 k]
    exact h _ (Nat.mod_lt _ hP0.1)
  obtain ⟨μ, hμ⟩ : ∃ μ, itN f s (itN f v.length 0) = μ := ⟨_, rfl⟩
  have hP : PerC f μ L := hμ ▸ per_any hP0 s
  have hμl : μ < v.length := hμ ▸ itN_lt hfl s _ hz0
  have hle : ∀ k, μ ≤ itN f k μ := fun k => by
    have := hmin (s + k)
    rw [itN_add, hμ] at this
    exact this
  have hlt : ∀ k, itN f k μ < v.length := fun k => itN_lt hfl k μ hμl
  have hL6 : L ≤ 6 := by
    have := pigeonC L v.length (fun k => itN f k μ) (fun j _ => hlt j) (fun a b hab hb => per_inj hP hab hb)
    omega
  have hself : ∀ x, x < 6 → envE v a (x * 6 + x) = false := fun x hx => by
    cases h : envE v a (x * 6 + x) with
    | false => rfl
    | true =>
      have := ((envE_true hv hx).1 h).2.2
      rw [gP_true] at this
      omega
  have hL2 : 2 ≤ L := by
    apply Classical.byContradiction
    intro h
    have h1 : L = 1 := by have := hP.1; omega
    have h2 := hP.2.1
    rw [h1] at h2
    have h3 := hfE μ hμl
    rw [show f μ = μ from h2, hself μ (by omega)] at h3
    cases h3
  -- the circle backwards
  obtain ⟨pre, hpre⟩ : ∃ pre : Nat → List Int, pre = fun s => (List.range (s + 1)).map fun (j : Nat) => ((itN f (L - j) μ : Nat) : Int) := ⟨_, rfl⟩
  have hpl : ∀ s, (pre s).length = s + 1 := fun s => by rw [hpre]; simp
  have hpg : ∀ s j, j < s + 1 → iget (pre s) j = (itN f (L - j) μ : Int) := fun s j hj => by rw [hpre]; simp [iget, hj]
  have hps : ∀ s, pre (s + 1) = pre s ++ [(itN f (L - (s + 1)) μ : Int)] := fun s => by rw [hpre]; simp only [List.range_succ (n := s + 1), List.map_append]; rfl
  have hp0 : ∀ s, (iget (pre s) 0).toNat = μ := fun s => by rw [hpg s 0 (by omega), Nat.sub_zero, hP.2.1]; omega
  have hpL : ∀ s, lastN (pre s) = itN f (L - s) μ := fun s => by unfold lastN; rw [hpl, Nat.add_sub_cancel, hpg s s (by omega)]; omega
  have hE : ∀ j, envE v a (itN f (j + 1) μ * 6 + itN f j μ) = true := fun j => hfE _ (hlt j)
  have key : ∀ m, m ≤ L - 1 → CloseP (envE v a) m (pre (L - 1 - m)) (pre (L - 1)) := by
    intro m
    induction m with
    | zero =>
      intro _
      refine ⟨by rw [Nat.sub_zero], ?_⟩
      rw [hpL, hp0, show L - (L - 1 - 0) = 0 + 1 by omega]
      exact hE 0
    | succ m ih =>
      intro hm
      have h1 := ih (by omega)
      rw [show L - 1 - m = (L - 1 - (m + 1)) + 1 by omega, hps] at h1
      rw [show L - (L - 1 - (m + 1) + 1) = m + 1 by omega] at h1
      refine ⟨itN f (m + 1) μ, ?_, by have := hlt (m + 1); omega, ?_, ?_, h1⟩
      · rw [hp0]
        have h2 := hle (m + 1)
        have h3 := hP.2.2 (m + 1) (by omega) (by omega)
        omega
      · rw [hpL, show L - (L - 1 - (m + 1)) = m + 1 + 1 by omega]
        exact hE (m + 1)
      · cases hh : hasB (pre (L - 1 - (m + 1))) ((itN f (m + 1) μ : Nat) : Int) with
        | false => rfl
        | true =>
          exfalso
          unfold hasB at hh
          rw [decide_eq_true_iff] at hh
          obtain ⟨j, hj, e⟩ := List.getElem_of_mem hh
          rw [← iget_of hj, hpg _ j (by rw [hpl] at hj; exact hj)] at e
          rw [hpl] at hj
          have e2 : itN f (L - j) μ = itN f (m + 1) μ := by omega
          by_cases hj0 : j = 0
          · subst hj0
            rw [Nat.sub_zero, hP.2.1] at e2
            exact hP.2.2 (m + 1) (by omega) (by omega) e2.symm
          · exact per_inj hP (a := m + 1) (b := L - j) (by omega) (by omega) e2.symm
  have h1 := key (L - 1) (Nat.le_refl _)
  rw [Nat.sub_self] at h1
  refine ⟨L - 1, μ, pre (L - 1), by omega, by omega, by omega, ?_⟩
  have : pre 0 = [((μ : Nat) : Int)] := by rw [hpre]; simp [hP.2.1]
  rw [this] at h1
  exact h1

/-- What a division in rounds comes to. -/
inductive RunTo (v : List (List Int)) : List Int → List Int → Prop
  | start : RunTo v [] (List.replicate (wid v) (-1))
  | pass {o a c : List Int} {m i : Nat} : RunTo v o a → FreeR (envE v a) v.length (-1) → i < 6 → 1 ≤ m → CloseP (envE v a) m [(i : Int)] c → RunTo v o (passL a c)
  | give {o a : List Int} {z g : Int} : RunTo v o a → FreeR (envE v a) v.length z → 0 ≤ z → RunTo v (o ++ [g]) (a.set g.toNat z)
/-- Goods, each once. -/
def OrdT (o : List Int) (m : Nat) : Prop := (∀ j, j < o.length → 0 ≤ iget o j ∧ iget o j < m) ∧ ∀ i j, i < j → j < o.length → iget o i ≠ iget o j
structure RunI (v : List (List Int)) (o a : List Int) : Prop where
  ok : AlcOk v a
  ef : Ef1 v a
  got : ∀ j, j < wid v → (0 ≤ iget a j ↔ (j : Int) ∈ o)
theorem FreeR.unenv {v : List (List Int)} {a : List Int} {z : Int} (hv : v.length ≤ 6) (h : FreeR (envE v a) v.length z) (h0 : 0 ≤ z) : ∃ y : Nat, z = y ∧ y < v.length ∧ ∀ k, k < v.length → gP v a k y = false := by
  rcases h with ⟨e, _⟩ | ⟨i, e, hi, hn, _⟩
  · omega
  · refine ⟨i, e, hi, fun k hk => ?_⟩
    cases hh : gP v a k i with
    | false => rfl
    | true =>
      have := (envE_true (a := a) hv (by omega : i < 6)).2 ⟨hk, hi, hh⟩
      rw [hn k hk] at this; cases this
theorem run_inv {v : List (List Int)} (hg : Gds v) {o a : List Int} (h : RunTo v o a) : OrdT o (wid v) → RunI v o a := by
  have hv := hg.2.1
  induction h with
  | start =>
    intro _
    have hr : ∀ j, j < wid v → iget (List.replicate (wid v) (-1)) j = -1 := fun j hj => by simp [iget, hj]
    have hz : ∀ i k, worth v (List.replicate (wid v) (-1)) i ((k : Nat) : Int) = 0 := fun i k => by
      have : ∀ m, m ≤ wid v → worthUp v (List.replicate (wid v) (-1)) i ((k : Nat) : Int) m = 0 := by
        intro m
        induction m with
        | zero => intro _; rfl
        | succ m ih => intro hm; rw [worthUp_ne (by rw [hr m (by omega)]; omega), ih (by omega)]
      unfold worth
      rw [List.length_replicate]
      exact this _ (Nat.le_refl _)
    refine ⟨⟨by simp, fun j hj => ?_⟩, fun i k _ _ h => ?_, fun j hj => ?_⟩
    · rw [List.length_replicate] at hj; rw [hr j hj]; omega
    · rw [hz, hz] at h; omega
    · rw [hr j hj]; simp
  | pass hr hf hi hm hc ih =>
    rename_i o a c m i
    intro ho
    have hI := ih ho
    obtain ⟨hC, _⟩ := close_env hv hi hc
    refine ⟨⟨by rw [passL_len]; exact hI.ok.1, passL_ok hC.circ hI.ok.2⟩, ef_pass hC hI.ok hI.ef, fun j hj => ?_⟩
    have hjl : j < a.length := by rw [hI.ok.1]; exact hj
    rw [passL_get hjl, ← hI.got j hj]
    have hj2 := hI.ok.2 j hjl
    by_cases h0 : 0 ≤ iget a j
    · obtain ⟨k, hk⟩ : ∃ k : Nat, iget a j = k := ⟨(iget a j).toNat, (Int.toNat_of_nonneg h0).symm⟩
      rw [hk] at hj2 ⊢
      obtain ⟨y, _, e, _⟩ := lastP_to hC.circ (k := k) (by omega)
      rw [e]; omega
    · rcases lastP_spec c (iget a j) c.length with ⟨h3, _⟩ | ⟨i', h3, _, h5⟩
      · rw [h3]
      · have := hC.circ.at' ((i' + 1) % c.length) (Nat.mod_lt _ (by omega))
        omega
  | give hr hf hz ih =>
    rename_i o a z g
    intro ho
    have ho' : OrdT o (wid v) := ⟨fun j hj => by
      have := ho.1 j (by rw [List.length_append]; omega)
      rwa [iget_append, if_pos hj] at this, fun i j hij hj => by
      have := ho.2 i j hij (by rw [List.length_append]; omega)
      rwa [iget_append, if_pos (by omega), iget_append, if_pos hj] at this⟩
    have hI := ih ho'
    obtain ⟨y, rfl, hy, hn⟩ := hf.unenv hv hz
    have hgl := ho.1 o.length (by rw [List.length_append]; simp)
    rw [iget_append, if_neg (by omega), Nat.sub_self, show iget [g] 0 = g from rfl] at hgl
    have hgn : g ∉ o := fun hm => by
      obtain ⟨j, hj, e⟩ := List.getElem_of_mem hm
      have := ho.2 j o.length hj (by rw [List.length_append]; simp)
      rw [iget_append, if_pos hj, iget_append, if_neg (by omega), Nat.sub_self, show iget [g] 0 = g from rfl, iget_of hj] at this
      exact this e
    have hgt : g.toNat < wid v := by omega
    have hal := hI.ok.1
    have hfree : iget a g.toNat = -1 := by
      have h1 := (hI.got g.toNat hgt)
      rw [show ((g.toNat : Nat) : Int) = g by omega] at h1
      have h2 := hI.ok.2 g.toNat (by omega)
      have h3 : ¬ 0 ≤ iget a g.toNat := fun e => hgn (h1.1 e)
      omega
    refine ⟨⟨by rw [List.length_set]; exact hal, fun j hj => ?_⟩, ef_give hg hI.ok hI.ef (by omega) hfree hy hn, fun j hj => ?_⟩
    · rw [List.length_set] at hj
      rw [iget_set (by omega)]
      split
      · omega
      · exact hI.ok.2 j hj
    · rw [iget_set (by omega), List.mem_append, List.mem_singleton]
      by_cases e : g.toNat = j
      · rw [if_pos e]
        constructor
        · intro _; right; omega
        · intro _; omega
      · rw [if_neg e, hI.got j hj]
        constructor
        · exact .inl
        · rintro (h | h)
          · exact h
          · omega
end Go.Proofs.YtmcncflieoolmaaGreat
