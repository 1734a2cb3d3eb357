/- The walks of better.improve, Find and Chain, for valid goods of few agents and goods; no condition beside. -/
import Derived.Test.YtmcncflieoolmaaGreatTopTopGoodsm11
import Derived.Test.YtmcncflieoolmaaGreatTopTopGoodsm35
import Derived.Test.YtmcncflieoolmaaGreatTopTopGoodsm7
import Derived.RangeFuncCalls
import Derived.Deep.RegionHeld3
import Derived.Test.YtmcncflieoolmaaGreatTopTopGoodsm2
import Derived.Test.YtmcncflieoolmaaGreatTopTopGoodsm8
/- The walks of better.improve, Find and Chain, for valid goods of few agents and goods; no condition beside. -/
namespace Go.Proofs.YtmcncflieoolmaaGreat
set_option linter.unusedSimpArgs false
open Go.ChangeShapes Go.WideShapes Go.ChangeAt Go.RowKit Go.Deep
set_option linter.unusedVariables false
attribute [local go_sem] Oper.semAt_some

theorem run_store_func {P : Program} {w : World} {ad : Addr} {m : Mode} (f : Fn) (x y : Array Value) : (store ad (.func f x y) m).run P w = stored P w ad (.func f x y) m := run_store P w ad _ m rfl
attribute [local go_sem] run_store_func
theorem dig_alc {v : List (List Int)} {a : List Int} (h : DigL v.length (wid v) a) : AlcOk v a := ⟨h.1, fun j hj => by have := h.2 j (by rw [← h.1]; exact hj); omega⟩

set_option maxHeartbeats 4000000 in
theorem better1_any (B5 B2 : Nat) (pn : Option Addr) (dn : Nat) (now : List Int) (p : Option Addr) (c : Nat) (v : List (List Int)) (q : Option Addr) (d : Nat) (x : List Int) (w : World) (h5 : w.cell? ⟨B5, 0, none⟩ = some (.slice pn v.length dn)) (h2 : w.cell? ⟨B2, 0, none⟩ = some (.slice p v.length c)) (hn : Ints w pn dn now) (hnl : now.length = v.length) (hx : Mat w p c v) (hi : Ints w q d x) (hg : Gds v) (ha : AlcOk v x) :
    Calls Tryz.prog 78 #[.slice q x.length d, .pointer (some ⟨B5, 0, none⟩), .pointer (some ⟨B2, 0, none⟩)] w fun e w' => e = .returned (.bool (aboveB now (ownL v x))) ∧ Below w.heap.size w w' := by
  have HO := Lib.hid (fun W (h : Below w.heap.size w W) => owns_any p c v q d x W (hx.below h (Nat.le_refl _)) (hi.below h (Nat.le_refl _)) hg ha)
  have HA := Lib.hid (fun (q' : Option Addr) (d' : Nat) W (h : Below w.heap.size w W) (h2 : Ints W q' d' (ownL v x)) => (by
    have := above_any pn q' dn d' now (ownL v x) W (hn.below h (Nat.le_refl _)) h2 (hnl.trans (ownL_len v x).symm)
    rw [hnl, ownL_len] at this
    exact this : Calls Tryz.prog 79 #[.slice pn v.length dn, .slice q' v.length d'] W fun e w' => e = .returned (.bool (aboveB now (ownL v x))) ∧ Below W.heap.size W w'))
  have hl5 := World.block_lt_of_cell? _ _ h5
  have hl2 := World.block_lt_of_cell? _ _ h2
  have Hmk : Hid (∀ W, Below w.heap.size w W → (W.cell? ⟨B5, 0, none⟩ = some (.slice pn v.length dn) ∧ W.cell? ⟨B2, 0, none⟩ = some (.slice p v.length c) ∧ Below w.heap.size w W)) := fun W hG => ⟨(hG.cell (p := ⟨B5, 0, none⟩) hl5).trans h5, (hG.cell (p := ⟨B2, 0, none⟩) hl2).trans h2, hG⟩
  clear hn hx hi hg ha hnl h5 h2 hl5 hl2
  go_enter Tryz.func78, Tryz.ntmps78
  go_wp2_with fail
  go_region_held3 (fun W => W.cell? ⟨B5, 0, none⟩ = some (.slice pn v.length dn) ∧ W.cell? ⟨B2, 0, none⟩ = some (.slice p v.length c) ∧ Below w.heap.size w W)
    (first | assumption | exact Hmk.out _ hGc | exact Hmk.out _ hGb | exact Hmk.out _ (below_drewN w.heap.size w 1) | exact Hmk.out _ (Below.refl _ _))
    (first
      | (go_at_call 77; refine (HO.out _ (by go_split_ands; assumption)).mono ?_; rintro e w3 ⟨qq, dq, rfl, hMg, hbg⟩; have hGb : Below w.heap.size w w3 := Below.trans (by go_split_ands; assumption) (hbg.mono (Below.size (B := w.heap.size) (w := w) (by go_split_ands; assumption))))
      | (go_at_call 79; refine (HA.out _ _ _ hGb hMg).mono ?_; rintro e w4 ⟨rfl, hb4⟩; have hGc : Below w.heap.size w w4 := hGb.trans (hb4.mono hGb.size)))
  go_wp2_with fail
  go_ret
  exact ⟨rfl, hGc⟩
theorem all_any (p : Option Addr) (c n : Nat) (w : World) :
    Calls Tryz.prog 80 #[.agg #[.slice p n c]] w fun e w' => e = .returned (.func (.func 113) #[] #[.pointer (some ⟨w.heap.size, 0, none⟩)]) ∧ w' = w.alloc (.cells #[.slice p n c] 24) := by
  go_enter Tryz.func80, Tryz.ntmps80
  go_wp2
  go_ret
  exact ⟨rfl, rfl⟩
theorem keepsOthers_below {A B : World} (h : Below A.heap.size A B) : KeepsOthers A B := ⟨h.size, fun k o hk _ => (h.block k (Array.getElem?_eq_some_iff.1 hk).1).trans hk⟩
/-- The improvement, or none. -/
def ImpR (n : Nat) (v : List (List Int)) (a : List Int) (e : Ending) (w' : World) : Prop :=
  (e = .returned (.slice none 0 0) ∧ ∀ b, DigL v.length (wid v) b → ¬ AboveP (ownL v a) (ownL v b)) ∨ ∃ b g d', n ≤ g ∧ e = .returned (.slice (some ⟨g, 0, none⟩) (wid v) d') ∧ DigL v.length (wid v) b ∧ AboveP (ownL v a) (ownL v b) ∧ Ints w' (some ⟨g, 0, none⟩) d' b
def ImpX (S R : Nat) (w : World) (v : List (List Int)) (a : List Int) (_ : List (List Int)) (W : World) : Prop :=
  ∃ b g d', S ≤ g ∧ OneV W R (.slice (some ⟨g, 0, none⟩) (wid v) d') 25 ∧ DigL v.length (wid v) b ∧ AboveP (ownL v a) (ownL v b) ∧ Ints W (some ⟨g, 0, none⟩) d' b ∧ Below S w W
theorem impX_stab (S R n : Nat) (w : World) (v : List (List Int)) (a : List Int) (hS : S ≤ n) : StabX n (ImpX S R w v a) := by
  rintro s A B ⟨b, g, d', h0, h1, h2, h3, h4, h5⟩ hb
  refine ⟨b, g, d', h0, h1.heap (hb.same R h1.lt (IsCells.of_cell h1.cell)), h2, h3, h4.keep hb.bel.size (fun ad e hpos => ?_), h5.trans (hb.bel.mono hS)⟩
  cases e
  have hc := h4.at hpos
  exact hb.same g (World.block_lt_of_cell? _ _ hc) (IsCells.of_cell hc)
theorem above_len {v : List (List Int)} {a b : List Int} (hb : DigL v.length (wid v) b) (ha : a.length = wid v) (h : AboveP (ownL v a) (ownL v b)) : b ≠ [] := by
  rintro rfl
  have h0 := hb.1
  simp at h0
  have ha' : a = [] := List.eq_nil_of_length_eq_zero (by omega)
  subst ha'
  exact h.2 rfl

set_option maxRecDepth 100000 in
set_option maxHeartbeats 8000000 in
theorem improve_any (p : Option Addr) (c : Nat) (v : List (List Int)) (q : Option Addr) (d : Nat) (a : List Int) (w : World) (hx : Mat w p c v) (hi : Ints w q d a) (hg : Gds v) (ha : AlcOk v a) :
    Calls Tryz.prog 41 #[.agg #[.slice p v.length c], .slice q a.length d] w fun e w' => ImpR w.heap.size v a e w' ∧ Below w.heap.size w w' := by
  obtain ⟨W0, hW0⟩ : ∃ W, w.alloc (.cells #[.slice p v.length c] 24) = W := ⟨_, rfl⟩
  obtain ⟨W1, hW1⟩ : ∃ W, W0.alloc (.cells #[.slice none 0 0] 25) = W := ⟨_, rfl⟩
  have hB0 := below_alloc hW0
  have hB1 := below_alloc hW1
  have hs0 : W0.heap.size = w.heap.size + 1 := by rw [← hW0]; simp
  have hs1 : W1.heap.size = w.heap.size + 2 := by rw [← hW1]; simp [hs0]
  have g0 : OneV W1 w.heap.size (.slice p v.length c) 24 := (OneV.new rfl hW0).below hB1 (by omega)
  have r0 : OneV W1 (w.heap.size + 1) (.slice none 0 0) 25 := OneV.new hs0 hW1
  have hBw : Below w.heap.size w W1 := hB0.trans (hB1.mono hB0.size)
  have hx1 := hx.below hBw (Nat.le_refl _)
  have hi1 := hi.below hBw (Nat.le_refl _)
  have HW0 := Lib.hid hW0
  have HW1 := Lib.hid hW1
  have Hg := Lib.hid hg
  have Ha := Lib.hid ha
  have CO := Lib.hid (owns_any p c v q d a W1 hx1 hi1 hg ha)
  have kg0 := g0.cell
  clear hW0 hW1 hg ha hx hi
  refine (callsIn_wide (n := 8)).1 ?_
  refine callsIn_of_wp_marks Tryz.func41 rfl trivial ?_ rfl
  simp only [Tryz.ntmps41, List.size_toArray, List.length_cons, List.length_nil, Nat.reduceAdd, Nat.reduceSub, Array.replicate_succ, Array.replicate_zero, List.push_toArray, List.append_toArray, List.nil_append, List.cons_append]
  gi_wp2
  rw [HW0.out, HW1.out]
  refine ⟨trivial, (callsIn_wide.2 CO.out).mono ?_⟩
  rintro e w2 ⟨pn, dn, rfl, hN, hb⟩
  have hsz2 := hb.size
  have g2 := g0.below hb (by omega)
  have r2 := r0.below hb (by omega)
  have hx2 := hx1.below hb (Nat.le_refl _)
  have hB2 : Below w.heap.size w w2 := hBw.trans (hb.mono (by omega))
  clear hb kg0 g0 r0 hx1 hi1 CO hBw
  obtain ⟨W3, hW3⟩ : ∃ W, w2.alloc (.cells #[.slice pn v.length dn] 25) = W := ⟨_, rfl⟩
  obtain ⟨W4, hW4⟩ : ∃ W, W3.alloc (.cells #[.func (.func 78) #[] #[.pointer (some ⟨w2.heap.size, 0, none⟩), .pointer (some ⟨w.heap.size, 0, none⟩)]] 29) = W := ⟨_, rfl⟩
  obtain ⟨w5, hw5⟩ : ∃ W, W4.alloc (.cells #[.slice p v.length c] 24) = W := ⟨_, rfl⟩
  have hs3 : W3.heap.size = w2.heap.size + 1 := by rw [← hW3]; simp
  have hs4 : W4.heap.size = w2.heap.size + 2 := by rw [← hW4]; simp [hs3]
  have hs5 : w5.heap.size = w2.heap.size + 3 := by rw [← hw5]; simp [hs4]
  have hB3 := below_alloc hW3
  have hB4 := below_alloc hW4
  have hB5 := below_alloc hw5
  have hB24 : Below w2.heap.size w2 W4 := hB3.trans (hB4.mono (by omega))
  have hB25 : Below w2.heap.size w2 w5 := hB24.trans (hB5.mono (by omega))
  have n5 : OneV w5 w2.heap.size (.slice pn v.length dn) 25 := ((OneV.new rfl hW3).below hB4 (by omega)).below hB5 (by omega)
  have f4 : OneV W4 W3.heap.size _ 29 := OneV.new rfl hW4
  have f5 : OneV w5 W3.heap.size _ 29 := f4.below hB5 (by omega)
  have a5 : OneV w5 W4.heap.size (.slice p v.length c) 24 := OneV.new rfl hw5
  have g5 := g2.below hB25 (by omega)
  have r5 := r2.below hB25 (by omega)
  have hx5 := hx2.below hB25 (Nat.le_refl _)
  have hN5 := hN.below hB25 (Nat.le_refl _)
  have hBw5 : Below w.heap.size w w5 := hB2.trans (hB25.mono (by omega))
  have kg4 : ((w2.alloc (.cells #[.slice pn v.length dn] 25)).alloc (.cells #[.func (.func 78) #[] #[.pointer (some ⟨w2.heap.size, 0, none⟩), .pointer (some ⟨w.heap.size, 0, none⟩)]] 29)).cell? ⟨w.heap.size, 0, none⟩ = some (.slice p v.length c) := by
    rw [hW3, hW4]; exact (g2.below hB24 (by omega)).cell
  have HW3 := Lib.hid hW3
  have HW4 := Lib.hid hW4
  have Hw5 := Lib.hid hw5
  have CA := all_any p c v.length W4
  rw [hw5] at CA
  rw [hs4] at CA a5
  rw [hs3] at f5
  have CA := Lib.hid CA
  clear hW3 hW4 hw5 hB3 hB4 hB5 hB24 hB25 f4 g2 r2 hx2 hN
  gi_wp2
  rw [HW3.out, HW4.out]
  refine ⟨trivial, (callsIn_wide.2 CA.out).mono ?_⟩
  rintro e w6 ⟨rfl, rfl⟩
  gi_wp2
  obtain ⟨n0, hn0⟩ : ∃ n, w6.heap.size = n := ⟨_, rfl⟩
  have Hn0 := Lib.hid hn0
  have h0 := Hg.out.1
  refine range_row (by omega) (gf := 113) (lb := #[.pointer (some ⟨w2.heap.size + 2, 0, none⟩)]) rfl (enters_of Tryz.func113 (by kernel_rfl) rfl)
    (all1_seq (w2.heap.size + 2) p c v h0 Hg.out.2.1 Hg.out.2.2.1) rfl
    (fun pre W => Below w6.heap.size w6 W ∧ ∀ b ∈ pre, ¬ AboveP (ownL v a) (ownL v b)) (ImpX w.heap.size (w.heap.size + 1) w v a)
    (fun s A B hs hb => ⟨hs.1.trans hb, hs.2⟩) (impX_stab _ _ _ _ _ _ (by omega))
    (fun s A hs => ⟨(hs.1.cell (p := ⟨w2.heap.size + 2, 0, none⟩) a5.lt).trans a5.cell, hx5.below hs.1 (Nat.le_refl _)⟩) ⟨Below.refl _ _, fun b hb => by cases hb⟩ ?a1 ?assign ?body ?done ?stop
  case assign =>
    intro l x W K hK
    unfold encR
    gi_wp2
    exact hK
  case body =>
    rintro l pre ⟨px, cx, x⟩ W ⟨hbW, hpre⟩ hsz hIx hP
    simp only at hIx hP
    have kf := (f5.below hbW f5.lt)
    have CB := Lib.hid (better1_any w2.heap.size w.heap.size pn dn (ownL v a) p c v px cx x W (n5.below hbW n5.lt).cell (g5.below hbW g5.lt).cell (hN5.below hbW (Nat.le_refl _)) (ownL_len v a) (hx5.below hbW (Nat.le_refl _)) hIx Hg.out (dig_alc hP))
    have ckf := kf.cell
    have HIx := Lib.hid hIx
    have hl10 : x.length ≤ 10 := by rw [hP.1]; exact Hg.out.2.2.1
    gi_wp2
    refine ⟨trivial, (CallsIn.inRound l (callsIn_wide.2 CB.out)).mono ?_⟩
    rintro e w7 ⟨rfl, hb7⟩
    have Hlx : Hid (x.length = wid v) := hP.1
    have hs7 := hb7.size
    have hB7 : Below w6.heap.size w6 w7 := hbW.trans (hb7.mono hsz)
    have hK7 := keepsOthers_below hb7
    have hKp7 : KpR w6.heap.size W w7 := KpR.below hb7
    cases hab : aboveB (ownL v a) (ownL v x) with
    | true =>
      have hA : AboveP (ownL v a) (ownL v x) := by unfold aboveB at hab; exact of_decide_eq_true hab
      have HA := Lib.hid hA
      have HP := Lib.hid hP
      have CC := Lib.hid (clone_any px cx x w7 (HIx.out.below hb7 (Nat.le_refl _)) (by omega))
      clear hab hA hP hIx CB kf ckf hpre hb7 hKp7
      gi_wp2
      refine ⟨trivial, (CallsIn.inRound l (callsIn_wide.2 CC.out)).mono ?_⟩
      rintro e w8 ⟨pc, cc, rfl, hO8, hb8⟩
      obtain ⟨gc, rfl⟩ := hO8.some_of (above_len HP.out Ha.out.1 HA.out)
      have hB8 : Below w6.heap.size w6 w8 := hB7.trans (hb8.mono (by omega))
      have hgc : w.heap.size ≤ gc := by have := (hO8.lt gc rfl).1; have := hB7.size; omega
      have r8 := r5.below hB8 r5.lt
      have cr := r8.cell
      have fr := r8.free
      have hRn := r5.lt
      have hK8 : KeepsOthers W (w8.setCell ⟨w.heap.size + 1, 0, none⟩ (.slice (some ⟨gc, 0, none⟩) x.length cc)) := (hK7.trans (keepsOthers_below hb8)).trans (KeepsOthers.setCell _ _ _)
      have hI8 : Ints (w8.setCell ⟨w.heap.size + 1, 0, none⟩ (.slice (some ⟨gc, 0, none⟩) x.length cc)) (some ⟨gc, 0, none⟩) cc x := (hO8.move fun k e => Below.heap_setCell w8 ⟨w.heap.size + 1, 0, none⟩ _ k (by have := (hO8.lt k e).1; intro e2; simp only at e2; omega)).ints
      have hB9 : Below w.heap.size w (w8.setCell ⟨w.heap.size + 1, 0, none⟩ (.slice (some ⟨gc, 0, none⟩) x.length cc)) := (hBw5.trans (hB8.mono (by omega))).setCell (p := ⟨w.heap.size + 1, 0, none⟩) (by simp) _
      have r9 : OneV (w8.setCell ⟨w.heap.size + 1, 0, none⟩ (.slice (some ⟨gc, 0, none⟩) x.length cc)) (w.heap.size + 1) (.slice (some ⟨gc, 0, none⟩) (wid v) cc) 25 := by rw [← Hlx.out]; exact r8.set
      have HX : Hid (KeepsOthers W (w8.setCell ⟨w.heap.size + 1, 0, none⟩ (.slice (some ⟨gc, 0, none⟩) x.length cc)) ∧ ImpX w.heap.size (w.heap.size + 1) w v a (pre ++ [x]) (w8.setCell ⟨w.heap.size + 1, 0, none⟩ (.slice (some ⟨gc, 0, none⟩) x.length cc))) := ⟨hK8, x, gc, cc, hgc, r9, HP.out, HA.out, hI8, hB9⟩
      clear hK8 hI8 hB9 r9 hO8
      gi_wp2
      exact HX.out
    | false =>
      have hA : ¬ AboveP (ownL v a) (ownL v x) := by unfold aboveB at hab; exact of_decide_eq_false hab
      have HX : Hid (KeepsOthers W w7 ∧ KpR w6.heap.size W w7 ∧ Below w6.heap.size w6 w7 ∧ ∀ b ∈ pre ++ [x], ¬ AboveP (ownL v a) (ownL v b)) := ⟨hK7, hKp7, hB7, fun b hb => by
        rcases List.mem_append.1 hb with h | h
        · exact hpre b h
        · rw [List.mem_singleton] at h; subst h; exact hA⟩
      clear hab hA hP hIx CB kf ckf hpre hb7 hKp7
      gi_wp2
      have hXo := HX.out
      rw [hs5] at hXo
      exact hXo
  case done =>
    rintro D xs W hD hS ⟨hbW, hno⟩ hK
    have r8 := r5.below hbW r5.lt
    have cr := r8.cell
    have fr := r8.free
    have hRn := r5.lt
    have KK : KeepsOthers W (W.setCell ⟨w.heap.size + 1, 0, none⟩ (.slice none 0 0)) := KeepsOthers.setCell _ _ _
    have HKd : Hid ((W.setCell ⟨w.heap.size + 1, 0, none⟩ (.slice none 0 0)).heap[D]? = some (.deferred (some []))) := KK.same D _ hK rfl
    have hB9 : Hid (Below w.heap.size w (W.setCell ⟨w.heap.size + 1, 0, none⟩ (.slice none 0 0))) := (hBw5.trans (hbW.mono (by omega))).setCell (p := ⟨w.heap.size + 1, 0, none⟩) (by simp) _
    have R9 := Lib.hid (r8.set (u := .slice none 0 0))
    have Hno := Lib.hid (fun b (hb : DigL v.length (wid v) b) => hno b (hS b hb))
    clear hno hS hK KK
    gi_wp2
    refine ⟨by simp, .inl ⟨_, _, rfl, run_takeDeferred HKd.out, ?_⟩⟩
    have y4 := (R9.out.putObj (o := .deferred none) (D := D) (by omega)).cell
    refine ⟨.slice none 0 0, ?_, .inl ⟨rfl, Hno.out⟩, hB9.out.grown (grownBy_putObj' _ _ _) hB9.out.size (fun k e => by cases e; omega)⟩
    simp [results, Tryz.results41, go_sem, y4]
  case stop =>
    rintro D pre W hD hX hK
    have hbp : Below w6.heap.size W (W.putObj D (.deferred none)) := (Below.refl _ _).grown (grownBy_putObj' _ _ _) (by have := (Array.getElem?_eq_some_iff.1 hK).1; omega) (fun k e => by cases e; omega)
    obtain ⟨b, g, d', h0, h1, h2, h3, h4, h5⟩ := impX_stab _ _ _ _ _ _ (by omega) _ _ _ hX (SameC.putObj hK rfl hbp)
    have HK := Lib.hid hK
    have y4 := h1.cell
    have HX : Hid (ImpR w.heap.size v a (.returned (.slice (some ⟨g, 0, none⟩) (wid v) d')) (W.putObj D (.deferred none)) ∧ Below w.heap.size w (W.putObj D (.deferred none))) := ⟨.inr ⟨b, g, d', h0, rfl, h2, h3, h4⟩, h5⟩
    clear hX hK h1 h2 h3 h4 h5 hbp
    gi_wp2
    refine ⟨by simp, .inl ⟨_, _, rfl, run_takeDeferred HK.out, ?_⟩⟩
    refine ⟨.slice (some ⟨g, 0, none⟩) (wid v) d', ?_, HX.out⟩
    simp [results, Tryz.results41, go_sem, y4]
end Go.Proofs.YtmcncflieoolmaaGreat

/- Harm: what the others get without an agent is what they get where it bids nothing; the least price of its item; plain, no program. -/
namespace Go.Proofs.YtmcncflieoolmaaGreat
set_option linter.unusedVariables false
set_option linter.unusedSimpArgs false

end Go.Proofs.YtmcncflieoolmaaGreat

/- The walks of better.Find and Chain, for valid goods of few agents and goods; no condition beside. -/
namespace Go.Proofs.YtmcncflieoolmaaGreat
set_option linter.unusedSimpArgs false
open Go.ChangeShapes Go.WideShapes Go.ChangeAt Go.RowKit Go.Deep
set_option linter.unusedVariables false

theorem nilS_no (W : World) : (binOp BinOp.neq 25 (.slice none 0 0) (.slice none 0 0)).run Tryz.prog W = .ok (.bool false) W := by kernel_rfl
theorem nilS_yes (g l c : Nat) (W : World) : (binOp BinOp.neq 25 (.slice (some ⟨g, 0, none⟩) l c) (.slice none 0 0)).run Tryz.prog W = .ok (.bool true) W := by kernel_rfl
attribute [local go_sem] nilS_no nilS_yes
theorem AboveP.trans {x y z : List Int} (hl : x.length = y.length) (h1 : AboveP x y) (h2 : AboveP y z) : AboveP x z := by
  refine ⟨fun i hi => Int.le_trans (h1.1 i hi) (h2.1 i (by omega)), ?_⟩
  rintro rfl
  refine h1.2 (ext_iget hl fun i hi => ?_)
  have a := h1.1 i hi
  have b := h2.1 i (by omega)
  omega
/-- The sum of what each one's own bundle is worth to it. -/
def ownS (v : List (List Int)) (a : List Int) : Int := sumTo (iget (ownL v a)) v.length
theorem sumTo_lt {f g : Nat → Int} : ∀ n, (∀ i, i < n → f i ≤ g i) → (∃ i, i < n ∧ f i < g i) → sumTo f n < sumTo g n
  | 0, _, ⟨i, hi, _⟩ => by omega
  | n + 1, h, ⟨i, hi, hlt⟩ => by
    rw [sumTo, sumTo]
    have hn := h n (by omega)
    by_cases e : i = n
    · subst e
      have := sumTo_le (fun j (hj : j < i) => h j (by omega))
      omega
    · have := sumTo_lt n (fun j hj => h j (by omega)) ⟨i, by omega, hlt⟩
      omega
theorem above_sum {v : List (List Int)} {a b : List Int} (h : AboveP (ownL v a) (ownL v b)) : ownS v a + 1 ≤ ownS v b := by
  have hl := ownL_len v a
  refine sumTo_lt v.length (fun i hi => h.1 i (by omega)) ?_
  apply Classical.byContradiction
  intro hno
  refine h.2 (ext_iget (by rw [ownL_len, ownL_len]) fun i hi => ?_)
  have h1 := h.1 i hi
  have h2 : ¬ iget (ownL v a) i < iget (ownL v b) i := fun h3 => hno ⟨i, by omega, h3⟩
  omega
theorem ownS_in {v : List (List Int)} {a : List Int} (hg : Gds v) (ha : AlcOk v a) : 0 ≤ ownS v a ∧ ownS v a ≤ 60000 := by
  have h6 := hg.2.1
  have h1 : sumTo (fun _ => (0 : Int)) v.length ≤ ownS v a := sumTo_le fun i hi => by rw [ownL_get hi]; exact (worth_in hg ha hi _).1
  have h2 : ownS v a ≤ sumTo (fun _ => (10000 : Int)) v.length := sumTo_le fun i hi => by rw [ownL_get hi]; exact (worth_in hg ha hi _).2
  rw [sumTo_const] at h1 h2
  omega
theorem rdI_ints {W : World} {b c m : Nat} {xs : List Int} (h : Ints W (some ⟨b, 0, none⟩) c xs) (hl : xs.length = m) : rdI W b m = xs := ext_iget (by simp [rdI, hl]) fun j hj => by
  have hjm : j < m := by simpa [rdI] using hj
  have hc := h.at (j := j) (by omega)
  rw [Nat.zero_add] at hc
  simp [rdI, iget, hjm, hc]

set_option maxRecDepth 100000 in
set_option maxHeartbeats 1600000 in
theorem find_none (p : Option Addr) (c : Nat) (v : List (List Int)) (q : Option Addr) (d : Nat) (a : List Int) (w : World) (hx : Mat w p c v) (hi : Ints w q d a) (hF : chkA v a = 0) (h4 : v.length ≤ 4) (hw6 : wid v ≤ 6) (hno : ∀ b, DigL v.length (wid v) b → ¬ AboveP (ownL v a) (ownL v b)) :
    Calls Tryz.prog 15 #[.agg #[.slice p v.length c], .slice q a.length d] w fun e w' => e = .returned (.tuple #[.slice none 0 0, .int .i64 6]) ∧ Below w.heap.size w w' := by
  obtain ⟨W0, hW0⟩ : ∃ W0, w.alloc (.cells #[.slice p v.length c] 24) = W0 := ⟨_, rfl⟩
  have hB : Below w.heap.size w W0 := below_alloc hW0
  have bX : BoxV W0 w.heap.size [.slice p v.length c] := BoxV.new rfl hW0
  have hx := hx.below hB (Nat.le_refl _)
  have hi := hi.below hB (Nat.le_refl _)
  have x0 := bX.cell 0 _ rfl
  obtain ⟨hg, ha⟩ := chkA_zero.1 hF
  have HL := Lib.hid (looked_any p c v q d a W0 hx hi hF h4 hw6)
  have HI := Lib.hid (fun W (h : Below W0.heap.size W0 W) => improve_any p c v q d a W (hx.below h (Nat.le_refl _)) (hi.below h (Nat.le_refl _)) hg ha)
  have HW0 := Lib.hid hW0
  clear hW0 hg ha hF
  go_enter Tryz.func15, Tryz.ntmps15
  go_wp2_with fail
  rw [HW0.out]
  refine HL.out.mono ?_
  rintro e w1 ⟨rfl, hb⟩
  have x0 := (bX.below hb).cell 0 _ rfl
  have hB1 := hB.trans (hb.mono hB.size)
  have CI := Lib.hid (HI.out w1 hb)
  clear HI HL hb
  go_wp2_with fail
  refine CI.out.mono ?_
  rintro e w2 ⟨hR, hb⟩
  have hB2 := hB1.trans (hb.mono hB1.size)
  rcases hR with ⟨rfl, _⟩ | ⟨b, g, d', _, rfl, h1, h2, _⟩
  · go_wp2_with fail
    go_ret2
    exact ⟨rfl, hB2⟩
  · exact absurd h2 (hno b h1)
/-- How far the list in a slice is from the most. -/
def chM (v : List (List Int)) (t : Value) (W : World) : Nat := match t with
  | .slice (some ad) m _ => (70000 - ownS v (rdI W ad.block m)).toNat + 1
  | _ => 0
theorem chM_some {v : List (List Int)} {W : World} {g m d : Nat} {b : List Int} (h : Ints W (some ⟨g, 0, none⟩) d b) (hl : b.length = m) : chM v (.slice (some ⟨g, 0, none⟩) m d) W = (70000 - ownS v b).toNat + 1 := by
  unfold chM
  simp only
  rw [rdI_ints h hl]
/-- A chain of improvements, so far: where it stands. -/
def ChL (v : List (List Int)) (a : List Int) (L : List (List Int)) (cur : List Int) : Prop :=
  (L = [] ∧ cur = a ∨ 0 < L.length ∧ rget L (L.length - 1) = cur ∧ DigL v.length (wid v) cur ∧ AboveP (ownL v a) (ownL v cur)) ∧ (L.length : Int) ≤ ownS v cur
theorem ChL.next {v : List (List Int)} {a : List Int} {L : List (List Int)} {cur b : List Int} (h : ChL v a L cur) (hb : DigL v.length (wid v) b) (hab : AboveP (ownL v cur) (ownL v b)) : ChL v a (L ++ [b]) b := by
  have hs := above_sum hab
  refine ⟨.inr ⟨by simp, ?_, hb, ?_⟩, ?_⟩
  · simp [rget]
  · rcases h.1 with ⟨_, rfl⟩ | ⟨_, _, _, h2⟩
    · exact hab
    · exact h2.trans (by rw [ownL_len, ownL_len]) hab
  · rw [List.length_append, List.length_singleton]
    have := h.2
    omega

set_option maxHeartbeats 8000000 in
set_option maxRecDepth 100000 in
theorem chain_any (p : Option Addr) (c : Nat) (v : List (List Int)) (q : Option Addr) (d : Nat) (a : List Int) (w : World) (hx : Mat w p c v) (hi : Ints w q d a) (hF : chkA v a = 0) (h4 : v.length ≤ 4) (hw6 : wid v ≤ 6) :
    Calls Tryz.prog 16 #[.agg #[.slice p v.length c], .slice q a.length d] w fun e w' => ∃ L cur p' c', e = .returned (.tuple #[.slice p' (L : List (List Int)).length c', .int .i64 0]) ∧ Mat w' p' c' L ∧ ChL v a L cur ∧ (∀ b, DigL v.length (wid v) b → ¬ AboveP (ownL v cur) (ownL v b)) ∧ Below w.heap.size w w' := by
  obtain ⟨W0, hW0⟩ : ∃ W0, w.alloc (.cells #[.slice p v.length c] 24) = W0 := ⟨_, rfl⟩
  have hB : Below w.heap.size w W0 := below_alloc hW0
  have bX : BoxV W0 w.heap.size [.slice p v.length c] := BoxV.new rfl hW0
  have hx := hx.below hB (Nat.le_refl _)
  have hi := hi.below hB (Nat.le_refl _)
  have x0 := bX.cell 0 _ rfl
  obtain ⟨hg, ha⟩ := chkA_zero.1 hF
  have HL := Lib.hid (looked_any p c v q d a W0 hx hi hF h4 hw6)
  have HI := Lib.hid (fun W (h : Below W0.heap.size W0 W) => improve_any p c v q d a W (hx.below h (Nat.le_refl _)) (hi.below h (Nat.le_refl _)) hg ha)
  have HW0 := Lib.hid hW0
  have Hg := Lib.hid hg
  have Ha := Lib.hid ha
  clear hW0 hg ha hF
  go_enter Tryz.func16, Tryz.ntmps16
  go_wp2_with fail
  rw [HW0.out]
  refine HL.out.mono ?_
  rintro e w1 ⟨rfl, hb⟩
  have bX1 := bX.below hb
  have x0 := bX1.cell 0 _ rfl
  have hx1 := hx.below hb (Nat.le_refl _)
  have hB1 := hB.trans (hb.mono hB.size)
  have CI := Lib.hid (HI.out w1 hb)
  clear HI HL hb
  go_wp2_with fail
  refine CI.out.mono ?_
  rintro e w2 ⟨hR, hb⟩
  have bX2 := bX1.below hb
  have hx2 := hx1.below hb (Nat.le_refl _)
  have hB2 := hB1.trans (hb.mono hB1.size)
  have hR2 : ∃ t8, e = .returned t8 ∧ ((t8 = .slice none 0 0 ∧ ∀ b, DigL v.length (wid v) b → ¬ AboveP (ownL v a) (ownL v b)) ∨ ∃ b g d', w1.heap.size ≤ g ∧ t8 = .slice (some ⟨g, 0, none⟩) (wid v) d' ∧ DigL v.length (wid v) b ∧ AboveP (ownL v a) (ownL v b) ∧ Ints w2 (some ⟨g, 0, none⟩) d' b) := by
    rcases hR with ⟨rfl, h⟩ | ⟨b, g, d', h0, rfl, h1, h2, h3⟩
    · exact ⟨_, rfl, .inl ⟨rfl, h⟩⟩
    · exact ⟨_, rfl, .inr ⟨b, g, d', h0, rfl, h1, h2, h3⟩⟩
  obtain ⟨t8, rfl, hT8⟩ := hR2
  clear hR CI hb x0
  obtain ⟨B1, hB1'⟩ : ∃ B1, w2.heap.size = B1 := ⟨_, rfl⟩
  have HB1 := Lib.hid hB1'
  have hwB : w.heap.size < B1 := by have := bX2.lt; omega
  clear hB1'
  go_wp2_with fail
  go_loopw [7, 8] (fun t7 t8 wr => ∃ (L : List (List Int)) (cur : List Int) (p' : Option Addr) (c' : Nat) (Q : Nat → Option Addr) (D : Nat → Nat), t7 = .slice p' L.length c' ∧ TMat wr B1 p' c' L Q D ∧ Hid (ChL v a L cur) ∧ Hid (AlcOk v cur) ∧ Below B1 w2 wr ∧ ((t8 = .slice none 0 0 ∧ Hid (∀ b, DigL v.length (wid v) b → ¬ AboveP (ownL v cur) (ownL v b))) ∨ ∃ b g d', t8 = .slice (some ⟨g, 0, none⟩) (wid v) d' ∧ Hid (DigL v.length (wid v) b) ∧ Hid (AboveP (ownL v cur) (ownL v b)) ∧ Ints wr (some ⟨g, 0, none⟩) d' b ∧ Hid (∀ k, blk p' = some k → k ≠ g))) (fun _ t8 wr => chM v t8 wr)
  case atStart =>
    refine ⟨[], a, none, 0, fun _ => none, fun _ => 0, rfl, TMat.ofNil _ _, ⟨.inl ⟨rfl, rfl⟩, by simpa using (ownS_in Hg.out Ha.out).1⟩, Ha.out, Below.refl _ _, ?_⟩
    rcases hT8 with ⟨rfl, h⟩ | ⟨b, g, d', h0, rfl, h1, h2, h3⟩
    · exact .inl ⟨rfl, h⟩
    · exact .inr ⟨b, g, d', rfl, h1, h2, h3, fun k e => by simp [blk] at e⟩
  case round =>
    clear hT8
    obtain ⟨L, cur, p', c', Q, D, rfl, hT, hC, hA, hbr, hcase⟩ := hrel
    have x0 := (bX2.below (by rw [HB1.out]; exact hbr)).cell 0 _ rfl
    rcases hcase with ⟨rfl, hno⟩ | ⟨b, g, d', rfl, hD, hAb, hI, hne⟩
    · go_wp2_with fail
      go_ret2
      exact ⟨L, cur, _, _, rfl, hT.mat, hC.out, hno.out, hB2.trans (hbr.mono (by omega))⟩
    · have hbl : b.length = wid v := hD.out.1
      have HM := Lib.hid (chM_some (v := v) hI hbl)
      have hCs := (ownS_in Hg.out hA.out).2
      have hul : L.length ≤ 900000 := by have := hC.out.2; omega
      have hszr := hbr.size
      rw [HB1.out] at hszr
      have Hbl := Lib.hid hbl
      have hsep : Hid (0 < b.length → ∀ k, blk (some ⟨g, 0, none⟩ : Option Addr) = some k → blk p' ≠ some k) := fun _ k e1 e2 => hne.out k e2 (by simp [blk] at e1; omega)
      clear hbl
      go_wp2_with (at_builtin; refine wpList_appRowN rfl (.tmp 23) (.tmp 25) rfl B1 _ _ L Q D (some ⟨g, 0, none⟩) d' (wid v) b Hbl.out rfl rfl rfl hT hI hsep.out hul (by omega) ?_; intro p3 c3 w3 u3 hu3 hT3 hg3 hf3; have hb3 : Below B1 w2 w3 := hbr.grown hg3 (by omega) (fun k' e => (hT.lt k' e).1); have x3 := (bX2.below (by rw [HB1.out]; exact hb3)).cell 0 _ rfl)
      have hAb' : AlcOk v b := dig_alc hD.out
      have hI3 : Ints w3 (some ⟨g, 0, none⟩) d' b := hI.keep hg3.size (fun ad e hpos => by
        cases e
        exact hg3.block g (World.block_lt_of_cell? _ _ (hI.at hpos)) (fun e => hne.out g e.symm rfl))
      have CI := improve_any p c v (some ⟨g, 0, none⟩) d' b w3 (hx2.below (by rw [HB1.out]; exact hb3) (Nat.le_refl _)) hI3 Hg.out hAb'
      rw [Hbl.out] at CI
      have CI := Lib.hid CI
      have hC3 : Hid (ChL v a (L ++ [b]) b) := hC.out.next hD.out hAb.out
      have hS3 := Lib.hid (above_sum hAb.out)
      have hBs := Lib.hid (ownS_in Hg.out hAb').2
      have HA' := Lib.hid hAb'
      clear hT hI hI3 hAb' hbr
      go_wp2_with fail
      refine CI.out.mono ?_
      rintro e w4 ⟨hR, hb4⟩
      have hs3 := hb3.size
      rw [HB1.out] at hs3
      have hb5 : Below B1 w2 w4 := hb3.trans (hb4.mono hs3)
      have hT4 := hT3.below hb4 (Nat.le_refl _)
      have hu5 : u3 = L ++ [b] := hu3.out
      have hlt3 : ∀ k, blk p3 = some k → k < w3.heap.size := fun k e => (hT3.lt k e).2
      rcases hR with ⟨rfl, hno⟩ | ⟨b2, g2, d2, h0, rfl, h1, h2, h3⟩
      · have Hno := Lib.hid hno
        have Hu5 := Lib.hid hu5
        clear hno hu5 hT3 hu3 CI
        go_wp2_with fail
        go_roundw
        case rel => exact ⟨u3, b, p3, c3, _, _, rfl, hT4, by unfold Hid; rw [Hu5.out]; exact hC3.out, HA'.out, hb5, .inl ⟨rfl, Hno.out⟩⟩
        case measure =>
          rw [HM.out]
          simp [chM]
      · have H1 := Lib.hid h1
        have H2 := Lib.hid h2
        have HM2 := Lib.hid (chM_some (v := v) h3 h1.1)
        have Hu5 := Lib.hid hu5
        have hS4 := Lib.hid (above_sum h2)
        have hne3 : Hid (∀ k, blk p3 = some k → k ≠ g2) := fun k e => by have := hlt3 k e; omega
        clear h1 h2 hu5 hT3 hu3 CI
        go_wp2_with fail
        go_roundw
        case rel => exact ⟨u3, b, p3, c3, _, _, rfl, hT4, by unfold Hid; rw [Hu5.out]; exact hC3.out, HA'.out, hb5, .inr ⟨b2, g2, d2, rfl, H1.out, H2.out, h3, hne3.out⟩⟩
        case measure =>
          rw [HM.out, HM2.out]
          have h1 := hS3.out
          have h2 := hS4.out
          have h3 := hBs.out
          omega
end Go.Proofs.YtmcncflieoolmaaGreat
