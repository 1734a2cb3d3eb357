/- The walk of the law RoomRange: for every flat, lease and room it returns true, and changes nothing that was there.  (Printed by wip/genrange.py.) -/
import Derived.Test.YtojldecldemfaaaTopRoomFreem15
import Derived.Test.YtojldecldemfaaaTopRoomRangem1
import Derived.Test.YtojldecldemfaaaTopRoomRangem3
import Derived.Test.YtojldecldemfaaaTopRoomFreem18
import Derived.Test.YtojldecldemfaaaTopRoomFreem17
import Derived.Test.YtojldecldemfaaaTopRoomRangem4
import Derived.Deep.RegionHeld3
import Derived.Deep.DeepCutAuto
/- The walk of the law RoomRange: for every flat, lease and room it returns true, and changes nothing that was there.  (Printed by wip/genrange.py.) -/
namespace Go.Proofs.Ytojldecldemfaaa
set_option linter.unusedVariables false
set_option linter.unusedSimpArgs false
open Go.ChangeShapes Go.WideShapes Go.ChangeAt Go.RowKit Go.Deep

/-- Two rows of their own, each in a block of its own. -/
def Apart (p q : Option Addr) : Prop := ∀ k, blk p = some k → blk q ≠ some k
theorem apart_new {qx qy : Option Addr} {g : Nat} {H : Nat} (h : Apart qx qy) (ho : blk qx = some g ∨ g = H) (hy : ∀ k, blk qy = some k → k < H) : Apart (some ⟨g, 0, none⟩) qy := fun k hk e => by
  have : g = k := by simpa [blk] using hk
  subst this
  rcases ho with h1 | rfl
  · exact h g h1 e
  · have := hy g e; omega
theorem Apart.symm {p q : Option Addr} (h : Apart p q) : Apart q p := fun k hk e => h k e hk
theorem LB.new {w w' : World} {S : Nat} {x : Value} {q : Option Addr} {m d : Nat} {z : Int} {t : TypeId} (hS : w.heap.size = S) (hw : w' = w.alloc (.cells #[x, .slice q m d, .int .i64 z] t)) : LB w' S x q m d z := by
  subst hS hw
  have h : ∀ k, (w.alloc (.cells #[x, .slice q m d, .int .i64 z] t)).cell? ⟨w.heap.size, k, none⟩ = #[x, .slice q m d, .int .i64 z][k]? := fun k => World.cell?_alloc_at _ _ _ _ rfl
  exact ⟨h 0, h 1, h 2, World.frozen?_alloc_at _ _ _ _ rfl, World.frozen?_alloc_at _ _ _ _ rfl, by simp⟩
theorem LB.beside {w : World} {S g k : Nat} {x u : Value} {q : Option Addr} {m d : Nat} {z : Int} (h : LB w S x q m d z) (hg : g ≠ S) : LB (w.setCell ⟨g, k, none⟩ u) S x q m d z :=
  ⟨(World.cell?_setCell_other _ _ _ _ (ne_blk hg)).trans h.c0, (World.cell?_setCell_other _ _ _ _ (ne_blk hg)).trans h.c1, (World.cell?_setCell_other _ _ _ _ (ne_blk hg)).trans h.c2, by rw [World.frozen?_setCell]; exact h.f1, by rw [World.frozen?_setCell]; exact h.f2, by simpa [World.setCell] using h.lt⟩
theorem LB.farUp {w : World} {S g k : Nat} {x u : Value} {q : Option Addr} {m d : Nat} {z : Int} (h : LB w S x q m d z) (hg : g < S) : Hid (LB (w.setCell ⟨g, k, none⟩ u) S x q m d z) := h.beside (by omega)
theorem LB.farUp2 {w : World} {S g k : Nat} {x u : Value} {q : Option Addr} {m d : Nat} {z : Int} (h : LB w S x q m d z) (hg : S < g) : Hid (LB (w.setCell ⟨g, k, none⟩ u) S x q m d z) := h.beside (by omega)
theorem LB.box {w : World} {S : Nat} {x : Value} {q : Option Addr} {m d : Nat} {z : Int} (h : LB w S x q m d z) : BoxV w S [x, .slice q m d, .int .i64 z] := ⟨h.lt, fun k v hk => by
  match k, hk with
  | 0, hk => simp at hk; subst hk; exact h.c0
  | 1, hk => simp at hk; subst hk; exact h.c1
  | 2, hk => simp at hk; subst hk; exact h.c2⟩
theorem boxV_of2 {w : World} {S : Nat} {x y : Value} (hS : S < w.heap.size) (h0 : w.cell? ⟨S, 0, none⟩ = some x) (h1 : w.cell? ⟨S, 1, none⟩ = some y) : BoxV w S [x, y] := ⟨hS, fun k v hk => by
  match k, hk with
  | 0, hk => simp at hk; subst hk; exact h0
  | 1, hk => simp at hk; subst hk; exact h1⟩
theorem ends_ok {v : List (List Int)} (hv : Bids v) {g : Nat → Int} {xs : List Int} {r : Int} (h : xs = (List.range v.length).map g) (hb : ∀ k, k < v.length → -200000000 ≤ g k ∧ g k ≤ 200000000) (he : EF v (bestA v) g v.length) (hs : sumTo g v.length = v.length * r) :
    Good v (bestA v) xs v.length ∧ EF v (bestA v) (iget xs) v.length ∧ sumTo (iget xs) v.length = r * v.length := by
  have hA : IsA (bestA v) v.length := (bestA_best hv.1).1
  have hl : xs.length = v.length := by rw [h]; simp
  have hg : ∀ k, k < v.length → iget xs k = g k := fun k hk => by rw [h]; simp [iget, hk]
  have hf := fits_of hv hA
  have h6 := hv.2.1
  have h0 := hv.1
  refine ⟨⟨hv, hA, hA.1, hl, by omega, by omega, h6, fun i hi => (hv.2.2 i hi).1, fun i hi => ?_, fun i hi j hj => (hv.2.2 i hi).2 j hj, fun j hj => by rw [hg j hj]; have := hb j hj; omega⟩, fun i hi j hj => ?_, ?_⟩
  · have := isA_lt hA i hi
    exact ⟨this.1, this.2⟩
  · rw [hg j hj, hg _ (isA_lt hA i hi).2]
    exact he i hi j hj
  · rw [sumTo_congr hg, hs, Int.mul_comm]
theorem eval_tmp (A : Act) (d : Nat) : A.eval (.tmp d) = A.tmps[d]?.getD undef := by simp [Act.eval]
theorem lt14 {i : Nat} (h : i < 14) : i = 0 ∨ i = 1 ∨ i = 2 ∨ i = 3 ∨ i = 4 ∨ i = 5 ∨ i = 6 ∨ i = 7 ∨ i = 8 ∨ i = 9 ∨ i = 10 ∨ i = 11 ∨ i = 12 ∨ i = 13 := by omega
theorem lt23 {i : Nat} (h : i < 23) : i = 0 ∨ i = 1 ∨ i = 2 ∨ i = 3 ∨ i = 4 ∨ i = 5 ∨ i = 6 ∨ i = 7 ∨ i = 8 ∨ i = 9 ∨ i = 10 ∨ i = 11 ∨ i = 12 ∨ i = 13 ∨ i = 14 ∨ i = 15 ∨ i = 16 ∨ i = 17 ∨ i = 18 ∨ i = 19 ∨ i = 20 ∨ i = 21 ∨ i = 22 := by omega
theorem news_one {W : World} {b : Nat} {X : Int} (h : W.cell? ⟨b, 0, none⟩ = some (.int .i64 X)) : ∀ j u, [Value.int .i64 X][j]? = some u → W.cell? ((⟨b, 0, none⟩ : Addr).add j) = some u := fun j u hu => by
  cases j with
  | zero => simp at hu; subst hu; exact h
  | succ j => simp at hu
theorem freeB_spec {v : List (List Int)} {r : Int} {al ps : List Int} {z : Int} (h : freeB v r al ps z = true) : vldR v r al ps z = 0 ∧ EF v al (iget ps) z := by
  unfold freeB at h
  rw [decide_eq_true_iff] at h
  exact ⟨h.1, (envs_nil h.1).1 h.2⟩

set_option maxHeartbeats 1600000 in
set_option maxRecDepth 100000 in
theorem roomRange_early (p : Option Addr) (c : Nat) (v : List (List Int)) (r : Int) (q : Option Addr) (d : Nat) (al : List Int) (s : Option Addr) (f : Nat) (ps : List Int) (z : Int) (jj : Int) (w : World) (hx : Mat w p c v) (hr64 : in64 r) (hy : Ints w q d al) (hz : Ints w s f ps) (hz64 : in64 z) (hj64 : in64 jj) (hc : chkR v r ≠ 0) :
    Calls Try.prog 7 #[.agg #[.slice p v.length c, .int .i64 r], .agg #[.slice q al.length d, .slice s ps.length f, .int .i64 z], .int .i64 jj] w fun e w' => e = .returned (.bool true) ∧ Below w.heap.size w w' := by
  obtain ⟨Wx, hWx⟩ : ∃ W, w.alloc (.cells #[.slice p v.length c, .int .i64 r] 24) = W := ⟨_, rfl⟩
  obtain ⟨W0, hW0⟩ : ∃ W, Wx.alloc (.cells #[.slice q al.length d, .slice s ps.length f, .int .i64 z] 28) = W := ⟨_, rfl⟩
  have hB1 := below_alloc hWx
  have hB2 := below_alloc hW0
  have bX : BoxV W0 w.heap.size [.slice p v.length c, .int .i64 r] := (BoxV.new rfl hWx).below hB2
  have hs : Wx.heap.size = w.heap.size + 1 := by rw [← hWx]; simp
  have bL : BoxV W0 (w.heap.size + 1) [.slice q al.length d, .slice s ps.length f, .int .i64 z] := BoxV.new hs hW0
  have hB : Below w.heap.size w W0 := hB1.trans (hB2.mono hB1.size)
  have mX := hx.below hB (Nat.le_refl _)
  have mA := hy.below hB (Nat.le_refl _)
  have mP := hz.below hB (Nat.le_refl _)
  have hlx := hx.length_le
  have hly := hy.length_le
  have hlz := hz.length_le
  have HWx := Lib.hid hWx
  have HW0 := Lib.hid hW0
  clear hWx hW0 hB1 hB2 hs hx hy hz
  have hf : fit14 v r = false := by unfold fit14; rw [decide_eq_false_iff_not]; exact hc
  have hF := fun W (h : Mat W p c v) => fit14_any p c v r W h
  rw [hf] at hF
  have HF := Lib.hid hF
  clear hF hf hc
  go_enter Try.func7, Try.ntmps7
  go_wp2_with fail
  rw [HWx.out, HW0.out]
  refine (alive14_any _).mono ?_
  rintro e w1 ⟨rfl, hb⟩
  replace bX := bX.below hb
  have k0 := bX.cell 0 _ rfl
  have k1 := bX.cell 1 _ rfl
  replace mX := mX.below hb (Nat.le_refl _)
  replace hB := hB.trans (hb.mono hB.size)
  clear hb
  go_wp2_with fail
  refine (HF.out _ mX).mono ?_
  rintro e w2 ⟨rfl, hb⟩
  go_wp2_with fail
  go_ret
  exact ⟨rfl, hB.trans (hb.mono hB.size)⟩
set_option maxHeartbeats 1600000 in
set_option maxRecDepth 100000 in
theorem roomRange_off (p : Option Addr) (c : Nat) (v : List (List Int)) (r : Int) (q : Option Addr) (d : Nat) (al : List Int) (s : Option Addr) (f : Nat) (ps : List Int) (z : Int) (jj : Int) (w : World) (hx : Mat w p c v) (hr64 : in64 r) (hy : Ints w q d al) (hz : Ints w s f ps) (hz64 : in64 z) (hj64 : in64 jj) (hc : chkR v r = 0) (hj : ¬ (0 ≤ jj ∧ jj < v.length)) :
    Calls Try.prog 7 #[.agg #[.slice p v.length c, .int .i64 r], .agg #[.slice q al.length d, .slice s ps.length f, .int .i64 z], .int .i64 jj] w fun e w' => e = .returned (.bool true) ∧ Below w.heap.size w w' := by
  obtain ⟨Wx, hWx⟩ : ∃ W, w.alloc (.cells #[.slice p v.length c, .int .i64 r] 24) = W := ⟨_, rfl⟩
  obtain ⟨W0, hW0⟩ : ∃ W, Wx.alloc (.cells #[.slice q al.length d, .slice s ps.length f, .int .i64 z] 28) = W := ⟨_, rfl⟩
  have hB1 := below_alloc hWx
  have hB2 := below_alloc hW0
  have bX : BoxV W0 w.heap.size [.slice p v.length c, .int .i64 r] := (BoxV.new rfl hWx).below hB2
  have hs : Wx.heap.size = w.heap.size + 1 := by rw [← hWx]; simp
  have bL : BoxV W0 (w.heap.size + 1) [.slice q al.length d, .slice s ps.length f, .int .i64 z] := BoxV.new hs hW0
  have hB : Below w.heap.size w W0 := hB1.trans (hB2.mono hB1.size)
  have mX := hx.below hB (Nat.le_refl _)
  have mA := hy.below hB (Nat.le_refl _)
  have mP := hz.below hB (Nat.le_refl _)
  have hlx := hx.length_le
  have hly := hy.length_le
  have hlz := hz.length_le
  have HWx := Lib.hid hWx
  have HW0 := Lib.hid hW0
  clear hWx hW0 hB1 hB2 hs hx hy hz
  have hf : fit14 v r = true := by unfold fit14; rw [decide_eq_true_iff]; exact hc
  have hF := fun W (h : Mat W p c v) => fit14_any p c v r W h
  rw [hf] at hF
  have HF := Lib.hid hF
  obtain ⟨hj1, hj2⟩ := hj64
  clear hF hf hc
  by_cases h0 : jj < 0
  · have d0 : decide (jj < 0) = true := by simpa using h0
    clear hj
    go_enter Try.func7, Try.ntmps7
    go_wp2_with fail
    rw [HWx.out, HW0.out]
    refine (alive14_any _).mono ?_
    rintro e w1 ⟨rfl, hb⟩
    replace bX := bX.below hb
    have k0 := bX.cell 0 _ rfl
    have k1 := bX.cell 1 _ rfl
    replace mX := mX.below hb (Nat.le_refl _)
    replace hB := hB.trans (hb.mono hB.size)
    clear hb
    go_wp2_with fail
    refine (HF.out _ mX).mono ?_
    rintro e w2 ⟨rfl, hb⟩
    go_wp2_with fail
    go_ret
    exact ⟨rfl, hB.trans (hb.mono hB.size)⟩
  · have d0 : decide (jj < 0) = false := by simpa using h0
    have d1 : decide ((v.length : Int) ≤ jj) = true := by rw [decide_eq_true_iff]; omega
    have d2 : (v.length : Int) ≤ jj := by omega
    clear hj
    go_enter Try.func7, Try.ntmps7
    go_wp2_with fail
    rw [HWx.out, HW0.out]
    refine (alive14_any _).mono ?_
    rintro e w1 ⟨rfl, hb⟩
    replace bX := bX.below hb
    have k0 := bX.cell 0 _ rfl
    have k1 := bX.cell 1 _ rfl
    replace mX := mX.below hb (Nat.le_refl _)
    replace hB := hB.trans (hb.mono hB.size)
    clear hb
    go_wp2_with fail
    refine (HF.out _ mX).mono ?_
    rintro e w2 ⟨rfl, hb⟩
    have hb2 := bX.below hb
    have k0 := hb2.cell 0 _ rfl
    have k1 := hb2.cell 1 _ rfl
    go_wp2_with fail
    go_ret
    exact ⟨rfl, hB.trans (hb.mono hB.size)⟩

set_option maxHeartbeats 16000000 in
set_option maxRecDepth 100000 in
theorem roomRange_main (p : Option Addr) (c : Nat) (v : List (List Int)) (r : Int) (q : Option Addr) (d : Nat) (al : List Int) (s : Option Addr) (f : Nat) (ps : List Int) (z : Int)  (w : World) (hx : Mat w p c v) (hr64 : in64 r) (hy : Ints w q d al) (hz : Ints w s f ps) (hz64 : in64 z)  (j : Nat) (hj64 : in64 j) (hc : chkR v r = 0) (hj : j < v.length) :
    Calls Try.prog 7 #[.agg #[.slice p v.length c, .int .i64 r], .agg #[.slice q al.length d, .slice s ps.length f, .int .i64 z], .int .i64 j] w fun e w' => e = .returned (.bool true) ∧ Below w.heap.size w w' := by
  obtain ⟨Wx, hWx⟩ : ∃ W, w.alloc (.cells #[.slice p v.length c, .int .i64 r] 24) = W := ⟨_, rfl⟩
  obtain ⟨W0, hW0⟩ : ∃ W, Wx.alloc (.cells #[.slice q al.length d, .slice s ps.length f, .int .i64 z] 28) = W := ⟨_, rfl⟩
  have hB1 := below_alloc hWx
  have hB2 := below_alloc hW0
  have bX : BoxV W0 w.heap.size [.slice p v.length c, .int .i64 r] := (BoxV.new rfl hWx).below hB2
  have hs : Wx.heap.size = w.heap.size + 1 := by rw [← hWx]; simp
  have bL : BoxV W0 (w.heap.size + 1) [.slice q al.length d, .slice s ps.length f, .int .i64 z] := BoxV.new hs hW0
  have hB : Below w.heap.size w W0 := hB1.trans (hB2.mono hB1.size)
  have mX := hx.below hB (Nat.le_refl _)
  have mA := hy.below hB (Nat.le_refl _)
  have mP := hz.below hB (Nat.le_refl _)
  have hlx := hx.length_le
  have hly := hy.length_le
  have hlz := hz.length_le
  have HWx := Lib.hid hWx
  have HW0 := Lib.hid hW0
  clear hWx hW0 hB1 hB2 hs hx hy hz
  have hf : fit14 v r = true := by unfold fit14; rw [decide_eq_true_iff]; exact hc
  have hF := fun W (h : Mat W p c v) => fit14_any p c v r W h
  rw [hf] at hF
  obtain ⟨hBd, hr1, hr2⟩ := chkR_zero.1 hc
  have h0 := hBd.1
  have h6 := hBd.2.1
  have hL := fun W (h : Mat W p c v) => roomLinks_any p c v r W h
  have eL : linksL v r = linkL v (bestA v) := by unfold linksL; rw [if_pos hc]
  rw [eL, hc] at hL
  have hBs := fun W (hm : Mat W p c v) => best_okR p c v W hm hBd
  have hb := bestA_best h0
  have hA : IsA (bestA v) v.length := hb.1
  have hAl : (bestA v).length = v.length := hA.1
  obtain ⟨n, hn⟩ : ∃ n, v.length = n := ⟨_, rfl⟩
  -- the ends
  obtain ⟨e1, e2, e3⟩ := rng_in (v := v) (r := r) hc hj
  have hR := fun W (h : Mat W p c v) => roomRange_any p c v r j W h hj64
  rw [e1, e2, e3] at hR
  have low := lowI_bd hBd hr1 hr2 hj (Nat.le_refl _)
  have high := highI_bd hBd hr1 hr2 hj (Nat.le_refl _)
  have dl1 := rN_mul (x := lowI v r j v.length) h0
  have dl2 := rD_mul (x := lowI v r j v.length) (d := v.length)
  have dh1 := rN_mul (x := highI v r j v.length) h0
  have dh2 := rD_mul (x := highI v r j v.length) (d := v.length)
  have bl := rN_bd (x := lowI v r j v.length) (d := v.length) (M := 100000000) (by omega) (by omega)
  have bh := rN_bd (x := highI v r j v.length) (d := v.length) (M := 100000000) (by omega) (by omega)
  have pl := rD_pos (x := lowI v r j v.length) h0
  have ph := rD_pos (x := highI v r j v.length) h0
  have ll := rD_le (x := lowI v r j v.length) (d := v.length)
  have lh := rD_le (x := highI v r j v.length) (d := v.length)
  have lessL := fun (x : Int) (e : Nat) (he : 0 < e) => rat_less (x := x) (d := e) (y := lowI v r j v.length) (e := v.length) he h0
  have lessH := fun (x : Int) (e : Nat) (he : 0 < e) => rat_less (x := highI v r j v.length) (d := v.length) (y := x) (e := e) h0 he
  unfold ratV rD at hR
  unfold rD at dl2 dh2 lessL lessH
  have hXg : ∀ k, xLo v r j k = lowI v r j v.length - v.length * gLk v k j := fun k => rfl
  have hYg : ∀ k, yHi v r j k = highI v r j v.length + v.length * gLk v j k := fun k => rfl
  have gl1 := rG_pos (x := lowI v r j v.length) h0
  have gh1 := rG_pos (x := highI v r j v.length) h0
  have gl2 := rG_le (x := lowI v r j v.length) h0
  have gh2 := rG_le (x := highI v r j v.length) h0
  have hbet := fun (h : freeB v r al ps z = true) => range_of h0 (vld_zero.1 (freeB_spec h).1).2.1 (show 0 < z by have := (vld_zero.1 (freeB_spec h).1).2.2.1; omega) (freeB_spec h).2 (show sumTo (iget ps) v.length = r * z by have h7 := (vld_zero.1 (freeB_spec h).1); rw [← h7.2.2.2.2.1]; exact h7.2.2.2.2.2.2) hj
  obtain ⟨GL, eGL⟩ : ∃ x, rG (lowI v r j v.length) v.length = x := ⟨_, rfl⟩
  obtain ⟨GH, eGH⟩ : ∃ x, rG (highI v r j v.length) v.length = x := ⟨_, rfl⟩
  rw [eGL] at dl1 dl2 pl ll gl1 gl2 lessL
  rw [eGH] at dh1 dh2 ph lh gh1 gh2 lessH
  rw [eGL, eGH] at hR
  obtain ⟨D1, eD1⟩ : ∃ x, v.length / GL = x := ⟨_, rfl⟩
  obtain ⟨D2, eD2⟩ : ∃ x, v.length / GH = x := ⟨_, rfl⟩
  rw [eD1] at dl2 pl ll lessL
  rw [eD2] at dh2 ph lh lessH
  rw [eD1, eD2] at hR
  obtain ⟨N1, eN1⟩ : ∃ x, rN (lowI v r j v.length) v.length = x := ⟨_, rfl⟩
  obtain ⟨N2, eN2⟩ : ∃ x, rN (highI v r j v.length) v.length = x := ⟨_, rfl⟩
  rw [eN1] at dl1 bl lessL
  rw [eN2] at dh1 bh lessH
  rw [eN1, eN2] at hR
  obtain ⟨L, eLo⟩ : ∃ x, lowI v r j v.length = x := ⟨_, rfl⟩
  obtain ⟨H, eHi⟩ : ∃ x, highI v r j v.length = x := ⟨_, rfl⟩
  simp only [eLo] at hXg dl1 low lessL hbet
  simp only [eHi] at hYg dh1 high lessH hbet
  have HF := Lib.hid hF
  have HL := Lib.hid hL
  have HBs := Lib.hid hBs
  have HR := Lib.hid hR
  have HBd := Lib.hid hBd
  have HAs := Lib.hid hA
  have HAl := Lib.hid hAl
  have HLen := Lib.hid (linkL_len v (bestA v))
  have Hll := Lib.hid (fun j (hj : j < v.length) => linkL_row_len (v := v) (a := bestA v) hj)
  have Hgl := Lib.hid (fun x y => show gLk v x y = iget (rget (linkL v (bestA v)) x) y from rfl)
  have Hngd := Lib.hid (fun x y (hx : x < v.length) (hy : y < v.length) => nG_bd hBd hx hy)
  have Hxef := Lib.hid (xLo_ef h0 r hj)
  have Hyef := Lib.hid (yHi_ef h0 r hj)
  have Hxs := Lib.hid (xLo_sum v r j)
  have Hys := Lib.hid (yHi_sum v r j)
  have Hxb := Lib.hid (fun k (hk : k < v.length) => xLo_bd hBd hr1 hr2 hj hk)
  have Hyb := Lib.hid (fun k (hk : k < v.length) => yHi_bd hBd hr1 hr2 hj hk)
  have Hbet := Lib.hid hbet
  have HlL := Lib.hid lessL
  have HlH := Lib.hid lessH
  have HXg := Lib.hid hXg
  have HYg := Lib.hid hYg
  -- the numbers of the rounds
  have q1 : IntKind.i64.wrap ((v.length : Int).tdiv D1) = GL := by
    rw [← dl2, Int.mul_comm, Int.mul_tdiv_cancel _ (by omega)]
    exact IntWalk.i64_in _ (by omega)
  have q1' : (v.length : Int).tdiv D1 = GL := by rw [← dl2, Int.mul_comm, Int.mul_tdiv_cancel _ (by omega)]
  have q1'' : (v.length : Int) / D1 = GL := by rw [← dl2, Int.mul_comm, Int.mul_ediv_cancel _ (by omega)]
  have q2 : IntKind.i64.wrap ((v.length : Int).tdiv D2) = GH := by
    rw [← dh2, Int.mul_comm, Int.mul_tdiv_cancel _ (by omega)]
    exact IntWalk.i64_in _ (by omega)
  have q2' : (v.length : Int).tdiv D2 = GH := by rw [← dh2, Int.mul_comm, Int.mul_tdiv_cancel _ (by omega)]
  have q2'' : (v.length : Int) / D2 = GH := by rw [← dh2, Int.mul_comm, Int.mul_ediv_cancel _ (by omega)]
  have q3 : IntKind.i64.wrap (N1 * GL) = L := by rw [dl1]; exact IntWalk.i64_in _ (by omega)
  have q4 : IntKind.i64.wrap (N2 * GH) = H := by rw [dh1]; exact IntWalk.i64_in _ (by omega)
  have m1 : (v.length : Int) % D1 = 0 := by rw [← dl2, Int.mul_emod_right]
  have m2 : (v.length : Int) % D2 = 0 := by rw [← dh2, Int.mul_emod_right]
  have x1 : max (1 : Int) D1 = D1 := by omega
  have x2 : max (1 : Int) D2 = D2 := by omega
  have y1 : decide ((D1 : Int) < 1) = false := by simp; omega
  have y2 : decide ((D2 : Int) < 1) = false := by simp; omega
  have z1 : (1 : Int) ≤ D1 := by omega
  have z2 : (1 : Int) ≤ D2 := by omega
  have hj0 : decide ((j : Int) < 0) = false := by simp
  have hjn : (j : Int) < v.length := by omega
  obtain ⟨_, _⟩ := hj64
  have HQ := Lib.hid (And.intro q1 (And.intro q1' (And.intro q1'' (And.intro q2 (And.intro q2' (And.intro q2'' (And.intro q3 q4)))))))
  clear hF hL hf hc hBd eL hBs hb hA hAl hn n e1 e2 e3 hR dl1 dl2 dh1 dh2 lessL lessH hXg hYg hbet eGL eGH eD1 eD2 eN1 eN2 eLo eHi q1 q1' q1'' q2 q2' q2'' q3 q4
  go_enter Try.func7, Try.ntmps7
  go_wp2_with fail
  rw [HWx.out, HW0.out]
  refine (alive14_any _).mono ?_
  rintro e w1 ⟨rfl, hb⟩
  replace mX := mX.below hb (Nat.le_refl _)
  replace mA := mA.below hb (Nat.le_refl _)
  replace mP := mP.below hb (Nat.le_refl _)
  replace bX := bX.below hb
  replace bL := bL.below hb
  replace hB := hB.trans (hb.mono hB.size)
  clear hb
  have kbX_0 := bX.cell 0 _ rfl
  have kbX_1 := bX.cell 1 _ rfl
  have lbX := bX.lt
  have kbL_0 := bL.cell 0 _ rfl
  have kbL_1 := bL.cell 1 _ rfl
  have kbL_2 := bL.cell 2 _ rfl
  have lbL := bL.lt
  go_wp2_with fail
  refine (HF.out _ mX).mono ?_
  rintro e w2 ⟨rfl, hb⟩
  clear kbX_0 kbX_1 lbX kbL_0 kbL_1 kbL_2 lbL
  replace mX := mX.below hb (Nat.le_refl _)
  replace mA := mA.below hb (Nat.le_refl _)
  replace mP := mP.below hb (Nat.le_refl _)
  replace bX := bX.below hb
  replace bL := bL.below hb
  replace hB := hB.trans (hb.mono hB.size)
  clear hb
  have kbX_0 := bX.cell 0 _ rfl
  have kbX_1 := bX.cell 1 _ rfl
  have lbX := bX.lt
  have kbL_0 := bL.cell 0 _ rfl
  have kbL_1 := bL.cell 1 _ rfl
  have kbL_2 := bL.cell 2 _ rfl
  have lbL := bL.lt
  go_wp2_with fail
  refine (HR.out _ mX).mono ?_
  rintro e w3 ⟨rfl, hb⟩
  clear kbX_0 kbX_1 lbX kbL_0 kbL_1 kbL_2 lbL
  replace mX := mX.below hb (Nat.le_refl _)
  replace mA := mA.below hb (Nat.le_refl _)
  replace mP := mP.below hb (Nat.le_refl _)
  replace bX := bX.below hb
  replace bL := bL.below hb
  replace hB := hB.trans (hb.mono hB.size)
  clear hb
  obtain ⟨Wa, hWa⟩ : ∃ W, w3.alloc (.cells #[.int .i64 N1, .int .i64 D1] 40) = W := ⟨_, rfl⟩
  obtain ⟨W4, hW4⟩ : ∃ W, Wa.alloc (.cells #[.int .i64 N2, .int .i64 D2] 40) = W := ⟨_, rfl⟩
  have hba := below_alloc hWa
  have hbb := below_alloc hW4
  have hsa : Wa.heap.size = w3.heap.size + 1 := by rw [← hWa]; simp
  have bLo : BoxV W4 w3.heap.size [.int .i64 N1, .int .i64 D1] := (BoxV.new rfl hWa).below hbb
  have bHi : BoxV W4 (w3.heap.size + 1) [.int .i64 N2, .int .i64 D2] := BoxV.new hsa hW4
  have hb : Below w3.heap.size w3 W4 := hba.trans (hbb.mono hba.size)
  have HWa := Lib.hid hWa
  have HW4 := Lib.hid hW4
  replace mX := mX.below hb (Nat.le_refl _)
  replace mA := mA.below hb (Nat.le_refl _)
  replace mP := mP.below hb (Nat.le_refl _)
  replace bX := bX.below hb
  replace bL := bL.below hb
  replace hB := hB.trans (hb.mono hB.size)
  clear hb hba hbb hWa hW4 hsa
  go_upto_region 6 with (fail)
  rw [HWa.out, HW4.out]
  have kbX_0 := bX.cell 0 _ rfl
  have kbX_1 := bX.cell 1 _ rfl
  have lbX := bX.lt
  have kbL_0 := bL.cell 0 _ rfl
  have kbL_1 := bL.cell 1 _ rfl
  have kbL_2 := bL.cell 2 _ rfl
  have lbL := bL.lt
  have kbLo_0 := bLo.cell 0 _ rfl
  have kbLo_1 := bLo.cell 1 _ rfl
  have lbLo := bLo.lt
  have kbHi_0 := bHi.cell 0 _ rfl
  have kbHi_1 := bHi.cell 1 _ rfl
  have lbHi := bHi.lt
  go_wp2_with fail
  refine (HL.out _ mX).mono ?_
  rintro e w5 ⟨pk, ck, Q, D, rfl, oD, hb⟩
  clear kbX_0 kbX_1 lbX kbL_0 kbL_1 kbL_2 lbL kbLo_0 kbLo_1 lbLo kbHi_0 kbHi_1 lbHi
  replace mX := mX.below hb (Nat.le_refl _)
  replace mA := mA.below hb (Nat.le_refl _)
  replace mP := mP.below hb (Nat.le_refl _)
  replace bX := bX.below hb
  replace bL := bL.below hb
  replace bLo := bLo.below hb
  replace bHi := bHi.below hb
  replace hB := hB.trans (hb.mono hB.size)
  clear hb
  rw [HLen.out]
  have mD := oD.mat
  clear oD
  have kbX_0 := bX.cell 0 _ rfl
  have kbX_1 := bX.cell 1 _ rfl
  have lbX := bX.lt
  have kbL_0 := bL.cell 0 _ rfl
  have kbL_1 := bL.cell 1 _ rfl
  have kbL_2 := bL.cell 2 _ rfl
  have lbL := bL.lt
  have kbLo_0 := bLo.cell 0 _ rfl
  have kbLo_1 := bLo.cell 1 _ rfl
  have lbLo := bLo.lt
  have kbHi_0 := bHi.cell 0 _ rfl
  have kbHi_1 := bHi.cell 1 _ rfl
  have lbHi := bHi.lt
  go_wp2_with fail
  refine (HBs.out _ mX).mono ?_
  rintro e w6 ⟨qa, da, rfl, oA, hb⟩
  clear kbX_0 kbX_1 lbX kbL_0 kbL_1 kbL_2 lbL kbLo_0 kbLo_1 lbLo kbHi_0 kbHi_1 lbHi
  replace mX := mX.below hb (Nat.le_refl _)
  replace mA := mA.below hb (Nat.le_refl _)
  replace mP := mP.below hb (Nat.le_refl _)
  replace bX := bX.below hb
  replace bL := bL.below hb
  replace bLo := bLo.below hb
  replace bHi := bHi.below hb
  replace mD := mD.below hb (Nat.le_refl _)
  replace hB := hB.trans (hb.mono hB.size)
  clear hb
  have iA := oA.ints
  clear oA
  have hAsg := fun W (h : Ints W qa da (bestA v)) => assigned_any qa da (bestA v) v.length W (by omega) h
  rw [isAB_true HAs.out, HAl.out] at hAsg
  have HAsg := Lib.hid hAsg
  clear hAsg
  have kbX_0 := bX.cell 0 _ rfl
  have kbX_1 := bX.cell 1 _ rfl
  have lbX := bX.lt
  have kbL_0 := bL.cell 0 _ rfl
  have kbL_1 := bL.cell 1 _ rfl
  have kbL_2 := bL.cell 2 _ rfl
  have lbL := bL.lt
  have kbLo_0 := bLo.cell 0 _ rfl
  have kbLo_1 := bLo.cell 1 _ rfl
  have lbLo := bLo.lt
  have kbHi_0 := bHi.cell 0 _ rfl
  have kbHi_1 := bHi.cell 1 _ rfl
  have lbHi := bHi.lt
  go_wp2_with fail
  refine (HAsg.out _ iA).mono ?_
  rintro e w7 ⟨rfl, rfl⟩
  obtain ⟨Wb, hWb⟩ : ∃ W, w7.alloc (.cells #[.slice qa v.length da, .slice none 0 0, .int .i64 v.length] 28) = W := ⟨_, rfl⟩
  obtain ⟨w8, hw8⟩ : ∃ W, Wb.alloc (.cells #[.slice qa v.length da, .slice none 0 0, .int .i64 v.length] 28) = W := ⟨_, rfl⟩
  have hba := below_alloc hWb
  have hbb := below_alloc hw8
  have hsa : Wb.heap.size = w7.heap.size + 1 := by rw [← hWb]; simp
  have lX0 : LB w8 w7.heap.size (.slice qa v.length da) none 0 0 v.length := (LB.new rfl hWb.symm).below hbb (by omega)
  have lY0 : LB w8 (w7.heap.size + 1) (.slice qa v.length da) none 0 0 v.length := LB.new hsa hw8.symm
  have hb : Below w7.heap.size w7 w8 := hba.trans (hbb.mono hba.size)
  have hs8 : w8.heap.size = w7.heap.size + 2 := by rw [← hw8]; simp [hsa]
  have HWb := Lib.hid hWb
  have Hw8 := Lib.hid hw8
  go_upto_region 12 with (fail)
  obtain ⟨S1, hS1⟩ : ∃ S, w7.heap.size = S := ⟨_, rfl⟩
  rw [hS1] at lX0 lY0 hs8 hb ⊢
  have HS1 := Lib.hid hS1
  have hlN := bLo.lt
  have hlM := bHi.lt
  have kN := bLo.cell 0 _ rfl
  have kD := bLo.cell 1 _ rfl
  have kN2 := bHi.cell 0 _ rfl
  have kD2 := bHi.cell 1 _ rfl
  obtain ⟨S9, hS9⟩ : ∃ S, w3.heap.size = S := ⟨_, rfl⟩
  rw [hS9] at kN kD kN2 kD2 hlN hlM ⊢
  rw [hS1] at hlN hlM
  have HK := Lib.hid (And.intro kN (And.intro kD (And.intro kN2 kD2)))
  clear hWb hw8 hba hbb hsa hS1 hS9 kN kD kN2 kD2
  obtain ⟨i0, hi0, hz0, hz1, hz2⟩ := info_parts infoInt
  go_wp2_with fail
  go_loopw [19] (fun t wr => ∃ m : Nat, m ≤ v.length ∧ t = .int .i64 m ∧ (∃ (xs ys : List Int) (qx qy : Option Addr) (dx dy : Nat), Hid (xs = (List.range m).map (xLo v r j)) ∧ Hid (ys = (List.range m).map (yHi v r j)) ∧ Hid (LB wr S1 (.slice qa v.length da) qx xs.length dx v.length) ∧ Hid (LB wr (S1 + 1) (.slice qa v.length da) qy ys.length dy v.length) ∧ Own wr (S1 + 2) qx dx xs ∧ Own wr (S1 + 2) qy dy ys ∧ Apart qx qy) ∧ Below S1 w7 wr ∧ S1 + 2 ≤ wr.heap.size) (fun t _ => v.length - (intOf t).toNat)
  case atStart => exact ⟨0, Nat.zero_le _, rfl, ⟨[], [], none, none, 0, 0, rfl, rfl, lX0, lY0, Own.ofNil _ _, Own.ofNil _ _, fun k h => by simp [blk] at h⟩, hb, by omega⟩
  case round =>
    obtain ⟨m, hm, rfl, ⟨xs, ys, qx, qy, dx, dy, hxs, hys, hLX, hLY, hOx, hOy, hAp⟩, hBm, hsz⟩ := hrel
    by_cases hlt : m < v.length
    · have hm1 : (m : Int) < v.length := by omega
      have hxl : xs.length ≤ 900 := by rw [hxs.out]; simp; omega
      have hyl : ys.length ≤ 900 := by rw [hys.out]; simp; omega
      have Hxn : Hid ((List.range (m + 1)).map (xLo v r j) = xs ++ [xLo v r j m]) := by unfold Hid; rw [List.range_succ, List.map_append, ← hxs.out]; rfl
      have Hyn : Hid ((List.range (m + 1)).map (yHi v r j) = ys ++ [yHi v r j m]) := by unfold Hid; rw [List.range_succ, List.map_append, ← hys.out]; rfl
      obtain ⟨bd, od, rfl, hlD, qr, dr, hcr, hir⟩ := mD.get (j := m) (by rw [HLen.out]; exact hlt)
      obtain ⟨q2, d2, hc2, hi2⟩ := mD.at (j := j) (by rw [HLen.out]; exact hj)
      have hl1 := Hll.out m hlt
      have hl2 := Hll.out j hj
      obtain ⟨b3, o3, rfl, hl3, hc3⟩ := hir.get (j := j) (by rw [hl1]; exact hj)
      obtain ⟨b4, o4, rfl, hl4, hc4⟩ := hi2.get (j := m) (by rw [hl2]; exact hlt)
      rw [hl1] at hcr
      rw [hl2] at hc2
      have hg1 := Hgl.out m j
      have hg2 := Hgl.out j m
      have hnb1 := Hngd.out m j hlt hj
      have hnb2 := Hngd.out j m hj hlt
      have hX1 := HXg.out m
      have hY1 := HYg.out m
      have hxb := Hxb.out m hlt
      have hyb := Hyb.out m hlt
      obtain ⟨X, eX⟩ : ∃ x, xLo v r j m = x := ⟨_, rfl⟩
      obtain ⟨Y, eY⟩ : ∃ x, yHi v r j m = x := ⟨_, rfl⟩
      rw [eX] at hX1 hxb Hxn
      rw [eY] at hY1 hyb Hyn
      obtain ⟨x, exx⟩ : ∃ x, gLk v m j = x := ⟨_, rfl⟩
      obtain ⟨y, eyy⟩ : ∃ x, gLk v j m = x := ⟨_, rfl⟩
      rw [exx] at hg1 hnb1 hX1
      rw [eyy] at hg2 hnb2 hY1
      rw [← hg1] at hc3
      rw [← hg2] at hc4
      obtain ⟨nx, enx⟩ : ∃ t, (v.length : Int) * x = t := ⟨_, rfl⟩
      obtain ⟨ny, eny⟩ : ∃ t, (v.length : Int) * y = t := ⟨_, rfl⟩
      rw [enx] at hnb1 hX1
      rw [eny] at hnb2 hY1
      have t1 : IntKind.i64.wrap ((v.length : Int) * x) = nx := by rw [enx]; exact IntWalk.i64_in _ (by omega)
      have t2 : IntKind.i64.wrap (L - nx) = X := by rw [hX1]; exact IntWalk.i64_in _ (by omega)
      have t3 : IntKind.i64.wrap ((v.length : Int) * y) = ny := by rw [eny]; exact IntWalk.i64_in _ (by omega)
      have t4 : IntKind.i64.wrap (H + ny) = Y := by rw [hY1]; exact IntWalk.i64_in _ (by omega)
      have hX64 : in64 X := ⟨by omega, by omega⟩
      have hY64 : in64 Y := ⟨by omega, by omega⟩
      rw [HS1.out] at hlD hl3 hl4
      have hj1' : (j : Int) < v.length := hjn
      have hcm := (hBm.cell (p := ⟨bd, od + m, none⟩) hlD).trans hcr
      have Hmk : Hid (∀ W, Below S1 w7 W → (W.cell? ⟨bd, od + m, none⟩ = some (.slice (some ⟨b3, o3, none⟩) v.length dr) ∧ W.cell? ⟨b3, o3 + j, none⟩ = some (.int .i64 x) ∧ W.cell? ⟨S9, 0, none⟩ = some (.int .i64 N1) ∧ W.cell? ⟨S9, 1, none⟩ = some (.int .i64 D1))) := fun W hG =>
        ⟨(hG.cell (p := ⟨bd, od + m, none⟩) hlD).trans hcr, (hG.cell (p := ⟨b3, o3 + j, none⟩) hl3).trans hc3, (hG.cell (p := ⟨S9, 0, none⟩) hlN).trans HK.out.1, (hG.cell (p := ⟨S9, 1, none⟩) hlN).trans HK.out.2.1⟩
      have Hmk2 : Hid (∀ W, Below S1 w7 W → (W.cell? ⟨bd, od + j, none⟩ = some (.slice (some ⟨b4, o4, none⟩) v.length d2) ∧ W.cell? ⟨b4, o4 + m, none⟩ = some (.int .i64 y) ∧ W.cell? ⟨S9 + 1, 0, none⟩ = some (.int .i64 N2) ∧ W.cell? ⟨S9 + 1, 1, none⟩ = some (.int .i64 D2))) := fun W hG =>
        ⟨(hG.cell (p := ⟨bd, od + j, none⟩) hlD).trans hc2, (hG.cell (p := ⟨b4, o4 + m, none⟩) hl4).trans hc4, (hG.cell (p := ⟨S9 + 1, 0, none⟩) hlM).trans HK.out.2.2.1, (hG.cell (p := ⟨S9 + 1, 1, none⟩) hlM).trans HK.out.2.2.2⟩
      clear hcr hc2 hc3 hc4 hir hi2 hl1 hl2 hg1 hg2 hX1 hY1 hxb hyb eX eY exx eyy enx eny hnb1 hnb2
      have T1 := Lib.hid (And.intro t1 (And.intro t2 (And.intro t3 t4)))
      clear t1 t2 t3 t4
      have hx1 := hLX.out.c1
      have hlt1 : S1 < wr.heap.size := by omega
      have hszB : ∀ W, Below S1 w7 W → Below wr.heap.size wr W → S1 ≤ W.heap.size := fun W _ h => by have := h.size; omega
      go_wp2_with fail
      refine wp_region_inv (by kernel_rfl) (by decide +kernel) (by decide +kernel) _ _ (AppJ S1 w7 wr 1 19 20 22 (fun k => match k with | 0 => (.pointer (some ⟨S1, 1, none⟩)) | 1 => (.slice qx xs.length dx) | 2 => (.pointer (some ⟨S9, 0, none⟩)) | 3 => (.int .i64 (N1 : Int)) | 4 => (.int .i64 (v.length : Int)) | 5 => (.pointer (some ⟨S9, 1, none⟩)) | 6 => (.int .i64 (D1 : Int)) | 7 => (.int .i64 (GL : Int)) | 8 => (.int .i64 (L : Int)) | 9 => (.int .i64 (v.length : Int)) | 10 => (.slice (some ⟨bd, od, none⟩) v.length ck) | 11 => (.int .i64 (m : Int)) | 12 => (.pointer (some ⟨bd, od + m, none⟩)) | 13 => (.slice (some ⟨b3, o3, none⟩) v.length dr) | 14 => (.int .i64 (j : Int)) | 15 => (.pointer (some ⟨b3, o3 + j, none⟩)) | 16 => (.int .i64 (x : Int)) | 17 => (.int .i64 (nx : Int)) | 18 => (.int .i64 (X : Int)) | 21 => (.pointer (some ⟨S1, 1, none⟩)) | _ => undef) X xs.length (fun W p cap => Own W (S1 + 2) p cap (xs ++ [X]) ∧ LB W (S1) (.slice qa v.length da) qx xs.length dx v.length ∧ LB W (S1 + 1) (.slice qa v.length da) qy ys.length dy v.length ∧ Own W (S1 + 2) qy dy ys ∧ Apart p qy ∧ S1 + 2 ≤ W.heap.size) (fun W => ∃ (qn : Option Addr) (dn : Nat), Hid (LB W (S1) (.slice qa v.length da) qn (xs ++ [X]).length dn v.length) ∧ Hid (LB W (S1 + 1) (.slice qa v.length da) qy ys.length dy v.length) ∧ Own W (S1 + 2) qn dn (xs ++ [X]) ∧ Own W (S1 + 2) qy dy ys ∧ Apart qn qy ∧ S1 + 2 ≤ W.heap.size)) ?_ ?_ ?_
      · exact fun us => AppJ.start us hBm
      · intro us D W i o A hA hi hJ hnD hon K hK
        have hlt : i < 23 := (Array.getElem?_eq_some_iff.1 hi).1
        rcases lt23 hlt with rfl | rfl | rfl | rfl | rfl | rfl | rfl | rfl | rfl | rfl | rfl | rfl | rfl | rfl | rfl | rfl | rfl | rfl | rfl | rfl | rfl | rfl | rfl
        · have hi' := Option.some.inj hi
          subst hi'
          refine wp_val (v := (.pointer (some ⟨S1, 1, none⟩))) (w' := W) ?_ (hK _ _ (hJ.pure (i := 0) (by decide) (by decide) (by decide)))
          · skip
            have e17 : A.tmps[17]?.getD undef = (.pointer (some ⟨S1, 0, none⟩)) := by rw [hA]; kernel_rfl
            clear hA hK hon hJ
            go_simp
        · have hi' := Option.some.inj hi
          subst hi'
          refine wp_val (v := (.slice qx xs.length dx)) (w' := W) ?_ (hK _ _ (hJ.pure (i := 1) (by decide) (by decide) (by decide)))
          · skip
            have e130 : A.tmps[130]?.getD undef = (.pointer (some ⟨S1, 1, none⟩)) := (by rw [hA]; kernel_rfl : A.tmps[130]?.getD undef = us 0).trans (hJ.val 0 (by decide) (by decide) (by decide) (hon 0 (by decide +kernel)))
            have cc := ((hJ.pre (fun hd => hnD (hJ.o1 hd).2)).cell (p := ⟨S1, 1, none⟩) hlt1).trans hx1
            clear hA hK hon hJ
            go_simp
        · have hi' := Option.some.inj hi
          subst hi'
          refine wp_val (v := (.pointer (some ⟨S9, 0, none⟩))) (w' := W) ?_ (hK _ _ (hJ.pure (i := 2) (by decide) (by decide) (by decide)))
          · skip
            have e9 : A.tmps[9]?.getD undef = (.pointer (some ⟨S9, 0, none⟩)) := by rw [hA]; kernel_rfl
            clear hA hK hon hJ
            go_simp
        · have hi' := Option.some.inj hi
          subst hi'
          refine wp_val (v := (.int .i64 (N1 : Int))) (w' := W) ?_ (hK _ _ (hJ.pure (i := 3) (by decide) (by decide) (by decide)))
          · skip
            have e132 : A.tmps[132]?.getD undef = (.pointer (some ⟨S9, 0, none⟩)) := (by rw [hA]; kernel_rfl : A.tmps[132]?.getD undef = us 2).trans (hJ.val 2 (by decide) (by decide) (by decide) (hon 2 (by decide +kernel)))
            obtain ⟨cc1, cc2, cc3, cc4⟩ := Hmk.out W hJ.bel
            clear hA hK hon hJ
            go_simp
        · have hi' := Option.some.inj hi
          subst hi'
          refine wp_val (v := (.int .i64 (v.length : Int))) (w' := W) ?_ (hK _ _ (hJ.pure (i := 4) (by decide) (by decide) (by decide)))
          · skip
            have e8 : A.tmps[8]?.getD undef = (.int .i64 (v.length : Int)) := by rw [hA]; kernel_rfl
            clear hA hK hon hJ
            go_simp
        · have hi' := Option.some.inj hi
          subst hi'
          refine wp_val (v := (.pointer (some ⟨S9, 1, none⟩))) (w' := W) ?_ (hK _ _ (hJ.pure (i := 5) (by decide) (by decide) (by decide)))
          · skip
            have e9 : A.tmps[9]?.getD undef = (.pointer (some ⟨S9, 0, none⟩)) := by rw [hA]; kernel_rfl
            clear hA hK hon hJ
            go_simp
        · have hi' := Option.some.inj hi
          subst hi'
          refine wp_val (v := (.int .i64 (D1 : Int))) (w' := W) ?_ (hK _ _ (hJ.pure (i := 6) (by decide) (by decide) (by decide)))
          · skip
            have e135 : A.tmps[135]?.getD undef = (.pointer (some ⟨S9, 1, none⟩)) := (by rw [hA]; kernel_rfl : A.tmps[135]?.getD undef = us 5).trans (hJ.val 5 (by decide) (by decide) (by decide) (hon 5 (by decide +kernel)))
            obtain ⟨cc1, cc2, cc3, cc4⟩ := Hmk.out W hJ.bel
            clear hA hK hon hJ
            go_simp
        · have hi' := Option.some.inj hi
          subst hi'
          refine wp_val (v := (.int .i64 (GL : Int))) (w' := W) ?_ (hK _ _ (hJ.pure (i := 7) (by decide) (by decide) (by decide)))
          · skip
            have e134 : A.tmps[134]?.getD undef = (.int .i64 (v.length : Int)) := (by rw [hA]; kernel_rfl : A.tmps[134]?.getD undef = us 4).trans (hJ.val 4 (by decide) (by decide) (by decide) (hon 4 (by decide +kernel)))
            have e136 : A.tmps[136]?.getD undef = (.int .i64 (D1 : Int)) := (by rw [hA]; kernel_rfl : A.tmps[136]?.getD undef = us 6).trans (hJ.val 6 (by decide) (by decide) (by decide) (hon 6 (by decide +kernel)))
            obtain ⟨qa1, qa2, qa3, _, _, _, _, _⟩ := HQ.out
            have hd0 : D1 ≠ 0 := by omega
            have hw0 : IntKind.i64.wrap (GL : Int) = GL := IntWalk.i64_in _ (by omega)
            clear hA hK hon hJ
            go_simp
        · have hi' := Option.some.inj hi
          subst hi'
          refine wp_val (v := (.int .i64 (L : Int))) (w' := W) ?_ (hK _ _ (hJ.pure (i := 8) (by decide) (by decide) (by decide)))
          · skip
            have e133 : A.tmps[133]?.getD undef = (.int .i64 (N1 : Int)) := (by rw [hA]; kernel_rfl : A.tmps[133]?.getD undef = us 3).trans (hJ.val 3 (by decide) (by decide) (by decide) (hon 3 (by decide +kernel)))
            have e137 : A.tmps[137]?.getD undef = (.int .i64 (GL : Int)) := (by rw [hA]; kernel_rfl : A.tmps[137]?.getD undef = us 7).trans (hJ.val 7 (by decide) (by decide) (by decide) (hon 7 (by decide +kernel)))
            obtain ⟨_, _, _, _, _, _, qa1, _⟩ := HQ.out
            clear hA hK hon hJ
            go_simp
        · have hi' := Option.some.inj hi
          subst hi'
          refine wp_val (v := (.int .i64 (v.length : Int))) (w' := W) ?_ (hK _ _ (hJ.pure (i := 9) (by decide) (by decide) (by decide)))
          · skip
            have e8 : A.tmps[8]?.getD undef = (.int .i64 (v.length : Int)) := by rw [hA]; kernel_rfl
            clear hA hK hon hJ
            go_simp
        · have hi' := Option.some.inj hi
          subst hi'
          refine wp_val (v := (.slice (some ⟨bd, od, none⟩) v.length ck)) (w' := W) ?_ (hK _ _ (hJ.pure (i := 10) (by decide) (by decide) (by decide)))
          · skip
            have e12 : A.tmps[12]?.getD undef = (.slice (some ⟨bd, od, none⟩) v.length ck) := by rw [hA]; kernel_rfl
            clear hA hK hon hJ
            go_simp
        · have hi' := Option.some.inj hi
          subst hi'
          refine wp_val (v := (.int .i64 (m : Int))) (w' := W) ?_ (hK _ _ (hJ.pure (i := 11) (by decide) (by decide) (by decide)))
          · skip
            have e19 : A.tmps[19]?.getD undef = (.int .i64 (m : Int)) := by rw [hA]; kernel_rfl
            clear hA hK hon hJ
            go_simp
        · have hi' := Option.some.inj hi
          subst hi'
          refine wp_val (v := (.pointer (some ⟨bd, od + m, none⟩))) (w' := W) ?_ (hK _ _ (hJ.pure (i := 12) (by decide) (by decide) (by decide)))
          · skip
            have e140 : A.tmps[140]?.getD undef = (.slice (some ⟨bd, od, none⟩) v.length ck) := (by rw [hA]; kernel_rfl : A.tmps[140]?.getD undef = us 10).trans (hJ.val 10 (by decide) (by decide) (by decide) (hon 10 (by decide +kernel)))
            have e141 : A.tmps[141]?.getD undef = (.int .i64 (m : Int)) := (by rw [hA]; kernel_rfl : A.tmps[141]?.getD undef = us 11).trans (hJ.val 11 (by decide) (by decide) (by decide) (hon 11 (by decide +kernel)))
            clear hA hK hon hJ
            go_simp
        · have hi' := Option.some.inj hi
          subst hi'
          refine wp_val (v := (.slice (some ⟨b3, o3, none⟩) v.length dr)) (w' := W) ?_ (hK _ _ (hJ.pure (i := 13) (by decide) (by decide) (by decide)))
          · skip
            have e142 : A.tmps[142]?.getD undef = (.pointer (some ⟨bd, od + m, none⟩)) := (by rw [hA]; kernel_rfl : A.tmps[142]?.getD undef = us 12).trans (hJ.val 12 (by decide) (by decide) (by decide) (hon 12 (by decide +kernel)))
            obtain ⟨cc1, cc2, cc3, cc4⟩ := Hmk.out W hJ.bel
            clear hA hK hon hJ
            go_simp
        · have hi' := Option.some.inj hi
          subst hi'
          refine wp_val (v := (.int .i64 (j : Int))) (w' := W) ?_ (hK _ _ (hJ.pure (i := 14) (by decide) (by decide) (by decide)))
          · skip
            have e2 : A.tmps[2]?.getD undef = (.int .i64 (j : Int)) := by rw [hA]; kernel_rfl
            clear hA hK hon hJ
            go_simp
        · have hi' := Option.some.inj hi
          subst hi'
          refine wp_val (v := (.pointer (some ⟨b3, o3 + j, none⟩))) (w' := W) ?_ (hK _ _ (hJ.pure (i := 15) (by decide) (by decide) (by decide)))
          · skip
            have e143 : A.tmps[143]?.getD undef = (.slice (some ⟨b3, o3, none⟩) v.length dr) := (by rw [hA]; kernel_rfl : A.tmps[143]?.getD undef = us 13).trans (hJ.val 13 (by decide) (by decide) (by decide) (hon 13 (by decide +kernel)))
            have e144 : A.tmps[144]?.getD undef = (.int .i64 (j : Int)) := (by rw [hA]; kernel_rfl : A.tmps[144]?.getD undef = us 14).trans (hJ.val 14 (by decide) (by decide) (by decide) (hon 14 (by decide +kernel)))
            clear hA hK hon hJ
            go_simp
        · have hi' := Option.some.inj hi
          subst hi'
          refine wp_val (v := (.int .i64 (x : Int))) (w' := W) ?_ (hK _ _ (hJ.pure (i := 16) (by decide) (by decide) (by decide)))
          · skip
            have e145 : A.tmps[145]?.getD undef = (.pointer (some ⟨b3, o3 + j, none⟩)) := (by rw [hA]; kernel_rfl : A.tmps[145]?.getD undef = us 15).trans (hJ.val 15 (by decide) (by decide) (by decide) (hon 15 (by decide +kernel)))
            obtain ⟨cc1, cc2, cc3, cc4⟩ := Hmk.out W hJ.bel
            clear hA hK hon hJ
            go_simp
        · have hi' := Option.some.inj hi
          subst hi'
          refine wp_val (v := (.int .i64 (nx : Int))) (w' := W) ?_ (hK _ _ (hJ.pure (i := 17) (by decide) (by decide) (by decide)))
          · skip
            have e139 : A.tmps[139]?.getD undef = (.int .i64 (v.length : Int)) := (by rw [hA]; kernel_rfl : A.tmps[139]?.getD undef = us 9).trans (hJ.val 9 (by decide) (by decide) (by decide) (hon 9 (by decide +kernel)))
            have e146 : A.tmps[146]?.getD undef = (.int .i64 (x : Int)) := (by rw [hA]; kernel_rfl : A.tmps[146]?.getD undef = us 16).trans (hJ.val 16 (by decide) (by decide) (by decide) (hon 16 (by decide +kernel)))
            obtain ⟨ta1, _, _, _⟩ := T1.out
            clear hA hK hon hJ
            go_simp
        · have hi' := Option.some.inj hi
          subst hi'
          refine wp_val (v := (.int .i64 (X : Int))) (w' := W) ?_ (hK _ _ (hJ.pure (i := 18) (by decide) (by decide) (by decide)))
          · skip
            have e138 : A.tmps[138]?.getD undef = (.int .i64 (L : Int)) := (by rw [hA]; kernel_rfl : A.tmps[138]?.getD undef = us 8).trans (hJ.val 8 (by decide) (by decide) (by decide) (hon 8 (by decide +kernel)))
            have e147 : A.tmps[147]?.getD undef = (.int .i64 (nx : Int)) := (by rw [hA]; kernel_rfl : A.tmps[147]?.getD undef = us 17).trans (hJ.val 17 (by decide) (by decide) (by decide) (hon 17 (by decide +kernel)))
            obtain ⟨_, ta1, _, _⟩ := T1.out
            clear hA hK hon hJ
            go_simp
        · have hi' := Option.some.inj hi
          subst hi'
          have hsB := hszB W hJ.bel (hJ.pre (fun hd => hnD (hJ.o1 hd).1))
          refine wp_val (v := .slice (some ⟨W.heap.size, 0, none⟩) 1 1) (w' := W.alloc (.cells #[.int .i64 X] 3)) ?_ (hK _ _ (hJ.build hnD (by decide) (by decide) hsB _))
          · skip
            have e148 : A.tmps[148]?.getD undef = (.int .i64 (X : Int)) := (by rw [hA]; kernel_rfl : A.tmps[148]?.getD undef = us 18).trans (hJ.val 18 (by decide) (by decide) (by decide) (hon 18 (by decide +kernel)))
            clear hA hK hon hJ
            go_simp
        · have hi' := Option.some.inj hi
          subst hi'
          obtain ⟨b', hb', hc'⟩ := hJ.lit (hon 19 (by decide +kernel)) hnD
          have hP := hJ.pre hnD
          have e131 : A.tmps[131]?.getD undef = (.slice qx xs.length dx) := (by rw [hA]; kernel_rfl : A.tmps[131]?.getD undef = us 1).trans (hJ.val 1 (by decide) (by decide) (by decide) (hon 1 (by decide +kernel)))
          have e149 : A.tmps[149]?.getD undef = .slice (some ⟨b', 0, none⟩) 1 1 := (by rw [hA]; kernel_rfl : A.tmps[149]?.getD undef = us 19).trans hb'
          refine wp_append_lies _ (.tmp 131) (.tmp 149) 26 (by rfl) (S1 + 2) 3 i0 (.int .i64 0) 1 8 Try.underlying26 hi0 hz0 hz1 hz2 rfl (by decide) (.slice qx xs.length dx) xs.length (xs.map (Value.int .i64)) ((eval_tmp A 131).trans e131) (hOx.below hP (Nat.le_refl _)).row ⟨b', 0, none⟩ 1 1 [.int .i64 X] ((eval_tmp A 149).trans e149) rfl (news_one hc') (by simp [Value.oneCell']) (by decide) (by simp [maxLen]; omega) (by omega) (by have := hP.size; omega) _ rfl ?_
          intro g4 cap4 w4 hO4 hg4 hor4 hlt4
          have hG4 : Below (S1 + 2) W w4 := Below.grown (Below.refl _ _) hg4 (by have := hP.size; omega) (fun k' e => by rw [ownBlock_slice] at e; exact (hOx.lt k' e).1)
          have hPs := hP.size
          have hGs := hG4.size
          have hF1 := own_snocR hO4 hOx.rng hX64
          have hF2 := (hLX.out.below hP (by omega)).below hG4 (by omega)
          have hF3 := (hLY.out.below hP (by omega)).below hG4 (by omega)
          have hF4 := (hOy.below hP (Nat.le_refl _)).keptBy hg4 (fun k hk e => by rw [ownBlock_slice] at e; exact hAp k e hk)
          have hy4 : ∀ k, blk qy = some k → k < W.heap.size := fun k hk => by have := (hOy.lt k hk).2; omega
          have ho4 : blk qx = some g4 ∨ g4 = W.heap.size := by rw [ownBlock_slice] at hor4; exact hor4
          have hF5 := apart_new hAp ho4 hy4
          have hF6 : S1 + 2 ≤ w4.heap.size := by omega
          have hF7 := hJ.bel.trans (hG4.mono (by omega))
          have h19 := hon 19 (by decide +kernel)
          have h1 := hon 1 (by decide +kernel)
          have hJ2 := hJ.append (p := some ⟨g4, 0, none⟩) (cap := cap4) hnD h19 h1 (by decide) (by decide) hF7 ⟨hF1, hF2, hF3, hF4, hF5, hF6⟩
          exact hK _ _ hJ2
        · have hi' := Option.some.inj hi
          subst hi'
          refine wp_val (v := (.pointer (some ⟨S1, 1, none⟩))) (w' := W) ?_ (hK _ _ (hJ.pure (i := 21) (by decide) (by decide) (by decide)))
          · skip
            have e17 : A.tmps[17]?.getD undef = (.pointer (some ⟨S1, 0, none⟩)) := by rw [hA]; kernel_rfl
            clear hA hK hon hJ
            go_simp
        · have hi' := Option.some.inj hi
          subst hi'
          obtain ⟨p', cap', hu', hF'⟩ := hJ.mid (hon 20 (by decide +kernel)) hnD
          have e151 : A.tmps[151]?.getD undef = (.pointer (some ⟨S1, 1, none⟩)) := (by rw [hA]; kernel_rfl : A.tmps[151]?.getD undef = us 21).trans (hJ.val 21 (by decide) (by decide) (by decide) (hon 21 (by decide +kernel)))
          have e150 : A.tmps[150]?.getD undef = .slice p' (xs.length + 1) cap' := (by rw [hA]; kernel_rfl : A.tmps[150]?.getD undef = us 20).trans hu'
          obtain ⟨o1', lx', ly', o2', ap', sz'⟩ := hF'
          have hlast : W.setCell ⟨S1, 1, none⟩ (.slice p' (xs.length + 1) cap') = W.setCell ⟨S1, 1, none⟩ (.slice p' (xs.length + 1) cap') := rfl
          refine wp_skip (w' := W.setCell ⟨S1, 1, none⟩ (.slice p' (xs.length + 1) cap')) ?_ (hK _ _ (hJ.store (hon 20 (by decide +kernel)) (by decide) (by decide) (hJ.bel.setCell (p := ⟨S1, 1, none⟩) (by first | exact Nat.le_refl _ | (simp only; omega)) _) ⟨p', cap', by unfold Hid; rw [List.length_append]; exact lx'.set1, ly'.beside (by omega), o1'.setCell_far (j := 1) _ (by omega), o2'.setCell_far (j := 1) _ (by omega), ap', by simp only [World.setCell, Array.size_modify]; exact sz'⟩ undef))
          have cc1 := lx'.c1
          have ff1 := lx'.f1
          clear hA hK hon hJ hlast lx' ly' o1' o2' ap' sz'
          go_simp
      · intro us D wc hJ hall
        obtain ⟨q5, d5, hLX5, hLY5, hO5, hOy5, hAp5, hsz5⟩ := hJ.fin (hall 22 (by decide))
        have hB5 := hJ.bel
        clear hJ hall hLX hLY hOx hOy hAp hBm hx1 hlt1 hszB
        simp only [actL, slotL, putL, List.setIfInBounds_toArray, List.set_cons_zero, List.set_cons_succ]
        have hxl5 : (xs ++ [X]).length ≤ 901 := by rw [List.length_append]; simp; omega
        obtain ⟨zs, hzs⟩ : ∃ zs, xs ++ [X] = zs := ⟨_, rfl⟩
        rw [hzs] at hLX5 hO5 hxl5 Hxn
        have hx1 := hLY5.out.c1
        have hlt1 : S1 + 1 < wc.heap.size := by omega
        have hszB : ∀ W, Below S1 w7 W → Below wc.heap.size wc W → S1 ≤ W.heap.size := fun W _ h => by have := h.size; omega
        have hap := hAp5.symm
        clear hzs hsz hxs
        go_wp2_with fail
        refine wp_region_inv (by kernel_rfl) (by decide +kernel) (by decide +kernel) _ _ (AppJ S1 w7 wc 1 19 20 22 (fun k => match k with | 0 => (.pointer (some ⟨S1 + 1, 1, none⟩)) | 1 => (.slice qy ys.length dy) | 2 => (.pointer (some ⟨S9 + 1, 0, none⟩)) | 3 => (.int .i64 (N2 : Int)) | 4 => (.int .i64 (v.length : Int)) | 5 => (.pointer (some ⟨S9 + 1, 1, none⟩)) | 6 => (.int .i64 (D2 : Int)) | 7 => (.int .i64 (GH : Int)) | 8 => (.int .i64 (H : Int)) | 9 => (.int .i64 (v.length : Int)) | 10 => (.slice (some ⟨bd, od, none⟩) v.length ck) | 11 => (.int .i64 (j : Int)) | 12 => (.pointer (some ⟨bd, od + j, none⟩)) | 13 => (.slice (some ⟨b4, o4, none⟩) v.length d2) | 14 => (.int .i64 (m : Int)) | 15 => (.pointer (some ⟨b4, o4 + m, none⟩)) | 16 => (.int .i64 (y : Int)) | 17 => (.int .i64 (ny : Int)) | 18 => (.int .i64 (Y : Int)) | 21 => (.pointer (some ⟨S1 + 1, 1, none⟩)) | _ => undef) Y ys.length (fun W p cap => Own W (S1 + 2) p cap (ys ++ [Y]) ∧ LB W (S1 + 1) (.slice qa v.length da) qy ys.length dy v.length ∧ LB W (S1) (.slice qa v.length da) q5 zs.length d5 v.length ∧ Own W (S1 + 2) q5 d5 zs ∧ Apart p q5 ∧ S1 + 2 ≤ W.heap.size) (fun W => ∃ (qn : Option Addr) (dn : Nat), Hid (LB W (S1 + 1) (.slice qa v.length da) qn (ys ++ [Y]).length dn v.length) ∧ Hid (LB W (S1) (.slice qa v.length da) q5 zs.length d5 v.length) ∧ Own W (S1 + 2) qn dn (ys ++ [Y]) ∧ Own W (S1 + 2) q5 d5 zs ∧ Apart qn q5 ∧ S1 + 2 ≤ W.heap.size)) ?_ ?_ ?_
        · exact fun us => AppJ.start us hB5
        · intro us D W i o A hA hi hJ hnD hon K hK
          have hlt : i < 23 := (Array.getElem?_eq_some_iff.1 hi).1
          rcases lt23 hlt with rfl | rfl | rfl | rfl | rfl | rfl | rfl | rfl | rfl | rfl | rfl | rfl | rfl | rfl | rfl | rfl | rfl | rfl | rfl | rfl | rfl | rfl | rfl
          · have hi' := Option.some.inj hi
            subst hi'
            refine wp_val (v := (.pointer (some ⟨S1 + 1, 1, none⟩))) (w' := W) ?_ (hK _ _ (hJ.pure (i := 0) (by decide) (by decide) (by decide)))
            · skip
              have e18 : A.tmps[18]?.getD undef = (.pointer (some ⟨S1 + 1, 0, none⟩)) := by rw [hA]; kernel_rfl
              clear hA hK hon hJ
              go_simp
          · have hi' := Option.some.inj hi
            subst hi'
            refine wp_val (v := (.slice qy ys.length dy)) (w' := W) ?_ (hK _ _ (hJ.pure (i := 1) (by decide) (by decide) (by decide)))
            · skip
              have e152 : A.tmps[152]?.getD undef = (.pointer (some ⟨S1 + 1, 1, none⟩)) := (by rw [hA]; kernel_rfl : A.tmps[152]?.getD undef = us 0).trans (hJ.val 0 (by decide) (by decide) (by decide) (hon 0 (by decide +kernel)))
              have cc := ((hJ.pre (fun hd => hnD (hJ.o1 hd).2)).cell (p := ⟨S1 + 1, 1, none⟩) hlt1).trans hx1
              clear hA hK hon hJ
              go_simp
          · have hi' := Option.some.inj hi
            subst hi'
            refine wp_val (v := (.pointer (some ⟨S9 + 1, 0, none⟩))) (w' := W) ?_ (hK _ _ (hJ.pure (i := 2) (by decide) (by decide) (by decide)))
            · skip
              have e10 : A.tmps[10]?.getD undef = (.pointer (some ⟨S9 + 1, 0, none⟩)) := by rw [hA]; kernel_rfl
              clear hA hK hon hJ
              go_simp
          · have hi' := Option.some.inj hi
            subst hi'
            refine wp_val (v := (.int .i64 (N2 : Int))) (w' := W) ?_ (hK _ _ (hJ.pure (i := 3) (by decide) (by decide) (by decide)))
            · skip
              have e154 : A.tmps[154]?.getD undef = (.pointer (some ⟨S9 + 1, 0, none⟩)) := (by rw [hA]; kernel_rfl : A.tmps[154]?.getD undef = us 2).trans (hJ.val 2 (by decide) (by decide) (by decide) (hon 2 (by decide +kernel)))
              obtain ⟨cc1, cc2, cc3, cc4⟩ := Hmk2.out W hJ.bel
              clear hA hK hon hJ
              go_simp
          · have hi' := Option.some.inj hi
            subst hi'
            refine wp_val (v := (.int .i64 (v.length : Int))) (w' := W) ?_ (hK _ _ (hJ.pure (i := 4) (by decide) (by decide) (by decide)))
            · skip
              have e8 : A.tmps[8]?.getD undef = (.int .i64 (v.length : Int)) := by rw [hA]; kernel_rfl
              clear hA hK hon hJ
              go_simp
          · have hi' := Option.some.inj hi
            subst hi'
            refine wp_val (v := (.pointer (some ⟨S9 + 1, 1, none⟩))) (w' := W) ?_ (hK _ _ (hJ.pure (i := 5) (by decide) (by decide) (by decide)))
            · skip
              have e10 : A.tmps[10]?.getD undef = (.pointer (some ⟨S9 + 1, 0, none⟩)) := by rw [hA]; kernel_rfl
              clear hA hK hon hJ
              go_simp
          · have hi' := Option.some.inj hi
            subst hi'
            refine wp_val (v := (.int .i64 (D2 : Int))) (w' := W) ?_ (hK _ _ (hJ.pure (i := 6) (by decide) (by decide) (by decide)))
            · skip
              have e157 : A.tmps[157]?.getD undef = (.pointer (some ⟨S9 + 1, 1, none⟩)) := (by rw [hA]; kernel_rfl : A.tmps[157]?.getD undef = us 5).trans (hJ.val 5 (by decide) (by decide) (by decide) (hon 5 (by decide +kernel)))
              obtain ⟨cc1, cc2, cc3, cc4⟩ := Hmk2.out W hJ.bel
              clear hA hK hon hJ
              go_simp
          · have hi' := Option.some.inj hi
            subst hi'
            refine wp_val (v := (.int .i64 (GH : Int))) (w' := W) ?_ (hK _ _ (hJ.pure (i := 7) (by decide) (by decide) (by decide)))
            · skip
              have e156 : A.tmps[156]?.getD undef = (.int .i64 (v.length : Int)) := (by rw [hA]; kernel_rfl : A.tmps[156]?.getD undef = us 4).trans (hJ.val 4 (by decide) (by decide) (by decide) (hon 4 (by decide +kernel)))
              have e158 : A.tmps[158]?.getD undef = (.int .i64 (D2 : Int)) := (by rw [hA]; kernel_rfl : A.tmps[158]?.getD undef = us 6).trans (hJ.val 6 (by decide) (by decide) (by decide) (hon 6 (by decide +kernel)))
              obtain ⟨_, _, _, qa1, qa2, qa3, _, _⟩ := HQ.out
              have hd0 : D2 ≠ 0 := by omega
              have hw0 : IntKind.i64.wrap (GH : Int) = GH := IntWalk.i64_in _ (by omega)
              clear hA hK hon hJ
              go_simp
          · have hi' := Option.some.inj hi
            subst hi'
            refine wp_val (v := (.int .i64 (H : Int))) (w' := W) ?_ (hK _ _ (hJ.pure (i := 8) (by decide) (by decide) (by decide)))
            · skip
              have e155 : A.tmps[155]?.getD undef = (.int .i64 (N2 : Int)) := (by rw [hA]; kernel_rfl : A.tmps[155]?.getD undef = us 3).trans (hJ.val 3 (by decide) (by decide) (by decide) (hon 3 (by decide +kernel)))
              have e159 : A.tmps[159]?.getD undef = (.int .i64 (GH : Int)) := (by rw [hA]; kernel_rfl : A.tmps[159]?.getD undef = us 7).trans (hJ.val 7 (by decide) (by decide) (by decide) (hon 7 (by decide +kernel)))
              obtain ⟨_, _, _, _, _, _, _, qa1⟩ := HQ.out
              clear hA hK hon hJ
              go_simp
          · have hi' := Option.some.inj hi
            subst hi'
            refine wp_val (v := (.int .i64 (v.length : Int))) (w' := W) ?_ (hK _ _ (hJ.pure (i := 9) (by decide) (by decide) (by decide)))
            · skip
              have e8 : A.tmps[8]?.getD undef = (.int .i64 (v.length : Int)) := by rw [hA]; kernel_rfl
              clear hA hK hon hJ
              go_simp
          · have hi' := Option.some.inj hi
            subst hi'
            refine wp_val (v := (.slice (some ⟨bd, od, none⟩) v.length ck)) (w' := W) ?_ (hK _ _ (hJ.pure (i := 10) (by decide) (by decide) (by decide)))
            · skip
              have e12 : A.tmps[12]?.getD undef = (.slice (some ⟨bd, od, none⟩) v.length ck) := by rw [hA]; kernel_rfl
              clear hA hK hon hJ
              go_simp
          · have hi' := Option.some.inj hi
            subst hi'
            refine wp_val (v := (.int .i64 (j : Int))) (w' := W) ?_ (hK _ _ (hJ.pure (i := 11) (by decide) (by decide) (by decide)))
            · skip
              have e2 : A.tmps[2]?.getD undef = (.int .i64 (j : Int)) := by rw [hA]; kernel_rfl
              clear hA hK hon hJ
              go_simp
          · have hi' := Option.some.inj hi
            subst hi'
            refine wp_val (v := (.pointer (some ⟨bd, od + j, none⟩))) (w' := W) ?_ (hK _ _ (hJ.pure (i := 12) (by decide) (by decide) (by decide)))
            · skip
              have e162 : A.tmps[162]?.getD undef = (.slice (some ⟨bd, od, none⟩) v.length ck) := (by rw [hA]; kernel_rfl : A.tmps[162]?.getD undef = us 10).trans (hJ.val 10 (by decide) (by decide) (by decide) (hon 10 (by decide +kernel)))
              have e163 : A.tmps[163]?.getD undef = (.int .i64 (j : Int)) := (by rw [hA]; kernel_rfl : A.tmps[163]?.getD undef = us 11).trans (hJ.val 11 (by decide) (by decide) (by decide) (hon 11 (by decide +kernel)))
              clear hA hK hon hJ
              go_simp
          · have hi' := Option.some.inj hi
            subst hi'
            refine wp_val (v := (.slice (some ⟨b4, o4, none⟩) v.length d2)) (w' := W) ?_ (hK _ _ (hJ.pure (i := 13) (by decide) (by decide) (by decide)))
            · skip
              have e164 : A.tmps[164]?.getD undef = (.pointer (some ⟨bd, od + j, none⟩)) := (by rw [hA]; kernel_rfl : A.tmps[164]?.getD undef = us 12).trans (hJ.val 12 (by decide) (by decide) (by decide) (hon 12 (by decide +kernel)))
              obtain ⟨cc1, cc2, cc3, cc4⟩ := Hmk2.out W hJ.bel
              clear hA hK hon hJ
              go_simp
          · have hi' := Option.some.inj hi
            subst hi'
            refine wp_val (v := (.int .i64 (m : Int))) (w' := W) ?_ (hK _ _ (hJ.pure (i := 14) (by decide) (by decide) (by decide)))
            · skip
              have e19 : A.tmps[19]?.getD undef = (.int .i64 (m : Int)) := by rw [hA]; kernel_rfl
              clear hA hK hon hJ
              go_simp
          · have hi' := Option.some.inj hi
            subst hi'
            refine wp_val (v := (.pointer (some ⟨b4, o4 + m, none⟩))) (w' := W) ?_ (hK _ _ (hJ.pure (i := 15) (by decide) (by decide) (by decide)))
            · skip
              have e165 : A.tmps[165]?.getD undef = (.slice (some ⟨b4, o4, none⟩) v.length d2) := (by rw [hA]; kernel_rfl : A.tmps[165]?.getD undef = us 13).trans (hJ.val 13 (by decide) (by decide) (by decide) (hon 13 (by decide +kernel)))
              have e166 : A.tmps[166]?.getD undef = (.int .i64 (m : Int)) := (by rw [hA]; kernel_rfl : A.tmps[166]?.getD undef = us 14).trans (hJ.val 14 (by decide) (by decide) (by decide) (hon 14 (by decide +kernel)))
              clear hA hK hon hJ
              go_simp
          · have hi' := Option.some.inj hi
            subst hi'
            refine wp_val (v := (.int .i64 (y : Int))) (w' := W) ?_ (hK _ _ (hJ.pure (i := 16) (by decide) (by decide) (by decide)))
            · skip
              have e167 : A.tmps[167]?.getD undef = (.pointer (some ⟨b4, o4 + m, none⟩)) := (by rw [hA]; kernel_rfl : A.tmps[167]?.getD undef = us 15).trans (hJ.val 15 (by decide) (by decide) (by decide) (hon 15 (by decide +kernel)))
              obtain ⟨cc1, cc2, cc3, cc4⟩ := Hmk2.out W hJ.bel
              clear hA hK hon hJ
              go_simp
          · have hi' := Option.some.inj hi
            subst hi'
            refine wp_val (v := (.int .i64 (ny : Int))) (w' := W) ?_ (hK _ _ (hJ.pure (i := 17) (by decide) (by decide) (by decide)))
            · skip
              have e161 : A.tmps[161]?.getD undef = (.int .i64 (v.length : Int)) := (by rw [hA]; kernel_rfl : A.tmps[161]?.getD undef = us 9).trans (hJ.val 9 (by decide) (by decide) (by decide) (hon 9 (by decide +kernel)))
              have e168 : A.tmps[168]?.getD undef = (.int .i64 (y : Int)) := (by rw [hA]; kernel_rfl : A.tmps[168]?.getD undef = us 16).trans (hJ.val 16 (by decide) (by decide) (by decide) (hon 16 (by decide +kernel)))
              obtain ⟨_, _, ta1, _⟩ := T1.out
              clear hA hK hon hJ
              go_simp
          · have hi' := Option.some.inj hi
            subst hi'
            refine wp_val (v := (.int .i64 (Y : Int))) (w' := W) ?_ (hK _ _ (hJ.pure (i := 18) (by decide) (by decide) (by decide)))
            · skip
              have e160 : A.tmps[160]?.getD undef = (.int .i64 (H : Int)) := (by rw [hA]; kernel_rfl : A.tmps[160]?.getD undef = us 8).trans (hJ.val 8 (by decide) (by decide) (by decide) (hon 8 (by decide +kernel)))
              have e169 : A.tmps[169]?.getD undef = (.int .i64 (ny : Int)) := (by rw [hA]; kernel_rfl : A.tmps[169]?.getD undef = us 17).trans (hJ.val 17 (by decide) (by decide) (by decide) (hon 17 (by decide +kernel)))
              obtain ⟨_, _, _, ta1⟩ := T1.out
              clear hA hK hon hJ
              go_simp
          · have hi' := Option.some.inj hi
            subst hi'
            have hsB := hszB W hJ.bel (hJ.pre (fun hd => hnD (hJ.o1 hd).1))
            refine wp_val (v := .slice (some ⟨W.heap.size, 0, none⟩) 1 1) (w' := W.alloc (.cells #[.int .i64 Y] 3)) ?_ (hK _ _ (hJ.build hnD (by decide) (by decide) hsB _))
            · skip
              have e170 : A.tmps[170]?.getD undef = (.int .i64 (Y : Int)) := (by rw [hA]; kernel_rfl : A.tmps[170]?.getD undef = us 18).trans (hJ.val 18 (by decide) (by decide) (by decide) (hon 18 (by decide +kernel)))
              clear hA hK hon hJ
              go_simp
          · have hi' := Option.some.inj hi
            subst hi'
            obtain ⟨b', hb', hc'⟩ := hJ.lit (hon 19 (by decide +kernel)) hnD
            have hP := hJ.pre hnD
            have e153 : A.tmps[153]?.getD undef = (.slice qy ys.length dy) := (by rw [hA]; kernel_rfl : A.tmps[153]?.getD undef = us 1).trans (hJ.val 1 (by decide) (by decide) (by decide) (hon 1 (by decide +kernel)))
            have e171 : A.tmps[171]?.getD undef = .slice (some ⟨b', 0, none⟩) 1 1 := (by rw [hA]; kernel_rfl : A.tmps[171]?.getD undef = us 19).trans hb'
            refine wp_append_lies _ (.tmp 153) (.tmp 171) 26 (by rfl) (S1 + 2) 3 i0 (.int .i64 0) 1 8 Try.underlying26 hi0 hz0 hz1 hz2 rfl (by decide) (.slice qy ys.length dy) ys.length (ys.map (Value.int .i64)) ((eval_tmp A 153).trans e153) (hOy5.below hP (Nat.le_refl _)).row ⟨b', 0, none⟩ 1 1 [.int .i64 Y] ((eval_tmp A 171).trans e171) rfl (news_one hc') (by simp [Value.oneCell']) (by decide) (by simp [maxLen]; omega) (by omega) (by have := hP.size; omega) _ rfl ?_
            intro g4 cap4 w4 hO4 hg4 hor4 hlt4
            have hG4 : Below (S1 + 2) W w4 := Below.grown (Below.refl _ _) hg4 (by have := hP.size; omega) (fun k' e => by rw [ownBlock_slice] at e; exact (hOy5.lt k' e).1)
            have hPs := hP.size
            have hGs := hG4.size
            have hF1 := own_snocR hO4 hOy5.rng hY64
            have hF2 := (hLY5.out.below hP (by omega)).below hG4 (by omega)
            have hF3 := (hLX5.out.below hP (by omega)).below hG4 (by omega)
            have hF4 := (hO5.below hP (Nat.le_refl _)).keptBy hg4 (fun k hk e => by rw [ownBlock_slice] at e; exact hap k e hk)
            have hy4 : ∀ k, blk q5 = some k → k < W.heap.size := fun k hk => by have := (hO5.lt k hk).2; omega
            have ho4 : blk qy = some g4 ∨ g4 = W.heap.size := by rw [ownBlock_slice] at hor4; exact hor4
            have hF5 := apart_new hap ho4 hy4
            have hF6 : S1 + 2 ≤ w4.heap.size := by omega
            have hF7 := hJ.bel.trans (hG4.mono (by omega))
            have h19 := hon 19 (by decide +kernel)
            have h1 := hon 1 (by decide +kernel)
            have hJ2 := hJ.append (p := some ⟨g4, 0, none⟩) (cap := cap4) hnD h19 h1 (by decide) (by decide) hF7 ⟨hF1, hF2, hF3, hF4, hF5, hF6⟩
            exact hK _ _ hJ2
          · have hi' := Option.some.inj hi
            subst hi'
            refine wp_val (v := (.pointer (some ⟨S1 + 1, 1, none⟩))) (w' := W) ?_ (hK _ _ (hJ.pure (i := 21) (by decide) (by decide) (by decide)))
            · skip
              have e18 : A.tmps[18]?.getD undef = (.pointer (some ⟨S1 + 1, 0, none⟩)) := by rw [hA]; kernel_rfl
              clear hA hK hon hJ
              go_simp
          · have hi' := Option.some.inj hi
            subst hi'
            obtain ⟨p', cap', hu', hF'⟩ := hJ.mid (hon 20 (by decide +kernel)) hnD
            have e173 : A.tmps[173]?.getD undef = (.pointer (some ⟨S1 + 1, 1, none⟩)) := (by rw [hA]; kernel_rfl : A.tmps[173]?.getD undef = us 21).trans (hJ.val 21 (by decide) (by decide) (by decide) (hon 21 (by decide +kernel)))
            have e172 : A.tmps[172]?.getD undef = .slice p' (ys.length + 1) cap' := (by rw [hA]; kernel_rfl : A.tmps[172]?.getD undef = us 20).trans hu'
            obtain ⟨o1', lx', ly', o2', ap', sz'⟩ := hF'
            have hlast : W.setCell ⟨S1 + 1, 1, none⟩ (.slice p' (ys.length + 1) cap') = W.setCell ⟨S1 + 1, 1, none⟩ (.slice p' (ys.length + 1) cap') := rfl
            refine wp_skip (w' := W.setCell ⟨S1 + 1, 1, none⟩ (.slice p' (ys.length + 1) cap')) ?_ (hK _ _ (hJ.store (hon 20 (by decide +kernel)) (by decide) (by decide) (hJ.bel.setCell (p := ⟨S1 + 1, 1, none⟩) (by first | exact Nat.le_refl _ | (simp only; omega)) _) ⟨p', cap', by unfold Hid; rw [List.length_append]; exact lx'.set1, ly'.beside (by omega), o1'.setCell_far (j := 1) _ (by omega), o2'.setCell_far (j := 1) _ (by omega), ap', by simp only [World.setCell, Array.size_modify]; exact sz'⟩ undef))
            have cc1 := lx'.c1
            have ff1 := lx'.f1
            clear hA hK hon hJ hlast lx' ly' o1' o2' ap' sz'
            go_simp
        · intro us2 D wd hJ hall
          obtain ⟨q6, d6, hLY6, hLX6, hO6, hOx6, hAp6, hsz6⟩ := hJ.fin (hall 22 (by decide))
          have hB6 := hJ.bel
          clear hJ hall
          simp only [actL, slotL, putL, List.setIfInBounds_toArray, List.set_cons_zero, List.set_cons_succ]
          go_wp2_with fail
          go_roundw
          case rel => exact ⟨m + 1, by omega, by go_num, ⟨zs, ys ++ [Y], q5, q6, d5, d6, by unfold Hid; rw [Hxn.out], by unfold Hid; rw [Hyn.out], hLX6, hLY6, hOx6, hO6, hAp6.symm⟩, hB6, hsz6⟩
          case measure => simp [intOf]; omega
    · have hm1 : ¬ (m : Int) < v.length := by omega
      obtain rfl : m = v.length := by omega
      obtain ⟨hgx, hex, hsx⟩ := ends_ok HBd.out hxs.out (fun k hk => Hxb.out k hk) Hxef.out Hxs.out
      obtain ⟨hgy, hey, hsy⟩ := ends_ok HBd.out hys.out (fun k hk => Hyb.out k hk) Hyef.out Hys.out
      have hBm7 : Below w7.heap.size w7 wr := by rw [HS1.out]; exact hBm
      have mXr := mX.below hBm7 (Nat.le_refl _)
      have mAr := mA.below hBm7 (Nat.le_refl _)
      have mPr := mP.below hBm7 (Nat.le_refl _)
      have iAr := iA.below hBm7 (Nat.le_refl _)
      have bXr := bX.below hBm7
      have bLr := bL.below hBm7
      have bLor : BoxV wr S9 [.int .i64 N1, .int .i64 D1] := boxV_of2 (by omega) ((hBm.cell (p := ⟨S9, 0, none⟩) hlN).trans HK.out.1) ((hBm.cell (p := ⟨S9, 1, none⟩) hlN).trans HK.out.2.1)
      have bHir : BoxV wr (S9 + 1) [.int .i64 N2, .int .i64 D2] := boxV_of2 (by omega) ((hBm.cell (p := ⟨S9 + 1, 0, none⟩) hlM).trans HK.out.2.2.1) ((hBm.cell (p := ⟨S9 + 1, 1, none⟩) hlM).trans HK.out.2.2.2)
      have bx := hLX.out.box
      have by' := hLY.out.box
      have iX := hOx.ints
      have iY := hOy.ints
      have hBr : Below w.heap.size w wr := hB.trans (hBm7.mono hB.size)
      have hEx := fun W (h : Mat W p c v) (h1 : Ints W qa da (bestA v)) (h2 : Ints W qx dx xs) => lawEven_ok p qa qx c da dx v r (bestA v) xs v.length W h h1 h2 hgx hex hsx hr1 hr2
      have hEy := fun W (h : Mat W p c v) (h1 : Ints W qa da (bestA v)) (h2 : Ints W qy dy ys) => lawEven_ok p qa qy c da dy v r (bestA v) ys v.length W h h1 h2 hgy hey hsy hr1 hr2
      rw [HAl.out] at hEx hEy
      have HEx := Lib.hid hEx
      have HEy := Lib.hid hEy
      have HV := Lib.hid (fun W (h : Mat W p c v) (h1 : Ints W q d al) (h2 : Ints W s f ps) => refValid_any p q s c d f v r al ps z W h h1 h2)
      have HFr := Lib.hid (fun W (h : Mat W p c v) (h1 : Ints W q d al) (h2 : Ints W s f ps) => free14_any p q s c d f v r al ps z W h h1 h2)
      clear hEx hEy hgx hex hsx hgy hey hsy hLX hLY hOx hOy hAp hxs hys hBm hBm7
      clear mX mA mP iA bX bL mD hB lX0 lY0 bLo bHi
      have hsz0 : S1 < wr.heap.size := by omega
      clear hsz
      by_cases d1 : 50 < ps.length
      · have e1 : decide (50 < (ps.length : Int)) = true := by rw [decide_eq_true_iff]; omega
        have kbXr_0 := bXr.cell 0 _ rfl
        have kbXr_1 := bXr.cell 1 _ rfl
        have lbXr := bXr.lt
        have kbLr_0 := bLr.cell 0 _ rfl
        have kbLr_1 := bLr.cell 1 _ rfl
        have kbLr_2 := bLr.cell 2 _ rfl
        have lbLr := bLr.lt
        have kbx_0 := bx.cell 0 _ rfl
        have kbx_1 := bx.cell 1 _ rfl
        have kbx_2 := bx.cell 2 _ rfl
        have lbx := bx.lt
        have kby'_0 := by'.cell 0 _ rfl
        have kby'_1 := by'.cell 1 _ rfl
        have kby'_2 := by'.cell 2 _ rfl
        have lby' := by'.lt
        have kbLor_0 := bLor.cell 0 _ rfl
        have kbLor_1 := bLor.cell 1 _ rfl
        have lbLor := bLor.lt
        have kbHir_0 := bHir.cell 0 _ rfl
        have kbHir_1 := bHir.cell 1 _ rfl
        have lbHir := bHir.lt
        go_wp2_with fail
        refine (HEx.out _ mXr iAr iX).mono ?_
        rintro e x1 ⟨rfl, hb⟩
        clear kbXr_0 kbXr_1 lbXr kbLr_0 kbLr_1 kbLr_2 lbLr kbx_0 kbx_1 kbx_2 lbx kby'_0 kby'_1 kby'_2 lby' kbLor_0 kbLor_1 lbLor kbHir_0 kbHir_1 lbHir
        replace mXr := mXr.below hb (Nat.le_refl _)
        replace mAr := mAr.below hb (Nat.le_refl _)
        replace mPr := mPr.below hb (Nat.le_refl _)
        replace iAr := iAr.below hb (Nat.le_refl _)
        replace iX := iX.below hb (Nat.le_refl _)
        replace iY := iY.below hb (Nat.le_refl _)
        replace bXr := bXr.below hb
        replace bLr := bLr.below hb
        replace bx := bx.below hb
        replace by' := by'.below hb
        replace bLor := bLor.below hb
        replace bHir := bHir.below hb
        replace hBr := hBr.trans (hb.mono hBr.size)
        clear hb
        have kbXr_0 := bXr.cell 0 _ rfl
        have kbXr_1 := bXr.cell 1 _ rfl
        have lbXr := bXr.lt
        have kbLr_0 := bLr.cell 0 _ rfl
        have kbLr_1 := bLr.cell 1 _ rfl
        have kbLr_2 := bLr.cell 2 _ rfl
        have lbLr := bLr.lt
        have kbx_0 := bx.cell 0 _ rfl
        have kbx_1 := bx.cell 1 _ rfl
        have kbx_2 := bx.cell 2 _ rfl
        have lbx := bx.lt
        have kby'_0 := by'.cell 0 _ rfl
        have kby'_1 := by'.cell 1 _ rfl
        have kby'_2 := by'.cell 2 _ rfl
        have lby' := by'.lt
        have kbLor_0 := bLor.cell 0 _ rfl
        have kbLor_1 := bLor.cell 1 _ rfl
        have lbLor := bLor.lt
        have kbHir_0 := bHir.cell 0 _ rfl
        have kbHir_1 := bHir.cell 1 _ rfl
        have lbHir := bHir.lt
        go_wp2_with fail
        refine (HEy.out _ mXr iAr iY).mono ?_
        rintro e x2 ⟨rfl, hb⟩
        clear kbXr_0 kbXr_1 lbXr kbLr_0 kbLr_1 kbLr_2 lbLr kbx_0 kbx_1 kbx_2 lbx kby'_0 kby'_1 kby'_2 lby' kbLor_0 kbLor_1 lbLor kbHir_0 kbHir_1 lbHir
        replace mXr := mXr.below hb (Nat.le_refl _)
        replace mAr := mAr.below hb (Nat.le_refl _)
        replace mPr := mPr.below hb (Nat.le_refl _)
        replace iAr := iAr.below hb (Nat.le_refl _)
        replace iX := iX.below hb (Nat.le_refl _)
        replace iY := iY.below hb (Nat.le_refl _)
        replace bXr := bXr.below hb
        replace bLr := bLr.below hb
        replace bx := bx.below hb
        replace by' := by'.below hb
        replace bLor := bLor.below hb
        replace bHir := bHir.below hb
        replace hBr := hBr.trans (hb.mono hBr.size)
        clear hb
        have kbXr_0 := bXr.cell 0 _ rfl
        have kbXr_1 := bXr.cell 1 _ rfl
        have lbXr := bXr.lt
        have kbLr_0 := bLr.cell 0 _ rfl
        have kbLr_1 := bLr.cell 1 _ rfl
        have kbLr_2 := bLr.cell 2 _ rfl
        have lbLr := bLr.lt
        have kbx_0 := bx.cell 0 _ rfl
        have kbx_1 := bx.cell 1 _ rfl
        have kbx_2 := bx.cell 2 _ rfl
        have lbx := bx.lt
        have kby'_0 := by'.cell 0 _ rfl
        have kby'_1 := by'.cell 1 _ rfl
        have kby'_2 := by'.cell 2 _ rfl
        have lby' := by'.lt
        have kbLor_0 := bLor.cell 0 _ rfl
        have kbLor_1 := bLor.cell 1 _ rfl
        have lbLor := bLor.lt
        have kbHir_0 := bHir.cell 0 _ rfl
        have kbHir_1 := bHir.cell 1 _ rfl
        have lbHir := bHir.lt
        go_wp2_with fail
        refine (HEx.out _ mXr iAr iX).mono ?_
        rintro e x5 ⟨rfl, hb⟩
        clear kbXr_0 kbXr_1 lbXr kbLr_0 kbLr_1 kbLr_2 lbLr kbx_0 kbx_1 kbx_2 lbx kby'_0 kby'_1 kby'_2 lby' kbLor_0 kbLor_1 lbLor kbHir_0 kbHir_1 lbHir
        replace mXr := mXr.below hb (Nat.le_refl _)
        replace mAr := mAr.below hb (Nat.le_refl _)
        replace mPr := mPr.below hb (Nat.le_refl _)
        replace iAr := iAr.below hb (Nat.le_refl _)
        replace iX := iX.below hb (Nat.le_refl _)
        replace iY := iY.below hb (Nat.le_refl _)
        replace bXr := bXr.below hb
        replace bLr := bLr.below hb
        replace bx := bx.below hb
        replace by' := by'.below hb
        replace bLor := bLor.below hb
        replace bHir := bHir.below hb
        replace hBr := hBr.trans (hb.mono hBr.size)
        clear hb
        have kbXr_0 := bXr.cell 0 _ rfl
        have kbXr_1 := bXr.cell 1 _ rfl
        have lbXr := bXr.lt
        have kbLr_0 := bLr.cell 0 _ rfl
        have kbLr_1 := bLr.cell 1 _ rfl
        have kbLr_2 := bLr.cell 2 _ rfl
        have lbLr := bLr.lt
        have kbx_0 := bx.cell 0 _ rfl
        have kbx_1 := bx.cell 1 _ rfl
        have kbx_2 := bx.cell 2 _ rfl
        have lbx := bx.lt
        have kby'_0 := by'.cell 0 _ rfl
        have kby'_1 := by'.cell 1 _ rfl
        have kby'_2 := by'.cell 2 _ rfl
        have lby' := by'.lt
        have kbLor_0 := bLor.cell 0 _ rfl
        have kbLor_1 := bLor.cell 1 _ rfl
        have lbLor := bLor.lt
        have kbHir_0 := bHir.cell 0 _ rfl
        have kbHir_1 := bHir.cell 1 _ rfl
        have lbHir := bHir.lt
        go_wp2_with fail
        refine (HEy.out _ mXr iAr iY).mono ?_
        rintro e x6 ⟨rfl, hb⟩
        clear kbXr_0 kbXr_1 lbXr kbLr_0 kbLr_1 kbLr_2 lbLr kbx_0 kbx_1 kbx_2 lbx kby'_0 kby'_1 kby'_2 lby' kbLor_0 kbLor_1 lbLor kbHir_0 kbHir_1 lbHir
        replace mXr := mXr.below hb (Nat.le_refl _)
        replace mAr := mAr.below hb (Nat.le_refl _)
        replace mPr := mPr.below hb (Nat.le_refl _)
        replace iAr := iAr.below hb (Nat.le_refl _)
        replace iX := iX.below hb (Nat.le_refl _)
        replace iY := iY.below hb (Nat.le_refl _)
        replace bXr := bXr.below hb
        replace bLr := bLr.below hb
        replace bx := bx.below hb
        replace by' := by'.below hb
        replace bLor := bLor.below hb
        replace bHir := bHir.below hb
        replace hBr := hBr.trans (hb.mono hBr.size)
        clear hb
        go_wp2_with fail
        go_ret
        exact ⟨rfl, hBr⟩
      · have e1 : decide (50 < (ps.length : Int)) = false := by rw [decide_eq_false_iff_not]; omega
        by_cases d2 : 50 < al.length
        · have e2 : decide (50 < (al.length : Int)) = true := by rw [decide_eq_true_iff]; omega
          have kbXr_0 := bXr.cell 0 _ rfl
          have kbXr_1 := bXr.cell 1 _ rfl
          have lbXr := bXr.lt
          have kbLr_0 := bLr.cell 0 _ rfl
          have kbLr_1 := bLr.cell 1 _ rfl
          have kbLr_2 := bLr.cell 2 _ rfl
          have lbLr := bLr.lt
          have kbx_0 := bx.cell 0 _ rfl
          have kbx_1 := bx.cell 1 _ rfl
          have kbx_2 := bx.cell 2 _ rfl
          have lbx := bx.lt
          have kby'_0 := by'.cell 0 _ rfl
          have kby'_1 := by'.cell 1 _ rfl
          have kby'_2 := by'.cell 2 _ rfl
          have lby' := by'.lt
          have kbLor_0 := bLor.cell 0 _ rfl
          have kbLor_1 := bLor.cell 1 _ rfl
          have lbLor := bLor.lt
          have kbHir_0 := bHir.cell 0 _ rfl
          have kbHir_1 := bHir.cell 1 _ rfl
          have lbHir := bHir.lt
          go_wp2_with fail
          refine (HEx.out _ mXr iAr iX).mono ?_
          rintro e x1 ⟨rfl, hb⟩
          clear kbXr_0 kbXr_1 lbXr kbLr_0 kbLr_1 kbLr_2 lbLr kbx_0 kbx_1 kbx_2 lbx kby'_0 kby'_1 kby'_2 lby' kbLor_0 kbLor_1 lbLor kbHir_0 kbHir_1 lbHir
          replace mXr := mXr.below hb (Nat.le_refl _)
          replace mAr := mAr.below hb (Nat.le_refl _)
          replace mPr := mPr.below hb (Nat.le_refl _)
          replace iAr := iAr.below hb (Nat.le_refl _)
          replace iX := iX.below hb (Nat.le_refl _)
          replace iY := iY.below hb (Nat.le_refl _)
          replace bXr := bXr.below hb
          replace bLr := bLr.below hb
          replace bx := bx.below hb
          replace by' := by'.below hb
          replace bLor := bLor.below hb
          replace bHir := bHir.below hb
          replace hBr := hBr.trans (hb.mono hBr.size)
          clear hb
          have kbXr_0 := bXr.cell 0 _ rfl
          have kbXr_1 := bXr.cell 1 _ rfl
          have lbXr := bXr.lt
          have kbLr_0 := bLr.cell 0 _ rfl
          have kbLr_1 := bLr.cell 1 _ rfl
          have kbLr_2 := bLr.cell 2 _ rfl
          have lbLr := bLr.lt
          have kbx_0 := bx.cell 0 _ rfl
          have kbx_1 := bx.cell 1 _ rfl
          have kbx_2 := bx.cell 2 _ rfl
          have lbx := bx.lt
          have kby'_0 := by'.cell 0 _ rfl
          have kby'_1 := by'.cell 1 _ rfl
          have kby'_2 := by'.cell 2 _ rfl
          have lby' := by'.lt
          have kbLor_0 := bLor.cell 0 _ rfl
          have kbLor_1 := bLor.cell 1 _ rfl
          have lbLor := bLor.lt
          have kbHir_0 := bHir.cell 0 _ rfl
          have kbHir_1 := bHir.cell 1 _ rfl
          have lbHir := bHir.lt
          go_wp2_with fail
          refine (HEy.out _ mXr iAr iY).mono ?_
          rintro e x2 ⟨rfl, hb⟩
          clear kbXr_0 kbXr_1 lbXr kbLr_0 kbLr_1 kbLr_2 lbLr kbx_0 kbx_1 kbx_2 lbx kby'_0 kby'_1 kby'_2 lby' kbLor_0 kbLor_1 lbLor kbHir_0 kbHir_1 lbHir
          replace mXr := mXr.below hb (Nat.le_refl _)
          replace mAr := mAr.below hb (Nat.le_refl _)
          replace mPr := mPr.below hb (Nat.le_refl _)
          replace iAr := iAr.below hb (Nat.le_refl _)
          replace iX := iX.below hb (Nat.le_refl _)
          replace iY := iY.below hb (Nat.le_refl _)
          replace bXr := bXr.below hb
          replace bLr := bLr.below hb
          replace bx := bx.below hb
          replace by' := by'.below hb
          replace bLor := bLor.below hb
          replace bHir := bHir.below hb
          replace hBr := hBr.trans (hb.mono hBr.size)
          clear hb
          have kbXr_0 := bXr.cell 0 _ rfl
          have kbXr_1 := bXr.cell 1 _ rfl
          have lbXr := bXr.lt
          have kbLr_0 := bLr.cell 0 _ rfl
          have kbLr_1 := bLr.cell 1 _ rfl
          have kbLr_2 := bLr.cell 2 _ rfl
          have lbLr := bLr.lt
          have kbx_0 := bx.cell 0 _ rfl
          have kbx_1 := bx.cell 1 _ rfl
          have kbx_2 := bx.cell 2 _ rfl
          have lbx := bx.lt
          have kby'_0 := by'.cell 0 _ rfl
          have kby'_1 := by'.cell 1 _ rfl
          have kby'_2 := by'.cell 2 _ rfl
          have lby' := by'.lt
          have kbLor_0 := bLor.cell 0 _ rfl
          have kbLor_1 := bLor.cell 1 _ rfl
          have lbLor := bLor.lt
          have kbHir_0 := bHir.cell 0 _ rfl
          have kbHir_1 := bHir.cell 1 _ rfl
          have lbHir := bHir.lt
          go_wp2_with fail
          refine (HEx.out _ mXr iAr iX).mono ?_
          rintro e x5 ⟨rfl, hb⟩
          clear kbXr_0 kbXr_1 lbXr kbLr_0 kbLr_1 kbLr_2 lbLr kbx_0 kbx_1 kbx_2 lbx kby'_0 kby'_1 kby'_2 lby' kbLor_0 kbLor_1 lbLor kbHir_0 kbHir_1 lbHir
          replace mXr := mXr.below hb (Nat.le_refl _)
          replace mAr := mAr.below hb (Nat.le_refl _)
          replace mPr := mPr.below hb (Nat.le_refl _)
          replace iAr := iAr.below hb (Nat.le_refl _)
          replace iX := iX.below hb (Nat.le_refl _)
          replace iY := iY.below hb (Nat.le_refl _)
          replace bXr := bXr.below hb
          replace bLr := bLr.below hb
          replace bx := bx.below hb
          replace by' := by'.below hb
          replace bLor := bLor.below hb
          replace bHir := bHir.below hb
          replace hBr := hBr.trans (hb.mono hBr.size)
          clear hb
          have kbXr_0 := bXr.cell 0 _ rfl
          have kbXr_1 := bXr.cell 1 _ rfl
          have lbXr := bXr.lt
          have kbLr_0 := bLr.cell 0 _ rfl
          have kbLr_1 := bLr.cell 1 _ rfl
          have kbLr_2 := bLr.cell 2 _ rfl
          have lbLr := bLr.lt
          have kbx_0 := bx.cell 0 _ rfl
          have kbx_1 := bx.cell 1 _ rfl
          have kbx_2 := bx.cell 2 _ rfl
          have lbx := bx.lt
          have kby'_0 := by'.cell 0 _ rfl
          have kby'_1 := by'.cell 1 _ rfl
          have kby'_2 := by'.cell 2 _ rfl
          have lby' := by'.lt
          have kbLor_0 := bLor.cell 0 _ rfl
          have kbLor_1 := bLor.cell 1 _ rfl
          have lbLor := bLor.lt
          have kbHir_0 := bHir.cell 0 _ rfl
          have kbHir_1 := bHir.cell 1 _ rfl
          have lbHir := bHir.lt
          go_wp2_with fail
          refine (HEy.out _ mXr iAr iY).mono ?_
          rintro e x6 ⟨rfl, hb⟩
          clear kbXr_0 kbXr_1 lbXr kbLr_0 kbLr_1 kbLr_2 lbLr kbx_0 kbx_1 kbx_2 lbx kby'_0 kby'_1 kby'_2 lby' kbLor_0 kbLor_1 lbLor kbHir_0 kbHir_1 lbHir
          replace mXr := mXr.below hb (Nat.le_refl _)
          replace mAr := mAr.below hb (Nat.le_refl _)
          replace mPr := mPr.below hb (Nat.le_refl _)
          replace iAr := iAr.below hb (Nat.le_refl _)
          replace iX := iX.below hb (Nat.le_refl _)
          replace iY := iY.below hb (Nat.le_refl _)
          replace bXr := bXr.below hb
          replace bLr := bLr.below hb
          replace bx := bx.below hb
          replace by' := by'.below hb
          replace bLor := bLor.below hb
          replace bHir := bHir.below hb
          replace hBr := hBr.trans (hb.mono hBr.size)
          clear hb
          go_wp2_with fail
          go_ret
          exact ⟨rfl, hBr⟩
        · have e2 : decide (50 < (al.length : Int)) = false := by rw [decide_eq_false_iff_not]; omega
          have hV := HV.out
          have hFr := HFr.out
          by_cases d3 : vldR v r al ps z = 0
          · rw [d3] at hV
            cases d4 : freeB v r al ps z with
            | false =>
              rw [d4] at hFr
              replace HV := Lib.hid hV
              replace HFr := Lib.hid hFr
              clear hV hFr d3 d4
              have kbXr_0 := bXr.cell 0 _ rfl
              have kbXr_1 := bXr.cell 1 _ rfl
              have lbXr := bXr.lt
              have kbLr_0 := bLr.cell 0 _ rfl
              have kbLr_1 := bLr.cell 1 _ rfl
              have kbLr_2 := bLr.cell 2 _ rfl
              have lbLr := bLr.lt
              have kbx_0 := bx.cell 0 _ rfl
              have kbx_1 := bx.cell 1 _ rfl
              have kbx_2 := bx.cell 2 _ rfl
              have lbx := bx.lt
              have kby'_0 := by'.cell 0 _ rfl
              have kby'_1 := by'.cell 1 _ rfl
              have kby'_2 := by'.cell 2 _ rfl
              have lby' := by'.lt
              have kbLor_0 := bLor.cell 0 _ rfl
              have kbLor_1 := bLor.cell 1 _ rfl
              have lbLor := bLor.lt
              have kbHir_0 := bHir.cell 0 _ rfl
              have kbHir_1 := bHir.cell 1 _ rfl
              have lbHir := bHir.lt
              go_wp2_with fail
              refine (HEx.out _ mXr iAr iX).mono ?_
              rintro e x1 ⟨rfl, hb⟩
              clear kbXr_0 kbXr_1 lbXr kbLr_0 kbLr_1 kbLr_2 lbLr kbx_0 kbx_1 kbx_2 lbx kby'_0 kby'_1 kby'_2 lby' kbLor_0 kbLor_1 lbLor kbHir_0 kbHir_1 lbHir
              replace mXr := mXr.below hb (Nat.le_refl _)
              replace mAr := mAr.below hb (Nat.le_refl _)
              replace mPr := mPr.below hb (Nat.le_refl _)
              replace iAr := iAr.below hb (Nat.le_refl _)
              replace iX := iX.below hb (Nat.le_refl _)
              replace iY := iY.below hb (Nat.le_refl _)
              replace bXr := bXr.below hb
              replace bLr := bLr.below hb
              replace bx := bx.below hb
              replace by' := by'.below hb
              replace bLor := bLor.below hb
              replace bHir := bHir.below hb
              replace hBr := hBr.trans (hb.mono hBr.size)
              clear hb
              have kbXr_0 := bXr.cell 0 _ rfl
              have kbXr_1 := bXr.cell 1 _ rfl
              have lbXr := bXr.lt
              have kbLr_0 := bLr.cell 0 _ rfl
              have kbLr_1 := bLr.cell 1 _ rfl
              have kbLr_2 := bLr.cell 2 _ rfl
              have lbLr := bLr.lt
              have kbx_0 := bx.cell 0 _ rfl
              have kbx_1 := bx.cell 1 _ rfl
              have kbx_2 := bx.cell 2 _ rfl
              have lbx := bx.lt
              have kby'_0 := by'.cell 0 _ rfl
              have kby'_1 := by'.cell 1 _ rfl
              have kby'_2 := by'.cell 2 _ rfl
              have lby' := by'.lt
              have kbLor_0 := bLor.cell 0 _ rfl
              have kbLor_1 := bLor.cell 1 _ rfl
              have lbLor := bLor.lt
              have kbHir_0 := bHir.cell 0 _ rfl
              have kbHir_1 := bHir.cell 1 _ rfl
              have lbHir := bHir.lt
              go_wp2_with fail
              refine (HEy.out _ mXr iAr iY).mono ?_
              rintro e x2 ⟨rfl, hb⟩
              clear kbXr_0 kbXr_1 lbXr kbLr_0 kbLr_1 kbLr_2 lbLr kbx_0 kbx_1 kbx_2 lbx kby'_0 kby'_1 kby'_2 lby' kbLor_0 kbLor_1 lbLor kbHir_0 kbHir_1 lbHir
              replace mXr := mXr.below hb (Nat.le_refl _)
              replace mAr := mAr.below hb (Nat.le_refl _)
              replace mPr := mPr.below hb (Nat.le_refl _)
              replace iAr := iAr.below hb (Nat.le_refl _)
              replace iX := iX.below hb (Nat.le_refl _)
              replace iY := iY.below hb (Nat.le_refl _)
              replace bXr := bXr.below hb
              replace bLr := bLr.below hb
              replace bx := bx.below hb
              replace by' := by'.below hb
              replace bLor := bLor.below hb
              replace bHir := bHir.below hb
              replace hBr := hBr.trans (hb.mono hBr.size)
              clear hb
              have kbXr_0 := bXr.cell 0 _ rfl
              have kbXr_1 := bXr.cell 1 _ rfl
              have lbXr := bXr.lt
              have kbLr_0 := bLr.cell 0 _ rfl
              have kbLr_1 := bLr.cell 1 _ rfl
              have kbLr_2 := bLr.cell 2 _ rfl
              have lbLr := bLr.lt
              have kbx_0 := bx.cell 0 _ rfl
              have kbx_1 := bx.cell 1 _ rfl
              have kbx_2 := bx.cell 2 _ rfl
              have lbx := bx.lt
              have kby'_0 := by'.cell 0 _ rfl
              have kby'_1 := by'.cell 1 _ rfl
              have kby'_2 := by'.cell 2 _ rfl
              have lby' := by'.lt
              have kbLor_0 := bLor.cell 0 _ rfl
              have kbLor_1 := bLor.cell 1 _ rfl
              have lbLor := bLor.lt
              have kbHir_0 := bHir.cell 0 _ rfl
              have kbHir_1 := bHir.cell 1 _ rfl
              have lbHir := bHir.lt
              go_wp2_with fail
              refine (HV.out _ mXr mAr mPr).mono ?_
              rintro e x3 ⟨rfl, hb⟩
              clear kbXr_0 kbXr_1 lbXr kbLr_0 kbLr_1 kbLr_2 lbLr kbx_0 kbx_1 kbx_2 lbx kby'_0 kby'_1 kby'_2 lby' kbLor_0 kbLor_1 lbLor kbHir_0 kbHir_1 lbHir
              replace mXr := mXr.below hb (Nat.le_refl _)
              replace mAr := mAr.below hb (Nat.le_refl _)
              replace mPr := mPr.below hb (Nat.le_refl _)
              replace iAr := iAr.below hb (Nat.le_refl _)
              replace iX := iX.below hb (Nat.le_refl _)
              replace iY := iY.below hb (Nat.le_refl _)
              replace bXr := bXr.below hb
              replace bLr := bLr.below hb
              replace bx := bx.below hb
              replace by' := by'.below hb
              replace bLor := bLor.below hb
              replace bHir := bHir.below hb
              replace hBr := hBr.trans (hb.mono hBr.size)
              clear hb
              have kbXr_0 := bXr.cell 0 _ rfl
              have kbXr_1 := bXr.cell 1 _ rfl
              have lbXr := bXr.lt
              have kbLr_0 := bLr.cell 0 _ rfl
              have kbLr_1 := bLr.cell 1 _ rfl
              have kbLr_2 := bLr.cell 2 _ rfl
              have lbLr := bLr.lt
              have kbx_0 := bx.cell 0 _ rfl
              have kbx_1 := bx.cell 1 _ rfl
              have kbx_2 := bx.cell 2 _ rfl
              have lbx := bx.lt
              have kby'_0 := by'.cell 0 _ rfl
              have kby'_1 := by'.cell 1 _ rfl
              have kby'_2 := by'.cell 2 _ rfl
              have lby' := by'.lt
              have kbLor_0 := bLor.cell 0 _ rfl
              have kbLor_1 := bLor.cell 1 _ rfl
              have lbLor := bLor.lt
              have kbHir_0 := bHir.cell 0 _ rfl
              have kbHir_1 := bHir.cell 1 _ rfl
              have lbHir := bHir.lt
              go_wp2_with fail
              refine (HFr.out _ mXr mAr mPr).mono ?_
              rintro e x4 ⟨rfl, hb⟩
              clear kbXr_0 kbXr_1 lbXr kbLr_0 kbLr_1 kbLr_2 lbLr kbx_0 kbx_1 kbx_2 lbx kby'_0 kby'_1 kby'_2 lby' kbLor_0 kbLor_1 lbLor kbHir_0 kbHir_1 lbHir
              replace mXr := mXr.below hb (Nat.le_refl _)
              replace mAr := mAr.below hb (Nat.le_refl _)
              replace mPr := mPr.below hb (Nat.le_refl _)
              replace iAr := iAr.below hb (Nat.le_refl _)
              replace iX := iX.below hb (Nat.le_refl _)
              replace iY := iY.below hb (Nat.le_refl _)
              replace bXr := bXr.below hb
              replace bLr := bLr.below hb
              replace bx := bx.below hb
              replace by' := by'.below hb
              replace bLor := bLor.below hb
              replace bHir := bHir.below hb
              replace hBr := hBr.trans (hb.mono hBr.size)
              clear hb
              have kbXr_0 := bXr.cell 0 _ rfl
              have kbXr_1 := bXr.cell 1 _ rfl
              have lbXr := bXr.lt
              have kbLr_0 := bLr.cell 0 _ rfl
              have kbLr_1 := bLr.cell 1 _ rfl
              have kbLr_2 := bLr.cell 2 _ rfl
              have lbLr := bLr.lt
              have kbx_0 := bx.cell 0 _ rfl
              have kbx_1 := bx.cell 1 _ rfl
              have kbx_2 := bx.cell 2 _ rfl
              have lbx := bx.lt
              have kby'_0 := by'.cell 0 _ rfl
              have kby'_1 := by'.cell 1 _ rfl
              have kby'_2 := by'.cell 2 _ rfl
              have lby' := by'.lt
              have kbLor_0 := bLor.cell 0 _ rfl
              have kbLor_1 := bLor.cell 1 _ rfl
              have lbLor := bLor.lt
              have kbHir_0 := bHir.cell 0 _ rfl
              have kbHir_1 := bHir.cell 1 _ rfl
              have lbHir := bHir.lt
              go_wp2_with fail
              refine (HEx.out _ mXr iAr iX).mono ?_
              rintro e x5 ⟨rfl, hb⟩
              clear kbXr_0 kbXr_1 lbXr kbLr_0 kbLr_1 kbLr_2 lbLr kbx_0 kbx_1 kbx_2 lbx kby'_0 kby'_1 kby'_2 lby' kbLor_0 kbLor_1 lbLor kbHir_0 kbHir_1 lbHir
              replace mXr := mXr.below hb (Nat.le_refl _)
              replace mAr := mAr.below hb (Nat.le_refl _)
              replace mPr := mPr.below hb (Nat.le_refl _)
              replace iAr := iAr.below hb (Nat.le_refl _)
              replace iX := iX.below hb (Nat.le_refl _)
              replace iY := iY.below hb (Nat.le_refl _)
              replace bXr := bXr.below hb
              replace bLr := bLr.below hb
              replace bx := bx.below hb
              replace by' := by'.below hb
              replace bLor := bLor.below hb
              replace bHir := bHir.below hb
              replace hBr := hBr.trans (hb.mono hBr.size)
              clear hb
              have kbXr_0 := bXr.cell 0 _ rfl
              have kbXr_1 := bXr.cell 1 _ rfl
              have lbXr := bXr.lt
              have kbLr_0 := bLr.cell 0 _ rfl
              have kbLr_1 := bLr.cell 1 _ rfl
              have kbLr_2 := bLr.cell 2 _ rfl
              have lbLr := bLr.lt
              have kbx_0 := bx.cell 0 _ rfl
              have kbx_1 := bx.cell 1 _ rfl
              have kbx_2 := bx.cell 2 _ rfl
              have lbx := bx.lt
              have kby'_0 := by'.cell 0 _ rfl
              have kby'_1 := by'.cell 1 _ rfl
              have kby'_2 := by'.cell 2 _ rfl
              have lby' := by'.lt
              have kbLor_0 := bLor.cell 0 _ rfl
              have kbLor_1 := bLor.cell 1 _ rfl
              have lbLor := bLor.lt
              have kbHir_0 := bHir.cell 0 _ rfl
              have kbHir_1 := bHir.cell 1 _ rfl
              have lbHir := bHir.lt
              go_wp2_with fail
              refine (HEy.out _ mXr iAr iY).mono ?_
              rintro e x6 ⟨rfl, hb⟩
              clear kbXr_0 kbXr_1 lbXr kbLr_0 kbLr_1 kbLr_2 lbLr kbx_0 kbx_1 kbx_2 lbx kby'_0 kby'_1 kby'_2 lby' kbLor_0 kbLor_1 lbLor kbHir_0 kbHir_1 lbHir
              replace mXr := mXr.below hb (Nat.le_refl _)
              replace mAr := mAr.below hb (Nat.le_refl _)
              replace mPr := mPr.below hb (Nat.le_refl _)
              replace iAr := iAr.below hb (Nat.le_refl _)
              replace iX := iX.below hb (Nat.le_refl _)
              replace iY := iY.below hb (Nat.le_refl _)
              replace bXr := bXr.below hb
              replace bLr := bLr.below hb
              replace bx := bx.below hb
              replace by' := by'.below hb
              replace bLor := bLor.below hb
              replace bHir := bHir.below hb
              replace hBr := hBr.trans (hb.mono hBr.size)
              clear hb
              go_wp2_with fail
              go_ret
              exact ⟨rfl, hBr⟩
            | true =>
              rw [d4] at hFr
              obtain ⟨g1, g2⟩ := Hbet.out d4
              have g3 := (vld_zero.1 d3).2
              replace HV := Lib.hid hV
              replace HFr := Lib.hid hFr
              obtain ⟨zn, hzn⟩ : ∃ zn : Nat, z = zn := ⟨z.toNat, by have := g3.2.1; omega⟩
              subst hzn
              have hz0 : 0 < zn := by have := g3.2.1; omega
              have hz60 : zn ≤ 60 := by have := g3.2.2.1; omega
              have hplen := g3.2.2.2.1
              have hprc := (good_of d3).price j hj
              have HplL := Lib.hid hplen
              clear hV hFr d3 d4 g3 hplen
              have kbXr_0 := bXr.cell 0 _ rfl
              have kbXr_1 := bXr.cell 1 _ rfl
              have lbXr := bXr.lt
              have kbLr_0 := bLr.cell 0 _ rfl
              have kbLr_1 := bLr.cell 1 _ rfl
              have kbLr_2 := bLr.cell 2 _ rfl
              have lbLr := bLr.lt
              have kbx_0 := bx.cell 0 _ rfl
              have kbx_1 := bx.cell 1 _ rfl
              have kbx_2 := bx.cell 2 _ rfl
              have lbx := bx.lt
              have kby'_0 := by'.cell 0 _ rfl
              have kby'_1 := by'.cell 1 _ rfl
              have kby'_2 := by'.cell 2 _ rfl
              have lby' := by'.lt
              have kbLor_0 := bLor.cell 0 _ rfl
              have kbLor_1 := bLor.cell 1 _ rfl
              have lbLor := bLor.lt
              have kbHir_0 := bHir.cell 0 _ rfl
              have kbHir_1 := bHir.cell 1 _ rfl
              have lbHir := bHir.lt
              go_wp2_with fail
              refine (HEx.out _ mXr iAr iX).mono ?_
              rintro e x1 ⟨rfl, hb⟩
              clear kbXr_0 kbXr_1 lbXr kbLr_0 kbLr_1 kbLr_2 lbLr kbx_0 kbx_1 kbx_2 lbx kby'_0 kby'_1 kby'_2 lby' kbLor_0 kbLor_1 lbLor kbHir_0 kbHir_1 lbHir
              replace mXr := mXr.below hb (Nat.le_refl _)
              replace mAr := mAr.below hb (Nat.le_refl _)
              replace mPr := mPr.below hb (Nat.le_refl _)
              replace iAr := iAr.below hb (Nat.le_refl _)
              replace iX := iX.below hb (Nat.le_refl _)
              replace iY := iY.below hb (Nat.le_refl _)
              replace bXr := bXr.below hb
              replace bLr := bLr.below hb
              replace bx := bx.below hb
              replace by' := by'.below hb
              replace bLor := bLor.below hb
              replace bHir := bHir.below hb
              replace hBr := hBr.trans (hb.mono hBr.size)
              clear hb
              have kbXr_0 := bXr.cell 0 _ rfl
              have kbXr_1 := bXr.cell 1 _ rfl
              have lbXr := bXr.lt
              have kbLr_0 := bLr.cell 0 _ rfl
              have kbLr_1 := bLr.cell 1 _ rfl
              have kbLr_2 := bLr.cell 2 _ rfl
              have lbLr := bLr.lt
              have kbx_0 := bx.cell 0 _ rfl
              have kbx_1 := bx.cell 1 _ rfl
              have kbx_2 := bx.cell 2 _ rfl
              have lbx := bx.lt
              have kby'_0 := by'.cell 0 _ rfl
              have kby'_1 := by'.cell 1 _ rfl
              have kby'_2 := by'.cell 2 _ rfl
              have lby' := by'.lt
              have kbLor_0 := bLor.cell 0 _ rfl
              have kbLor_1 := bLor.cell 1 _ rfl
              have lbLor := bLor.lt
              have kbHir_0 := bHir.cell 0 _ rfl
              have kbHir_1 := bHir.cell 1 _ rfl
              have lbHir := bHir.lt
              go_wp2_with fail
              refine (HEy.out _ mXr iAr iY).mono ?_
              rintro e x2 ⟨rfl, hb⟩
              clear kbXr_0 kbXr_1 lbXr kbLr_0 kbLr_1 kbLr_2 lbLr kbx_0 kbx_1 kbx_2 lbx kby'_0 kby'_1 kby'_2 lby' kbLor_0 kbLor_1 lbLor kbHir_0 kbHir_1 lbHir
              replace mXr := mXr.below hb (Nat.le_refl _)
              replace mAr := mAr.below hb (Nat.le_refl _)
              replace mPr := mPr.below hb (Nat.le_refl _)
              replace iAr := iAr.below hb (Nat.le_refl _)
              replace iX := iX.below hb (Nat.le_refl _)
              replace iY := iY.below hb (Nat.le_refl _)
              replace bXr := bXr.below hb
              replace bLr := bLr.below hb
              replace bx := bx.below hb
              replace by' := by'.below hb
              replace bLor := bLor.below hb
              replace bHir := bHir.below hb
              replace hBr := hBr.trans (hb.mono hBr.size)
              clear hb
              have kbXr_0 := bXr.cell 0 _ rfl
              have kbXr_1 := bXr.cell 1 _ rfl
              have lbXr := bXr.lt
              have kbLr_0 := bLr.cell 0 _ rfl
              have kbLr_1 := bLr.cell 1 _ rfl
              have kbLr_2 := bLr.cell 2 _ rfl
              have lbLr := bLr.lt
              have kbx_0 := bx.cell 0 _ rfl
              have kbx_1 := bx.cell 1 _ rfl
              have kbx_2 := bx.cell 2 _ rfl
              have lbx := bx.lt
              have kby'_0 := by'.cell 0 _ rfl
              have kby'_1 := by'.cell 1 _ rfl
              have kby'_2 := by'.cell 2 _ rfl
              have lby' := by'.lt
              have kbLor_0 := bLor.cell 0 _ rfl
              have kbLor_1 := bLor.cell 1 _ rfl
              have lbLor := bLor.lt
              have kbHir_0 := bHir.cell 0 _ rfl
              have kbHir_1 := bHir.cell 1 _ rfl
              have lbHir := bHir.lt
              go_wp2_with fail
              refine (HV.out _ mXr mAr mPr).mono ?_
              rintro e x3 ⟨rfl, hb⟩
              clear kbXr_0 kbXr_1 lbXr kbLr_0 kbLr_1 kbLr_2 lbLr kbx_0 kbx_1 kbx_2 lbx kby'_0 kby'_1 kby'_2 lby' kbLor_0 kbLor_1 lbLor kbHir_0 kbHir_1 lbHir
              replace mXr := mXr.below hb (Nat.le_refl _)
              replace mAr := mAr.below hb (Nat.le_refl _)
              replace mPr := mPr.below hb (Nat.le_refl _)
              replace iAr := iAr.below hb (Nat.le_refl _)
              replace iX := iX.below hb (Nat.le_refl _)
              replace iY := iY.below hb (Nat.le_refl _)
              replace bXr := bXr.below hb
              replace bLr := bLr.below hb
              replace bx := bx.below hb
              replace by' := by'.below hb
              replace bLor := bLor.below hb
              replace bHir := bHir.below hb
              replace hBr := hBr.trans (hb.mono hBr.size)
              clear hb
              have kbXr_0 := bXr.cell 0 _ rfl
              have kbXr_1 := bXr.cell 1 _ rfl
              have lbXr := bXr.lt
              have kbLr_0 := bLr.cell 0 _ rfl
              have kbLr_1 := bLr.cell 1 _ rfl
              have kbLr_2 := bLr.cell 2 _ rfl
              have lbLr := bLr.lt
              have kbx_0 := bx.cell 0 _ rfl
              have kbx_1 := bx.cell 1 _ rfl
              have kbx_2 := bx.cell 2 _ rfl
              have lbx := bx.lt
              have kby'_0 := by'.cell 0 _ rfl
              have kby'_1 := by'.cell 1 _ rfl
              have kby'_2 := by'.cell 2 _ rfl
              have lby' := by'.lt
              have kbLor_0 := bLor.cell 0 _ rfl
              have kbLor_1 := bLor.cell 1 _ rfl
              have lbLor := bLor.lt
              have kbHir_0 := bHir.cell 0 _ rfl
              have kbHir_1 := bHir.cell 1 _ rfl
              have lbHir := bHir.lt
              go_wp2_with fail
              refine (HFr.out _ mXr mAr mPr).mono ?_
              rintro e x4 ⟨rfl, hb⟩
              clear kbXr_0 kbXr_1 lbXr kbLr_0 kbLr_1 kbLr_2 lbLr kbx_0 kbx_1 kbx_2 lbx kby'_0 kby'_1 kby'_2 lby' kbLor_0 kbLor_1 lbLor kbHir_0 kbHir_1 lbHir
              replace mXr := mXr.below hb (Nat.le_refl _)
              replace mAr := mAr.below hb (Nat.le_refl _)
              replace mPr := mPr.below hb (Nat.le_refl _)
              replace iAr := iAr.below hb (Nat.le_refl _)
              replace iX := iX.below hb (Nat.le_refl _)
              replace iY := iY.below hb (Nat.le_refl _)
              replace bXr := bXr.below hb
              replace bLr := bLr.below hb
              replace bx := bx.below hb
              replace by' := by'.below hb
              replace bLor := bLor.below hb
              replace bHir := bHir.below hb
              replace hBr := hBr.trans (hb.mono hBr.size)
              clear hb
              have kbXr_0 := bXr.cell 0 _ rfl
              have kbXr_1 := bXr.cell 1 _ rfl
              have lbXr := bXr.lt
              have kbLr_0 := bLr.cell 0 _ rfl
              have kbLr_1 := bLr.cell 1 _ rfl
              have kbLr_2 := bLr.cell 2 _ rfl
              have lbLr := bLr.lt
              have kbx_0 := bx.cell 0 _ rfl
              have kbx_1 := bx.cell 1 _ rfl
              have kbx_2 := bx.cell 2 _ rfl
              have lbx := bx.lt
              have kby'_0 := by'.cell 0 _ rfl
              have kby'_1 := by'.cell 1 _ rfl
              have kby'_2 := by'.cell 2 _ rfl
              have lby' := by'.lt
              have kbLor_0 := bLor.cell 0 _ rfl
              have kbLor_1 := bLor.cell 1 _ rfl
              have lbLor := bLor.lt
              have kbHir_0 := bHir.cell 0 _ rfl
              have kbHir_1 := bHir.cell 1 _ rfl
              have lbHir := bHir.lt
              obtain ⟨bp, op, rfl, hlp, hcp⟩ := mPr.get (j := j) (by rw [HplL.out]; exact hj)
              have hjp : (j : Int) < ps.length := by rw [HplL.out]; omega
              obtain ⟨PJ, ePJ⟩ : ∃ x, iget ps j = x := ⟨_, rfl⟩
              rw [ePJ] at hcp hprc g1 g2
              have HM := Lib.hid (fun W => refMake_any PJ zn W (by omega) (by omega) hz0 (by omega))
              have hx0 := rN_bd (x := PJ) (d := zn) (M := 600000000) (by omega) (by omega)
              have hx1 := rD_pos (x := PJ) (d := zn) hz0
              have hx2 := rD_le (x := PJ) (d := zn)
              have f1 := HlL.out PJ zn hz0
              have f2 := HlH.out PJ zn hz0
              rw [show decide (PJ * (v.length : Int) < L * zn) = false by rw [decide_eq_false_iff_not]; omega] at f1
              rw [show decide (H * (zn : Int) < PJ * v.length) = false by rw [decide_eq_false_iff_not]; omega] at f2
              unfold ratV rD at HM
              obtain ⟨NP, eNP⟩ : ∃ x, rN PJ zn = x := ⟨_, rfl⟩
              obtain ⟨DP, eDP⟩ : ∃ x, zn / rG PJ zn = x := ⟨_, rfl⟩
              rw [eNP] at hx0 f1 f2 HM
              rw [eDP] at hx1 hx2 f1 f2 HM
              have HL1 := fun W => refLess_any NP N1 DP D1 W ⟨by omega, by omega⟩ ⟨by omega, by omega⟩ ⟨by omega, by omega⟩ ⟨by omega, by omega⟩
              have HL2 := fun W => refLess_any N2 NP D2 DP W ⟨by omega, by omega⟩ ⟨by omega, by omega⟩ ⟨by omega, by omega⟩ ⟨by omega, by omega⟩
              rw [f1] at HL1
              rw [f2] at HL2
              have HL1' := Lib.hid HL1
              have HL2' := Lib.hid HL2
              clear HL1 HL2 f1 f2 eNP eDP ePJ g1 g2
              have Hmk : Hid (∀ W, Below x4.heap.size x4 W → (W.cell? ⟨w.heap.size + 1, 1, none⟩ = some (.slice (some ⟨bp, op, none⟩) ps.length f) ∧ W.cell? ⟨w.heap.size + 1, 2, none⟩ = some (.int .i64 (zn : Int)) ∧ W.cell? ⟨bp, op + j, none⟩ = some (.int .i64 PJ) ∧ Below x4.heap.size x4 W)) := fun W hG =>
                ⟨(hG.cell (p := ⟨w.heap.size + 1, 1, none⟩) bLr.lt).trans (bLr.cell 1 _ rfl), (hG.cell (p := ⟨w.heap.size + 1, 2, none⟩) bLr.lt).trans (bLr.cell 2 _ rfl), (hG.cell (p := ⟨bp, op + j, none⟩) hlp).trans hcp, hG⟩
              have hLT := bLr.lt
              go_wp2_with fail
              refine wp_region_inv (by kernel_rfl) (by decide +kernel) (by decide +kernel) _ _ (OneJ x4 11 12 (fun k => match k with | 0 => (.pointer (some ⟨w.heap.size + 1, 1, none⟩)) | 1 => (.slice (some ⟨bp, op, none⟩) ps.length f) | 2 => (.int .i64 (j : Int)) | 3 => (.pointer (some ⟨bp, op + j, none⟩)) | 4 => (.int .i64 (PJ : Int)) | 5 => (.pointer (some ⟨w.heap.size + 1, 2, none⟩)) | 6 => (.int .i64 (zn : Int)) | 7 => (.tuple #[.agg #[.int .i64 NP, .int .i64 (DP : Int)], .int .i64 0]) | 8 => (.tuple #[.agg #[.int .i64 NP, .int .i64 (DP : Int)], .int .i64 0]) | 9 => (.agg #[.int .i64 NP, .int .i64 (DP : Int)]) | 10 => (.int .i64 (0 : Int)) | 13 => (.int .i64 (0 : Int)) | _ => undef) (.int .i64 NP) (.int .i64 (DP : Int))) ?_ ?_ ?_
              · exact fun us => OneJ.start us
              · intro us D W i o A hA hi hJ hnD hon K hK
                have hlt : i < 14 := (Array.getElem?_eq_some_iff.1 hi).1
                rcases lt14 hlt with rfl | rfl | rfl | rfl | rfl | rfl | rfl | rfl | rfl | rfl | rfl | rfl | rfl | rfl
                · have hi' := Option.some.inj hi
                  subst hi'
                  refine wp_val (v := (.pointer (some ⟨w.heap.size + 1, 1, none⟩))) (w' := W) ?_ (hK _ _ (hJ.pure (i := 0) (by decide) (by decide) (Below.refl _ _)))
                  · skip
                    have e4 : A.tmps[4]?.getD undef = (.pointer (some ⟨w.heap.size + 1, 0, none⟩)) := by rw [hA]; kernel_rfl
                    clear hA hK hon hJ
                    go_simp
                · have hi' := Option.some.inj hi
                  subst hi'
                  refine wp_val (v := (.slice (some ⟨bp, op, none⟩) ps.length f)) (w' := W) ?_ (hK _ _ (hJ.pure (i := 1) (by decide) (by decide) (Below.refl _ _)))
                  · skip
                    have e220 : A.tmps[220]?.getD undef = (.pointer (some ⟨w.heap.size + 1, 1, none⟩)) := (by rw [hA]; kernel_rfl : A.tmps[220]?.getD undef = us 0).trans (hJ.val 0 (by decide) (by decide) (hon 0 (by decide +kernel)))
                    obtain ⟨cc1, cc2, cc3, _⟩ := Hmk.out W hJ.bel
                    clear hA hK hon hJ
                    go_simp
                · have hi' := Option.some.inj hi
                  subst hi'
                  refine wp_val (v := (.int .i64 (j : Int))) (w' := W) ?_ (hK _ _ (hJ.pure (i := 2) (by decide) (by decide) (Below.refl _ _)))
                  · skip
                    have e2 : A.tmps[2]?.getD undef = (.int .i64 (j : Int)) := by rw [hA]; kernel_rfl
                    clear hA hK hon hJ
                    go_simp
                · have hi' := Option.some.inj hi
                  subst hi'
                  refine wp_val (v := (.pointer (some ⟨bp, op + j, none⟩))) (w' := W) ?_ (hK _ _ (hJ.pure (i := 3) (by decide) (by decide) (Below.refl _ _)))
                  · skip
                    have e221 : A.tmps[221]?.getD undef = (.slice (some ⟨bp, op, none⟩) ps.length f) := (by rw [hA]; kernel_rfl : A.tmps[221]?.getD undef = us 1).trans (hJ.val 1 (by decide) (by decide) (hon 1 (by decide +kernel)))
                    have e222 : A.tmps[222]?.getD undef = (.int .i64 (j : Int)) := (by rw [hA]; kernel_rfl : A.tmps[222]?.getD undef = us 2).trans (hJ.val 2 (by decide) (by decide) (hon 2 (by decide +kernel)))
                    clear hA hK hon hJ
                    go_simp
                · have hi' := Option.some.inj hi
                  subst hi'
                  refine wp_val (v := (.int .i64 (PJ : Int))) (w' := W) ?_ (hK _ _ (hJ.pure (i := 4) (by decide) (by decide) (Below.refl _ _)))
                  · skip
                    have e223 : A.tmps[223]?.getD undef = (.pointer (some ⟨bp, op + j, none⟩)) := (by rw [hA]; kernel_rfl : A.tmps[223]?.getD undef = us 3).trans (hJ.val 3 (by decide) (by decide) (hon 3 (by decide +kernel)))
                    obtain ⟨cc1, cc2, cc3, _⟩ := Hmk.out W hJ.bel
                    clear hA hK hon hJ
                    go_simp
                · have hi' := Option.some.inj hi
                  subst hi'
                  refine wp_val (v := (.pointer (some ⟨w.heap.size + 1, 2, none⟩))) (w' := W) ?_ (hK _ _ (hJ.pure (i := 5) (by decide) (by decide) (Below.refl _ _)))
                  · skip
                    have e4 : A.tmps[4]?.getD undef = (.pointer (some ⟨w.heap.size + 1, 0, none⟩)) := by rw [hA]; kernel_rfl
                    clear hA hK hon hJ
                    go_simp
                · have hi' := Option.some.inj hi
                  subst hi'
                  refine wp_val (v := (.int .i64 (zn : Int))) (w' := W) ?_ (hK _ _ (hJ.pure (i := 6) (by decide) (by decide) (Below.refl _ _)))
                  · skip
                    have e225 : A.tmps[225]?.getD undef = (.pointer (some ⟨w.heap.size + 1, 2, none⟩)) := (by rw [hA]; kernel_rfl : A.tmps[225]?.getD undef = us 5).trans (hJ.val 5 (by decide) (by decide) (hon 5 (by decide +kernel)))
                    obtain ⟨cc1, cc2, cc3, _⟩ := Hmk.out W hJ.bel
                    clear hA hK hon hJ
                    go_simp
                · have hi' := Option.some.inj hi
                  subst hi'
                  refine wp_enter (f := 37) (args := #[.int .i64 PJ, .int .i64 (zn : Int)]) (w' := W) ?_ ((HM.out W).mono ?_)
                  · skip
                    have e224 : A.tmps[224]?.getD undef = (.int .i64 (PJ : Int)) := (by rw [hA]; kernel_rfl : A.tmps[224]?.getD undef = us 4).trans (hJ.val 4 (by decide) (by decide) (hon 4 (by decide +kernel)))
                    have e226 : A.tmps[226]?.getD undef = (.int .i64 (zn : Int)) := (by rw [hA]; kernel_rfl : A.tmps[226]?.getD undef = us 6).trans (hJ.val 6 (by decide) (by decide) (hon 6 (by decide +kernel)))
                    clear hA hK hon hJ
                    go_simp
                  · rintro r' wC ⟨rfl, hbC⟩
                    exact ⟨_, rfl, hK _ _ (hJ.pure (i := 7) (by decide) (by decide) hbC)⟩
                · have hi' := Option.some.inj hi
                  subst hi'
                  refine wp_val (v := (.tuple #[.agg #[.int .i64 NP, .int .i64 (DP : Int)], .int .i64 0])) (w' := W) ?_ (hK _ _ (hJ.pure (i := 8) (by decide) (by decide) (Below.refl _ _)))
                  · skip
                    have e227 : A.tmps[227]?.getD undef = (.tuple #[.agg #[.int .i64 NP, .int .i64 (DP : Int)], .int .i64 0]) := (by rw [hA]; kernel_rfl : A.tmps[227]?.getD undef = us 7).trans (hJ.val 7 (by decide) (by decide) (hon 7 (by decide +kernel)))
                    clear hA hK hon hJ
                    go_simp
                · have hi' := Option.some.inj hi
                  subst hi'
                  refine wp_val (v := (.agg #[.int .i64 NP, .int .i64 (DP : Int)])) (w' := W) ?_ (hK _ _ (hJ.pure (i := 9) (by decide) (by decide) (Below.refl _ _)))
                  · skip
                    have e219 : A.tmps[219]?.getD undef = (.tuple #[.agg #[.int .i64 NP, .int .i64 (DP : Int)], .int .i64 0]) := (by rw [hA]; kernel_rfl : A.tmps[219]?.getD undef = us 8).trans (hJ.val 8 (by decide) (by decide) (hon 8 (by decide +kernel)))
                    clear hA hK hon hJ
                    go_simp
                · have hi' := Option.some.inj hi
                  subst hi'
                  refine wp_val (v := (.int .i64 (0 : Int))) (w' := W) ?_ (hK _ _ (hJ.pure (i := 10) (by decide) (by decide) (Below.refl _ _)))
                  · skip
                    have e219 : A.tmps[219]?.getD undef = (.tuple #[.agg #[.int .i64 NP, .int .i64 (DP : Int)], .int .i64 0]) := (by rw [hA]; kernel_rfl : A.tmps[219]?.getD undef = us 8).trans (hJ.val 8 (by decide) (by decide) (hon 8 (by decide +kernel)))
                    clear hA hK hon hJ
                    go_simp
                · have hi' := Option.some.inj hi
                  subst hi'
                  refine wp_val (v := .pointer (some ⟨W.heap.size, 0, none⟩)) (w' := W.alloc (.cells #[(.int .i64 (0 : Int)), (.int .i64 (0 : Int))] 40)) ?_ (hK _ _ (hJ.alloc hnD (by decide) _ _ _))
                  · skip
                    clear hA hK hon hJ
                    go_simp
                · have hi' := Option.some.inj hi
                  subst hi'
                  obtain ⟨g, x', y', hg, _, hlt, ht, _⟩ := hJ.blk (hon 11 (by decide +kernel))
                  refine wp_skip (w' := (W.setCell ⟨g, 0, none⟩ (.int .i64 NP)).setCell ⟨g, 1, none⟩ (.int .i64 (DP : Int))) ?_ (hK _ _ (hJ.store (hon 11 (by decide +kernel)) (by decide) hg undef))
                  · skip
                    have e20 : A.tmps[20]?.getD undef = .pointer (some ⟨g, 0, none⟩) := (by rw [hA]; kernel_rfl : A.tmps[20]?.getD undef = us 11).trans hg
                    have e228 : A.tmps[228]?.getD undef = (.agg #[.int .i64 NP, .int .i64 (DP : Int)]) := (by rw [hA]; kernel_rfl : A.tmps[228]?.getD undef = us 9).trans (hJ.val 9 (by decide) (by decide) (hon 9 (by decide +kernel)))
                    have c0 := ht.c0
                    have c1 := ht.c1
                    have f0 := ht.f0
                    have f1 := ht.f1
                    clear ht
                    clear hA hK hon hJ
                    go_simp
                · have hi' := Option.some.inj hi
                  subst hi'
                  refine wp_val (v := (.int .i64 (0 : Int))) (w' := W) ?_ (hK _ _ (hJ.pure (i := 13) (by decide) (by decide) (Below.refl _ _)))
                  · skip
                    have e229 : A.tmps[229]?.getD undef = (.int .i64 (0 : Int)) := (by rw [hA]; kernel_rfl : A.tmps[229]?.getD undef = us 10).trans (hJ.val 10 (by decide) (by decide) (hon 10 (by decide +kernel)))
                    clear hA hK hon hJ
                    go_simp
              · intro us D x7 hJ hall
                obtain ⟨g, xx, yy, hg, hg1, hg2, ht, hxy⟩ := hJ.blk (hall 11 (by decide))
                obtain ⟨rfl, rfl⟩ := hxy (hall 12 (by decide))
                have hb := hJ.bel
                have bp' : BoxV x7 g [.int .i64 NP, .int .i64 (DP : Int)] := boxV_of2 hg2 ht.c0 ht.c1
                clear hJ hall ht
                simp only [actL, slotL, putL, List.setIfInBounds_toArray, List.set_cons_zero, List.set_cons_succ, hg]
                clear kbXr_0 kbXr_1 lbXr kbLr_0 kbLr_1 kbLr_2 lbLr kbx_0 kbx_1 kbx_2 lbx kby'_0 kby'_1 kby'_2 lby' kbLor_0 kbLor_1 lbLor kbHir_0 kbHir_1 lbHir
                replace mXr := mXr.below hb (Nat.le_refl _)
                replace mAr := mAr.below hb (Nat.le_refl _)
                replace mPr := mPr.below hb (Nat.le_refl _)
                replace iAr := iAr.below hb (Nat.le_refl _)
                replace iX := iX.below hb (Nat.le_refl _)
                replace iY := iY.below hb (Nat.le_refl _)
                replace bXr := bXr.below hb
                replace bLr := bLr.below hb
                replace bx := bx.below hb
                replace by' := by'.below hb
                replace bLor := bLor.below hb
                replace bHir := bHir.below hb
                replace hBr := hBr.trans (hb.mono hBr.size)
                clear hb hcp hlp
                have kbXr_0 := bXr.cell 0 _ rfl
                have kbXr_1 := bXr.cell 1 _ rfl
                have lbXr := bXr.lt
                have kbLr_0 := bLr.cell 0 _ rfl
                have kbLr_1 := bLr.cell 1 _ rfl
                have kbLr_2 := bLr.cell 2 _ rfl
                have lbLr := bLr.lt
                have kbx_0 := bx.cell 0 _ rfl
                have kbx_1 := bx.cell 1 _ rfl
                have kbx_2 := bx.cell 2 _ rfl
                have lbx := bx.lt
                have kby'_0 := by'.cell 0 _ rfl
                have kby'_1 := by'.cell 1 _ rfl
                have kby'_2 := by'.cell 2 _ rfl
                have lby' := by'.lt
                have kbLor_0 := bLor.cell 0 _ rfl
                have kbLor_1 := bLor.cell 1 _ rfl
                have lbLor := bLor.lt
                have kbHir_0 := bHir.cell 0 _ rfl
                have kbHir_1 := bHir.cell 1 _ rfl
                have lbHir := bHir.lt
                have kbp'_0 := bp'.cell 0 _ rfl
                have kbp'_1 := bp'.cell 1 _ rfl
                have lbp' := bp'.lt
                go_wp2_with fail
                refine (HL1'.out _).mono ?_
                rintro e x8 ⟨rfl, hb⟩
                clear kbXr_0 kbXr_1 lbXr kbLr_0 kbLr_1 kbLr_2 lbLr kbx_0 kbx_1 kbx_2 lbx kby'_0 kby'_1 kby'_2 lby' kbLor_0 kbLor_1 lbLor kbHir_0 kbHir_1 lbHir kbp'_0 kbp'_1 lbp'
                replace mXr := mXr.below hb (Nat.le_refl _)
                replace mAr := mAr.below hb (Nat.le_refl _)
                replace mPr := mPr.below hb (Nat.le_refl _)
                replace iAr := iAr.below hb (Nat.le_refl _)
                replace iX := iX.below hb (Nat.le_refl _)
                replace iY := iY.below hb (Nat.le_refl _)
                replace bXr := bXr.below hb
                replace bLr := bLr.below hb
                replace bx := bx.below hb
                replace by' := by'.below hb
                replace bLor := bLor.below hb
                replace bHir := bHir.below hb
                replace bp' := bp'.below hb
                replace hBr := hBr.trans (hb.mono hBr.size)
                clear hb
                have kbXr_0 := bXr.cell 0 _ rfl
                have kbXr_1 := bXr.cell 1 _ rfl
                have lbXr := bXr.lt
                have kbLr_0 := bLr.cell 0 _ rfl
                have kbLr_1 := bLr.cell 1 _ rfl
                have kbLr_2 := bLr.cell 2 _ rfl
                have lbLr := bLr.lt
                have kbx_0 := bx.cell 0 _ rfl
                have kbx_1 := bx.cell 1 _ rfl
                have kbx_2 := bx.cell 2 _ rfl
                have lbx := bx.lt
                have kby'_0 := by'.cell 0 _ rfl
                have kby'_1 := by'.cell 1 _ rfl
                have kby'_2 := by'.cell 2 _ rfl
                have lby' := by'.lt
                have kbLor_0 := bLor.cell 0 _ rfl
                have kbLor_1 := bLor.cell 1 _ rfl
                have lbLor := bLor.lt
                have kbHir_0 := bHir.cell 0 _ rfl
                have kbHir_1 := bHir.cell 1 _ rfl
                have lbHir := bHir.lt
                have kbp'_0 := bp'.cell 0 _ rfl
                have kbp'_1 := bp'.cell 1 _ rfl
                have lbp' := bp'.lt
                go_wp2_with fail
                refine (HL2'.out _).mono ?_
                rintro e x9 ⟨rfl, hb⟩
                clear kbXr_0 kbXr_1 lbXr kbLr_0 kbLr_1 kbLr_2 lbLr kbx_0 kbx_1 kbx_2 lbx kby'_0 kby'_1 kby'_2 lby' kbLor_0 kbLor_1 lbLor kbHir_0 kbHir_1 lbHir kbp'_0 kbp'_1 lbp'
                replace mXr := mXr.below hb (Nat.le_refl _)
                replace mAr := mAr.below hb (Nat.le_refl _)
                replace mPr := mPr.below hb (Nat.le_refl _)
                replace iAr := iAr.below hb (Nat.le_refl _)
                replace iX := iX.below hb (Nat.le_refl _)
                replace iY := iY.below hb (Nat.le_refl _)
                replace bXr := bXr.below hb
                replace bLr := bLr.below hb
                replace bx := bx.below hb
                replace by' := by'.below hb
                replace bLor := bLor.below hb
                replace bHir := bHir.below hb
                replace bp' := bp'.below hb
                replace hBr := hBr.trans (hb.mono hBr.size)
                clear hb
                go_wp2_with fail
                go_ret
                exact ⟨rfl, hBr⟩
          · obtain ⟨E, eE⟩ : ∃ x, vldR v r al ps z = x := ⟨_, rfl⟩
            rw [eE] at hV d3
            have hd : (E != 0) = true := by rw [bne_iff_ne]; exact d3
            replace HV := Lib.hid hV
            clear hV hFr d3 eE
            have kbXr_0 := bXr.cell 0 _ rfl
            have kbXr_1 := bXr.cell 1 _ rfl
            have lbXr := bXr.lt
            have kbLr_0 := bLr.cell 0 _ rfl
            have kbLr_1 := bLr.cell 1 _ rfl
            have kbLr_2 := bLr.cell 2 _ rfl
            have lbLr := bLr.lt
            have kbx_0 := bx.cell 0 _ rfl
            have kbx_1 := bx.cell 1 _ rfl
            have kbx_2 := bx.cell 2 _ rfl
            have lbx := bx.lt
            have kby'_0 := by'.cell 0 _ rfl
            have kby'_1 := by'.cell 1 _ rfl
            have kby'_2 := by'.cell 2 _ rfl
            have lby' := by'.lt
            have kbLor_0 := bLor.cell 0 _ rfl
            have kbLor_1 := bLor.cell 1 _ rfl
            have lbLor := bLor.lt
            have kbHir_0 := bHir.cell 0 _ rfl
            have kbHir_1 := bHir.cell 1 _ rfl
            have lbHir := bHir.lt
            go_wp2_with fail
            refine (HEx.out _ mXr iAr iX).mono ?_
            rintro e x1 ⟨rfl, hb⟩
            clear kbXr_0 kbXr_1 lbXr kbLr_0 kbLr_1 kbLr_2 lbLr kbx_0 kbx_1 kbx_2 lbx kby'_0 kby'_1 kby'_2 lby' kbLor_0 kbLor_1 lbLor kbHir_0 kbHir_1 lbHir
            replace mXr := mXr.below hb (Nat.le_refl _)
            replace mAr := mAr.below hb (Nat.le_refl _)
            replace mPr := mPr.below hb (Nat.le_refl _)
            replace iAr := iAr.below hb (Nat.le_refl _)
            replace iX := iX.below hb (Nat.le_refl _)
            replace iY := iY.below hb (Nat.le_refl _)
            replace bXr := bXr.below hb
            replace bLr := bLr.below hb
            replace bx := bx.below hb
            replace by' := by'.below hb
            replace bLor := bLor.below hb
            replace bHir := bHir.below hb
            replace hBr := hBr.trans (hb.mono hBr.size)
            clear hb
            have kbXr_0 := bXr.cell 0 _ rfl
            have kbXr_1 := bXr.cell 1 _ rfl
            have lbXr := bXr.lt
            have kbLr_0 := bLr.cell 0 _ rfl
            have kbLr_1 := bLr.cell 1 _ rfl
            have kbLr_2 := bLr.cell 2 _ rfl
            have lbLr := bLr.lt
            have kbx_0 := bx.cell 0 _ rfl
            have kbx_1 := bx.cell 1 _ rfl
            have kbx_2 := bx.cell 2 _ rfl
            have lbx := bx.lt
            have kby'_0 := by'.cell 0 _ rfl
            have kby'_1 := by'.cell 1 _ rfl
            have kby'_2 := by'.cell 2 _ rfl
            have lby' := by'.lt
            have kbLor_0 := bLor.cell 0 _ rfl
            have kbLor_1 := bLor.cell 1 _ rfl
            have lbLor := bLor.lt
            have kbHir_0 := bHir.cell 0 _ rfl
            have kbHir_1 := bHir.cell 1 _ rfl
            have lbHir := bHir.lt
            go_wp2_with fail
            refine (HEy.out _ mXr iAr iY).mono ?_
            rintro e x2 ⟨rfl, hb⟩
            clear kbXr_0 kbXr_1 lbXr kbLr_0 kbLr_1 kbLr_2 lbLr kbx_0 kbx_1 kbx_2 lbx kby'_0 kby'_1 kby'_2 lby' kbLor_0 kbLor_1 lbLor kbHir_0 kbHir_1 lbHir
            replace mXr := mXr.below hb (Nat.le_refl _)
            replace mAr := mAr.below hb (Nat.le_refl _)
            replace mPr := mPr.below hb (Nat.le_refl _)
            replace iAr := iAr.below hb (Nat.le_refl _)
            replace iX := iX.below hb (Nat.le_refl _)
            replace iY := iY.below hb (Nat.le_refl _)
            replace bXr := bXr.below hb
            replace bLr := bLr.below hb
            replace bx := bx.below hb
            replace by' := by'.below hb
            replace bLor := bLor.below hb
            replace bHir := bHir.below hb
            replace hBr := hBr.trans (hb.mono hBr.size)
            clear hb
            have kbXr_0 := bXr.cell 0 _ rfl
            have kbXr_1 := bXr.cell 1 _ rfl
            have lbXr := bXr.lt
            have kbLr_0 := bLr.cell 0 _ rfl
            have kbLr_1 := bLr.cell 1 _ rfl
            have kbLr_2 := bLr.cell 2 _ rfl
            have lbLr := bLr.lt
            have kbx_0 := bx.cell 0 _ rfl
            have kbx_1 := bx.cell 1 _ rfl
            have kbx_2 := bx.cell 2 _ rfl
            have lbx := bx.lt
            have kby'_0 := by'.cell 0 _ rfl
            have kby'_1 := by'.cell 1 _ rfl
            have kby'_2 := by'.cell 2 _ rfl
            have lby' := by'.lt
            have kbLor_0 := bLor.cell 0 _ rfl
            have kbLor_1 := bLor.cell 1 _ rfl
            have lbLor := bLor.lt
            have kbHir_0 := bHir.cell 0 _ rfl
            have kbHir_1 := bHir.cell 1 _ rfl
            have lbHir := bHir.lt
            go_wp2_with fail
            refine (HV.out _ mXr mAr mPr).mono ?_
            rintro e x3 ⟨rfl, hb⟩
            clear kbXr_0 kbXr_1 lbXr kbLr_0 kbLr_1 kbLr_2 lbLr kbx_0 kbx_1 kbx_2 lbx kby'_0 kby'_1 kby'_2 lby' kbLor_0 kbLor_1 lbLor kbHir_0 kbHir_1 lbHir
            replace mXr := mXr.below hb (Nat.le_refl _)
            replace mAr := mAr.below hb (Nat.le_refl _)
            replace mPr := mPr.below hb (Nat.le_refl _)
            replace iAr := iAr.below hb (Nat.le_refl _)
            replace iX := iX.below hb (Nat.le_refl _)
            replace iY := iY.below hb (Nat.le_refl _)
            replace bXr := bXr.below hb
            replace bLr := bLr.below hb
            replace bx := bx.below hb
            replace by' := by'.below hb
            replace bLor := bLor.below hb
            replace bHir := bHir.below hb
            replace hBr := hBr.trans (hb.mono hBr.size)
            clear hb
            have kbXr_0 := bXr.cell 0 _ rfl
            have kbXr_1 := bXr.cell 1 _ rfl
            have lbXr := bXr.lt
            have kbLr_0 := bLr.cell 0 _ rfl
            have kbLr_1 := bLr.cell 1 _ rfl
            have kbLr_2 := bLr.cell 2 _ rfl
            have lbLr := bLr.lt
            have kbx_0 := bx.cell 0 _ rfl
            have kbx_1 := bx.cell 1 _ rfl
            have kbx_2 := bx.cell 2 _ rfl
            have lbx := bx.lt
            have kby'_0 := by'.cell 0 _ rfl
            have kby'_1 := by'.cell 1 _ rfl
            have kby'_2 := by'.cell 2 _ rfl
            have lby' := by'.lt
            have kbLor_0 := bLor.cell 0 _ rfl
            have kbLor_1 := bLor.cell 1 _ rfl
            have lbLor := bLor.lt
            have kbHir_0 := bHir.cell 0 _ rfl
            have kbHir_1 := bHir.cell 1 _ rfl
            have lbHir := bHir.lt
            go_wp2_with fail
            refine (HEx.out _ mXr iAr iX).mono ?_
            rintro e x5 ⟨rfl, hb⟩
            clear kbXr_0 kbXr_1 lbXr kbLr_0 kbLr_1 kbLr_2 lbLr kbx_0 kbx_1 kbx_2 lbx kby'_0 kby'_1 kby'_2 lby' kbLor_0 kbLor_1 lbLor kbHir_0 kbHir_1 lbHir
            replace mXr := mXr.below hb (Nat.le_refl _)
            replace mAr := mAr.below hb (Nat.le_refl _)
            replace mPr := mPr.below hb (Nat.le_refl _)
            replace iAr := iAr.below hb (Nat.le_refl _)
            replace iX := iX.below hb (Nat.le_refl _)
            replace iY := iY.below hb (Nat.le_refl _)
            replace bXr := bXr.below hb
            replace bLr := bLr.below hb
            replace bx := bx.below hb
            replace by' := by'.below hb
            replace bLor := bLor.below hb
            replace bHir := bHir.below hb
            replace hBr := hBr.trans (hb.mono hBr.size)
            clear hb
            have kbXr_0 := bXr.cell 0 _ rfl
            have kbXr_1 := bXr.cell 1 _ rfl
            have lbXr := bXr.lt
            have kbLr_0 := bLr.cell 0 _ rfl
            have kbLr_1 := bLr.cell 1 _ rfl
            have kbLr_2 := bLr.cell 2 _ rfl
            have lbLr := bLr.lt
            have kbx_0 := bx.cell 0 _ rfl
            have kbx_1 := bx.cell 1 _ rfl
            have kbx_2 := bx.cell 2 _ rfl
            have lbx := bx.lt
            have kby'_0 := by'.cell 0 _ rfl
            have kby'_1 := by'.cell 1 _ rfl
            have kby'_2 := by'.cell 2 _ rfl
            have lby' := by'.lt
            have kbLor_0 := bLor.cell 0 _ rfl
            have kbLor_1 := bLor.cell 1 _ rfl
            have lbLor := bLor.lt
            have kbHir_0 := bHir.cell 0 _ rfl
            have kbHir_1 := bHir.cell 1 _ rfl
            have lbHir := bHir.lt
            go_wp2_with fail
            refine (HEy.out _ mXr iAr iY).mono ?_
            rintro e x6 ⟨rfl, hb⟩
            clear kbXr_0 kbXr_1 lbXr kbLr_0 kbLr_1 kbLr_2 lbLr kbx_0 kbx_1 kbx_2 lbx kby'_0 kby'_1 kby'_2 lby' kbLor_0 kbLor_1 lbLor kbHir_0 kbHir_1 lbHir
            replace mXr := mXr.below hb (Nat.le_refl _)
            replace mAr := mAr.below hb (Nat.le_refl _)
            replace mPr := mPr.below hb (Nat.le_refl _)
            replace iAr := iAr.below hb (Nat.le_refl _)
            replace iX := iX.below hb (Nat.le_refl _)
            replace iY := iY.below hb (Nat.le_refl _)
            replace bXr := bXr.below hb
            replace bLr := bLr.below hb
            replace bx := bx.below hb
            replace by' := by'.below hb
            replace bLor := bLor.below hb
            replace bHir := bHir.below hb
            replace hBr := hBr.trans (hb.mono hBr.size)
            clear hb
            go_wp2_with fail
            go_ret
            exact ⟨rfl, hBr⟩

theorem roomRange_walk (p : Option Addr) (c : Nat) (v : List (List Int)) (r : Int) (q : Option Addr) (d : Nat) (al : List Int) (s : Option Addr) (f : Nat) (ps : List Int) (z : Int) (jj : Int) (w : World) (hx : Mat w p c v) (hr64 : in64 r) (hy : Ints w q d al) (hz : Ints w s f ps) (hz64 : in64 z) (hj64 : in64 jj) : Calls Try.prog 7 #[.agg #[.slice p v.length c, .int .i64 r], .agg #[.slice q al.length d, .slice s ps.length f, .int .i64 z], .int .i64 jj] w fun e w' => e = .returned (.bool true) ∧ Below w.heap.size w w' := by
  by_cases hc : chkR v r = 0
  · by_cases hj : 0 ≤ jj ∧ jj < v.length
    · obtain ⟨j, rfl⟩ : ∃ j : Nat, jj = j := ⟨jj.toNat, by omega⟩
      exact roomRange_main p c v r q d al s f ps z w hx hr64 hy hz hz64 j hj64 hc (by omega)
    · exact roomRange_off p c v r q d al s f ps z jj w hx hr64 hy hz hz64 hj64 hc hj
  · exact roomRange_early p c v r q d al s f ps z jj w hx hr64 hy hz hz64 hj64 hc
end Go.Proofs.Ytojldecldemfaaa
