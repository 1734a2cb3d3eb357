/- Rent's functions at given flats and leases, for examples; no condition but what each says. -/
import Derived.Test.YtllcbcanohdepaaTopRentNamesm26
import Derived.Test.YtllcbcanohdepaaTopRentNamesm20
import Derived.Test.YtllcbcanohdepaaTopRentNamesm27
import Derived.Test.YtllcbcanohdepaaTopRentNamesm25
import Derived.Deep.RegionHeld3
import Derived.BigQuiet
/- Rent's functions at given flats and leases, for examples; no condition but what each says. -/
namespace Go.Proofs.Ytllcbcanohdepaa
set_option linter.unusedVariables false
set_option linter.unusedSimpArgs false
open Go.ChangeShapes Go.WideShapes Go.ChangeAt Go.RowKit Go.Deep

def ldC (v : List (List Int)) (a : List Int) (i k : Nat) : Int := bid v i (itm a i) - bid v k (itm a k) + bid (linkC v a) (itm a i) (itm a k)
theorem ldC_eq {v : List (List Int)} {a : List Int} (hb : IsBest v a) (h0 : 0 < v.length) (i k : Nat) : ldF v (bestA v) i k = ldC v a i k := by
  unfold ldF ldC
  rw [bestA_eq hb, linkC_eq hb h0]
def fairC (v : List (List Int)) (a : List Int) : List Int := (List.range v.length).map fun i => highTo ((List.range v.length).map fun k => ldC v a i k) v.length
theorem fairC_eq {v : List (List Int)} {a : List Int} (hb : IsBest v a) (h0 : 0 < v.length) : fairG v = fairC v a := by
  unfold fairG fairC
  refine List.map_congr_left fun i hi => ?_
  rw [ldL_row (List.mem_range.1 hi)]
  congr 1
  exact List.map_congr_left fun k _ => ldC_eq hb h0 i k
def calmFC (v : List (List Int)) (a : List Int) (k : Nat) : Nat → Int
  | 0 => 0
  | i + 1 => min (calmFC v a k i) (-ldC v a i k)
theorem calmFC_eq {v : List (List Int)} {a : List Int} (hb : IsBest v a) (h0 : 0 < v.length) (k : Nat) : ∀ i, calmF v k i = calmFC v a k i
  | 0 => rfl
  | i + 1 => by simp only [calmF, calmFC]; rw [calmFC_eq hb h0 k i, ldC_eq hb h0]
def calmC (v : List (List Int)) (a : List Int) : List Int := (List.range v.length).map fun k => calmFC v a k v.length
theorem calmC_eq {v : List (List Int)} {a : List Int} (hb : IsBest v a) (h0 : 0 < v.length) : calmG v = calmC v a := by
  unfold calmG calmC
  exact List.map_congr_left fun k _ => calmFC_eq hb h0 k _
def leaseC (v : List (List Int)) (r : Int) (a g : List Int) : List Int := (List.range v.length).map fun j => prI v r a g (owC a j)
theorem leaseC_eq {v : List (List Int)} {a : List Int} (hA : IsA a v.length) (r : Int) (g : List Int) : leaseL v r a g = leaseC v r a g := by
  unfold leaseL leaseC
  refine List.map_congr_left fun j hj => ?_
  obtain ⟨i, hi, rfl⟩ := (isA_per hA).surj (List.mem_range.1 hj)
  rw [inv_itm hA hi, owC_of hA hi]
theorem lea_e {v : List (List Int)} {a g ps : List Int} {r z : Int} (hb : IsBest v a) (hc : chkR v r = 0) (h1 : lowL v.length (leaseC v r a g) = ps) (h2 : lowN v.length (leaseC v r a g) = z) : bestI v r = a ∧ leaY v r g = ps ∧ leaZ v r g = z := by
  unfold bestI leaY leaZ
  rw [if_pos hc, if_pos hc, if_pos hc, bestA_eq hb, leaseC_eq hb.1, h1, h2]
  exact ⟨rfl, rfl, rfl⟩
theorem fair_e {v : List (List Int)} {a g ps : List Int} {r z : Int} (hb : IsBest v a) (h0 : 0 < v.length) (hc : chkR v r = 0) (hg : fairC v a = g) (h1 : lowL v.length (leaseC v r a g) = ps) (h2 : lowN v.length (leaseC v r a g) = z) : bestI v r = a ∧ leaY v r (fairG v) = ps ∧ leaZ v r (fairG v) = z := by
  rw [fairC_eq hb h0, hg]; exact lea_e hb hc h1 h2
theorem calm_e {v : List (List Int)} {a g ps : List Int} {r z : Int} (hb : IsBest v a) (h0 : 0 < v.length) (hc : chkR v r = 0) (hg : calmC v a = g) (h1 : lowL v.length (leaseC v r a g) = ps) (h2 : lowN v.length (leaseC v r a g) = z) : bestI v r = a ∧ leaY v r (calmG v) = ps ∧ leaZ v r (calmG v) = z := by
  rw [calmC_eq hb h0, hg]; exact lea_e hb hc h1 h2
theorem worst_e {v : List (List Int)} {al ps : List Int} {r : Int} {z : Nat} {x y p q : Int} (h : vldR v r al ps z = 0) (h1 : rN (lowTo (gainL v al ps z) v.length) z = x) (h2 : rD (lowTo (gainL v al ps z) v.length) z = y) (h3 : rN (highTo (gainL v al ps z) v.length) z = p) (h4 : rD (highTo (gainL v al ps z) v.length) z = q) :
    wLo v r al ps z = .agg #[.int .i64 x, .int .i64 y] ∧ wHi v r al ps z = .agg #[.int .i64 p, .int .i64 q] ∧ vldR v r al ps z = 0 := by
  unfold wLo wHi
  rw [if_pos h, if_pos h]
  unfold ratV
  simp only [Int.toNat_natCast]
  rw [h1, h2, h3, h4]
  exact ⟨rfl, rfl, h⟩
theorem worst_off {v : List (List Int)} {al ps : List Int} {r z : Int} {e : Int} (h : vldR v r al ps z = e) (he : e ≠ 0) :
    wLo v r al ps z = .agg #[.int .i64 0, .int .i64 0] ∧ wHi v r al ps z = .agg #[.int .i64 0, .int .i64 0] ∧ vldR v r al ps z = e := by
  have : vldR v r al ps z ≠ 0 := by rw [h]; exact he
  unfold wLo wHi
  rw [if_neg this, if_neg this]
  exact ⟨rfl, rfl, h⟩
theorem stake_e {v : List (List Int)} {a : List Int} {r : Int} {k : Nat} (hb : IsBest v a) (h0 : 0 < v.length) (hc : chkR v r = 0) (hk : k < v.length) {x y p q : Int}
    (h1 : rN (bid v k (itm a k) * v.length - (r - sumTo (fun i => bid (linkC v a) (itm a k) i) v.length)) v.length = x) (h2 : rD (bid v k (itm a k) * v.length - (r - sumTo (fun i => bid (linkC v a) (itm a k) i) v.length)) v.length = y)
    (h3 : rN (bid v k (itm a k) * v.length - (r + sumTo (fun i => bid (linkC v a) i (itm a k)) v.length)) v.length = p) (h4 : rD (bid v k (itm a k) * v.length - (r + sumTo (fun i => bid (linkC v a) i (itm a k)) v.length)) v.length = q) :
    skLo v r k = .agg #[.int .i64 x, .int .i64 y] ∧ skHi v r k = .agg #[.int .i64 p, .int .i64 q] ∧ skE v r k = 0 := by
  obtain ⟨e1, e2, e3⟩ := sk_in (v := v) (r := r) hc hk
  rw [e1, e2, e3]
  unfold ratV stLo stHi lowI highI
  rw [bestA_eq hb, linkC_eq hb h0, h1, h2, h3, h4]
  exact ⟨rfl, rfl, rfl⟩
theorem rentFair_e {p : Option Addr} {c n na np : Nat} {v : List (List Int)} {r z e : Int} {a ps : List Int} {w : World} (h : bestI v r = a ∧ leaY v r (fairG v) = ps ∧ leaZ v r (fairG v) = z) (he : chkR v r = e) (hx : Mat w p c v) (hv : v.length = n := by rfl) (h1 : a.length = na := by rfl) (h2 : ps.length = np := by rfl) :
    Calls Try.prog 8 #[.agg #[.slice p n c, .int .i64 r]] w fun e' w' => ∃ q d s f, e' = .returned (.tuple #[.agg #[.slice q na d, .slice s np f, .int .i64 z], .int .i64 e]) ∧ Ints w' q d a ∧ Ints w' s f ps ∧ Below w.heap.size w w' := by
  obtain ⟨rfl, rfl, rfl⟩ := h
  subst hv h1 h2 he
  exact rentFair_any p c v r w hx
theorem rentCalm_e {p : Option Addr} {c n na np : Nat} {v : List (List Int)} {r z e : Int} {a ps : List Int} {w : World} (h : bestI v r = a ∧ leaY v r (calmG v) = ps ∧ leaZ v r (calmG v) = z) (he : chkR v r = e) (hx : Mat w p c v) (hv : v.length = n := by rfl) (h1 : a.length = na := by rfl) (h2 : ps.length = np := by rfl) :
    Calls Try.prog 9 #[.agg #[.slice p n c, .int .i64 r]] w fun e' w' => ∃ q d s f, e' = .returned (.tuple #[.agg #[.slice q na d, .slice s np f, .int .i64 z], .int .i64 e]) ∧ Ints w' q d a ∧ Ints w' s f ps ∧ Below w.heap.size w w' := by
  obtain ⟨rfl, rfl, rfl⟩ := h
  subst hv h1 h2 he
  exact rentCalm_any p c v r w hx
theorem rentWorst_e {p q s : Option Addr} {c d f n m k : Nat} {v : List (List Int)} {r z e : Int} {al ps : List Int} {x y x' y' : Int} {w : World} (h : wLo v r al ps z = .agg #[.int .i64 x, .int .i64 y] ∧ wHi v r al ps z = .agg #[.int .i64 x', .int .i64 y'] ∧ vldR v r al ps z = e) (hx : Mat w p c v) (hy : Ints w q d al) (hz : Ints w s f ps) (hv : v.length = n := by rfl) (h1 : al.length = m := by rfl) (h2 : ps.length = k := by rfl) (hl : al.length ≤ 1000000 := by decide) :
    Calls Try.prog 10 #[.agg #[.slice p n c, .int .i64 r], .agg #[.slice q m d, .slice s k f, .int .i64 z]] w fun e' w' => e' = .returned (.tuple #[.agg #[.int .i64 x, .int .i64 y], .agg #[.int .i64 x', .int .i64 y'], .int .i64 e]) ∧ Below w.heap.size w w' := by
  subst hv h1 h2
  refine (rentWorst_any p q s c d f v r al ps z w hx hy hz hl).mono ?_
  rintro e w' ⟨h1, h2⟩
  rw [h.1, h.2.1, h.2.2] at h1
  exact ⟨h1, h2⟩
theorem rentStake_e {p : Option Addr} {c n : Nat} {v : List (List Int)} {r g e : Int} {x y p' q' : Int} {w : World} (h : skLo v r g = .agg #[.int .i64 x, .int .i64 y] ∧ skHi v r g = .agg #[.int .i64 p', .int .i64 q'] ∧ skE v r g = e) (hx : Mat w p c v) (hv : v.length = n := by rfl) (hg : in64B g = true := by decide) :
    Calls Try.prog 12 #[.agg #[.slice p n c, .int .i64 r], .int .i64 g] w fun e' w' => e' = .returned (.tuple #[.agg #[.int .i64 x, .int .i64 y], .agg #[.int .i64 p', .int .i64 q'], .int .i64 e]) ∧ Below w.heap.size w w' := by
  subst hv
  have hg2 : in64 g := by simp [in64B] at hg; exact hg
  refine (rentStake_any p c v r g w hx hg2).mono ?_
  rintro e w' ⟨h1, h2⟩
  rw [h.1, h.2.1, h.2.2] at h1
  exact ⟨h1, h2⟩
set_option maxHeartbeats 800000 in
theorem given15_any (w : World) : Calls Try.prog 11 #[] w fun e w' => ∃ p c, e = .returned (.agg #[.slice p 2 c, .int .i64 5]) ∧ Mat w' p c [[5, 3], [4, 1]] ∧ Below w.heap.size w w' := by
  go_enter Try.func11, Try.ntmps11
  have hS := (((((St.start w).bump (.cells #[.slice (some ⟨w.heap.size + 1 + 1 + 1, 0, none⟩) 2 2, .int .i64 5] 24)).lit [5, 3] 2).lit [4, 1] 2).litM (ks := [1, 0]) (.cons rfl (.cons rfl .nil)) 2)
  go_wp2
  exact bodyPost_ret (v := .agg #[.slice (some ⟨w.heap.size + 1 + 1 + 1, 0, none⟩) 2 2, .int .i64 5]) (by simp [results, Try.results11, go_sem]) rfl ⟨_, _, rfl, hS.matAt 0 rfl, hS.bel⟩
set_option maxHeartbeats 800000 in
theorem level15_any (w : World) : Calls Try.prog 30 #[] w fun e w' => ∃ p c, e = .returned (.agg #[.slice p 2 c, .int .i64 9]) ∧ Mat w' p c [[8, 4], [6, 6]] ∧ Below w.heap.size w w' := by
  go_enter Try.func30, Try.ntmps30
  have hS := (((((St.start w).bump (.cells #[.slice (some ⟨w.heap.size + 1 + 1 + 1, 0, none⟩) 2 2, .int .i64 9] 24)).lit [8, 4] 2).lit [6, 6] 2).litM (ks := [1, 0]) (.cons rfl (.cons rfl .nil)) 2)
  go_wp2
  exact bodyPost_ret (v := .agg #[.slice (some ⟨w.heap.size + 1 + 1 + 1, 0, none⟩) 2 2, .int .i64 9]) (by simp [results, Try.results30, go_sem]) rfl ⟨_, _, rfl, hS.matAt 0 rfl, hS.bel⟩
def fit15 (v : List (List Int)) (r : Int) : Bool := decide (chkR v r = 0)
theorem six15 {v : List (List Int)} {r : Int} (h : chkR v r = 0) : v.length ≤ 6 := (chkR_zero.1 h).1.2.1
set_option maxHeartbeats 1600000 in
theorem fit15_any (p : Option Addr) (c : Nat) (v : List (List Int)) (r : Int) (w : World) (hx : Mat w p c v) :
    Calls Try.prog 15 #[.agg #[.slice p v.length c, .int .i64 r]] w fun e w' => e = .returned (.bool (fit15 v r)) ∧ Below w.heap.size w w' := by
  obtain ⟨W0, hW0⟩ : ∃ W, w.alloc (.cells #[.slice p v.length c, .int .i64 r] 24) = W := ⟨_, rfl⟩
  have hB := below_alloc hW0
  have bX : BoxV W0 w.heap.size [.slice p v.length c, .int .i64 r] := BoxV.new rfl hW0
  have mX := hx.below hB (Nat.le_refl _)
  have hl := hx.length_le
  have HW0 := Lib.hid hW0
  have k0 := bX.cell 0 _ rfl
  have k1 := bX.cell 1 _ rfl
  have hC := refCheckR_any p c v r W0 mX
  clear hW0 hx
  by_cases h6 : v.length ≤ 6
  · have hd : decide ((v.length : Int) ≤ 6) = true := by rw [decide_eq_true_iff]; omega
    obtain ⟨E, eE⟩ : ∃ x, chkR v r = x := ⟨_, rfl⟩
    have hR : Hid (fit15 v r = (E == 0)) := by unfold Hid fit15; rw [eE, Bool.eq_iff_iff, decide_eq_true_iff, beq_iff_eq]
    rw [eE] at hC
    have HC := Lib.hid hC
    clear hC eE h6
    go_enter Try.func15, Try.ntmps15
    go_wp2_with fail
    rw [HW0.out]
    refine HC.out.mono ?_
    rintro e w1 ⟨rfl, hb⟩
    go_wp2_with fail
    go_ret
    exact ⟨ret_bool hR.out.symm, hB.trans (hb.mono hB.size)⟩
  · have hd : decide ((v.length : Int) ≤ 6) = false := by rw [decide_eq_false_iff_not]; omega
    have hR : Hid (fit15 v r = false) := by unfold Hid fit15; rw [decide_eq_false_iff_not]; exact fun h => h6 (six15 h)
    clear hC h6
    go_enter Try.func15, Try.ntmps15
    go_wp2_with fail
    rw [HW0.out]
    go_ret
    exact ⟨ret_bool hR.out.symm, hB⟩
/-- The chapter's flats. -/
def GV15 : List (List Int) := [[5, 3], [4, 1]]
theorem gv15_best : IsBest GV15 [1, 0] := isBest_of_chk (by decide +kernel)
theorem gv15_chk : chkR GV15 5 = 0 := by decide +kernel
theorem gv15_fair : bestI GV15 5 = [1, 0] ∧ leaY GV15 5 (fairG GV15) = [7, 3] ∧ leaZ GV15 5 (fairG GV15) = 2 := fair_e gv15_best (by decide) gv15_chk (by rfl) (by decide +kernel) (by decide +kernel)
theorem gv15_stake : skLo GV15 5 (0 : Nat) = .agg #[.int .i64 3, .int .i64 2] ∧ skHi GV15 5 (0 : Nat) = .agg #[.int .i64 2, .int .i64 1] ∧ skE GV15 5 (0 : Nat) = 0 :=
  stake_e gv15_best (by decide) gv15_chk (by decide) (by decide +kernel) (by decide +kernel) (by decide +kernel) (by decide +kernel)
def LV15 : List (List Int) := [[8, 4], [6, 6]]
theorem lv15_best : IsBest LV15 [0, 1] := isBest_of_chk (by decide +kernel)
theorem lv15_chk : chkR LV15 9 = 0 := by decide +kernel
theorem lv15_fair : bestI LV15 9 = [0, 1] ∧ leaY LV15 9 (fairG LV15) = [11, 7] ∧ leaZ LV15 9 (fairG LV15) = 2 := fair_e lv15_best (by decide) lv15_chk (by rfl) (by decide +kernel) (by decide +kernel)
theorem lv15_calm : bestI LV15 9 = [0, 1] ∧ leaY LV15 9 (calmG LV15) = [11, 7] ∧ leaZ LV15 9 (calmG LV15) = 2 := calm_e lv15_best (by decide) lv15_chk (by rfl) (by decide +kernel) (by decide +kernel)
theorem lv15_worst : wLo LV15 9 [0, 1] [11, 7] (2 : Nat) = .agg #[.int .i64 5, .int .i64 2] ∧ wHi LV15 9 [0, 1] [11, 7] (2 : Nat) = .agg #[.int .i64 5, .int .i64 2] ∧ vldR LV15 9 [0, 1] [11, 7] (2 : Nat) = 0 :=
  worst_e (by decide +kernel) (by decide +kernel) (by decide +kernel) (by decide +kernel) (by decide +kernel)
end Go.Proofs.Ytllcbcanohdepaa

/- ManyJ where one operation's value is known by a property alone, till another operation has used it; no condition. -/
namespace Go.Proofs.Ytllcbcanohdepaa
set_option linter.unusedVariables false
set_option linter.unusedSimpArgs false
open Go.ChangeShapes Go.WideShapes Go.ChangeAt Go.RowKit Go.Deep

theorem upd_comm {us : Nat → Value} {i k : Nat} {u v : Value} (h : i ≠ k) : upd (upd us i u) k v = upd (upd us k v) i u := by
  funext x
  by_cases e : x = i
  · subst e; rw [upd_ne h, upd_same, upd_same]
  · rw [upd_ne (us := upd us k v) e]
    by_cases e2 : x = k
    · subst e2; rw [upd_same, upd_same]
    · rw [upd_ne e2, upd_ne e2, upd_ne e]
theorem upd_again {us : Nat → Value} {i : Nat} {u v : Value} : upd (upd us i u) i v = upd us i v := by
  funext x
  by_cases e : x = i
  · subst e; rw [upd_same, upd_same]
  · rw [upd_ne e, upd_ne e, upd_ne e]
/-- ei: the operation whose value has the property E till ci is done; C: the operations behind ci. -/
structure ManyE (B : World) (L : List (Nat × Nat)) (val X Y : Nat → Value) (ei ci : Nat) (C : List Nat) (E : Value → World → Prop) (us : Nat → Value) (D : Nat → Prop) (W : World) : Prop where
  m : ManyJ B L val X Y (upd us ei (val ei)) D W
  ext : D ei → ¬ D ci → E (us ei) W
  ch : ∀ k ∈ C, D k → D ci
theorem boxOfTwo {w : World} {S : Nat} {x y : Value} (hS : S < w.heap.size) (h : Two w S x y) : BoxV w S [x, y] := ⟨hS, fun k v hk => by
  match k, hk with
  | 0, hk => simp at hk; subst hk; exact h.c0
  | 1, hk => simp at hk; subst hk; exact h.c1⟩
/-- A flat that a call handed back. -/
def ExtM (n : Nat) (v : List (List Int)) (r : Int) (u : Value) (W : World) : Prop := ∃ p c, u = .agg #[.slice p n c, .int .i64 r] ∧ Mat W p c v
theorem ExtM.step {n : Nat} {v : List (List Int)} {r : Int} {u : Value} {W W' : World} (h : ExtM n v r u W) (hb : Below W.heap.size W W') : ExtM n v r u W' := by
  obtain ⟨p, c, h1, h2⟩ := h
  exact ⟨p, c, h1, h2.below hb (Nat.le_refl _)⟩
section
variable {B : World} {L : List (Nat × Nat)} {val X Y : Nat → Value} {ei ci : Nat} {C : List Nat} {E : Value → World → Prop} {us : Nat → Value} {D : Nat → Prop} {W W' : World}
theorem ManyE.start (us : Nat → Value) : ManyE B L val X Y ei ci C E us (fun _ => False) B.drew :=
  ⟨ManyJ.start _, fun h => h.elim, fun _ _ h => h⟩
theorem ManyE.bel (h : ManyE B L val X Y ei ci C E us D W) : Below B.heap.size B W := h.m.bel
theorem ManyE.value (h : ManyE B L val X Y ei ci C E us D W) (k : Nat) (hk : k ≠ ei ∧ ∀ t ∈ L, k ≠ t.1 ∧ k ≠ t.2) (hd : D k) : us k = val k := by
  have := h.m.val k hk.2 hd
  rw [upd_ne hk.1] at this; exact this
/-- A value or a call ahead of ci. -/
theorem ManyE.pure (h : ManyE B L val X Y ei ci C E us D W) {i : Nat} (hi : i ≠ ei ∧ i ≠ ci ∧ i ∉ C) (h1 : ∀ t ∈ L, i ≠ t.1 ∧ i ≠ t.2) (hE : ∀ u, E u W → E u W') (hb : Below W.heap.size W W') : ManyE B L val X Y ei ci C E (upd us i (val i)) (fun k => k = i ∨ D k) W' := by
  refine ⟨?_, fun hd hn => ?_, fun k hk hd => .inr (h.ch k hk (or_ne hd fun e => hi.2.2 (e ▸ hk)))⟩
  · rw [upd_comm hi.1]; exact h.m.pure h1 hb
  · rw [upd_ne (Ne.symm hi.1)]
    exact hE _ (h.ext (or_ne hd (Ne.symm hi.1)) fun hc => hn (.inr hc))
/-- The operation ei. -/
theorem ManyE.first (h : ManyE B L val X Y ei ci C E us D W) (hne : ei ≠ ci) (hC : ei ∉ C) (h1 : ∀ t ∈ L, ei ≠ t.1 ∧ ei ≠ t.2) (u : Value) (hE : E u W') (hb : Below W.heap.size W W') : ManyE B L val X Y ei ci C E (upd us ei u) (fun k => k = ei ∨ D k) W' := by
  refine ⟨?_, fun hd hn => ?_, fun k hk hd => .inr (h.ch k hk (or_ne hd fun e => hC (e ▸ hk)))⟩
  · rw [upd_again]
    have := h.m.pure (i := ei) h1 hb
    rw [upd_again] at this; exact this
  · rw [upd_same]; exact hE
/-- The operation ci. -/
theorem ManyE.use (h : ManyE B L val X Y ei ci C E us D W) (hne : ei ≠ ci) (h1 : ∀ t ∈ L, ci ≠ t.1 ∧ ci ≠ t.2) (hb : Below W.heap.size W W') : ManyE B L val X Y ei ci C E (upd us ci (val ci)) (fun k => k = ci ∨ D k) W' := by
  refine ⟨?_, fun hd hn => (hn (.inl rfl)).elim, fun k hk hd => .inl rfl⟩
  rw [upd_comm (Ne.symm hne)]; exact h.m.pure h1 hb
/-- A value or a call behind ci. -/
theorem ManyE.later (h : ManyE B L val X Y ei ci C E us D W) {i : Nat} (hi : i ≠ ei) (hc : D ci) (h1 : ∀ t ∈ L, i ≠ t.1 ∧ i ≠ t.2) (hb : Below W.heap.size W W') : ManyE B L val X Y ei ci C E (upd us i (val i)) (fun k => k = i ∨ D k) W' := by
  refine ⟨?_, fun hd hn => (hn (.inr hc)).elim, fun k hk hd => .inr hc⟩
  rw [upd_comm hi]; exact h.m.pure h1 hb
theorem ManyE.alloc (h : ManyE B L val X Y ei ci C E us D W) (hL : apartB L = true) {ai si : Nat} (ht0 : (ai, si) ∈ L) (hi : ai ≠ ei ∧ ai ≠ ci ∧ ai ∉ C) (hD : ¬ D ai) (x y : Value) (T : TypeId) (hE : ∀ u, E u W → E u (W.alloc (.cells #[x, y] T))) : ManyE B L val X Y ei ci C E (upd us ai (.pointer (some ⟨W.heap.size, 0, none⟩))) (fun k => k = ai ∨ D k) (W.alloc (.cells #[x, y] T)) := by
  refine ⟨?_, fun hd hn => ?_, fun k hk hd => .inr (h.ch k hk (or_ne hd fun e => hi.2.2 (e ▸ hk)))⟩
  · rw [upd_comm hi.1]; exact h.m.alloc hL ht0 hD x y T
  · rw [upd_ne (Ne.symm hi.1)]
    exact hE _ (h.ext (or_ne hd (Ne.symm hi.1)) fun hc => hn (.inr hc))
theorem ManyE.blk (h : ManyE B L val X Y ei ci C E us D W) {ai si : Nat} (ht : (ai, si) ∈ L) (hi : ai ≠ ei) (hd : D ai) : ∃ (g : Nat) (x y : Value), us ai = .pointer (some ⟨g, 0, none⟩) ∧ B.heap.size ≤ g ∧ g < W.heap.size ∧ Two W g x y ∧ (D si → x = X ai ∧ y = Y ai) := by
  have := h.m.blk _ ht hd
  simp only at this
  rw [upd_ne hi] at this; exact this
theorem ManyE.store (h : ManyE B L val X Y ei ci C E us D W) (hL : apartB L = true) {ai si : Nat} (ht0 : (ai, si) ∈ L) (hi : ai ≠ ei ∧ si ≠ ei) (hc : D ci) (hD : D ai) {g : Nat} (hg : us ai = .pointer (some ⟨g, 0, none⟩)) (u : Value) : ManyE B L val X Y ei ci C E (upd us si u) (fun k => k = si ∨ D k) ((W.setCell ⟨g, 0, none⟩ (X ai)).setCell ⟨g, 1, none⟩ (Y ai)) := by
  refine ⟨?_, fun hd hn => (hn (.inr hc)).elim, fun k hk hd => .inr hc⟩
  rw [upd_comm hi.2]; exact h.m.store hL ht0 hD (by rw [upd_ne hi.1]; exact hg) u
theorem ManyE.get (h : ManyE B L val X Y ei ci C E us D W) {ai si : Nat} (ht : (ai, si) ∈ L) (hi : ai ≠ ei) (h1 : D ai) (h2 : D si) : ∃ g : Nat, us ai = .pointer (some ⟨g, 0, none⟩) ∧ B.heap.size ≤ g ∧ g < W.heap.size ∧ Two W g (X ai) (Y ai) := by
  have := h.m.get ht h1 h2
  rw [upd_ne hi] at this; exact this
end
end Go.Proofs.Ytllcbcanohdepaa

/- The walk of alive (rent): the chapter's examples hold; no condition.  (Printed by wip/genalive15.py.) -/
namespace Go.Proofs.Ytllcbcanohdepaa
set_option linter.unusedVariables false
set_option linter.unusedSimpArgs false
open Go.ChangeShapes Go.WideShapes Go.ChangeAt Go.RowKit Go.Deep

theorem ra12 {i : Nat} (h : i < 12) : i = 0 ∨ i = 1 ∨ i = 2 ∨ i = 3 ∨ i = 4 ∨ i = 5 ∨ i = 6 ∨ i = 7 ∨ i = 8 ∨ i = 9 ∨ i = 10 ∨ i = 11 := by omega
set_option maxHeartbeats 8000000 in
set_option maxRecDepth 100000 in
theorem alive15_any (w : World) : Calls Try.prog 13 #[] w fun e w' => e = .returned (.bool true) ∧ Below w.heap.size w w' := by
  go_enter Try.func13, Try.ntmps13
  have hS := St.start w
  go_wp2_with fail
  refine (given15_any _).mono ?_
  rintro e w1 ⟨p1, c1, rfl, hM, hb⟩
  replace hS := hS.step hb
  replace hS := hS.addM rfl hM
  clear hb hM
  go_wp2_with fail
  refine (rentFair_e gv15_fair gv15_chk (hS.matAt 0 rfl)).mono ?_
  rintro e w2 ⟨pa, ca, pp, cp, rfl, hA, hP, hb⟩
  replace hS := hS.step hb
  replace hS := hS.addI rfl hA
  replace hS := hS.addI rfl hP
  clear hb hA hP
  replace hS := hS.box [.slice pa 2 ca, .slice pp 2 cp, .int .i64 2] 27
  obtain ⟨W1, hW1⟩ : ∃ W, w2.alloc (.cells #[.slice pa 2 ca, .slice pp 2 cp, .int .i64 2] 27) = W := ⟨_, rfl⟩
  have hS1 : St w W1 W1.heap.size _ := hW1 ▸ (hS.step (below_drewN _ _ 0))
  clear hS
  have HW1 := Lib.hid hW1
  clear hW1
  have iA := hS1.intsAt 2 rfl
  have iP := hS1.intsAt 1 rfl
  have kl_0 := hS1.boxAt 0 0 rfl rfl
  have kl_1 := hS1.boxAt 0 1 rfl rfl
  have kl_2 := hS1.boxAt 0 2 rfl rfl
  have ll := hS1.boxLt 0 rfl
  have HG := Lib.hid (fun W q d (h : Below W1.heap.size W1 W) (hm : Mat W q d [[5, 3], [4, 1]]) => roomGains_e (r := 5) (z := 2) (e := 0) (gs := [3, 1]) (by decide +kernel) (by decide +kernel) hm (iA.below h (Nat.le_refl _)) (iP.below h (Nat.le_refl _)))
  go_upto_region 2 with (fail)
  rw [HW1.out]
  obtain ⟨S, hSz⟩ : ∃ S, w2.heap.size = S := ⟨_, rfl⟩
  rw [hSz] at kl_0 kl_1 kl_2 ll
  have Hmk : Hid (∀ W, Below W1.heap.size W1 W → (W.cell? ⟨S, 0, none⟩ = some (.slice pa 2 ca) ∧ W.cell? ⟨S, 1, none⟩ = some (.slice pp 2 cp) ∧ W.cell? ⟨S, 2, none⟩ = some (.int .i64 2) ∧ Below W1.heap.size W1 W)) := fun W hG => ⟨(hG.cell (p := ⟨S, 0, none⟩) ll).trans kl_0, (hG.cell (p := ⟨S, 1, none⟩) ll).trans kl_1, (hG.cell (p := ⟨S, 2, none⟩) ll).trans kl_2, hG⟩
  go_region_held3 (fun W => W.cell? ⟨S, 0, none⟩ = some (.slice pa 2 ca) ∧ W.cell? ⟨S, 1, none⟩ = some (.slice pp 2 cp) ∧ W.cell? ⟨S, 2, none⟩ = some (.int .i64 2) ∧ Below W1.heap.size W1 W)
    (first | assumption | exact Hmk.out _ hGc | exact Hmk.out _ hGb | exact Hmk.out _ (below_drewN W1.heap.size W1 1) | exact Hmk.out _ (Below.refl _ _))
    (first
      | (go_at_call 11; refine (given15_any _).mono ?_; rintro e w3 ⟨pg, cg, rfl, hMg, hbg⟩; have hGb : Below W1.heap.size W1 w3 := Below.trans (by go_split_ands; assumption) (hbg.mono (Below.size (B := W1.heap.size) (w := W1) (by go_split_ands; assumption))))
      | (go_at_call 25; refine (HG.out _ _ _ hGb hMg).mono ?_; rintro e w4 ⟨pq, cq, rfl, hGs, hb4⟩; have hGc : Below W1.heap.size W1 w4 := hGb.trans (hb4.mono hGb.size)))
  have hS := hS1.step hGc
  replace hS := hS.addI rfl hGs
  clear hS1 hGc hGb hGs hMg hbg hb4 kl_0 kl_1 kl_2 ll iA iP HG Hmk
  go_wp2_with fail
  refine (given15_any _).mono ?_
  rintro e w5 ⟨p5, c5, rfl, hM, hb⟩
  replace hS := hS.step hb
  replace hS := hS.addM rfl hM
  clear hb hM
  go_wp2_with fail
  refine (rentStake_e gv15_stake (hS.matAt 0 rfl)).mono ?_
  rintro e w6 ⟨rfl, hb⟩
  replace hS := hS.step hb
  clear hb 
  replace hS := hS.box [.int .i64 3, .int .i64 2] 32
  replace hS := hS.box [.int .i64 2, .int .i64 1] 32
  go_wp2_with fail
  refine (level15_any _).mono ?_
  rintro e w7 ⟨p7, c7, rfl, hM, hb⟩
  replace hS := hS.step hb
  replace hS := hS.addM rfl hM
  clear hb hM
  go_wp2_with fail
  refine (rentFair_e lv15_fair lv15_chk (hS.matAt 0 rfl)).mono ?_
  rintro e w8 ⟨pb, cb, ps, cs, rfl, hA, hP, hb⟩
  replace hS := hS.step hb
  replace hS := hS.addI rfl hA
  replace hS := hS.addI rfl hP
  clear hb hA hP
  replace hS := hS.box [.slice pb 2 cb, .slice ps 2 cs, .int .i64 2] 27
  go_wp2_with fail
  refine (level15_any _).mono ?_
  rintro e w9 ⟨p9, c9, rfl, hM, hb⟩
  replace hS := hS.step hb
  replace hS := hS.addM rfl hM
  clear hb hM
  go_wp2_with fail
  refine (rentCalm_e lv15_calm lv15_chk (hS.matAt 0 rfl)).mono ?_
  rintro e wa ⟨pc, cc, pt, ct, rfl, hA, hP, hb⟩
  replace hS := hS.step hb
  replace hS := hS.addI rfl hA
  replace hS := hS.addI rfl hP
  clear hb hA hP
  replace hS := hS.box [.slice pc 2 cc, .slice pt 2 ct, .int .i64 2] 27
  obtain ⟨W2, hW2⟩ : ∃ W, wa.alloc (.cells #[.slice pc 2 cc, .slice pt 2 ct, .int .i64 2] 27) = W := ⟨_, rfl⟩
  have hS1 : St w W2 W2.heap.size _ := hW2 ▸ (hS.step (below_drewN _ _ 0))
  clear hS
  have HW2 := Lib.hid hW2
  clear hW2
  have HB := Lib.hid (hS1.intsAt 6 rfl)
  have HP := Lib.hid (hS1.intsAt 5 rfl)
  have km_0 := hS1.boxAt 4 0 rfl rfl
  have km_1 := hS1.boxAt 4 1 rfl rfl
  have km_2 := hS1.boxAt 4 2 rfl rfl
  have lm := hS1.boxLt 4 rfl
  go_upto_region 6 with (fail)
  rw [HW2.out]
  have Hmk : Hid (∀ W, Below W2.heap.size W2 W → (W.cell? ⟨w8.heap.size, 0, none⟩ = some (.slice pb 2 cb) ∧ W.cell? ⟨w8.heap.size, 1, none⟩ = some (.slice ps 2 cs) ∧ W.cell? ⟨w8.heap.size, 2, none⟩ = some (.int .i64 2))) := fun W hG => ⟨(hG.cell (p := ⟨w8.heap.size, 0, none⟩) lm).trans km_0, (hG.cell (p := ⟨w8.heap.size, 1, none⟩) lm).trans km_1, (hG.cell (p := ⟨w8.heap.size, 2, none⟩) lm).trans km_2⟩
  clear km_0 km_1 km_2 lm
  refine wp_region_inv (by kernel_rfl) (by decide +kernel) (by decide +kernel) _ _ (ManyE W2 [(7, 9), (8, 10)] (fun kk => match kk with | 1 => (.agg #[.slice pb 2 cb, .slice ps 2 cs, .int .i64 2]) | 2 => (.tuple #[(.agg #[.int .i64 5, .int .i64 2]), (.agg #[.int .i64 5, .int .i64 2]), .int .i64 0]) | 3 => (.tuple #[(.agg #[.int .i64 5, .int .i64 2]), (.agg #[.int .i64 5, .int .i64 2]), .int .i64 0]) | 4 => (.agg #[.int .i64 5, .int .i64 2]) | 5 => (.agg #[.int .i64 5, .int .i64 2]) | 6 => (.int .i64 0) | 11 => (.int .i64 0) | _ => undef) (fun kk => match kk with | 7 => (.int .i64 5) | 8 => (.int .i64 5) | _ => undef) (fun kk => match kk with | 7 => (.int .i64 2) | 8 => (.int .i64 2) | _ => undef) 0 2 [3, 4, 5, 6, 9, 10, 11] (ExtM 2 LV15 9)) ?_ ?_ ?_
  · exact fun us => ManyE.start us
  · intro us D W i o A hA hi hJ hnD hon K hK
    have hlt : i < 12 := (Array.getElem?_eq_some_iff.1 hi).1
    rcases ra12 hlt with rfl | rfl | rfl | rfl | rfl | rfl | rfl | rfl | rfl | rfl | rfl | rfl
    · have hi' := Option.some.inj hi
      subst hi'
      refine wp_enter (f := 30) (args := #[]) (w' := W) ?_ ((level15_any W).mono ?_)
      · skip
        clear hA hK hon hJ
        go_simp
      · rintro r' wC ⟨pz, cz, rfl, hMz, hbC⟩
        exact ⟨_, rfl, hK _ _ (hJ.first (by decide) (by decide) (by decide) _ ⟨pz, cz, rfl, hMz⟩ hbC)⟩
    · have hi' := Option.some.inj hi
      subst hi'
      refine wp_val (v := (.agg #[.slice pb 2 cb, .slice ps 2 cs, .int .i64 2])) (w' := W) ?_ (hK _ _ (hJ.pure (i := 1) (by decide) (by decide) (fun _ h => h) (Below.refl _ _)))
      · skip
        have e8 : A.tmps[8]?.getD undef = (.pointer (some ⟨w8.heap.size, 0, none⟩)) := by rw [hA]; kernel_rfl
        obtain ⟨cc0, cc1, cc2⟩ := Hmk.out W hJ.bel
        clear hA hK hon hJ
        go_simp
    · have hi' := Option.some.inj hi
      subst hi'
      obtain ⟨pz, cz, hz, hMz⟩ := hJ.ext (hon 0 (by decide +kernel)) hnD
      refine wp_enter (f := 10) (args := #[.agg #[.slice pz 2 cz, .int .i64 9], (.agg #[.slice pb 2 cb, .slice ps 2 cs, .int .i64 2])]) (w' := W) ?_ ((rentWorst_e lv15_worst hMz (HB.out.below hJ.bel (Nat.le_refl _)) (HP.out.below hJ.bel (Nat.le_refl _))).mono ?_)
      · skip
        have e45 : A.tmps[45]?.getD undef = (.agg #[.slice pz 2 cz, .int .i64 9]) := (by rw [hA]; kernel_rfl : A.tmps[45]?.getD undef = us 0).trans hz
        have e46 : A.tmps[46]?.getD undef = (.agg #[.slice pb 2 cb, .slice ps 2 cs, .int .i64 2]) := (by rw [hA]; kernel_rfl : A.tmps[46]?.getD undef = us 1).trans (hJ.value 1 (by decide) (hon 1 (by decide +kernel)))
        clear hA hK hon hJ
        go_simp
      · rintro r' wC ⟨rfl, hbC⟩
        exact ⟨_, rfl, hK _ _ (hJ.use (by decide) (by decide) hbC)⟩
    · have hi' := Option.some.inj hi
      subst hi'
      have hc : D 2 := (hon 2 (by decide +kernel))
      refine wp_val (v := (.tuple #[(.agg #[.int .i64 5, .int .i64 2]), (.agg #[.int .i64 5, .int .i64 2]), .int .i64 0])) (w' := W) ?_ (hK _ _ (hJ.later (i := 3) (by decide) hc (by decide) (Below.refl _ _)))
      · skip
        have e47 : A.tmps[47]?.getD undef = (.tuple #[(.agg #[.int .i64 5, .int .i64 2]), (.agg #[.int .i64 5, .int .i64 2]), .int .i64 0]) := (by rw [hA]; kernel_rfl : A.tmps[47]?.getD undef = us 2).trans (hJ.value 2 (by decide) (hon 2 (by decide +kernel)))
        clear hA hK hon hJ
        go_simp
    · have hi' := Option.some.inj hi
      subst hi'
      have hc : D 2 := (hJ.ch 3 (by decide) (hon 3 (by decide +kernel)))
      refine wp_val (v := (.agg #[.int .i64 5, .int .i64 2])) (w' := W) ?_ (hK _ _ (hJ.later (i := 4) (by decide) hc (by decide) (Below.refl _ _)))
      · skip
        have e44 : A.tmps[44]?.getD undef = (.tuple #[(.agg #[.int .i64 5, .int .i64 2]), (.agg #[.int .i64 5, .int .i64 2]), .int .i64 0]) := (by rw [hA]; kernel_rfl : A.tmps[44]?.getD undef = us 3).trans (hJ.value 3 (by decide) (hon 3 (by decide +kernel)))
        clear hA hK hon hJ
        go_simp
    · have hi' := Option.some.inj hi
      subst hi'
      have hc : D 2 := (hJ.ch 3 (by decide) (hon 3 (by decide +kernel)))
      refine wp_val (v := (.agg #[.int .i64 5, .int .i64 2])) (w' := W) ?_ (hK _ _ (hJ.later (i := 5) (by decide) hc (by decide) (Below.refl _ _)))
      · skip
        have e44 : A.tmps[44]?.getD undef = (.tuple #[(.agg #[.int .i64 5, .int .i64 2]), (.agg #[.int .i64 5, .int .i64 2]), .int .i64 0]) := (by rw [hA]; kernel_rfl : A.tmps[44]?.getD undef = us 3).trans (hJ.value 3 (by decide) (hon 3 (by decide +kernel)))
        clear hA hK hon hJ
        go_simp
    · have hi' := Option.some.inj hi
      subst hi'
      have hc : D 2 := (hJ.ch 3 (by decide) (hon 3 (by decide +kernel)))
      refine wp_val (v := (.int .i64 0)) (w' := W) ?_ (hK _ _ (hJ.later (i := 6) (by decide) hc (by decide) (Below.refl _ _)))
      · skip
        have e44 : A.tmps[44]?.getD undef = (.tuple #[(.agg #[.int .i64 5, .int .i64 2]), (.agg #[.int .i64 5, .int .i64 2]), .int .i64 0]) := (by rw [hA]; kernel_rfl : A.tmps[44]?.getD undef = us 3).trans (hJ.value 3 (by decide) (hon 3 (by decide +kernel)))
        clear hA hK hon hJ
        go_simp
    · have hi' := Option.some.inj hi
      subst hi'
      refine wp_val (v := .pointer (some ⟨W.heap.size, 0, none⟩)) (w' := W.alloc (.cells #[.int .i64 0, .int .i64 0] 32)) ?_ (hK _ _ (hJ.alloc (ai := 7) (si := 9) (by decide) (by decide) (by decide) hnD _ _ _ (fun _ h => h.step ((Below.refl _ _).alloc (Nat.le_refl _) _))))
      · skip
        clear hA hK hon hJ
        go_simp
    · have hi' := Option.some.inj hi
      subst hi'
      refine wp_val (v := .pointer (some ⟨W.heap.size, 0, none⟩)) (w' := W.alloc (.cells #[.int .i64 0, .int .i64 0] 32)) ?_ (hK _ _ (hJ.alloc (ai := 8) (si := 10) (by decide) (by decide) (by decide) hnD _ _ _ (fun _ h => h.step ((Below.refl _ _).alloc (Nat.le_refl _) _))))
      · skip
        clear hA hK hon hJ
        go_simp
    · have hi' := Option.some.inj hi
      subst hi'
      have hc : D 2 := (hJ.ch 4 (by decide) (hon 4 (by decide +kernel)))
      obtain ⟨g, x', y', hg, _, hlt, ht, _⟩ := hJ.blk (ai := 7) (si := 9) (by decide) (by decide) (hon 7 (by decide +kernel))
      refine wp_skip (w' := (W.setCell ⟨g, 0, none⟩ (.int .i64 5)).setCell ⟨g, 1, none⟩ (.int .i64 2)) ?_ (hK _ _ (hJ.store (ai := 7) (si := 9) (by decide) (by decide) (by decide) hc (hon 7 (by decide +kernel)) hg undef))
      · skip
        have e12 : A.tmps[12]?.getD undef = .pointer (some ⟨g, 0, none⟩) := (by rw [hA]; kernel_rfl : A.tmps[12]?.getD undef = us 7).trans hg
        have e48 : A.tmps[48]?.getD undef = (.agg #[.int .i64 5, .int .i64 2]) := (by rw [hA]; kernel_rfl : A.tmps[48]?.getD undef = us 4).trans (hJ.value 4 (by decide) (hon 4 (by decide +kernel)))
        have c0 := ht.c0
        have c1 := ht.c1
        have f0 := ht.f0
        have f1 := ht.f1
        clear ht
        clear hA hK hon hJ
        go_simp
    · have hi' := Option.some.inj hi
      subst hi'
      have hc : D 2 := (hJ.ch 5 (by decide) (hon 5 (by decide +kernel)))
      obtain ⟨g, x', y', hg, _, hlt, ht, _⟩ := hJ.blk (ai := 8) (si := 10) (by decide) (by decide) (hon 8 (by decide +kernel))
      refine wp_skip (w' := (W.setCell ⟨g, 0, none⟩ (.int .i64 5)).setCell ⟨g, 1, none⟩ (.int .i64 2)) ?_ (hK _ _ (hJ.store (ai := 8) (si := 10) (by decide) (by decide) (by decide) hc (hon 8 (by decide +kernel)) hg undef))
      · skip
        have e13 : A.tmps[13]?.getD undef = .pointer (some ⟨g, 0, none⟩) := (by rw [hA]; kernel_rfl : A.tmps[13]?.getD undef = us 8).trans hg
        have e49 : A.tmps[49]?.getD undef = (.agg #[.int .i64 5, .int .i64 2]) := (by rw [hA]; kernel_rfl : A.tmps[49]?.getD undef = us 5).trans (hJ.value 5 (by decide) (hon 5 (by decide +kernel)))
        have c0 := ht.c0
        have c1 := ht.c1
        have f0 := ht.f0
        have f1 := ht.f1
        clear ht
        clear hA hK hon hJ
        go_simp
    · have hi' := Option.some.inj hi
      subst hi'
      have hc : D 2 := (hJ.ch 6 (by decide) (hon 6 (by decide +kernel)))
      refine wp_val (v := (.int .i64 0)) (w' := W) ?_ (hK _ _ (hJ.later (i := 11) (by decide) hc (by decide) (Below.refl _ _)))
      · skip
        have e50 : A.tmps[50]?.getD undef = (.int .i64 0) := (by rw [hA]; kernel_rfl : A.tmps[50]?.getD undef = us 6).trans (hJ.value 6 (by decide) (hon 6 (by decide +kernel)))
        clear hA hK hon hJ
        go_simp
  · intro us D W6 hJ hall
    obtain ⟨g1, u12, g1l, g1h, t12⟩ := hJ.get (ai := 7) (si := 9) (by decide) (by decide) (hall 7 (by decide)) (hall 9 (by decide))
    obtain ⟨g2, u13, g2l, g2h, t13⟩ := hJ.get (ai := 8) (si := 10) (by decide) (by decide) (hall 8 (by decide)) (hall 10 (by decide))
    have u14 : us 11 = (.int .i64 0) := hJ.value 11 (by decide) (hall 11 (by decide))
    have hS := hS1.step hJ.bel
    replace hS := hS.add (.box g1 [.int .i64 5, .int .i64 2]) ⟨g1h, (boxOfTwo g1h t12).cell⟩
    replace hS := hS.add (.box g2 [.int .i64 5, .int .i64 2]) ⟨g2h, (boxOfTwo g2h t13).cell⟩
    clear hJ hall hS1 t12 t13 g1l g2l g1h g2h HB HP Hmk
    simp only [actL, slotL, putL, List.setIfInBounds_toArray, List.set_cons_zero, List.set_cons_succ, Nat.zero_add, Nat.reduceAdd, u12, u13, u14]
    clear u12 u13 u14
    replace hS := hS.box [.int .i64 5, .int .i64 2] 32
    have kl_0 := hS.boxAt 15 0 rfl rfl
    have kl_1 := hS.boxAt 15 1 rfl rfl
    have kl_2 := hS.boxAt 15 2 rfl rfl
    have ll := hS.boxLt 15 rfl
    rw [hSz] at kl_0 kl_1 kl_2 ll
    replace hS := hS.lit [1, 0] 2
    replace hS := hS.lit [7, 3] 2
    go_wp2_with fail
    refine (sameLease_true rfl rfl rfl rfl rfl rfl rfl (hS.intsAt 19 rfl) (hS.intsAt 18 rfl) (hS.intsAt 1 rfl) (hS.intsAt 0 rfl)).mono ?_
    rintro e wf ⟨rfl, hb⟩
    replace hS := hS.step hb
    clear hb 
    clear kl_0 kl_1 kl_2 ll
    replace hS := hS.lit [3, 1] 2
    go_wp2_with fail
    refine (sameI_true rfl rfl rfl (hS.intsAt 17 rfl) (hS.intsAt 0 rfl)).mono ?_
    rintro e wg ⟨rfl, hw⟩
    replace hS := hS.drew hw
    clear hw 
    have ksa_0 := hS.boxAt 15 0 rfl rfl
    have ksa_1 := hS.boxAt 15 1 rfl rfl
    have lsa := hS.boxLt 15 rfl
    have ksb_0 := hS.boxAt 14 0 rfl rfl
    have ksb_1 := hS.boxAt 14 1 rfl rfl
    have lsb := hS.boxLt 14 rfl
    have km_0 := hS.boxAt 10 0 rfl rfl
    have km_1 := hS.boxAt 10 1 rfl rfl
    have km_2 := hS.boxAt 10 2 rfl rfl
    have lm := hS.boxLt 10 rfl
    replace hS := hS.lit [0, 1] 2
    replace hS := hS.lit [11, 7] 2
    go_wp2_with fail
    refine (sameLease_true rfl rfl rfl rfl rfl rfl rfl (hS.intsAt 14 rfl) (hS.intsAt 13 rfl) (hS.intsAt 1 rfl) (hS.intsAt 0 rfl)).mono ?_
    rintro e wh ⟨rfl, hb⟩
    replace hS := hS.step hb
    clear hb 
    clear ksa_0 ksa_1 lsa ksb_0 ksb_1 lsb km_0 km_1 km_2 lm
    have kn_0 := hS.boxAt 8 0 rfl rfl
    have kn_1 := hS.boxAt 8 1 rfl rfl
    have kn_2 := hS.boxAt 8 2 rfl rfl
    have ln := hS.boxLt 8 rfl
    have km_0 := hS.boxAt 12 0 rfl rfl
    have km_1 := hS.boxAt 12 1 rfl rfl
    have km_2 := hS.boxAt 12 2 rfl rfl
    have lm := hS.boxLt 12 rfl
    go_wp2_with fail
    refine (sameLease_true rfl rfl rfl rfl rfl rfl rfl (hS.intsAt 10 rfl) (hS.intsAt 9 rfl) (hS.intsAt 14 rfl) (hS.intsAt 13 rfl)).mono ?_
    rintro e wi ⟨rfl, hb⟩
    replace hS := hS.step hb
    clear hb 
    clear kn_0 kn_1 kn_2 ln km_0 km_1 km_2 lm
    have klo_0 := hS.boxAt 7 0 rfl rfl
    have klo_1 := hS.boxAt 7 1 rfl rfl
    have llo := hS.boxLt 7 rfl
    have khi_0 := hS.boxAt 6 0 rfl rfl
    have khi_1 := hS.boxAt 6 1 rfl rfl
    have lhi := hS.boxLt 6 rfl
    have khalf_0 := hS.boxAt 5 0 rfl rfl
    have khalf_1 := hS.boxAt 5 1 rfl rfl
    have lhalf := hS.boxLt 5 rfl
    go_wp2_with fail
    go_ret
    exact ⟨rfl, hS.bel⟩
end Go.Proofs.Ytllcbcanohdepaa
