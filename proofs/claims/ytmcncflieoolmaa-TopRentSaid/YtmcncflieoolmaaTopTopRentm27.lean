/- ManyJ where one operation's value is known by a property alone, till another operation has used it; no condition. -/
import Derived.Test.YtmcncflieoolmaaTopTopRentm21
import Derived.Test.YtmcncflieoolmaaTopTopRentm23
import Derived.Test.YtmcncflieoolmaaTopTopRentm8
import Derived.Deep.RegionHeld3
import Derived.BigQuiet
/- ManyJ where one operation's value is known by a property alone, till another operation has used it; no condition. -/
namespace Go.Proofs.Ytmcncflieoolmaa
set_option linter.unusedVariables false
set_option linter.unusedSimpArgs false
open Go.ChangeShapes Go.WideShapes Go.ChangeAt Go.RowKit Go.Deep

theorem upd_comm {us : Nat → Value} {i k : Nat} {u v : Value} (h : i ≠ k) : upd (upd us i u) k v = upd (upd us k v) i u := by
  funext x
  by_cases e : x = i
  · subst e; rw [upd_ne h, upd_same, upd_same]
  · rw [upd_ne (us := upd us k v) e]
    by_cases e2 : x = k
    · subst e2; rw [upd_same, upd_same]
    · rw [upd_ne e2, upd_ne e2, upd_ne e]
theorem upd_again {us : Nat → Value} {i : Nat} {u v : Value} : upd (upd us i u) i v = upd us i v := by
  funext x
  by_cases e : x = i
  · subst e; rw [upd_same, upd_same]
  · rw [upd_ne e, upd_ne e, upd_ne e]
/-- ei: the operation whose value has the property E till ci is done; C: the operations behind ci. -/
structure ManyE (B : World) (L : List (Nat × Nat)) (val X Y : Nat → Value) (ei ci : Nat) (C : List Nat) (E : Value → World → Prop) (us : Nat → Value) (D : Nat → Prop) (W : World) : Prop where
  m : ManyJ B L val X Y (upd us ei (val ei)) D W
  ext : D ei → ¬ D ci → E (us ei) W
  ch : ∀ k ∈ C, D k → D ci
theorem boxOfTwo {w : World} {S : Nat} {x y : Value} (hS : S < w.heap.size) (h : Two w S x y) : BoxV w S [x, y] := ⟨hS, fun k v hk => by
  match k, hk with
  | 0, hk => simp at hk; subst hk; exact h.c0
  | 1, hk => simp at hk; subst hk; exact h.c1⟩
/-- A flat that a call handed back. -/
def ExtM (n : Nat) (v : List (List Int)) (r : Int) (u : Value) (W : World) : Prop := ∃ p c, u = .agg #[.slice p n c, .int .i64 r] ∧ Mat W p c v
theorem ExtM.step {n : Nat} {v : List (List Int)} {r : Int} {u : Value} {W W' : World} (h : ExtM n v r u W) (hb : Below W.heap.size W W') : ExtM n v r u W' := by
  obtain ⟨p, c, h1, h2⟩ := h
  exact ⟨p, c, h1, h2.below hb (Nat.le_refl _)⟩
section
variable {B : World} {L : List (Nat × Nat)} {val X Y : Nat → Value} {ei ci : Nat} {C : List Nat} {E : Value → World → Prop} {us : Nat → Value} {D : Nat → Prop} {W W' : World}
theorem ManyE.start (us : Nat → Value) : ManyE B L val X Y ei ci C E us (fun _ => False) B.drew :=
  ⟨ManyJ.start _, fun h => h.elim, fun _ _ h => h⟩
theorem ManyE.bel (h : ManyE B L val X Y ei ci C E us D W) : Below B.heap.size B W := h.m.bel
theorem ManyE.value (h : ManyE B L val X Y ei ci C E us D W) (k : Nat) (hk : k ≠ ei ∧ ∀ t ∈ L, k ≠ t.1 ∧ k ≠ t.2) (hd : D k) : us k = val k := by
  have := h.m.val k hk.2 hd
  rw [upd_ne hk.1] at this; exact this
/-- A value or a call ahead of ci. -/
theorem ManyE.pure (h : ManyE B L val X Y ei ci C E us D W) {i : Nat} (hi : i ≠ ei ∧ i ≠ ci ∧ i ∉ C) (h1 : ∀ t ∈ L, i ≠ t.1 ∧ i ≠ t.2) (hE : ∀ u, E u W → E u W') (hb : Below W.heap.size W W') : ManyE B L val X Y ei ci C E (upd us i (val i)) (fun k => k = i ∨ D k) W' := by
  refine ⟨?_, fun hd hn => ?_, fun k hk hd => .inr (h.ch k hk (or_ne hd fun e => hi.2.2 (e ▸ hk)))⟩
  · rw [upd_comm hi.1]; exact h.m.pure h1 hb
  · rw [upd_ne (Ne.symm hi.1)]
    exact hE _ (h.ext (or_ne hd (Ne.symm hi.1)) fun hc => hn (.inr hc))
/-- The operation ei. -/
theorem ManyE.first (h : ManyE B L val X Y ei ci C E us D W) (hne : ei ≠ ci) (hC : ei ∉ C) (h1 : ∀ t ∈ L, ei ≠ t.1 ∧ ei ≠ t.2) (u : Value) (hE : E u W') (hb : Below W.heap.size W W') : ManyE B L val X Y ei ci C E (upd us ei u) (fun k => k = ei ∨ D k) W' := by
  refine ⟨?_, fun hd hn => ?_, fun k hk hd => .inr (h.ch k hk (or_ne hd fun e => hC (e ▸ hk)))⟩
  · rw [upd_again]
    have := h.m.pure (i := ei) h1 hb
    rw [upd_again] at this; exact this
  · rw [upd_same]; exact hE
/-- The operation ci. -/
theorem ManyE.use (h : ManyE B L val X Y ei ci C E us D W) (hne : ei ≠ ci) (h1 : ∀ t ∈ L, ci ≠ t.1 ∧ ci ≠ t.2) (hb : Below W.heap.size W W') : ManyE B L val X Y ei ci C E (upd us ci (val ci)) (fun k => k = ci ∨ D k) W' := by
  refine ⟨?_, fun hd hn => (hn (.inl rfl)).elim, fun k hk hd => .inl rfl⟩
  rw [upd_comm (Ne.symm hne)]; exact h.m.pure h1 hb
/-- A value or a call behind ci. -/
theorem ManyE.later (h : ManyE B L val X Y ei ci C E us D W) {i : Nat} (hi : i ≠ ei) (hc : D ci) (h1 : ∀ t ∈ L, i ≠ t.1 ∧ i ≠ t.2) (hb : Below W.heap.size W W') : ManyE B L val X Y ei ci C E (upd us i (val i)) (fun k => k = i ∨ D k) W' := by
  refine ⟨?_, fun hd hn => (hn (.inr hc)).elim, fun k hk hd => .inr hc⟩
  rw [upd_comm hi]; exact h.m.pure h1 hb
theorem ManyE.alloc (h : ManyE B L val X Y ei ci C E us D W) (hL : apartB L = true) {ai si : Nat} (ht0 : (ai, si) ∈ L) (hi : ai ≠ ei ∧ ai ≠ ci ∧ ai ∉ C) (hD : ¬ D ai) (x y : Value) (T : TypeId) (hE : ∀ u, E u W → E u (W.alloc (.cells #[x, y] T))) : ManyE B L val X Y ei ci C E (upd us ai (.pointer (some ⟨W.heap.size, 0, none⟩))) (fun k => k = ai ∨ D k) (W.alloc (.cells #[x, y] T)) := by
  refine ⟨?_, fun hd hn => ?_, fun k hk hd => .inr (h.ch k hk (or_ne hd fun e => hi.2.2 (e ▸ hk)))⟩
  · rw [upd_comm hi.1]; exact h.m.alloc hL ht0 hD x y T
  · rw [upd_ne (Ne.symm hi.1)]
    exact hE _ (h.ext (or_ne hd (Ne.symm hi.1)) fun hc => hn (.inr hc))
theorem ManyE.blk (h : ManyE B L val X Y ei ci C E us D W) {ai si : Nat} (ht : (ai, si) ∈ L) (hi : ai ≠ ei) (hd : D ai) : ∃ (g : Nat) (x y : Value), us ai = .pointer (some ⟨g, 0, none⟩) ∧ B.heap.size ≤ g ∧ g < W.heap.size ∧ Two W g x y ∧ (D si → x = X ai ∧ y = Y ai) := by
  have := h.m.blk _ ht hd
  simp only at this
  rw [upd_ne hi] at this; exact this
theorem ManyE.store (h : ManyE B L val X Y ei ci C E us D W) (hL : apartB L = true) {ai si : Nat} (ht0 : (ai, si) ∈ L) (hi : ai ≠ ei ∧ si ≠ ei) (hc : D ci) (hD : D ai) {g : Nat} (hg : us ai = .pointer (some ⟨g, 0, none⟩)) (u : Value) : ManyE B L val X Y ei ci C E (upd us si u) (fun k => k = si ∨ D k) ((W.setCell ⟨g, 0, none⟩ (X ai)).setCell ⟨g, 1, none⟩ (Y ai)) := by
  refine ⟨?_, fun hd hn => (hn (.inr hc)).elim, fun k hk hd => .inr hc⟩
  rw [upd_comm hi.2]; exact h.m.store hL ht0 hD (by rw [upd_ne hi.1]; exact hg) u
theorem ManyE.get (h : ManyE B L val X Y ei ci C E us D W) {ai si : Nat} (ht : (ai, si) ∈ L) (hi : ai ≠ ei) (h1 : D ai) (h2 : D si) : ∃ g : Nat, us ai = .pointer (some ⟨g, 0, none⟩) ∧ B.heap.size ≤ g ∧ g < W.heap.size ∧ Two W g (X ai) (Y ai) := by
  have := h.m.get ht h1 h2
  rw [upd_ne hi] at this; exact this
end
end Go.Proofs.Ytmcncflieoolmaa

/- The walk of alive15 (top): the example holds; no condition.  (Printed by wip/gentopra.py.) -/
namespace Go.Proofs.Ytmcncflieoolmaa
set_option linter.unusedVariables false
set_option linter.unusedSimpArgs false
open Go.ChangeShapes Go.WideShapes Go.ChangeAt Go.RowKit Go.Deep

set_option maxHeartbeats 800000 in
theorem flat_any (w : World) : Calls Try.prog 12 #[] w fun e w' => ∃ p c, e = .returned (.agg #[.slice p 2 c, .int .i64 9]) ∧ Mat w' p c [[8, 4], [6, 6]] ∧ Below w.heap.size w w' := by
  go_enter Try.func12, Try.ntmps12
  have hS := (((((St.start w).bump (.cells #[.slice (some ⟨w.heap.size + 1 + 1 + 1, 0, none⟩) 2 2, .int .i64 9] 24)).lit [8, 4] 2).lit [6, 6] 2).litM (ks := [1, 0]) (.cons rfl (.cons rfl .nil)) 2)
  go_wp2
  exact bodyPost_ret (v := .agg #[.slice (some ⟨w.heap.size + 1 + 1 + 1, 0, none⟩) 2 2, .int .i64 9]) (by simp [results, Try.results12, go_sem]) rfl ⟨_, _, rfl, hS.matAt 0 rfl, hS.bel⟩
theorem lv15_range : rngLo LV15 9 (0 : Nat) = .agg #[.int .i64 9, .int .i64 2] ∧ rngHi LV15 9 (0 : Nat) = .agg #[.int .i64 13, .int .i64 2] ∧ rngE LV15 9 (0 : Nat) = 0 :=
  range_e lv15_best (by decide) lv15_chk (by decide) (by decide +kernel) (by decide +kernel) (by decide +kernel) (by decide +kernel)
theorem lv15_prices : leastL LV15 (bestA LV15) = [0, 0] := by
  rw [bestA_eq lv15_best, ← bfR_least lv15_best (by decide)]
  decide +kernel
theorem flatPrices_any (p : Option Addr) (c : Nat) (w : World) (hx : Mat w p c [[8, 4], [6, 6]]) :
    Calls Try.prog 14 #[.slice p 2 c] w fun e w' => ∃ q d, e = .returned (.tuple #[.slice q 2 d, .int .i64 0]) ∧ Ints w' q d [0, 0] ∧ Below w.heap.size w w' := by
  refine (prices_okR p c LV15 w hx (chkR_zero.1 lv15_chk).1).mono ?_
  rintro e w' ⟨q, d, h1, h2, h3⟩
  rw [lv15_prices] at h2
  exact ⟨q, d, h1, h2.ints, h3⟩
theorem ra12 {i : Nat} (h : i < 12) : i = 0 ∨ i = 1 ∨ i = 2 ∨ i = 3 ∨ i = 4 ∨ i = 5 ∨ i = 6 ∨ i = 7 ∨ i = 8 ∨ i = 9 ∨ i = 10 ∨ i = 11 := by omega
set_option maxHeartbeats 8000000 in
set_option maxRecDepth 100000 in
theorem aliveTop15_any (w : World) : Calls Try.prog 4 #[] w fun e w' => e = .returned (.bool true) ∧ Below w.heap.size w w' := by
  go_enter Try.func4, Try.ntmps4
  have hS := St.start w
  go_wp2_with fail
  refine (flat_any _).mono ?_
  rintro e w7 ⟨p7, c7, rfl, hM, hb⟩
  replace hS := hS.step hb
  replace hS := hS.addM rfl hM
  clear hb hM
  go_wp2_with fail
  refine (rentFair_e lv15_fair lv15_chk (hS.matAt 0 rfl)).mono ?_
  rintro e w8 ⟨pb, cb, ps, cs, rfl, hA, hP, hb⟩
  replace hS := hS.step hb
  replace hS := hS.addI rfl hA
  replace hS := hS.addI rfl hP
  clear hb hA hP
  replace hS := hS.box [.slice pb 2 cb, .slice ps 2 cs, .int .i64 2] 29
  obtain ⟨W2, hW2⟩ : ∃ W, w8.alloc (.cells #[.slice pb 2 cb, .slice ps 2 cs, .int .i64 2] 29) = W := ⟨_, rfl⟩
  have hS1 : St w W2 W2.heap.size _ := hW2 ▸ (hS.step (below_drewN _ _ 0))
  clear hS
  have HW2 := Lib.hid hW2
  clear hW2
  have HB := Lib.hid (hS1.intsAt 2 rfl)
  have HP := Lib.hid (hS1.intsAt 1 rfl)
  have km_0 := hS1.boxAt 0 0 rfl rfl
  have km_1 := hS1.boxAt 0 1 rfl rfl
  have km_2 := hS1.boxAt 0 2 rfl rfl
  have lm := hS1.boxLt 0 rfl
  go_upto_region 2 with (fail)
  rw [HW2.out]
  have Hmk : Hid (∀ W, Below W2.heap.size W2 W → (W.cell? ⟨w8.heap.size, 0, none⟩ = some (.slice pb 2 cb) ∧ W.cell? ⟨w8.heap.size, 1, none⟩ = some (.slice ps 2 cs) ∧ W.cell? ⟨w8.heap.size, 2, none⟩ = some (.int .i64 2))) := fun W hG => ⟨(hG.cell (p := ⟨w8.heap.size, 0, none⟩) lm).trans km_0, (hG.cell (p := ⟨w8.heap.size, 1, none⟩) lm).trans km_1, (hG.cell (p := ⟨w8.heap.size, 2, none⟩) lm).trans km_2⟩
  clear km_0 km_1 km_2 lm
  refine wp_region_inv (by kernel_rfl) (by decide +kernel) (by decide +kernel) _ _ (ManyE W2 [(7, 9), (8, 10)] (fun kk => match kk with | 1 => (.agg #[.slice pb 2 cb, .slice ps 2 cs, .int .i64 2]) | 2 => (.tuple #[(.agg #[.int .i64 5, .int .i64 2]), (.agg #[.int .i64 5, .int .i64 2]), .int .i64 0]) | 3 => (.tuple #[(.agg #[.int .i64 5, .int .i64 2]), (.agg #[.int .i64 5, .int .i64 2]), .int .i64 0]) | 4 => (.agg #[.int .i64 5, .int .i64 2]) | 5 => (.agg #[.int .i64 5, .int .i64 2]) | 6 => (.int .i64 0) | 11 => (.int .i64 0) | _ => undef) (fun kk => match kk with | 7 => (.int .i64 5) | 8 => (.int .i64 5) | _ => undef) (fun kk => match kk with | 7 => (.int .i64 2) | 8 => (.int .i64 2) | _ => undef) 0 2 [3, 4, 5, 6, 9, 10, 11] (ExtM 2 LV15 9)) ?_ ?_ ?_
  · exact fun us => ManyE.start us
  · intro us D W i o A hA hi hJ hnD hon K hK
    have hlt : i < 12 := (Array.getElem?_eq_some_iff.1 hi).1
    rcases ra12 hlt with rfl | rfl | rfl | rfl | rfl | rfl | rfl | rfl | rfl | rfl | rfl | rfl
    · have hi' := Option.some.inj hi
      subst hi'
      refine wp_enter (f := 12) (args := #[]) (w' := W) ?_ ((flat_any W).mono ?_)
      · skip
        clear hA hK hon hJ
        go_simp
      · rintro r' wC ⟨pz, cz, rfl, hMz, hbC⟩
        exact ⟨_, rfl, hK _ _ (hJ.first (by decide) (by decide) (by decide) _ ⟨pz, cz, rfl, hMz⟩ hbC)⟩
    · have hi' := Option.some.inj hi
      subst hi'
      refine wp_val (v := (.agg #[.slice pb 2 cb, .slice ps 2 cs, .int .i64 2])) (w' := W) ?_ (hK _ _ (hJ.pure (i := 1) (by decide) (by decide) (fun _ h => h) (Below.refl _ _)))
      · skip
        have e1 : A.tmps[1]?.getD undef = (.pointer (some ⟨w8.heap.size, 0, none⟩)) := by rw [hA]; kernel_rfl
        obtain ⟨cc0, cc1, cc2⟩ := Hmk.out W hJ.bel
        clear hA hK hon hJ
        go_simp
    · have hi' := Option.some.inj hi
      subst hi'
      obtain ⟨pz, cz, hz, hMz⟩ := hJ.ext (hon 0 (by decide +kernel)) hnD
      refine wp_enter (f := 10) (args := #[.agg #[.slice pz 2 cz, .int .i64 9], (.agg #[.slice pb 2 cb, .slice ps 2 cs, .int .i64 2])]) (w' := W) ?_ ((rentWorst_e lv15_worst hMz (HB.out.below hJ.bel (Nat.le_refl _)) (HP.out.below hJ.bel (Nat.le_refl _))).mono ?_)
      · skip
        have e18 : A.tmps[18]?.getD undef = (.agg #[.slice pz 2 cz, .int .i64 9]) := (by rw [hA]; kernel_rfl : A.tmps[18]?.getD undef = us 0).trans hz
        have e19 : A.tmps[19]?.getD undef = (.agg #[.slice pb 2 cb, .slice ps 2 cs, .int .i64 2]) := (by rw [hA]; kernel_rfl : A.tmps[19]?.getD undef = us 1).trans (hJ.value 1 (by decide) (hon 1 (by decide +kernel)))
        clear hA hK hon hJ
        go_simp
      · rintro r' wC ⟨rfl, hbC⟩
        exact ⟨_, rfl, hK _ _ (hJ.use (by decide) (by decide) hbC)⟩
    · have hi' := Option.some.inj hi
      subst hi'
      have hc : D 2 := (hon 2 (by decide +kernel))
      refine wp_val (v := (.tuple #[(.agg #[.int .i64 5, .int .i64 2]), (.agg #[.int .i64 5, .int .i64 2]), .int .i64 0])) (w' := W) ?_ (hK _ _ (hJ.later (i := 3) (by decide) hc (by decide) (Below.refl _ _)))
      · skip
        have e20 : A.tmps[20]?.getD undef = (.tuple #[(.agg #[.int .i64 5, .int .i64 2]), (.agg #[.int .i64 5, .int .i64 2]), .int .i64 0]) := (by rw [hA]; kernel_rfl : A.tmps[20]?.getD undef = us 2).trans (hJ.value 2 (by decide) (hon 2 (by decide +kernel)))
        clear hA hK hon hJ
        go_simp
    · have hi' := Option.some.inj hi
      subst hi'
      have hc : D 2 := (hJ.ch 3 (by decide) (hon 3 (by decide +kernel)))
      refine wp_val (v := (.agg #[.int .i64 5, .int .i64 2])) (w' := W) ?_ (hK _ _ (hJ.later (i := 4) (by decide) hc (by decide) (Below.refl _ _)))
      · skip
        have e17 : A.tmps[17]?.getD undef = (.tuple #[(.agg #[.int .i64 5, .int .i64 2]), (.agg #[.int .i64 5, .int .i64 2]), .int .i64 0]) := (by rw [hA]; kernel_rfl : A.tmps[17]?.getD undef = us 3).trans (hJ.value 3 (by decide) (hon 3 (by decide +kernel)))
        clear hA hK hon hJ
        go_simp
    · have hi' := Option.some.inj hi
      subst hi'
      have hc : D 2 := (hJ.ch 3 (by decide) (hon 3 (by decide +kernel)))
      refine wp_val (v := (.agg #[.int .i64 5, .int .i64 2])) (w' := W) ?_ (hK _ _ (hJ.later (i := 5) (by decide) hc (by decide) (Below.refl _ _)))
      · skip
        have e17 : A.tmps[17]?.getD undef = (.tuple #[(.agg #[.int .i64 5, .int .i64 2]), (.agg #[.int .i64 5, .int .i64 2]), .int .i64 0]) := (by rw [hA]; kernel_rfl : A.tmps[17]?.getD undef = us 3).trans (hJ.value 3 (by decide) (hon 3 (by decide +kernel)))
        clear hA hK hon hJ
        go_simp
    · have hi' := Option.some.inj hi
      subst hi'
      have hc : D 2 := (hJ.ch 3 (by decide) (hon 3 (by decide +kernel)))
      refine wp_val (v := (.int .i64 0)) (w' := W) ?_ (hK _ _ (hJ.later (i := 6) (by decide) hc (by decide) (Below.refl _ _)))
      · skip
        have e17 : A.tmps[17]?.getD undef = (.tuple #[(.agg #[.int .i64 5, .int .i64 2]), (.agg #[.int .i64 5, .int .i64 2]), .int .i64 0]) := (by rw [hA]; kernel_rfl : A.tmps[17]?.getD undef = us 3).trans (hJ.value 3 (by decide) (hon 3 (by decide +kernel)))
        clear hA hK hon hJ
        go_simp
    · have hi' := Option.some.inj hi
      subst hi'
      refine wp_val (v := .pointer (some ⟨W.heap.size, 0, none⟩)) (w' := W.alloc (.cells #[.int .i64 0, .int .i64 0] 35)) ?_ (hK _ _ (hJ.alloc (ai := 7) (si := 9) (by decide) (by decide) (by decide) hnD _ _ _ (fun _ h => h.step ((Below.refl _ _).alloc (Nat.le_refl _) _))))
      · skip
        clear hA hK hon hJ
        go_simp
    · have hi' := Option.some.inj hi
      subst hi'
      refine wp_val (v := .pointer (some ⟨W.heap.size, 0, none⟩)) (w' := W.alloc (.cells #[.int .i64 0, .int .i64 0] 35)) ?_ (hK _ _ (hJ.alloc (ai := 8) (si := 10) (by decide) (by decide) (by decide) hnD _ _ _ (fun _ h => h.step ((Below.refl _ _).alloc (Nat.le_refl _) _))))
      · skip
        clear hA hK hon hJ
        go_simp
    · have hi' := Option.some.inj hi
      subst hi'
      have hc : D 2 := (hJ.ch 4 (by decide) (hon 4 (by decide +kernel)))
      obtain ⟨g, x', y', hg, _, hlt, ht, _⟩ := hJ.blk (ai := 7) (si := 9) (by decide) (by decide) (hon 7 (by decide +kernel))
      refine wp_skip (w' := (W.setCell ⟨g, 0, none⟩ (.int .i64 5)).setCell ⟨g, 1, none⟩ (.int .i64 2)) ?_ (hK _ _ (hJ.store (ai := 7) (si := 9) (by decide) (by decide) (by decide) hc (hon 7 (by decide +kernel)) hg undef))
      · skip
        have e3 : A.tmps[3]?.getD undef = .pointer (some ⟨g, 0, none⟩) := (by rw [hA]; kernel_rfl : A.tmps[3]?.getD undef = us 7).trans hg
        have e21 : A.tmps[21]?.getD undef = (.agg #[.int .i64 5, .int .i64 2]) := (by rw [hA]; kernel_rfl : A.tmps[21]?.getD undef = us 4).trans (hJ.value 4 (by decide) (hon 4 (by decide +kernel)))
        have c0 := ht.c0
        have c1 := ht.c1
        have f0 := ht.f0
        have f1 := ht.f1
        clear ht
        clear hA hK hon hJ
        go_simp
    · have hi' := Option.some.inj hi
      subst hi'
      have hc : D 2 := (hJ.ch 5 (by decide) (hon 5 (by decide +kernel)))
      obtain ⟨g, x', y', hg, _, hlt, ht, _⟩ := hJ.blk (ai := 8) (si := 10) (by decide) (by decide) (hon 8 (by decide +kernel))
      refine wp_skip (w' := (W.setCell ⟨g, 0, none⟩ (.int .i64 5)).setCell ⟨g, 1, none⟩ (.int .i64 2)) ?_ (hK _ _ (hJ.store (ai := 8) (si := 10) (by decide) (by decide) (by decide) hc (hon 8 (by decide +kernel)) hg undef))
      · skip
        have e4 : A.tmps[4]?.getD undef = .pointer (some ⟨g, 0, none⟩) := (by rw [hA]; kernel_rfl : A.tmps[4]?.getD undef = us 8).trans hg
        have e22 : A.tmps[22]?.getD undef = (.agg #[.int .i64 5, .int .i64 2]) := (by rw [hA]; kernel_rfl : A.tmps[22]?.getD undef = us 5).trans (hJ.value 5 (by decide) (hon 5 (by decide +kernel)))
        have c0 := ht.c0
        have c1 := ht.c1
        have f0 := ht.f0
        have f1 := ht.f1
        clear ht
        clear hA hK hon hJ
        go_simp
    · have hi' := Option.some.inj hi
      subst hi'
      have hc : D 2 := (hJ.ch 6 (by decide) (hon 6 (by decide +kernel)))
      refine wp_val (v := (.int .i64 0)) (w' := W) ?_ (hK _ _ (hJ.later (i := 11) (by decide) hc (by decide) (Below.refl _ _)))
      · skip
        have e23 : A.tmps[23]?.getD undef = (.int .i64 0) := (by rw [hA]; kernel_rfl : A.tmps[23]?.getD undef = us 6).trans (hJ.value 6 (by decide) (hon 6 (by decide +kernel)))
        clear hA hK hon hJ
        go_simp
  · intro us D W6 hJ hall
    obtain ⟨g1, u12, g1l, g1h, t12⟩ := hJ.get (ai := 7) (si := 9) (by decide) (by decide) (hall 7 (by decide)) (hall 9 (by decide))
    obtain ⟨g2, u13, g2l, g2h, t13⟩ := hJ.get (ai := 8) (si := 10) (by decide) (by decide) (hall 8 (by decide)) (hall 10 (by decide))
    have u14 : us 11 = (.int .i64 0) := hJ.value 11 (by decide) (hall 11 (by decide))
    have hS := hS1.step hJ.bel
    replace hS := hS.add (.box g1 [.int .i64 5, .int .i64 2]) ⟨g1h, (boxOfTwo g1h t12).cell⟩
    replace hS := hS.add (.box g2 [.int .i64 5, .int .i64 2]) ⟨g2h, (boxOfTwo g2h t13).cell⟩
    clear hJ hall hS1 t12 t13 g1l g2l g1h g2h HB HP Hmk
    simp only [actL, slotL, putL, List.setIfInBounds_toArray, List.set_cons_zero, List.set_cons_succ, Nat.zero_add, Nat.reduceAdd, u12, u13, u14]
    clear u12 u13 u14
    go_wp2_with fail
    refine (flat_any _).mono ?_
    rintro e w9 ⟨p9, c9, rfl, hM, hb⟩
    replace hS := hS.step hb
    replace hS := hS.addM rfl hM
    clear hb hM
    go_wp2_with fail
    refine (roomRange_e lv15_range (hS.matAt 0 rfl)).mono ?_
    rintro e wa ⟨rfl, hb⟩
    replace hS := hS.step hb
    clear hb 
    replace hS := hS.box [.int .i64 9, .int .i64 2] 35
    replace hS := hS.box [.int .i64 13, .int .i64 2] 35
    go_wp2_with fail
    refine (flat_any _).mono ?_
    rintro e wb ⟨pc, cc, rfl, hM, hb⟩
    replace hS := hS.step hb
    replace hS := hS.addM rfl hM
    clear hb hM
    have hfd : ∀ W : World, (Instr.field 24 (.agg #[.slice pc 2 cc, .int .i64 9]) 0).run Try.prog W = .ok (.slice pc 2 cc) W := fun _ => by kernel_rfl
    go_wp2_with fail
    refine (flatPrices_any _ _ _ (hS.matAt 0 rfl)).mono ?_
    rintro e wc ⟨pp, cp, rfl, hP, hb⟩
    replace hS := hS.step hb
    replace hS := hS.addI rfl hP
    clear hb hP
    clear hfd
    replace hS := hS.box [.int .i64 5, .int .i64 2] 35
    have klo_0 := hS.boxAt 7 0 rfl rfl
    have klo_1 := hS.boxAt 7 1 rfl rfl
    have llo := hS.boxLt 7 rfl
    have khi_0 := hS.boxAt 6 0 rfl rfl
    have khi_1 := hS.boxAt 6 1 rfl rfl
    have lhi := hS.boxLt 6 rfl
    have khalf_0 := hS.boxAt 0 0 rfl rfl
    have khalf_1 := hS.boxAt 0 1 rfl rfl
    have lhalf := hS.boxLt 0 rfl
    have klow_0 := hS.boxAt 4 0 rfl rfl
    have klow_1 := hS.boxAt 4 1 rfl rfl
    have llow := hS.boxLt 4 rfl
    have khigh_0 := hS.boxAt 3 0 rfl rfl
    have khigh_1 := hS.boxAt 3 1 rfl rfl
    have lhigh := hS.boxLt 3 rfl
    replace hS := hS.lit [0, 0] 2
    go_wp2_with fail
    refine (sameI_true rfl rfl rfl (hS.intsAt 2 rfl) (hS.intsAt 0 rfl)).mono ?_
    rintro e wg ⟨rfl, hw⟩
    replace hS := hS.drew hw
    clear hw 
    clear klo_0 klo_1 llo khi_0 khi_1 lhi khalf_0 khalf_1 lhalf klow_0 klow_1 llow khigh_0 khigh_1 lhigh
    have km_0 := hS.boxAt 9 0 rfl rfl
    have km_1 := hS.boxAt 9 1 rfl rfl
    have km_2 := hS.boxAt 9 2 rfl rfl
    have lm := hS.boxLt 9 rfl
    replace hS := hS.lit [0, 1] 2
    replace hS := hS.lit [11, 7] 2
    go_wp2_with fail
    refine (sameLease_true rfl rfl rfl rfl rfl rfl rfl (hS.intsAt 13 rfl) (hS.intsAt 12 rfl) (hS.intsAt 1 rfl) (hS.intsAt 0 rfl)).mono ?_
    rintro e wh ⟨rfl, hb⟩
    replace hS := hS.step hb
    clear hb 
    clear km_0 km_1 km_2 lm
    go_wp2_with fail
    go_ret
    exact ⟨rfl, hS.bel⟩
end Go.Proofs.Ytmcncflieoolmaa
