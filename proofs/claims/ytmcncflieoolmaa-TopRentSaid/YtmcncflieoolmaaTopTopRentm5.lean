/- The walk of (*search).from; valid bids. -/
import Derived.Test.YtmcncflieoolmaaTopTopRentm3
import Derived.Test.YtmcncflieoolmaaTopTopRentm4
import Derived.Test.YtmcncflieoolmaaTopTopRentm2
/- The walk of (*search).from; valid bids. -/
namespace Go.Proofs.Ytmcncflieoolmaa
set_option linter.unusedVariables false
set_option linter.unusedSimpArgs false
open Go.ChangeShapes Go.WideShapes Go.ChangeAt Go.RowKit Go.Deep

/-- What the search's struct (block S) holds. -/
structure SS (w0 w : World) (S : Nat) (p : Option Addr) (n c : Nat) (sk : Int) (pre : List Int) (pn : Option Addr) (cn : Nat) (us : List Bool) (b : List Int) (pb : Option Addr) (cb : Nat) (m : Int) : Prop where
  bel : Below w0.heap.size w0 w
  old : w0.heap.size ≤ S
  lt : S < w.heap.size
  c0 : w.cell? ⟨S, 0, none⟩ = some (.slice p n c)
  c1 : w.cell? ⟨S, 1, none⟩ = some (.int .i64 sk)
  c2 : w.cell? ⟨S, 2, none⟩ = some (.slice pn pre.length cn)
  cu : ∀ j, j < 6 → w.cell? ⟨S, 3 + j, none⟩ = some (.bool (bget us j))
  c9 : w.cell? ⟨S, 9, none⟩ = some (.slice pb b.length cb)
  c10 : w.cell? ⟨S, 10, none⟩ = some (.int .i64 m)
  fr : ∀ k, w.frozen? ⟨S, k, none⟩ = false
  now : Own w (S + 1) pn cn pre
  bst : Own w (S + 1) pb cb b
  sep : ∀ k, blk pn = some k → blk pb ≠ some k
  ul : us.length = 6

section
variable {w0 w : World} {S : Nat} {p : Option Addr} {n c : Nat} {sk : Int} {pre : List Int} {pn : Option Addr} {cn : Nat} {us : List Bool} {b : List Int} {pb : Option Addr} {cb : Nat} {m : Int}

theorem ne_off {S j k : Nat} (h : j ≠ k) : (⟨S, j, none⟩ : Addr) ≠ ⟨S, k, none⟩ := fun e => h (by cases e; rfl)
theorem cell_other {w : World} {S j k : Nat} {u v : Value} (h : w.cell? ⟨S, k, none⟩ = some v) (hne : j ≠ k) : (w.setCell ⟨S, j, none⟩ u).cell? ⟨S, k, none⟩ = some v := (World.cell?_setCell_other w _ _ u (ne_off hne)).trans h
theorem Own.setCell_far {w : World} {base : Nat} {p : Option Addr} {c : Nat} {xs : List Int} (h : Own w base p c xs) {S j : Nat} (u : Value) (hS : S < base) : Own (w.setCell ⟨S, j, none⟩ u) base p c xs :=
  ⟨ownsRow_setCell_below h.row hS u, h.rng⟩

/-- What changes no block but those from S + 1 on, and keeps the two lists, keeps all. -/
theorem SS.grow {w' : World} (h : SS w0 w S p n c sk pre pn cn us b pb cb m) (hb : Below (S + 1) w w') (hn : Own w' (S + 1) pn cn pre) (hbt : Own w' (S + 1) pb cb b) : SS w0 w' S p n c sk pre pn cn us b pb cb m :=
  have hc : ∀ j, w'.cell? ⟨S, j, none⟩ = w.cell? ⟨S, j, none⟩ := fun j => hb.cell (p := ⟨S, j, none⟩) (Nat.lt_succ_self S)
  ⟨h.bel.trans (hb.mono (by have := h.old; omega)), h.old, Nat.lt_of_lt_of_le h.lt hb.size, (hc 0).trans h.c0, (hc 1).trans h.c1, (hc 2).trans h.c2, fun j hj => (hc _).trans (h.cu j hj), (hc 9).trans h.c9, (hc 10).trans h.c10,
    fun k => (hb.frozen (p := ⟨S, k, none⟩) (Nat.lt_succ_self S)).trans (h.fr k), hn, hbt, h.sep, h.ul⟩

/-- The list so far is another one, in a row of the call's own. -/
theorem SS.setNow {q : Option Addr} {d : Nat} {xs : List Int} (h : SS w0 w S p n c sk pre pn cn us b pb cb m) (hn : Own w (S + 1) q d xs) (hsep : ∀ k, blk q = some k → blk pb ≠ some k) :
    SS w0 (w.setCell ⟨S, 2, none⟩ (.slice q xs.length d)) S p n c sk xs q d us b pb cb m :=
  ⟨h.bel.setCell (p := ⟨S, 2, none⟩) h.old _, h.old, by simpa [World.setCell] using h.lt, cell_other h.c0 (by omega), cell_other h.c1 (by omega), World.cell?_setCell_same _ _ _ h.c2, fun j hj => cell_other (h.cu j hj) (by omega),
    cell_other h.c9 (by omega), cell_other h.c10 (by omega), fun k => by rw [World.frozen?_setCell]; exact h.fr k, hn.setCell_far _ (Nat.lt_succ_self S), h.bst.setCell_far _ (Nat.lt_succ_self S), hsep, h.ul⟩
theorem SS.setUsed (h : SS w0 w S p n c sk pre pn cn us b pb cb m) {j : Nat} (hj : j < 6) (x : Bool) : SS w0 (w.setCell ⟨S, 3 + j, none⟩ (.bool x)) S p n c sk pre pn cn (us.set j x) b pb cb m :=
  ⟨h.bel.setCell (p := ⟨S, 3 + j, none⟩) h.old _, h.old, by simpa [World.setCell] using h.lt, cell_other h.c0 (by omega), cell_other h.c1 (by omega), cell_other h.c2 (by omega), fun k hk => by
      rw [bget_set (by rw [h.ul]; exact hj)]
      by_cases e : j = k
      · subst e; rw [if_pos rfl]; exact World.cell?_setCell_same _ _ _ (h.cu j hj)
      · rw [if_neg e]; exact cell_other (h.cu k hk) (by omega),
    cell_other h.c9 (by omega), cell_other h.c10 (by omega), fun k => by rw [World.frozen?_setCell]; exact h.fr k, h.now.setCell_far _ (Nat.lt_succ_self S), h.bst.setCell_far _ (Nat.lt_succ_self S), h.sep, by rw [List.length_set]; exact h.ul⟩
theorem SS.setBest {q : Option Addr} {d : Nat} {xs : List Int} {k : Int} (h : SS w0 w S p n c sk pre pn cn us b pb cb m) (hn : Own w (S + 1) q d xs) (hsep : ∀ k, blk pn = some k → blk q ≠ some k) :
    SS w0 ((w.setCell ⟨S, 9, none⟩ (.slice q xs.length d)).setCell ⟨S, 10, none⟩ (.int .i64 k)) S p n c sk pre pn cn us xs q d k :=
  ⟨(h.bel.setCell (p := ⟨S, 9, none⟩) h.old _).setCell (p := ⟨S, 10, none⟩) h.old _, h.old, by simpa [World.setCell] using h.lt, cell_other (cell_other h.c0 (by omega)) (by omega), cell_other (cell_other h.c1 (by omega)) (by omega), cell_other (cell_other h.c2 (by omega)) (by omega), fun j hj => cell_other (cell_other (h.cu j hj) (by omega)) (by omega),
    cell_other (World.cell?_setCell_same _ _ _ h.c9) (by omega), World.cell?_setCell_same _ _ _ (cell_other h.c10 (by omega)), fun k => by rw [World.frozen?_setCell, World.frozen?_setCell]; exact h.fr k,
    (h.now.setCell_far _ (Nat.lt_succ_self S)).setCell_far _ (Nat.lt_succ_self S), (hn.setCell_far _ (Nat.lt_succ_self S)).setCell_far _ (Nat.lt_succ_self S), hsep, h.ul⟩
/-- One number more. -/
theorem SS.push {w2 : World} {q : Option Addr} {d : Nat} {xs : List Int} {o : Obj} (h : SS w0 w S p n c sk pre pn cn us b pb cb m) (hn : Own w2 (S + 1) q d xs) (hg : w.grownBy w2 (blk pn)) (hf : Fresh w pn q) :
    SS w0 (w2.setCell ⟨S, 2, none⟩ (.slice q xs.length d)) S p n c sk xs q d us b pb cb m := by
  have hb : Below (S + 1) w w2 := (Below.refl _ _).grown hg (by have := h.lt; omega) (fun k e => (h.now.lt k e).1)
  have hbt : Own w2 (S + 1) pb cb b := h.bst.keptBy hg (fun k e e2 => h.sep k e2 e)
  have hc : ∀ j, w2.cell? ⟨S, j, none⟩ = w.cell? ⟨S, j, none⟩ := fun j => hb.cell (p := ⟨S, j, none⟩) (Nat.lt_succ_self S)
  have h2 : SS w0 w2 S p n c sk pre none cn us b pb cb m → True := fun _ => trivial
  refine ⟨(h.bel.trans (hb.mono (by have := h.old; omega))).setCell (p := ⟨S, 2, none⟩) h.old _, h.old, by have := h.lt; have := hb.size; simp [World.setCell]; omega, cell_other ((hc 0).trans h.c0) (by omega), cell_other ((hc 1).trans h.c1) (by omega), World.cell?_setCell_same _ _ _ ((hc 2).trans h.c2), fun j hj => cell_other ((hc _).trans (h.cu j hj)) (by omega),
    cell_other ((hc 9).trans h.c9) (by omega), cell_other ((hc 10).trans h.c10) (by omega), fun k => by rw [World.frozen?_setCell]; exact (hb.frozen (p := ⟨S, k, none⟩) (Nat.lt_succ_self S)).trans (h.fr k), hn.setCell_far _ (Nat.lt_succ_self S), hbt.setCell_far _ (Nat.lt_succ_self S), ?_, h.ul⟩
  intro k hk e
  rcases hf k hk with h3 | h3
  · exact h.sep k h3 e
  · have := (h.bst.lt k e).2; omega
/-- A row's first numbers. -/
theorem Own.take {w : World} {base : Nat} {p : Option Addr} {c : Nat} {xs : List Int} (h : Own w base p c xs) {k : Nat} (hk : k ≤ xs.length) (hp : p ≠ none) : Own w base p c (xs.take k) := by
  refine ⟨⟨by simp, ?_⟩, fun j hj => ?_⟩
  · rcases h.row.2 with ⟨h1, _⟩ | ⟨g, cap, cur, h1, h2, h3, h4, h5, h6, h7⟩
    · simp only [Value.slice.injEq] at h1; exact absurd h1.1 hp
    · simp only [Value.slice.injEq] at h1
      obtain ⟨rfl, _, rfl⟩ := h1
      have hl : (xs.take k).length = k := by simp; omega
      refine .inr ⟨g, c, cur, by rw [hl], h2, h3, by omega, h5, h6, ?_⟩
      rw [hl, List.map_take, ← h7, List.take_take]
      congr 1
      omega
  · rw [List.length_take] at hj
    have hj1 : j < k := by omega
    have e : iget (xs.take k) j = iget xs j := by simp [iget, List.getD, List.getElem?_take, hj1]
    rw [e]; exact h.rng j (by omega)
end
theorem SS.after {w0 w w2 : World} {S : Nat} {p : Option Addr} {n c : Nat} {sk : Int} {pre : List Int} {pn : Option Addr} {cn : Nat} {us : List Bool} {b : List Int} {pb : Option Addr} {cb : Nat} {m : Int}
    (h : SS w0 w S p n c sk pre pn cn us b pb cb m) (hg : w.grownBy w2 (blk pn)) : w2.cell? ⟨S, 2, none⟩ = some (.slice pn pre.length cn) ∧ ∀ k, w2.frozen? ⟨S, k, none⟩ = false := by
  have hb : Below (S + 1) w w2 := (Below.refl _ _).grown hg (by have := h.lt; omega) (fun k e => (h.now.lt k e).1)
  exact ⟨(hb.cell (p := ⟨S, 2, none⟩) (Nat.lt_succ_self S)).trans h.c2, fun k => (hb.frozen (p := ⟨S, k, none⟩) (Nat.lt_succ_self S)).trans (h.fr k)⟩
/-- What holds at the head of from's loop. -/
def FromR (w0 : World) (S : Nat) (p : Option Addr) (c : Nat) (v : List (List Int)) (sk : Int) (pre : List Int) (V : List Int → Prop) (t : Value) (wr : World) : Prop :=
  ∃ j : Nat, j ≤ v.length ∧ t = .int .i64 j ∧ ∃ pn cn us b pb cb m, SS w0 wr S p v.length c sk pre pn cn us b pb cb m ∧ (b = [] → pb = none) ∧ (∀ j, j < v.length → (bget us j = true ↔ Used sk pre j)) ∧
    Found v sk (fun x => V x ∨ CompTo v.length sk pre j x) b m
/-- What from leaves: the list as it was, no item more is taken; what it has found. -/
def FromP (w0 : World) (S : Nat) (p : Option Addr) (c : Nat) (v : List (List Int)) (sk : Int) (pre : List Int) (V : List Int → Prop) (e : Ending) (w' : World) : Prop :=
  (∃ x, e = .returned x) ∧ ∃ pn cn us b pb cb m, SS w0 w' S p v.length c sk pre pn cn us b pb cb m ∧ (b = [] → pb = none) ∧ (∀ j, j < v.length → (bget us j = true ↔ Used sk pre j)) ∧ Found v sk (fun x => V x ∨ Comp v.length sk pre x) b m

set_option maxHeartbeats 4000000 in
set_option maxRecDepth 100000 in
theorem from_any (w0 : World) (S : Nat) (p : Option Addr) (c : Nat) (v : List (List Int)) (sk : Int) (hx : Mat w0 p c v) (hv : Bids v) (hsk : -1 ≤ sk ∧ sk ≤ 6) :
    ∀ (f : Nat) (pre : List Int) (w : World) (pn : Option Addr) (cn : Nat) (us : List Bool) (b : List Int) (pb : Option Addr) (cb : Nat) (m : Int) (V : List Int → Prop),
    v.length = pre.length + f → SS w0 w S p v.length c sk pre pn cn us b pb cb m → (b = [] → pb = none) → PartTo v.length sk pre pre.length → (∀ j, j < v.length → (bget us j = true ↔ Used sk pre j)) →
    Found v sk V b m → (∀ x, V x → ∀ y, Comp v.length sk pre y → llt x y) →
    Calls Try.prog 58 #[.pointer (some ⟨S, 0, none⟩), .int .i64 pre.length, .int .i64 (pvTo v sk pre pre.length)] w (FromP w0 S p c v sk pre V) := by
  intro f
  induction f with
  | zero =>
    intro pre w pn cn us b pb cb m V hlen hS hbn hP hU hF hV
    have h0 := hv.1
    have h6 := hv.2.1
    have hl : pre.length = v.length := by omega
    have hne : ((pre.length : Int) == v.length) = true := by rw [beq_iff_eq]; omega
    have hpv := pv_eq (sk := sk) hl
    have hbd := pvTo_bound hv hP (by omega)
    rw [hl] at hP
    have hc0 := hS.c0
    have hc2 := hS.c2
    have hc9 := hS.c9
    have hc10 := hS.c10
    have hfr := hS.fr
    have Hl := Lib.hid hl
    have hle9 : pre.length ≤ 900000 := by omega
    clear hl hlen
    by_cases hb0 : b = []
    · have hp0 := hbn hb0
      subst hp0
      subst hb0
      have hcb : cb = 0 := by
        rcases hS.bst.shape with ⟨_, h, _⟩ | ⟨g, h, _⟩
        · exact h
        · cases h
      subst hcb
      have hq := fun W => Lib.run_eql_slice_nil (P := Try.prog) W 27 3 none 0 0 0 0 Try.underlying27
      go_enter Try.func58, Try.ntmps58
      go_wp2_with fail
      refine (clone_any _ _ _ _ hS.now.ints hle9).mono ?_
      rintro e w1 ⟨q, d, rfl, hO1, hb1⟩
      have hgr := grownBy_of_below hb1 (Nat.le_refl _) none
      have hS1 := hS.grow (hb1.mono hS.lt) (hS.now.keptBy hgr (fun _ _ e => by cases e)) (hS.bst.keptBy hgr (fun _ _ e => by cases e))
      have hS2 := hS1.setBest (q := q) (d := d) (xs := pre) (k := pvTo v sk pre pre.length) (hO1.lower hS.lt) (fun k h1 h2 => by
        have := (hS.now.lt k h1).2
        have := (hO1.lt k h2).1
        omega)
      have h9 := hS1.c9
      have h10 := cell_other (j := 9) (u := .slice q pre.length d) hS1.c10 (by omega)
      have hfr1 := hS1.fr
      have HF := Lib.hid (found_leaf_take h0 hF Hl.out hP hV (.inl rfl))
      have Hpv := Lib.hid hpv
      have HS2 := Lib.hid hS2
      have HO1 := Lib.hid hO1
      have HU := Lib.hid hU
      clear hF hP hV hS2 hO1 hpv hU
      go_wp2_with fail
      refine bodyPost_ret (results_none rfl _ _ _) rfl ?_
      refine ⟨⟨_, rfl⟩, _, _, _, _, _, _, _, HS2.out, fun e => ?_, HU.out, by rw [← Hpv.out]; exact HF.out⟩
      have := Hl.out; rw [e] at this; simp at this; omega
    · obtain ⟨gb, rfl⟩ := hS.bst.some_of hb0
      have hq := fun W => Lib.run_eql_slice_nil (P := Try.prog) W 27 3 (some ⟨gb, 0, none⟩) b.length cb 0 0 Try.underlying27
      have Hb0 := Lib.hid hb0
      have HS := Lib.hid hS
      have HF := Lib.hid hF
      have HP := Lib.hid hP
      have HV := Lib.hid hV
      have Hpv := Lib.hid hpv
      have Hbn := Lib.hid hbn
      have HU := Lib.hid hU
      clear hb0 hS hF hP hV hpv hbn hU
      go_enter Try.func58, Try.ntmps58
      go_wp2_with fail
      · have hgt : m < pvTo v sk pre pre.length := by assumption
        refine (clone_any _ _ _ _ HS.out.now.ints hle9).mono ?_
        rintro e w1 ⟨q, d, rfl, hO1, hb1⟩
        have hgr := grownBy_of_below hb1 (Nat.le_refl _) none
        have hS1 := HS.out.grow (hb1.mono HS.out.lt) (HS.out.now.keptBy hgr (fun _ _ e => by cases e)) (HS.out.bst.keptBy hgr (fun _ _ e => by cases e))
        have hS2 := hS1.setBest (q := q) (d := d) (xs := pre) (k := pvTo v sk pre pre.length) (hO1.lower HS.out.lt) (fun k h1 h2 => by
          have := (HS.out.now.lt k h1).2
          have := (hO1.lt k h2).1
          omega)
        have h9 := hS1.c9
        have h10 := cell_other (j := 9) (u := .slice q pre.length d) hS1.c10 (by omega)
        have hfr1 := hS1.fr
        have HF2 := Lib.hid (found_leaf_take h0 HF.out Hl.out HP.out HV.out (.inr (by rw [Hpv.out]; exact hgt)))
        have HS2 := Lib.hid hS2
        have HO1 := Lib.hid hO1
        clear hS2 hO1
        go_wp2_with fail
        refine bodyPost_ret (results_none rfl _ _ _) rfl ?_
        refine ⟨⟨_, rfl⟩, _, _, _, _, _, _, _, HS2.out, fun e => ?_, HU.out, by rw [← Hpv.out]; exact HF2.out⟩
        have := Hl.out; rw [e] at this; simp at this; omega
      · have hle : pvTo v sk pre pre.length ≤ m := by assumption
        have HF2 := Lib.hid (found_leaf_keep HF.out Hl.out HP.out HV.out Hb0.out (by rw [Hpv.out]; exact hle))
        refine bodyPost_ret (results_none rfl _ _ _) rfl ?_
        exact ⟨⟨_, rfl⟩, _, _, _, _, _, _, _, HS.out, Hbn.out, HU.out, HF2.out⟩
  | succ f ih =>
    intro pre w pn cn us b pb cb m V hlen hS hbn hP hU hF hV
    have h0 := hv.1
    have h6 := hv.2.1
    have hne : ((pre.length : Int) == v.length) = false := by rw [beq_eq_false_iff_ne]; omega
    have hil : pre.length < v.length := by omega
    have hbd := pvTo_bound hv hP (by omega)
    have hc0 := hS.c0
    have hc1 := hS.c1
    have hc2 := hS.c2
    have hfr := hS.fr
    have Hih := Lib.hid ih
    have Hlen := Lib.hid hlen
    clear ih hlen
    by_cases hskp : (pre.length : Int) = sk
    · have hsb : ((pre.length : Int) == sk) = true := by rw [beq_iff_eq]; exact hskp
      have Hskp := Lib.hid hskp
      have HS := Lib.hid hS
      have HF := Lib.hid hF
      have HP := Lib.hid hP
      have HV := Lib.hid hV
      have HU := Lib.hid hU
      have Hbn := Lib.hid hbn
      have hold := hS.lt
      clear hskp hS hF hP hV hbn hU
      go_enter Try.func58, Try.ntmps58
      go_wp2_with (at_builtin; refine wpList_app1 rfl (.tmp 50) (.tmp 51) rfl (S + 1) _ _ pre (-1) rfl rfl rfl HS.out.now ⟨by omega, by omega⟩ (by omega) hold ?_; intro q d w2 zs hz hO2 hg2 hf2; obtain ⟨hc2', hfr'⟩ := HS.out.after hg2)
      have hS3 := HS.out.push (o := .cells #[] 0) hO2 hg2 hf2
      obtain ⟨w3, hw3⟩ : ∃ w3, w3 = w2.setCell ⟨S, 2, none⟩ (.slice q zs.length d) := ⟨_, rfl⟩
      rw [← hw3] at hS3 ⊢
      clear hw3
      have hzl : zs.length = pre.length + 1 := by rw [hz.out, List.length_append]; rfl
      have hpz : pvTo v sk zs zs.length = pvTo v sk pre pre.length := by rw [hz.out, pvTo_snoc, if_pos Hskp.out]; omega
      have hcall := Hih.out zs w3 q d us b pb cb m V (by rw [Hlen.out, hzl]; omega) hS3 Hbn.out (by rw [hz.out]; exact partTo_snoc HP.out ⟨fun _ => rfl, fun e => absurd Hskp.out e⟩)
        (fun j hj => by rw [HU.out j hj, hz.out, used_snoc]; exact ⟨.inl, fun h => h.elim id (fun e => absurd Hskp.out e.1)⟩) HF.out (fun x hx y hy => HV.out x hx y ((comp_skip hil Hskp.out y).2 (by rw [← hz.out]; exact hy)))
      rw [hpz, hzl] at hcall
      have Hzl := Lib.hid hzl
      clear hpz hzl hS3 hO2 hg2 hf2 hc2' hfr' hc0 hc1 hc2 hfr
      simp only [Int.natCast_add, Int.cast_ofNat_Int] at hcall
      refine hcall.mono ?_
      rintro e w4 ⟨⟨x, rfl⟩, pn', cn', us', b', pb', cb', m', hS4, hbn4, hU4, hF4⟩
      clear hcall
      have HU4 : Hid (∀ j, j < v.length → (bget us' j = true ↔ Used sk pre j)) := fun k hk => by rw [hU4 k hk, hz.out, used_snoc]; exact ⟨fun h => h.elim id (fun h => absurd Hskp.out h.1), .inl⟩
      clear hU4
      have HF4 := Lib.hid (hF4.congr (W := fun x => V x ∨ Comp v.length sk pre x) (fun x => by rw [hz.out, ← comp_skip hil Hskp.out]))
      obtain ⟨gn, rfl⟩ := hS4.now.some_of (fun e => by have := Hzl.out; rw [e] at this; simp at this)
      have hc2 := hS4.c2
      have hfr := hS4.fr
      rw [Hzl.out] at hc2
      have hshape := hS4.now.shape
      have hcn : (pre.length : Int) ≤ cn' := by
        rcases hshape with ⟨h, _⟩ | ⟨g, _, _, _, h, _⟩
        · cases h
        · have := Hzl.out; omega
      have hcn2 : (cn' : Int) ≤ 9223372036854775807 := by
        rcases hshape with ⟨h, _⟩ | ⟨g, _, _, _, _, h⟩
        · cases h
        · omega
      have hO5 : Own w4 (S + 1) (some ⟨gn, 0, none⟩) cn' pre := by
        have := hS4.now.take (k := pre.length) (by have := Hzl.out; omega) (by simp)
        rwa [show zs.take pre.length = pre by rw [hz.out]; simp] at this
      have HS5 := Lib.hid (hS4.setNow hO5 hS4.sep)
      clear hS4 hshape hF4 hO5
      go_wp2_with fail
      refine bodyPost_ret (results_none rfl _ _ _) rfl ?_
      exact ⟨⟨_, rfl⟩, _, _, _, _, _, _, _, HS5.out, hbn4, HU4.out, HF4.out⟩
    · have hsb : ((pre.length : Int) == sk) = false := by rw [beq_eq_false_iff_ne]; exact hskp
      have Hskp := Lib.hid hskp
      obtain ⟨b2, o2, rfl, hblt, q1, d1, hcr0, hi0⟩ := hx.get hil
      have hcr := (hS.bel.cell (p := ⟨b2, o2 + pre.length, none⟩) hblt).trans hcr0
      have HS := Lib.hid hS
      have HF := Lib.hid hF
      have HP := Lib.hid hP
      have HV := Lib.hid hV
      have HU := Lib.hid hU
      have Hbn := Lib.hid hbn
      clear hskp hS hF hP hV hbn hU
      have Hrl := Lib.hid (hv.2.2 pre.length hil).1
      have Hrv := Lib.hid (hv.2.2 pre.length hil).2
      have hk1 : (pre.length : Int) < v.length := by omega
      go_enter Try.func58, Try.ntmps58
      go_wp2_with fail
      clear hcr hcr0 hc0 hc1 hc2 hfr
      go_loopw [77] (fun t wr => FromR w0 S (some ⟨b2, o2, none⟩) c v sk pre V t wr) (fun t _ => v.length - (intOf t).toNat)
      case atStart => exact ⟨0, Nat.zero_le _, rfl, _, _, _, _, _, _, _, HS.out, Hbn.out, HU.out, HF.out.congr (fun x => ⟨.inl, fun h => h.elim id (fun h => absurd h (compTo_zero hil Hskp.out x))⟩)⟩
      case round =>
        clear HS Hbn HU HF
        obtain ⟨j, hj, rfl, pn, cn, us, b, pb, cb, m, hS, hbn, hU, hF⟩ := hrel
        have HF := Lib.hid hF
        have HU := Lib.hid hU
        have Hbn := Lib.hid hbn
        clear hF hU hbn
        have hir := hi0.below hS.bel (Nat.le_refl _)
        by_cases hjn : j < v.length
        · have hj1 : (j : Int) < (rget v pre.length).length := by have := Hrl.out; omega
          obtain ⟨b3, o3, rfl, _, hcj⟩ := hir.get (j := j) (by have := Hrl.out; omega)
          obtain ⟨hv1, hv2⟩ := Hrv.out j hjn
          have hj6 : j < 6 := by omega
          have hj6' : (j : Int) < 6 := by omega
          have hcu := hS.cu j hj6
          have hfr := hS.fr
          by_cases hub : bget us j = true
          · have HF2 := Lib.hid (HF.out.congr (W := fun x => V x ∨ CompTo v.length sk pre (j + 1) x) (fun x => by
              rw [compTo_succ]
              exact ⟨fun h => h.imp id .inl, fun h => h.imp id (fun h => h.elim id (fun h => absurd h (comp_used hil Hskp.out ((HU.out j hjn).1 hub) x)))⟩))
            rw [hub] at hcu
            have HS := Lib.hid hS
            clear hub hS
            go_wp2_with fail
            go_roundw
            case rel => exact ⟨j + 1, by omega, by go_num, _, _, _, _, _, _, _, HS.out, Hbn.out, HU.out, HF2.out⟩
            case measure => simp [intOf]; omega
          · have hub' : bget us j = false := by simpa using hub
            have hnu : ¬ Used sk pre j := fun h => hub ((HU.out j hjn).2 h)
            rw [hub'] at hcu
            have hS1 := hS.setUsed hj6 true
            have Hul := Lib.hid hS.ul
            have hfree : Hid (((pre.length : Int) = sk → (j : Int) = -1) ∧ ((pre.length : Int) ≠ sk → 0 ≤ (j : Int) ∧ (j : Int) < v.length ∧ ∀ l, l < pre.length → (l : Int) ≠ sk → iget pre l ≠ j)) :=
              ⟨fun e => absurd e Hskp.out, fun _ => ⟨by omega, by omega, fun l hl hs e => hnu ⟨l, hl, hs, e⟩⟩⟩
            have hc2 := hS1.c2
            have hfr1 := hS1.fr
            have hold := hS1.lt
            have HS1 := Lib.hid hS1
            have Hub := Lib.hid hub'
            have Hnu := Lib.hid hnu
            clear hub hub' hS1 hS hnu
            go_wp2_with (at_builtin; refine wpList_app1 rfl (.tmp 98) (.tmp 100) rfl (S + 1) _ _ pre (j : Int) rfl rfl (by simp) HS1.out.now ⟨by omega, by omega⟩ (by omega) hold ?_; intro q d w2 zs hz hO2 hg2 hf2; obtain ⟨hc2', hfr'⟩ := HS1.out.after hg2)
            have hS3 := HS1.out.push (o := .cells #[] 0) hO2 hg2 hf2
            obtain ⟨w3, hw3⟩ : ∃ w3, w3 = w2.setCell ⟨S, 2, none⟩ (.slice q zs.length d) := ⟨_, rfl⟩
            rw [← hw3] at hS3 ⊢
            clear hw3
            have hzl : zs.length = pre.length + 1 := by rw [hz.out, List.length_append]; rfl
            have hpz : pvTo v sk zs zs.length = pvTo v sk pre pre.length + iget (rget v pre.length) j := by rw [hz.out, pvTo_snoc, if_neg Hskp.out]; rfl
            have hcall := Hih.out zs w3 q d (us.set j true) b pb cb m (fun x => V x ∨ CompTo v.length sk pre j x) (by rw [Hlen.out, hzl]; omega) hS3 Hbn.out (by rw [hz.out]; exact partTo_snoc HP.out hfree.out)
              (fun k hk => by
                rw [hz.out, used_snoc, bget_set (by rw [Hul.out]; exact hj6)]
                by_cases e : j = k
                · subst e; simp [Hskp.out]
                · rw [if_neg e, HU.out k hk]
                  exact ⟨.inl, fun h => h.elim id (fun h => absurd h.2 (by omega))⟩) HF.out
              (fun x hx y hy => by
                rw [hz.out, comp_snoc] at hy
                rcases hx with hx | hx
                · exact HV.out x hx y hy.1
                · exact comp_llt hil hx.1 hy.1 (by rw [hy.2]; exact hx.2))
            rw [hpz, hzl] at hcall
            have Hzl := Lib.hid hzl
            clear hpz hzl hS3 hO2 hg2 hf2 hc2' hfr'
            simp only [Int.natCast_add, Int.cast_ofNat_Int] at hcall
            refine hcall.mono ?_
            rintro e w4 ⟨⟨x, rfl⟩, pn', cn', us', b', pb', cb', m', hS4, hbn4, hU4, hF4⟩
            clear hcall
            have HU4 := Lib.hid hU4
            have Hul4 := Lib.hid hS4.ul
            clear hU4
            have HF4 := Lib.hid (hF4.congr (W := fun x => V x ∨ CompTo v.length sk pre (j + 1) x) (fun x => by rw [hz.out, compTo_succ, or_assoc]))
            obtain ⟨gn, rfl⟩ := hS4.now.some_of (fun e => by have := Hzl.out; rw [e] at this; simp at this)
            have hshape := hS4.now.shape
            have hcn : (pre.length : Int) ≤ cn' := by
              rcases hshape with ⟨h, _⟩ | ⟨g, _, _, _, h, _⟩
              · cases h
              · have := Hzl.out; omega
            have hcn2 : (cn' : Int) ≤ 9223372036854775807 := by
              rcases hshape with ⟨h, _⟩ | ⟨g, _, _, _, _, h⟩
              · cases h
              · omega
            have hc2 := hS4.c2
            rw [Hzl.out] at hc2
            have hfr := hS4.fr
            have hO5 : Own w4 (S + 1) (some ⟨gn, 0, none⟩) cn' pre := by
              have := hS4.now.take (k := pre.length) (by have := Hzl.out; omega) (by simp)
              rwa [show zs.take pre.length = pre by rw [hz.out]; simp] at this
            have hS5 := hS4.setNow hO5 hS4.sep
            have hcu5 := hS5.cu j hj6
            have hfr5 := hS5.fr
            have HS6 := Lib.hid (hS5.setUsed hj6 false)
            have HU6 : Hid (∀ k, k < v.length → (bget (us'.set j false) k = true ↔ Used sk pre k)) := fun k hk => by
              rw [bget_set (by rw [Hul4.out]; exact hj6)]
              by_cases e : j = k
              · subst e; simp [Hnu.out]
              · rw [if_neg e, HU4.out k hk, hz.out, used_snoc]
                exact ⟨fun h => h.elim id (fun h => absurd h.2 (by omega)), .inl⟩
            clear hS4 hshape hF4 hO5 hS5
            go_wp2_with fail
            go_roundw
            case rel => exact ⟨j + 1, by omega, by go_num, _, _, _, _, _, _, _, HS6.out, hbn4, HU6.out, HF4.out⟩
            case measure => simp [intOf]; omega
        · have hj1 : ¬ (j : Int) < (rget v pre.length).length := by have := Hrl.out; omega
          obtain rfl : j = v.length := by omega
          have HF2 := Lib.hid (HF.out.congr (W := fun x => V x ∨ Comp v.length sk pre x) (fun x => by rw [compTo_all hil Hskp.out]))
          have HS := Lib.hid hS
          clear hS
          go_wp2_with fail
          refine bodyPost_end (results_none rfl _ _ _) rfl ?_
          exact ⟨⟨_, rfl⟩, _, _, _, _, _, _, _, HS.out, Hbn.out, HU.out, HF2.out⟩
end Go.Proofs.Ytmcncflieoolmaa

/- The walks of assign.best; valid bids. -/
namespace Go.Proofs.Ytmcncflieoolmaa
set_option linter.unusedVariables false
set_option linter.unusedSimpArgs false
open Go.ChangeShapes Go.WideShapes Go.ChangeAt Go.RowKit Go.Deep

/-- There is a list that gives each agent but one an item of its own. -/
theorem part_exists (n : Nat) (sk : Int) : ∃ x, Part n sk x := by
  refine ⟨(List.range n).map fun k : Nat => if (k : Int) = sk then (-1 : Int) else (k : Int), by simp, fun k hk => ?_⟩
  have hg : ∀ k, k < n → iget ((List.range n).map fun k : Nat => if (k : Int) = sk then (-1 : Int) else (k : Int)) k = if (k : Int) = sk then (-1 : Int) else (k : Int) := fun k hk => by simp [iget, hk]
  rw [hg k hk]
  refine ⟨fun e => by rw [if_pos e], fun e => ?_⟩
  rw [if_neg e]
  refine ⟨by omega, by omega, fun l hl hs => ?_⟩
  rw [hg l (by omega), if_neg hs]; omega

/-- What best hands back. -/
def BestP (w : World) (v : List (List Int)) (sk : Int) (e : Ending) (w' : World) : Prop :=
  ∃ p c b, e = .returned (.tuple #[.slice p (b : List Int).length c, .int .i64 (pv v sk b)]) ∧ Own w' w.heap.size p c b ∧ Below w.heap.size w w' ∧ Part v.length sk b ∧ FirstMax (Part v.length sk) (pv v sk) b

theorem ss_start (w : World) (p : Option Addr) (n c : Nat) (sk : Int) :
    SS w (w.alloc (.cells #[.slice p n c, .int .i64 sk, .slice none 0 0, .bool false, .bool false, .bool false, .bool false, .bool false, .bool false, .slice none 0 0, .int .i64 0] 95)) w.heap.size p n c sk [] none 0 (List.replicate 6 false) [] none 0 0 := by
  have hc : ∀ k, (w.alloc (.cells #[.slice p n c, .int .i64 sk, .slice none 0 0, .bool false, .bool false, .bool false, .bool false, .bool false, .bool false, .slice none 0 0, .int .i64 0] 95)).cell? ⟨w.heap.size, k, none⟩ =
      #[.slice p n c, .int .i64 sk, .slice none 0 0, .bool false, .bool false, .bool false, .bool false, .bool false, .bool false, .slice none 0 0, .int .i64 0][k]? := fun k => World.cell?_alloc_at _ _ _ _ rfl
  refine ⟨(Below.refl _ _).alloc (Nat.le_refl _) _, Nat.le_refl _, by simp, hc 0, hc 1, hc 2, fun j hj => ?_, hc 9, hc 10, fun k => World.frozen?_alloc_at _ _ _ _ rfl, Own.ofNil _ _, Own.ofNil _ _, fun _ h => (by cases h), rfl⟩
  rw [hc]
  match j, hj with
  | 0, _ => rfl
  | 1, _ => rfl
  | 2, _ => rfl
  | 3, _ => rfl
  | 4, _ => rfl
  | 5, _ => rfl
theorem comp_nil {n : Nat} {sk : Int} (x : List Int) : Comp n sk [] x ↔ Part n sk x := ⟨fun h => h.1, fun h => ⟨h, fun _ h => (by simp at h)⟩⟩

set_option maxHeartbeats 1600000 in
set_option maxRecDepth 100000 in
theorem best_any (p : Option Addr) (c : Nat) (v : List (List Int)) (sk : Int) (w : World) (hx : Mat w p c v) (hv : Bids v) (hsk : -1 ≤ sk ∧ sk ≤ 6) :
    Calls Try.prog 41 #[.slice p v.length c, .int .i64 sk] w (BestP w v sk) := by
  go_enter Try.func41, Try.ntmps41
  go_wp2_with fail
  have hcall := from_any w w.heap.size p c v sk hx hv hsk v.length [] _ none 0 (List.replicate 6 false) [] none 0 0 (fun _ => False) (by simp) (ss_start w p v.length c sk) (fun _ => rfl) (fun k hk => absurd hk (Nat.not_lt_zero k))
    (fun j hj => by rw [bget_replicate]; exact ⟨fun h => (by cases h), fun ⟨l, hl, _⟩ => absurd hl (Nat.not_lt_zero l)⟩) ⟨.inl ⟨rfl, fun _ h => h⟩, fun _ h => h.elim, .inl ⟨rfl, rfl⟩⟩ (fun _ h => h.elim)
  refine Calls.mono hcall ?_
  rintro e w1 ⟨⟨x, rfl⟩, pn, cn, us, b, pb, cb, m, hS, hbn, hU, hF⟩
  have hF' := hF.congr (W := Part v.length sk) (fun x => by rw [comp_nil]; exact ⟨fun h => h.elim False.elim id, .inr⟩)
  have hPb : Part v.length sk b := by
    rcases hF'.1 with ⟨_, h⟩ | ⟨h, _⟩
    · obtain ⟨x, hx⟩ := part_exists v.length sk; exact absurd hx (h x)
    · exact h
  have hm : m = pv v sk b := by
    rcases hF'.2.2 with ⟨h, _⟩ | ⟨_, h⟩
    · have h1 := hPb.1; rw [h] at h1; have h2 := hv.1; rw [List.length_nil] at h1; omega
    · exact h
  have h9 := hS.c9
  have h10 := hS.c10
  have HF := Lib.hid hF'
  have HP := Lib.hid hPb
  have HO := Lib.hid hS.bst
  have HB := Lib.hid hS.bel
  subst hm
  clear hcall hF hF' hPb hS hU
  go_wp2_with fail
  go_quiet (fail)
  go_wp2_with fail
  go_ret2
  exact ⟨pb, cb, b, rfl, (HO.out.lower (by omega)).drewN _, HB.out.drewN' _, HP.out, HF.out.1⟩
end Go.Proofs.Ytmcncflieoolmaa

/- The walks of slices.IndexFunc and slices.ContainsFunc at slices of integers, for a function that only computes. -/
namespace Go.Proofs.Ytmcncflieoolmaa
set_option linter.unusedVariables false
set_option linter.unusedSimpArgs false
open Go.ChangeShapes Go.WideShapes Go.ChangeAt Go.RowKit Go.Deep

/-- The first index at which P holds, or -1. -/
def firstIdx (P : Int → Bool) (xs : List Int) : Int := match xs.findIdx? P with
  | some k => k
  | none => -1
def anyB (P : Int → Bool) (xs : List Int) : Bool := xs.any P
theorem findIdx?_of {P : Int → Bool} {xs : List Int} {k : Nat} (hk : k < xs.length) (h : P (iget xs k) = true) (hb : ∀ j, j < k → P (iget xs j) = false) : xs.findIdx? P = some k := by
  rw [List.findIdx?_eq_some_iff_getElem]
  refine ⟨hk, by rw [← iget_of hk]; exact h, fun j hj => ?_⟩
  have := hb j hj
  rw [iget_of (by omega)] at this
  simp [this]
theorem findIdx?_none {P : Int → Bool} {xs : List Int} (hb : ∀ j, j < xs.length → P (iget xs j) = false) : xs.findIdx? P = none := by
  rw [List.findIdx?_eq_none_iff]
  intro x hx
  obtain ⟨j, hj, rfl⟩ := List.getElem_of_mem hx
  have := hb j hj
  rwa [iget_of hj] at this
theorem anyB_of {P : Int → Bool} {xs : List Int} {k : Nat} (hk : k < xs.length) (h : P (iget xs k) = true) : anyB P xs = true := List.any_eq_true.2 ⟨_, iget_mem hk, h⟩
theorem anyB_none {P : Int → Bool} {xs : List Int} (hb : ∀ j, j < xs.length → P (iget xs j) = false) : anyB P xs = false := by
  unfold anyB
  rw [List.any_eq_false]
  intro x hx
  obtain ⟨j, hj, rfl⟩ := List.getElem_of_mem hx
  have := hb j hj
  rw [iget_of hj] at this
  simp [this]
theorem firstIdx_any (P : Int → Bool) (xs : List Int) : decide (0 ≤ firstIdx P xs) = anyB P xs := by
  unfold firstIdx anyB
  cases h : xs.findIdx? P with
  | none =>
    rw [List.findIdx?_eq_none_iff] at h
    symm
    simp
    intro x hx; simpa using h x hx
  | some k =>
    rw [List.findIdx?_eq_some_iff_getElem] at h
    obtain ⟨h1, h2, _⟩ := h
    have : (xs.any P) = true := List.any_eq_true.2 ⟨_, List.getElem_mem h1, h2⟩
    simp [this]

set_option maxHeartbeats 800000 in
theorem indexFunc_any (K : Nat) (P : Int → Bool) (hcf : ∀ args W, (callFunc K args).run Try.prog W = .ok (.enter K args) W) (hf : ∀ x W, in64 x → Calls Try.prog K #[.int .i64 x] W fun e w' => e = .returned (.bool (P x)) ∧ w' = W) (p : Option Addr) (c : Nat) (xs : List Int) (w : World) (hx : Ints w p c xs) :
    Calls Try.prog 59 #[.slice p xs.length c, .func (.func K) #[] #[]] w fun e w' => e = .returned (.int .i64 (firstIdx P xs)) ∧ w' = w := by
  have hl1 := hx.length_le
  have Hf := Lib.hid hf
  clear hf
  go_enter Try.func59, Try.ntmps59
  go_wp2_with fail
  go_loop [8] (fun t => ∃ k : Nat, k ≤ xs.length ∧ t = .int .i64 k ∧ Hid (∀ j, j < k → P (iget xs j) = false)) (fun t => xs.length - (intOf t).toNat)
  case atStart => exact ⟨0, Nat.zero_le _, rfl, fun j hj => absurd hj (Nat.not_lt_zero j)⟩
  case round =>
    obtain ⟨k, hk, rfl, ht⟩ := hrel
    by_cases hlt : k < xs.length
    · obtain ⟨b, o, rfl, _, hc⟩ := hx.get hlt
      have hk1 : (k : Int) < xs.length := by omega
      have hin := hx.rng k hlt
      go_wp2_with fail
      refine (Hf.out _ _ hin).mono ?_
      rintro e w' ⟨rfl, rfl⟩
      cases hP : P (iget xs k) with
      | true =>
        have HP := Lib.hid hP
        clear hP
        go_wp2_with fail
        go_ret
        refine ⟨ret_int ?_, rfl⟩
        simp only [firstIdx, findIdx?_of hlt HP.out ht.out]
      | false =>
        have HP := Lib.hid hP
        clear hP
        go_wp2_with fail
        go_round
        case rel => exact ⟨k + 1, by omega, by go_num, snoc_all' ht.out HP.out⟩
        case measure => simp [intOf]; omega
    · have hk1 : ¬ (k : Int) < xs.length := by omega
      go_wp2_with fail
      go_ret
      refine ⟨ret_int ?_, rfl⟩
      simp only [firstIdx, findIdx?_none (fun j hj => ht.out j (by omega))]

set_option maxHeartbeats 400000 in
theorem containsFunc_any (K : Nat) (P : Int → Bool) (hcf : ∀ args W, (callFunc K args).run Try.prog W = .ok (.enter K args) W) (hf : ∀ x W, in64 x → Calls Try.prog K #[.int .i64 x] W fun e w' => e = .returned (.bool (P x)) ∧ w' = W) (p : Option Addr) (c : Nat) (xs : List Int) (w : World) (hx : Ints w p c xs) :
    Calls Try.prog 42 #[.slice p xs.length c, .func (.func K) #[] #[]] w fun e w' => e = .returned (.bool (anyB P xs)) ∧ w' = w := by
  have HA := Lib.hid (firstIdx_any P xs)
  go_enter Try.func42, Try.ntmps42
  go_wp2_with fail
  refine (indexFunc_any K P hcf hf p c xs w hx).mono ?_
  rintro e w' ⟨rfl, rfl⟩
  go_wp2_with fail
  go_ret
  exact ⟨ret_bool HA.out, rfl⟩
def oddBid (x : Int) : Bool := decide (x < 0 ∨ 1000000 < x)
theorem enter_oddBid (args : Array Value) (W : World) : (callFunc 57 args).run Try.prog W = .ok (.enter 57 args) W := by kernel_rfl
set_option maxHeartbeats 400000 in
theorem oddBid_any (x : Int) (w : World) (hx : in64 x) : Calls Try.prog 57 #[.int .i64 x] w fun e w' => e = .returned (.bool (oddBid x)) ∧ w' = w := by
  obtain ⟨h1, h2⟩ := hx
  by_cases hlow : x < 0
  · have hd : decide (x < 0) = true := by simpa using hlow
    go_enter Try.func57, Try.ntmps57
    go_wp2_with fail
    go_ret
    exact ⟨ret_bool (by simp [oddBid, hlow]), rfl⟩
  · have hd : decide (x < 0) = false := by simpa using hlow
    go_enter Try.func57, Try.ntmps57
    go_wp2_with fail
    go_ret
    exact ⟨ret_bool (by unfold oddBid; rw [Bool.eq_iff_iff, decide_eq_true_iff, decide_eq_true_iff]; omega), rfl⟩
end Go.Proofs.Ytmcncflieoolmaa
