/- What a text that runs straight on holds: rows, tables, lists of tables, under one name; literals, calls; no condition but sizes. -/
import Derived.Test.YtmcncflieoolmaaGreatTopTopGoodsm2
import Derived.Maps.RangeWalk
import Derived.RangeFuncOwn
import Derived.Test.YtmcncflieoolmaaGreatTopTopGoodsm38
import Derived.Test.YtmcncflieoolmaaGreatTopTopGoodsm39
import Derived.Test.YtmcncflieoolmaaGreatTopTopGoodsm33
import Derived.Test.YtmcncflieoolmaaGreatTopTopGoodsm34
import Derived.Test.YtmcncflieoolmaaGreatTopTopGoodsm15
import Derived.Test.YtmcncflieoolmaaGreatTopTopGoodsm11
import Derived.Test.YtmcncflieoolmaaGreatTopTopGoodsm24
/- What a text that runs straight on holds: rows, tables, lists of tables, under one name; literals, calls; no condition but sizes. -/
namespace Go.Proofs.YtmcncflieoolmaaGreat
open Go.ChangeShapes Go.WideShapes Go.ChangeAt Go.RowKit Go.Deep
set_option linter.unusedVariables false
set_option linter.unusedSimpArgs false

def in64B (x : Int) : Bool := decide (-9223372036854775808 ≤ x) && decide (x ≤ 9223372036854775807)
theorem in64_all {xs : List Int} (h : xs.all in64B = true) : ∀ x ∈ xs, in64 x := fun x hx => by
  have := List.all_eq_true.1 h x hx
  simp [in64B] at this
  exact this
theorem ints_lit (w : World) (xs : List Int) (hsz : xs.length ≤ 1000000) (hr : ∀ x ∈ xs, in64 x) :
    Ints (w.alloc (.cells (xs.map (Value.int .i64)).toArray 3)) (some ⟨w.heap.size, 0, none⟩) xs.length xs :=
  (Own.lit w w.heap.size (Nat.le_refl _) xs hsz (fun j hj => hr _ (iget_mem hj))).ints
inductive Item where
  | ints (p : Option Addr) (n c : Nat) (xs : List Int)
  | mat (p : Option Addr) (n c : Nat) (v : List (List Int))
  | mats (b : Nat) (vs : List Value) (ms : List (List (List Int)))
  | box (b : Nat) (vs : List Value)
def Item.ok (w : World) : Item → Prop
  | .ints p n c xs => xs.length = n ∧ Ints w p c xs
  | .mat p n c v => v.length = n ∧ Mat w p c v
  | .mats b vs ms => vs.length = ms.length ∧ b < w.heap.size ∧ ∀ (j : Nat) (v : List (List Int)), ms[j]? = some v → ∃ p c, w.cell? ⟨b, j, none⟩ = some (.slice p v.length c) ∧ vs[j]? = some (.slice p v.length c) ∧ Mat w p c v
  | .box b vs => b < w.heap.size ∧ ∀ (j : Nat) (u : Value), vs[j]? = some u → w.cell? ⟨b, j, none⟩ = some u
theorem Item.ok_below {w w' : World} {i : Item} (h : i.ok w) (hb : Below w.heap.size w w') : i.ok w' := by
  cases i with
  | ints p n c xs => exact ⟨h.1, Ints.below h.2 hb (Nat.le_refl _)⟩
  | mat p n c v => exact ⟨h.1, Mat.below h.2 hb (Nat.le_refl _)⟩
  | mats b vs ms =>
    obtain ⟨h0, h1, h2⟩ := h
    refine ⟨h0, Nat.lt_of_lt_of_le h1 hb.size, fun j v hm => ?_⟩
    obtain ⟨p, c, h3, h4, h5⟩ := h2 j v hm
    exact ⟨p, c, (hb.cell (p := ⟨b, j, none⟩) h1).trans h3, h4, h5.below hb (Nat.le_refl _)⟩
  | box b vs => exact ⟨Nat.lt_of_lt_of_le h.1 hb.size, fun j u hj => (hb.cell (p := ⟨b, j, none⟩) h.1).trans (h.2 j u hj)⟩
/-- The items of these numbers are rows: what they hold, and their values. -/
inductive RowsAt (l : List Item) : List Nat → List (List Int) → List Value → Prop where
  | nil : RowsAt l [] [] []
  | cons {k : Nat} {ks : List Nat} {p : Option Addr} {n c : Nat} {x : List Int} {v : List (List Int)} {vs : List Value} (h : l[k]? = some (.ints p n c x)) (t : RowsAt l ks v vs) : RowsAt l (k :: ks) (x :: v) (.slice p n c :: vs)
  | nul {k : Nat} {ks : List Nat} {v : List (List Int)} {vs : List Value} (t : RowsAt l ks v vs) : RowsAt l (k :: ks) ([] :: v) (.slice none 0 0 :: vs)
inductive MatsAt (l : List Item) : List Nat → List (List (List Int)) → List Value → Prop where
  | nil : MatsAt l [] [] []
  | cons {k : Nat} {ks : List Nat} {p : Option Addr} {n c : Nat} {x : List (List Int)} {v : List (List (List Int))} {vs : List Value} (h : l[k]? = some (.mat p n c x)) (t : MatsAt l ks v vs) : MatsAt l (k :: ks) (x :: v) (.slice p n c :: vs)
  | nul {k : Nat} {ks : List Nat} {v : List (List (List Int))} {vs : List Value} (t : MatsAt l ks v vs) : MatsAt l (k :: ks) ([] :: v) (.slice none 0 0 :: vs)
theorem RowsAt.spec {l : List Item} {w : World} (hl : ∀ i ∈ l, i.ok w) {ks : List Nat} {v : List (List Int)} {vs : List Value} (h : RowsAt l ks v vs) :
    vs.length = v.length ∧ ∀ (j : Nat) (x : List Int), v[j]? = some x → ∃ p c, vs[j]? = some (Value.slice p x.length c) ∧ Ints w p c x := by
  induction h with
  | nil => exact ⟨rfl, fun j x h => (by simp at h)⟩
  | cons h t ih =>
    refine ⟨by simp [ih.1], fun j x hj => ?_⟩
    cases j with
    | zero =>
      simp at hj; subst hj
      obtain ⟨h1, h2⟩ := hl _ (List.mem_of_getElem? h)
      exact ⟨_, _, by rw [h1]; rfl, h2⟩
    | succ j => exact ih.2 j x (by simpa using hj)
  | nul t ih =>
    refine ⟨by simp [ih.1], fun j x hj => ?_⟩
    cases j with
    | zero => simp at hj; subst hj; exact ⟨none, 0, rfl, Ints.ofNil w⟩
    | succ j => exact ih.2 j x (by simpa using hj)
theorem MatsAt.spec {l : List Item} {w : World} (hl : ∀ i ∈ l, i.ok w) {ks : List Nat} {v : List (List (List Int))} {vs : List Value} (h : MatsAt l ks v vs) :
    vs.length = v.length ∧ ∀ (j : Nat) (x : List (List Int)), v[j]? = some x → ∃ p c, vs[j]? = some (Value.slice p x.length c) ∧ Mat w p c x := by
  induction h with
  | nil => exact ⟨rfl, fun j x h => (by simp at h)⟩
  | cons h t ih =>
    refine ⟨by simp [ih.1], fun j x hj => ?_⟩
    cases j with
    | zero =>
      simp at hj; subst hj
      obtain ⟨h1, h2⟩ := hl _ (List.mem_of_getElem? h)
      exact ⟨_, _, by rw [h1]; rfl, h2⟩
    | succ j => exact ih.2 j x (by simpa using hj)
  | nul t ih =>
    refine ⟨by simp [ih.1], fun j x hj => ?_⟩
    cases j with
    | zero => simp at hj; subst hj; exact ⟨none, 0, rfl, Mat.ofNil w⟩
    | succ j => exact ih.2 j x (by simpa using hj)
theorem mat_new (w : World) (v : List (List Int)) (vs : List Value) (hsz : v.length ≤ 1000000) (hl : vs.length = v.length) (h : ∀ (j : Nat) (x : List Int), v[j]? = some x → ∃ p c, vs[j]? = some (Value.slice p x.length c) ∧ Ints w p c x) :
    Mat (w.alloc (.cells vs.toArray 25)) (some ⟨w.heap.size, 0, none⟩) v.length v := by
  have hb : Below w.heap.size w (w.alloc (.cells vs.toArray 25)) := (Below.refl _ w).alloc (Nat.le_refl _) _
  have hn := World.alloc_heap_new w (.cells vs.toArray 25)
  refine ⟨Nat.le_refl _, by omega, fun h => (by cases h), ?_, ?_⟩
  · rintro a ⟨⟩ _
    exact ⟨rfl, by simp⟩
  · rintro b o ⟨⟩ j hj
    obtain ⟨p, c, h1, h2⟩ := h j (rget v j) (by rw [rget_of hj]; simp [hj])
    refine ⟨p, c, ?_, h2.below hb (Nat.le_refl _)⟩
    simp only [World.cell?]
    rw [hn, Nat.zero_add]
    simp [h1]

/-- In w, of B blocks, the items read as they say; what lay in w0 lies as it lay. -/
structure St (w0 w : World) (B : Nat) (l : List Item) : Prop where
  size : w.heap.size = B
  bel : Below w0.heap.size w0 w
  all : ∀ i ∈ l, i.ok w
theorem St.start (w : World) : St w w w.heap.size [] := ⟨rfl, Below.refl _ _, fun _ h => (by cases h)⟩
section
variable {w0 w : World} {B : Nat} {l : List Item}
theorem St.step {w' : World} (h : St w0 w B l) (hb : Below w.heap.size w w') : St w0 w' w'.heap.size l :=
  ⟨rfl, h.bel.trans (hb.mono h.bel.size), fun i hi => Item.ok_below (h.all i hi) hb⟩
theorem St.drew {w' : World} (h : St w0 w B l) (hw : ∃ n, w' = w.drewN n) : St w0 w' w'.heap.size l := by
  obtain ⟨n, rfl⟩ := hw; exact h.step (below_drewN _ _ _)
theorem St.add (h : St w0 w B l) (i : Item) (hi : i.ok w) : St w0 w B (i :: l) :=
  ⟨h.size, h.bel, fun j hj => by
    rcases List.mem_cons.1 hj with rfl | hj
    · exact hi
    · exact h.all j hj⟩
theorem St.addI {n c : Nat} {p : Option Addr} {xs : List Int} (h : St w0 w B l) (hn : xs.length = n) (hi : Ints w p c xs) : St w0 w B (.ints p n c xs :: l) := h.add _ ⟨hn, hi⟩
theorem St.addM {n c : Nat} {p : Option Addr} {v : List (List Int)} (h : St w0 w B l) (hn : v.length = n) (hi : Mat w p c v) : St w0 w B (.mat p n c v :: l) := h.add _ ⟨hn, hi⟩
theorem St.intsAt (h : St w0 w B l) (k : Nat) {p : Option Addr} {n c : Nat} {xs : List Int} (hk : l[k]? = some (.ints p n c xs)) : Ints w p c xs := (h.all _ (List.mem_of_getElem? hk)).2
theorem St.matAt (h : St w0 w B l) (k : Nat) {p : Option Addr} {n c : Nat} {v : List (List Int)} (hk : l[k]? = some (.mat p n c v)) : Mat w p c v := (h.all _ (List.mem_of_getElem? hk)).2
theorem St.bump (h : St w0 w B l) (o : Obj) : St w0 (w.alloc o) (B + 1) l :=
  ⟨by simp [h.size], h.bel.alloc h.bel.size _, fun i hi => Item.ok_below (h.all i hi) ((Below.refl _ _).alloc (Nat.le_refl _) _)⟩
/-- A new block of known cells. -/
theorem St.box (h : St w0 w B l) (vs : List Value) (T : TypeId) : St w0 (w.alloc (.cells vs.toArray T)) (B + 1) (.box B vs :: l) :=
  (h.bump _).add _ ⟨by simp [h.size], fun j u hj => by rw [← h.size]; exact (World.cell?_alloc_at _ _ _ _ rfl).trans (by simpa using hj)⟩
theorem St.boxAt (h : St w0 w B l) (k j : Nat) {b : Nat} {vs : List Value} {u : Value} (hk : l[k]? = some (.box b vs)) (hj : vs[j]? = some u) : w.cell? ⟨b, j, none⟩ = some u := (h.all _ (List.mem_of_getElem? hk)).2 j u hj
theorem St.boxLt (h : St w0 w B l) (k : Nat) {b : Nat} {vs : List Value} (hk : l[k]? = some (.box b vs)) : b < w.heap.size := (h.all _ (List.mem_of_getElem? hk)).1
/-- '[]int{..}'. -/
theorem St.lit (h : St w0 w B l) (xs : List Int) (n : Nat) (hn : xs.length = n := by rfl) (hsz : n ≤ 1000 := by decide) (hr : xs.all in64B = true := by decide +kernel) :
    St w0 (w.alloc (.cells (xs.map (Value.int .i64)).toArray 3)) (B + 1) (.ints (some ⟨B, 0, none⟩) n n xs :: l) :=
  (h.bump _).add _ ⟨hn, by subst hn; rw [← h.size]; exact ints_lit w xs (by omega) (in64_all hr)⟩
/-- '[][]int{..}', its rows being items (by their numbers). -/
theorem St.litM (h : St w0 w B l) {ks : List Nat} {v : List (List Int)} {vs : List Value} (hm : RowsAt l ks v vs) (n : Nat) (hn : v.length = n := by rfl) (hsz : n ≤ 1000 := by decide) :
    St w0 (w.alloc (.cells vs.toArray 25)) (B + 1) (.mat (some ⟨B, 0, none⟩) n n v :: l) :=
  (h.bump _).add _ ⟨hn, by
    subst hn; rw [← h.size]
    obtain ⟨h1, h2⟩ := hm.spec h.all
    exact mat_new w v vs (by omega) h1 h2⟩
/-- What goes on: the items, in every world that keeps what lies. -/
theorem St.frame (h : St w0 w B l) : ∃ G : World → Prop, G w ∧ Hid (∀ a b, G a → Below a.heap.size a b → G b) ∧ Hid (∀ a, G a → St w0 a a.heap.size l) :=
  ⟨fun a => St w0 a a.heap.size l, ⟨rfl, h.bel, h.all⟩, fun a b ha hb => ha.step hb, fun a ha => ha⟩
end
end Go.Proofs.YtmcncflieoolmaaGreat

/- The example of the top's alive24: what each division gives (plain), and the contracts of the calls there. -/
namespace Go.Proofs.YtmcncflieoolmaaGreat
set_option linter.unusedVariables false
set_option linter.unusedSimpArgs false
open Go.ChangeShapes Go.WideShapes Go.ChangeAt Go.RowKit Go.Deep

def PV : List (List Int) := [[6, 3, 1], [2, 3, 5]]
theorem pv_gds : Gds PV := by decide +kernel
set_option maxHeartbeats 800000 in
theorem pair_any (w : World) : Calls Tryz.prog 20 #[] w fun e w' => ∃ p c, e = .returned (.agg #[.slice p 2 c]) ∧ Mat w' p c PV ∧ Below w.heap.size w w' := by
  go_enter Tryz.func20, Tryz.ntmps20
  have hS := (((((St.start w).bump (.cells #[.slice (some ⟨w.heap.size + 1 + 1 + 1, 0, none⟩) 2 2] 24)).lit [6, 3, 1] 3).lit [2, 3, 5] 3).litM (ks := [1, 0]) (.cons rfl (.cons rfl .nil)) 2)
  go_wp2
  exact bodyPost_ret (v := .agg #[.slice (some ⟨w.heap.size + 1 + 1 + 1, 0, none⟩) 2 2]) (by simp [results, Tryz.results20, go_sem]) rfl ⟨_, _, rfl, hS.matAt 0 rfl, hS.bel⟩
/-- Picking in rounds. -/
theorem pv_free0 : FreeR (envE PV [-1, -1, -1]) 2 0 := .inr ⟨0, rfl, by decide, by decide +kernel, by decide +kernel⟩
theorem pv_free1 : FreeR (envE PV [0, -1, -1]) 2 1 := .inr ⟨1, rfl, by decide, by decide +kernel, by decide +kernel⟩
theorem pv_free2 : FreeR (envE PV [0, 1, -1]) 2 0 := .inr ⟨0, rfl, by decide, by decide +kernel, by decide +kernel⟩
theorem pv_free3 : FreeR (envE PV [0, 1, 0]) 2 1 := .inr ⟨1, rfl, by decide, by decide +kernel, by decide +kernel⟩
theorem pv_run {o a : List Int} (h : RunTo PV o a) : (o = [] → a = [-1, -1, -1]) ∧ (o = [0] → a = [0, -1, -1]) ∧ (o = [0, 1] → a = [0, 1, -1]) ∧ (o = [0, 1, 2] → a = [0, 1, 0]) := by
  induction h with
  | start => exact ⟨fun _ => rfl, fun h => (by cases h), fun h => (by cases h), fun h => (by cases h)⟩
  | @pass o a c m i h1 h2 h3 h4 h5 ih =>
    refine ⟨fun e => ?_, fun e => ?_, fun e => ?_, fun e => ?_⟩
    · have := ih.1 e; subst this; have := FreeR.uniq h2 pv_free0; omega
    · have := ih.2.1 e; subst this; have := FreeR.uniq h2 pv_free1; omega
    · have := ih.2.2.1 e; subst this; have := FreeR.uniq h2 pv_free2; omega
    · have := ih.2.2.2 e; subst this; have := FreeR.uniq h2 pv_free3; omega
  | @give o a z g h1 h2 h3 ih =>
    have hs : ∀ (p : List Int) (x : Int), o ++ [g] = p ++ [x] → o = p ∧ g = x := fun p x e => by
      have := List.append_inj' e rfl
      exact ⟨this.1, by simpa using this.2⟩
    refine ⟨fun e => absurd e (by simp), fun e => ?_, fun e => ?_, fun e => ?_⟩
    · obtain ⟨e1, e2⟩ := hs [] 0 e
      have := ih.1 e1; subst this; subst e2
      have := FreeR.uniq h2 pv_free0; subst this; rfl
    · obtain ⟨e1, e2⟩ := hs [0] 1 e
      have := ih.2.1 e1; subst this; subst e2
      have := FreeR.uniq h2 pv_free1; subst this; rfl
    · obtain ⟨e1, e2⟩ := hs [0, 1] 2 e
      have := ih.2.2.1 e1; subst this; subst e2
      have := FreeR.uniq h2 pv_free2; subst this; rfl
/-- The Nash allocation. -/
theorem pv_nash {B : List Int} (hD : DigL 2 3 B) (h : keyLe PV [0, 1, 1] B) : B = [0, 1, 1] := by
  obtain ⟨hl, hd⟩ := hD
  match B, hl with
  | [x, y, z], _ =>
    have h0 : x = 0 ∨ x = 1 := by have := hd 0 (by omega); simp [iget] at this; omega
    have h1 : y = 0 ∨ y = 1 := by have := hd 1 (by omega); simp [iget] at this; omega
    have h2 : z = 0 ∨ z = 1 := by have := hd 2 (by omega); simp [iget] at this; omega
    have key : ∀ x ∈ [(0 : Int), 1], ∀ y ∈ [(0 : Int), 1], ∀ z ∈ [(0 : Int), 1], (nCnt PV [0, 1, 1] < nCnt PV [x, y, z] ∨ (nCnt PV [0, 1, 1] = nCnt PV [x, y, z] ∧ nPrd PV [0, 1, 1] ≤ nPrd PV [x, y, z])) → [x, y, z] = [0, 1, 1] := by decide +kernel
    exact key x (by simp; omega) y (by simp; omega) z (by simp; omega) h
/-- Turns. -/
theorem pv_pick : pkA PV [0, 1, 0] 3 = [0, 0, 1] := by decide +kernel
theorem pv_turns : chkT 2 [0, 1, 0] = 0 := by decide +kernel
/-- The adjusted division. -/
theorem pv_ord {L : List Int} (h : OrdS PV L) : L = [1, 0] := by
  have hr : rcA PV = 0 := by decide +kernel
  have hm := h.mem
  have ha := h.all
  have hn := h.nod
  have hs := h.srt
  rw [hr] at hm ha hs
  have hmem : ∀ s, s < L.length → iget L s = 0 ∨ iget L s = 1 := fun s hs => by
    obtain ⟨h1, h2, h3, _⟩ := hm s hs
    have e : wid PV = 3 := rfl
    rw [e] at h2
    by_cases e2 : iget L s = 2
    · rw [e2] at h3
      have : iget (owA PV) 2 = 1 := by decide +kernel
      have h4 : iget (owA PV) (Int.toNat 2) = ((0 : Nat) : Int) := h3
      have h5 : iget (owA PV) (Int.toNat 2) = iget (owA PV) 2 := rfl
      omega
    · omega
  obtain ⟨s0, l0, e0⟩ := ha 0 (by decide) (by decide +kernel) (by decide +kernel)
  obtain ⟨s1, l1, e1⟩ := ha 1 (by decide) (by decide +kernel) (by decide +kernel)
  have hne : s0 ≠ s1 := fun e => by subst e; omega
  have hlen : L.length = 2 := by
    apply Classical.byContradiction
    intro hne2
    -- a third place would hold one of the two again
    obtain ⟨t, ht, h1, h2⟩ : ∃ t, t < L.length ∧ t ≠ s0 ∧ t ≠ s1 := by
      by_cases a0 : s0 ≠ 0 ∧ s1 ≠ 0
      · exact ⟨0, by omega, fun e => a0.1 e.symm, fun e => a0.2 e.symm⟩
      · by_cases a1 : s0 ≠ 1 ∧ s1 ≠ 1
        · exact ⟨1, by omega, fun e => a1.1 e.symm, fun e => a1.2 e.symm⟩
        · exact ⟨2, by omega, by omega, by omega⟩
    rcases hmem t ht with e | e
    · exact h1 (hn t s0 ht l0 (by omega))
    · exact h2 (hn t s1 ht l1 (by omega))
  match L, hlen with
  | [x, y], _ =>
    have hx := hmem 0 (by simp)
    have hy := hmem 1 (by simp)
    have hxy : iget [x, y] 0 ≠ iget [x, y] 1 := fun e => by have := hn 0 1 (by simp) (by simp) e; omega
    have hs0 := hs 0 (by simp)
    have ex : iget [x, y] 0 = x := rfl
    have ey : iget [x, y] 1 = y := rfl
    rw [ex] at hx hxy
    rw [ey] at hy hxy
    rcases hx with e | e
    · have e2 : y = 1 := by omega
      subst e; subst e2
      have : ¬ (iget (rget PV 0) (iget [0, 1] 0).toNat * iget (rget PV (1 - 0)) (iget [0, 1] (0 + 1)).toNat ≤ iget (rget PV 0) (iget [0, 1] (0 + 1)).toNat * iget (rget PV (1 - 0)) (iget [0, 1] 0).toNat) := by decide +kernel
      exact absurd hs0 this
    · have e2 : y = 0 := by omega
      subst e; subst e2; rfl
theorem pv_div {A : List Int} {s pn pd : Int} (h : DivIs PV A s pn pd) : A = [0, 0, 1] ∧ s = 1 ∧ pn = 1 ∧ pd = 3 := by
  obtain ⟨L, t, hL, h⟩ := h
  have := pv_ord hL
  subst this
  have m0 : moreA PV (mvA PV [1, 0] 0) = 4 := by decide +kernel
  have m1 : moreA PV (mvA PV [1, 0] 1) = -2 := by decide +kernel
  have m2 : moreA PV (mvA PV [1, 0] 2) = -10 := by decide +kernel
  rcases h with ⟨ht, hm, _⟩ | ⟨ht, hm, x, P, hx, hlt, hP, e1, e2, e3, e4⟩
  · have ht : t ≤ 2 := ht
    rcases (show t = 0 ∨ t = 1 ∨ t = 2 by omega) with e | e | e <;> subst e <;> omega
  · have ht : t < 2 := ht
    rcases (show t = 0 ∨ t = 1 by omega) with e | e
    · subst e
      have hr : rcA PV = 0 := by decide +kernel
      have hx6 : x = 6 := by
        have : iget (rget PV (rcA PV)) (iget [1, 0] 0).toNat + iget (rget PV (1 - rcA PV)) (iget [1, 0] 0).toNat = 6 := by decide +kernel
        omega
      subst hx6
      rw [hr, if_neg (by omega), m0] at hP
      have hP2 : P = 2 := by omega
      subst hP2
      refine ⟨by rw [e1]; decide +kernel, by rw [e2]; rfl, by rw [e3]; decide +kernel, by rw [e4]; decide +kernel⟩
    · subst e; omega
theorem pv_value : ratV (sv0 PV [0, 0, 1] 1 1 3 3) (Int.toNat 3) = .agg #[.int .i64 7, .int .i64 1] ∧ ratV (sv1 PV [0, 0, 1] 1 1 3 3) (Int.toNat 3) = .agg #[.int .i64 7, .int .i64 1] := by
  have h0 : sv0 PV [0, 0, 1] 1 1 3 3 = 21 := by decide +kernel
  have h1 : sv1 PV [0, 0, 1] 1 1 3 3 = 21 := by decide +kernel
  have h2 : rN 21 3 = 7 := by decide +kernel
  have h3 : rD 21 3 = 1 := by decide +kernel
  rw [h0, h1, show Int.toNat 3 = 3 from rfl]
  unfold ratV
  rw [h2, h3]
  exact ⟨rfl, rfl⟩
end Go.Proofs.YtmcncflieoolmaaGreat

/- XInv's law with guards: an operation that is not wanted is passed over; no condition but that operations wait for earlier ones alone. -/
namespace Go.Proofs.YtmcncflieoolmaaGreat
set_option linter.unusedVariables false
set_option linter.unusedSimpArgs false
open Go.ChangeShapes Go.WideShapes Go.ChangeAt Go.RowKit Go.Deep

def backG (ops : Array Oper) : Bool := (List.range ops.size).all fun i => match ops[i]? with
  | some o => (onL o).all (fun k => decide (k < i))
  | none => true
theorem want_yes {W : Bool} {A X : Prop} (h : W = true) (p : A) : (W = true → A) ∧ (W = false → X) := ⟨fun _ => p, fun h2 => absurd (h.symm.trans h2) (by decide)⟩
theorem wanted_of {ops : Array Oper} {tmps : Array Value} {o : Oper} {g slot : Nat} {b t : Bool} (hg : o.guard = some (g, b)) (hs : (ops[g]?).bind (·.dst) = some slot) (e : tmps[slot]?.getD undef = .bool t) : Region.wanted o (yielded ops tmps) = (t == b) := by
  have e2 : tmps[slot]? = some (.bool t) := by
    cases h : tmps[slot]? with
    | none => rw [h] at e; cases e
    | some x => rw [h] at e; exact congrArg some e
  simp only [Region.wanted, hg, yielded, hs, Option.bind_some, e2]
  cases t <;> cases b <;> rfl
section
variable {P : Program} {ops : Array Oper} {Q : Exit → Act → World → Prop}
theorem backG_spec (hb : backG ops = true) {i : Nat} {o : Oper} (h : ops[i]? = some o) : ∀ e ∈ o.after, Region.binds .any e = true → e.on < i := by
  have hlt : i < ops.size := (Array.getElem?_eq_some_iff.1 h).1
  have := List.all_eq_true.1 hb i (List.mem_range.2 hlt)
  simp only [h] at this
  intro e he hbi
  have h2 := List.all_eq_true.1 this e.on (List.mem_map.2 ⟨e, List.mem_filter.2 ⟨by simpa using he, hbi⟩, rfl⟩)
  simpa using h2
theorem all_listedG (hb : backG ops = true) {listed : Array Bool} (hs : listed.size = ops.size) (hr : Region.ready .any ops listed = []) : ∀ k, k < ops.size → listed.getD k false = true := by
  intro k
  induction k using Nat.strongRecOn with
  | _ k ih =>
    intro hk
    cases hl : listed.getD k false with
    | true => rfl
    | false =>
      have hm : k ∈ Region.ready .any ops listed := by
        rw [mem_ready]
        have hks : k < listed.size := by omega
        refine ⟨by simp [hks] at hl ⊢; exact hl, ops[k], by simp [hk], fun e he hbi => ?_⟩
        have := (backG_spec hb (i := k) (o := ops[k]) (by simp [hk])) e he hbi
        exact ih e.on this (by omega)
      rw [hr] at hm; cases hm
theorem wpAny_invG (hb : backG ops = true) (hn : ((slotL 0 ops.toList).map (·.2)).Nodup) (a : Act) (J : (Nat → Value) → (Nat → Prop) → World → Prop)
    (hstep : ∀ us D w i o A, A = actL ops a us → ops[i]? = some o → J us D w → ¬ D i → (∀ k ∈ onL o, D k) → ∀ K : Act → World → Prop, (∀ v w', J (upd us i v) (fun k => k = i ∨ D k) w' → K (A.put o.dst v) w') → (Region.wanted o (yielded ops A.tmps) = true → o.wp P A w K Q) ∧ (Region.wanted o (yielded ops A.tmps) = false → K (A.put o.dst undef) w))
    (hend : ∀ us D w, J us D w → (∀ k, k < ops.size → D k) → Q .normal (actL ops a us) w) :
    ∀ (fuel : Nat) (listed : Array Bool) (us : Nat → Value) (w : World), listed.size = ops.size → listed.toList.count false ≤ fuel → J us (fun k => listed.getD k false = true) w → wpAny P .any ops Q fuel listed (actL ops a us) w := by
  have hput : ∀ us i o v, ops[i]? = some o → (actL ops a us).put o.dst v = actL ops a (upd us i v) := fun us i o v h => by
    have hl : ops.toList[i]? = some o := by simpa using h
    cases hd : o.dst with
    | none =>
      have hoff : putL (slotL 0 ops.toList) a.tmps (upd us i v) = putL (slotL 0 ops.toList) a.tmps us := putL_off _ _ _ _ _ fun d hm => by
        obtain ⟨_, o', h1, h2⟩ := slotL_idx _ _ _ _ hm
        rw [Nat.sub_zero, hl] at h1
        cases h1
        rw [hd] at h2; cases h2
      simp only [Act.put, actL, hoff]
    | some d =>
      have hm := slotL_mem ops.toList 0 i o d hl hd
      rw [Nat.zero_add] at hm
      have := putL_put _ a.tmps us i d v (slotL_nodup _ _) hn hm
      simp only [Act.put, actL, this]
  intro fuel
  induction fuel with
  | zero =>
    intro listed us w hs hc hJ
    have hall : ∀ k, k < ops.size → listed.getD k false = true := fun k hk => by
      cases hl : listed.getD k false with
      | true => rfl
      | false =>
        have hks : k < listed.size := by omega
        have h1 : listed[k] = false := by simpa [hks] using hl
        have := List.count_pos_iff.2 (show false ∈ listed.toList by rw [← h1]; simp)
        omega
    refine ⟨?_, hend us _ w hJ hall⟩
    rw [List.eq_nil_iff_forall_not_mem]
    intro k hk
    obtain ⟨h1, o, h2, _⟩ := mem_ready.1 hk
    have hlt : k < ops.size := (Array.getElem?_eq_some_iff.1 h2).1
    have h3 := hall k hlt
    have hks : k < listed.size := by omega
    simp [hks] at h1 h3
    rw [h1] at h3; cases h3
  | succ fuel ih =>
    intro listed us w hs hc hJ
    refine ⟨fun hr => hend us _ w hJ (all_listedG hb hs hr), fun i hi => ?_⟩
    obtain ⟨h1, o, h2, h3⟩ := mem_ready.1 hi
    have hlt : i < ops.size := (Array.getElem?_eq_some_iff.1 h2).1
    have his : i < listed.size := by omega
    have h1' : listed[i] = false := by simpa [his] using h1
    have hon : ∀ k ∈ onL o, listed.getD k false = true := fun k hk => by
      obtain ⟨e, he, rfl⟩ := List.mem_map.1 hk
      obtain ⟨he1, he2⟩ := List.mem_filter.1 he
      exact h3 e (by simpa using he1) he2
    unfold wpOp
    simp only [h2]
    have hst := hstep us _ w i o _ rfl h2 hJ (by simp [his, h1']) hon (wpAny P .any ops Q fuel (listed.setIfInBounds i true)) fun v w' hJ' => ?_
    · cases hw : Region.wanted o (yielded ops (actL ops a us).tmps) with
      | true => rw [if_pos rfl]; exact .inl (hst.1 hw)
      | false => rw [if_neg (by decide)]; exact hst.2 hw
    rw [hput us i o v h2]
    refine ih _ _ _ (by simp [hs]) ?_ ?_
    · rw [Array.toList_setIfInBounds, List.count_set (by simpa using his)]
      have := List.count_pos_iff.2 (show false ∈ listed.toList by rw [← h1']; simp)
      rw [if_pos (by simp [h1']), if_neg (by simp)]
      omega
    · have e : (fun k => (listed.setIfInBounds i true).getD k false = true) = fun k => k = i ∨ listed.getD k false = true := funext fun k => propext (by
        by_cases hk : k = i
        · subst hk; simp [his]
        · simp [Array.getD_eq_getD_getElem?, Array.getElem?_setIfInBounds_ne (Ne.symm hk), hk])
      rw [e]; exact hJ'
/-- A region that draws its order, under an invariant. -/
theorem wp_region_invG {id : Nat} (hm : P.follows .mixedOrders = true) (hb : backG ops = true) (hn : ((slotL 0 ops.toList).map (·.2)).Nodup) (a : Act) (w : World) (J : (Nat → Value) → (Nat → Prop) → World → Prop)
    (h0 : ∀ us, J us (fun _ => False) w.drew)
    (hstep : ∀ us D w i o A, A = actL ops a us → ops[i]? = some o → J us D w → ¬ D i → (∀ k ∈ onL o, D k) → ∀ K : Act → World → Prop, (∀ v w', J (upd us i v) (fun k => k = i ∨ D k) w' → K (A.put o.dst v) w') → (Region.wanted o (yielded ops A.tmps) = true → o.wp P A w K Q) ∧ (Region.wanted o (yielded ops A.tmps) = false → K (A.put o.dst undef) w))
    (hend : ∀ us D w, J us D w → (∀ k, k < ops.size → D k) → Q .normal (actL ops a us) w) : (Code.region id ops true).wp P Q a w := by
  refine wp_region_any hm ?_
  obtain ⟨us, hus⟩ : ∃ us : Nat → Value, ∀ i d, (i, d) ∈ slotL 0 ops.toList → ∀ h : d < a.tmps.size, us i = a.tmps[d] := by
    refine ⟨fun i => match ops[i]? with | some o => (match o.dst with | some d => a.tmps.getD d undef | none => undef) | none => undef, fun i d hm h => ?_⟩
    obtain ⟨_, o, h1, h2⟩ := slotL_idx _ _ _ _ hm
    rw [Nat.sub_zero] at h1
    have h1' : ops[i]? = some o := by simpa using h1
    simp [h1', h2, h]
  have ea : actL ops a us = a := by unfold actL; rw [putL_self _ _ _ hus]
  rw [← ea]
  refine wpAny_invG hb hn a J hstep hend _ _ us _ (by simp) (by simp) ?_
  have e : (fun k => (Array.replicate ops.size false).getD k false = true) = fun _ => False := funext fun k => propext (by
    simp [Array.getD_eq_getD_getElem?, Array.getElem?_replicate]; split <;> rfl)
  rw [e]; exact h0 us
end
end Go.Proofs.YtmcncflieoolmaaGreat

/- The invariant of a region with guards that lays literal rows and calls; no condition. -/
namespace Go.Proofs.YtmcncflieoolmaaGreat
set_option linter.unusedVariables false
set_option linter.unusedSimpArgs false
open Go.ChangeShapes Go.WideShapes Go.ChangeAt Go.RowKit Go.Deep

structure LitJ (B : World) (L : List (Nat × List Int)) (val : Nat → Value) (us : Nat → Value) (D : Nat → Prop) (W : World) : Prop where
  val : ∀ k, (∀ t ∈ L, k ≠ t.1) → D k → us k = val k
  bel : Below B.heap.size B W
  lit : ∀ t ∈ L, D t.1 → ∃ b, us t.1 = .slice (some ⟨b, 0, none⟩) t.2.length t.2.length ∧ Ints W (some ⟨b, 0, none⟩) t.2.length t.2
theorem LitJ.start {B : World} {L : List (Nat × List Int)} {val : Nat → Value} (us : Nat → Value) : LitJ B L val us (fun _ => False) B.drew :=
  ⟨fun _ _ h => h.elim, below_drewN _ _ 1, fun _ _ h => h.elim⟩
section
variable {B : World} {L : List (Nat × List Int)} {val : Nat → Value} {us : Nat → Value} {D : Nat → Prop} {W W' : World}
theorem LitJ.pure (h : LitJ B L val us D W) {i : Nat} (hi : ∀ t ∈ L, i ≠ t.1) (hb : Below W.heap.size W W') : LitJ B L val (upd us i (val i)) (fun k => k = i ∨ D k) W' := by
  refine ⟨fun k hk hd => ?_, h.bel.trans (hb.mono h.bel.size), fun t ht hd => ?_⟩
  · by_cases e : k = i
    · subst e; rw [upd_same]
    · rw [upd_ne e]; exact h.val k hk (or_ne hd e)
  · have hne := Ne.symm (hi t ht)
    rw [upd_ne hne]
    obtain ⟨b, h1, h2⟩ := h.lit t ht (or_ne hd hne)
    exact ⟨b, h1, h2.below hb (Nat.le_refl _)⟩
theorem LitJ.lay (h : LitJ B L val us D W) {t : Nat × List Int} (ht : t ∈ L) (hL : ∀ s ∈ L, s.1 = t.1 → s = t) (hb : Below W.heap.size W W') (hI : Ints W' (some ⟨W.heap.size, 0, none⟩) t.2.length t.2) :
    LitJ B L val (upd us t.1 (.slice (some ⟨W.heap.size, 0, none⟩) t.2.length t.2.length)) (fun k => k = t.1 ∨ D k) W' := by
  refine ⟨fun k hk hd => ?_, h.bel.trans (hb.mono h.bel.size), fun s hs hd => ?_⟩
  · have hne := hk t ht
    rw [upd_ne hne]; exact h.val k hk (or_ne hd hne)
  · by_cases e : s.1 = t.1
    · have := hL s hs e
      subst this
      exact ⟨_, upd_same _ _ _, hI⟩
    · rw [upd_ne e]
      obtain ⟨b, h1, h2⟩ := h.lit s hs (or_ne hd e)
      exact ⟨b, h1, h2.below hb (Nat.le_refl _)⟩
end
end Go.Proofs.YtmcncflieoolmaaGreat
