/- What a text that runs straight on holds: rows, tables, lists of tables, under one name; literals, calls; no condition but sizes. -/
import Derived.Test.YtllcbcanohdepaaTopRentNamesm4
import Derived.Maps.RangeWalk
import Derived.RangeFuncOwn
import Derived.Test.YtllcbcanohdepaaTopRentNamesm9
import Derived.Test.YtllcbcanohdepaaTopRentNamesm12
import Derived.Test.YtllcbcanohdepaaTopRentNamesm16
import Derived.Laws.Externs
import Derived.Deep.RegionHeld3
import Derived.Deep.DeepCutAuto
namespace Go.Proofs.Ytllcbcanohdepaa
open Go.ChangeShapes Go.WideShapes Go.ChangeAt Go.RowKit Go.Deep
set_option linter.unusedVariables false
set_option linter.unusedSimpArgs false

def in64B (x : Int) : Bool := decide (-9223372036854775808 ≤ x) && decide (x ≤ 9223372036854775807)
theorem in64_all {xs : List Int} (h : xs.all in64B = true) : ∀ x ∈ xs, in64 x := fun x hx => by
  have := List.all_eq_true.1 h x hx
  simp [in64B] at this
  exact this
theorem ints_lit (w : World) (xs : List Int) (hsz : xs.length ≤ 1000000) (hr : ∀ x ∈ xs, in64 x) :
    Ints (w.alloc (.cells (xs.map (Value.int .i64)).toArray 3)) (some ⟨w.heap.size, 0, none⟩) xs.length xs :=
  (Own.lit w w.heap.size (Nat.le_refl _) xs hsz (fun j hj => hr _ (iget_mem hj))).ints
theorem mat_lit (w : World) (rows : List (Option Addr × Nat × List Int)) (hsz : rows.length ≤ 1000000) (hr : ∀ r ∈ rows, Ints w r.1 r.2.1 r.2.2) :
    Mat (w.alloc (.cells (rows.map fun r => Value.slice r.1 r.2.2.length r.2.1).toArray 25)) (some ⟨w.heap.size, 0, none⟩) rows.length (rows.map fun r => r.2.2) := by
  have hb : Below w.heap.size w (w.alloc (.cells (rows.map fun r => Value.slice r.1 r.2.2.length r.2.1).toArray 25)) := (Below.refl _ w).alloc (Nat.le_refl _) _
  have hn := World.alloc_heap_new w (.cells (rows.map fun r => Value.slice r.1 r.2.2.length r.2.1).toArray 25)
  refine ⟨by simp, by omega, fun h => (by cases h), ?_, ?_⟩
  · rintro a ⟨⟩ _
    exact ⟨rfl, by simp⟩
  · rintro b o ⟨⟩ j hj
    have hj' : j < rows.length := by simpa using hj
    have hg : rget (rows.map fun r => r.2.2) j = rows[j].2.2 := by rw [rget_of hj]; simp
    refine ⟨rows[j].1, rows[j].2.1, ?_, ?_⟩
    · simp only [World.cell?]
      rw [hn, hg, Nat.zero_add]
      simp [hj']
    · rw [hg]
      exact (hr _ (List.getElem_mem hj')).below hb (Nat.le_refl _)

inductive Item where
  | ints (p : Option Addr) (n c : Nat) (xs : List Int)
  | mat (p : Option Addr) (n c : Nat) (v : List (List Int))
  | mats (b : Nat) (vs : List Value) (ms : List (List (List Int)))
  | box (b : Nat) (vs : List Value)
def Item.ok (w : World) : Item → Prop
  | .ints p n c xs => xs.length = n ∧ Ints w p c xs
  | .mat p n c v => v.length = n ∧ Mat w p c v
  | .mats b vs ms => vs.length = ms.length ∧ b < w.heap.size ∧ ∀ (j : Nat) (v : List (List Int)), ms[j]? = some v → ∃ p c, w.cell? ⟨b, j, none⟩ = some (.slice p v.length c) ∧ vs[j]? = some (.slice p v.length c) ∧ Mat w p c v
  | .box b vs => b < w.heap.size ∧ ∀ (j : Nat) (u : Value), vs[j]? = some u → w.cell? ⟨b, j, none⟩ = some u
theorem Item.ok_below {w w' : World} {i : Item} (h : i.ok w) (hb : Below w.heap.size w w') : i.ok w' := by
  cases i with
  | ints p n c xs => exact ⟨h.1, Ints.below h.2 hb (Nat.le_refl _)⟩
  | mat p n c v => exact ⟨h.1, Mat.below h.2 hb (Nat.le_refl _)⟩
  | mats b vs ms =>
    obtain ⟨h0, h1, h2⟩ := h
    refine ⟨h0, Nat.lt_of_lt_of_le h1 hb.size, fun j v hm => ?_⟩
    obtain ⟨p, c, h3, h4, h5⟩ := h2 j v hm
    exact ⟨p, c, (hb.cell (p := ⟨b, j, none⟩) h1).trans h3, h4, h5.below hb (Nat.le_refl _)⟩
  | box b vs => exact ⟨Nat.lt_of_lt_of_le h.1 hb.size, fun j u hj => (hb.cell (p := ⟨b, j, none⟩) h.1).trans (h.2 j u hj)⟩
/-- The items of these numbers are rows: what they hold, and their values. -/
inductive RowsAt (l : List Item) : List Nat → List (List Int) → List Value → Prop where
  | nil : RowsAt l [] [] []
  | cons {k : Nat} {ks : List Nat} {p : Option Addr} {n c : Nat} {x : List Int} {v : List (List Int)} {vs : List Value} (h : l[k]? = some (.ints p n c x)) (t : RowsAt l ks v vs) : RowsAt l (k :: ks) (x :: v) (.slice p n c :: vs)
  | nul {k : Nat} {ks : List Nat} {v : List (List Int)} {vs : List Value} (t : RowsAt l ks v vs) : RowsAt l (k :: ks) ([] :: v) (.slice none 0 0 :: vs)
inductive MatsAt (l : List Item) : List Nat → List (List (List Int)) → List Value → Prop where
  | nil : MatsAt l [] [] []
  | cons {k : Nat} {ks : List Nat} {p : Option Addr} {n c : Nat} {x : List (List Int)} {v : List (List (List Int))} {vs : List Value} (h : l[k]? = some (.mat p n c x)) (t : MatsAt l ks v vs) : MatsAt l (k :: ks) (x :: v) (.slice p n c :: vs)
  | nul {k : Nat} {ks : List Nat} {v : List (List (List Int))} {vs : List Value} (t : MatsAt l ks v vs) : MatsAt l (k :: ks) ([] :: v) (.slice none 0 0 :: vs)
theorem RowsAt.spec {l : List Item} {w : World} (hl : ∀ i ∈ l, i.ok w) {ks : List Nat} {v : List (List Int)} {vs : List Value} (h : RowsAt l ks v vs) :
    vs.length = v.length ∧ ∀ (j : Nat) (x : List Int), v[j]? = some x → ∃ p c, vs[j]? = some (Value.slice p x.length c) ∧ Ints w p c x := by
  induction h with
  | nil => exact ⟨rfl, fun j x h => (by simp at h)⟩
  | cons h t ih =>
    refine ⟨by simp [ih.1], fun j x hj => ?_⟩
    cases j with
    | zero =>
      simp at hj; subst hj
      obtain ⟨h1, h2⟩ := hl _ (List.mem_of_getElem? h)
      exact ⟨_, _, by rw [h1]; rfl, h2⟩
    | succ j => exact ih.2 j x (by simpa using hj)
  | nul t ih =>
    refine ⟨by simp [ih.1], fun j x hj => ?_⟩
    cases j with
    | zero => simp at hj; subst hj; exact ⟨none, 0, rfl, Ints.ofNil w⟩
    | succ j => exact ih.2 j x (by simpa using hj)
theorem MatsAt.spec {l : List Item} {w : World} (hl : ∀ i ∈ l, i.ok w) {ks : List Nat} {v : List (List (List Int))} {vs : List Value} (h : MatsAt l ks v vs) :
    vs.length = v.length ∧ ∀ (j : Nat) (x : List (List Int)), v[j]? = some x → ∃ p c, vs[j]? = some (Value.slice p x.length c) ∧ Mat w p c x := by
  induction h with
  | nil => exact ⟨rfl, fun j x h => (by simp at h)⟩
  | cons h t ih =>
    refine ⟨by simp [ih.1], fun j x hj => ?_⟩
    cases j with
    | zero =>
      simp at hj; subst hj
      obtain ⟨h1, h2⟩ := hl _ (List.mem_of_getElem? h)
      exact ⟨_, _, by rw [h1]; rfl, h2⟩
    | succ j => exact ih.2 j x (by simpa using hj)
  | nul t ih =>
    refine ⟨by simp [ih.1], fun j x hj => ?_⟩
    cases j with
    | zero => simp at hj; subst hj; exact ⟨none, 0, rfl, Mat.ofNil w⟩
    | succ j => exact ih.2 j x (by simpa using hj)
theorem mat_new (w : World) (v : List (List Int)) (vs : List Value) (hsz : v.length ≤ 1000000) (hl : vs.length = v.length) (h : ∀ (j : Nat) (x : List Int), v[j]? = some x → ∃ p c, vs[j]? = some (Value.slice p x.length c) ∧ Ints w p c x) :
    Mat (w.alloc (.cells vs.toArray 25)) (some ⟨w.heap.size, 0, none⟩) v.length v := by
  have hb : Below w.heap.size w (w.alloc (.cells vs.toArray 25)) := (Below.refl _ w).alloc (Nat.le_refl _) _
  have hn := World.alloc_heap_new w (.cells vs.toArray 25)
  refine ⟨Nat.le_refl _, by omega, fun h => (by cases h), ?_, ?_⟩
  · rintro a ⟨⟩ _
    exact ⟨rfl, by simp⟩
  · rintro b o ⟨⟩ j hj
    obtain ⟨p, c, h1, h2⟩ := h j (rget v j) (by rw [rget_of hj]; simp [hj])
    refine ⟨p, c, ?_, h2.below hb (Nat.le_refl _)⟩
    simp only [World.cell?]
    rw [hn, Nat.zero_add]
    simp [h1]

/-- In w, of B blocks, the items read as they say; what lay in w0 lies as it lay. -/
structure St (w0 w : World) (B : Nat) (l : List Item) : Prop where
  size : w.heap.size = B
  bel : Below w0.heap.size w0 w
  all : ∀ i ∈ l, i.ok w
theorem St.start (w : World) : St w w w.heap.size [] := ⟨rfl, Below.refl _ _, fun _ h => (by cases h)⟩
section
variable {w0 w : World} {B : Nat} {l : List Item}
theorem St.step {w' : World} (h : St w0 w B l) (hb : Below w.heap.size w w') : St w0 w' w'.heap.size l :=
  ⟨rfl, h.bel.trans (hb.mono h.bel.size), fun i hi => Item.ok_below (h.all i hi) hb⟩
theorem St.drew {w' : World} (h : St w0 w B l) (hw : ∃ n, w' = w.drewN n) : St w0 w' w'.heap.size l := by
  obtain ⟨n, rfl⟩ := hw; exact h.step (below_drewN _ _ _)
theorem St.add (h : St w0 w B l) (i : Item) (hi : i.ok w) : St w0 w B (i :: l) :=
  ⟨h.size, h.bel, fun j hj => by
    rcases List.mem_cons.1 hj with rfl | hj
    · exact hi
    · exact h.all j hj⟩
theorem St.pop {i : Item} (h : St w0 w B (i :: l)) : St w0 w B l := ⟨h.size, h.bel, fun j hj => h.all j (List.mem_cons_of_mem _ hj)⟩
theorem St.addI {n c : Nat} {p : Option Addr} {xs : List Int} (h : St w0 w B l) (hn : xs.length = n) (hi : Ints w p c xs) : St w0 w B (.ints p n c xs :: l) := h.add _ ⟨hn, hi⟩
theorem St.addM {n c : Nat} {p : Option Addr} {v : List (List Int)} (h : St w0 w B l) (hn : v.length = n) (hi : Mat w p c v) : St w0 w B (.mat p n c v :: l) := h.add _ ⟨hn, hi⟩
theorem St.intsAt (h : St w0 w B l) (k : Nat) {p : Option Addr} {n c : Nat} {xs : List Int} (hk : l[k]? = some (.ints p n c xs)) : Ints w p c xs := (h.all _ (List.mem_of_getElem? hk)).2
theorem St.matAt (h : St w0 w B l) (k : Nat) {p : Option Addr} {n c : Nat} {v : List (List Int)} (hk : l[k]? = some (.mat p n c v)) : Mat w p c v := (h.all _ (List.mem_of_getElem? hk)).2
theorem St.matsAt (h : St w0 w B l) (k : Nat) {b : Nat} {vs : List Value} {ms : List (List (List Int))} (hk : l[k]? = some (.mats b vs ms)) : ∀ (j : Nat) (v : List (List Int)), ms[j]? = some v → ∃ p c, w.cell? ⟨b, j, none⟩ = some (.slice p v.length c) ∧ Mat w p c v := fun j v hj => by
  obtain ⟨p, c, h1, _, h2⟩ := (h.all _ (List.mem_of_getElem? hk)).2.2 j v hj
  exact ⟨p, c, h1, h2⟩
theorem St.bump (h : St w0 w B l) (o : Obj) : St w0 (w.alloc o) (B + 1) l :=
  ⟨by simp [h.size], h.bel.alloc h.bel.size _, fun i hi => Item.ok_below (h.all i hi) ((Below.refl _ _).alloc (Nat.le_refl _) _)⟩
/-- A new block of known cells. -/
theorem St.box (h : St w0 w B l) (vs : List Value) (T : TypeId) : St w0 (w.alloc (.cells vs.toArray T)) (B + 1) (.box B vs :: l) :=
  (h.bump _).add _ ⟨by simp [h.size], fun j u hj => by rw [← h.size]; exact (World.cell?_alloc_at _ _ _ _ rfl).trans (by simpa using hj)⟩
theorem St.boxAt (h : St w0 w B l) (k j : Nat) {b : Nat} {vs : List Value} {u : Value} (hk : l[k]? = some (.box b vs)) (hj : vs[j]? = some u) : w.cell? ⟨b, j, none⟩ = some u := (h.all _ (List.mem_of_getElem? hk)).2 j u hj
theorem St.boxLt (h : St w0 w B l) (k : Nat) {b : Nat} {vs : List Value} (hk : l[k]? = some (.box b vs)) : b < w.heap.size := (h.all _ (List.mem_of_getElem? hk)).1
/-- '[]int{..}'. -/
theorem St.lit (h : St w0 w B l) (xs : List Int) (n : Nat) (hn : xs.length = n := by rfl) (hsz : n ≤ 1000 := by decide) (hr : xs.all in64B = true := by decide +kernel) :
    St w0 (w.alloc (.cells (xs.map (Value.int .i64)).toArray 3)) (B + 1) (.ints (some ⟨B, 0, none⟩) n n xs :: l) :=
  (h.bump _).add _ ⟨hn, by subst hn; rw [← h.size]; exact ints_lit w xs (by omega) (in64_all hr)⟩
/-- '[][]int{..}', its rows being items (by their numbers). -/
theorem St.litM (h : St w0 w B l) {ks : List Nat} {v : List (List Int)} {vs : List Value} (hm : RowsAt l ks v vs) (n : Nat) (hn : v.length = n := by rfl) (hsz : n ≤ 1000 := by decide) :
    St w0 (w.alloc (.cells vs.toArray 25)) (B + 1) (.mat (some ⟨B, 0, none⟩) n n v :: l) :=
  (h.bump _).add _ ⟨hn, by
    subst hn; rw [← h.size]
    obtain ⟨h1, h2⟩ := hm.spec h.all
    exact mat_new w v vs (by omega) h1 h2⟩
/-- 'make([][]int, n)', n a numeral. -/
theorem St.mkM (h : St w0 w B l) (n : Nat) (hsz : n ≤ 1000 := by decide) :
    St w0 (w.alloc (.cells (List.replicate n (.slice none 0 0)).toArray 25)) (B + 1) (.mat (some ⟨B, 0, none⟩) n n (List.replicate n []) :: l) :=
  (h.bump _).add _ ⟨by simp, by
    rw [← h.size]
    have := mat_new w (List.replicate n []) (List.replicate n (.slice none 0 0)) (by simp; omega) (by simp) (fun j x hj => by
      rw [List.getElem?_replicate] at hj
      split at hj
      · rename_i hlt
        cases hj
        exact ⟨none, 0, by rw [List.getElem?_replicate, if_pos hlt]; rfl, Ints.ofNil w⟩
      · cases hj)
    simpa using this⟩
/-- '[][][]int{..}', its tables being items. -/
theorem St.litMs (h : St w0 w B l) {ks : List Nat} {ms : List (List (List Int))} {vs : List Value} (hm : MatsAt l ks ms vs) (T : TypeId) :
    St w0 (w.alloc (.cells vs.toArray T)) (B + 1) (.mats B vs ms :: l) := by
  obtain ⟨h1, h2⟩ := hm.spec h.all
  refine (h.bump _).add _ ⟨h1, by simp [h.size], fun j v hj => ?_⟩
  obtain ⟨p, c, h3, h4⟩ := h2 j v hj
  refine ⟨p, c, ?_, h3, h4.below ((Below.refl _ w).alloc (Nat.le_refl _) _) (Nat.le_refl _)⟩
  have hn := World.alloc_heap_new w (.cells vs.toArray T)
  rw [← h.size]
  simp only [World.cell?]
  rw [hn]
  simp [h3]
/-- What goes on: the items, in every world that keeps what lies. -/
theorem St.frame (h : St w0 w B l) : ∃ G : World → Prop, G w ∧ Hid (∀ a b, G a → Below a.heap.size a b → G b) ∧ Hid (∀ a, G a → St w0 a a.heap.size l) :=
  ⟨fun a => St w0 a a.heap.size l, ⟨rfl, h.bel, h.all⟩, fun a b ha hb => ha.step hb, fun a ha => ha⟩
end
end Go.Proofs.Ytllcbcanohdepaa

/- ratio.Check and check at reduced ratios with small parts; math/bits.Add64, Sub64, Div64, Rem64 where the upper words are 0. -/
namespace Go.Proofs.Ytllcbcanohdepaa
set_option linter.unusedVariables false
set_option linter.unusedSimpArgs false
open Go.ChangeShapes Go.WideShapes Go.ChangeAt Go.RowKit Go.Deep

def subEntry : Array Value → Sem Value := fun args => do
  let (x, y, b) ← Extern.MathBitsCarry.three "Sub64" args
  pure (Extern.MathBitsCarry.pair ((x + Extern.MathBitsCarry.m64 - y - b) % Extern.MathBitsCarry.m64) (if x < y + b then 1 else 0))
theorem add64_nil (a b : Nat) (h : a + b < 18446744073709551616) (w : World) : (callFunc 60 #[.int .u64 (a : Int), .int .u64 (b : Int), .int .u64 0]).run Try.prog w = .ok (.value (.tuple #[.int .u64 ((a + b : Nat) : Int), .int .u64 0])) w := by
  rw [run_callFunc_extern Try.func60 (by kernel_rfl) (by kernel_rfl) (by kernel_rfl) (e := add64Entry) (by kernel_rfl), run_add64 a b 0 (by omega) (by omega) (by omega) (by omega)]
  simp only [Result.andThen]
  have h1 : ((a : Int) + b + 0) % 18446744073709551616 = ((a + b : Nat) : Int) := by omega
  have h2 : ((a : Int) + b + 0) / 18446744073709551616 = 0 := by omega
  rw [h1, h2]
theorem run_sub64N (x y : Nat) (hy : y ≤ x) (hx : x < 18446744073709551616) (w : World) :
    (subEntry #[.int .u64 x, .int .u64 y, .int .u64 0]).run Try.prog w = .ok (.tuple #[.int .u64 ((x - y : Nat) : Int), .int .u64 0]) w := by
  have h0 : (subEntry #[.int .u64 x, .int .u64 y, .int .u64 0]).run Try.prog w = .ok (.tuple #[.int .u64 (((x + 18446744073709551616 - y - 0) % 18446744073709551616 : Nat) : Int), .int .u64 ((if x < y + 0 then 1 else 0 : Nat) : Int)]) w := rfl
  rw [h0]
  have h1 : (x + 18446744073709551616 - y - 0) % 18446744073709551616 = x - y := by omega
  rw [h1, if_neg (by omega)]
  rfl
theorem sub64_nil (a b : Nat) (h : b ≤ a) (ha : a < 18446744073709551616) (w : World) : (callFunc 61 #[.int .u64 (a : Int), .int .u64 (b : Int), .int .u64 0]).run Try.prog w = .ok (.value (.tuple #[.int .u64 ((a - b : Nat) : Int), .int .u64 0])) w := by
  rw [run_callFunc_extern Try.func61 (by kernel_rfl) (by kernel_rfl) (by kernel_rfl) (e := subEntry) (by kernel_rfl), run_sub64N a b h ha]
  simp only [Result.andThen]
set_option maxHeartbeats 1600000 in
theorem div64_one (t : Nat) (ht : t < 18446744073709551616) (w : World) :
    Calls Try.prog 63 #[.int .u64 0, .int .u64 t, .int .u64 1] w fun e w' => e = .returned (.tuple #[.int .u64 t, .int .u64 0]) ∧ ∃ n, w' = w.drewN n := by
  have h1 : (t : Int).tdiv 1 = t := by simp
  have h2 : (t : Int).tmod 1 = 0 := by simp
  have h3 : IntKind.u64.wrap (t : Int) = t := by simp only [IntKind.wrap, IntKind.bits, IntKind.signed]; simp; omega
  go_enter Try.func63, Try.ntmps63
  go_wp2_with fail
  go_quiet (fail)
  go_wp2_with fail
  exact bodyPost_ret (v := .tuple #[.int .u64 t, .int .u64 0]) (by simp [results, Try.results63, go_sem]) rfl ⟨rfl, _, rfl⟩
set_option maxHeartbeats 1600000 in
theorem rem64_one (t : Nat) (ht : t < 18446744073709551616) (w : World) :
    Calls Try.prog 62 #[.int .u64 0, .int .u64 t, .int .u64 1] w fun e w' => e = .returned (.int .u64 0) ∧ ∃ n, w' = w.drewN n := by
  go_enter Try.func62, Try.ntmps62
  go_wp2_with fail
  refine (div64_one t ht _).mono ?_
  rintro e w' ⟨rfl, n, rfl⟩
  go_wp2_with fail
  go_ret
  exact ⟨rfl, _, rfl⟩
set_option maxHeartbeats 1600000 in
theorem ratCheck_any (a : Int) (b : Nat) (w : World) (ha : -1000000000 ≤ a ∧ a ≤ 1000000000) (hb : 0 < b ∧ b ≤ 1000000000) (hg : Nat.gcd a.natAbs b = 1) :
    Calls Try.prog 58 #[.agg #[.int .i64 a, .int .i64 b]] w fun e w' => e = .returned (.int .i64 0) ∧ Below w.heap.size w w' := by
  obtain ⟨W0, hW0⟩ : ∃ W, w.alloc (.cells #[.int .i64 a, .int .i64 b] 32) = W := ⟨_, rfl⟩
  have hB := below_alloc hW0
  have bX : BoxV W0 w.heap.size [.int .i64 a, .int .i64 b] := BoxV.new rfl hW0
  have HW0 := Lib.hid hW0
  clear hW0
  have k0 := bX.cell 0 _ rfl
  have k1 := bX.cell 1 _ rfl
  obtain ⟨ha1, ha2⟩ := ha
  obtain ⟨hb1, hb2⟩ := hb
  have d1 : decide ((b : Int) < 1) = false := by simp; omega
  have d2 : decide ((1000000000000000000 : Int) < if a.natAbs < b then (b : Int) else (a.natAbs : Int)) = false := by rw [decide_eq_false_iff_not]; split <;> omega
  have d3 : decide ((1000000000000000000 : Int) < max (a.natAbs : Int) (b : Int)) = false := by rw [decide_eq_false_iff_not]; omega
  have ub : IntKind.u64.wrap (b : Int) = b := wrap_u (by omega)
  have A1 := Lib.hid (fun W => size_any a W (by omega) (by omega))
  have G1 := Lib.hid (fun W => (hg ▸ rgcd_any a.natAbs b W (by omega) (by omega) : Calls Try.prog 46 #[.int .u64 (a.natAbs : Int), .int .u64 (b : Int)] W fun e w' => e = .returned (.int .u64 ((1 : Nat) : Int)) ∧ ∃ n, w' = W.drewN n))
  have Hg := Lib.hid hg
  clear hg
  go_enter Try.func58, Try.ntmps58
  go_wp2_with fail
  rw [HW0.out]
  go_quiet (first | (go_at_call 45; exact Calls.quiet_of_same (A1.out _)) | (go_at_call 46; exact Calls.quiet_of ((G1.out _))))
  go_wp2_with fail
  all_goals
    go_ret
    exact ⟨rfl, hB.drewN' _⟩
set_option maxHeartbeats 1600000 in
theorem orErr_any (p : Option Addr) (c : Nat) (xs : List Int) (w : World) (hx : Ints w p c xs) (h0 : ∀ j, j < xs.length → iget xs j = 0) :
    Calls Try.prog 57 #[.slice p xs.length c] w fun e w' => e = .returned (.int .i64 0) ∧ w' = w := by
  have hl1 := hx.length_le
  go_enter Try.func57, Try.ntmps57
  go_wp2_with fail
  go_loop [8] (fun t => ∃ k : Nat, k ≤ xs.length ∧ t = .int .i64 k) (fun t => xs.length - (intOf t).toNat)
  case atStart => exact ⟨0, Nat.zero_le _, rfl⟩
  case round =>
    obtain ⟨k, hk, rfl⟩ := hrel
    by_cases hlt : k < xs.length
    · have hk1 : (k : Int) < xs.length := by omega
      obtain ⟨b, o, rfl, _, hc⟩ := hx.get hlt
      rw [h0 k hlt] at hc
      go_wp2_with fail
      go_round
      case rel => exact ⟨k + 1, by omega, by go_num⟩
      case measure => (simp [intOf] <;> omega)
    · have hk1 : ¬ (k : Int) < xs.length := by omega
      obtain rfl : k = xs.length := by omega
      go_wp2_with fail
      go_ret
      exact ⟨rfl, rfl⟩
theorem ints_two (w : World) (x y : Int) (T : TypeId) (hx : in64 x) (hy : in64 y) : Ints (w.alloc (.cells #[.int .i64 x, .int .i64 y] T)) (some ⟨w.heap.size, 0, none⟩) 2 [x, y] := by
  have hc : ∀ k, (w.alloc (.cells #[.int .i64 x, .int .i64 y] T)).cell? ⟨w.heap.size, k, none⟩ = #[.int .i64 x, .int .i64 y][k]? := fun k => World.cell?_alloc_at _ _ _ _ rfl
  refine ⟨by simp, by omega, fun h => (by cases h), ?_, ?_, ?_⟩
  · rintro a ⟨⟩ _
    exact ⟨rfl, by simp⟩
  · rintro b o ⟨⟩ j hj
    rw [Nat.zero_add, hc j]
    match j, hj with
    | 0, _ => rfl
    | 1, _ => rfl
  · intro j hj
    match j, hj with
    | 0, _ => exact hx
    | 1, _ => exact hy
theorem orErr2 (W : World) (T : TypeId) : Calls Try.prog 57 #[.slice (some ⟨W.heap.size, 0, none⟩) 2 2] (W.alloc (.cells #[.int .i64 0, .int .i64 0] T)) fun e w' => e = .returned (.int .i64 0) ∧ w' = W.alloc (.cells #[.int .i64 0, .int .i64 0] T) :=
  orErr_any _ 2 [0, 0] _ (ints_two W 0 0 T ⟨by decide, by decide⟩ ⟨by decide, by decide⟩) (fun j hj => match j, hj with
    | 0, _ => rfl
    | 1, _ => rfl)
def SmallR (a : Int) (b : Nat) : Prop := (-1000000000 ≤ a ∧ a ≤ 1000000000) ∧ (0 < b ∧ b ≤ 1000000000) ∧ Nat.gcd a.natAbs b = 1
set_option maxHeartbeats 4000000 in
set_option maxRecDepth 100000 in
theorem ratBoth_any (a c : Int) (b d : Nat) (w : World) (h1 : SmallR a b) (h2 : SmallR c d) :
    Calls Try.prog 48 #[.agg #[.int .i64 a, .int .i64 b], .agg #[.int .i64 c, .int .i64 d]] w fun e w' => e = .returned (.int .i64 0) ∧ Below w.heap.size w w' := by
  obtain ⟨Wx, hWx⟩ : ∃ W, w.alloc (.cells #[.int .i64 a, .int .i64 b] 32) = W := ⟨_, rfl⟩
  obtain ⟨W0, hW0⟩ : ∃ W, Wx.alloc (.cells #[.int .i64 c, .int .i64 d] 32) = W := ⟨_, rfl⟩
  have hB1 := below_alloc hWx
  have hB2 := below_alloc hW0
  have bX : BoxV W0 w.heap.size [.int .i64 a, .int .i64 b] := (BoxV.new rfl hWx).below hB2
  have hs : Wx.heap.size = w.heap.size + 1 := by rw [← hWx]; simp
  have bY : BoxV W0 (w.heap.size + 1) [.int .i64 c, .int .i64 d] := BoxV.new hs hW0
  have hB : Below w.heap.size w W0 := hB1.trans (hB2.mono hB1.size)
  have HWx := Lib.hid hWx
  have HW0 := Lib.hid hW0
  clear hWx hW0 hB1 hB2 hs
  have CA := Lib.hid (fun W => ratCheck_any a b W h1.1 h1.2.1 h1.2.2)
  have CB := Lib.hid (fun W => ratCheck_any c d W h2.1 h2.2.1 h2.2.2)
  have k0 := bX.cell 0 _ rfl
  have k1 := bX.cell 1 _ rfl
  have m0 := bY.cell 0 _ rfl
  have m1 := bY.cell 1 _ rfl
  have hX := bX.lt
  have hY := bY.lt
  clear h1 h2 bX bY
  have hkeep : Hid (∀ W, Below W0.heap.size W0 W → (W.cell? ⟨w.heap.size, 0, none⟩ = some (.int .i64 a) ∧ W.cell? ⟨w.heap.size, 1, none⟩ = some (.int .i64 b) ∧ W.cell? ⟨w.heap.size + 1, 0, none⟩ = some (.int .i64 c) ∧ W.cell? ⟨w.heap.size + 1, 1, none⟩ = some (.int .i64 d) ∧ W0.heap.size ≤ W.heap.size ∧ Below W0.heap.size W0 W)) := fun W h =>
    ⟨(h.cell (p := ⟨w.heap.size, 0, none⟩) hX).trans k0, (h.cell (p := ⟨w.heap.size, 1, none⟩) hX).trans k1, (h.cell (p := ⟨w.heap.size + 1, 0, none⟩) hY).trans m0, (h.cell (p := ⟨w.heap.size + 1, 1, none⟩) hY).trans m1, h.size, h⟩
  go_enter Try.func48, Try.ntmps48
  go_wp2_with fail
  rw [HWx.out, HW0.out]
  go_region_held3 (fun W => W.cell? ⟨w.heap.size, 0, none⟩ = some (Value.int .i64 a) ∧ W.cell? ⟨w.heap.size, 1, none⟩ = some (Value.int .i64 b) ∧ W.cell? ⟨w.heap.size + 1, 0, none⟩ = some (Value.int .i64 c) ∧ W.cell? ⟨w.heap.size + 1, 1, none⟩ = some (Value.int .i64 d) ∧ W0.heap.size ≤ W.heap.size ∧ Below W0.heap.size W0 W)
    (first | assumption | exact hkeep.out _ (by repeat (first | exact Below.refl _ _ | assumption | (go_split_ands; assumption) | apply Below.drewN' | apply Below.drew | refine Below.alloc ?_ (by go_split_ands; first | omega | (simp; omega)) _)))
    (first
      | (go_at_call 58; (with_reducible refine (CA.out _).mono ?_); rintro e w4 ⟨rfl, hb4⟩; have hB4 : Below W0.heap.size W0 w4 := Below.trans (by repeat (first | exact Below.refl _ _ | assumption | (go_split_ands; assumption) | apply Below.drewN' | apply Below.drew)) (hb4.mono (Below.size (B := W0.heap.size) (w := W0) (by repeat (first | exact Below.refl _ _ | assumption | (go_split_ands; assumption) | apply Below.drewN' | apply Below.drew)))))
      | (go_at_call 58; (with_reducible refine (CB.out _).mono ?_); rintro e w4 ⟨rfl, hb4⟩; have hB4 : Below W0.heap.size W0 w4 := Below.trans (by repeat (first | exact Below.refl _ _ | assumption | (go_split_ands; assumption) | apply Below.drewN' | apply Below.drew)) (hb4.mono (Below.size (B := W0.heap.size) (w := W0) (by repeat (first | exact Below.refl _ _ | assumption | (go_split_ands; assumption) | apply Below.drewN' | apply Below.drew)))))
      | (go_at_call 57; refine (orErr2 _ _).mono ?_; rintro e w5 ⟨rfl, rfl⟩))
  all_goals
    go_wp2_with fail
    go_ret
    refine ⟨rfl, Below.trans hB (Below.mono ?_ hB.size)⟩
    go_split_ands
    assumption
end Go.Proofs.Ytllcbcanohdepaa

/- Fractions in lowest terms: what they are worth, sums; plain, no program. -/
namespace Go.Proofs.Ytllcbcanohdepaa
set_option linter.unusedVariables false
set_option linter.unusedSimpArgs false

theorem sgn_abs (x : Int) : sgn (decide (x < 0)) x.natAbs = x := by
  unfold sgn; split <;> rename_i h <;> simp at h <;> omega
theorem sgn_natAbs (m : Bool) (a : Nat) : (sgn m a).natAbs = a := by unfold sgn; split <;> simp
theorem rN_mul {x : Int} {d : Nat} (hd : 0 < d) : rN x d * (rG x d : Nat) = x := by
  have h := Nat.div_mul_cancel (Nat.gcd_dvd_left x.natAbs d)
  have h' : x.natAbs / rG x d * rG x d = x.natAbs := h
  unfold rN sgn
  split
  · rename_i hx
    rw [decide_eq_true_iff] at hx
    rw [Int.neg_mul, ← Int.natCast_mul, h']; omega
  · rename_i hx
    rw [decide_eq_true_iff] at hx
    rw [← Int.natCast_mul, h']; omega
theorem rD_mul {x : Int} {d : Nat} : rD x d * (rG x d : Nat) = d := by
  have h := Nat.div_mul_cancel (Nat.gcd_dvd_right x.natAbs d)
  unfold rD
  rw [← Int.natCast_mul]
  exact congrArg _ h
theorem rD_pos {x : Int} {d : Nat} (hd : 0 < d) : 0 < d / rG x d := Nat.div_pos (rG_le hd) (rG_pos hd)
theorem rD_le {x : Int} {d : Nat} : d / rG x d ≤ d := Nat.div_le_self _ _
theorem rN_le {x : Int} {d : Nat} : (rN x d).natAbs ≤ x.natAbs := by
  unfold rN; rw [sgn_natAbs]; exact Nat.div_le_self _ _
theorem rN_bd {x : Int} {d : Nat} {M : Int} (h1 : -M ≤ x) (h2 : x ≤ M) : -M ≤ rN x d ∧ rN x d ≤ M := by
  have := rN_le (x := x) (d := d); omega
theorem rat_cop {x : Int} {d : Nat} (hd : 0 < d) : Nat.gcd (rN x d).natAbs (d / rG x d) = 1 := by
  unfold rN
  rw [sgn_natAbs]
  exact Nat.coprime_iff_gcd_eq_one.1 (Nat.coprime_div_gcd_div_gcd (Nat.gcd_pos_of_pos_right _ hd))
/-- A fraction in lowest terms is one fraction. -/
theorem rat_scale {x : Int} {d k : Nat} (hd : 0 < d) (hk : 0 < k) : rN (k * x) (k * d) = rN x d ∧ rD (k * x) (k * d) = rD x d := by
  have hg : rG (k * x) (k * d) = k * rG x d := by
    unfold rG; rw [Int.natAbs_mul, Int.natAbs_natCast, Nat.gcd_mul_left]
  have hs : decide ((k : Int) * x < 0) = decide (x < 0) := by
    rw [Bool.eq_iff_iff, decide_eq_true_iff, decide_eq_true_iff]
    constructor
    · intro h
      rcases Int.lt_or_le x 0 with h1 | h1
      · exact h1
      · have := Int.mul_nonneg (show (0 : Int) ≤ k by omega) h1; omega
    · intro h; exact Int.mul_neg_of_pos_of_neg (by omega) h
  unfold rN rD
  rw [hg, hs, Int.natAbs_mul, Int.natAbs_natCast, Nat.mul_div_mul_left _ _ hk, Nat.mul_div_mul_left _ _ hk]
  exact ⟨rfl, rfl⟩
theorem rat_eq {x y : Int} {d e : Nat} (hd : 0 < d) (he : 0 < e) (h : x * e = y * d) : rN x d = rN y e ∧ rD x d = rD y e := by
  obtain ⟨h1, h2⟩ := rat_scale (x := x) hd he
  obtain ⟨h3, h4⟩ := rat_scale (x := y) he hd
  have e1 : (e : Int) * x = d * y := by rw [Int.mul_comm, h, Int.mul_comm]
  rw [e1, Nat.mul_comm] at h1 h2
  exact ⟨h1.symm.trans h3, h2.symm.trans h4⟩
/-- What is in lowest terms is its own lowest terms. -/
theorem rat_self {a : Int} {b : Nat} (h : Nat.gcd a.natAbs b = 1) : rN a b = a ∧ rD a b = b := by
  have hg : rG a b = 1 := h
  unfold rN rD
  rw [hg, Nat.div_one, Nat.div_one, sgn_abs]
  exact ⟨rfl, rfl⟩
theorem rat_less {x y : Int} {d e : Nat} (hd : 0 < d) (he : 0 < e) : decide (rN x d * rD y e < rN y e * rD x d) = decide (x * e < y * d) := by
  have h1 := rN_mul (x := x) hd
  have h2 := rN_mul (x := y) he
  have h3 := rD_mul (x := x) (d := d)
  have h4 := rD_mul (x := y) (d := e)
  have g1 : (0 : Int) < (rG x d : Nat) := by have := rG_pos (x := x) hd; omega
  have g2 : (0 : Int) < (rG y e : Nat) := by have := rG_pos (x := y) he; omega
  obtain ⟨G1, e1⟩ : ∃ G : Int, ((rG x d : Nat) : Int) = G := ⟨_, rfl⟩
  obtain ⟨G2, e2⟩ : ∃ G : Int, ((rG y e : Nat) : Int) = G := ⟨_, rfl⟩
  rw [e1] at h1 h3 g1
  rw [e2] at h2 h4 g2
  obtain ⟨a, ha⟩ : ∃ a, rN x d = a := ⟨_, rfl⟩
  obtain ⟨b, hb⟩ : ∃ a, rD x d = a := ⟨_, rfl⟩
  obtain ⟨a', ha'⟩ : ∃ a, rN y e = a := ⟨_, rfl⟩
  obtain ⟨b', hb'⟩ : ∃ a, rD y e = a := ⟨_, rfl⟩
  rw [ha] at h1 ⊢
  rw [hb] at h3 ⊢
  rw [ha'] at h2 ⊢
  rw [hb'] at h4 ⊢
  have l : x * e = (G1 * G2) * (a * b') := by
    rw [← h1, ← h4]; simp only [Int.mul_comm, Int.mul_left_comm, Int.mul_assoc]
  have r : y * d = (G1 * G2) * (a' * b) := by
    rw [← h2, ← h3]; simp only [Int.mul_comm, Int.mul_left_comm, Int.mul_assoc]
  rw [l, r, Bool.eq_iff_iff, decide_eq_true_iff, decide_eq_true_iff]
  have hp : 0 < G1 * G2 := Int.mul_pos g1 g2
  exact ⟨fun h => Int.mul_lt_mul_of_pos_left h hp, fun h => Int.lt_of_mul_lt_mul_left h (Int.le_of_lt hp)⟩

/-- The sum, as both texts find it. -/
def adG (b e : Nat) : Nat := Nat.gcd b e
def adT (a c : Int) (b e : Nat) : Int := a * ((e / adG b e : Nat) : Int) + c * ((b / adG b e : Nat) : Int)
def adH (a c : Int) (b e : Nat) : Nat := Nat.gcd ((adT a c b e).natAbs % adG b e) (adG b e)
theorem ad_cop {p q r s : Nat} (h1 : Nat.gcd p r = 1) (h2 : Nat.gcd s r = 1) : Nat.Coprime (p * s) r := Nat.Coprime.mul_left h1 h2
theorem cop_add {a c : Int} {d' : Nat} {m : Nat} (h1 : Nat.Coprime a.natAbs m) (h2 : Nat.Coprime d' m) (h3 : (m : Int) ∣ c) : Nat.Coprime (a * (d' : Int) + c).natAbs m := by
  have h : Nat.Coprime (a * (d' : Int)).natAbs m := by
    rw [Int.natAbs_mul, Int.natAbs_natCast]; exact Nat.Coprime.mul_left h1 h2
  rw [Nat.coprime_iff_gcd_eq_one] at h ⊢
  refine Nat.eq_one_of_dvd_one ?_
  rw [← h]
  refine Nat.dvd_gcd ?_ (Nat.gcd_dvd_right _ _)
  have k1 : ((Nat.gcd (a * (d' : Int) + c).natAbs m : Nat) : Int) ∣ a * (d' : Int) + c := Int.ofNat_dvd_left.2 (Nat.gcd_dvd_left _ _)
  have k2 : ((Nat.gcd (a * (d' : Int) + c).natAbs m : Nat) : Int) ∣ c := Int.dvd_trans (Int.ofNat_dvd.2 (Nat.gcd_dvd_right _ _)) h3
  have k3 := Int.dvd_sub k1 k2
  rw [Int.add_sub_cancel] at k3
  exact Int.ofNat_dvd_left.1 k3
theorem ad_sum {a c : Int} {b e : Nat} (hb : 0 < b) (he : 0 < e) (h1 : Nat.gcd a.natAbs b = 1) (h2 : Nat.gcd c.natAbs e = 1) :
    rN (a * e + c * b) (b * e) = sgn (decide (adT a c b e < 0)) ((adT a c b e).natAbs / adH a c b e) ∧ rD (a * e + c * b) (b * e) = ((b / adG b e * (e / adH a c b e) : Nat) : Int) := by
  have hg : 0 < adG b e := Nat.gcd_pos_of_pos_left _ hb
  have hbd : adG b e ∣ b := Nat.gcd_dvd_left _ _
  have hed : adG b e ∣ e := Nat.gcd_dvd_right _ _
  have hcop : Nat.Coprime (b / adG b e) (e / adG b e) := Nat.coprime_div_gcd_div_gcd hg
  have hT : adT a c b e = a * ((e / adG b e : Nat) : Int) + c * ((b / adG b e : Nat) : Int) := rfl
  have hH : adH a c b e = Nat.gcd ((adT a c b e).natAbs % adG b e) (adG b e) := rfl
  obtain ⟨g, eg⟩ : ∃ g, adG b e = g := ⟨_, rfl⟩
  obtain ⟨t, et⟩ : ∃ t, adT a c b e = t := ⟨_, rfl⟩
  obtain ⟨h, eh⟩ : ∃ t, adH a c b e = t := ⟨_, rfl⟩
  rw [eg] at hg hbd hed hcop hT hH ⊢
  rw [et] at hT hH ⊢
  rw [eh] at hH ⊢
  obtain ⟨b', rfl⟩ := hbd
  obtain ⟨e', rfl⟩ := hed
  clear eg et eh
  rw [Nat.mul_div_cancel_left _ hg, Nat.mul_div_cancel_left _ hg] at hcop hT
  rw [Nat.mul_div_cancel_left _ hg]
  have hb' : 0 < b' := Nat.pos_of_mul_pos_left hb |> fun _ => by
    rcases Nat.eq_zero_or_pos b' with h | h
    · subst h; simp at hb
    · exact h
  have he' : 0 < e' := by
    rcases Nat.eq_zero_or_pos e' with h | h
    · subst h; simp at he
    · exact h
  -- t over b' e' g
  have k1 : a * ((g * e' : Nat) : Int) + c * ((g * b' : Nat) : Int) = (g : Int) * t := by
    rw [hT]; push_cast; rw [Int.mul_add]; simp only [Int.mul_comm, Int.mul_left_comm, Int.mul_assoc]
  have k2 : g * b' * (g * e') = g * (b' * e' * g) := by simp only [Nat.mul_comm, Nat.mul_left_comm, Nat.mul_assoc]
  have hp : 0 < b' * e' * g := Nat.mul_pos (Nat.mul_pos hb' he') hg
  obtain ⟨s1, s2⟩ := rat_scale (x := t) hp hg
  rw [k1, k2, s1, s2]
  -- what t has in common with b' e' g it has in common with g
  have c1 : Nat.Coprime t.natAbs b' := by
    rw [hT]
    exact cop_add (Nat.Coprime.coprime_mul_left_right h1) (Nat.Coprime.symm hcop) (Int.dvd_mul_left _ _)
  have c2 : Nat.Coprime t.natAbs e' := by
    rw [hT, Int.add_comm]
    exact cop_add (Nat.Coprime.coprime_mul_left_right h2) hcop (Int.dvd_mul_left _ _)
  have hG : rG t (b' * e' * g) = h := by
    unfold rG
    rw [Nat.Coprime.gcd_mul_left_cancel_right g (Nat.Coprime.mul_right c1 c2).symm, Nat.gcd_comm, Nat.gcd_rec, ← hH]
  have hh : 0 < h := hH ▸ Nat.gcd_pos_of_pos_right _ hg
  have hhg : h ∣ g := hH ▸ Nat.gcd_dvd_right _ _
  unfold rN rD
  rw [hG]
  refine ⟨rfl, ?_⟩
  clear hG hH
  obtain ⟨q, rfl⟩ := hhg
  rw [show b' * e' * (h * q) = h * (b' * (q * e')) by simp only [Nat.mul_comm, Nat.mul_left_comm, Nat.mul_assoc], Nat.mul_div_cancel_left _ hh, Nat.mul_assoc h, Nat.mul_div_cancel_left _ hh]
end Go.Proofs.Ytllcbcanohdepaa
