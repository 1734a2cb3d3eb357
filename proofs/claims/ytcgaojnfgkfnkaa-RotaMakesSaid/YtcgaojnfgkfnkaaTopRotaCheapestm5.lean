/- Blocks of known cells side by side, each read and written by itself; 'make' of rows; no condition but sizes. -/
import Derived.Test.YtcgaojnfgkfnkaaTopRotaCheapestm1
import Derived.Test.YtcgaojnfgkfnkaaTopRotaCheapestm4
/- Blocks of known cells side by side, each read and written by itself; 'make' of rows; no condition but sizes. -/
namespace Go.Proofs.Ytcgaojnfgkfnkaa
set_option linter.unusedVariables false
set_option linter.unusedSimpArgs false
open Go.ChangeShapes Go.WideShapes Go.ChangeAt Go.RowKit Go.Deep

def updf {α : Type} (f : Nat → α) (k : Nat) (v : α) : Nat → α := fun j => if j = k then v else f j
theorem updf_at {α : Type} (f : Nat → α) (k : Nat) (v : α) : updf f k v k = v := by simp [updf]
theorem updf_ne {α : Type} {f : Nat → α} {k j : Nat} {v : α} (h : j ≠ k) : updf f k v j = f j := by simp [updf, h]
/-- Rows of numbers, of numbers that are not negative, of bools, as cells. -/
def iF (U : Nat → Int) : Nat → Value := fun j => .int .i64 (U j)
def nF (H : Nat → Nat) : Nat → Value := fun j => .int .i64 ((H j : Nat) : Int)
def bF (D : Nat → Bool) : Nat → Value := fun j => .bool (D j)
theorem iF_upd (U : Nat → Int) (k : Nat) (x : Int) : updf (iF U) k (.int .i64 x) = iF (updf U k x) := funext fun j => by by_cases e : j = k <;> simp [updf, iF, e]
theorem nF_upd (H : Nat → Nat) (k : Nat) (x : Nat) : updf (nF H) k (.int .i64 (x : Int)) = nF (updf H k x) := funext fun j => by by_cases e : j = k <;> simp [updf, nF, e]
theorem bF_upd (D : Nat → Bool) (k : Nat) (x : Bool) : updf (bF D) k (.bool x) = bF (updf D k x) := funext fun j => by by_cases e : j = k <;> simp [updf, bF, e]

abbrev Blk := Nat × Nat × (Nat → Value)
/-- One block of m known cells. -/
structure RowF (w : World) (g m : Nat) (f : Nat → Value) : Prop where
  lt : g < w.heap.size
  cell : ∀ k, k < m → w.cell? ⟨g, k, none⟩ = some (f k)
  live : ∀ k, k < m → w.frozen? ⟨g, k, none⟩ = false
theorem RowF.below {w w' : World} {B g m : Nat} {f : Nat → Value} (h : RowF w g m f) (hb : Below B w w') (hg : g < B) : RowF w' g m f :=
  ⟨Nat.lt_of_lt_of_le h.lt hb.size, fun k hk => (hb.cell (p := ⟨g, k, none⟩) hg).trans (h.cell k hk), fun k hk => (hb.frozen (p := ⟨g, k, none⟩) hg).trans (h.live k hk)⟩
theorem RowF.other {w : World} {g g' j m : Nat} {f : Nat → Value} {v : Value} (h : RowF w g m f) (hne : g' ≠ g) : RowF (w.setCell ⟨g', j, none⟩ v) g m f :=
  ⟨by simpa [World.setCell] using h.lt, fun k hk => (World.cell?_setCell_other _ _ _ _ (fun e => hne (by cases e; rfl))).trans (h.cell k hk), fun k hk => by rw [World.frozen?_setCell]; exact h.live k hk⟩
theorem RowF.set {w : World} {g j m : Nat} {f : Nat → Value} (h : RowF w g m f) (v : Value) (hj : j < m) : RowF (w.setCell ⟨g, j, none⟩ v) g m (updf f j v) := by
  refine ⟨by simpa [World.setCell] using h.lt, fun k hk => ?_, fun k hk => by rw [World.frozen?_setCell]; exact h.live k hk⟩
  by_cases e : k = j
  · subst e; rw [updf_at]; exact World.cell?_setCell_same _ _ _ (h.cell k hk)
  · rw [updf_ne e]; exact (World.cell?_setCell_other _ _ _ _ (fun e2 => e (by cases e2; rfl))).trans (h.cell k hk)
theorem RowF.congr {w : World} {g m : Nat} {f f' : Nat → Value} (h : RowF w g m f) (e : ∀ k, k < m → f' k = f k) : RowF w g m f' := ⟨h.lt, fun k hk => by rw [e k hk]; exact h.cell k hk, h.live⟩
theorem RowF.new {w : World} {cs : Array Value} {T : TypeId} {m : Nat} {f : Nat → Value} (h : ∀ k, k < m → cs[k]? = some (f k)) : RowF (w.alloc (.cells cs T)) w.heap.size m f :=
  ⟨by simp, fun k hk => (World.cell?_alloc_at _ _ _ _ rfl).trans (h k hk), fun k _ => World.frozen?_alloc_at _ _ _ _ rfl⟩

/-- Blocks side by side, no two of them one. -/
structure Hp (w : World) (l : List Blk) : Prop where
  nd : (l.map (·.1)).Nodup
  row : ∀ x ∈ l, RowF w x.1 x.2.1 x.2.2
section
variable {w w' : World} {l : List Blk} {g m : Nat} {f : Nat → Value}
theorem Hp.at (h : Hp w l) (i : Nat) (hi : l[i]? = some (g, m, f)) : RowF w g m f := h.row _ (List.mem_of_getElem? hi)
theorem Hp.below (h : Hp w l) (hb : Below w.heap.size w w') : Hp w' l := ⟨h.nd, fun x hx => (h.row x hx).below hb (h.row x hx).lt⟩
theorem Hp.drewN (h : Hp w l) (n : Nat) : Hp (w.drewN n) l := h.below (below_drewN _ _ _)
theorem Hp.set (h : Hp w l) (i : Nat) (hi : l[i]? = some (g, m, f)) {j : Nat} (v : Value) (hj : j < m) : Hp (w.setCell ⟨g, j, none⟩ v) (l.set i (g, m, updf f j v)) := by
  have hil : i < l.length := (List.getElem?_eq_some_iff.1 hi).1
  have hgi : l[i] = (g, m, f) := (List.getElem?_eq_some_iff.1 hi).2
  have hmap : (l.set i (g, m, updf f j v)).map (·.1) = l.map (·.1) := by
    rw [List.map_set]
    apply List.ext_getElem (by simp)
    intro k h1 h2
    rw [List.getElem_set]
    split
    · rename_i e; subst e; simp [hgi]
    · rfl
  refine ⟨by rw [hmap]; exact h.nd, fun x hx => ?_⟩
  obtain ⟨k, hk, e⟩ := List.getElem_of_mem hx
  rw [List.length_set] at hk
  rw [List.getElem_set] at e
  split at e
  · subst e; exact (h.at i hi).set v hj
  · rename_i hne
    have hx' : l[k] = x := e
    have h2 := h.row x (hx' ▸ List.getElem_mem hk)
    refine h2.other fun e3 => hne ?_
    have nd := h.nd
    rw [List.nodup_iff_pairwise_ne, List.pairwise_iff_getElem] at nd
    rcases Nat.lt_trichotomy i k with h4 | h4 | h4
    · exact absurd (show (l.map (·.1))[i]'(by simpa using hil) = (l.map (·.1))[k]'(by simpa using hk) by simp [hgi, hx', e3]) (nd i k (by simpa using hil) (by simpa using hk) h4)
    · exact h4
    · exact absurd (show (l.map (·.1))[k]'(by simpa using hk) = (l.map (·.1))[i]'(by simpa using hil) by simp [hgi, hx', e3]) (nd k i (by simpa using hk) (by simpa using hil) h4)
theorem Hp.add (h : Hp w l) (hr : RowF w g m f) (hn : ∀ x ∈ l, x.1 ≠ g) : Hp w ((g, m, f) :: l) :=
  ⟨List.nodup_cons.2 ⟨fun hm => by obtain ⟨x, hx, e⟩ := List.mem_map.1 hm; exact hn x hx e, h.nd⟩, fun x hx => by
    rcases List.mem_cons.1 hx with rfl | hx
    · exact hr
    · exact h.row x hx⟩
theorem Hp.perm {l' : List Blk} (h : Hp w l) (hp : l.Perm l') : Hp w l' := ⟨((hp.map (·.1)).nodup_iff).1 h.nd, fun x hx => h.row x (hp.mem_iff.2 hx)⟩
theorem Hp.nil (w : World) : Hp w [] := ⟨List.nodup_nil, fun _ h => by cases h⟩
theorem Hp.sub {l' : List Blk} (h : Hp w l) (hs : l'.Sublist l) : Hp w l' := ⟨h.nd.sublist (hs.map _), fun x hx => h.row x (hs.subset hx)⟩
theorem Hp.one (h : RowF w g m f) : Hp w [(g, m, f)] := (Hp.nil w).add h fun _ h => by cases h
end
/-- 'make' of rows; the walk does not look behind the names. -/
def zI (n : Nat) : Array Value := madeCells (Value.int .i64 0).cells (n * 1)
theorem zI_get {n k : Nat} (hk : k < n) : (zI n)[k]? = some (iF (fun _ => 0) k) := by
  have hcs : (zI n).toList = List.replicate n (.int .i64 0) := by
    unfold zI; rw [Nat.mul_one]; exact toList_madeCells_one _ _
  rw [← Array.getElem?_toList, hcs, List.getElem?_replicate, if_pos hk]; rfl
theorem run_zI (n : Nat) (hn : n ≤ 1000000) (W : World) : (Instr.makeSlice 23 (.int .i64 (n : Int)) (.int .i64 (n : Int))).run Try.prog W = .ok (.slice (some ⟨W.heap.size, 0, none⟩) n n) (W.alloc (.cells (zI n) 3)) := by
  obtain ⟨i, hi, hz0, hz1, hz2⟩ := info_parts infoInt
  have hrun := run_make (P := Try.prog) W 23 3 i (.int .i64 0) Try.underlying23 hi hz0 .i64 .i64 (n : Int) (n : Int) (by omega) (by omega) (by rw [hz2]; omega) (by omega)
  rw [hz1] at hrun
  simp only [Int.toNat_natCast] at hrun
  exact hrun
theorem boolCells_get {n k : Nat} (hk : k < n) : (boolCells n)[k]? = some (bF (fun _ => false) k) := by
  have hcs : (boolCells n).toList = List.replicate n (.bool false) := by
    unfold boolCells; rw [Nat.mul_one]; exact toList_madeCells_one _ _
  rw [← Array.getElem?_toList, hcs, List.getElem?_replicate, if_pos hk]; rfl

/-- The invariant of a region that makes blocks: what it reckons, what it makes (mk k: how many cells, which), and copies of slices that it made (cp k). -/
structure MkJ (b0 : Nat) (B : World) (val : Nat → Option Value) (mk : Nat → Option (Nat × (Nat → Value))) (cp : Nat → Option Nat) (us : Nat → Value) (D : Nat → Prop) (W : World) : Prop where
  val : ∀ k v, val k = some v → D k → us k = v
  bel : Below B.heap.size B W
  made : ∀ k m f, mk k = some (m, f) → D k → ∃ g, us k = .slice (some ⟨g, 0, none⟩) m m ∧ B.heap.size ≤ g ∧ RowF W g m f
  dis : ∀ k l g h m n, D k → D l → k ≠ l → mk k ≠ none → mk l ≠ none → us k = .slice (some ⟨g, 0, none⟩) m m → us l = .slice (some ⟨h, 0, none⟩) n n → g ≠ h
  cop : ∀ k l, cp k = some l → D k → D l ∧ us k = us l
section
variable {b0 : Nat} {B : World} {val : Nat → Option Value} {mk : Nat → Option (Nat × (Nat → Value))} {cp : Nat → Option Nat} {us : Nat → Value} {D : Nat → Prop} {W W' : World}
theorem MkJ.start (us : Nat → Value) : MkJ b0 B val mk cp us (fun _ => False) B.drew :=
  ⟨fun _ _ _ h => h.elim, below_drewN _ _ 1, fun _ _ _ _ h => h.elim, fun _ _ _ _ _ _ h => h.elim, fun _ _ _ h => h.elim⟩
theorem or_ne' {k i : Nat} {D : Nat → Prop} (h : k = i ∨ D k) (e : k ≠ i) : D k := h.elim (fun h => absurd h e) id
theorem MkJ.pure (h : MkJ b0 B val mk cp us D W) {i : Nat} {v : Value} (hv : val i = some v) (h1 : mk i = none) (h2 : cp i = none) (hnD : ¬ D i) : MkJ b0 B val mk cp (upd us i v) (fun k => k = i ∨ D k) W := by
  refine ⟨fun k u hk hd => ?_, h.bel, fun k m f hk hd => ?_, fun k l g g' m n hk hl hkl a1 a2 e1 e2 => ?_, fun k l hk hd => ?_⟩
  · by_cases e : k = i
    · subst e; rw [upd_same]; rw [hv] at hk; exact Option.some.inj hk
    · rw [upd_ne e]; exact h.val k u hk (or_ne' hd e)
  · have e : k ≠ i := fun e => by rw [e, h1] at hk; cases hk
    rw [upd_ne e]; exact h.made k m f hk (or_ne' hd e)
  · have ek : k ≠ i := fun e => a1 (e ▸ h1)
    have el : l ≠ i := fun e => a2 (e ▸ h1)
    rw [upd_ne ek] at e1; rw [upd_ne el] at e2
    exact h.dis k l g g' m n (or_ne' hk ek) (or_ne' hl el) hkl a1 a2 e1 e2
  · have e : k ≠ i := fun e => by rw [e, h2] at hk; cases hk
    obtain ⟨q1, q2⟩ := h.cop k l hk (or_ne' hd e)
    have el : l ≠ i := fun el => hnD (el ▸ q1)
    rw [upd_ne e, upd_ne el]; exact ⟨.inr q1, q2⟩
theorem MkJ.copy (h : MkJ b0 B val mk cp us D W) {i j : Nat} (hv : val i = none) (h1 : mk i = none) (h2 : cp i = some j) (hj : D j) (hnD : ¬ D i) : MkJ b0 B val mk cp (upd us i (us j)) (fun k => k = i ∨ D k) W := by
  refine ⟨fun k u hk hd => ?_, h.bel, fun k m f hk hd => ?_, fun k l g g' m n hk hl hkl a1 a2 e1 e2 => ?_, fun k l hk hd => ?_⟩
  · have e : k ≠ i := fun e => by rw [e, hv] at hk; cases hk
    rw [upd_ne e]; exact h.val k u hk (or_ne' hd e)
  · have e : k ≠ i := fun e => by rw [e, h1] at hk; cases hk
    rw [upd_ne e]; exact h.made k m f hk (or_ne' hd e)
  · have ek : k ≠ i := fun e => a1 (e ▸ h1)
    have el : l ≠ i := fun e => a2 (e ▸ h1)
    rw [upd_ne ek] at e1; rw [upd_ne el] at e2
    exact h.dis k l g g' m n (or_ne' hk ek) (or_ne' hl el) hkl a1 a2 e1 e2
  · by_cases e : k = i
    · subst e
      rw [h2] at hk; cases hk
      have el : j ≠ k := fun el => hnD (el ▸ hj)
      rw [upd_same, upd_ne el]; exact ⟨.inr hj, rfl⟩
    · obtain ⟨q1, q2⟩ := h.cop k l hk (or_ne' hd e)
      have el : l ≠ i := fun el => hnD (el ▸ q1)
      rw [upd_ne e, upd_ne el]; exact ⟨.inr q1, q2⟩
theorem MkJ.make (h : MkJ b0 B val mk cp us D W) {i m : Nat} {f : Nat → Value} {o : Obj} (hv : val i = none) (h1 : mk i = some (m, f)) (h2 : cp i = none) (hnD : ¬ D i) (hr : RowF (W.alloc o) W.heap.size m f) : MkJ b0 B val mk cp (upd us i (.slice (some ⟨W.heap.size, 0, none⟩) m m)) (fun k => k = i ∨ D k) (W.alloc o) := by
  have hb : Below W.heap.size W (W.alloc o) := (Below.refl _ _).alloc (Nat.le_refl _) _
  refine ⟨fun k u hk hd => ?_, h.bel.trans (hb.mono h.bel.size), fun k m' f' hk hd => ?_, fun k l g g' m' n hk hl hkl a1 a2 e1 e2 => ?_, fun k l hk hd => ?_⟩
  · have e : k ≠ i := fun e => by rw [e, hv] at hk; cases hk
    rw [upd_ne e]; exact h.val k u hk (or_ne' hd e)
  · by_cases e : k = i
    · subst e
      rw [h1] at hk; cases hk
      rw [upd_same]; exact ⟨_, rfl, h.bel.size, hr⟩
    · rw [upd_ne e]
      obtain ⟨g, q1, q2, q3⟩ := h.made k m' f' hk (or_ne' hd e)
      exact ⟨g, q1, q2, q3.below hb q3.lt⟩
  · have key : ∀ x y u : Nat, mk x ≠ none → D x → us x = .slice (some ⟨y, 0, none⟩) u u → y < W.heap.size := fun x y u hx hd e => by
      cases hm : mk x with
      | none => exact absurd hm hx
      | some p =>
        obtain ⟨g, q1, q2, q3⟩ := h.made x p.1 p.2 hm hd
        rw [q1] at e
        simp only [Value.slice.injEq, Option.some.injEq, Addr.mk.injEq] at e
        have := q3.lt
        omega
    have inj : ∀ a b c d : Nat, Value.slice (some ⟨a, 0, none⟩) b b = .slice (some ⟨c, 0, none⟩) d d → a = c := fun a b c d e => by
      simp only [Value.slice.injEq, Option.some.injEq, Addr.mk.injEq] at e
      exact e.1.1
    by_cases ek : k = i
    · subst ek
      rw [upd_same] at e1
      rw [upd_ne (Ne.symm hkl)] at e2
      have := key l g' n a2 (or_ne' hl (Ne.symm hkl)) e2
      have := inj _ _ _ _ e1
      omega
    · rw [upd_ne ek] at e1
      by_cases el : l = i
      · subst el
        rw [upd_same] at e2
        have := key k g m' a1 (or_ne' hk ek) e1
        have := inj _ _ _ _ e2
        omega
      · rw [upd_ne el] at e2
        exact h.dis k l g g' m' n (or_ne' hk ek) (or_ne' hl el) hkl a1 a2 e1 e2
  · have e : k ≠ i := fun e => by rw [e, h2] at hk; cases hk
    obtain ⟨q1, q2⟩ := h.cop k l hk (or_ne' hd e)
    have el : l ≠ i := fun el => hnD (el ▸ q1)
    rw [upd_ne e, upd_ne el]; exact ⟨.inr q1, q2⟩
theorem MkJ.other (h : MkJ b0 B val mk cp us D W) {i : Nat} {v : Value} (hv : val i = none) (h1 : mk i = none) (h2 : cp i = none) (hnD : ¬ D i) (hb : Below B.heap.size B W') (hr : ∀ k m f g, mk k = some (m, f) → D k → us k = .slice (some ⟨g, 0, none⟩) m m → RowF W g m f → RowF W' g m f) : MkJ b0 B val mk cp (upd us i v) (fun k => k = i ∨ D k) W' := by
  refine ⟨fun k u hk hd => ?_, hb, fun k m f hk hd => ?_, fun k l g g' m n hk hl hkl a1 a2 e1 e2 => ?_, fun k l hk hd => ?_⟩
  · have e : k ≠ i := fun e => by rw [e, hv] at hk; cases hk
    rw [upd_ne e]; exact h.val k u hk (or_ne' hd e)
  · have e : k ≠ i := fun e => by rw [e, h1] at hk; cases hk
    rw [upd_ne e]
    obtain ⟨g, q1, q2, q3⟩ := h.made k m f hk (or_ne' hd e)
    exact ⟨g, q1, q2, hr k m f g hk (or_ne' hd e) q1 q3⟩
  · have ek : k ≠ i := fun e => a1 (e ▸ h1)
    have el : l ≠ i := fun e => a2 (e ▸ h1)
    rw [upd_ne ek] at e1; rw [upd_ne el] at e2
    exact h.dis k l g g' m n (or_ne' hk ek) (or_ne' hl el) hkl a1 a2 e1 e2
  · have e : k ≠ i := fun e => by rw [e, h2] at hk; cases hk
    obtain ⟨q1, q2⟩ := h.cop k l hk (or_ne' hd e)
    have el : l ≠ i := fun el => hnD (el ▸ q1)
    rw [upd_ne e, upd_ne el]; exact ⟨.inr q1, q2⟩
end
/-- A region that makes two rows and a box that holds both: build (bi), alloc (ai), store (si). -/
structure BxJ (B : World) (val : Nat → Option Value) (mk : Nat → Option (Nat × (Nat → Value))) (k0 k1 bi ai si : Nat) (us : Nat → Value) (D : Nat → Prop) (W : World) : Prop where
  m : MkJ 0 B val mk (fun _ => none) us D W
  bld : D bi → D k0 ∧ D k1 ∧ us bi = .agg #[us k0, us k1]
  box : D ai → ∃ b f, us ai = .pointer (some ⟨b, 0, none⟩) ∧ B.heap.size ≤ b ∧ RowF W b 2 f ∧ (∀ k g m, mk k ≠ none → D k → us k = .slice (some ⟨g, 0, none⟩) m m → g ≠ b) ∧ (D si → f 0 = us k0 ∧ f 1 = us k1)
  st : D si → D ai ∧ D bi
section
variable {B : World} {val : Nat → Option Value} {mk : Nat → Option (Nat × (Nat → Value))} {k0 k1 bi ai si : Nat} {us : Nat → Value} {D : Nat → Prop} {W W' : World}
theorem BxJ.start (us : Nat → Value) : BxJ B val mk k0 k1 bi ai si us (fun _ => False) B.drew :=
  ⟨MkJ.start us, fun h => h.elim, fun h => h.elim, fun h => h.elim⟩
/-- The numbers of the box's operations stand apart from the others. -/
structure BxN (val : Nat → Option Value) (mk : Nat → Option (Nat × (Nat → Value))) (k0 k1 bi ai si : Nat) : Prop where
  b : val bi = none ∧ mk bi = none
  a : val ai = none ∧ mk ai = none
  s : val si = none ∧ mk si = none
  n : bi ≠ ai ∧ bi ≠ si ∧ ai ≠ si ∧ k0 ≠ bi ∧ k0 ≠ ai ∧ k0 ≠ si ∧ k1 ≠ bi ∧ k1 ≠ ai ∧ k1 ≠ si
theorem BxJ.pure (h : BxJ B val mk k0 k1 bi ai si us D W) {i : Nat} {v : Value} (hv : val i = some v) (h1 : mk i = none) (hnD : ¬ D i) (hn : i ≠ bi ∧ i ≠ ai ∧ i ≠ si ∧ i ≠ k0 ∧ i ≠ k1) : BxJ B val mk k0 k1 bi ai si (upd us i v) (fun k => k = i ∨ D k) W := by
  obtain ⟨n1, n2, n3, n4, n5⟩ := hn
  refine ⟨h.m.pure hv h1 rfl hnD, fun hd => ?_, fun hd => ?_, fun hd => ?_⟩
  · obtain ⟨q1, q2, q3⟩ := h.bld (or_ne' hd (Ne.symm n1))
    rw [upd_ne (Ne.symm n1), upd_ne (Ne.symm n4), upd_ne (Ne.symm n5)]
    exact ⟨.inr q1, .inr q2, q3⟩
  · obtain ⟨b, f, q1, q2, q3, q4, q5⟩ := h.box (or_ne' hd (Ne.symm n2))
    rw [upd_ne (Ne.symm n2), upd_ne (Ne.symm n4), upd_ne (Ne.symm n5)]
    refine ⟨b, f, q1, q2, q3, fun k g m hk hd e => ?_, fun hd => q5 (or_ne' hd (Ne.symm n3))⟩
    have ek : k ≠ i := fun e => hk (e ▸ h1)
    rw [upd_ne ek] at e
    exact q4 k g m hk (or_ne' hd ek) e
  · obtain ⟨q1, q2⟩ := h.st (or_ne' hd (Ne.symm n3))
    exact ⟨.inr q1, .inr q2⟩
theorem BxJ.make (h : BxJ B val mk k0 k1 bi ai si us D W) {i m : Nat} {f : Nat → Value} {o : Obj} (hv : val i = none) (h1 : mk i = some (m, f)) (hnD : ¬ D i) (hn : i ≠ bi ∧ i ≠ ai ∧ i ≠ si) (hbi : D bi → D i) (hr : RowF (W.alloc o) W.heap.size m f) : BxJ B val mk k0 k1 bi ai si (upd us i (.slice (some ⟨W.heap.size, 0, none⟩) m m)) (fun k => k = i ∨ D k) (W.alloc o) := by
  obtain ⟨n1, n2, n3⟩ := hn
  have hb : Below W.heap.size W (W.alloc o) := (Below.refl _ _).alloc (Nat.le_refl _) _
  have hnb : ¬ D bi := fun hd => hnD (hbi hd)
  have hns : ¬ D si := fun hd => hnb (h.st hd).2
  refine ⟨h.m.make hv h1 rfl hnD hr, fun hd => absurd (or_ne' hd (Ne.symm n1)) hnb, fun hd => ?_, fun hd => absurd (or_ne' hd (Ne.symm n3)) hns⟩
  obtain ⟨b, f', q1, q2, q3, q4, _⟩ := h.box (or_ne' hd (Ne.symm n2))
  rw [upd_ne (Ne.symm n2)]
  refine ⟨b, f', q1, q2, q3.below hb q3.lt, fun k g m' hk hd e => ?_, fun hd => absurd (or_ne' hd (Ne.symm n3)) hns⟩
  by_cases ek : k = i
  · subst ek
    rw [upd_same] at e
    simp only [Value.slice.injEq, Option.some.injEq, Addr.mk.injEq] at e
    have := q3.lt
    omega
  · rw [upd_ne ek] at e
    exact q4 k g m' hk (or_ne' hd ek) e
theorem BxJ.build (h : BxJ B val mk k0 k1 bi ai si us D W) (N : BxN val mk k0 k1 bi ai si) (hnD : ¬ D bi) (h0 : D k0) (h1 : D k1) : BxJ B val mk k0 k1 bi ai si (upd us bi (.agg #[us k0, us k1])) (fun k => k = bi ∨ D k) W := by
  obtain ⟨a1, a2, a3, a4, a5, a6, a7, a8, a9⟩ := N.n
  have hns : ¬ D si := fun hd => hnD (h.st hd).2
  refine ⟨h.m.other N.b.1 N.b.2 rfl hnD h.m.bel (fun _ _ _ _ _ _ _ q => q), fun _ => ?_, fun hd => ?_, fun hd => absurd (or_ne' hd (Ne.symm a2)) hns⟩
  · rw [upd_same, upd_ne a4, upd_ne a7]; exact ⟨.inr h0, .inr h1, rfl⟩
  · obtain ⟨b, f', q1, q2, q3, q4, _⟩ := h.box (or_ne' hd (Ne.symm a1))
    rw [upd_ne (Ne.symm a1)]
    refine ⟨b, f', q1, q2, q3, fun k g m' hk hd e => ?_, fun hd => absurd (or_ne' hd (Ne.symm a2)) hns⟩
    have ek : k ≠ bi := fun e => hk (e ▸ N.b.2)
    rw [upd_ne ek] at e
    exact q4 k g m' hk (or_ne' hd ek) e
theorem BxJ.alloc (h : BxJ B val mk k0 k1 bi ai si us D W) (N : BxN val mk k0 k1 bi ai si) (hnD : ¬ D ai) {o : Obj} {f : Nat → Value} (hr : RowF (W.alloc o) W.heap.size 2 f) : BxJ B val mk k0 k1 bi ai si (upd us ai (.pointer (some ⟨W.heap.size, 0, none⟩))) (fun k => k = ai ∨ D k) (W.alloc o) := by
  obtain ⟨a1, a2, a3, a4, a5, a6, a7, a8, a9⟩ := N.n
  have hb : Below W.heap.size W (W.alloc o) := (Below.refl _ _).alloc (Nat.le_refl _) _
  have hns : ¬ D si := fun hd => hnD (h.st hd).1
  refine ⟨h.m.other N.a.1 N.a.2 rfl hnD (h.m.bel.trans (hb.mono h.m.bel.size)) (fun _ _ _ _ _ _ _ q => q.below hb q.lt), fun hd => ?_, fun hd => ?_, fun hd => absurd (or_ne' hd (Ne.symm a3)) hns⟩
  · obtain ⟨q1, q2, q3⟩ := h.bld (or_ne' hd a1)
    rw [upd_ne a1, upd_ne a5, upd_ne a8]
    exact ⟨.inr q1, .inr q2, q3⟩
  · rw [upd_same]
    refine ⟨_, f, rfl, h.m.bel.size, hr, fun k g m hk hd e => ?_, fun hd => absurd (or_ne' hd (Ne.symm a3)) hns⟩
    have ek : k ≠ ai := fun e => hk (e ▸ N.a.2)
    rw [upd_ne ek] at e
    cases hm : mk k with
    | none => exact absurd hm hk
    | some p =>
      obtain ⟨g', q1, q2, q3⟩ := h.m.made k p.1 p.2 hm (or_ne' hd ek)
      rw [q1] at e
      simp only [Value.slice.injEq, Option.some.injEq, Addr.mk.injEq] at e
      have := q3.lt
      omega
theorem BxJ.store (h : BxJ B val mk k0 k1 bi ai si us D W) (N : BxN val mk k0 k1 bi ai si) (hnD : ¬ D si) (hai : D ai) (hbi : D bi) {b : Nat} (hb : us ai = .pointer (some ⟨b, 0, none⟩)) (u : Value) : BxJ B val mk k0 k1 bi ai si (upd us si u) (fun k => k = si ∨ D k) ((W.setCell ⟨b, 0, none⟩ (us k0)).setCell ⟨b, 1, none⟩ (us k1)) := by
  obtain ⟨a1, a2, a3, a4, a5, a6, a7, a8, a9⟩ := N.n
  obtain ⟨b', f, q1, q2, q3, q4, _⟩ := h.box hai
  rw [hb] at q1
  obtain rfl : b = b' := by simpa using q1
  refine ⟨h.m.other N.s.1 N.s.2 rfl hnD ((h.m.bel.setCell (p := ⟨b, 0, none⟩) q2 _).setCell (p := ⟨b, 1, none⟩) q2 _) (fun k m f g hk hd e q => ((q.other ?_).other ?_)), fun hd => ?_, fun hd => ?_, fun _ => ⟨.inr hai, .inr hbi⟩⟩
  · exact fun e2 => q4 k g m (by rw [hk]; simp) hd e e2.symm
  · exact fun e2 => q4 k g m (by rw [hk]; simp) hd e e2.symm
  · obtain ⟨r1, r2, r3⟩ := h.bld hbi
    rw [upd_ne a2, upd_ne a6, upd_ne a9]
    exact ⟨.inr r1, .inr r2, r3⟩
  · rw [upd_ne a3, upd_ne a6, upd_ne a9]
    refine ⟨b, _, hb, q2, (q3.set (us k0) (j := 0) (by omega)).set (us k1) (j := 1) (by omega), fun k g m hk hd e => ?_, fun _ => ⟨?_, ?_⟩⟩
    · have ek : k ≠ si := fun e => hk (e ▸ N.s.2)
      rw [upd_ne ek] at e
      exact q4 k g m hk (or_ne' hd ek) e
    · rw [updf_ne (by omega), updf_at]
    · rw [updf_at]
end
end Go.Proofs.Ytcgaojnfgkfnkaa

/- A week of the least cost, found agent by agent, with bounds that prove it: what holds in each loop of the search; plain, no program. -/
namespace Go.Proofs.Ytcgaojnfgkfnkaa
set_option linter.unusedVariables false
set_option linter.unusedSimpArgs false

def big40 : Int := 1099511627776
/-- Bounds, and shifts given to agents 1 .. i (H (k + 1): who has the shift k, 0: nobody). -/
structure Bas (n : Nat) (C : Int) (c : Nat → Nat → Int) (i : Nat) (U V : Nat → Int) (H : Nat → Nat) : Prop where
  cb : ∀ a k, a < n → k < n → 0 ≤ c a k ∧ c a k ≤ C
  feas : Feas n c U V
  sharp : ∀ k, k < n → H (k + 1) ≠ 0 → c (H (k + 1) - 1) k = U (H (k + 1)) + V (k + 1)
  rng : ∀ k, k < n → H (k + 1) ≤ i
  inj : ∀ k l, k < n → l < n → H (k + 1) ≠ 0 → H (k + 1) = H (l + 1) → k = l
  onto : ∀ r, r < i → ∃ k, k < n ∧ H (k + 1) = r + 1
  free : ∀ k, k < n → H (k + 1) = 0 → V (k + 1) = 0
  vlo : ∀ k, k < n → -C ≤ V (k + 1) ∧ V (k + 1) ≤ 0
  uhi : ∀ r, r < n → 0 ≤ U (r + 1) ∧ U (r + 1) ≤ C
structure Stg (n : Nat) (C : Int) (c : Nat → Nat → Int) (i : Nat) (U V : Nat → Int) (H : Nat → Nat) : Prop extends Bas n C c i U V H where
  late : ∀ r, r < n → i ≤ r → U (r + 1) = 0
  v0 : -(C * i) ≤ V 0 ∧ V 0 ≤ 0
theorem stg_zero {n : Nat} {C : Int} {c : Nat → Nat → Int} (hc : ∀ a k, a < n → k < n → 0 ≤ c a k ∧ c a k ≤ C) (hC : 0 ≤ C) : Stg n C c 0 (fun _ => 0) (fun _ => 0) (fun _ => 0) := by
  refine ⟨⟨hc, fun a k ha hk => by simpa using (hc a k ha hk).1, fun k hk h => absurd rfl h, fun k hk => Nat.le_refl _, fun k l _ _ h => absurd rfl h, fun r hr => by omega, fun _ _ _ => rfl, fun k _ => ⟨by omega, Int.le_refl _⟩, fun r _ => ⟨Int.le_refl _, hC⟩⟩, fun _ _ _ => rfl, by simp⟩
theorem Bas.some_free {n : Nat} {C : Int} {c : Nat → Nat → Int} {i : Nat} {U V : Nat → Int} {H : Nat → Nat} (h : Bas n C c i U V H) (hi : i < n) : ∃ k, k < n ∧ H (k + 1) = 0 := by
  apply Classical.byContradiction
  intro hc
  have hne : ∀ k, k < n → H (k + 1) ≠ 0 := fun k hk e => hc ⟨k, hk, e⟩
  have hp : Per n (fun k => H (k + 1) - 1) := ⟨fun k hk => by have := h.rng k hk; show H (k + 1) - 1 < n; omega, fun k l hk hl e => by
    have := hne k hk; have := hne l hl
    have e : H (k + 1) - 1 = H (l + 1) - 1 := e
    exact h.inj k l hk hl (hne k hk) (by omega)⟩
  obtain ⟨k, hk, e⟩ := hp.surj (j := n - 1) (by omega)
  have := h.rng k hk
  have := hne k hk
  have e : H (k + 1) - 1 = n - 1 := e
  omega
/-- What the row of the shift j lacks to the shift k. -/
def slk (c : Nat → Nat → Int) (U V : Nat → Int) (H : Nat → Nat) (j k : Nat) : Int := c (H j - 1) (k - 1) - U (H j) - V k
structure Fur (n : Nat) (C : Int) (c : Nat → Nat → Int) (i : Nat) (U V : Nat → Int) (H : Nat → Nat) (t : Nat) (D : Nat → Bool) (L : Nat → Int) (P : Nat → Nat) (ρ : Nat → Nat) (m : Nat) : Prop extends Bas n C c i U V H where
  hi : i < n
  hC : 2 * C < big40
  late : ∀ r, r < n → i < r → U (r + 1) = 0
  h0 : H 0 = i + 1
  v0 : -(C * i) ≤ V 0 + U (i + 1) ∧ V 0 ≤ 0
  tn : t ≤ n
  ht : H t ≠ 0
  nd : D t = false
  dn : ∀ k, D k = true → k ≤ n ∧ H k ≠ 0
  d0 : t = 0 ∨ D 0 = true
  lb : ∀ k, k ≤ n → 0 ≤ L k ∧ L k ≤ big40
  best : ∀ k, 1 ≤ k → k ≤ n → D k = false → (L k = big40 ∧ ∀ j, D j = false) ∨ (D (P k) = true ∧ L k = slk c U V H (P k) k ∧ ∀ j, D j = true → L k ≤ slk c U V H j k)
  tree : ∀ k, (D k = true ∨ k = t) → k ≠ 0 → D (P k) = true ∧ slk c U V H (P k) k = 0 ∧ ρ (P k) < ρ k
  rank : ∀ k, (D k = true ∨ k = t) → ρ k ≤ m
section
variable {n : Nat} {C : Int} {c : Nat → Nat → Int} {i : Nat} {U V : Nat → Int} {H : Nat → Nat} {t : Nat} {D : Nat → Bool} {L : Nat → Int} {P : Nat → Nat} {ρ : Nat → Nat} {m : Nat}
theorem Stg.start (h : Stg n C c i U V H) (hi : i < n) (hC : 2 * C < big40) (P : Nat → Nat) {L : Nat → Int} (hL : ∀ k, k ≤ n → L k = big40) : Fur n C c i U V (updf H 0 (i + 1)) 0 (fun _ => false) L P (fun _ => 0) 0 := by
  have e : ∀ k, updf H 0 (i + 1) (k + 1) = H (k + 1) := fun k => updf_ne (by omega)
  refine ⟨⟨h.cb, h.feas, fun k hk => by rw [e]; exact h.sharp k hk, fun k hk => by rw [e]; exact h.rng k hk, fun k l hk hl => by rw [e, e]; exact h.inj k l hk hl, fun r hr => ?_, fun k hk => by rw [e]; exact h.free k hk, h.vlo, h.uhi⟩, hi, hC, fun r hr hir => h.late r hr (by omega), updf_at _ _ _, ?_, Nat.zero_le _, by rw [updf_at]; omega, rfl, (fun k hk => by cases hk), .inl rfl, fun k hk => by (rw [hL k hk]; exact ⟨by unfold big40; omega, Int.le_refl _⟩), fun k _ hk _ => .inl ⟨hL k hk, fun _ => rfl⟩, fun k hk h0 => ?_, fun _ _ => Nat.le_refl _⟩
  · obtain ⟨k, hk, e2⟩ := h.onto r hr
    exact ⟨k, hk, by rw [e]; exact e2⟩
  · rw [h.late i hi (Nat.le_refl _)]
    have := h.v0
    omega
  · rcases hk with hk | hk
    · cases hk
    · exact absurd hk h0
/-- A row of the search is a row. -/
theorem Fur.row (h : Fur n C c i U V H t D L P ρ m) {j : Nat} (hj : j ≤ n) (hH : H j ≠ 0) : H j - 1 < n ∧ H j - 1 + 1 = H j ∧ H j ≤ i + 1 := by
  cases j with
  | zero => have := h.h0; have := h.hi; omega
  | succ j => have := h.rng j (by omega); have := h.hi; omega
theorem Fur.injA (h : Fur n C c i U V H t D L P ρ m) {j k : Nat} (hj : j ≤ n) (hk : k ≤ n) (hH : H j ≠ 0) (e : H j = H k) : j = k := by
  have h0 := h.h0
  cases j with
  | zero =>
    cases k with
    | zero => rfl
    | succ k => have := h.rng k (by omega); omega
  | succ j =>
    cases k with
    | zero => have := h.rng j (by omega); omega
    | succ k => rw [h.inj j k (by omega) (by omega) hH e]
theorem Fur.slk_nonneg (h : Fur n C c i U V H t D L P ρ m) {j k : Nat} (hj : j ≤ n) (hH : H j ≠ 0) (hk0 : 1 ≤ k) (hk : k ≤ n) : 0 ≤ slk c U V H j k ∧ slk c U V H j k ≤ 2 * C := by
  obtain ⟨h1, h2, _⟩ := h.row hj hH
  have h3 := h.feas (H j - 1) (k - 1) h1 (by omega)
  have h4 := h.cb (H j - 1) (k - 1) h1 (by omega)
  have h5 := h.uhi (H j - 1) h1
  have h6 := h.vlo (k - 1) (by omega)
  have e : k - 1 + 1 = k := by omega
  rw [h2, e] at h3
  rw [h2] at h5
  rw [e] at h6
  unfold slk
  omega
/-- The first inner loop: distances by the agent that has t. -/
def newL (c : Nat → Nat → Int) (U V : Nat → Int) (H : Nat → Nat) (t : Nat) (D : Nat → Bool) (L : Nat → Int) (k : Nat) : Nat → Int := fun j => if 1 ≤ j ∧ j < k ∧ D j = false ∧ slk c U V H t j < L j then slk c U V H t j else L j
def newP (c : Nat → Nat → Int) (U V : Nat → Int) (H : Nat → Nat) (t : Nat) (D : Nat → Bool) (L : Nat → Int) (P : Nat → Nat) (k : Nat) : Nat → Nat := fun j => if 1 ≤ j ∧ j < k ∧ D j = false ∧ slk c U V H t j < L j then t else P j
theorem newL_zero (c : Nat → Nat → Int) (U V : Nat → Int) (H : Nat → Nat) (t : Nat) (D : Nat → Bool) (L : Nat → Int) (P : Nat → Nat) : newL c U V H t D L 1 = L ∧ newP c U V H t D L P 1 = P :=
  ⟨funext fun j => if_neg (by omega), funext fun j => if_neg (by omega)⟩
theorem newL_same {k : Nat} (h : D k = true ∨ ¬ slk c U V H t k < L k) : newL c U V H t D L (k + 1) = newL c U V H t D L k ∧ newP c U V H t D L P (k + 1) = newP c U V H t D L P k := by
  have e : ∀ j, (1 ≤ j ∧ j < k + 1 ∧ D j = false ∧ slk c U V H t j < L j) ↔ (1 ≤ j ∧ j < k ∧ D j = false ∧ slk c U V H t j < L j) := fun j => by
    constructor
    · rintro ⟨h1, h2, h3, h4⟩
      refine ⟨h1, ?_, h3, h4⟩
      by_cases ej : j = k
      · subst ej
        rcases h with h | h
        · rw [h] at h3; cases h3
        · exact absurd h4 h
      · omega
    · rintro ⟨h1, h2, h3, h4⟩; exact ⟨h1, by omega, h3, h4⟩
  exact ⟨funext fun j => by unfold newL; simp only [e], funext fun j => by unfold newP; simp only [e]⟩
theorem newL_less {k : Nat} (hk : 1 ≤ k) (hD : D k = false) (h : slk c U V H t k < L k) : newL c U V H t D L (k + 1) = updf (newL c U V H t D L k) k (slk c U V H t k) ∧ newP c U V H t D L P (k + 1) = updf (newP c U V H t D L P k) k t := by
  refine ⟨funext fun j => ?_, funext fun j => ?_⟩
  · by_cases ej : j = k
    · subst ej; rw [updf_at]; exact if_pos ⟨hk, by omega, hD, h⟩
    · rw [updf_ne ej]; unfold newL
      have e : (j < k + 1) = (j < k) := propext ⟨fun h => by omega, fun h => by omega⟩
      simp only [e]
  · by_cases ej : j = k
    · subst ej; rw [updf_at]; exact if_pos ⟨hk, by omega, hD, h⟩
    · rw [updf_ne ej]; unfold newP
      have e : (j < k + 1) = (j < k) := propext ⟨fun h => by omega, fun h => by omega⟩
      simp only [e]
theorem newL_at {k : Nat} : newL c U V H t D L k k = L k := if_neg (by omega)
/-- The least distance so far, and where it is. -/
def Least (L : Nat → Int) (D : Nat → Bool) (k : Nat) (s x : Int) : Prop :=
  (s = big40 ∧ x = -1 ∧ ∀ j, 1 ≤ j → j < k → D j = false → big40 ≤ L j) ∨ (∃ y : Nat, x = y ∧ 1 ≤ y ∧ y < k ∧ D y = false ∧ s = L y ∧ s < big40 ∧ ∀ j, 1 ≤ j → j < k → D j = false → s ≤ L j)
theorem least_zero (L : Nat → Int) (D : Nat → Bool) : Least L D 1 big40 (-1) := .inl ⟨rfl, rfl, fun j h1 h2 _ => by omega⟩
theorem Least.congr {L L' : Nat → Int} {D : Nat → Bool} {k : Nat} {s x : Int} (h : Least L D k s x) (e : ∀ j, 1 ≤ j → j < k → L' j = L j) : Least L' D k s x := by
  rcases h with ⟨h1, h2, h3⟩ | ⟨y, h1, h2, h3, h4, h5, h6, h7⟩
  · exact .inl ⟨h1, h2, fun j a b d => by rw [e j a b]; exact h3 j a b d⟩
  · exact .inr ⟨y, h1, h2, h3, h4, by rw [e y h2 h3]; exact h5, h6, fun j a b d => by rw [e j a b]; exact h7 j a b d⟩
theorem Least.skip {L : Nat → Int} {D : Nat → Bool} {k : Nat} {s x : Int} (h : Least L D k s x) (hD : D k = true) : Least L D (k + 1) s x := by
  have hk : ∀ j, j < k + 1 → D j = false → j < k := fun j h1 h2 => by
    by_cases e : j = k
    · subst e; rw [hD] at h2; cases h2
    · omega
  rcases h with ⟨h1, h2, h3⟩ | ⟨y, h1, h2, h3, h4, h5, h6, h7⟩
  · exact .inl ⟨h1, h2, fun j a b d => h3 j a (hk j b d) d⟩
  · exact .inr ⟨y, h1, h2, by omega, h4, h5, h6, fun j a b d => h7 j a (hk j b d) d⟩
theorem Least.same {L : Nat → Int} {D : Nat → Bool} {k : Nat} {s x : Int} (h : Least L D k s x) (hs : ¬ L k < s) : Least L D (k + 1) s x := by
  rcases h with ⟨h1, h2, h3⟩ | ⟨y, h1, h2, h3, h4, h5, h6, h7⟩
  · exact .inl ⟨h1, h2, fun j a b d => by
      by_cases e : j = k
      · subst e; omega
      · exact h3 j a (by omega) d⟩
  · exact .inr ⟨y, h1, h2, by omega, h4, h5, h6, fun j a b d => by
      by_cases e : j = k
      · subst e; omega
      · exact h7 j a (by omega) d⟩
theorem Least.less {L : Nat → Int} {D : Nat → Bool} {k : Nat} {s x : Int} (h : Least L D k s x) (hk : 1 ≤ k) (hD : D k = false) (hs : L k < s) : Least L D (k + 1) (L k) k := by
  have hb : s ≤ big40 := by
    rcases h with ⟨h1, _⟩ | ⟨y, _, _, _, _, _, h6, _⟩
    · omega
    · omega
  have hj : ∀ j, 1 ≤ j → j < k → D j = false → s ≤ L j := by
    rcases h with ⟨h1, h2, h3⟩ | ⟨y, h1, h2, h3, h4, h5, h6, h7⟩
    · intro j a b d; have := h3 j a b d; omega
    · exact h7
  refine .inr ⟨k, rfl, hk, by omega, hD, rfl, by omega, fun j a b d => ?_⟩
  by_cases e : j = k
  · subst e; omega
  · have := hj j a (by omega) d; omega
/-- Behind the first inner loop. -/
structure Mid (n : Nat) (C : Int) (c : Nat → Nat → Int) (i : Nat) (U V : Nat → Int) (H : Nat → Nat) (D : Nat → Bool) (L : Nat → Int) (P : Nat → Nat) (ρ : Nat → Nat) (m : Nat) (s : Int) (y : Nat) : Prop extends Bas n C c i U V H where
  hi : i < n
  hC : 2 * C < big40
  late : ∀ r, r < n → i < r → U (r + 1) = 0
  h0 : H 0 = i + 1
  v0 : -(C * i) ≤ V 0 + U (i + 1) ∧ V 0 ≤ 0
  dn : ∀ k, D k = true → k ≤ n ∧ H k ≠ 0
  d0 : D 0 = true
  lb : ∀ k, k ≤ n → 0 ≤ L k ∧ L k ≤ big40
  best : ∀ k, 1 ≤ k → k ≤ n → D k = false → D (P k) = true ∧ L k = slk c U V H (P k) k ∧ ∀ j, D j = true → L k ≤ slk c U V H j k
  tree : ∀ k, D k = true → k ≠ 0 → D (P k) = true ∧ slk c U V H (P k) k = 0 ∧ ρ (P k) < ρ k
  rank : ∀ k, D k = true → ρ k ≤ m
  y1 : 1 ≤ y
  yn : y ≤ n
  yd : D y = false
  ys : L y = s
  ymin : ∀ k, 1 ≤ k → k ≤ n → D k = false → s ≤ L k
theorem Fur.mid (h : Fur n C c i U V H t D L P ρ m) {s x : Int} (hs : Least (newL c U V H t (updf D t true) L (n + 1)) (updf D t true) (n + 1) s x) :
    ∃ y : Nat, x = y ∧ Mid n C c i U V H (updf D t true) (newL c U V H t (updf D t true) L (n + 1)) (newP c U V H t (updf D t true) L P (n + 1)) ρ m s y := by
  have hDt : ∀ k, updf D t true k = true ↔ (D k = true ∨ k = t) := fun k => by
    by_cases e : k = t
    · subst e; simp [updf_at]
    · rw [updf_ne e]; simp [e]
  have hDf : ∀ k, updf D t true k = false → D k = false ∧ k ≠ t := fun k hk => by
    by_cases e : k = t
    · subst e; rw [updf_at] at hk; cases hk
    · rw [updf_ne e] at hk; exact ⟨hk, e⟩
  obtain ⟨fk, hfk, hf0⟩ := h.some_free h.hi
  have hfd : updf D t true (fk + 1) = false := by
    cases hd : updf D t true (fk + 1) with
    | false => rfl
    | true =>
      rcases (hDt _).1 hd with h1 | h1
      · exact absurd hf0 (h.dn _ h1).2
      · exact absurd (h1 ▸ hf0) h.ht
  have hst : slk c U V H t (fk + 1) ≤ C := by
    obtain ⟨r1, r2, _⟩ := h.row h.tn h.ht
    have h4 := h.cb (H t - 1) fk r1 hfk
    have h5 := h.uhi (H t - 1) r1
    rw [r2] at h5
    have h6 := h.free fk hfk hf0
    unfold slk
    rw [Nat.add_sub_cancel, h6]
    omega
  have hbest : ∀ k, 1 ≤ k → k ≤ n → updf D t true k = false → updf D t true (newP c U V H t (updf D t true) L P (n + 1) k) = true ∧ newL c U V H t (updf D t true) L (n + 1) k = slk c U V H (newP c U V H t (updf D t true) L P (n + 1) k) k ∧ ∀ j, updf D t true j = true → newL c U V H t (updf D t true) L (n + 1) k ≤ slk c U V H j k := fun k hk1 hkn hkd => by
    obtain ⟨d1, d2⟩ := hDf k hkd
    by_cases e : slk c U V H t k < L k
    · have e1 : newL c U V H t (updf D t true) L (n + 1) k = slk c U V H t k := if_pos ⟨hk1, by omega, hkd, e⟩
      have e2 : newP c U V H t (updf D t true) L P (n + 1) k = t := if_pos ⟨hk1, by omega, hkd, e⟩
      rw [e1, e2]
      refine ⟨updf_at _ _ _, rfl, fun j hj => ?_⟩
      rcases (hDt j).1 hj with h1 | h1
      · rcases h.best k hk1 hkn d1 with ⟨_, h3⟩ | ⟨_, _, h3⟩
        · rw [h3 j] at h1; cases h1
        · have := h3 j h1; omega
      · rw [h1]; exact Int.le_refl _
    · have e1 : newL c U V H t (updf D t true) L (n + 1) k = L k := if_neg (fun h => e h.2.2.2)
      have e2 : newP c U V H t (updf D t true) L P (n + 1) k = P k := if_neg (fun h => e h.2.2.2)
      rw [e1, e2]
      rcases h.best k hk1 hkn d1 with ⟨h3, h4⟩ | ⟨h2, h3, h4⟩
      · exfalso
        have h5 := h.slk_nonneg h.tn h.ht hk1 hkn
        have hC := h.hC
        omega
      · refine ⟨(hDt _).2 (.inl h2), h3, fun j hj => ?_⟩
        rcases (hDt j).1 hj with h1 | h1
        · exact h4 j h1
        · rw [h1]; omega
  have hlb : ∀ k, k ≤ n → 0 ≤ newL c U V H t (updf D t true) L (n + 1) k ∧ newL c U V H t (updf D t true) L (n + 1) k ≤ big40 := fun k hk => by
    have h1 := h.lb k hk
    unfold newL
    split
    · rename_i e
      have := (h.slk_nonneg h.tn h.ht e.1 hk).1
      omega
    · exact h1
  have hd0 : updf D t true 0 = true := by
    rcases h.d0 with e | e
    · rw [e]; exact updf_at _ _ _
    · exact (hDt 0).2 (.inl e)
  have htree : ∀ k, updf D t true k = true → k ≠ 0 → updf D t true (newP c U V H t (updf D t true) L P (n + 1) k) = true ∧ slk c U V H (newP c U V H t (updf D t true) L P (n + 1) k) k = 0 ∧ ρ (newP c U V H t (updf D t true) L P (n + 1) k) < ρ k := fun k hk h0 => by
    have e2 : newP c U V H t (updf D t true) L P (n + 1) k = P k := if_neg (fun h => by rw [hk] at h; exact absurd h.2.2.1 (by decide))
    rw [e2]
    obtain ⟨h1, h2, h3⟩ := h.tree k ((hDt k).1 hk) h0
    exact ⟨(hDt _).2 (.inl h1), h2, h3⟩
  rcases hs with ⟨h1, h2, h3⟩ | ⟨y, h1, h2, h3, h4, h5, h6, h7⟩
  · exfalso
    have h4 := h3 (fk + 1) (by omega) (by omega) hfd
    have h5 := (hbest (fk + 1) (by omega) (by omega) hfd).2.2 t (updf_at _ _ _)
    have := h.hC
    have := (h.slk_nonneg h.tn h.ht (k := fk + 1) (by omega) (by omega)).1
    omega
  · exact ⟨y, h1, h.toBas, h.hi, h.hC, h.late, h.h0, h.v0, fun k hk => ((hDt k).1 hk).elim (h.dn k) (fun e => e ▸ ⟨h.tn, h.ht⟩), hd0, hlb, hbest, htree, fun k hk => h.rank k ((hDt k).1 hk), h2, by omega, h4, h5.symm, fun k a b d => h7 k a (by omega) d⟩
end
end Go.Proofs.Ytcgaojnfgkfnkaa
