/- The walks of rota.copied and of the adding of a week (counts.add). -/
import Derived.Test.YtcgaojnfgkfnkaaTopRotaCheapestm8
import Derived.Test.YtcgaojnfgkfnkaaTopRotaCheapestm7
import Derived.Test.YtcgaojnfgkfnkaaTopRotaCheapestm1
import Derived.Laws.EntriesVeiled
/- The walks of rota.copied and of the adding of a week (counts.add). -/
namespace Go.Proofs.Ytcgaojnfgkfnkaa
set_option linter.unusedVariables false
set_option linter.unusedSimpArgs false
open Go.ChangeShapes Go.WideShapes Go.ChangeAt Go.RowKit Go.Deep

theorem run_mkC (n : Nat) (hn : n ≤ 100000) (W : World) : (Instr.makeSlice 65 (.int .i64 (n : Int)) (.int .i64 (n : Int))).run Try.prog W = .ok (.slice (some ⟨W.heap.size, 0, none⟩) n n) (W.alloc (.cells (nilRows n) 23)) := by
  obtain ⟨i, hi, hz0, hz1, hz2⟩ := info_parts infoRow
  have hu : Try.prog.underlying 65 = some (.slice 23) := by kernel_rfl
  have hrun := run_make (P := Try.prog) W 65 23 i (.slice none 0 0) hu hi hz0 .i64 .i64 (n : Int) (n : Int) (by omega) (by omega) (by rw [hz2]; omega) (by omega)
  rw [hz1] at hrun
  simp only [Int.toNat_natCast] at hrun
  have hcs : madeCells (Value.slice none 0 0).cells (n * 1) = nilRows n := by
    unfold nilRows
    apply Array.toList_inj.1
    rw [Nat.mul_one]
    exact (toList_madeCells_one _ _).trans (by simp)
  rw [hcs] at hrun
  exact hrun
/-- The first k rows copied. -/
def cpN (v : List (List Int)) : Nat → List (List Int)
  | 0 => List.replicate v.length []
  | k + 1 => (cpN v k).set k (rget v k)
theorem cpN_len (v : List (List Int)) : ∀ k, (cpN v k).length = v.length
  | 0 => by simp [cpN]
  | k + 1 => by simp only [cpN, List.length_set]; exact cpN_len v k
theorem cpN_lt (v : List (List Int)) : ∀ k j, j < k → k ≤ v.length → rget (cpN v k) j = rget v j
  | k + 1, j, h, hk => by
    simp only [cpN]
    rw [rget_set (by rw [cpN_len]; omega)]
    by_cases e : k = j
    · subst e; rw [if_pos rfl]
    · rw [if_neg e, cpN_lt v k j (by omega) (by omega)]
theorem rows_ext32 {u v : List (List Int)} (h : ∀ j, j < u.length → rget u j = rget v j) (hl : u.length = v.length) : u = v := by
  apply List.ext_getElem hl
  intro i h1 h2
  have := h i h1
  rwa [rget_of h1, rget_of h2] at this
theorem cpN_all (v : List (List Int)) : cpN v v.length = v := rows_ext32 (fun j hj => cpN_lt v _ j (by rw [cpN_len] at hj; exact hj) (Nat.le_refl _)) (cpN_len v _)

set_option maxHeartbeats 1600000 in
theorem copied_any (p : Option Addr) (c : Nat) (v : List (List Int)) (w : World) (hx : Mat w p c v) (hlen : v.length ≤ 100000) (hrow : ∀ j, j < v.length → (rget v j).length ≤ 900000) :
    Calls Try.prog 41 #[.slice p v.length c] w (GivesD w v) := by
  have mkI := run_mkC v.length hlen w
  obtain ⟨W1, hW1⟩ : ∃ W, w.alloc (.cells (nilRows v.length) 23) = W := ⟨_, rfl⟩
  have hb1 := below_alloc hW1
  have hD1 : DMat W1 w.heap.size (some ⟨w.heap.size, 0, none⟩) v.length (cpN v 0) (fun _ => none) (fun _ => 0) := by rw [← hW1]; exact dmat_made w v.length _ (Nat.le_refl _) hlen
  have Hrow := Lib.hid hrow
  have hl1 := hx.length_le
  have Hx : Hid (∀ W, Below w.heap.size w W → Mat W p c v) := fun W h => hx.below h (Nat.le_refl _)
  clear hrow hx
  go_enter Try.func41, Try.ntmps41
  go_wp2_with fail
  clear hW1 mkI
  go_loopw [11] (fun kk wk => ∃ k : Nat, k ≤ v.length ∧ kk = .int .i64 k ∧ (∃ u Q D, Hid (u = cpN v k) ∧ DMat wk w.heap.size (some ⟨w.heap.size, 0, none⟩) v.length u Q D) ∧ Below w.heap.size w wk) (fun kk _ => v.length - (intOf kk).toNat)
  case atStart => exact ⟨0, by omega, rfl, ⟨_, _, _, rfl, hD1⟩, hb1⟩
  case round =>
    clear hD1 hb1
    obtain ⟨k, hk, rfl, ⟨u, Q, D, hu, hD⟩, hb⟩ := hrel
    by_cases hlt : k < v.length
    · have hk1 : (k : Int) < v.length := by omega
      have hul : u.length = v.length := by rw [hu.out, cpN_len]
      obtain ⟨b, o, rfl, _, q, d, hc, hi⟩ := (Hx.out _ hb).get hlt
      have CL := Lib.hid (clone_any q d (rget v k) wr hi (Hrow.out k hlt))
      have Hul := Lib.hid hul
      clear hul
      go_wp2_with fail
      refine CL.out.mono ?_
      rintro e w2 ⟨p2, c2, rfl, hO, hb2⟩
      have hsz := hb.size
      have hD2 := hD.below hb2 (Nat.le_refl _)
      have hlt2 : k < u.length := by rw [Hul.out]; exact hlt
      obtain ⟨g, eg, _, _, _, fW⟩ := hD2.tmat.get hlt2
      cases eg
      have hne : ∀ j, j < u.length → ∀ x, blk (Q j) = some x → blk p2 ≠ some x := fun j hj x hx e => by
        have h1 := (hD.lt j hj x hx).2
        have h2 := (hO.lt x e).1
        omega
      have hD3 := hD2.setRow hlt2 (hO.lower hsz) hne
      have hu3 : Hid (u.set k (rget v k) = cpN v (k + 1)) := by unfold Hid; rw [hu.out]; rfl
      have hb3 : Below w.heap.size w (w2.setCell ⟨w.heap.size, k, none⟩ (.slice p2 (rget v k).length c2)) := (hb.trans (hb2.mono hsz)).setCell (p := ⟨w.heap.size, k, none⟩) (Nat.le_refl _) _
      clear hD hD2 hO hb hb2 hne hu CL
      go_wp2_with fail
      go_roundw
      case rel => first | exact ⟨k + 1, by omega, by go_num, ⟨_, _, _, hu3, hD3⟩, hb3⟩ | exact ⟨k + 1, by omega, by go_num, _, hu3, _, _, hD3⟩
      case measure => simp [intOf]; omega
    · have hk1 : ¬ (k : Int) < v.length := by omega
      obtain rfl : k = v.length := by omega
      obtain rfl : u = v := by rw [hu.out, cpN_all]
      clear hu
      go_wp2_with fail
      go_ret
      exact ⟨_, _, _, _, rfl, hD, hb⟩
/-- What 'add' makes of counts. -/
def Adds (b0 B : Nat) (q : Option Addr) (d : Nat) (v : List (List Int)) (a : List Int) (w : World) (e : Ending) (w' : World) : Prop := (∃ x, e = .returned x) ∧ Held w' b0 B q d (addW v a) ∧ Out b0 B w w'
set_option maxHeartbeats 1600000 in
theorem add_any (b0 B : Nat) (q : Option Addr) (d : Nat) (v : List (List Int)) (m : Int) (a : List Int) (pw : Option Addr) (cw : Nat) (w : World) (hH : Held w b0 B q d v) (hv : CntM m v) (hm : m ≤ 100000) (ha : IsA a v.length) (HA : Hid (∀ W, Out b0 B w W → Ints W pw cw a)) :
    Calls Try.prog 43 #[.slice q v.length d, .slice pw v.length cw] w (Adds b0 B q d v a w) := by
  have Hv := Lib.hid hv
  have Ha := Lib.hid ha
  have hn := hv.len
  clear hv ha
  go_enter Try.func43, Try.ntmps43
  go_wp2_with fail
  go_loopw [8] (fun kk wk => ∃ i : Nat, i ≤ v.length ∧ kk = .int .i64 i ∧ Held wk b0 B q d (addN v a i) ∧ Out b0 B w wk) (fun kk _ => v.length - (intOf kk).toNat)
  case atStart => exact ⟨0, by omega, rfl, hH, Out.refl _ _ _⟩
  case round =>
    clear hH
    obtain ⟨i, hi, rfl, hH, hO⟩ := hrel
    by_cases hlt : i < v.length
    · have hi1 : (i : Int) < v.length := by omega
      obtain ⟨t, et⟩ : ∃ t, itm a i = t := ⟨_, rfl⟩
      obtain ⟨h0, ht⟩ := isA_lt Ha.out i hlt
      rw [et] at ht
      have hat : iget a i = (t : Int) := by unfold itm at et; omega
      have hrl := Hv.out.row i hlt
      have hcb := Hv.out.cb i t hlt ht
      obtain ⟨bw, ow, rfl, _, hcw⟩ := (HA.out _ hO).get (j := i) (by rw [Ha.out.1]; exact hlt)
      obtain ⟨gt, g, dd, rfl, c1, c2, c3, h5, h6, h7⟩ := hH.add hlt (by rw [et, hrl]; exact ht)
      rw [et] at c2 c3 h7
      rw [hrl] at c1
      rw [hat] at hcw
      obtain ⟨x, ex⟩ : ∃ x, iget (rget v i) t = x := ⟨_, rfl⟩
      rw [ex] at c2 h7 hcb
      have hw1 : IntKind.i64.wrap (x + 1) = x + 1 := IntWalk.i64_in _ (by omega)
      have hH2 := h7 ⟨by omega, by omega⟩
      have hO2 := hO.set (t := t) h5 h6 (.int .i64 (x + 1))
      have ht1 : (t : Int) < v.length := by omega
      clear h7 et hat hrl hcb ex h0 hO hH
      go_wp2_with fail
      go_roundw
      case rel => exact ⟨i + 1, by omega, by go_num, hH2, hO2⟩
      case measure => simp [intOf]; omega
    · have hi1 : ¬ (i : Int) < v.length := by omega
      obtain rfl : i = v.length := by omega
      go_wp2_with fail
      refine bodyPost_ret (results_none rfl _ _ _) rfl ?_
      exact ⟨⟨_, rfl⟩, hH, hO⟩
end Go.Proofs.Ytcgaojnfgkfnkaa

/- The walk of rota.exchange's closure that gives a shift on: it calls itself. -/
namespace Go.Proofs.Ytcgaojnfgkfnkaa
set_option linter.unusedVariables false
set_option linter.unusedSimpArgs false
open Go.ChangeShapes Go.WideShapes Go.ChangeAt Go.RowKit Go.Deep

/-- The blocks of a search: the week, who was seen; the boxes of both, of the agent, of sharp, of the free shift, of the search itself; of the counts, of the bounds; the bounds. -/
structure GB where
  (gw gs bW bI bS bSh bFr bG bC bB gu gv : Nat)
def ptr (b : Nat) : Value := .pointer (some ⟨b, 0, none⟩)
def GvL (B : GB) (p : Option Addr) (c n i free : Nat) (U V : Nat → Int) (a : List Int) (S : Nat → Bool) : List Blk :=
  [(B.gw, n, iF (iget a)), (B.gs, n, bF S), (B.bW, 1, fun _ => .slice (some ⟨B.gw, 0, none⟩) n n), (B.bI, 1, fun _ => .int .i64 (i : Int)), (B.bS, 1, fun _ => .slice (some ⟨B.gs, 0, none⟩) n n), (B.bSh, 1, fun _ => .func (.func 46) #[] #[.pointer (some ⟨B.bC, 0, none⟩), .pointer (some ⟨B.bB, 0, none⟩)]), (B.bFr, 1, fun _ => .int .i64 (free : Int)),
    (B.bG, 1, fun _ => .func (.func 55) #[] #[.pointer (some ⟨B.bW, 0, none⟩), .pointer (some ⟨B.bI, 0, none⟩), .pointer (some ⟨B.bS, 0, none⟩), .pointer (some ⟨B.bSh, 0, none⟩), .pointer (some ⟨B.bFr, 0, none⟩), .pointer (some ⟨B.bG, 0, none⟩)]), (B.bC, 1, fun _ => .slice p n c), (B.bB, 2, slF (n + 1) B.gu B.gv), (B.gu, n + 1, iF U), (B.gv, n + 1, iF V)]
section
variable {B : GB} {p : Option Addr} {c n i free : Nat} {U V : Nat → Int} {a : List Int} {S : Nat → Bool} {w w' : World}
def GvH (B : GB) (p : Option Addr) (c n i free : Nat) (U V : Nat → Int) (a : List Int) (S : Nat → Bool) (w : World) : Prop := Hp w (GvL B p c n i free U V a S)
theorem GvH.drew (h : GvH B p c n i free U V a S w) (hw : ∃ k, w' = w.drewN k) : GvH B p c n i free U V a S w' := by obtain ⟨k, rfl⟩ := hw; exact Hp.drewN h k
theorem GvH.cw (h : GvH B p c n i free U V a S w) {k : Nat} (hk : k < n) : w.cell? ⟨B.gw, k, none⟩ = some (.int .i64 (iget a k)) := (Hp.at h 0 rfl).cell k hk
theorem GvH.fw (h : GvH B p c n i free U V a S w) {k : Nat} (hk : k < n) : w.frozen? ⟨B.gw, k, none⟩ = false := (Hp.at h 0 rfl).live k hk
theorem GvH.cs (h : GvH B p c n i free U V a S w) {k : Nat} (hk : k < n) : w.cell? ⟨B.gs, k, none⟩ = some (.bool (S k)) := (Hp.at h 1 rfl).cell k hk
theorem GvH.fs (h : GvH B p c n i free U V a S w) {k : Nat} (hk : k < n) : w.frozen? ⟨B.gs, k, none⟩ = false := (Hp.at h 1 rfl).live k hk
theorem GvH.c2 (h : GvH B p c n i free U V a S w) : w.cell? ⟨B.bW, 0, none⟩ = some (.slice (some ⟨B.gw, 0, none⟩) n n) := (Hp.at h 2 rfl).cell 0 (by omega)
theorem GvH.c3 (h : GvH B p c n i free U V a S w) : w.cell? ⟨B.bI, 0, none⟩ = some (.int .i64 (i : Int)) := (Hp.at h 3 rfl).cell 0 (by omega)
theorem GvH.c4 (h : GvH B p c n i free U V a S w) : w.cell? ⟨B.bS, 0, none⟩ = some (.slice (some ⟨B.gs, 0, none⟩) n n) := (Hp.at h 4 rfl).cell 0 (by omega)
theorem GvH.c5 (h : GvH B p c n i free U V a S w) : w.cell? ⟨B.bSh, 0, none⟩ = some (.func (.func 46) #[] #[.pointer (some ⟨B.bC, 0, none⟩), .pointer (some ⟨B.bB, 0, none⟩)]) := (Hp.at h 5 rfl).cell 0 (by omega)
theorem GvH.c6 (h : GvH B p c n i free U V a S w) : w.cell? ⟨B.bFr, 0, none⟩ = some (.int .i64 (free : Int)) := (Hp.at h 6 rfl).cell 0 (by omega)
theorem GvH.c7 (h : GvH B p c n i free U V a S w) : w.cell? ⟨B.bG, 0, none⟩ = some (.func (.func 55) #[] #[.pointer (some ⟨B.bW, 0, none⟩), .pointer (some ⟨B.bI, 0, none⟩), .pointer (some ⟨B.bS, 0, none⟩), .pointer (some ⟨B.bSh, 0, none⟩), .pointer (some ⟨B.bFr, 0, none⟩), .pointer (some ⟨B.bG, 0, none⟩)]) := (Hp.at h 7 rfl).cell 0 (by omega)
theorem GvH.c8 (h : GvH B p c n i free U V a S w) : w.cell? ⟨B.bC, 0, none⟩ = some (.slice p n c) := (Hp.at h 8 rfl).cell 0 (by omega)
theorem GvH.c9 (h : GvH B p c n i free U V a S w) : w.cell? ⟨B.bB, 0, none⟩ = some (.slice (some ⟨B.gu, 0, none⟩) (n + 1) (n + 1)) := (Hp.at h 9 rfl).cell 0 (by omega)
theorem GvH.c10 (h : GvH B p c n i free U V a S w) : w.cell? ⟨B.bB, 1, none⟩ = some (.slice (some ⟨B.gv, 0, none⟩) (n + 1) (n + 1)) := (Hp.at h 9 rfl).cell 1 (by omega)
theorem GvH.ru (h : GvH B p c n i free U V a S w) : RowF w B.gu (n + 1) (iF U) := Hp.at h 10 rfl
theorem GvH.rv (h : GvH B p c n i free U V a S w) : RowF w B.gv (n + 1) (iF V) := Hp.at h 11 rfl
theorem GvH.setS (h : GvH B p c n i free U V a S w) {k : Nat} (hk : k < n) (x : Bool) : GvH B p c n i free U V a (updf S k x) (w.setCell ⟨B.gs, k, none⟩ (.bool x)) := by
  have h2 := Hp.set h 1 rfl (.bool x) hk
  rw [bF_upd] at h2
  exact h2
theorem GvH.setW (h : GvH B p c n i free U V a S w) (hl : a.length = n) {k : Nat} (hk : k < n) (x : Int) : GvH B p c n i free U V (a.set k x) S (w.setCell ⟨B.gw, k, none⟩ (.int .i64 x)) := by
  have h2 := Hp.set h 0 rfl (.int .i64 x) hk
  rw [iF_upd] at h2
  have e : updf (iget a) k x = iget (a.set k x) := funext fun j => by
    rw [iget_set (by omega)]
    by_cases e : j = k
    · subst e; rw [updf_at, if_pos rfl]
    · rw [updf_ne e, if_neg (Ne.symm e)]
  rw [e] at h2
  exact h2
/-- The week as a list that the library reads. -/
theorem GvH.ints (h : GvH B p c n i free U V a S w) (ha : IsA a n) (hn : n ≤ 100) : Ints w (some ⟨B.gw, 0, none⟩) n a := by
  have hl := ha.1
  refine ⟨by omega, by omega, (fun h => by cases h), ?_, ?_, fun j hj => ?_⟩
  · rintro x ⟨⟩ _; exact ⟨rfl, (Hp.at h 0 rfl).lt⟩
  · rintro b o ⟨⟩ j hj; rw [Nat.zero_add]; exact h.cw (by omega)
  · have := isA_lt ha j (by omega)
    unfold itm at this
    unfold in64; omega
end
theorem falses_mono {S T : Nat → Bool} (h : ∀ x, S x = true → T x = true) : ∀ m, falses T m ≤ falses S m
  | 0 => Nat.le_refl _
  | m + 1 => by
    have hm : ∀ E : Nat → Bool, falses E (m + 1) = falses E m + if E m = false then 1 else 0 := fun E => by
      unfold falses; rw [List.range_succ, List.filter_append, List.length_append]
      cases e : E m <;> simp [e]
    rw [hm, hm]
    have := falses_mono h m
    cases e : S m with
    | true => rw [h m e]; simp; omega
    | false => split <;> simp <;> omega
theorem upd_seen {S : Nat → Bool} {b j : Nat} (h : S j = true) : updf S b true j = true := by
  by_cases e : j = b
  · rw [e]; exact updf_at _ _ _
  · rw [updf_ne e]; exact h
theorem first_hol {n k : Nat} {a : List Int} (ha : IsA a n) (hk : k < n) : firstN (idxP a (k : Int)) a.length = (hol n a k : Nat) := by
  obtain ⟨h1, h2⟩ := hol_spec ha hk
  have e : ∀ j, j < n → (idxP a (k : Int) j = true ↔ itm a j = k) := fun j hj => by
    have := isA_lt ha j hj
    unfold idxP itm at *
    rw [decide_eq_true_iff]; omega
  rw [ha.1]
  refine firstN_of h1 ((e _ h1).2 h2) fun j hj => ?_
  cases hi : idxP a (k : Int) j with
  | false => rfl
  | true =>
    have h3 := (e j (by omega)).1 hi
    have := (isA_per ha).inj j _ (by omega) h1 (h3.trans h2.symm)
    omega
/-- What the search hands back. -/
def GiveR (n : Nat) (c : Nat → Nat → Int) (U V : Nat → Int) (i free : Nat) (a : List Int) (S : Nat → Bool) (k : Nat) (r : Bool) (a' : List Int) (S' : Nat → Bool) : Prop :=
  (r = false → a' = a ∧ (hol n a k ≤ i ∨ S' (hol n a k) = true) ∧ ∀ b, b < n → S' b = true → S b = false → i < b ∧ Shut n c U V a i free S' b n) ∧ (r = true → Gave n c U V a i S k a')
def GiveE (B : GB) (p : Option Addr) (pc n i free : Nat) (c : Nat → Nat → Int) (U V : Nat → Int) (b0 : Nat) (w0 : World) (a : List Int) (S : Nat → Bool) (k : Nat) (e : Ending) (w' : World) : Prop :=
  ∃ r a' S', e = .returned (.bool r) ∧ GvH B p pc n i free U V a' S' w' ∧ Below b0 w0 w' ∧ (∀ x, S x = true → S' x = true) ∧ GiveR n c U V i free a S k r a' S'
set_option maxHeartbeats 16000000 in
set_option maxRecDepth 100000 in
theorem give_any (B : GB) (p : Option Addr) (c : Nat) (v : List (List Int)) (U V : Nat → Int) (i : Nat) (b0 : Nat) (w0 : World) (a : List Int) (HX : Hid (∀ W, Below b0 w0 W → Mat W p c v)) (hbw : b0 ≤ B.gw) (hbs : b0 ≤ B.gs) (hv : CountsP v) (hm : ModP v.length U V) (hi : i < v.length) (ha : ShA v.length (bid v) U V a) :
    ∀ (m : Nat) (S : Nat → Bool) (k : Nat) (w : World), k < v.length → falses S v.length < m → GvH B p c v.length i (itm a i) U V a S w → Below b0 w0 w →
      Calls Try.prog 55 #[.int .i64 k, .pointer (some ⟨B.bW, 0, none⟩), .pointer (some ⟨B.bI, 0, none⟩), .pointer (some ⟨B.bS, 0, none⟩), .pointer (some ⟨B.bSh, 0, none⟩), .pointer (some ⟨B.bFr, 0, none⟩), .pointer (some ⟨B.bG, 0, none⟩)] w (GiveE B p c v.length i (itm a i) (bid v) U V b0 w0 a S k) := by
  intro m
  induction m with
  | zero => intro S k w _ h; omega
  | succ m ih =>
    intro S k w hk hf hG hB
    have hn := hv.len
    obtain ⟨ho1, ho2⟩ := hol_spec ha.1 hk
    have hfh := first_hol ha.1 hk
    obtain ⟨b, eb⟩ : ∃ b, hol v.length a k = b := ⟨_, rfl⟩
    have Heb := Lib.hid eb
    rw [eb] at ho1 ho2 hfh
    have CI := sIndex_any (some ⟨B.gw, 0, none⟩) v.length a (k : Int) w (hG.ints ha.1 hn)
    rw [hfh, ha.1.1] at CI
    have CI := Lib.hid CI
    have c2 := hG.c2
    have c3 := hG.c3
    have c4 := hG.c4
    have cs := hG.cs ho1
    have fs := hG.fs ho1
    have hb1 : (b : Int) < v.length := by omega
    have IH := Lib.hid ih
    have Ha := Lib.hid ha
    clear ih eb hfh ha
    go_enter Try.func55, Try.ntmps55
    go_wp2_with fail
    refine CI.out.mono ?_
    rintro e w1 ⟨rfl, rfl⟩
    by_cases hbi : b ≤ i
    · have hbi1 : (b : Int) ≤ i := by omega
      go_wp2_with fail
      go_ret
      exact ⟨false, a, S, rfl, hG, hB, fun _ h => h, fun _ => ⟨rfl, .inl (by rw [Heb.out]; exact hbi), fun d _ h1 h2 => by rw [h1] at h2; cases h2⟩, fun h => by cases h⟩
    · have hbi1 : ¬ (b : Int) ≤ i := by omega
      have hbi2 : decide ((b : Int) ≤ i) = false := by rw [decide_eq_false_iff_not]; omega
      cases hSb : S b with
      | true =>
        rw [hSb] at cs
        go_wp2_with fail
        go_ret
        exact ⟨false, a, S, rfl, hG, hB, fun _ h => h, fun _ => ⟨rfl, .inr (by rw [Heb.out]; exact hSb), fun d _ h1 h2 => by rw [h1] at h2; cases h2⟩, fun h => by cases h⟩
      | false =>
        rw [hSb] at cs
        have hG1 := hG.setS ho1 true
        have hB1 := hB.setCell (p := ⟨B.gs, b, none⟩) hbs (.bool true)
        have c2' := hG1.c2
        clear hG hB
        go_wp2_with fail
        clear c2 c3 c4 cs fs c2'
        have hfl := falses_less (D := S) ho1 hSb
        have Hf := Lib.hid (show falses (updf S b true) v.length < m by omega)
        clear hfl hf
        have HSb := Lib.hid hSb
        clear hSb
        go_loopw [28] (fun kk wk => ∃ (x : Nat) (T : Nat → Bool), x ≤ v.length ∧ kk = .int .i64 x ∧ GvH B p c v.length i (itm a i) U V a T wk ∧ Below b0 w0 wk ∧ Hid (∀ d, updf S b true d = true → T d = true) ∧ Hid (∀ d, d < v.length → T d = true → updf S b true d = false → i < d ∧ Shut v.length (bid v) U V a i (itm a i) T d v.length) ∧ Hid (Shut v.length (bid v) U V a i (itm a i) T b x)) (fun kk _ => v.length - (intOf kk).toNat)
        case atStart => exact ⟨0, updf S b true, by omega, rfl, hG1, hB1, fun _ h => h, (fun d _ h1 h2 => by rw [h1] at h2; cases h2), fun j hj => by omega⟩
        case round =>
          clear hG1 hB1
          obtain ⟨x, T, hxn, rfl, hG, hB, h1, h2, h3⟩ := hrel
          by_cases hx : x < v.length
          · have hx1 : (x : Int) < v.length := by omega
            have c5 := hG.c5
            have hCS := sharp_any B.bC B.bB B.gu B.gv p c v U V b x wr hG.c8 hG.c9 hG.c10 hG.ru hG.rv (HX.out _ hB) hv hm ho1 hx
            have hTb : T b = true := h1.out b (updf_at _ _ _)
            by_cases hsh : Sharp (bid v) U V b x
            · have hd1 : decide (Sharp (bid v) U V b x) = true := by rw [decide_eq_true_iff]; exact hsh
              rw [hd1] at hCS
              have CS := Lib.hid hCS
              clear hCS hd1
              go_wp2_with fail
              refine CS.out.mono ?_
              rintro e w2 ⟨rfl, hw⟩
              replace hG := hG.drew hw
              replace hB : Below b0 w0 w2 := hB.drewP hw
              clear hw c5 CS
              by_cases hxk : x = k
              · have hb2 : (((x : Nat) : Int) == (k : Int)) = true := by rw [hxk]; simp
                have h3' : Hid (Shut v.length (bid v) U V a i (itm a i) T b (x + 1)) := fun y hy hs hne => by
                  by_cases e : y = x
                  · rw [e, hxk, ho2] at hne; exact absurd rfl hne
                  · exact h3.out y (by omega) hs hne
                clear h3
                go_wp2_with fail
                go_roundw
                case rel => exact ⟨x + 1, T, by omega, by go_num, hG, hB, h1, h2, h3'⟩
                case measure => simp [intOf]; omega
              · have hb2 : (((x : Nat) : Int) == (k : Int)) = false := by rw [beq_eq_false_iff_ne]; omega
                have c6 := hG.c6
                have c2 := hG.c2
                by_cases hxf : x = itm a i
                · rw [← hxf] at c6
                  have cw := hG.cw ho1
                  have fw := hG.fw ho1
                  have hG2 := hG.setW Ha.out.1.1 ho1 (x : Int)
                  have hB2 := hB.setCell (p := ⟨B.gw, b, none⟩) hbw (.int .i64 (x : Int))
                  have hgv : Gave v.length (bid v) U V a i S k (a.set b (x : Int)) := by
                    have h0 : iget a b = (k : Int) := by have := (isA_lt Ha.out.1 b ho1).1; unfold itm at ho2; omega
                    have hz := Gave.zero T Ha.out hi
                    rw [← hxf] at hz
                    exact hz.step Ha.out.1.1 hi ho1 (by omega) h0 hTb HSb.out (fun j hj => h1.out j (upd_seen hj)) hsh
                  have Hres := Lib.hid (show ∀ x, S x = true → T x = true from fun j hj => h1.out j (upd_seen hj))
                  clear h1 h2 h3 hsh hxf
                  go_wp2_with fail
                  go_ret
                  exact ⟨true, _, T, rfl, hG2, hB2, Hres.out, (fun h => by cases h), fun _ => hgv⟩
                · have hb3 : (((x : Nat) : Int) == ((itm a i : Nat) : Int)) = false := by rw [beq_eq_false_iff_ne]; omega
                  have c7 := hG.c7
                  have hfT : falses T v.length < m := Nat.lt_of_le_of_lt (falses_mono (fun j hj => h1.out j hj) v.length) Hf.out
                  have CI2 := Lib.hid (IH.out T x w2 hx hfT hG hB)
                  obtain ⟨fr, efr⟩ : ∃ f, itm a i = f := ⟨_, rfl⟩
                  have Hfr := Lib.hid efr
                  rw [efr] at hb3 c6
                  clear efr
                  go_wp2_with fail
                  refine CI2.out.mono ?_
                  rintro e w3 ⟨r, a1, T1, rfl, hG3, hB3, hTT, hr1, hr2⟩
                  have Hr1 := Lib.hid hr1
                  have Hr2 := Lib.hid hr2
                  have HTT := Lib.hid hTT
                  clear hr1 hr2 hTT CI2 c6 c7 c2 hG hB
                  cases r with
                  | true =>
                    have hgv := Hr2.out rfl
                    have hl1 := hgv.len
                    have cw := hG3.cw ho1
                    have fw := hG3.fw ho1
                    have c2 := hG3.c2
                    have hG2 := hG3.setW hl1 ho1 (x : Int)
                    have hB2 := hB3.setCell (p := ⟨B.gw, b, none⟩) hbw (.int .i64 (x : Int))
                    have h0 : iget a b = (k : Int) := by have := (isA_lt Ha.out.1 b ho1).1; unfold itm at ho2; omega
                    have hgv2 : Gave v.length (bid v) U V a i S k (a1.set b (x : Int)) := hgv.step Ha.out.1.1 hi ho1 (by omega) h0 hTb HSb.out (fun j hj => h1.out j (upd_seen hj)) hsh
                    have Hgv := Lib.hid hgv2
                    have Hres := Lib.hid (show ∀ x, S x = true → T1 x = true from fun j hj => HTT.out j (h1.out j (upd_seen hj)))
                    clear hgv hgv2 h1 h2 h3 hsh hG3 hB3 hl1
                    go_wp2_with fail
                    go_ret
                    exact ⟨true, _, T1, rfl, hG2, hB2, Hres.out, (fun h => by cases h), fun _ => Hgv.out⟩
                  | false =>
                    obtain ⟨ea, q1, q2⟩ := Hr1.out rfl
                    rw [ea] at hG3
                    have h1' : Hid (∀ d, updf S b true d = true → T1 d = true) := fun d hd => HTT.out d (h1.out d hd)
                    have h2' : Hid (∀ d, d < v.length → T1 d = true → updf S b true d = false → i < d ∧ Shut v.length (bid v) U V a i (itm a i) T1 d v.length) := fun d hd h4 h5 => by
                      cases h6 : T d with
                      | true => obtain ⟨h7, h8⟩ := h2.out d hd h6 h5; exact ⟨h7, h8.mono HTT.out⟩
                      | false => exact q2 d hd h4 h6
                    have h3' : Hid (Shut v.length (bid v) U V a i (itm a i) T1 b (x + 1)) := fun y hy hs hne => by
                      by_cases e : y = x
                      · rw [e]; exact ⟨hxf, q1⟩
                      · exact h3.out.mono HTT.out y (by omega) hs hne
                    clear h1 h2 h3 hsh q1 q2 Hr1 Hr2
                    go_wp2_with fail
                    go_roundw
                    case rel => exact ⟨x + 1, T1, by omega, by go_num, hG3, hB3, h1', h2', h3'⟩
                    case measure => simp [intOf]; omega
            · have hd1 : decide (Sharp (bid v) U V b x) = false := by rw [decide_eq_false_iff_not]; exact hsh
              rw [hd1] at hCS
              have CS := Lib.hid hCS
              have h3' : Hid (Shut v.length (bid v) U V a i (itm a i) T b (x + 1)) := fun y hy hs hne => by
                by_cases e : y = x
                · rw [e] at hs; exact absurd hs hsh
                · exact h3.out y (by omega) hs hne
              clear hCS hd1 h3 hsh
              go_wp2_with fail
              refine CS.out.mono ?_
              rintro e w2 ⟨rfl, hw⟩
              replace hG := hG.drew hw
              replace hB : Below b0 w0 w2 := hB.drewP hw
              clear hw c5 CS
              go_wp2_with fail
              go_roundw
              case rel => exact ⟨x + 1, T, by omega, by go_num, hG, hB, h1, h2, h3'⟩
              case measure => simp [intOf]; omega
          · obtain rfl : x = v.length := by omega
            have hx1 : ¬ ((v.length : Nat) : Int) < v.length := by omega
            have hTb : T b = true := h1.out b (updf_at _ _ _)
            have hres : GiveR v.length (bid v) U V i (itm a i) a S k false a T := ⟨fun _ => ⟨rfl, .inr (by rw [Heb.out]; exact hTb), fun d hd h4 h5 => by
              by_cases e : d = b
              · rw [e]; exact ⟨by omega, h3.out⟩
              · exact h2.out d hd h4 (by rw [updf_ne e]; exact h5)⟩, fun h => by cases h⟩
            have Hres := Lib.hid hres
            have Hseen := Lib.hid (show ∀ x, S x = true → T x = true from fun j hj => h1.out j (upd_seen hj))
            clear h1 h2 h3 hres
            go_wp2_with fail
            go_ret
            exact ⟨false, a, T, rfl, hG, hB, Hseen.out, Hres.out⟩
end Go.Proofs.Ytcgaojnfgkfnkaa

/- The walk of rota.exchange: an agent is given a shift, if later agents can exchange theirs to that end. -/
namespace Go.Proofs.Ytcgaojnfgkfnkaa
set_option linter.unusedVariables false
set_option linter.unusedSimpArgs false
open Go.ChangeShapes Go.WideShapes Go.ChangeAt Go.RowKit Go.Deep

theorem gave_done {n : Nat} {c : Nat → Nat → Int} {U V : Nat → Int} {a a' : List Int} {i k : Nat} {S : Nat → Bool} (h : Gave n c U V a i S k a') (hs : Sharp c U V i k) (hi : i < n) :
    ShA n c U V (a'.set i (k : Int)) ∧ (∀ j, j < i → itm (a'.set i (k : Int)) j = itm a j) ∧ itm (a'.set i (k : Int)) i = k := by
  have hl := h.len
  have e1 : itm (a'.set i (k : Int)) i = k := by unfold itm; rw [iget_set (by omega), if_pos rfl]; simp
  have e2 : ∀ j, j ≠ i → itm (a'.set i (k : Int)) j = itm a' j := fun j hj => by unfold itm; rw [iget_set (by omega), if_neg (Ne.symm hj)]
  refine ⟨⟨h.perm, fun j hj => ?_⟩, fun j hj => ?_, e1⟩
  · by_cases e : j = i
    · rw [e, e1]; exact hs
    · rw [e2 j e]; exact h.sharp j hj e
  · rw [e2 j (by omega)]
    unfold itm
    rw [h.low j (by omega)]
/-- The blocks of rota.next. -/
def ExL (gw bC bB gu gv : Nat) (p : Option Addr) (c n : Nat) (U V : Nat → Int) (a : List Int) : List Blk :=
  [(gw, n, iF (iget a)), (bC, 1, fun _ => .slice p n c), (bB, 2, slF (n + 1) gu gv), (gu, n + 1, iF U), (gv, n + 1, iF V)]
def ExchE (gw bC bB gu gv : Nat) (p : Option Addr) (pc n i k : Nat) (c : Nat → Nat → Int) (U V : Nat → Int) (b0 : Nat) (w0 : World) (a : List Int) (e : Ending) (w' : World) : Prop :=
  ∃ r a', e = .returned (.bool r) ∧ Hp w' (ExL gw bC bB gu gv p pc n U V a') ∧ Below b0 w0 w' ∧ (r = false → a' = a ∧ ∀ x, ShA n c U V x → (∀ j, j < i → itm x j = itm a j) → itm x i ≠ k) ∧ (r = true → ShA n c U V a' ∧ (∀ j, j < i → itm a' j = itm a j) ∧ itm a' i = k)
theorem falses_le (S : Nat → Bool) (n : Nat) : falses S n ≤ n := by
  unfold falses; exact Nat.le_trans (List.length_filter_le _ _) (by simp)
theorem Hp.box1 {w W : World} {l : List Blk} {x : Value} {T : TypeId} (h : Hp w l) (hw : w.alloc (.cells #[x] T) = W) : Hp W ((w.heap.size, 1, fun _ => x) :: l) := by
  subst hw
  refine Hp.add (h.below ((Below.refl _ _).alloc (Nat.le_refl _) _)) (RowF.new fun k hk => ?_) (Hp.fresh h (Nat.le_refl _))
  match k, hk with
  | 0, _ => rfl
theorem Hp.boxB {w W : World} {l : List Blk} {n : Nat} {T : TypeId} (h : Hp w l) (hw : w.alloc (.cells (boolCells n) T) = W) : Hp W ((w.heap.size, n, bF fun _ => false) :: l) := by
  subst hw
  exact Hp.add (h.below ((Below.refl _ _).alloc (Nat.le_refl _) _)) (RowF.new fun k hk => boolCells_get hk) (Hp.fresh h (Nat.le_refl _))
set_option maxHeartbeats 16000000 in
set_option maxRecDepth 100000 in
theorem exchange_any (gw bC bB gu gv : Nat) (p : Option Addr) (c : Nat) (v : List (List Int)) (U V : Nat → Int) (i k : Nat) (b0 : Nat) (w0 w : World) (a : List Int) (HX : Hid (∀ W, Below b0 w0 W → Mat W p c v)) (hbw : b0 ≤ gw) (hB : Below b0 w0 w) (hb0 : b0 ≤ w.heap.size) (hv : CountsP v) (hm : ModP v.length U V) (hi : i < v.length) (ha : ShA v.length (bid v) U V a)
    (hk : k < itm a i) (hs : Sharp (bid v) U V i k) (hH : Hp w (ExL gw bC bB gu gv p c v.length U V a)) :
    Calls Try.prog 47 #[.slice (some ⟨gw, 0, none⟩) v.length v.length, .int .i64 i, .int .i64 k, .func (.func 46) #[] #[.pointer (some ⟨bC, 0, none⟩), .pointer (some ⟨bB, 0, none⟩)]] w (ExchE gw bC bB gu gv p c v.length i k (bid v) U V b0 w0 a) := by
  have hkn : k < v.length := by have := (isA_per ha.1).lt i hi; omega
  have hn := hv.len
  obtain ⟨Wa, hWa⟩ : ∃ W, w.alloc (.cells #[.slice (some ⟨gw, 0, none⟩) v.length v.length] 23) = W := ⟨_, rfl⟩
  obtain ⟨Wb, hWb⟩ : ∃ W, Wa.alloc (.cells #[.int .i64 (i : Int)] 3) = W := ⟨_, rfl⟩
  obtain ⟨Wc, hWc⟩ : ∃ W, Wb.alloc (.cells #[.func (.func 46) #[] #[.pointer (some ⟨bC, 0, none⟩), .pointer (some ⟨bB, 0, none⟩)]] 72) = W := ⟨_, rfl⟩
  obtain ⟨fr, efr⟩ : ∃ f, itm a i = f := ⟨_, rfl⟩
  have hfr : iget a i = (fr : Int) := by have := (isA_lt ha.1 i hi).1; unfold itm at efr; omega
  obtain ⟨Wd, hWd⟩ : ∃ W, Wc.alloc (.cells #[.int .i64 (fr : Int)] 3) = W := ⟨_, rfl⟩
  obtain ⟨We, hWe⟩ : ∃ W, Wd.alloc (.cells (boolCells v.length) 4) = W := ⟨_, rfl⟩
  obtain ⟨Wf, hWf⟩ : ∃ W, We.alloc (.cells #[.slice (some ⟨Wd.heap.size, 0, none⟩) v.length v.length] 81) = W := ⟨_, rfl⟩
  obtain ⟨Wg, hWg⟩ : ∃ W, Wf.alloc (.cells #[.func (.func 55) #[] #[.pointer (some ⟨w.heap.size, 0, none⟩), .pointer (some ⟨Wa.heap.size, 0, none⟩), .pointer (some ⟨We.heap.size, 0, none⟩), .pointer (some ⟨Wb.heap.size, 0, none⟩), .pointer (some ⟨Wc.heap.size, 0, none⟩), .pointer (some ⟨Wf.heap.size, 0, none⟩)]] 82) = W := ⟨_, rfl⟩
  have pa := hH.box1 hWa
  have pb := pa.box1 hWb
  have pc := pb.box1 hWc
  have pd := pc.box1 hWd
  have pe := pd.boxB hWe
  have pf := pe.box1 hWf
  have pg := pf.box1 hWg
  have za := below_alloc hWa
  have zb := below_alloc hWb
  have zc := below_alloc hWc
  have zd := below_alloc hWd
  have ze := below_alloc hWe
  have zf := below_alloc hWf
  have zg := below_alloc hWg
  have sa := za.size
  have sb := zb.size
  have sc := zc.size
  have sd := zd.size
  have hBg : Below b0 w0 Wg := ((((((hB.trans (za.mono hb0)).trans (zb.mono (by omega))).trans (zc.mono (by omega))).trans (zd.mono (by omega))).trans (ze.mono (by omega))).trans (zf.mono (by have := ze.size; omega))).trans (zg.mono (by have := ze.size; have := zf.size; omega))
  have hG : GvH ⟨gw, Wd.heap.size, w.heap.size, Wa.heap.size, We.heap.size, Wb.heap.size, Wc.heap.size, Wf.heap.size, bC, bB, gu, gv⟩ p c v.length i fr U V a (fun _ => false) Wg := by
    have hp : [6, 5, 4, 3, 2, 1, 0, 7, 8, 9, 10, 11].Perm [7, 4, 0, 1, 5, 2, 3, 6, 8, 9, 10, 11] := by decide
    have hp2 := hp.map (fun q : Nat => (match q with
      | 0 => ((w.heap.size, 1, fun _ => .slice (some ⟨gw, 0, none⟩) v.length v.length) : Blk)
      | 1 => (Wa.heap.size, 1, fun _ => .int .i64 (i : Int))
      | 2 => (Wb.heap.size, 1, fun _ => .func (.func 46) #[] #[.pointer (some ⟨bC, 0, none⟩), .pointer (some ⟨bB, 0, none⟩)])
      | 3 => (Wc.heap.size, 1, fun _ => .int .i64 (fr : Int))
      | 4 => (Wd.heap.size, v.length, bF fun _ => false)
      | 5 => (We.heap.size, 1, fun _ => .slice (some ⟨Wd.heap.size, 0, none⟩) v.length v.length)
      | 6 => (Wf.heap.size, 1, fun _ => .func (.func 55) #[] #[.pointer (some ⟨w.heap.size, 0, none⟩), .pointer (some ⟨Wa.heap.size, 0, none⟩), .pointer (some ⟨We.heap.size, 0, none⟩), .pointer (some ⟨Wb.heap.size, 0, none⟩), .pointer (some ⟨Wc.heap.size, 0, none⟩), .pointer (some ⟨Wf.heap.size, 0, none⟩)])
      | 7 => (gw, v.length, iF (iget a))
      | 8 => (bC, 1, fun _ => .slice p v.length c)
      | 9 => (bB, 2, slF (v.length + 1) gu gv)
      | 10 => (gu, v.length + 1, iF U)
      | _ => (gv, v.length + 1, iF V) : Blk))
    exact Hp.perm pg hp2
  have c1 := (pc.at 2 rfl).cell 0 (by omega)
  have c2 := (pc.at 1 rfl).cell 0 (by omega)
  have c3 : Wc.cell? ⟨gw, i, none⟩ = some (.int .i64 (fr : Int)) := by rw [← hfr]; exact (pc.at 3 rfl).cell i hi
  have c4 := (pd.at 3 rfl).cell 0 (by omega)
  have c5 := hG.c7
  have hi1 : (i : Int) < v.length := by omega
  have CG := give_any ⟨gw, Wd.heap.size, w.heap.size, Wa.heap.size, We.heap.size, Wb.heap.size, Wc.heap.size, Wf.heap.size, bC, bB, gu, gv⟩ p c v U V i b0 w0 a HX hbw (by show b0 ≤ Wd.heap.size; omega) hv hm hi ha (v.length + 1) (fun _ => false) k Wg hkn (by have := falses_le (fun _ => false) v.length; omega) (efr ▸ hG) hBg
  have CG := Lib.hid CG
  have Ha := Lib.hid ha
  have Hs := Lib.hid hs
  have Efr := Lib.hid efr
  clear pa pb pc pd pe pf pg za zb zc zd ze zf zg sa sb sc sd hBg hG ha hs efr hfr hH
  have mkB : ∀ W, (Instr.makeSlice 81 (.int .i64 (v.length : Int)) (.int .i64 (v.length : Int))).run Try.prog W = .ok (.slice (some ⟨W.heap.size, 0, none⟩) v.length v.length) (W.alloc (.cells (boolCells v.length) 4)) := fun W => run_mkB _ (by omega) W
  have hmf : ∀ (fn : Fn) (first cap : Array Value) (w : World), (Instr.makeFunc fn first cap).run Try.prog w = .ok (.func fn first cap) w := fun _ _ _ _ => rfl
  go_enter Try.func47, Try.ntmps47
  go_wp2_with fail
  refine CG.out.mono ?_
  rintro e w1 ⟨r, a1, S1, rfl, hG1, hB1, _, hr1, hr2⟩
  clear c1 c2 c3 c4 c5 hWa hWb hWc hWd hWe hWf hWg mkB hmf CG
  cases r with
  | false =>
    obtain ⟨ea, q1, q2⟩ := hr1 rfl
    rw [ea] at hG1
    have Hno := Lib.hid (show ∀ x, ShA v.length (bid v) U V x → (∀ j, j < i → itm x j = itm a j) → itm x i ≠ k from fun x hx hag => shut_none Ha.out.1 hi hk (fun b hb h => q2 b hb h rfl) q1 hx hag)
    have hE : Hp w1 (ExL gw bC bB gu gv p c v.length U V a) := Hp.sub hG1 (.cons_cons _ (.cons _ (.cons _ (.cons _ (.cons _ (.cons _ (.cons _ (.cons _ (.refl _)))))))))
    clear q1 q2 hr1 hr2 hG1
    go_wp2_with fail
    go_ret
    exact ⟨false, a, rfl, hE, hB1, fun _ => ⟨rfl, Hno.out⟩, fun h => by cases h⟩
  | true =>
    have hgv := hr2 rfl
    have hdn := gave_done hgv Hs.out hi
    have hG2 := hG1.setW hgv.len hi (k : Int)
    have hE : Hp _ (ExL gw bC bB gu gv p c v.length U V (a1.set i (k : Int))) := Hp.sub hG2 (.cons_cons _ (.cons _ (.cons _ (.cons _ (.cons _ (.cons _ (.cons _ (.cons _ (.refl _)))))))))
    have hB2 := hB1.setCell (p := ⟨gw, i, none⟩) hbw (.int .i64 (k : Int))
    have c1 : w1.cell? ⟨w.heap.size, 0, none⟩ = some (.slice (some ⟨gw, 0, none⟩) v.length v.length) := hG1.c2
    have c2 : w1.cell? ⟨Wa.heap.size, 0, none⟩ = some (.int .i64 (i : Int)) := hG1.c3
    have c3 : w1.cell? ⟨gw, i, none⟩ = some (.int .i64 (iget a1 i)) := hG1.cw hi
    have c4 : w1.frozen? ⟨gw, i, none⟩ = false := hG1.fw hi
    have Hdn := Lib.hid hdn
    clear hr1 hr2 hgv hdn hG1 hG2
    go_wp2_with fail
    go_ret
    exact ⟨true, _, rfl, hE, hB2, (fun h => by cases h), fun _ => Hdn.out⟩
end Go.Proofs.Ytcgaojnfgkfnkaa
