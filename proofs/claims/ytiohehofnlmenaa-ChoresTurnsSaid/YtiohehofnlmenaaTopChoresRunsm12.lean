/- The walk of goods.Pass at valid goods and allocations and an order of all agents. -/
import Derived.Test.YtiohehofnlmenaaTopChoresRunsm4
import Derived.Test.YtiohehofnlmenaaTopChoresRunsm10
import Derived.Test.YtiohehofnlmenaaTopChoresRunsm11
import Derived.Test.YtiohehofnlmenaaTopChoresRunsm8
import Derived.Test.YtiohehofnlmenaaTopChoresRunsm9
/- The walk of goods.Pass at valid goods and allocations and an order of all agents. -/
namespace Go.Proofs.Ytiohehofnlmenaa
set_option linter.unusedVariables false
set_option linter.unusedSimpArgs false
open Go.ChangeShapes Go.WideShapes Go.ChangeAt Go.RowKit Go.Deep

/-- Who stands where in an order, after its first m. -/
def toUp (o : List Int) (n : Nat) : Nat → List Int
  | 0 => List.replicate n (-1)
  | m + 1 => (toUp o n m).set (iget o m).toNat m
theorem toUp_len (o : List Int) (n : Nat) : ∀ m, (toUp o n m).length = n
  | 0 => by simp [toUp]
  | m + 1 => by rw [toUp, List.length_set, toUp_len o n m]
theorem isA_at {o : List Int} {n k : Nat} (h : IsA o n) (hk : k < n) : ∃ i, i < n ∧ iget o i = (k : Int) ∧ firstN (idxP o (k : Int)) o.length = (i : Int) := by
  obtain ⟨i, hi, e⟩ := (isA_per h).surj hk
  have h0 := (isA_lt h i hi).1
  have e2 : iget o i = (k : Int) := by simp only [itm] at e; omega
  refine ⟨i, hi, e2, firstN_of (by rw [h.1]; exact hi) (by unfold idxP; rw [decide_eq_true_iff]; exact e2.symm) (fun j hj => ?_)⟩
  unfold idxP
  rw [decide_eq_false_iff_not]
  intro e3
  have := isA_inj h (i := j) (j := i) (by omega) hi (by rw [e2]; exact e3.symm)
  omega
theorem toUp_get {o : List Int} {n k i : Nat} (h : IsA o n) (hk : k < n) (hi : i < n) (he : iget o i = (k : Int)) : ∀ m, m ≤ n → iget (toUp o n m) k = if i < m then (i : Int) else -1
  | 0, _ => by simp [toUp, iget, List.getD, hk]
  | m + 1, hm => by
    have ih := toUp_get h hk hi he m (by omega)
    obtain ⟨h1, h2⟩ := isA_lt h m (by omega)
    rw [toUp, iget_set (by rw [toUp_len]; exact h2)]
    by_cases e : (iget o m).toNat = k
    · rw [if_pos e]
      have : m = i := isA_inj h (by omega) hi (by rw [he]; omega)
      subst this
      rw [if_pos (by omega)]
    · rw [if_neg e, ih]
      have : m ≠ i := fun e2 => e (by subst e2; rw [he]; simp)
      by_cases e3 : i < m
      · rw [if_pos e3, if_pos (by omega)]
      · rw [if_neg e3, if_neg (by omega)]
theorem toUp_full {o : List Int} {n k : Nat} (h : IsA o n) (hk : k < n) : iget (toUp o n n) k = firstN (idxP o (k : Int)) o.length ∧ 0 ≤ iget (toUp o n n) k ∧ iget (toUp o n n) k < n := by
  obtain ⟨i, hi, he, hf⟩ := isA_at h hk
  have := toUp_get h hk hi he n (Nat.le_refl _)
  rw [if_pos hi] at this
  rw [this, hf]
  exact ⟨rfl, by omega, by omega⟩
theorem toUp_has {o : List Int} {n : Nat} (h : IsA o n) : hasB (toUp o n n) (-1) = false := by
  unfold hasB
  rw [decide_eq_false_iff_not]
  intro hm
  obtain ⟨k, hk, e⟩ := List.getElem_of_mem hm
  rw [toUp_len] at hk
  rw [← iget_of (by rw [toUp_len]; exact hk)] at e
  have := (toUp_full h hk).2.1
  omega
/-- Bundles passed: what one stood at k in the order has. -/
def passG (a o : List Int) : List Int := a.map fun x => if 0 ≤ x then firstN (idxP o x) o.length else x
theorem passG_take {a o : List Int} {k : Nat} (h : k < a.length) : passG (a.take (k + 1)) o = passG (a.take k) o ++ [if 0 ≤ iget a k then firstN (idxP o (iget a k)) o.length else iget a k] := by
  unfold passG
  rw [List.take_succ_eq_append_getElem h, List.map_append, iget_of h]; rfl

set_option maxHeartbeats 8000000 in
set_option maxRecDepth 100000 in
theorem goodsPass_any (p : Option Addr) (c : Nat) (v : List (List Int)) (q : Option Addr) (d : Nat) (a : List Int) (s : Option Addr) (f : Nat) (o : List Int) (w : World) (hx : Mat w p c v) (hi : Ints w q d a) (ho : Ints w s f o) (hF : chkA v a = 0) (hA : IsA o v.length) :
    Calls Try.prog 55 #[.agg #[.slice p v.length c], .slice q a.length d, .slice s v.length f] w (Gives2 w (passG a o) 0) := by
  obtain ⟨W0, hW0⟩ : ∃ W0, w.alloc (.cells #[.slice p v.length c] 24) = W0 := ⟨_, rfl⟩
  have hB : Below w.heap.size w W0 := below_alloc hW0
  have bX : BoxV W0 w.heap.size [.slice p v.length c] := BoxV.new rfl hW0
  have Hi0 := Lib.hid hi
  have Ho0 := Lib.hid ho
  replace hx := hx.below hB (Nat.le_refl _)
  replace hi := hi.below hB (Nat.le_refl _)
  replace ho := ho.below hB (Nat.le_refl _)
  have x0 := bX.cell 0 _ rfl
  have HW0 := Lib.hid hW0
  clear hW0
  obtain ⟨hg, ha⟩ := chkA_zero.1 hF
  obtain ⟨n, hn⟩ : ∃ n, v.length = n := ⟨_, rfl⟩
  have h6 : n ≤ 6 := by have := hg.2.1; omega
  have h1 : 1 ≤ n := by have := hg.1; omega
  have hol : o.length = n := by rw [hA.1, hn]
  rw [hn] at hA
  have hwn : withinB 0 n o = true := withinB_true.2 fun j hj => by
    rw [hol] at hj
    obtain ⟨h3, h4⟩ := isA_lt hA j hj
    simp only [itm] at h4
    omega
  have HV := goodsValid_any p c v q d a W0 hx hi
  have HW := Lib.hid (fun W (h : Ints W s f o) => within_any 0 n s f o W h)
  rw [hF] at HV
  rw [hol, hwn] at HW
  rw [hn] at HV x0 HW0 bX ⊢
  have ha2 : a.length ≤ 10 := by rw [ha.1]; exact hg.2.2.1
  have hr : ∀ k, k < a.length → -1 ≤ iget a k ∧ iget a k < n := fun k hk => by have := ha.2 k hk; omega
  have Hr := Lib.hid hr
  have HA := Lib.hid hA
  have Hol := Lib.hid hol
  have HV := Lib.hid HV
  have HR := Lib.hid (fun (W : World) hI => repeat1_any (some ⟨W.heap.size, 0, none⟩) 1 (-1) n (W.alloc (.cells #[.int .i64 (-1)] 3)) hI (by omega) ⟨by omega, by omega⟩)
  have HI1 := Lib.hid (fun (W : World) => ints_one W (x := -1) ⟨by omega, by omega⟩ 3)
  have hl2 := hi.length_le
  have hl3 := ho.length_le
  have hne : ((n : Int) != (n : Int)) = false := by simp
  clear hx hF hg ha hn hA hol hwn hr hl3
  go_enter Try.func55, Try.ntmps55
  go_wp2_with fail
  rw [HW0.out]
  refine HV.out.mono ?_
  rintro e w1 ⟨rfl, hb1⟩
  clear x0
  replace hi := hi.below hb1 (Nat.le_refl _)
  replace ho := ho.below hb1 (Nat.le_refl _)
  replace bX := bX.below hb1
  replace hB := hB.trans (hb1.mono hB.size)
  clear hb1
  have x0 := bX.cell 0 _ rfl
  have hBa : Below w1.heap.size w1 (w1.alloc (.cells #[.int .i64 (-1)] 3)) := (Below.refl _ _).alloc (Nat.le_refl _) _
  have x0' : (w1.alloc (.cells #[.int .i64 (-1)] 3)).cell? ⟨w.heap.size, 0, none⟩ = _ := (hBa.cell (p := ⟨w.heap.size, 0, none⟩) (World.block_lt_of_cell? _ _ x0)).trans x0
  go_wp2_with fail
  refine (HR.out w1 (HI1.out w1)).mono ?_
  rintro e w3 ⟨g, c1, rfl, hO, hb'⟩
  have hb := hBa.trans (hb'.mono hBa.size)
  have hgs := hO.lt g rfl
  have hbs := hBa.size
  have hlX := bX.lt
  replace hO := hO.lower (base' := w.heap.size + 1) (by omega)
  replace hi := hi.below hb (Nat.le_refl _)
  replace ho := ho.below hb (Nat.le_refl _)
  replace hB := hB.trans (hb.mono hB.size)
  have hgw : w.heap.size < g := by omega
  clear x0 x0' hb' hBa hb hbs hgs hlX bX HV HR HI1
  have HC := Lib.hid (HW.out w3 ho)
  go_wp2_with fail
  refine HC.out.mono ?_
  rintro e w4 ⟨rfl, hb4⟩
  replace hO := hO.below hb4 (Nat.le_refl _)
  replace hi := hi.below hb4 (Nat.le_refl _)
  replace ho := ho.below hb4 (Nat.le_refl _)
  replace hB := hB.trans (hb4.mono hB.size)
  have hgs := (hO.lt g rfl).2
  clear hb4 HC HW
  obtain ⟨G, hGe⟩ : ∃ G, w4.heap.size = G := ⟨_, rfl⟩
  have HGs := Lib.hid hGe
  have hgG : g < G := by omega
  have hO0 : Hid (Own w4 (w.heap.size + 1) (some ⟨g, 0, none⟩) c1 (toUp o n 0)) := hO
  have Hlen := Lib.hid (fun k => toUp_len o n k)
  have Hst : Hid (∀ k, toUp o n (k + 1) = (toUp o n k).set (iget o k).toNat k) := fun k => rfl
  have Hful := Lib.hid (fun k (h : k < n) => toUp_full HA.out h)
  have Hlt := Lib.hid (fun k (h : k < n) => isA_lt HA.out k h)
  have Hhas := Lib.hid (toUp_has HA.out)
  clear hgs hGe hO hi ho
  go_wp2_with fail
  go_loopw [40] (fun t wr => ∃ k : Nat, k ≤ n ∧ t = .int .i64 k ∧ Own wr (w.heap.size + 1) (some ⟨g, 0, none⟩) c1 (toUp o n k) ∧ Below w.heap.size w wr) (fun t _ => n - (intOf t).toNat)
  case atStart => exact ⟨0, Nat.zero_le _, rfl, hO0.out, hB⟩
  case round =>
    clear hO0 hB
    obtain ⟨k, hk, rfl, hO, hbr⟩ := hrel
    by_cases hlt : k < n
    · have hk1 : (k : Int) < n := by omega
      obtain ⟨b, o', rfl, _, hc⟩ := (Ho0.out.below hbr (Nat.le_refl _)).get (j := k) (by rw [Hol.out]; exact hlt)
      obtain ⟨x, hx⟩ : ∃ x : Nat, iget o k = x := ⟨(iget o k).toNat, by have := (Hlt.out k hlt).1; omega⟩
      have hxn : x < n := by have := (Hlt.out k hlt).2; simp only [itm] at this; omega
      have HS := Hst.out k
      rw [hx, Int.toNat_natCast] at HS
      rw [hx] at hc
      have hx1 : (x : Int) < n := by omega
      have hx0 : (0 : Int) ≤ x := by omega
      obtain ⟨g', hg', _, _, hcA, hfA⟩ := hO.get (j := x) (by rw [Hlen.out]; exact hxn)
      obtain rfl : g = g' := by simpa using hg'
      have HO2 := (hO.set x (x := (k : Int)) ⟨by omega, by omega⟩).1
      rw [← HS] at HO2
      have HO2 := Lib.hid HO2
      have HB := Lib.hid (hbr.setCell (p := ⟨g, x, none⟩) (by simp only; omega) (.int .i64 (k : Int)))
      clear hg' HS hO hbr hx
      go_wp2_with fail
      go_roundw
      case rel => exact ⟨k + 1, by omega, by go_num, HO2.out, HB.out⟩
      case measure => (simp [intOf] <;> omega)
    · have hk1 : ¬ (k : Int) < n := by omega
      obtain rfl : k = n := by omega
      have HC := contains_any (some ⟨g, 0, none⟩) c1 (toUp o k k) (-1) _ hO.ints
      rw [Hhas.out, Hlen.out] at HC
      have HC := Lib.hid HC
      have HO := Lib.hid hO
      have hsz := hbr.size
      obtain ⟨B2, hB2⟩ : ∃ B2, wr.heap.size = B2 := ⟨_, rfl⟩
      have HB2 := Lib.hid hB2
      have hgB : g < B2 := by have := (hO.lt g rfl).2; omega
      clear hO hB2 hk
      go_wp2_with fail
      refine HC.out.mono ?_
      rintro e w5 ⟨rfl, rfl⟩
      go_wp2_with fail
      go_loopw [12, 54] (fun s t wr => ∃ j : Nat, j ≤ a.length ∧ t = .int .i64 j ∧ (∃ zs pz cz, Hid (zs = passG (a.take j) o) ∧ s = .slice pz (zs : List Int).length cz ∧ Own wr B2 pz cz zs) ∧ Below B2 w5 wr) (fun _ t _ => a.length - (intOf t).toNat)
      case atStart => exact ⟨0, Nat.zero_le _, rfl, ⟨[], none, 0, rfl, rfl, Own.ofNil _ _⟩, Below.refl _ _⟩
      case round =>
        obtain ⟨j, hj, rfl, ⟨zs, pz, cz, hz, rfl, hZ⟩, hbk⟩ := hrel
        have hbw := hbr.trans (hbk.mono (by rw [← HB2.out]; exact hsz))
        by_cases hja : j < a.length
        · have hj1 : (j : Int) < a.length := by omega
          obtain ⟨b, o', rfl, _, hc⟩ := (Hi0.out.below hbw (Nat.le_refl _)).get hja
          have hTk := passG_take (o := o) hja
          have hrg := Hr.out j hja
          have hzl : zs.length ≤ 900000 := by rw [hz.out]; simp [passG]; omega
          have hsz2 : B2 ≤ wr.heap.size := by have := hbk.size; have := HB2.out; omega
          obtain ⟨x, hx⟩ : ∃ x, iget a j = x := ⟨_, rfl⟩
          rw [hx] at hTk hrg hc
          clear hx
          by_cases h0 : 0 ≤ x
          · have hd : decide (0 ≤ x) = true := by simpa using h0
            obtain ⟨y, rfl⟩ : ∃ y : Nat, x = y := ⟨x.toNat, by omega⟩
            have hyn : y < k := by omega
            have hy1 : (y : Int) < k := by omega
            obtain ⟨h3, h4, h5⟩ := Hful.out y hyn
            obtain ⟨g', hg', _, _, hcA, _⟩ := (HO.out.below hbk (Nat.le_of_eq HB2.out)).get (j := y) (by rw [Hlen.out]; exact hyn)
            obtain rfl : g = g' := by simpa using hg'
            rw [if_pos h0, ← h3] at hTk
            obtain ⟨z, ez⟩ : ∃ z, iget (toUp o k k) y = z := ⟨_, rfl⟩
            rw [ez] at hTk hcA h4 h5
            have hzi : in64 z := ⟨by omega, by omega⟩
            have HT := Lib.hid hTk
            have HZ := Lib.hid hZ
            have Hz := Lib.hid hzi
            clear hTk h3 ez hg' h0 hZ hzi h4 h5
            go_wp2_with (at_builtin; refine wpList_app1 rfl (.tmp 64) (.tmp 66) rfl B2 _ _ zs z rfl rfl rfl HZ.out Hz.out hzl hsz2 ?_; intro p3 c3 w3 u3 hu3 hO3 hg3 hf3)
            go_roundw
            case rel => exact ⟨j + 1, by omega, by go_num, ⟨u3, _, _, by unfold Hid; rw [hu3.out, hz.out, HT.out], rfl, hO3⟩, hbk.grown hg3 hsz2 (fun k' e => (HZ.out.lt k' e).1)⟩
            case measure => (simp [intOf] <;> omega)
          · have hd : decide (0 ≤ x) = false := by simpa using h0
            rw [if_neg h0] at hTk
            have hzi : in64 x := ⟨by omega, by omega⟩
            have HT := Lib.hid hTk
            have HZ := Lib.hid hZ
            have Hz := Lib.hid hzi
            clear hTk h0 hZ hzi
            go_wp2_with (at_builtin; refine wpList_app1 rfl (.tmp 64) (.tmp 66) rfl B2 _ _ zs x rfl rfl rfl HZ.out Hz.out hzl hsz2 ?_; intro p3 c3 w3 u3 hu3 hO3 hg3 hf3)
            go_roundw
            case rel => exact ⟨j + 1, by omega, by go_num, ⟨u3, _, _, by unfold Hid; rw [hu3.out, hz.out, HT.out], rfl, hO3⟩, hbk.grown hg3 hsz2 (fun k' e => (HZ.out.lt k' e).1)⟩
            case measure => (simp [intOf] <;> omega)
        · have hj1 : ¬ (j : Int) < a.length := by omega
          obtain rfl : j = a.length := by omega
          have hzr : zs = passG a o := by rw [hz.out, List.take_of_length_le (Nat.le_refl _)]
          subst hzr
          go_wp2_with fail
          go_ret2
          exact ⟨_, _, rfl, hZ.lower (by rw [← HB2.out]; exact hsz), hbw⟩
end Go.Proofs.Ytiohehofnlmenaa

/- Dividing chores in rounds, in plain words: passing along a circle is passing by an order; the state after k chores; no program. -/
namespace Go.Proofs.Ytiohehofnlmenaa
set_option linter.unusedVariables false
set_option linter.unusedSimpArgs false
/-- A list of agents, each at most once. -/
structure CircOk (l : List Int) (n : Nat) : Prop where
  at' : ∀ j, j < l.length → 0 ≤ iget l j ∧ iget l j < n
  inj : ∀ i j, i < j → j < l.length → iget l i ≠ iget l j
theorem CircOk.eq {l : List Int} {n : Nat} (h : CircOk l n) {i j : Nat} (hi : i < l.length) (hj : j < l.length) (e : iget l i = iget l j) : i = j := by
  rcases Nat.lt_trichotomy i j with h1 | h1 | h1
  · exact absurd e (h.inj i j h1 hj)
  · exact h1
  · exact absurd e.symm (h.inj j i h1 hi)
def idL (n : Nat) : List Int := (List.range n).map fun (k : Nat) => Int.ofNat k
theorem idL_len (n : Nat) : (idL n).length = n := by simp [idL]
theorem idL_get {n k : Nat} (h : k < n) : iget (idL n) k = (k : Int) := by simp [idL, iget, h]
theorem idL_snoc (n : Nat) : idL (n + 1) = idL n ++ [(n : Int)] := by unfold idL; rw [List.range_succ, List.map_append]; rfl
/-- To whom each one's bundle goes: along the circle, its first m. -/
def toN (l : List Int) (n : Nat) : Nat → List Int
  | 0 => idL n
  | m + 1 => (toN l n m).set (iget l m).toNat (iget l ((m + 1) % l.length))
theorem toN_len (l : List Int) (n : Nat) : ∀ m, (toN l n m).length = n
  | 0 => idL_len n
  | m + 1 => by rw [toN, List.length_set, toN_len l n m]
theorem toN_get {l : List Int} {n k : Nat} (h : CircOk l n) (hk : k < n) : ∀ m, m ≤ l.length →
    (∀ j, j < m → iget l j = (k : Int) → iget (toN l n m) k = iget l ((j + 1) % l.length)) ∧ ((∀ j, j < m → iget l j ≠ (k : Int)) → iget (toN l n m) k = (k : Int))
  | 0, _ => ⟨fun j hj => by omega, fun _ => idL_get hk⟩
  | m + 1, hm => by
    obtain ⟨h1, h2⟩ := toN_get h hk m (by omega)
    have h3 := h.at' m (by omega)
    rw [toN, iget_set (by rw [toN_len]; omega)]
    by_cases e : (iget l m).toNat = k
    · rw [if_pos e]
      have em : iget l m = (k : Int) := by omega
      refine ⟨fun j hj hjk => ?_, fun hn => absurd em (hn m (by omega))⟩
      have := h.eq (i := j) (j := m) (by omega) (by omega) (by rw [hjk, em])
      subst this; rfl
    · rw [if_neg e]
      refine ⟨fun j hj hjk => ?_, fun hn => h2 (fun j hj => hn j (by omega))⟩
      by_cases ej : j = m
      · subst ej; exact absurd (by omega) e
      · exact h1 j (by omega) hjk
def toL (l : List Int) (n : Nat) : List Int := toN l n l.length
theorem toL_on {l : List Int} {n j : Nat} (h : CircOk l n) (hj : j < l.length) : iget (toL l n) (iget l j).toNat = iget l ((j + 1) % l.length) := by
  have h3 := h.at' j hj
  exact (toN_get h (k := (iget l j).toNat) (by omega) l.length (Nat.le_refl _)).1 j hj (by omega)
theorem toL_off {l : List Int} {n k : Nat} (h : CircOk l n) (hk : k < n) (hn : ∀ j, j < l.length → iget l j ≠ (k : Int)) : iget (toL l n) k = (k : Int) :=
  (toN_get h hk l.length (Nat.le_refl _)).2 hn
theorem mod_shift {L j : Nat} (hj : j < L) : ∃ m, m < L ∧ (m + 1) % L = j := by
  by_cases h0 : j = 0
  · exact ⟨L - 1, by omega, by rw [show L - 1 + 1 = L by omega, Nat.mod_self, h0]⟩
  · exact ⟨j - 1, by omega, by rw [show j - 1 + 1 = j by omega, Nat.mod_eq_of_lt hj]⟩
theorem shift_inj {L i j : Nat} (hi : i < L) (hj : j < L) (e : (i + 1) % L = (j + 1) % L) : i = j := by
  by_cases h1 : i + 1 = L <;> by_cases h2 : j + 1 = L
  · omega
  · rw [h1, Nat.mod_self, Nat.mod_eq_of_lt (by omega)] at e; omega
  · rw [h2, Nat.mod_self, Nat.mod_eq_of_lt (by omega)] at e; omega
  · rw [Nat.mod_eq_of_lt (by omega), Nat.mod_eq_of_lt (by omega)] at e; omega
theorem toL_isA {l : List Int} {n : Nat} (h : CircOk l n) : IsA (toL l n) n := by
  have hlt : ∀ k, k < n → (0 ≤ iget (toL l n) k ∧ iget (toL l n) k < n) ∧ ((∃ j, j < l.length ∧ iget l j = (k : Int) ∧ iget (toL l n) k = iget l ((j + 1) % l.length)) ∨ ((∀ j, j < l.length → iget l j ≠ (k : Int)) ∧ iget (toL l n) k = (k : Int))) := by
    intro k hk
    by_cases hc : ∃ j, j < l.length ∧ iget l j = (k : Int)
    · obtain ⟨j, hj, e⟩ := hc
      have := toL_on h hj
      rw [e, Int.toNat_natCast] at this
      have h2 := h.at' ((j + 1) % l.length) (Nat.mod_lt _ (by omega))
      exact ⟨by rw [this]; exact h2, .inl ⟨j, hj, e, this⟩⟩
    · have hn : ∀ j, j < l.length → iget l j ≠ (k : Int) := fun j hj e => hc ⟨j, hj, e⟩
      have := toL_off h hk hn
      exact ⟨by rw [this]; omega, .inr ⟨hn, this⟩⟩
  refine isA_of (toN_len l n _) (fun i hi => (hlt i hi).1.1) ⟨fun i hi => by have := (hlt i hi).1; simp only [itm]; omega, fun i j hi hj e => ?_⟩
  obtain ⟨a1, a2⟩ := hlt i hi
  obtain ⟨b1, b2⟩ := hlt j hj
  have e' : iget (toL l n) i = iget (toL l n) j := by
    have x1 := a1.1
    have x2 := b1.1
    simp only [itm] at e
    clear a1 a2 b1 b2
    generalize iget (toL l n) i = u at *
    generalize iget (toL l n) j = u' at *
    omega
  rcases a2 with ⟨x, hx, ex, ax⟩ | ⟨hx, ax⟩ <;> rcases b2 with ⟨y, hy, ey, by'⟩ | ⟨hy, by'⟩
  · rw [ax, by'] at e'
    have := h.eq (Nat.mod_lt _ (by omega)) (Nat.mod_lt _ (by omega)) e'
    have := shift_inj hx hy this
    subst this; omega
  · rw [ax, by'] at e'
    exact absurd e' (hy _ (Nat.mod_lt _ (by omega)))
  · rw [ax, by'] at e'
    exact absurd e'.symm (hx _ (Nat.mod_lt _ (by omega)))
  · rw [ax, by'] at e'; omega
theorem lastP_spec (l : List Int) (x : Int) : ∀ m, (lastP l x m = x ∧ ∀ j, j < m → x ≠ iget l ((j + 1) % l.length)) ∨ ∃ j, j < m ∧ lastP l x m = iget l j ∧ x = iget l ((j + 1) % l.length)
  | 0 => .inl ⟨rfl, fun j h => by omega⟩
  | m + 1 => by
    rw [lastP]
    by_cases e : x = iget l ((m + 1) % l.length)
    · rw [if_pos e]; exact .inr ⟨m, by omega, rfl, e⟩
    · rw [if_neg e]
      rcases lastP_spec l x m with ⟨h1, h2⟩ | ⟨j, h1, h2, h3⟩
      · exact .inl ⟨h1, snoc_all' h2 e⟩
      · exact .inr ⟨j, by omega, h2, h3⟩
theorem lastP_to {l : List Int} {n k : Nat} (h : CircOk l n) (hk : k < n) : ∃ y : Nat, y < n ∧ lastP l (k : Int) l.length = (y : Int) ∧ iget (toL l n) y = (k : Int) := by
  rcases lastP_spec l (k : Int) l.length with ⟨h1, h2⟩ | ⟨j, h1, h2, h3⟩
  · refine ⟨k, hk, h1, toL_off h hk fun j hj e => ?_⟩
    obtain ⟨m, hm, em⟩ := mod_shift hj
    exact h2 m hm (by rw [em, e])
  · have h4 := h.at' j h1
    refine ⟨(iget l j).toNat, by omega, by rw [h2]; omega, ?_⟩
    rw [toL_on h h1, ← h3]
/-- Passing along a circle. -/
theorem passG_passL {a l : List Int} {n : Nat} (h : CircOk l n) (ha : ∀ j, j < a.length → -1 ≤ iget a j ∧ iget a j < n) : passG a (toL l n) = passL a l := by
  unfold passG passL
  refine List.map_congr_left fun x hx => ?_
  obtain ⟨j, hj, e⟩ := List.getElem_of_mem hx
  have h1 := ha j hj
  rw [iget_of hj, e] at h1
  by_cases h0 : 0 ≤ x
  · rw [if_pos h0]
    obtain ⟨k, rfl⟩ : ∃ k : Nat, x = k := ⟨x.toNat, by omega⟩
    have hA := toL_isA h
    obtain ⟨i, hi, e1, e2⟩ := isA_at hA (k := k) (by omega)
    obtain ⟨y, hy, e3, e4⟩ := lastP_to h (k := k) (by omega)
    rw [e2, e3]
    have := isA_inj hA hi hy (by rw [e1, e4])
    omega
  · rw [if_neg h0]
    rcases lastP_spec l x l.length with ⟨h3, _⟩ | ⟨j, h3, _, h5⟩
    · exact h3.symm
    · have := h.at' ((j + 1) % l.length) (Nat.mod_lt _ (by omega))
      omega
theorem passL_len (a l : List Int) : (passL a l).length = a.length := by simp [passL]
theorem passL_get {a l : List Int} {j : Nat} (h : j < a.length) : iget (passL a l) j = lastP l (iget a j) l.length := by simp [passL, iget, h]
theorem passL_ok {a l : List Int} {n : Nat} (h : CircOk l n) (ha : AllOk n a) : AllOk n (passL a l) := fun j hj => by
  rw [passL_len] at hj
  rw [passL_get hj]
  rcases lastP_spec l (iget a j) l.length with ⟨h3, _⟩ | ⟨i, h3, h4, _⟩
  · rw [h3]; exact ha j hj
  · rw [h4]; have := h.at' i h3; omega
theorem topL_circ {f : Nat → Nat} {n : Nat} (hf : ∀ x, x < n → f x < n) (h0 : 0 < n) : CircOk (topL f n) n ∧ (topL f n).length ≤ n := by
  obtain ⟨L, hL1, hLn, hP, ht⟩ := top_of_low hf h0
  rw [ht]
  by_cases h1 : L = 1
  · rw [if_pos h1]; exact ⟨⟨fun j hj => by simp at hj, fun i j _ hj => by simp at hj⟩, by simp⟩
  · rw [if_neg h1]
    obtain ⟨j, _, hj⟩ := lowIt_mem f (itN f (2 * n) 0) n
    have hm : lowIt f (itN f (2 * n) 0) n < n := by rw [hj]; exact itN_lt hf j _ (itN_lt hf _ 0 h0)
    refine ⟨⟨fun j hj => ?_, fun i j hij hj => ?_⟩, by rw [orb_len]; exact hLn⟩
    · rw [orb_len] at hj
      rw [orb_get hj]
      have := itN_lt hf j _ hm
      omega
    · rw [orb_len] at hj
      rw [orb_get hj, orb_get (by omega)]
      have := per_inj hP hij hj
      omega
theorem topG_circ {v : List (List Int)} {a : List Int} (h0 : 0 < v.length) : CircOk (topG v a) v.length ∧ (topG v a).length ≤ v.length := by
  have hlV := valsG_len v a
  refine topL_circ (fun y _ => ?_) h0
  have := bestF_lt (v := valsG v a) (i := y) (by omega)
  omega

theorem ordP_len {o : List Int} {m : Nat} (h : OrdP o (m : Int)) : o.length ≤ m :=
  pigeonC o.length m (fun j => (iget o j).toNat) (fun j hj => by have := h j hj; have := this.1; have := (h j hj).2.1; omega) (fun a b hab hb e => by
    have h1 := (h b hb).2.2 a hab
    have h2 := (h b hb).1
    have h3 := (h a (by omega)).1
    omega)
abbrev Stp := List Int × Int × Int
/-- After one more chore; after k. -/
noncomputable def runS1 (v : List (List Int)) (s : List Int × List Stp) : List Int × List Stp := if freeI v s.1 < 0 then (passL s.1 (topG v s.1), s.2 ++ [(topG v s.1, -1, -1)]) else s
noncomputable def runStep (v : List (List Int)) (s : List Int × List Stp) (g : Int) : List Int × List Stp :=
  ((runS1 v s).1.set g.toNat (freeI v (runS1 v s).1), (runS1 v s).2 ++ [([], freeI v (runS1 v s).1, g)])
noncomputable def runTo (v : List (List Int)) (o : List Int) : Nat → List Int × List Stp
  | 0 => (List.replicate (wid v) (-1), [])
  | k + 1 => runStep v (runTo v o k) (iget o k)
def runE (v : List (List Int)) (o : List Int) : Int := if chkG v = 0 then (if OrdP o (wid v) then 0 else 8) else chkG v
noncomputable def runA (v : List (List Int)) (o : List Int) : List Int := if runE v o = 0 then (runTo v o o.length).1 else []
noncomputable def runS (v : List (List Int)) (o : List Int) : List Stp := if runE v o = 0 then (runTo v o o.length).2 else []
theorem runS1_ok {v : List (List Int)} {s : List Int × List Stp} (h0 : 0 < v.length) (ha : AlcOk v s.1) : AlcOk v (runS1 v s).1 ∧ (runS1 v s).2.length ≤ s.2.length + 1 := by
  unfold runS1
  split
  · exact ⟨⟨by rw [passL_len]; exact ha.1, passL_ok (topG_circ h0).1 ha.2⟩, by simp⟩
  · exact ⟨ha, by omega⟩
theorem runStep_ok {v : List (List Int)} {s : List Int × List Stp} {g : Int} (h0 : 0 < v.length) (ha : AlcOk v s.1) (hg : 0 ≤ g ∧ g < wid v) : AlcOk v (runStep v s g).1 ∧ (runStep v s g).2.length ≤ s.2.length + 2 := by
  obtain ⟨h1, h2⟩ := runS1_ok (s := s) h0 ha
  refine ⟨⟨by unfold runStep; rw [List.length_set]; exact h1.1, fun j hj => ?_⟩, by unfold runStep; rw [List.length_append, List.length_singleton]; omega⟩
  unfold runStep at hj ⊢
  simp only [List.length_set] at hj
  rw [iget_set (by rw [h1.1]; omega)]
  split
  · exact firstN_range _ _
  · exact h1.2 j hj
theorem runTo_ok {v : List (List Int)} {o : List Int} (h0 : 0 < v.length) (ho : OrdP o (wid v)) : ∀ k, k ≤ o.length → AlcOk v (runTo v o k).1 ∧ (runTo v o k).2.length ≤ 2 * k
  | 0, _ => ⟨⟨by simp [runTo], fun j hj => by
      simp [runTo] at hj ⊢
      simp [iget, List.getD, hj]; omega⟩, by simp [runTo]⟩
  | k + 1, hk => by
    obtain ⟨h1, h2⟩ := runTo_ok h0 ho k (by omega)
    have hn := ho k (by omega)
    obtain ⟨h3, h4⟩ := runStep_ok (s := runTo v o k) (g := iget o k) h0 h1 ⟨hn.1, hn.2.1⟩
    exact ⟨h3, by rw [runTo]; omega⟩
end Go.Proofs.Ytiohehofnlmenaa

/- The walks of the reference's functions Assigned, Worth, Priced, Content; Worth and Content where every index is in range. -/
namespace Go.Proofs.Ytiohehofnlmenaa
set_option linter.unusedVariables false
set_option linter.unusedSimpArgs false
open Go.ChangeShapes Go.WideShapes Go.ChangeAt Go.RowKit Go.Deep

theorem isAB_false {a : List Int} {n : Nat} (h : ¬ IsA a n) : isAB a n = false := by simp [isAB, h]
theorem isAB_true {a : List Int} {n : Nat} (h : IsA a n) : isAB a n = true := by simp [isAB, h]

set_option maxHeartbeats 400000 in
theorem assigned_any (p : Option Addr) (c : Nat) (a : List Int) (n : Nat) (w : World) (hn : n ≤ 9223372036854775807) (hx : Ints w p c a) :
    Calls Try.prog 37 #[.slice p a.length c, .int .i64 n] w fun e w' => e = .returned (.bool (isAB a n)) ∧ w' = w := by
  have hl1 := hx.length_le
  by_cases hl : a.length = n
  · have hb : ((a.length : Int) != n) = false := by simp [hl]
    have hle : n ≤ a.length := by omega
    have Hl := Lib.hid hl
    clear hl
    go_enter Try.func37, Try.ntmps37
    go_wp2
    go_loop [5] (fun i => ∃ k : Nat, k ≤ n ∧ i = .int .i64 k ∧ Hid (∀ j, j < k → a.count (j : Int) = 1)) (fun i => n - (intOf i).toNat)
    case atStart => exact ⟨0, by omega, rfl, fun j hj => by omega⟩
    case round =>
      obtain ⟨k, hk, rfl, ht⟩ := hrel
      by_cases hlt : k < n
      · have hk1 : (k : Int) < n := by omega
        go_wp2
        go_loop [6, 7] (fun t i => ∃ m : Nat, m ≤ n ∧ i = .int .i64 m ∧ t = .int .i64 ((a.take m).count (k : Int) : Nat)) (fun _ i => n - (intOf i).toNat)
        case atStart => exact ⟨0, by omega, rfl, rfl⟩
        case round =>
          obtain ⟨m, hm, rfl, rfl⟩ := hrel
          have hcb : (a.take m).count (k : Int) ≤ m := Nat.le_trans List.count_le_length (by rw [List.length_take]; omega)
          by_cases hlt2 : m < n
          · have hlt3 : m < a.length := by omega
            obtain ⟨b, o, rfl, _, hc⟩ := hx.get hlt3
            have hk2 : (m : Int) < n := by omega
            have hk3 : (m : Int) < a.length := by omega
            have Hs := Lib.hid (count_take_succ a m (k : Int) hlt3)
            generalize (a.take m).count (k : Int) = cm at *
            go_wp2
            · have he : (iget a m == (k : Int)) = true := by assumption
              go_round
              case rel => exact ⟨m + 1, by omega, by go_num, by rw [Hs.out, if_pos (by simpa using he)]; go_num⟩
              case measure => simp [intOf]; omega
            · have he : (iget a m == (k : Int)) = false := by assumption
              go_round
              case rel => exact ⟨m + 1, by omega, by go_num, by rw [Hs.out, if_neg (by simpa using he)]; go_num⟩
              case measure => simp [intOf]; omega
          · have hk2 : ¬ (m : Int) < n := by omega
            have Hc : Hid ((a.take m).count (k : Int) = a.count (k : Int)) := by
              have : a.take m = a := List.take_of_length_le (by have := Hl.out; omega)
              rw [this]; rfl
            generalize (a.take m).count (k : Int) = cm at *
            go_wp2
            · have he : ((cm : Int) != 1) = true := by assumption
              go_ret
              refine ⟨ret_bool (isAB_false fun hA => ?_).symm, rfl⟩
              have := hA.2 k hlt
              rw [Hc.out] at he
              simp [this] at he
            · have he : ((cm : Int) != 1) = false := by assumption
              go_round
              case rel => exact ⟨k + 1, by omega, by go_num, snoc_all ht.out (by rw [← Hc.out]; simp at he; omega)⟩
              case measure => simp [intOf]; omega
      · have hk1 : ¬ (k : Int) < n := by omega
        go_wp2
        go_ret
        exact ⟨ret_bool (isAB_true ⟨Hl.out, fun j hj => ht.out j (by omega)⟩).symm, rfl⟩
  · have hb : ((a.length : Int) != n) = true := by rw [bne_iff_ne]; omega
    have Hl := Lib.hid hl
    clear hl
    go_enter Try.func37, Try.ntmps37
    go_wp2
    go_ret
    exact ⟨ret_bool (isAB_false fun hA => Hl.out hA.1).symm, rfl⟩

/-- Each agent's item is one of the row's, and bids are small: what the walks of Worth ask. -/
structure Fits (v : List (List Int)) (a : List Int) : Prop where
  len : a.length ≤ 6
  rows : a.length ≤ v.length
  item : ∀ i, i < a.length → 0 ≤ iget a i ∧ itm a i < (rget v i).length
  val : ∀ i, i < a.length → 0 ≤ bid v i (itm a i) ∧ bid v i (itm a i) ≤ 1000000

theorem pricedB_false {a : List Int} {n : Nat} (h : ¬ PricedP a n) : pricedB a n = false := by simp [pricedB, h]

/-- What the walks of Content ask: all indices in range, small numbers. -/
structure Fits2 (v : List (List Int)) (a p : List Int) : Prop where
  rows : ∀ i, i < v.length → (rget v i).length = v.length
  alen : a.length = v.length
  plen : p.length = v.length
  item : ∀ i, i < v.length → 0 ≤ iget a i ∧ itm a i < v.length
  val : ∀ i, i < v.length → ∀ j, j < v.length → 0 ≤ bid v i j ∧ bid v i j ≤ 1000000
  price : ∀ j, j < v.length → 0 ≤ iget p j ∧ iget p j ≤ 10000000

theorem contentB_false {v : List (List Int)} {a p : List Int} (h : ¬ ContentP v a p) : contentB v a p = false := by simp [contentB, h]

end Go.Proofs.Ytiohehofnlmenaa
