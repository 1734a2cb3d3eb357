/- The walk of the law KeepsakeTrades: for every allocation, rankings and two numbers it returns true, and changes nothing that was there.  (Printed by wip/genktrades.py.) -/
import Derived.Test.YtknincjfcicjfaaAlive29
import Derived.Test.YtknincjfcicjfaaKeepI
import Derived.Deep.DeepCutAuto
import Derived.BigQuiet
namespace Go.Proofs.Ytknincjfcicjfaa
set_option linter.unusedVariables false
set_option linter.unusedSimpArgs false
open Go.ChangeShapes Go.WideShapes Go.ChangeAt Go.RowKit Go.Deep

/-- The two numbers are items of two agents, the first one's owner before the other's. -/
def gdE (a : List Int) (x y : Int) : Prop := 0 ≤ x ∧ x < a.length ∧ 0 ≤ y ∧ y < a.length ∧ 0 ≤ iget a x.toNat ∧ iget a x.toNat < iget a y.toNat
instance (a : List Int) (x y : Int) : Decidable (gdE a x y) := by unfold gdE; infer_instance
def gdB (a : List Int) (x y : Int) : Bool := decide (gdE a x y)
/-- .. and they are exchanged gladly. -/
def isEx (a : List Int) (v : List (List Int)) (x y : Int) : Bool := decide (gdE a x y ∧ ExP a v (iget a x.toNat).toNat (iget a y.toNat).toNat x.toNat y.toNat)
theorem gdB_no {a : List Int} {x y : Int} (h : ¬ gdE a x y) : gdB a x y = false := decide_eq_false h
theorem gdB_yes {a : List Int} {x y : Int} (h : gdE a x y) : gdB a x y = true := decide_eq_true h
theorem isEx_no {a : List Int} {v : List (List Int)} {x y : Int} (h : gdB a x y = false) : isEx a v x y = false := decide_eq_false fun h2 => (of_decide_eq_false h) h2.1
theorem isEx_of {a : List Int} {v : List (List Int)} (hL : Lkd a v) {x y : Int} (h : gdB a x y = true) : ∃ X Y i j : Nat, x = X ∧ y = Y ∧ X < a.length ∧ Y < a.length ∧ iget a X = i ∧ iget a Y = j ∧ i < j ∧ j < v.length ∧ isEx a v x y = decide (ExP a v i j X Y) := by
  obtain ⟨h1, h2, h3, h4, h5, h6⟩ := of_decide_eq_true h
  have h7 := hL.2.2.2.2 y.toNat (by omega)
  refine ⟨x.toNat, y.toNat, (iget a x.toNat).toNat, (iget a y.toNat).toNat, by omega, by omega, by omega, by omega, by omega, by omega, by omega, by omega, ?_⟩
  unfold isEx
  exact dec_congr ⟨fun h => h.2, fun h8 => ⟨of_decide_eq_true h, h8⟩⟩
theorem isEx_none {a : List Int} {v : List (List Int)} (hL : Lkd a v) (hex : exT a v = none) (x y : Int) : isEx a v x y = false := by
  cases hg : gdB a x y with
  | false => exact isEx_no hg
  | true =>
    obtain ⟨X, Y, i, j, rfl, rfl, h1, h2, h3, h4, h5, h6, h7⟩ := isEx_of (v := v) hL hg
    rw [h7, decide_eq_false_iff_not]
    exact fun he => exT_ne he h5 h6 h1 h2 hex

set_option maxHeartbeats 4000000 in
set_option maxRecDepth 100000 in
theorem keepsakeTrades_early (pa : Option Addr) (ca : Nat) (a : List Int) (p : Option Addr) (c : Nat) (v : List (List Int)) (x y : Int) (w : World) (ha : Ints w pa ca a) (hx : Mat w p c v) (hx64 : in64 x) (hy64 : in64 y) (hN : GreatK a v ∨ ¬ Lkd a v) :
    Calls Try.prog 8 #[.slice pa a.length ca, .slice p v.length c, .int .i64 x, .int .i64 y] w fun e w' => e = .returned (.bool true) ∧ Below w.heap.size w w' := by
  have hG := fun W h1 h2 => great29_any pa ca a p c v W (h1 : Ints W pa ca a) (h2 : Mat W p c v)
  by_cases hgr : GreatK a v
  · rw [decide_eq_true hgr] at hG
    have HG := Lib.hid hG
    clear hgr hG hN
    go_enter Try.func8, Try.ntmps8
    go_wp2_with fail
    refine (alive29_any _).mono ?_
    rintro e w1 ⟨rfl, hb⟩
    go_wp2_with fail
    refine (HG.out _ (ha.below hb (Nat.le_refl _)) (hx.below hb (Nat.le_refl _))).mono ?_
    rintro e w2 ⟨rfl, rfl⟩
    go_wp2_with fail
    go_ret
    exact ⟨rfl, hb⟩
  have hL : ¬ Lkd a v := by rcases hN with h | h; exact absurd h hgr; exact h
  rw [decide_eq_false hgr] at hG
  have HG := Lib.hid hG
  have h0 : lkdI a v ≠ 0 := fun h => hL (lkdI_zero.1 h)
  have hC := fun W h1 h2 => ref29Looked_any pa ca a p c v W (h1 : Ints W pa ca a) (h2 : Mat W p c v)
  obtain ⟨k, hk⟩ : ∃ k, lkdI a v = k := ⟨_, rfl⟩
  rw [hk] at hC h0
  have hd : (k != 0) = true := by rw [bne_iff_ne]; exact h0
  have HC := Lib.hid hC
  clear hC hgr hG hN hL h0 hk
  go_enter Try.func8, Try.ntmps8
  go_wp2_with fail
  refine (alive29_any _).mono ?_
  rintro e w1 ⟨rfl, hb⟩
  replace ha := ha.below hb (Nat.le_refl _)
  replace hx := hx.below hb (Nat.le_refl _)
  go_wp2_with fail
  refine (HG.out _ ha hx).mono ?_
  rintro e w2 ⟨rfl, rfl⟩
  go_wp2_with fail
  refine (HC.out _ ha hx).mono ?_
  rintro e w3 ⟨rfl, n, rfl⟩
  go_wp2_with fail
  go_ret
  exact ⟨rfl, hb.drewN' _⟩
/-- The walk goes on from any world that has drawn. -/
theorem wp_drew {P : Program} {s : Code} {Q : Exit → Act → World → Prop} {a : Act} {wq w : World} (hw : ∃ n, w = wq.drewN n) (h : ∀ ws, (∃ n, ws = wq.drewN n) → s.wp P Q a ws) : s.wp P Q a w := h w hw
/-- The places of an exchange, compared. -/
theorem lexLe {a : List Int} {v : List (List Int)} {i j x y i0 j0 x0 y0 : Nat} (h : ExP a v i j x y) (hij : i < j) (hj : j < v.length) (hx : x < a.length) (hy : y < a.length) (h0 : exT a v = some (i0, j0, x0, y0)) :
    ∀ k, k < 4 → (∀ q, q < k → iget [(i : Int), j, x, y] q = iget [(i0 : Int), j0, x0, y0] q) → iget [(i0 : Int), j0, x0, y0] k ≤ iget [(i : Int), j, x, y] k := by
  intro k hk hq
  have hl := exT_first h hij hj hx hy h0
  have e0 : 0 < k → (i : Int) = i0 := fun h => hq 0 h
  have e1 : 1 < k → (j : Int) = j0 := fun h => hq 1 h
  have e2 : 2 < k → (x : Int) = x0 := fun h => hq 2 h
  match k, hk with
  | 0, _ => show (i0 : Int) ≤ i; omega
  | 1, _ => show (j0 : Int) ≤ j; have := e0 (by omega); omega
  | 2, _ => show (x0 : Int) ≤ x; have := e0 (by omega); have := e1 (by omega); omega
  | 3, _ => show (y0 : Int) ≤ y; have := e0 (by omega); have := e1 (by omega); have := e2 (by omega); omega
theorem box_iget {w : World} {S : Nat} {p q r s : Int} (h : BoxF w S [.int .i64 p, .int .i64 q, .int .i64 r, .int .i64 s]) {k : Nat} (hk : k < 4) : w.cell? ⟨S, k, none⟩ = some (.int .i64 (iget [p, q, r, s] k)) := by
  match k, hk with
  | 0, _ => exact h.cell 0 _ rfl
  | 1, _ => exact h.cell 1 _ rfl
  | 2, _ => exact h.cell 2 _ rfl
  | 3, _ => exact h.cell 3 _ rfl
set_option maxHeartbeats 8000000 in
set_option maxRecDepth 100000 in
theorem keepsakeTrades_main (pa : Option Addr) (ca : Nat) (a : List Int) (p : Option Addr) (c : Nat) (v : List (List Int)) (x y : Int) (w : World) (ha : Ints w pa ca a) (hx : Mat w p c v) (hx64 : in64 x) (hy64 : in64 y) (hgr : ¬ GreatK a v) (hL : Lkd a v) :
    Calls Try.prog 8 #[.slice pa a.length ca, .slice p v.length c, .int .i64 x, .int .i64 y] w fun e w' => e = .returned (.bool true) ∧ Below w.heap.size w w' := by
  have hG := fun W h1 h2 => great29_any pa ca a p c v W (h1 : Ints W pa ca a) (h2 : Mat W p c v)
  have hC := fun W h1 h2 => ref29Looked_any pa ca a p c v W (h1 : Ints W pa ca a) (h2 : Mat W p c v)
  rw [decide_eq_false hgr] at hG
  rw [lkdI_zero.2 hL] at hC
  have hrl : Hid (∀ i, i < v.length → (rget v i).length ≤ 1000000) := fun i hi => by have := (hL.2.2.2.1 i hi).1; have := hL.2.1; omega
  have hT := fun W h1 h2 => keepTrade_any pa ca a p c v W (h1 : Ints W pa ca a) (h2 : Mat W p c v) hrl
  have e1 : trdX a v = exT a v := by unfold trdX; rw [if_pos hL]
  obtain ⟨E, hE⟩ : ∃ E, trdE a v = E := ⟨_, rfl⟩
  obtain ⟨ti, tj, tx, ty, hV⟩ := exV_eq (exT a v)
  rw [e1, hE] at hT
  have HE0 : Hid ((exT a v = none ∧ E = 6) ∨ ∃ i j x y : Nat, exT a v = some (i, j, x, y) ∧ E = 0 ∧ ti = i ∧ tj = j ∧ tx = x ∧ ty = y) := by
    rw [← hE]
    unfold trdE
    rw [if_pos hL]
    cases hex : exT a v with
    | none => exact .inl ⟨rfl, rfl⟩
    | some t =>
      obtain ⟨i, j, x, y⟩ := t
      rw [hex] at hV
      exact .inr ⟨i, j, x, y, rfl, rfl, exV_inj hV⟩
  have HG := Lib.hid hG
  have HC := Lib.hid hC
  have HT := Lib.hid hT
  have HL := Lib.hid hL
  have HV := Lib.hid hV
  obtain ⟨hx1, hx2⟩ := hx64
  obtain ⟨hy1, hy2⟩ := hy64
  have hB : Below w.heap.size w w := Below.refl _ _
  have hn6 := HL.out.1
  have hn30 := HL.out.2.1
  clear hG hC hT e1 hE hgr hL hV
  go_enter Try.func8, Try.ntmps8
  go_wp2_with fail
  refine (alive29_any _).mono ?_
  rintro e w1 ⟨rfl, hb⟩
  replace ha := ha.below hb (Nat.le_refl _)
  replace hx := hx.below hb (Nat.le_refl _)
  replace hB := hB.trans (hb.mono hB.size)
  clear hb
  go_wp2_with fail
  refine (HG.out _ ha hx).mono ?_
  rintro e w2 ⟨rfl, rfl⟩
  go_wp2_with fail
  refine (HC.out _ ha hx).mono ?_
  rintro e w3 ⟨rfl, n3, hw3⟩
  have hb : Below w2.heap.size w2 w3 := by rw [hw3]; exact below_drewN _ _ _
  replace ha := ha.below hb (Nat.le_refl _)
  replace hx := hx.below hb (Nat.le_refl _)
  replace hB := hB.trans (hb.mono hB.size)
  clear hb hw3
  go_wp2_with fail
  refine (HT.out _ ha hx).mono ?_
  rintro e w4 ⟨he, hb⟩
  rw [HV.out] at he
  subst he
  replace ha := ha.below hb (Nat.le_refl _)
  replace hx := hx.below hb (Nat.le_refl _)
  replace hB := hB.trans (hb.mono hB.size)
  clear hb
  obtain ⟨w5, hw5⟩ : ∃ W, w4.alloc (.cells #[.int .i64 ti, .int .i64 tj, .int .i64 tx, .int .i64 ty] 37) = W := ⟨_, rfl⟩
  have hb : Below w4.heap.size w4 w5 := below_alloc hw5
  have bX : BoxF w5 w4.heap.size [.int .i64 ti, .int .i64 tj, .int .i64 tx, .int .i64 ty] := BoxF.new rfl hw5
  have HW5 := Lib.hid hw5
  replace ha := ha.below hb (Nat.le_refl _)
  replace hx := hx.below hb (Nat.le_refl _)
  replace hB := hB.trans (hb.mono hB.size)
  clear hb hw5
  obtain ⟨g10, hg10⟩ : ∃ g, w4.heap.size = g := ⟨_, rfl⟩
  go_upto_region 5 with (fail)
  rw [HW5.out]
  rw [hg10] at bX
  clear hg10
  have hla := ha.length_le
  have hlv := hx.length_le
  obtain ⟨wq, hwq⟩ : ∃ wq : World, wq = w5 := ⟨_, rfl⟩
  obtain rfl := hwq
  go_upto_region 6 with (fail)
  go_cut [81] (fun s wx => s = .bool (gdB a x y) ∧ ∃ N, wx = wq.drewN N)
  case first => as_aux_lemma =>
    by_cases c1 : ¬ 0 ≤ x
    · have hr : Hid (gdB a x y = false) := gdB_no fun h => c1 h.1
      have d1 : decide (0 ≤ x) = false := decide_eq_false c1
      clear c1
      go_quiet (fail)
      go_wp2_with fail
      go_meet
      exact ⟨by rw [hr.out], _, rfl⟩
    have c1 := Classical.not_not.1 c1
    have d1 : decide (0 ≤ x) = true := decide_eq_true c1
    by_cases c2 : ¬ x < a.length
    · have hr : Hid (gdB a x y = false) := gdB_no fun h => c2 h.2.1
      have d2 : decide (x < a.length) = false := decide_eq_false c2
      clear c2
      go_quiet (fail)
      go_wp2_with fail
      go_meet
      exact ⟨by rw [hr.out], _, rfl⟩
    have c2 := Classical.not_not.1 c2
    have d2 : decide (x < a.length) = true := decide_eq_true c2
    by_cases c3 : ¬ 0 ≤ y
    · have hr : Hid (gdB a x y = false) := gdB_no fun h => c3 h.2.2.1
      have d3 : decide (0 ≤ y) = false := decide_eq_false c3
      clear c3
      go_quiet (fail)
      go_wp2_with fail
      go_meet
      exact ⟨by rw [hr.out], _, rfl⟩
    have c3 := Classical.not_not.1 c3
    have d3 : decide (0 ≤ y) = true := decide_eq_true c3
    by_cases c4 : ¬ y < a.length
    · have hr : Hid (gdB a x y = false) := gdB_no fun h => c4 h.2.2.2.1
      have d4 : decide (y < a.length) = false := decide_eq_false c4
      clear c4
      go_quiet (fail)
      go_wp2_with fail
      go_meet
      exact ⟨by rw [hr.out], _, rfl⟩
    have c4 := Classical.not_not.1 c4
    have d4 : decide (y < a.length) = true := decide_eq_true c4
    obtain ⟨X, rfl⟩ : ∃ X : Nat, x = X := ⟨x.toNat, by omega⟩
    obtain ⟨Y, rfl⟩ : ∃ Y : Nat, y = Y := ⟨y.toNat, by omega⟩
    obtain ⟨ba, oa, rfl, _, hcx⟩ := ha.get (j := X) (by omega)
    have hcy := ha.at (j := Y) (by omega)
    have HG : Hid (gdE a X Y ↔ 0 ≤ iget a X ∧ iget a X < iget a Y) := by
      unfold Hid gdE
      rw [Int.toNat_natCast, Int.toNat_natCast]
      exact ⟨fun h => h.2.2.2.2, fun h => ⟨c1, c2, c3, c4, h⟩⟩
    obtain ⟨i, hi⟩ : ∃ i, iget a X = i := ⟨_, rfl⟩
    obtain ⟨j, hj⟩ : ∃ j, iget a Y = j := ⟨_, rfl⟩
    rw [hi] at hcx
    rw [hj] at hcy
    rw [hi, hj] at HG
    clear hi hj
    by_cases c5 : ¬ 0 ≤ i
    · have hr : Hid (gdB a X Y = false) := gdB_no fun h => c5 (HG.out.1 h).1
      have d5 : decide (0 ≤ i) = false := decide_eq_false c5
      clear c5
      go_quiet (fail)
      go_wp2_with fail
      go_meet
      exact ⟨by rw [hr.out], _, rfl⟩
    have c5 := Classical.not_not.1 c5
    have d5 : decide (0 ≤ i) = true := decide_eq_true c5
    by_cases c6 : ¬ i < j
    · have hr : Hid (gdB a X Y = false) := gdB_no fun h => c6 (HG.out.1 h).2
      have d6 : decide (i < j) = false := decide_eq_false c6
      clear c6
      go_quiet (fail)
      go_wp2_with fail
      go_meet
      exact ⟨by rw [hr.out], _, rfl⟩
    have c6 := Classical.not_not.1 c6
    have d6 : decide (i < j) = true := decide_eq_true c6
    have hr : Hid (gdB a X Y = true) := gdB_yes (HG.out.2 ⟨c5, c6⟩)
    clear c6
    go_quiet (fail)
    go_wp2_with fail
    go_meet
    exact ⟨by rw [hr.out], _, rfl⟩
  case rest =>
    obtain ⟨rfl, N, rfl⟩ := hcut
    go_upto_if 81 with (fail)
    go_cut [12] (fun s wx => s = .bool (isEx a v x y) ∧ ∃ N, wx = wq.drewN N)
    case first => as_aux_lemma =>
      cases hg : gdB a x y with
      | false =>
        have Hr : Hid (isEx a v x y = false) := isEx_no hg
        clear hg
        go_wp2_with fail
        go_meet
        exact ⟨by rw [Hr.out], _, rfl⟩
      | true =>
        obtain ⟨X, Y, i, j, rfl, rfl, h1, h2, h3, h4, h5, h6, h7⟩ := isEx_of (v := v) HL.out hg
        have H7 := Lib.hid h7
        have HE : Hid (ExP a v i j X Y ↔ iget a X = i ∧ iget a Y = j ∧ placeI (rget v i) (Y : Int) < placeI (rget v i) (X : Int) ∧ placeI (rget v j) (X : Int) < placeI (rget v j) (Y : Int)) := exP_iff
        obtain ⟨ba, oa, rfl, _, hcx⟩ := ha.get h1
        have hcy := ha.at h2
        rw [h3] at hcx
        rw [h4] at hcy
        have hxl : (X : Int) < a.length := by omega
        have hyl : (Y : Int) < a.length := by omega
        have hil : (i : Int) < v.length := by omega
        have hjl : (j : Int) < v.length := by omega
        obtain ⟨bv, ov, rfl, hbv, qi, di, hci, hIi⟩ := hx.get (j := i) (by omega)
        obtain ⟨qj, dj, hcj, hIj⟩ := hx.at (j := j) (by omega)
        have HIi := Lib.hid (fun N => hIi.drewN N)
        have HIj := Lib.hid (fun N => hIj.drewN N)
        have C3 := Lib.hid h3
        have C4 := Lib.hid h4
        clear hIi hIj h3 h4 h7 hg
        by_cases c3 : ¬ placeI (rget v i) (Y : Int) < placeI (rget v i) (X : Int)
        · have e3 : decide (placeI (rget v i) (Y : Int) < placeI (rget v i) (X : Int)) = false := decide_eq_false c3
          have Hr : Hid (isEx a v (X : Int) (Y : Int) = false) := by unfold Hid; rw [H7.out, decide_eq_false_iff_not]; exact fun h => c3 (HE.out.1 h).2.2.1
          clear c3
          go_wp2_with fail
          go_quiet (fail)
          go_wp2_with fail
          go_quiet ((go_at_call 28; exact callDrew (place29_any _ _ _ _ _ (by first | exact HIi.out _ | exact HIj.out _))))
          go_wp2_with fail
          go_meet
          exact ⟨by rw [Hr.out], _, by rw [World.drewN_drewN, World.drewN_drewN]⟩
        have c3 := Classical.not_not.1 c3
        have e3 : decide (placeI (rget v i) (Y : Int) < placeI (rget v i) (X : Int)) = true := decide_eq_true c3
        by_cases c4 : ¬ placeI (rget v j) (X : Int) < placeI (rget v j) (Y : Int)
        · have e4 : decide (placeI (rget v j) (X : Int) < placeI (rget v j) (Y : Int)) = false := decide_eq_false c4
          have Hr : Hid (isEx a v (X : Int) (Y : Int) = false) := by unfold Hid; rw [H7.out, decide_eq_false_iff_not]; exact fun h => c4 (HE.out.1 h).2.2.2
          clear c3 c4
          go_wp2_with fail
          go_quiet (fail)
          go_wp2_with fail
          go_quiet ((go_at_call 28; exact callDrew (place29_any _ _ _ _ _ (by first | exact HIi.out _ | exact HIj.out _))))
          go_wp2_with fail
          go_meet
          exact ⟨by rw [Hr.out], _, by rw [World.drewN_drewN, World.drewN_drewN]⟩
        have c4 := Classical.not_not.1 c4
        have e4 : decide (placeI (rget v j) (X : Int) < placeI (rget v j) (Y : Int)) = true := decide_eq_true c4
        have Hr : Hid (isEx a v (X : Int) (Y : Int) = true) := by unfold Hid; rw [H7.out, decide_eq_true_iff]; exact HE.out.2 ⟨C3.out, C4.out, c3, c4⟩
        clear c3 c4
        go_wp2_with fail
        go_quiet (fail)
        go_wp2_with fail
        go_quiet ((go_at_call 28; exact callDrew (place29_any _ _ _ _ _ (by first | exact HIi.out _ | exact HIj.out _))))
        go_wp2_with fail
        go_meet
        exact ⟨by rw [Hr.out], _, by rw [World.drewN_drewN, World.drewN_drewN]⟩
    case rest =>
      obtain ⟨rfl, N2, rfl⟩ := hcut
      rcases HE0.out with ⟨hex, hE⟩ | ⟨i, j, X0, Y0, hex, hE, hi0, hj0, hx0, hy0⟩
      · subst hE
        rw [isEx_none HL.out hex x y]
        clear hex
        go_wp2_with fail
        go_ret
        exact ⟨rfl, hB.drewN' _⟩
      subst hE hi0 hj0 hx0 hy0
      obtain ⟨s1, s2, s3, s4, s5, s6, s7, s8, s9⟩ := exT_spec hex
      obtain ⟨ba, oa, rfl, hbl, hcx⟩ := ha.get s4
      have hcy := ha.at s5
      rw [s6] at hcx
      rw [s7] at hcy
      obtain ⟨bv, ov, rfl, hbv, qi, di, hci, hIi⟩ := hx.get (j := i) s1
      obtain ⟨qj, dj, hcj, hIj⟩ := hx.at (j := j) s3
      have HIi := Lib.hid (fun N => hIi.drewN N)
      have HIj := Lib.hid (fun N => hIj.drewN N)
      have b0 := bX.cell 0 _ rfl
      have b1 := bX.cell 1 _ rfl
      have b2 := bX.cell 2 _ rfl
      have b3 := bX.cell 3 _ rfl
      have hxy0 : X0 ≠ Y0 := fun e => by rw [e, s7] at s6; omega
      have hxy1 : (X0 : Int) ≠ Y0 := by omega
      have S6 := Lib.hid s6
      have S7 := Lib.hid s7
      have f1 : decide ((X0 : Int) < 0) = false := by rw [decide_eq_false_iff_not]; omega
      have f2 : decide ((Y0 : Int) < 0) = false := by rw [decide_eq_false_iff_not]; omega
      have f3 : decide ((i : Int) < 0) = false := by rw [decide_eq_false_iff_not]; omega
      have f4 : decide ((a.length : Int) ≤ X0) = false := by rw [decide_eq_false_iff_not]; omega
      have f5 : decide ((a.length : Int) ≤ Y0) = false := by rw [decide_eq_false_iff_not]; omega
      have f6 : decide ((j : Int) ≤ i) = false := by rw [decide_eq_false_iff_not]; omega
      have f7 : decide (a.length ≤ X0) = false := by rw [decide_eq_false_iff_not]; omega
      have f8 : decide (a.length ≤ Y0) = false := by rw [decide_eq_false_iff_not]; omega
      have f9 : decide (j ≤ i) = false := by rw [decide_eq_false_iff_not]; omega
      have g1 : (X0 : Int) < a.length := by omega
      have g2 : (Y0 : Int) < a.length := by omega
      have g3 : (i : Int) < v.length := by omega
      have g4 : (j : Int) < v.length := by omega
      have p1 : decide (placeI (rget v i) (X0 : Int) ≤ placeI (rget v i) (Y0 : Int)) = false := by rw [decide_eq_false_iff_not]; omega
      have p2 : decide (placeI (rget v j) (Y0 : Int) ≤ placeI (rget v j) (X0 : Int)) = false := by rw [decide_eq_false_iff_not]; omega
      have Hex := Lib.hid hex
      clear hex s6 s7 s8 s9 hIi hIj
      go_wp2_with fail
      go_quiet (fail)
      go_wp2_with fail
      go_quiet ((go_at_call 28; exact callDrew (place29_any _ _ _ _ _ (by first | exact HIi.out _ | exact HIj.out _))))
      go_upto_if 219 with (fail)
      refine wp_drew (wq := wq) ⟨_, by rw [World.drewN_drewN, World.drewN_drewN]⟩ fun ws hws => ?_
      have hbs : Below wq.heap.size wq ws := by obtain ⟨n, rfl⟩ := hws; exact below_drewN _ _ _
      clear hws
      go_cut [12] (fun s wx => Below wq.heap.size wq wx)
      case first => as_aux_lemma =>
        cases his : isEx a v x y with
        | false =>
          clear his
          go_wp2_with fail
          go_meet
          exact hbs
        | true =>
          have hgd : gdB a x y = true := by
            cases hg : gdB a x y with
            | true => rfl
            | false => rw [isEx_no hg] at his; cases his
          obtain ⟨X, Y, i', j', rfl, rfl, t1, t2, t3, t4, t5, t6, t7⟩ := isEx_of (v := v) HL.out hgd
          have his2 := his
          rw [t7, decide_eq_true_iff] at his2
          have HLx := Lib.hid (lexLe his2 t5 t6 t1 t2 Hex.out)
          have ha' := ha.below hbs (Nat.le_refl _)
          have hcX := ha'.at t1
          have hcY := ha'.at t2
          rw [t3] at hcX
          rw [t4] at hcY
          have hba : ba < ws.heap.size := Nat.lt_of_lt_of_le hbl hbs.size
          have q1 : (X : Int) < a.length := by omega
          have q2 : (Y : Int) < a.length := by omega
          obtain ⟨W1, hW1⟩ : ∃ W, ws.alloc (.cells #[.int .i64 (i' : Int), .int .i64 (j' : Int), .int .i64 (X : Int), .int .i64 (Y : Int)] 53) = W := ⟨_, rfl⟩
          have hb1 : Below ws.heap.size ws W1 := below_alloc hW1
          have bO : BoxF W1 ws.heap.size [.int .i64 (i' : Int), .int .i64 (j' : Int), .int .i64 (X : Int), .int .i64 (Y : Int)] := BoxF.new rfl hW1
          have bX1 := ((bX.below hbs).below hb1).below (below_drewN _ _ 1)
          have hb2 : Below W1.heap.size W1 (W1.drewN 1) := below_drewN _ _ 1
          replace bO := bO.below hb2
          have hbs2 := (hbs.trans (hb1.mono hbs.size)).trans (hb2.mono (Nat.le_trans hbs.size hb1.size))
          obtain ⟨W2, hW2⟩ : ∃ W, W1.drewN 1 = W := ⟨_, rfl⟩
          rw [hW2] at bX1 bO hbs2
          have b0 := bX1.cell 0 _ rfl
          have b1 := bX1.cell 1 _ rfl
          have b2 := bX1.cell 2 _ rfl
          have b3 := bX1.cell 3 _ rfl
          obtain ⟨W3, hW3⟩ : ∃ W, W2.alloc (.cells #[.int .i64 (i : Int), .int .i64 (j : Int), .int .i64 (X0 : Int), .int .i64 (Y0 : Int)] 53) = W := ⟨_, rfl⟩
          have hb3 : Below W2.heap.size W2 W3 := below_alloc hW3
          have bT : BoxF W3 W2.heap.size [.int .i64 (i : Int), .int .i64 (j : Int), .int .i64 (X0 : Int), .int .i64 (Y0 : Int)] := BoxF.new rfl hW3
          replace bO := bO.below hb3
          replace hbs2 := hbs2.trans (hb3.mono hbs2.size)
          have HW1 := Lib.hid hW1
          have HW2 : Hid (W1.drew = W2) := hW2
          have HW3 := Lib.hid hW3
          have His := Lib.hid his
          clear his2 hgd t3 t4 t7 f1 f2 f3 f4 f5 f6 f7 f8 f9 p1 p2 hci hcj hcx hcy hW1 hW2 hW3 hb1 hb2 hb3 bX1
          go_wp2_with fail
          go_region
          go_upto_region 17 with (fail)
          rw [HW1.out, HW2.out]
          go_upto_region 18 with (fail)
          rw [HW3.out]
          go_wp2_with fail
          go_loopw [17] (fun s wk => ∃ k : Nat, k ≤ 4 ∧ s = .int .i64 k ∧ Hid (∀ q, q < k → iget [(i' : Int), j', X, Y] q = iget [(i : Int), j, X0, Y0] q) ∧ ∃ N, wk = W3.drewN N) (fun s _ => 4 - (intOf s).toNat)
          case atStart => exact ⟨0, by omega, rfl, fun q hq => absurd hq (Nat.not_lt_zero q), 0, rfl⟩
          case round =>
            obtain ⟨k, hk, rfl, hq, N4, rfl⟩ := hrel
            by_cases hlt : k < 4
            · have kO := box_iget bO hlt
              have kT := box_iget bT hlt
              have hle := HLx.out k hlt hq.out
              have HQ : Hid (iget [(i' : Int), j', X, Y] k = iget [(i : Int), j, X0, Y0] k → ∀ q, q < k + 1 → iget [(i' : Int), j', X, Y] q = iget [(i : Int), j, X0, Y0] q) := fun h => snoc_all' hq.out h
              obtain ⟨zo, hzo⟩ : ∃ z, iget [(i' : Int), j', X, Y] k = z := ⟨_, rfl⟩
              obtain ⟨zt, hzt⟩ : ∃ z, iget [(i : Int), j, X0, Y0] k = z := ⟨_, rfl⟩
              rw [hzo] at kO hle HQ
              rw [hzt] at kT hle HQ
              have hk1 : (k : Int) < 4 := by omega
              clear hzo hzt
              have kO' : (W3.drewN N4).cell? ⟨ws.heap.size, k, none⟩ = some (.int .i64 zo) := kO
              have kT' : (W3.drewN N4).cell? ⟨W2.heap.size, k, none⟩ = some (.int .i64 zt) := kT
              obtain ⟨W4, hW4⟩ : ∃ W, W3.drewN N4 = W := ⟨_, rfl⟩
              rw [hW4] at kO' kT' ⊢
              have HW4 := Lib.hid hW4
              have hbs4 : Below wq.heap.size wq W4 := by rw [← hW4]; exact hbs2.drewN' _
              have Hle := Lib.hid hle
              clear kO kT hW4 HLx hle hq
              by_cases e : zo = zt
              · have hb : (zo != zt) = false := by rw [bne_eq_false_iff_eq]; exact e
                have HQ2 := Lib.hid (HQ.out e)
                clear e HQ
                go_wp2_with fail
                go_region
                go_wp2_with fail
                go_roundw
                case rel => exact ⟨k + 1, by omega, by go_num, HQ2.out, drew_drew ⟨N4, HW4.out.symm⟩⟩
                case measure => (simp [intOf] <;> omega)
              · have hb : (zo != zt) = true := by rw [bne_iff_ne]; exact e
                have hd : decide (zo < zt) = false := by have := Hle.out; rw [decide_eq_false_iff_not]; omega
                clear e HQ
                go_wp2_with fail
                go_region
                go_wp2_with fail
                go_region
                go_wp2_with fail
                go_meet
                exact hbs4.drew.drew
            · have hk1 : ¬ (k : Int) < 4 := by omega
              go_wp2_with fail
              go_meet
              exact hbs2.drewN' _
      case rest =>
        have hb := hcut
        replace ha := ha.below hb (Nat.le_refl _)
        replace hx := hx.below hb (Nat.le_refl _)
        replace bX := bX.below hb
        replace hB := hB.trans (hb.mono hB.size)
        clear hb hcut hbs
        have hL2 : Lkd (swp a i j X0 Y0) v := by rw [← stStep_some Hex.out]; exact stStep_lkd HL.out
        obtain ⟨hN1, hN2⟩ := stN_step HL.out (by rw [Hex.out]; rfl)
        rw [stStep_some Hex.out] at hN1 hN2
        have hrl2 : Hid (∀ i, i < v.length → (rget v i).length ≤ 1000000) := hrl.out
        have H1 := fun W h1 h2 => keepSettle_any (some ⟨ba, oa, none⟩) ca a (some ⟨bv, ov, none⟩) c v W (h1 : Ints W _ ca a) (h2 : Mat W _ c v) hrl
        have H2 := fun W q d h1 h2 => keepSettle_any q d (swp a i j X0 Y0) (some ⟨bv, ov, none⟩) c v W (h1 : Ints W q d _) (h2 : Mat W _ c v) hrl
        rw [(stl_ok HL.out).1, (stl_ok HL.out).2.1, (stl_ok HL.out).2.2, hN1, hN2] at H1
        rw [(stl_ok hL2).1, (stl_ok hL2).2.1, (stl_ok hL2).2.2] at H2
        rw [swp_len] at H2
        have hM := (stN_spec hL2).1
        obtain ⟨M, eM⟩ : ∃ M, stN (swp a i j X0 Y0) v = M := ⟨_, rfl⟩
        obtain ⟨L, eL⟩ : ∃ L, stL (swp a i j X0 Y0) v = L := ⟨_, rfl⟩
        rw [eM, eL] at H1 H2
        rw [eM] at hM
        have H1 := Lib.hid H1
        have H2 := Lib.hid H2
        clear hN1 hN2 eM eL f1 f2 f3 f4 f5 f6 f7 f8 f9 p1 p2 hci hcj hcx hcy hL2 b0 b1 b2 b3
        go_wp2_with (at_builtin; refine wpList_app rfl (.tmp 258) (.tmp 259) rfl wc.heap.size _ _ _ _ [] a rfl rfl (Own.made _ _ (Nat.le_refl _)) (ha.below ((Below.refl _ _).alloc (Nat.le_refl _) _) (Nat.le_refl _)) (by simp; omega) (by simp) ?_; intro p4 c4 w7 zs hz hO4 hg hf)
        obtain rfl : zs = a := hz.out
        have hb : Below wc.heap.size wc w7 := app0_below hg
        clear hz hg hf
        obtain ⟨g4, rfl, hg1, hg2, hk1, hk2⟩ := hO4.get (j := X0) s4
        have hk3 := hO4.at s5
        have hk4 := hO4.free Y0
        have ha7 := ha.below hb (Nat.le_refl _)
        have hx7 := hx.below hb (Nat.le_refl _)
        have bX7 := bX.below hb
        have b0 := bX7.cell 0 _ rfl
        have b1 := bX7.cell 1 _ rfl
        have b2 := bX7.cell 2 _ rfl
        have b3 := bX7.cell 3 _ rfl
        have hO5 : Own _ wc.heap.size (some ⟨g4, 0, none⟩) c4 (swp zs i j X0 Y0) := ((hO4.set X0 (x := (j : Int)) ⟨by omega, by omega⟩).1.set Y0 (x := (i : Int)) ⟨by omega, by omega⟩).1
        have hb2 : Below wc.heap.size wc _ := (hb.setCell (p := ⟨g4, X0, none⟩) hg1 (.int .i64 (j : Int))).setCell (p := ⟨g4, Y0, none⟩) hg1 (.int .i64 (i : Int))
        have hgX : g4 ≠ g10 := fun e => by have := bX.lt; omega
        obtain ⟨W8, hW8⟩ : ∃ W, ((w7.setCell ⟨g4, X0, none⟩ (.int .i64 (j : Int))).setCell ⟨g4, Y0, none⟩ (.int .i64 (i : Int))).drewN 1 = W := ⟨_, rfl⟩
        have hb3 := hb2.drewN' 1
        replace hO5 := hO5.drewN 1
        have HW8 : Hid (((w7.setCell ⟨g4, X0, none⟩ (.int .i64 (j : Int))).setCell ⟨g4, Y0, none⟩ (.int .i64 (i : Int))).drew = W8) := hW8
        rw [hW8] at hb3 hO5
        have hI5 := hO5.ints
        replace ha := ha.below hb3 (Nat.le_refl _)
        replace hx := hx.below hb3 (Nat.le_refl _)
        replace hB := hB.trans (hb3.mono hB.size)
        clear hW8 hb hb2 hb3 hO4 hO5 ha7 hx7 bX7 bX
        go_wp2_with fail
        go_region
        go_upto_region 26 with (fail)
        rw [HW8.out]
        go_wp2_with fail
        refine (H1.out _ ha hx).mono ?_
        rintro e w9 ⟨p9, c9, rfl, o9, hb⟩
        replace hx := hx.below hb (Nat.le_refl _)
        replace hI5 := hI5.below hb (Nat.le_refl _)
        replace hB := hB.trans (hb.mono hB.size)
        have i9 := o9.ints
        clear hb o9
        go_wp2_with fail
        refine (H2.out _ _ _ hI5 hx).mono ?_
        rintro e wa ⟨pa', ca', rfl, oa', hb⟩
        replace i9 := i9.below hb (Nat.le_refl _)
        replace hB := hB.trans (hb.mono hB.size)
        have ia := oa'.ints
        clear hb oa'
        go_wp2_with fail
        refine (eq25_true i9 ia).mono ?_
        rintro e wb ⟨rfl, hw⟩
        have hb : Below _ _ _ := drew_below25 hw
        replace hB := hB.trans (hb.mono hB.size)
        clear hb hw
        go_wp2_with fail
        go_ret
        exact ⟨rfl, hB⟩

theorem keepsakeTrades_walk (pa : Option Addr) (ca : Nat) (a : List Int) (p : Option Addr) (c : Nat) (v : List (List Int)) (x y : Int) (w : World) (ha : Ints w pa ca a) (hx : Mat w p c v) (hx64 : in64 x) (hy64 : in64 y) : Calls Try.prog 8 #[.slice pa a.length ca, .slice p v.length c, .int .i64 x, .int .i64 y] w fun e w' => e = .returned (.bool true) ∧ Below w.heap.size w w' := by
  by_cases hgr : GreatK a v
  · exact keepsakeTrades_early pa ca a p c v x y w ha hx hx64 hy64 (.inl hgr)
  · by_cases hL : Lkd a v
    · exact keepsakeTrades_main pa ca a p c v x y w ha hx hx64 hy64 hgr hL
    · exact keepsakeTrades_early pa ca a p c v x y w ha hx hx64 hy64 (.inr hL)
end Go.Proofs.Ytknincjfcicjfaa
