/- RotaAdds: for every input the law returns true, and each argument reads as it read before; no condition. -/
import Derived.Test.YtcgaojnfgkfnkaaTopRotaAddsm1
import Derived.Test.YtcgaojnfgkfnkaaTopRotaAddsm2
import Derived.Test.YtcgaojnfgkfnkaaTopRotaCheapestm9
import Derived.Test.YtcgaojnfgkfnkaaTopRotaCheapestm13
import Derived.Test.YtcgaojnfgkfnkaaTopRotaCheapestm14
import Derived.Test.YtcgaojnfgkfnkaaTopRotaCheapestm1
import Derived.Lib.SmallJoins
import Derived.ChangeOld
/- The walk of rota.Swap, for all rotas whose first week is of moderate length. -/
namespace Go.Proofs.Ytcgaojnfgkfnkaa
set_option linter.unusedVariables false
set_option linter.unusedSimpArgs false
open Go.ChangeShapes Go.WideShapes Go.ChangeAt Go.RowKit Go.Deep

theorem enter_swap1 (args : Array Value) (W : World) : (callFunc 44 args).run Try.prog W = .ok (.enter 44 args) W := rfl
set_option maxHeartbeats 1600000 in
theorem swap1_any (B : Nat) (p : Option Addr) (c : Nat) (r : List (List Int)) (x : List Int) (q : Option Addr) (d : Nat) (W : World) (hc : W.cell? ⟨B, 0, none⟩ = some (.slice p r.length c)) (hm : Mat W p c r) (hx : Ints W q d x) (h0 : 0 < r.length) (hl : (rget r 0).length ≤ 1000000) :
    Calls Try.prog 44 #[.slice q x.length d, .pointer (some ⟨B, 0, none⟩)] W fun e w' => e = .returned (.bool (!isWk x (rget r 0).length)) ∧ Below W.heap.size W w' := by
  obtain ⟨b, o, rfl, _, q1, d1, h1, h2⟩ := hm.get h0
  rw [Nat.add_zero] at h1
  have h01 : (0 : Int) < r.length := by omega
  have h0e : r ≠ [] := fun e => by subst e; simp at h0
  have CI := Lib.hid (isWeek_any q d x (rget r 0).length W hx hl)
  clear hm h2
  go_enter Try.func44, Try.ntmps44
  go_wp2_with fail
  refine CI.out.mono ?_
  rintro e w1 ⟨rfl, hb⟩
  go_wp2_with fail
  go_ret
  exact ⟨rfl, hb⟩
theorem wks_rows {r : List (List Int)} (h : WksR r r.length) {t : Nat} (ht : t < r.length) : (rget r t).length = (rget r 0).length ∧ (rget r 0).length ≤ 12 ∧ 1 ≤ (rget r 0).length ∧ ∀ j, j < (rget r t).length → 0 ≤ iget (rget r t) j ∧ iget (rget r t) j < (rget r 0).length := by
  obtain ⟨h1, h2, h3⟩ := isWk_true.1 (h t ht)
  exact ⟨h3.1, h2, h1, fun j hj => by have := isA_digits h3 j hj; exact this⟩
set_option maxHeartbeats 8000000 in
set_option maxRecDepth 100000 in
theorem swap32_any (p : Option Addr) (c : Nat) (r : List (List Int)) (m a b : Int) (w : World) (hx : Mat w p c r) (hl : (rget r 0).length ≤ 1000000) :
    Calls Try.prog 27 #[.slice p r.length c, .int .i64 m, .int .i64 a, .int .i64 b] w (GivesMt w (swR r m a b) (swE r m a b)) := by
  obtain ⟨W0, hW0⟩ : ∃ W0, w.alloc (.cells #[.slice p r.length c] 22) = W0 := ⟨_, rfl⟩
  have hB0 : Below w.heap.size w W0 := below_alloc hW0
  have x0 : W0.cell? ⟨w.heap.size, 0, none⟩ = some (.slice p r.length c) := by rw [← hW0, World.cell?_alloc_at _ _ _ _ rfl]; rfl
  have hlt0 : w.heap.size < W0.heap.size := by rw [← hW0]; simp
  have hx0 := hx.below hB0 (Nat.le_refl _)
  have hmf : ∀ (fn : Fn) (first cap : Array Value) (w : World), (Instr.makeFunc fn first cap).run Try.prog w = .ok (.func fn first cap) w := fun _ _ _ _ => rfl
  clear hx
  by_cases hm : 400 < r.length
  · have HE := Lib.hid (swE_many (m := m) (a := a) (b := b) hm)
    have HR := Lib.hid (swR_bad (r := r) (m := m) (a := a) (b := b) (by rw [HE.out]; omega))
    have hd : decide (400 < (r.length : Int)) = true := by simp; omega
    clear hm
    go_enter Try.func27, Try.ntmps27
    go_wp2_with fail
    go_ret2
    rw [HE.out, HR.out]
    exact ⟨none, 0, rfl, Mat.ofNil _, hB0⟩
  have hd : decide (400 < (r.length : Int)) = false := by simp; omega
  have hl400 : r.length ≤ 400 := by omega
  have Hm := Lib.hid hm
  have CF := Lib.hid (containsFuncU_any 44 (.pointer (some ⟨w.heap.size, 0, none⟩)) (fun j => !isWk (rget r j) (rget r 0).length) (fun W => Below W0.heap.size W0 W) enter_swap1 p c r W0 (Below.refl _ _) (fun W hW => hx0.below hW (Nat.le_refl _)) (fun j q d W hj hW hi =>
    (swap1_any w.heap.size p c r (rget r j) q d W ((hW.cell (p := ⟨w.heap.size, 0, none⟩) hlt0).trans x0) (hx0.below hW (Nat.le_refl _)) hi (by omega) hl).mono fun e w' h => ⟨h.1, hW.trans (h.2.mono hW.size)⟩))
  clear hm
  go_enter Try.func27, Try.ntmps27
  go_wp2_with fail
  refine CF.out.mono ?_
  rintro e w1 ⟨rfl, hb1⟩
  have hx1 := hx0.below hb1 (Nat.le_refl _)
  have x1 : w1.cell? ⟨w.heap.size, 0, none⟩ = some (.slice p r.length c) := (hb1.cell (p := ⟨w.heap.size, 0, none⟩) hlt0).trans x0
  have hB1 := hB0.trans (hb1.mono hB0.size)
  have hlt1 : w.heap.size < w1.heap.size := Nat.lt_of_lt_of_le hlt0 hb1.size
  clear CF hB0 x0 hx0 hb1 hlt0 hW0
  cases hany : anyN (fun j => !isWk (rget r j) (rget r 0).length) r.length with
  | true =>
    have HE := Lib.hid (swE_bad (m := m) (a := a) (b := b) Hm.out (fun h => by
      obtain ⟨j, hj, hp⟩ := anyN_true.1 hany
      rw [h j hj] at hp; cases hp))
    have HR := Lib.hid (swR_bad (r := r) (m := m) (a := a) (b := b) (by rw [HE.out]; omega))
    clear hany
    go_wp2_with fail
    go_ret2
    rw [HE.out, HR.out]
    exact ⟨none, 0, rfl, Mat.ofNil _, hB1⟩
  | false =>
  have hW : Hid (WksR r r.length) := fun t ht => by
    have := anyN_false.1 hany t ht
    simpa using this
  clear hany
  have arg : ¬ SwIn r m a b → Hid (swE r m a b = 2 ∧ swR r m a b = []) := fun h => by
    have := swE_arg Hm.out hW.out h
    exact ⟨this, swR_bad (by rw [this]; omega)⟩
  by_cases hm0 : m < 0
  · have hd2 : decide (m < 0) = true := by simpa using hm0
    have HE := arg (fun h => by have := h.1; omega)
    clear hm0 arg
    go_wp2_with fail
    go_ret2
    rw [HE.out.1, HE.out.2]
    exact ⟨none, 0, rfl, Mat.ofNil _, hB1⟩
  have hd2 : decide (m < 0) = false := by simpa using hm0
  by_cases hm1 : (r.length : Int) ≤ m
  · have hd3 : decide ((r.length : Int) ≤ m) = true := by simpa using hm1
    have HE := arg (fun h => by have := h.2.1; omega)
    clear hm0 hm1 arg
    go_wp2_with fail
    go_ret2
    rw [HE.out.1, HE.out.2]
    exact ⟨none, 0, rfl, Mat.ofNil _, hB1⟩
  have hd3 : decide ((r.length : Int) ≤ m) = false := by simpa using hm1
  obtain ⟨mn, emn⟩ : ∃ x, min a b = x := ⟨_, rfl⟩
  obtain ⟨mx, emx⟩ : ∃ x, max a b = x := ⟨_, rfl⟩
  have hmn : mn ≤ a ∧ mn ≤ b ∧ (mn = a ∨ mn = b) := by rw [← emn]; omega
  have hmx : a ≤ mx ∧ b ≤ mx ∧ (mx = a ∨ mx = b) := by rw [← emx]; omega
  have emn2 : (if b < a then b else a) = mn := by rw [← emn]; split <;> omega
  have emx2 : (if a < b then b else a) = mx := by rw [← emx]; split <;> omega
  by_cases hn0 : mn < 0
  · have hd4 : decide (mn < 0) = true := by simpa using hn0
    have HE := arg (fun h => by have := h.2.2; omega)
    clear hm0 hm1 hn0 hmn hmx arg
    go_wp2_with fail
    go_ret2
    rw [HE.out.1, HE.out.2]
    exact ⟨none, 0, rfl, Mat.ofNil _, hB1⟩
  have hd4 : decide (mn < 0) = false := by simpa using hn0
  have hr0 : 0 < r.length := by omega
  have h01 : (0 : Int) < r.length := by omega
  have h0e : r ≠ [] := fun e => by subst e; simp at hr0
  obtain ⟨bb, oo, rfl, _, q0, d0, hc0, hI0⟩ := hx1.get hr0
  rw [Nat.add_zero] at hc0
  by_cases hx2 : ((rget r 0).length : Int) ≤ mx
  · have hd5 : decide (((rget r 0).length : Int) ≤ mx) = true := by simpa using hx2
    have HE := arg (fun h => by have := h.2.2; omega)
    clear hm0 hm1 hn0 hmn hmx hx2 arg hI0
    go_wp2_with fail
    go_ret2
    rw [HE.out.1, HE.out.2]
    exact ⟨none, 0, rfl, Mat.ofNil _, hB1⟩
  have hd5 : decide (((rget r 0).length : Int) ≤ mx) = false := by simpa using hx2
  clear arg hI0
  obtain ⟨M, rfl⟩ : ∃ M : Nat, m = M := ⟨m.toNat, by omega⟩
  obtain ⟨A, rfl⟩ : ∃ A : Nat, a = A := ⟨a.toNat, by omega⟩
  obtain ⟨B, rfl⟩ : ∃ B : Nat, b = B := ⟨b.toNat, by omega⟩
  have hMr : M < r.length := by omega
  obtain ⟨w1r, w2r, w3r, w4r⟩ := wks_rows hW.out hMr
  have hA : A < (rget r M).length := by omega
  have hB : B < (rget r M).length := by omega
  have HE := Lib.hid (swE_ok Hm.out hW.out (m := (M : Int)) (a := (A : Int)) (b := (B : Int)) ⟨by omega, by omega, by omega, by omega, by omega, by omega⟩)
  have HR := Lib.hid (swR_ok HE.out)
  have CC := Lib.hid (copied_any (some ⟨bb, oo, none⟩) c r w1 hx1 (by omega) (fun j hj => by rw [(wks_rows hW.out hj).1]; omega))
  have hM1 : (M : Int) < r.length := by omega
  have hA1 : (A : Int) < (rget r M).length := by omega
  have hB1' : (B : Int) < (rget r M).length := by omega
  have iA := w4r A hA
  have iB := w4r B hB
  obtain ⟨xa, exa⟩ : ∃ x, iget (rget r M) A = x := ⟨_, rfl⟩
  obtain ⟨xb, exb⟩ : ∃ x, iget (rget r M) B = x := ⟨_, rfl⟩
  have Hxa := Lib.hid exa
  have Hxb := Lib.hid exb
  rw [exa] at iA
  rw [exb] at iB
  have ia64 : in64 xa := ⟨by omega, by omega⟩
  have ib64 : in64 xb := ⟨by omega, by omega⟩
  clear hm0 hm1 hn0 hmn hmx hx2 w1r w2r w3r w4r exa exb iA iB
  go_wp2_with fail
  refine CC.out.mono ?_
  rintro e w2 ⟨qo, do', Q0, D0, rfl, hD0, hb2⟩
  have hH0 : Held w2 w1.heap.size w2.heap.size qo do' r := Held.of hD0
  obtain ⟨gt, g, dd, rfl, c1, c2, h5, h6, hne, hst⟩ := hH0.row hMr (by omega)
  obtain ⟨cA, fA⟩ := c2 A hA
  obtain ⟨cB, fB⟩ := c2 B hB
  rw [Hxa.out] at cA
  rw [Hxb.out] at cB
  have hres := Lib.hid (hst A B xb xa ib64 ia64)
  have hB2 : Below w.heap.size w w2 := hB1.trans (hb2.mono hB1.size)
  have hgw : w.heap.size ≤ g := by omega
  have hBr := Lib.hid ((hB2.setCell (p := ⟨g, A, none⟩) hgw (.int .i64 xb)).setCell (p := ⟨g, B, none⟩) hgw (.int .i64 xa))
  have hswA : Hid (swA r M A B = r.set M (((rget r M).set A xb).set B xa)) := by unfold Hid swA swRow; rw [Hxa.out, Hxb.out]
  clear hD0 hb2 CC hst c2 hH0 hB1 hB2 hx1 x1
  by_cases hAB : A = B
  · subst hAB
    obtain rfl : xa = xb := by rw [← Hxa.out, ← Hxb.out]
    clear cB fB
    go_wp2_with fail
    go_region
    go_wp2_with fail
    go_ret2
    rw [HE.out, HR.out, hswA.out]
    refine ⟨some ⟨gt, 0, none⟩, do', ?_, (hres.out.below (below_drewN _ _ 1)).mat, hBr.out.drewN' 1⟩
    rw [List.length_set]; rfl
  · have hAB1 : (A : Int) ≠ B := by omega
    have hBA : B ≠ A := fun e => hAB e.symm
    go_wp2_with fail
    go_region
    go_wp2_with fail
    go_ret2
    rw [HE.out, HR.out, hswA.out]
    refine ⟨some ⟨gt, 0, none⟩, do', ?_, (hres.out.below (below_drewN _ _ 1)).mat, hBr.out.drewN' 1⟩
    rw [List.length_set]; rfl
end Go.Proofs.Ytcgaojnfgkfnkaa

/- The walk of the reference's Swap, for all rotas whose first week is of moderate length. -/
namespace Go.Proofs.Ytcgaojnfgkfnkaa
set_option linter.unusedVariables false
set_option linter.unusedSimpArgs false
open Go.ChangeShapes Go.WideShapes Go.ChangeAt Go.RowKit Go.Deep

set_option maxHeartbeats 8000000 in
set_option maxRecDepth 100000 in
theorem refSwap_any (p : Option Addr) (c : Nat) (r : List (List Int)) (m a b : Int) (w : World) (hx : Mat w p c r) (hl : (rget r 0).length ≤ 1000000) :
    Calls Try.prog 28 #[.slice p r.length c, .int .i64 m, .int .i64 a, .int .i64 b] w (GivesMt w (swR r m a b) (swE r m a b)) := by
  by_cases hm : 400 < r.length
  · have HE := Lib.hid (swE_many (m := m) (a := a) (b := b) hm)
    have HR := Lib.hid (swR_bad (r := r) (m := m) (a := a) (b := b) (by rw [HE.out]; omega))
    have hd : decide (400 < (r.length : Int)) = true := by simp; omega
    clear hm
    go_enter Try.func28, Try.ntmps28
    go_wp2_with fail
    go_ret2
    rw [HE.out, HR.out]
    exact ⟨none, 0, rfl, Mat.ofNil _, Below.refl _ _⟩
  have hd : decide (400 < (r.length : Int)) = false := by simp; omega
  have hl400 : r.length ≤ 400 := by omega
  have Hm := Lib.hid hm
  clear hm
  go_enter Try.func28, Try.ntmps28
  go_wp2_with fail
  go_loopw [10] (fun kk wk => ∃ t : Nat, t ≤ r.length ∧ kk = .int .i64 t ∧ Hid (WksR r t) ∧ ∃ n, wk = w.drewN n) (fun kk _ => r.length - (intOf kk).toNat)
  case atStart => exact ⟨0, by omega, rfl, (fun t h => absurd h (Nat.not_lt_zero t)), 0, rfl⟩
  case round =>
    obtain ⟨t, ht, rfl, hW, hw⟩ := hrel
    have hx1 := hx.drew hw
    have Hw := Lib.hid hw
    clear hw
    by_cases hlt : t < r.length
    · have ht1 : (t : Int) < r.length := by omega
      have hr0 : 0 < r.length := by omega
      have h01 : (0 : Int) < r.length := by omega
      have h0e : r ≠ [] := fun e => by subst e; simp at hr0
      obtain ⟨b1, o1, rfl, _, q1, d1, hc, hI⟩ := hx1.get hlt
      obtain ⟨b2, o2, e, _, q0, d0, hc0, hI0⟩ := hx1.get hr0
      cases e
      rw [Nat.add_zero] at hc0
      have CI := Lib.hid (fun W (h : Ints W q1 d1 (rget r t)) => (is32_any q1 d1 (rget r t) (rget r 0).length W h hl).mono fun e w' h => (⟨h.1, 0, h.2⟩ : e = .returned (.bool (isWk (rget r t) (rget r 0).length)) ∧ ∃ n, w' = W.drewN n))
      clear hI0
      go_wp2_with fail
      go_quiet ((go_at_call 14; exact Calls.quiet_of (CI.out _ (hI.drewN _))))
      cases hq : isWk (rget r t) (rget r 0).length with
      | false =>
        have HE := Lib.hid (swE_bad (m := m) (a := a) (b := b) Hm.out (fun h => by rw [h t hlt] at hq; cases hq))
        have HR := Lib.hid (swR_bad (r := r) (m := m) (a := a) (b := b) (by rw [HE.out]; omega))
        clear hq CI
        go_wp2_with fail
        go_ret2
        rw [HE.out, HR.out]
        refine ⟨none, 0, rfl, Mat.ofNil _, ?_⟩
        first | exact (Drew.below _ Hw.out).drewN' _ | trace_state
      | true =>
        have hW2 : Hid (WksR r (t + 1)) := snoc_all' hW.out hq
        clear hq CI hW
        go_wp2_with fail
        go_roundw
        case rel => exact ⟨t + 1, by omega, by go_num, hW2, drew_drewN _ Hw.out⟩
        case measure => simp [intOf]; omega
    · have ht1 : ¬ (t : Int) < r.length := by omega
      obtain rfl : t = r.length := by omega
      have hbw : Below w.heap.size w wr := Drew.below _ Hw.out
      have arg : ¬ SwIn r m a b → Hid (swE r m a b = 2 ∧ swR r m a b = []) := fun h => by
        have := swE_arg Hm.out hW.out h
        exact ⟨this, swR_bad (by rw [this]; omega)⟩
      by_cases hm0 : m < 0
      · have hd2 : decide (m < 0) = true := by simpa using hm0
        have HE := arg (fun h => by have := h.1; omega)
        clear hm0 arg
        go_wp2_with fail
        go_ret2
        rw [HE.out.1, HE.out.2]
        exact ⟨none, 0, rfl, Mat.ofNil _, hbw⟩
      have hd2 : decide (m < 0) = false := by simpa using hm0
      by_cases hm1 : (r.length : Int) ≤ m
      · have hd3 : decide ((r.length : Int) ≤ m) = true := by simpa using hm1
        have HE := arg (fun h => by have := h.2.1; omega)
        clear hm0 hm1 arg
        go_wp2_with fail
        go_ret2
        rw [HE.out.1, HE.out.2]
        exact ⟨none, 0, rfl, Mat.ofNil _, hbw⟩
      have hd3 : decide ((r.length : Int) ≤ m) = false := by simpa using hm1
      by_cases ha0 : a < 0
      · have hd4 : decide (a < 0) = true := by simpa using ha0
        have HE := arg (fun h => by have := h.2.2; omega)
        clear hm0 hm1 ha0 arg
        go_wp2_with fail
        go_ret2
        rw [HE.out.1, HE.out.2]
        exact ⟨none, 0, rfl, Mat.ofNil _, hbw⟩
      have hd4 : decide (a < 0) = false := by simpa using ha0
      by_cases hb0 : b < 0
      · have hd5 : decide (b < 0) = true := by simpa using hb0
        have HE := arg (fun h => by have := h.2.2; omega)
        clear hm0 hm1 ha0 hb0 arg
        go_wp2_with fail
        go_ret2
        rw [HE.out.1, HE.out.2]
        exact ⟨none, 0, rfl, Mat.ofNil _, hbw⟩
      have hd5 : decide (b < 0) = false := by simpa using hb0
      have hr0 : 0 < r.length := by omega
      have h01 : (0 : Int) < r.length := by omega
      have h0e : r ≠ [] := fun e => by subst e; simp at hr0
      obtain ⟨bb, oo, rfl, hbb, q0, d0, hc0, hI0⟩ := hx1.get hr0
      rw [Nat.add_zero] at hc0
      by_cases ha2 : ((rget r 0).length : Int) ≤ a
      · have hd6 : decide (((rget r 0).length : Int) ≤ a) = true := by simpa using ha2
        have HE := arg (fun h => by have := h.2.2; omega)
        clear hm0 hm1 ha0 hb0 ha2 arg hI0
        go_wp2_with fail
        go_ret2
        rw [HE.out.1, HE.out.2]
        exact ⟨none, 0, rfl, Mat.ofNil _, hbw⟩
      have hd6 : decide (((rget r 0).length : Int) ≤ a) = false := by simpa using ha2
      by_cases hb2 : ((rget r 0).length : Int) ≤ b
      · have hd7 : decide (((rget r 0).length : Int) ≤ b) = true := by simpa using hb2
        have HE := arg (fun h => by have := h.2.2; omega)
        clear hm0 hm1 ha0 hb0 ha2 hb2 arg hI0
        go_wp2_with fail
        go_ret2
        rw [HE.out.1, HE.out.2]
        exact ⟨none, 0, rfl, Mat.ofNil _, hbw⟩
      have hd7 : decide (((rget r 0).length : Int) ≤ b) = false := by simpa using hb2
      clear arg hI0
      obtain ⟨M, rfl⟩ : ∃ M : Nat, m = M := ⟨m.toNat, by omega⟩
      obtain ⟨A, rfl⟩ : ∃ A : Nat, a = A := ⟨a.toNat, by omega⟩
      obtain ⟨B, rfl⟩ : ∃ B : Nat, b = B := ⟨b.toNat, by omega⟩
      have hMr : M < r.length := by omega
      have hd3n : decide (r.length ≤ M) = false := by rw [decide_eq_false_iff_not]; omega
      have hd6n : decide ((rget r 0).length ≤ A) = false := by rw [decide_eq_false_iff_not]; omega
      have hd7n : decide ((rget r 0).length ≤ B) = false := by rw [decide_eq_false_iff_not]; omega
      obtain ⟨w1r, w2r, w3r, w4r⟩ := wks_rows hW.out hMr
      have hA : A < (rget r M).length := by omega
      have hB : B < (rget r M).length := by omega
      have HE := Lib.hid (swE_ok Hm.out hW.out (m := (M : Int)) (a := (A : Int)) (b := (B : Int)) ⟨by omega, by omega, by omega, by omega, by omega, by omega⟩)
      have HR := Lib.hid (swR_ok HE.out)
      have CC := Lib.hid (twin32_any (some ⟨bb, oo, none⟩) c r wr hx1 (by omega) (fun j hj => by rw [(wks_rows hW.out hj).1]; omega))
      have hM1 : (M : Int) < r.length := by omega
      have hA1 : (A : Int) < (rget r M).length := by omega
      have hB1' : (B : Int) < (rget r M).length := by omega
      have iA := w4r A hA
      have iB := w4r B hB
      obtain ⟨xa, exa⟩ : ∃ x, iget (rget r M) A = x := ⟨_, rfl⟩
      obtain ⟨xb, exb⟩ : ∃ x, iget (rget r M) B = x := ⟨_, rfl⟩
      have Hxa := Lib.hid exa
      have Hxb := Lib.hid exb
      rw [exa] at iA
      rw [exb] at iB
      have ia64 : in64 xa := ⟨by omega, by omega⟩
      have ib64 : in64 xb := ⟨by omega, by omega⟩
      clear hm0 hm1 ha0 hb0 ha2 hb2 w1r w2r w3r w4r exa exb iA iB
      go_wp2_with fail
      refine CC.out.mono ?_
      rintro e w2 ⟨qo, do', Q0, D0, rfl, hD0, hb2⟩
      have hH0 : Held w2 wr.heap.size w2.heap.size qo do' r := Held.of hD0
      obtain ⟨gt, g, dd, rfl, c1, c2, h5, h6, hne, hst⟩ := hH0.row hMr (by omega)
      obtain ⟨cA, fA⟩ := c2 A hA
      obtain ⟨cB, fB⟩ := c2 B hB
      rw [Hxa.out] at cA
      rw [Hxb.out] at cB
      obtain ⟨br, or, e, hbr, qr, dr, hcr, hIr⟩ := hx1.get hMr
      cases e
      obtain ⟨bx, ox, rfl, hbx, hca⟩ := hIr.get hA
      obtain ⟨bx2, ox2, e, _, hcb⟩ := hIr.get hB
      cases e
      rw [Hxa.out] at hca
      rw [Hxb.out] at hcb
      have hcr2 := (hb2.cell (p := ⟨bb, oo + M, none⟩) hbr).trans hcr
      have hca2 := (hb2.cell (p := ⟨bx, ox + A, none⟩) hbx).trans hca
      have hcb2 := (hb2.cell (p := ⟨bx, ox + B, none⟩) hbx).trans hcb
      have n1 : bb ≠ g := by omega
      have n2 : bx ≠ g := by omega
      have n3 : g ≠ bb := by omega
      have n4 : g ≠ bx := by omega
      have n5 : g ≠ gt := fun e => hne e.symm
      have hres := Lib.hid (hst A B xb xa ib64 ia64)
      have hB2 : Below w.heap.size w w2 := hbw.trans (hb2.mono hbw.size)
      have hgw : w.heap.size ≤ g := by have := hbw.size; omega
      have hBr := Lib.hid ((hB2.setCell (p := ⟨g, A, none⟩) hgw (.int .i64 xb)).setCell (p := ⟨g, B, none⟩) hgw (.int .i64 xa))
      have hswA : Hid (swA r M A B = r.set M (((rget r M).set A xb).set B xa)) := by unfold Hid swA swRow; rw [Hxa.out, Hxb.out]
      clear hD0 hb2 CC hst c2 hH0 hB2 hx1 hcr hca hcb hIr hc0
      by_cases hAB : A = B
      · subst hAB
        obtain rfl : xa = xb := by rw [← Hxa.out, ← Hxb.out]
        clear cB fB
        go_wp2_with fail
        go_region
        go_wp2_with fail
        go_ret2
        rw [HE.out, HR.out, hswA.out]
        refine ⟨some ⟨gt, 0, none⟩, do', ?_, (hres.out.below (below_drewN _ _ 1)).mat, hBr.out.drewN' 1⟩
        rw [List.length_set]; rfl
      · have hAB1 : (A : Int) ≠ B := by omega
        have hBA : B ≠ A := fun e => hAB e.symm
        go_wp2_with fail
        go_region
        go_wp2_with fail
        go_ret2
        rw [HE.out, HR.out, hswA.out]
        refine ⟨some ⟨gt, 0, none⟩, do', ?_, (hres.out.below (below_drewN _ _ 1)).mat, hBr.out.drewN' 1⟩
        rw [List.length_set]; rfl
end Go.Proofs.Ytcgaojnfgkfnkaa

/- The walk of RotaAdds: Add and Swap return what the reference returns; no condition. -/
namespace Go.Proofs.Ytcgaojnfgkfnkaa
set_option linter.unusedVariables false
set_option linter.unusedSimpArgs false
open Go.ChangeShapes Go.WideShapes Go.ChangeAt Go.RowKit Go.Deep

theorem great_row {u v : List (List Int)} (h : great32 u v = false) : (rget v 0).length ≤ 1000000 := by
  have h2 := great32_false.1 h
  by_cases h0 : 0 < v.length
  · have : ¬ 40 < (rget v 0).length := fun h3 => h2 (.inr (.inr ⟨0, h0, h3⟩))
    omega
  · have : v = [] := List.eq_nil_of_length_eq_zero (by omega)
    subst this
    simp [rget]
set_option maxHeartbeats 16000000 in
set_option maxRecDepth 100000 in
theorem rotaAdds_walk (p : Option Addr) (c : Nat) (v : List (List Int)) (q : Option Addr) (d : Nat) (r : List (List Int)) (m a b : Int) (w : World) (hx : Mat w p c v) (hy : Mat w q d r) (_ : in64 m) (_ : in64 a) (_ : in64 b) :
    Calls Try.prog 5 #[.slice p v.length c, .slice q r.length d, .int .i64 m, .int .i64 a, .int .i64 b] w fun e w' => e = .returned (.bool true) ∧ Below w.heap.size w w' := by
  go_enter Try.func5, Try.ntmps5
  go_wp2_with fail
  refine (great32_any p q c d v r w hx hy).mono ?_
  rintro e w' ⟨rfl, hw⟩
  subst w'
  cases hG : great32 v r with
  | true =>
    clear hG
    go_wp2_with fail
    go_ret
    exact ⟨rfl, Below.refl _ _⟩
  | false =>
  have hl := Lib.hid (great_row hG)
  clear hG
  obtain ⟨F, eF⟩ : ∃ F, addR v r = F := ⟨_, rfl⟩
  obtain ⟨G, eG⟩ : ∃ G, addE v r = G := ⟨_, rfl⟩
  obtain ⟨T, eT⟩ : ∃ T, swR r m a b = T := ⟨_, rfl⟩
  obtain ⟨U, eU⟩ : ∃ U, swE r m a b = U := ⟨_, rfl⟩
  have C1 : Hid (∀ W, Mat W p c v → Mat W q d r → Calls Try.prog 25 #[.slice p v.length c, .slice q r.length d] W (GivesMt W F G)) := fun W h k => by rw [← eF, ← eG]; exact add32_any p q c d v r W h k
  have C2 : Hid (∀ W, Mat W p c v → Mat W q d r → Calls Try.prog 26 #[.slice p v.length c, .slice q r.length d] W (GivesMt W F G)) := fun W h k => by rw [← eF, ← eG]; exact refAdd_any p q c d v r W h k
  have C3 : Hid (∀ W, Mat W q d r → Calls Try.prog 27 #[.slice q r.length d, .int .i64 m, .int .i64 a, .int .i64 b] W (GivesMt W T U)) := fun W h => by rw [← eT, ← eU]; exact swap32_any q d r m a b W h hl.out
  have C4 : Hid (∀ W, Mat W q d r → Calls Try.prog 28 #[.slice q r.length d, .int .i64 m, .int .i64 a, .int .i64 b] W (GivesMt W T U)) := fun W h => by rw [← eT, ← eU]; exact refSwap_any q d r m a b W h hl.out
  have q3 : (G == G) = true := by simp
  have q4 : (U == U) = true := by simp
  have hS := ((St.start w).addM rfl hx).addM rfl hy
  clear hx hy hl eF eG eT eU
  go_wp2_with fail
  refine (C1.out _ (hS.matAt 1 rfl) (hS.matAt 0 rfl)).mono ?_
  rintro e w1 ⟨q1, d1, rfl, hM, hb⟩
  replace hS := hS.step hb
  replace hS := hS.addM rfl hM
  clear hM hb
  go_wp2_with fail
  refine (C2.out _ (hS.matAt 2 rfl) (hS.matAt 1 rfl)).mono ?_
  rintro e w2 ⟨q2, d2, rfl, hM, hb⟩
  replace hS := hS.step hb
  replace hS := hS.addM rfl hM
  clear hM hb
  go_wp2_with fail
  refine (C3.out _ (hS.matAt 2 rfl)).mono ?_
  rintro e w3 ⟨q3, d3, rfl, hM, hb⟩
  replace hS := hS.step hb
  replace hS := hS.addM rfl hM
  clear hM hb
  go_wp2_with fail
  refine (C4.out _ (hS.matAt 3 rfl)).mono ?_
  rintro e w4 ⟨q4, d4, rfl, hM, hb⟩
  replace hS := hS.step hb
  replace hS := hS.addM rfl hM
  clear hM hb
  go_wp2_with fail
  refine (same32_t (hS.matAt 3 rfl) (hS.matAt 2 rfl)).mono ?_
  rintro e w5 ⟨rfl, hw⟩
  replace hS := hS.drew hw
  clear hw
  go_wp2_with fail
  refine (same32_t (hS.matAt 1 rfl) (hS.matAt 0 rfl)).mono ?_
  rintro e w6 ⟨rfl, hw⟩
  replace hS := hS.drew hw
  clear hw
  go_wp2_with fail
  go_ret
  exact ⟨rfl, hS.bel⟩
end Go.Proofs.Ytcgaojnfgkfnkaa

/- The arguments of a law that are numbers, and slices in a field, as they are read; no condition. -/
namespace Go.Proofs.Ytcgaojnfgkfnkaa
set_option linter.unusedVariables false
set_option maxRecDepth 100000
set_option linter.unusedSimpArgs false
open Go.ChangeShapes Go.WideShapes Go.ChangeAt Go.RowKit Go.Deep
variable {H : Type} {enc : TypeId × Value → H} {w : World}
theorem open_intV {v : Value} {d : DataW H} {ps : List MemPlace} {base : Nat} (hv : Value.okWide Try.prog w .any base 3 v)
    (h : DataW.Trod enc Try.prog w 0 (fun _ => true) true 3 v d ps) : ∃ x : Int, v = .int .i64 x ∧ in64 x := by
  obtain ⟨n, hn, hr⟩ := open_int Try.underlying3 hv h
  exact ⟨n, hn, in64_of_wf hr.2.2⟩
theorem open_intC {v : Value} {y : DataW H × List MemPlace} {n : Nat} (h : DataW.trod enc Try.prog w 0 (fun _ => true) true n 3 [v] = some y) : ∃ x : Int, v = .int .i64 x ∧ in64 x := by
  obtain ⟨x, hcs, _, hw⟩ := DataW.trod_int Try.underlying3 h
  simp at hcs
  exact ⟨x, hcs, in64_of_wf hw⟩
theorem open_intsC {v : Value} {y : DataW H × List MemPlace} {n : Nat} (hf : DataW.trod enc Try.prog w 0 (fun _ => true) true n 23 [v] = some y) : ∃ (p : Option Addr) (c : Nat) (xs : List Int), v = .slice p xs.length c ∧ Ints w p c xs := by
  rcases open_ints Try.underlying23 Try.underlying3 (by kernel_rfl) hf with ⟨hcs, _⟩ | ⟨x, len, cap, zs, hcs, _, hl, hm, hz, hx, hcell, hwz⟩
  · simp at hcs
    subst hcs
    exact ⟨none, 0, [], rfl, Ints.ofNil w⟩
  · simp at hcs
    subst hcs
    simp only [if_true] at hz
    have hl' : (zs.take len).length = len := by simp; omega
    refine ⟨_, cap, zs.take len, by rw [hl'], by omega, hm, fun h => (by cases h), ?_, ?_, ?_⟩
    · rintro a ⟨⟩ hc0
      have h0 := hcell 0 (by omega)
      obtain ⟨b, o, s⟩ := x
      have := World.block_lt_of_cell? _ _ h0
      exact ⟨by simpa [Addr.add] using World.cell?_spot h0, by simpa [Addr.add] using this⟩
    · rintro b o ⟨⟩ j hj
      have := hcell j (by omega)
      rw [hl'] at hj
      rw [add_plain] at this
      simpa [iget, List.getD, hj] using this
    · intro j hj
      rw [iget_of hj]
      exact in64_of_wf (hwz _ (List.mem_of_mem_take (List.getElem_mem hj)))
theorem open_matC {v : Value} {y : DataW H × List MemPlace} {n : Nat} (hf : DataW.trod enc Try.prog w 0 (fun _ => true) true n 22 [v] = some y) : ∃ (p : Option Addr) (c : Nat) (m : List (List Int)), v = .slice p m.length c ∧ Mat w p c m := by
  rcases open_int_rows Try.underlying22 Try.underlying23 Try.underlying3 (by kernel_rfl) (by kernel_rfl) hf with ⟨hcs, _⟩ | ⟨x, len, cap, A, L, C, Z, hcs, _, hl, hm, _, hrows⟩
  · simp at hcs
    subst hcs
    exact ⟨none, 0, [], rfl, Mat.ofNil w⟩
  · simp at hcs
    subst hcs
    have hl' : ((List.range len).map fun r => (Z r).take (L r)).length = len := by simp
    have hr : ∀ j, j < len → rget ((List.range len).map fun r => (Z r).take (L r)) j = (Z j).take (L j) := fun j hj => by simp [rget, hj]
    refine ⟨_, cap, _, by rw [hl'], by omega, hm, fun h => (by cases h), ?_, ?_⟩
    · rintro a ⟨⟩ hc0
      have h0 := (hrows 0 (by omega)).1
      obtain ⟨b, o, s⟩ := x
      have := World.block_lt_of_cell? _ _ h0
      exact ⟨by simpa [Addr.add] using World.cell?_spot h0, by simpa [Addr.add] using this⟩
    · rintro b o ⟨⟩ j hj
      rw [hl'] at hj
      obtain ⟨h1, h2, h3, h4, h5, h6, h7⟩ := hrows j (by omega)
      have hl2 : ((Z j).take (L j)).length = L j := by simp; omega
      refine ⟨A j, C j, by rw [hr j hj, hl2, ← add_plain]; exact h1, ?_⟩
      rw [hr j hj]
      refine ⟨by omega, h3, h6, ?_, ?_, ?_⟩
      · intro a' ha' hc0
        have h0 := (h7 a' ha').2 0 hc0
        obtain ⟨b', o', s'⟩ := a'
        have := World.block_lt_of_cell? _ _ h0
        exact ⟨by simpa [Addr.add] using World.cell?_spot h0, by simpa [Addr.add] using this⟩
      · intro b' o' hp i hi
        have := (h7 _ hp).2 i (by omega)
        rw [hl2] at hi
        rw [add_plain] at this
        simpa [iget, List.getD, hi] using this
      · intro i hi
        rw [iget_of hi]
        exact in64_of_wf (h5 _ (List.mem_of_mem_take (List.getElem_mem hi)))
end Go.Proofs.Ytcgaojnfgkfnkaa

/- RotaAdds: for every input the law returns true, and each argument reads as it read before; no condition. -/
namespace Go.Proofs.Ytcgaojnfgkfnkaa.RotaAddsTop
open Go.ChangeShapes Go.WideShapes Go.ChangeAt Go.RowKit Go.Deep
set_option linter.unusedVariables false

set_option maxRecDepth 100000 in
theorem lifted (os : Os) (started : os.Started) (H : Type) (enc : TypeId × Value → H) :
    ReturnsInHanded {} Try.checked os 5 .any (Rows.rotaAddsSpec.pre6 enc Try.prog Try.f5 Rows.rotaAddsRow.domain false) (Rows.rotaAddsSpec.post enc Try.prog Try.f5 false true false false) := by
  refine returnsInHanded_of_change (C := Try.checked) own started (by kernel_rfl) Try.func5
    (ChangeSpec.witness6 (enc := enc) (C := Try.checked) false ⟨#[], #[.slice none 0 0, .slice none 0 0, .int .i64 0, .int .i64 0, .int .i64 0], []⟩ 8 (by kernel_rfl) (by kernel_rfl) (by kernel_rfl) (by kernel_rfl)) ?_
  intro W base args ds gs before hval0 hW hcnd _
  have hval : ∀ (j : Nat) t v, Try.f5.params[j]? = some t → args[j]? = some v → Value.okWide Try.prog W .any base t v := hval0
  have hW' := hW
  obtain ⟨p, q, hA0, hV, rfl, hfz, hnd⟩ := hW
  have hA : DataW.TrodAll enc Try.prog W 0 (fun _ => true) true Try.f5.params.toList args.toList ds p := hA0
  rw [Try.params5] at hA hval
  obtain ⟨v0, vs0, d0, ds0, p0, q0, hargs, rfl, rfl, h0, r0⟩ := trodAll_cons hA
  obtain ⟨v1, vs1, d1, ds1, p1, q1, rfl, rfl, rfl, h1, r1⟩ := trodAll_cons r0
  obtain ⟨v2, vs2, d2, ds2, p2, q2, rfl, rfl, rfl, h2, r2⟩ := trodAll_cons r1
  obtain ⟨v3, vs3, d3, ds3, p3, q3, rfl, rfl, rfl, h3, r3⟩ := trodAll_cons r2
  obtain ⟨v4, vs4, d4, ds4, p4, q4, rfl, rfl, rfl, h4, r4⟩ := trodAll_cons r3
  obtain ⟨rfl, rfl, rfl⟩ := trodAll_nil r4
  obtain rfl : args = #[v0, v1, v2, v3, v4] := by cases args; simp_all
  obtain ⟨rfl, rfl⟩ := trodVars_none hV
  have k0 := h0
  have lt0 : ∀ x ∈ p0, x.block < W.heap.size := by obtain ⟨m, hm⟩ := k0; exact DataW.trod_lt m _ _ _ hm
  obtain ⟨a0, c0, x0, rfl, w0⟩ := open_matV (hval 0 22 v0 rfl rfl) h0
  have k1 := h1
  have lt1 : ∀ x ∈ p1, x.block < W.heap.size := by obtain ⟨m, hm⟩ := k1; exact DataW.trod_lt m _ _ _ hm
  obtain ⟨a1, c1, x1, rfl, w1⟩ := open_matV (hval 1 22 v1 rfl rfl) h1
  have k2 := h2
  have lt2 : ∀ x ∈ p2, x.block < W.heap.size := by obtain ⟨m, hm⟩ := k2; exact DataW.trod_lt m _ _ _ hm
  obtain ⟨x2, rfl, w2⟩ := open_intV (hval 2 3 v2 rfl rfl) h2
  have k3 := h3
  have lt3 : ∀ x ∈ p3, x.block < W.heap.size := by obtain ⟨m, hm⟩ := k3; exact DataW.trod_lt m _ _ _ hm
  obtain ⟨x3, rfl, w3⟩ := open_intV (hval 3 3 v3 rfl rfl) h3
  have k4 := h4
  have lt4 : ∀ x ∈ p4, x.block < W.heap.size := by obtain ⟨m, hm⟩ := k4; exact DataW.trod_lt m _ _ _ hm
  obtain ⟨x4, rfl, w4⟩ := open_intV (hval 4 3 v4 rfl rfl) h4
  clear hA0 hval0
  refine (rotaAdds_walk a0 c0 x0 a1 c1 x1 x2 x3 x4 W w0 w1 w2 w3 w4).mono fun e W' ⟨he, bel⟩ => ?_
  subst he
  exact ⟨_, rfl, _, _, _, [], _, [], hW', trodAll_mk1 (shut_bool Try.underlying4 _), (trodAll_cons_mk (Below.trod laidOut (by kernel_rfl) (of_decide_eq_true (by kernel_rfl)) k0 bel lt0) (trodAll_cons_mk (Below.trod laidOut (by kernel_rfl) (of_decide_eq_true (by kernel_rfl)) k1 bel lt1) (trodAll_cons_mk (Below.trod laidOut (by kernel_rfl) (of_decide_eq_true (by kernel_rfl)) k2 bel lt2) (trodAll_cons_mk (Below.trod laidOut (by kernel_rfl) (of_decide_eq_true (by kernel_rfl)) k3 bel lt3) (trodAll_cons_mk (Below.trod laidOut (by kernel_rfl) (of_decide_eq_true (by kernel_rfl)) k4 bel lt4) trodAll_mk0))))), rfl, bel.frame _, fun h => by cases h⟩

theorem over : Rows.rotaAddsRow.holds Try.pinned (OpenSpec.ofChange Rows.rotaAddsSpec) :=
  OpenClaim.holds_of_wide 5 Try.f5 rfl rfl rfl rfl rfl rfl rfl ⟨rfl, rfl, rfl, rfl, rfl⟩ rfl rfl rfl rfl rfl (by kernel_rfl) Try.func5 (by kernel_rfl)
    (of_decide_eq_true (by kernel_rfl)) (by unfold Func.isWrapper; first | (rw [if_pos (by decide +kernel)]; kernel_rfl) | (rw [if_neg (by decide +kernel)]; exact ⟨rfl, rfl⟩))
    (fun os started H enc _ => lifted os started H enc)
end Go.Proofs.Ytcgaojnfgkfnkaa.RotaAddsTop
namespace Go.Proofs.Ytcgaojnfgkfnkaa
/-- The statement. -/
theorem rotaAdds_holds : Rows.RotaAddsSaid := RotaAddsTop.over
#print axioms rotaAdds_holds
end Go.Proofs.Ytcgaojnfgkfnkaa
