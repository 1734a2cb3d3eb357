/- The walk of rota.isWeek: whether a list is a week; no condition but the number's size. -/
import Derived.Test.YtcgaojnfgkfnkaaTopRotaAddsm1
import Derived.Test.YtcgaojnfgkfnkaaTopRotaCheapestm14
import Derived.Test.YtcgaojnfgkfnkaaTopRotaCheapestm7
import Derived.Test.YtcgaojnfgkfnkaaTopRotaCheapestm9
import Derived.Test.YtcgaojnfgkfnkaaTopRotaCheapestm13
/- The walk of rota.isWeek: whether a list is a week; no condition but the number's size. -/
namespace Go.Proofs.Ytcgaojnfgkfnkaa
set_option linter.unusedVariables false
set_option linter.unusedSimpArgs false
open Go.ChangeShapes Go.WideShapes Go.ChangeAt Go.RowKit Go.Deep

set_option maxHeartbeats 1600000 in
theorem isWeek_any (p : Option Addr) (c : Nat) (a : List Int) (n : Nat) (w : World) (hx : Ints w p c a) (hn : n ≤ 1000000) :
    Calls Try.prog 42 #[.slice p a.length c, .int .i64 (n : Int)] w fun e w' => e = .returned (.bool (isWk a n)) ∧ Below w.heap.size w w' := by
  have hl1 := hx.length_le
  by_cases hl : a.length ≠ n
  · have hb : ((a.length : Int) != (n : Int)) = true := by simp; omega
    have HE := Lib.hid (isWk_false (a := a) (n := n) fun h => hl h.2.2.1)
    clear hl
    go_enter Try.func42, Try.ntmps42
    go_wp2_with fail
    go_ret
    exact ⟨ret_bool HE.out.symm, Below.refl _ _⟩
  obtain rfl : a.length = n := Classical.not_not.1 hl
  clear hl
  have hb : ((a.length : Int) != (a.length : Int)) = false := by simp
  by_cases h1 : (a.length : Int) < 1
  · have hd1 : decide ((a.length : Int) < 1) = true := by simpa using h1
    have HE := Lib.hid (isWk_false (a := a) (n := a.length) fun h => by have := h.1; omega)
    clear h1
    go_enter Try.func42, Try.ntmps42
    go_wp2_with fail
    go_ret
    exact ⟨ret_bool HE.out.symm, Below.refl _ _⟩
  have hd1 : decide ((a.length : Int) < 1) = false := by simpa using h1
  by_cases h2 : (12 : Int) < a.length
  · have hd2 : decide ((12 : Int) < (a.length : Int)) = true := by simpa using h2
    have HE := Lib.hid (isWk_false (a := a) (n := a.length) fun h => by have := h.2.1; omega)
    clear h2
    go_enter Try.func42, Try.ntmps42
    go_wp2_with fail
    go_ret
    exact ⟨ret_bool HE.out.symm, Below.refl _ _⟩
  have hd2 : decide ((12 : Int) < (a.length : Int)) = false := by simpa using h2
  go_enter Try.func42, Try.ntmps42
  go_wp2_with fail
  refine (values_any p a.length c w).mono ?_
  rintro e w1 ⟨rfl, hw1⟩
  have hB1 : Below w.heap.size w w1 := by rw [hw1]; exact (Below.refl _ w).alloc (Nat.le_refl _) _
  have hs1 : w1.heap.size = w.heap.size + 1 := by rw [hw1]; simp
  have hc1 : w1.cell? ⟨w.heap.size, 0, none⟩ = some (.slice p a.length c) := by rw [hw1, World.cell?_alloc_at _ _ _ _ rfl]; rfl
  have hx1 := hx.below hB1 (Nat.le_refl _)
  clear hw1
  go_wp2_with fail
  refine (sorted_any w.heap.size p c a (by omega) w1 (by omega) hc1 hx1).mono ?_
  rintro e w2 ⟨q, d, rfl, ho, hb'⟩
  have hb2 := hB1.trans (hb'.mono (by omega))
  have hI := ho.ints
  have hll := hI.length_le
  have hsl := Lib.hid (srt_length a)
  have Hal : Hid (a.length ≤ 12 ∧ 1 ≤ a.length) := by unfold Hid; omega
  clear ho hb' hx1 hc1 hs1 hB1
  go_wp2_with fail
  go_loop [23] (fun i => ∃ k : Nat, k ≤ (srt a).length ∧ i = .int .i64 k ∧ Hid (∀ j, j < k → iget (srt a) j = j)) (fun i => (srt a).length - (intOf i).toNat)
  case atStart => exact ⟨0, by omega, rfl, fun j hj => by omega⟩
  case round =>
    obtain ⟨k, hk, rfl, ht⟩ := hrel
    by_cases hlt : k < (srt a).length
    · have hk1 : (k : Int) < (srt a).length := by omega
      obtain ⟨b, o, rfl, _, hc⟩ := hI.get hlt
      by_cases he : iget (srt a) k = k
      · have hb : ((k : Int) != iget (srt a) k) = false := by simp [he]
        have He := Lib.hid he
        clear he
        go_wp2_with fail
        go_round
        case rel => exact ⟨k + 1, by omega, by go_num, snoc_all' ht.out He.out⟩
        case measure => simp [intOf]; omega
      · have hb : ((k : Int) != iget (srt a) k) = true := by rw [bne_iff_ne]; exact fun e => he e.symm
        have HE := Lib.hid (isWk_false (a := a) (n := a.length) fun h => he (((asgP_iff a a.length).2 h.2.2).1 k hlt))
        clear he
        go_wp2_with fail
        go_ret
        exact ⟨ret_bool HE.out.symm, hb2⟩
    · have hk1 : ¬ (k : Int) < (srt a).length := by omega
      have HE := Lib.hid ((isWk_true (a := a) (n := a.length)).2 ⟨Hal.out.2, Hal.out.1, (asgP_iff a a.length).1 ⟨fun j hj => ht.out j (by omega), hsl.out⟩⟩)
      go_wp2_with fail
      go_ret
      exact ⟨ret_bool HE.out.symm, hb2⟩
end Go.Proofs.Ytcgaojnfgkfnkaa

/- The walk of rota.Add, for all counts and rotas. -/
namespace Go.Proofs.Ytcgaojnfgkfnkaa
set_option linter.unusedVariables false
set_option linter.unusedSimpArgs false
open Go.ChangeShapes Go.WideShapes Go.ChangeAt Go.RowKit Go.Deep

set_option maxHeartbeats 8000000 in
set_option maxRecDepth 100000 in
theorem add32_any (p q : Option Addr) (c d : Nat) (v r : List (List Int)) (w : World) (hx : Mat w p c v) (hy : Mat w q d r) :
    Calls Try.prog 25 #[.slice p v.length c, .slice q r.length d] w (GivesMt w (addR v r) (addE v r)) := by
  have CK := Lib.hid (check_any p c v w hx)
  by_cases hC : chk32 v ≠ 0
  · have HE := Lib.hid (addE_chk (r := r) hC)
    have HR := Lib.hid (addR_bad (v := v) (r := r) (by rw [HE.out]; exact hC))
    obtain ⟨E, eE⟩ : ∃ E, chk32 v = E := ⟨_, rfl⟩
    rw [eE] at CK HE hC
    have hb : (E != 0) = true := by rw [bne_iff_ne]; exact hC
    clear eE hC
    go_enter Try.func25, Try.ntmps25
    go_wp2_with fail
    refine CK.out.mono ?_
    rintro e w1 ⟨rfl, hb1⟩
    go_wp2_with fail
    go_ret2
    rw [HE.out, HR.out]
    exact ⟨none, 0, rfl, Mat.ofNil _, hb1⟩
  replace hC : chk32 v = 0 := Classical.not_not.1 hC
  rw [hC] at CK
  have HC := Lib.hid hC
  by_cases hm : 400 < r.length
  · have HE := Lib.hid (addE_many hC hm)
    have HR := Lib.hid (addR_bad (v := v) (r := r) (by rw [HE.out]; omega))
    have hd : decide (400 < (r.length : Int)) = true := by simp; omega
    clear hC hm
    go_enter Try.func25, Try.ntmps25
    go_wp2_with fail
    refine CK.out.mono ?_
    rintro e w1 ⟨rfl, hb1⟩
    go_wp2_with fail
    go_ret2
    rw [HE.out, HR.out]
    exact ⟨none, 0, rfl, Mat.ofNil _, hb1⟩
  have hd : decide (400 < (r.length : Int)) = false := by simp; omega
  have hM := CntM.of_chk hC
  have Hv := Lib.hid hM
  have h1 : 1 ≤ v.length := (chk32_zero hC).2.1
  have hl12 := hM.len
  have hl400 : r.length ≤ 400 := by omega
  have Hm := Lib.hid hm
  have Hy : Hid (∀ W, Below w.heap.size w W → Mat W q d r) := fun W h => hy.below h (Nat.le_refl _)
  clear hC hM hm hy
  go_enter Try.func25, Try.ntmps25
  go_wp2_with fail
  refine CK.out.mono ?_
  rintro e w1 ⟨rfl, hb1⟩
  have CC := Lib.hid (copied_any p c v w1 (hx.below hb1 (Nat.le_refl _)) (by omega) (fun j hj => by rw [Hv.out.row j hj]; omega))
  clear CK hx
  go_wp2_with fail
  refine CC.out.mono ?_
  rintro e w2 ⟨qo, do', Q0, D0, rfl, hD0, hb2⟩
  have hH0 : Held w2 w1.heap.size w2.heap.size qo do' (addA v r 0) := Held.of hD0
  have hB2 : Below w.heap.size w w2 := hb1.trans (hb2.mono hb1.size)
  have hs2 := hb2.size
  have Hs1 := Lib.hid hb1.size
  clear hD0 CC hb1 hb2
  go_wp2_with fail
  go_loopw [22] (fun kk wk => ∃ t : Nat, t ≤ r.length ∧ kk = .int .i64 t ∧ Hid (WksTo v r t) ∧ Held wk w1.heap.size w2.heap.size qo do' (addA v r t) ∧ Below w.heap.size w wk ∧ Hid (w2.heap.size ≤ wk.heap.size)) (fun kk _ => r.length - (intOf kk).toNat)
  case atStart => exact ⟨0, by omega, rfl, fun t h => absurd h (Nat.not_lt_zero t), hH0, hB2, Nat.le_refl _⟩
  case round =>
    clear hH0 hB2
    obtain ⟨t, ht, rfl, hW, hH, hB, hsz⟩ := hrel
    by_cases hlt : t < r.length
    · have ht1 : (t : Int) < r.length := by omega
      obtain ⟨b, o, e, _, q1, d1, hc, hI⟩ := (Hy.out _ hB).get hlt
      subst e
      have CI := isWeek_any q1 d1 (rget r t) v.length wr hI (by omega)
      have CIh := Lib.hid CI
      have hlq : Hid (∀ b o, q1 = some ⟨b, o, none⟩ → 0 < (rget r t).length → b < w.heap.size) := fun b1 o1 e1 hpos => by
        obtain ⟨b2, o2, e2, h2, q2, d2, hc2, hI2⟩ := (Hy.out w (Below.refl _ _)).get hlt
        cases e2
        have a1 := hB.cell (p := ⟨b, o + t, none⟩) h2
        rw [hc, hc2] at a1
        simp at a1
        obtain ⟨rfl, rfl⟩ := a1
        exact (hI2.plain _ e1 (by have := hI2.le; omega)).2
      go_wp2_with fail
      refine CIh.out.mono ?_
      rintro e w3 ⟨rfl, hb3⟩
      cases hq : isWk (rget r t) v.length with
      | false =>
        have HE := Lib.hid (addE_bad (v := v) (r := r) HC.out Hm.out (fun h => by rw [h t hlt] at hq; cases hq))
        have HR := Lib.hid (addR_bad (v := v) (r := r) (by rw [HE.out]; omega))
        have hB3 := hB.trans (hb3.mono hB.size)
        clear hq CIh CI
        go_wp2_with fail
        go_ret2
        rw [HE.out, HR.out]
        exact ⟨none, 0, rfl, Mat.ofNil _, hB3⟩
      | true =>
        obtain ⟨n1, n2, hA⟩ := isWk_true.1 hq
        have hW2 : Hid (WksTo v r (t + 1)) := snoc_all' hW.out hq
        have hB3 := hB.trans (hb3.mono hB.size)
        have hH3 := hH.below (hb3.mono hsz.out)
        have hI3 := hI.below hb3 (Nat.le_refl _)
        obtain ⟨bq, oq, eq1, _, _⟩ := hI.get (j := 0) (by rw [hA.1]; omega)
        have hbq := hlq.out bq oq eq1 (by rw [hA.1]; omega)
        have hcnt := addA_cnt Hv.out t hW.out
        have CA := add_any w1.heap.size w2.heap.size qo do' (addA v r t) (400 + t) (rget r t) q1 d1 w3 hH3 hcnt (by omega) (by rw [addA_len]; exact hA) (fun W hW => hI3.keep hW.1.size fun ad e _ => by
          rw [eq1] at e; cases e
          exact hW.1.block bq (by have := Hs1.out; omega))
        rw [addA_len] at CA
        have CAh := Lib.hid CA
        have hl := hA.1
        rw [hl] at hc
        have Hl := Lib.hid hl
        have hrl : Hid (∀ e w', Adds w1.heap.size w2.heap.size qo do' (addA v r t) (rget r t) w3 e w' → ∃ x, e = .returned x ∧ Held w' w1.heap.size w2.heap.size qo do' (addA v r (t + 1)) ∧ Out w1.heap.size w2.heap.size w3 w') := fun e w' h => by
          obtain ⟨⟨x, hx⟩, h2, h3⟩ := h
          exact ⟨x, hx, h2, h3⟩
        have hsz3 : w2.heap.size ≤ w3.heap.size := Nat.le_trans hsz.out hb3.size
        have hB3' := Lib.hid hB3
        rw [Hl.out]
        clear hq CIh CI hW hH hcnt hH3 CA hl hlq hI hI3 hA eq1 hb3 hsz
        go_wp2_with fail
        refine CAh.out.mono ?_
        intro e w4 h4
        obtain ⟨x, rfl, hH4, hO4⟩ := hrl.out e w4 h4
        have hB4 : Below w.heap.size w w4 := hB3'.out.trans (hO4.1.mono (Nat.le_trans Hs1.out (Nat.le_refl _)))
        have hsz4 : Hid (w2.heap.size ≤ w4.heap.size) := Nat.le_trans hsz3 hO4.1.size
        clear h4 hO4 CAh hrl
        go_wp2_with fail
        go_roundw
        case rel => exact ⟨t + 1, by omega, by go_num, hW2, hH4, hB4, hsz4⟩
        case measure => simp [intOf]; omega
    · have ht1 : ¬ (t : Int) < r.length := by omega
      obtain rfl : t = r.length := by omega
      have hcnt := addA_cnt Hv.out r.length hW.out
      have hAl : (addA v r r.length).length = v.length := addA_len _ _ _
      have hcl : (catN (addA v r r.length) (addA v r r.length).length).length ≤ 100000 := by
        rw [catN_len hcnt.row _ (Nat.le_refl _), hAl]
        have := Nat.mul_le_mul hl12 hl12; omega
      have CA := concat_any qo do' (addA v r r.length) wr hH.mat hcl
      have hcl0 : 0 < (catN (addA v r r.length) (addA v r r.length).length).length := by rw [catN_len hcnt.row _ (Nat.le_refl _), hAl]; exact Nat.mul_pos (by omega) (by omega)
      have hov := over_iff hcnt (by rw [hAl]; exact h1)
      rw [hAl] at CA hcl0 hov
      obtain ⟨K, eK⟩ : ∃ K, catN (addA v r r.length) v.length = K := ⟨_, rfl⟩
      rw [eK] at CA hcl0 hov
      have CAh := Lib.hid CA
      have Hov := Lib.hid hov
      have HAl := Lib.hid hAl
      have Hcl0 := Lib.hid hcl0
      clear hcnt hcl CA hov eK hAl hcl0
      go_wp2_with fail
      refine CAh.out.mono ?_
      rintro e w3 ⟨pk, ck, rfl, hOK, hb3⟩
      have hH3 := (hH.below (hb3.mono hsz.out)).mat
      have hB3 := hB.trans (hb3.mono hB.size)
      have CM := Lib.hid (sMax_any pk ck K w3 hOK.ints Hcl0.out)
      obtain ⟨y, ey⟩ : ∃ y, highTo K K.length = y := ⟨_, rfl⟩
      rw [ey] at CM Hov
      clear ey hOK hb3 hH hB hsz CAh
      go_wp2_with fail
      refine CM.out.mono ?_
      rintro e w4 ⟨rfl, hw4⟩
      subst w4
      by_cases hy : 400 < y
      · have HE := Lib.hid (addE_over HC.out Hm.out hW.out (Hov.out.2 hy))
        have HR := Lib.hid (addR_bad (v := v) (r := r) (by rw [HE.out]; omega))
        have hd2 : decide (400 < y) = true := by simpa using hy
        clear hy hW
        go_wp2_with fail
        go_ret2
        rw [HE.out, HR.out]
        exact ⟨none, 0, rfl, Mat.ofNil _, hB3⟩
      · have HE := Lib.hid (addE_ok HC.out Hm.out hW.out (fun h => hy (Hov.out.1 h)))
        have HR := Lib.hid (addR_ok HE.out)
        have hd2 : decide (400 < y) = false := by simpa using hy
        clear hy hW
        go_wp2_with fail
        go_ret2
        rw [HE.out, HR.out]
        refine ⟨qo, do', ?_, hH3, hB3⟩
        rw [HAl.out]; rfl
end Go.Proofs.Ytcgaojnfgkfnkaa

/- The walk of the reference's Follow. -/
namespace Go.Proofs.Ytcgaojnfgkfnkaa
set_option linter.unusedVariables false
set_option linter.unusedSimpArgs false
open Go.ChangeShapes Go.WideShapes Go.ChangeAt Go.RowKit Go.Deep

theorem ownsRow_lower {w : World} {base base' e n : Nat} {v : Value} {xs : List Value} (h : w.ownsRow base e 1 v n xs) (hb : base' ≤ base) : w.ownsRow base' e 1 v n xs := by
  refine ⟨h.1, ?_⟩
  rcases h.2 with h1 | ⟨g, cap, cur, h1, h2, r⟩
  · exact .inl h1
  · exact .inr ⟨g, cap, cur, h1, Nat.le_trans hb h2, r⟩
theorem DMat.lower32 {w : World} {base base' : Nat} {p : Option Addr} {c : Nat} {v : List (List Int)} {Q : Nat → Option Addr} {D : Nat → Nat} (h : DMat w base p c v Q D) (hb : base' ≤ base) : DMat w base' p c v Q D :=
  ⟨ownsRow_lower h.top hb, fun j hj => (h.rows j hj).lower hb, h.apart⟩
set_option maxHeartbeats 8000000 in
set_option maxRecDepth 100000 in
theorem refFollow_any (p : Option Addr) (c : Nat) (v : List (List Int)) (n : Int) (w : World) (hx : Mat w p c v) (h7 : chk32 v = 0 → v.length ≤ 7) (hn : n ≤ 100 ∨ 400 < n) :
    Calls Try.prog 19 #[.slice p v.length c, .int .i64 n] w (GivesR w (folR v n) (folE v n)) := by
  have CK := Lib.hid (refChk_any p c v w hx)
  by_cases hC : chk32 v ≠ 0
  · have HE := Lib.hid (folE_chk (n := n) hC)
    have HR := Lib.hid (folR_bad (v := v) (n := n) (by rw [HE.out]; exact hC))
    obtain ⟨E, eE⟩ : ∃ E, chk32 v = E := ⟨_, rfl⟩
    rw [eE] at CK HE hC
    have hb : (E != 0) = true := by rw [bne_iff_ne]; exact hC
    clear eE hC
    go_enter Try.func19, Try.ntmps19
    go_wp2_with fail
    refine CK.out.mono ?_
    rintro e w' ⟨rfl, hw⟩
    subst w'
    go_wp2_with fail
    refine CK.out.mono ?_
    rintro e w' ⟨rfl, hw⟩
    subst w'
    go_wp2_with fail
    go_ret2
    rw [HE.out, HR.out]
    exact ⟨none, 0, fun _ => none, fun _ => 0, rfl, DMat.ofNil _ _, Below.refl _ _⟩
  replace hC : chk32 v = 0 := Classical.not_not.1 hC
  have HC := Lib.hid hC
  rw [hC] at CK
  by_cases hA : n < 0 ∨ 400 < n
  · have HE := Lib.hid (folE_arg hC hA)
    have HR := Lib.hid (folR_bad (v := v) (n := n) (by rw [HE.out]; omega))
    clear hC
    by_cases h0 : n < 0
    · have hd : decide (n < 0) = true := by simpa using h0
      go_enter Try.func19, Try.ntmps19
      go_wp2_with fail
      refine CK.out.mono ?_
      rintro e w' ⟨rfl, hw⟩
      subst w'
      go_wp2_with fail
      go_ret2
      rw [HE.out, HR.out]
      exact ⟨none, 0, fun _ => none, fun _ => 0, rfl, DMat.ofNil _ _, Below.refl _ _⟩
    · have hd : decide (n < 0) = false := by simpa using h0
      have hd2 : decide (400 < n) = true := by simp; omega
      go_enter Try.func19, Try.ntmps19
      go_wp2_with fail
      refine CK.out.mono ?_
      rintro e w' ⟨rfl, hw⟩
      subst w'
      go_wp2_with fail
      go_ret2
      rw [HE.out, HR.out]
      exact ⟨none, 0, fun _ => none, fun _ => 0, rfl, DMat.ofNil _ _, Below.refl _ _⟩
  obtain ⟨m, rfl⟩ : ∃ m : Nat, n = m := ⟨n.toNat, by omega⟩
  have HE := Lib.hid (folE_ok hC hA)
  have HR := Lib.hid (folR_ok HE.out)
  have hd : decide ((m : Int) < 0) = false := by simp
  have hd2 : decide (400 < (m : Int)) = false := by simp; omega
  have hm : m ≤ 100 := by omega
  have hM := CntM.of_chk hC
  have h7 := h7 hC
  have hl1 : 1 ≤ v.length := (chk32_zero hC).2.1
  have HM : Hid (∀ (W : World) (q : Option Addr) (d t : Nat), t ≤ 500 → CntM (400 + (t : Int)) (cntN v t) → Mat W q d (cntN v t) → Calls Try.prog 35 #[.slice q v.length d] W fun e w' => IsWeek (cntN v t) (weekA (cntN v t)) ∧ Gives W (weekA (cntN v t)) e w') := fun W q d t ht hc hm => by
    have := week_any q d (cntN v t) W hm (hc.counts (by omega)) (by rw [cntN_len]; exact h7)
    rwa [cntN_len] at this
  have CT := Lib.hid (twin32_any p c v w hx (by omega) (fun j hj => by rw [hM.row j hj]; omega))
  have HM0 := Lib.hid hM
  clear hC hA hM hx
  go_enter Try.func19, Try.ntmps19
  go_wp2_with fail
  refine CK.out.mono ?_
  rintro e w' ⟨rfl, hw⟩
  subst w'
  go_wp2_with fail
  refine CT.out.mono ?_
  rintro e w2 ⟨q, d, Q0, D0, rfl, hD0, hb2⟩
  have hH0 : Held w2 w.heap.size w2.heap.size q d (cntN v 0) := Held.of hD0
  have hs2 := hb2.size
  clear hD0 CT CK
  go_wp2_with fail
  go_loopw [7, 8] (fun oo kk wk => ∃ t : Nat, t ≤ m ∧ kk = .int .i64 t ∧ (∃ u p' c' Q D, Hid (u = folL v t) ∧ oo = .slice p' (u : List (List Int)).length c' ∧ DMat wk w2.heap.size p' c' u Q D) ∧ Hid (CntM (400 + (t : Int)) (cntN v t)) ∧ Held wk w.heap.size w2.heap.size q d (cntN v t) ∧ Below w.heap.size w wk ∧ Hid (w2.heap.size ≤ wk.heap.size)) (fun _ kk _ => m - (intOf kk).toNat)
  case atStart => exact ⟨0, by omega, rfl, ⟨[], none, 0, fun _ => none, fun _ => 0, rfl, rfl, DMat.ofNil _ _⟩, (by simpa [cntN, Hid] using HM0.out), hH0, hb2, Nat.le_refl _⟩
  case round =>
    clear hH0 hb2
    obtain ⟨t, ht, rfl, ⟨u, p', c', Q, D, hu, rfl, hD⟩, hCM, hH, hb, hsz⟩ := hrel
    by_cases hlt : t < m
    · have ht1 : (t : Int) < m := by omega
      have CW := HM.out wr q d t (by omega) hCM.out hH.mat
      have Hsucc : Hid (folL v (t + 1) = folL v t ++ [weekA (cntN v t)] ∧ cntN v (t + 1) = addW (cntN v t) (weekA (cntN v t))) := ⟨folL_succ v t, rfl⟩
      obtain ⟨V, eV⟩ : ∃ V, cntN v t = V := ⟨_, rfl⟩
      have hVl : V.length = v.length := by rw [← eV, cntN_len]
      rw [eV] at CW hCM hH Hsucc
      obtain ⟨A, eA⟩ : ∃ A, weekA V = A := ⟨_, rfl⟩
      rw [eA] at CW Hsucc
      have HVl := Lib.hid hVl
      have CWh := Lib.hid CW
      have hul : u.length ≤ 900000 := by rw [hu.out, folL_len]; omega
      clear CW eV eA hVl
      go_wp2_with fail
      refine CWh.out.mono ?_
      rintro e w3 ⟨hIs, p3, c3, rfl, hO3, hb3⟩
      have hA := hIs.1
      have hAl := hA.1
      obtain ⟨g3, rfl, hg3, _, _, _⟩ := hO3.get (j := 0) (by rw [hAl, HVl.out]; omega)
      have hD3 := hD.below hb3 (Nat.le_refl _)
      have hsz3 : w2.heap.size ≤ w3.heap.size := Nat.le_trans hsz.out hb3.size
      have hO3' : Own w3 w2.heap.size (some ⟨g3, 0, none⟩) c3 A := hO3.lower hsz.out
      have hnew : ∀ j, j < u.length → ∀ k, blk (Q j) = some k → blk (some ⟨g3, 0, none⟩) ≠ some k := fun j hj k hk e => by
        have h1 := (hD.lt j hj k hk).2
        have h2 := (hO3.lt k e).1
        omega
      have hb3w : Below w.heap.size w w3 := hb.trans (hb3.mono hb.size)
      have hH3 := hH.below (hb3.mono hsz.out)
      have hg32 : w2.heap.size ≤ g3 := Nat.le_trans hsz.out hg3
      have HA := Lib.hid hA
      have HAl := Lib.hid hAl
      clear hA hAl hIs hD hO3 hb hH CWh hb3 hsz
      go_wp2_with (at_builtin; refine wpList_appOwnRow rfl (.tmp 31) (.tmp 33) rfl w2.heap.size _ _ u Q D _ c3 A rfl rfl rfl hD3 hO3' hnew hul hsz3 ?_; intro p4 c4 w4 u4 hu4 hD4 hg4 hf4)
      have hb34 : Below w2.heap.size w3 w4 := (Below.refl _ _).grown hg4 hsz3 (fun k e => (hD3.tmat.lt k e).1)
      have hb4 : Below w.heap.size w w4 := hb3w.trans (hb34.mono hs2)
      have hH4 := hH3.below hb34
      have hI4 : Ints w4 (some ⟨g3, 0, none⟩) c3 A := by
        have h := hD4.rows u.length (by rw [hu4.out]; simp)
        simp only [Nat.lt_irrefl, if_false] at h
        rw [hu4.out, rget_append, if_neg (Nat.lt_irrefl _), if_pos rfl] at h
        exact h.ints
      have hsz4 : w2.heap.size ≤ w4.heap.size := Nat.le_trans hsz3 hg4.size
      have HI4 : Hid (∀ W, Out w.heap.size w2.heap.size w4 W → Ints W (some ⟨g3, 0, none⟩) c3 A) := fun W h => h.ints hg32 hI4
      obtain ⟨Q4, hQ4⟩ : ∃ Q4, (fun j => if j < u.length then Q j else some (⟨g3, 0, none⟩ : Addr)) = Q4 := ⟨_, rfl⟩
      obtain ⟨D4, hD4e⟩ : ∃ D4, (fun j => if j < u.length then D j else c3) = D4 := ⟨_, rfl⟩
      rw [hQ4, hD4e] at hD4
      have hu5 : Hid (u4 = folL v (t + 1)) := by unfold Hid; rw [hu4.out, hu.out, Hsucc.out.1]
      clear hQ4 hD4e hI4 hD3 hO3' hnew hb3w hH3 hb34 hg4 hf4 hu4 hu hsz3 hul
      go_wp2_with fail
      go_loopw [10] (fun kk wk => ∃ i : Nat, i ≤ A.length ∧ kk = .int .i64 i ∧ Held wk w.heap.size w2.heap.size q d (addN V A i) ∧ Out w.heap.size w2.heap.size w4 wk) (fun kk _ => A.length - (intOf kk).toNat)
      case atStart => exact ⟨0, by omega, rfl, hH4, Out.refl _ _ _⟩
      case round =>
        clear hH4
        obtain ⟨i, hi, rfl, hH, hO⟩ := hrel
        by_cases hlt : i < A.length
        · have hi1 : (i : Int) < A.length := by omega
          have hiV : i < V.length := by rw [← HAl.out]; exact hlt
          obtain ⟨x, ex⟩ : ∃ x, itm A i = x := ⟨_, rfl⟩
          obtain ⟨h0, hx⟩ := isA_lt HA.out i hiV
          rw [ex] at hx
          have hat : iget A i = (x : Int) := by unfold itm at ex; omega
          have hrl := hCM.out.row i hiV
          have hcb := hCM.out.cb i x hiV hx
          have hcw := (HI4.out _ hO).at hlt
          obtain ⟨gt, g, dd, rfl, c1, c2, c3', h5, h6, h7⟩ := hH.add hiV (by rw [ex, hrl]; exact hx)
          rw [ex] at c2 c3' h7
          rw [hrl, HVl.out] at c1
          rw [hat, Nat.zero_add] at hcw
          obtain ⟨y, ey⟩ : ∃ y, iget (rget V i) x = y := ⟨_, rfl⟩
          rw [ey] at c2 h7 hcb
          have hw1 : IntKind.i64.wrap (y + 1) = y + 1 := IntWalk.i64_in _ (by omega)
          have hx1 : (x : Int) < v.length := by rw [HVl.out] at hx; omega
          have hi2 : (i : Int) < v.length := by rw [HVl.out] at hiV; omega
          have hH2 := Lib.hid (h7 ⟨by omega, by omega⟩)
          have hO2 := Lib.hid (hO.set (t := x) h5 h6 (.int .i64 (y + 1)))
          clear h7 ex hat hrl hcb ey h0 hO hH hx hiV
          go_wp2_with fail
          go_region
          go_wp2_with fail
          have hH3 : Held (wr.setCell ⟨g, x, none⟩ (.int .i64 (y + 1))).drew w.heap.size w2.heap.size (some ⟨gt, 0, none⟩) d (addN V A (i + 1)) := hH2.out.below (below_drewN _ _ 1)
          have hO3 : Out w.heap.size w2.heap.size w4 (wr.setCell ⟨g, x, none⟩ (.int .i64 (y + 1))).drew := hO2.out.drewN 1
          go_roundw
          case rel => exact ⟨i + 1, by omega, by go_num, hH3, hO3⟩
          case measure => simp [intOf]; omega
        · have hi1 : ¬ (i : Int) < A.length := by omega
          obtain rfl : i = A.length := by omega
          have hH5 : Held wr w.heap.size w2.heap.size q d (cntN v (t + 1)) := by
            rw [Hsucc.out.2]; unfold addW; rw [← HAl.out]; exact hH
          have hD5 := hO.dmat hD4
          have hb5 := hb4.trans hO.1
          have hsz5 : Hid (w2.heap.size ≤ wr.heap.size) := Nat.le_trans hsz4 hO.1.size
          have hCM5 : Hid (CntM (400 + ((t + 1 : Nat) : Int)) (cntN v (t + 1))) := by
            unfold Hid; rw [Hsucc.out.2]
            exact (hCM.out.addW HA.out).mono (by omega)
          clear hH hD4 hO hCM
          go_wp2_with fail
          go_roundw
          case rel => exact ⟨t + 1, by omega, by go_num, ⟨_, _, _, _, _, hu5, rfl, hD5⟩, hCM5, hH5, hb5, hsz5⟩
          case measure => simp [intOf]; omega
    · have ht1 : ¬ (t : Int) < m := by omega
      obtain rfl : t = m := by omega
      obtain rfl := hu.out
      go_wp2_with fail
      go_ret2
      rw [HE.out, HR.out]
      exact ⟨_, _, _, _, rfl, hD.lower32 hs2, hb⟩
end Go.Proofs.Ytcgaojnfgkfnkaa

/- The walk of the reference's Add, for all counts and rotas whose rows are of moderate length. -/
namespace Go.Proofs.Ytcgaojnfgkfnkaa
set_option linter.unusedVariables false
set_option linter.unusedSimpArgs false
open Go.ChangeShapes Go.WideShapes Go.ChangeAt Go.RowKit Go.Deep

set_option maxHeartbeats 8000000 in
set_option maxRecDepth 100000 in
theorem refAdd_any (p q : Option Addr) (c d : Nat) (v r : List (List Int)) (w : World) (hx : Mat w p c v) (hy : Mat w q d r) :
    Calls Try.prog 26 #[.slice p v.length c, .slice q r.length d] w (GivesMt w (addR v r) (addE v r)) := by
  have CK := Lib.hid (refChk_any p c v w hx)
  by_cases hC : chk32 v ≠ 0
  · have HE := Lib.hid (addE_chk (r := r) hC)
    have HR := Lib.hid (addR_bad (v := v) (r := r) (by rw [HE.out]; exact hC))
    obtain ⟨E, eE⟩ : ∃ E, chk32 v = E := ⟨_, rfl⟩
    rw [eE] at CK HE hC
    have hb : (E != 0) = true := by rw [bne_iff_ne]; exact hC
    clear eE hC
    go_enter Try.func26, Try.ntmps26
    go_wp2_with fail
    refine CK.out.mono ?_
    rintro e w1 ⟨rfl, hw⟩
    subst w1
    go_wp2_with fail
    refine CK.out.mono ?_
    rintro e w1 ⟨rfl, hw⟩
    subst w1
    go_wp2_with fail
    go_ret2
    rw [HE.out, HR.out]
    exact ⟨none, 0, rfl, Mat.ofNil _, Below.refl _ _⟩
  replace hC : chk32 v = 0 := Classical.not_not.1 hC
  rw [hC] at CK
  have HC := Lib.hid hC
  by_cases hm : 400 < r.length
  · have HE := Lib.hid (addE_many hC hm)
    have HR := Lib.hid (addR_bad (v := v) (r := r) (by rw [HE.out]; omega))
    have hd : decide (400 < (r.length : Int)) = true := by simp; omega
    clear hC hm
    go_enter Try.func26, Try.ntmps26
    go_wp2_with fail
    refine CK.out.mono ?_
    rintro e w1 ⟨rfl, hw⟩
    subst w1
    go_wp2_with fail
    go_ret2
    rw [HE.out, HR.out]
    exact ⟨none, 0, rfl, Mat.ofNil _, Below.refl _ _⟩
  have hd : decide (400 < (r.length : Int)) = false := by simp; omega
  have hM := CntM.of_chk hC
  have Hv := Lib.hid hM
  have h1 : 1 ≤ v.length := (chk32_zero hC).2.1
  have hl12 := hM.len
  have hl400 : r.length ≤ 400 := by omega
  have Hm := Lib.hid hm
  have Hy : Hid (∀ W, Below w.heap.size w W → Mat W q d r) := fun W h => hy.below h (Nat.le_refl _)
  have CT := Lib.hid (twin32_any p c v w hx (by omega) (fun j hj => by rw [hM.row j hj]; omega))
  clear hC hM hm
  go_enter Try.func26, Try.ntmps26
  go_wp2_with fail
  refine CK.out.mono ?_
  rintro e w1 ⟨rfl, hw⟩
  subst w1
  go_wp2_with fail
  go_loopw [6] (fun kk wk => ∃ t : Nat, t ≤ r.length ∧ kk = .int .i64 t ∧ Hid (WksTo v r t) ∧ Hid (wk = w)) (fun kk _ => r.length - (intOf kk).toNat)
  case atStart => exact ⟨0, by omega, rfl, fun t h => absurd h (Nat.not_lt_zero t), rfl⟩
  case round =>
    obtain ⟨t, ht, rfl, hW, hwk⟩ := hrel
    replace hwk := hwk.out
    subst wr
    by_cases hlt : t < r.length
    · have ht1 : (t : Int) < r.length := by omega
      obtain ⟨b, o, e, _, q1, d1, hc, hI⟩ := hy.get hlt
      cases e
      have CI := Lib.hid (is32_any q1 d1 (rget r t) v.length w hI (by omega))
      go_wp2_with fail
      refine CI.out.mono ?_
      rintro e w3 ⟨rfl, hw⟩
      subst w3
      cases hq : isWk (rget r t) v.length with
      | false =>
        have HE := Lib.hid (addE_bad (v := v) (r := r) HC.out Hm.out (fun h => by rw [h t hlt] at hq; cases hq))
        have HR := Lib.hid (addR_bad (v := v) (r := r) (by rw [HE.out]; omega))
        clear hq CI
        go_wp2_with fail
        go_ret2
        rw [HE.out, HR.out]
        exact ⟨none, 0, rfl, Mat.ofNil _, Below.refl _ _⟩
      | true =>
        have hW2 : Hid (WksTo v r (t + 1)) := snoc_all' hW.out hq
        clear hq CI hW
        go_wp2_with fail
        go_roundw
        case rel => first | exact ⟨t + 1, by omega, by go_num, hW2, trivial⟩ | exact ⟨t + 1, by omega, by go_num, hW2, rfl⟩ | exact ⟨t + 1, by omega, by go_num, hW2⟩
        case measure => simp [intOf]; omega
    · have ht1 : ¬ (t : Int) < r.length := by omega
      obtain rfl : t = r.length := by omega
      have HWa := Lib.hid hW.out
      clear hW
      go_wp2_with fail
      refine CT.out.mono ?_
      rintro e w2 ⟨qo, do', Q0, D0, rfl, hD0, hb2⟩
      have hH0 : Held w2 w.heap.size w2.heap.size qo do' (addA v r 0) := Held.of hD0
      have hs2 := hb2.size
      clear hD0 CT CK hx
      go_wp2_with fail
      go_loopw [8] (fun kk wk => ∃ t : Nat, t ≤ r.length ∧ kk = .int .i64 t ∧ Held wk w.heap.size w2.heap.size qo do' (addA v r t) ∧ Below w.heap.size w wk) (fun kk _ => r.length - (intOf kk).toNat)
      case atStart => exact ⟨0, by omega, rfl, hH0, hb2⟩
      case round =>
        clear hH0 hb2
        obtain ⟨t, ht, rfl, hH, hB⟩ := hrel
        by_cases hlt : t < r.length
        · have ht1' : (t : Int) < r.length := by omega
          obtain ⟨n1, n2, hA⟩ := isWk_true.1 (HWa.out t hlt)
          have hcnt := addA_cnt Hv.out t (fun s hs => HWa.out s (by omega))
          have HA := Lib.hid hA
          have hVl := Lib.hid (addA_len v r t)
          have HS : Hid (addA v r (t + 1) = addW (addA v r t) (rget r t)) := rfl
          obtain ⟨V, eV⟩ : ∃ V, addA v r t = V := ⟨_, rfl⟩
          rw [eV] at hH hcnt hVl HS
          have Hcnt := Lib.hid hcnt
          clear hA hcnt eV n1 n2
          go_wp2_with fail
          go_loopw [9] (fun kk wk => ∃ i : Nat, i ≤ v.length ∧ kk = .int .i64 i ∧ Held wk w.heap.size w2.heap.size qo do' (addN V (rget r t) i) ∧ Below w.heap.size w wk) (fun kk _ => v.length - (intOf kk).toNat)
          case atStart => exact ⟨0, by omega, rfl, hH, hB⟩
          case round =>
            clear hH hB
            obtain ⟨i, hi, rfl, hH, hB⟩ := hrel
            by_cases hli : i < v.length
            · have hi1 : (i : Int) < v.length := by omega
              have hiV : i < V.length := by rw [hVl.out]; exact hli
              obtain ⟨x, ex⟩ : ∃ x, itm (rget r t) i = x := ⟨_, rfl⟩
              obtain ⟨h0, hx⟩ := isA_lt HA.out i hli
              rw [ex] at hx
              have hat : iget (rget r t) i = (x : Int) := by unfold itm at ex; omega
              have hrl := Hcnt.out.row i hiV
              have hcb := Hcnt.out.cb i x hiV (by rw [hVl.out]; exact hx)
              obtain ⟨b, o, e, _, q1, d1, hc, hI⟩ := (Hy.out _ hB).get hlt
              cases e
              obtain ⟨b1, o1, rfl, _, cw⟩ := hI.get (j := i) (by rw [HA.out.1]; exact hli)
              obtain ⟨gt, g, dd, rfl, c1, c2, c3', h5, h6, h7⟩ := hH.add hiV (by rw [ex, hrl, hVl.out]; exact hx)
              rw [ex] at c2 c3' h7
              rw [hrl, hVl.out] at c1
              rw [hat] at cw
              rw [HA.out.1] at hc
              obtain ⟨y, ey⟩ : ∃ y, iget (rget V i) x = y := ⟨_, rfl⟩
              rw [ey] at c2 h7 hcb
              have hw1 : IntKind.i64.wrap (y + 1) = y + 1 := IntWalk.i64_in _ (by omega)
              have hx1 : (x : Int) < v.length := by omega
              have hH2 := Lib.hid (h7 ⟨by omega, by omega⟩)
              have hB2 := Lib.hid (hB.setCell (p := ⟨g, x, none⟩) h5 (.int .i64 (y + 1)))
              clear h7 ex hat hrl hcb ey h0 hB hH hx hiV hI
              go_wp2_with fail
              go_region
              go_wp2_with fail
              have hH3 : Held (wr.setCell ⟨g, x, none⟩ (.int .i64 (y + 1))).drew w.heap.size w2.heap.size (some ⟨gt, 0, none⟩) do' (addN V (rget r t) (i + 1)) := hH2.out.below (below_drewN _ _ 1)
              have hB3 : Below w.heap.size w (wr.setCell ⟨g, x, none⟩ (.int .i64 (y + 1))).drew := hB2.out.drewN' 1
              go_roundw
              case rel => exact ⟨i + 1, by omega, by go_num, hH3, hB3⟩
              case measure => simp [intOf]; omega
            · have hi1 : ¬ (i : Int) < v.length := by omega
              obtain rfl : i = v.length := by omega
              have hH5 : Held wr w.heap.size w2.heap.size qo do' (addA v r (t + 1)) := by
                rw [HS.out]; unfold addW; rw [hVl.out]; exact hH
              clear hH
              go_wp2_with fail
              go_roundw
              case rel => exact ⟨t + 1, by omega, by go_num, hH5, hB⟩
              case measure => simp [intOf]; omega
        · have ht2 : ¬ (t : Int) < r.length := by omega
          obtain rfl : t = r.length := by omega
          have hcnt := addA_cnt Hv.out r.length HWa.out
          have hAl := Lib.hid (addA_len v r r.length)
          have HE8 : Hid (OverP (addA v r r.length) → addE v r = 2) := fun h => addE_over HC.out Hm.out HWa.out h
          have HE0 : Hid (¬ OverP (addA v r r.length) → addE v r = 0) := fun h => addE_ok HC.out Hm.out HWa.out h
          obtain ⟨V, eV⟩ : ∃ V, addA v r r.length = V := ⟨_, rfl⟩
          have HeV := Lib.hid eV
          rw [eV] at hH hcnt hAl HE8 HE0
          have hmat := hH.mat
          have Hcnt := Lib.hid hcnt
          clear hcnt eV
          go_wp2_with fail
          go_loop [10] (fun kk => ∃ i : Nat, i ≤ v.length ∧ kk = .int .i64 i ∧ Hid (∀ a b, a < i → b < v.length → ¬ 400 < iget (rget V a) b)) (fun kk => v.length - (intOf kk).toNat)
          case atStart => exact ⟨0, by omega, rfl, fun a b h => absurd h (Nat.not_lt_zero a)⟩
          case round =>
            obtain ⟨i, hi, rfl, hN⟩ := hrel
            by_cases hli : i < v.length
            · have hi1 : (i : Int) < v.length := by omega
              go_wp2_with fail
              go_loop [11] (fun kk => ∃ k : Nat, k ≤ v.length ∧ kk = .int .i64 k ∧ Hid (∀ b, b < k → ¬ 400 < iget (rget V i) b)) (fun kk => v.length - (intOf kk).toNat)
              case atStart => exact ⟨0, by omega, rfl, fun b h => absurd h (Nat.not_lt_zero b)⟩
              case round =>
                obtain ⟨k, hk, rfl, hK⟩ := hrel
                by_cases hkl : k < v.length
                · have hk1 : (k : Int) < v.length := by omega
                  obtain ⟨b, o, rfl, _, q1, d1, hc, hI⟩ := hmat.get (j := i) (by rw [hAl.out]; exact hli)
                  have hrl := Hcnt.out.row i (by rw [hAl.out]; exact hli)
                  rw [hAl.out] at hrl
                  obtain ⟨b1, o1, rfl, _, ck⟩ := hI.get (j := k) (by rw [hrl]; exact hkl)
                  rw [hrl] at hc
                  obtain ⟨y, ey⟩ : ∃ y, iget (rget V i) k = y := ⟨_, rfl⟩
                  have Hy2 := Lib.hid ey
                  rw [ey] at ck
                  clear hI hrl ey
                  by_cases hy4 : 400 < y
                  · have HE := Lib.hid (HE8.out ⟨i, k, by rw [hAl.out]; exact hli, by rw [hAl.out]; exact hkl, by rw [Hy2.out]; exact hy4⟩)
                    have HR := Lib.hid (addR_bad (v := v) (r := r) (by rw [HE.out]; omega))
                    have hd2 : decide (400 < y) = true := by simpa using hy4
                    clear hy4
                    go_wp2_with fail
                    go_ret2
                    rw [HE.out, HR.out]
                    exact ⟨none, 0, rfl, Mat.ofNil _, hB⟩
                  · have hd2 : decide (400 < y) = false := by simpa using hy4
                    have hK2 : Hid (∀ b, b < k + 1 → ¬ 400 < iget (rget V i) b) := snoc_all' hK.out (by rw [Hy2.out]; exact hy4)
                    clear hy4
                    go_wp2_with fail
                    go_round
                    case rel => exact ⟨k + 1, by omega, by go_num, hK2⟩
                    case measure => simp [intOf]; omega
                · have hk1 : ¬ (k : Int) < v.length := by omega
                  have hN2 : Hid (∀ a b, a < i + 1 → b < v.length → ¬ 400 < iget (rget V a) b) := fun a b ha hb => by
                    by_cases e : a = i
                    · subst e
                      have := hK.out b (by omega)
                      omega
                    · have := hN.out a b (by omega) hb
                      omega
                  go_wp2_with fail
                  go_round
                  case rel => exact ⟨i + 1, by omega, by go_num, hN2⟩
                  case measure => simp [intOf]; omega
            · have hi1 : ¬ (i : Int) < v.length := by omega
              have HE := Lib.hid (HE0.out (fun ⟨a, b, ha, hb, h⟩ => by have := hN.out a b (by rw [hAl.out] at ha; omega) (by rw [hAl.out] at hb; exact hb); omega))
              have HR := Lib.hid (addR_ok HE.out)
              go_wp2_with fail
              go_ret2
              rw [HE.out, HR.out, HeV.out]
              refine ⟨qo, do', ?_, hmat, hB⟩
              rw [hAl.out]; rfl
end Go.Proofs.Ytcgaojnfgkfnkaa
