/- RotaMakes: for every input the law returns true, and each argument reads as it read before; no condition. -/
import Derived.Test.YtcgaojnfgkfnkaaTopRotaFairm5
import Derived.Test.YtcgaojnfgkfnkaaTopRotaCheapestm14
import Derived.Test.YtcgaojnfgkfnkaaTopRotaAddsm2
import Derived.Test.YtcgaojnfgkfnkaaTopRotaCheapestm15
import Derived.Test.YtcgaojnfgkfnkaaTopRotaAddsm3
import Derived.ChangeOld
namespace Go.Proofs.Ytcgaojnfgkfnkaa
set_option linter.unusedVariables false
set_option linter.unusedSimpArgs false
open Go.ChangeShapes Go.WideShapes Go.ChangeAt Go.RowKit Go.Deep

set_option maxHeartbeats 16000000 in
set_option maxRecDepth 100000 in
theorem rotaMakes_walk (p : Option Addr) (c : Nat) (v : List (List Int)) (ws n t : Int) (w : World) (hx : Mat w p c v) (_ : in64 ws) (_ : in64 n) (_ : in64 t) :
    Calls Try.prog 4 #[.slice p v.length c, .int .i64 ws, .int .i64 n, .int .i64 t] w fun e w' => e = .returned (.bool true) ∧ Below w.heap.size w w' := by
  go_enter Try.func4, Try.ntmps4
  go_wp2_with fail
  refine (great32_any p none c 0 v [] w hx (Mat.ofNil _)).mono ?_
  rintro e w' ⟨rfl, hw⟩
  subst w'
  cases hG : great32 v [] with
  | true =>
    clear hG
    go_wp2_with fail
    go_ret
    exact ⟨rfl, Below.refl _ _⟩
  | false =>
  by_cases hbig : 30 < ws ∧ ws ≤ 400
  · have hd1 : decide (30 < ws) = true := by simpa using hbig.1
    have hd2 : decide (ws ≤ 400) = true := by simpa using hbig.2
    clear hbig hG
    go_wp2_with fail
    go_ret
    exact ⟨rfl, Below.refl _ _⟩
  have h7 : Hid (chk32 v = 0 → v.length ≤ 7) := fun h => great_few hG h
  have hn : Hid (ws ≤ 100 ∨ 400 < ws) := by unfold Hid; omega
  clear hG
  obtain ⟨E, eE⟩ : ∃ E, chk32 v = E := ⟨_, rfl⟩
  obtain ⟨B, eB⟩ : ∃ B, evenB v = B := ⟨_, rfl⟩
  obtain ⟨A, eA⟩ : ∃ A, nxtL v = A := ⟨_, rfl⟩
  obtain ⟨F, eF⟩ : ∃ F, folR v ws = F := ⟨_, rfl⟩
  obtain ⟨G, eG⟩ : ∃ G, folE v ws = G := ⟨_, rfl⟩
  obtain ⟨T, eT⟩ : ∃ T, trnL n t = T := ⟨_, rfl⟩
  obtain ⟨U, eU⟩ : ∃ U, trnE n t = U := ⟨_, rfl⟩
  have C1 : Hid (∀ W, Mat W p c v → Calls Try.prog 15 #[.slice p v.length c] W fun e w' => e = .returned (.tuple #[.bool B, .int .i64 E]) ∧ Below W.heap.size W w') := fun W h => by rw [← eB, ← eE]; exact even32_any p c v W h
  have C2 : Hid (∀ W, Mat W p c v → Calls Try.prog 16 #[.slice p v.length c] W fun e w' => e = .returned (.tuple #[.bool B, .int .i64 E]) ∧ ∃ n, w' = W.drewN n) := fun W h => by rw [← eB, ← eE]; exact refEven_any p c v W h
  have C3 : Hid (∀ W, Mat W p c v → Calls Try.prog 13 #[.slice p v.length c] W (GivesI2 W A E)) := fun W h => by rw [← eA, ← eE]; exact (next2_any p c v W h).mono fun _ _ h => h.1
  have C4 : Hid (∀ W, Mat W p c v → Calls Try.prog 17 #[.slice p v.length c] W (GivesI2 W A E)) := fun W h => by rw [← eA, ← eE]; exact (refNext_any p c v W h h7.out).mono fun _ _ h => h.1
  have C5 : Hid (∀ W, Mat W p c v → Calls Try.prog 18 #[.slice p v.length c, .int .i64 ws] W (GivesMt W F G)) := fun W h => by rw [← eF, ← eG]; exact follow_any p c v ws W h
  have C6 : Hid (∀ W, Mat W p c v → Calls Try.prog 19 #[.slice p v.length c, .int .i64 ws] W (GivesR W F G)) := fun W h => by rw [← eF, ← eG]; exact refFollow_any p c v ws W h h7.out hn.out
  have C7 : Hid (∀ W, Calls Try.prog 20 #[.int .i64 n, .int .i64 t] W (GivesI W T U)) := fun W => by rw [← eT, ← eU]; exact turning_any n t W
  have C8 : Hid (∀ W, Calls Try.prog 21 #[.int .i64 n, .int .i64 t] W (GivesI W T U)) := fun W => by rw [← eT, ← eU]; exact refTurning_any n t W
  have C9 : Hid (∀ W, Mat W p c v → Calls Try.prog 22 #[.slice p v.length c] W fun e w' => e = .returned (.int .i64 E) ∧ Below W.heap.size W w') := fun W h => by rw [← eE]; exact check_any p c v W h
  have C10 : Hid (∀ W, Mat W p c v → Calls Try.prog 12 #[.slice p v.length c] W fun e w' => e = .returned (.int .i64 E) ∧ w' = W) := fun W h => by rw [← eE]; exact refChk_any p c v W h
  have q1 : (E == E) = true := by simp
  have q2 : (B == B) = true := by simp
  have q3 : (G == G) = true := by simp
  have q4 : (U == U) = true := by simp
  clear h7 hn eE eB eA eF eG eT eU
  have hbc : ∃ b1 b2, b1 = decide (30 < ws) ∧ b2 = decide (ws ≤ 400) ∧ ¬ (b1 = true ∧ b2 = true) := ⟨_, _, rfl, rfl, by simpa using hbig⟩
  have hS := (St.start w).addM rfl hx
  clear hx
  by_cases hbig1 : 30 < ws
  · have hd1 : decide (30 < ws) = true := by simpa using hbig1
    have hd2 : decide (ws ≤ 400) = false := by simp; omega
    clear hbig hbc hbig1
    go_wp2_with fail
    refine (C1.out _ (hS.matAt 0 rfl)).mono ?_
    rintro e w1 ⟨rfl, hb⟩
    replace hS := hS.step hb
    clear hb
    go_wp2_with fail
    refine (C2.out _ (hS.matAt 0 rfl)).mono ?_
    rintro e w2 ⟨rfl, hw⟩
    replace hS := hS.drew hw
    clear hw
    go_wp2_with fail
    refine (C3.out _ (hS.matAt 0 rfl)).mono ?_
    rintro e w3 ⟨q3', d3, rfl, hI, hb⟩
    replace hS := hS.step hb
    replace hS := hS.addI rfl hI
    clear hI hb
    go_wp2_with fail
    refine (C4.out _ (hS.matAt 1 rfl)).mono ?_
    rintro e w4 ⟨q4', d4, rfl, hI, hb⟩
    replace hS := hS.step hb
    replace hS := hS.addI rfl hI
    clear hI hb
    go_wp2_with fail
    refine (C5.out _ (hS.matAt 2 rfl)).mono ?_
    rintro e w5 ⟨q5, d5, rfl, hI, hb⟩
    replace hS := hS.step hb
    replace hS := hS.addM rfl hI
    clear hI hb
    go_wp2_with fail
    refine (C6.out _ (hS.matAt 3 rfl)).mono ?_
    rintro e w6 ⟨q6, d6, Q6, D6, rfl, hI, hb⟩
    replace hS := hS.step hb
    replace hS := hS.addM rfl hI.mat
    clear hI hb
    go_wp2_with fail
    refine (C7.out _).mono ?_
    rintro e w7 ⟨q7, d7, rfl, hI, _, hb⟩
    replace hS := hS.step hb
    replace hS := hS.addI rfl hI
    clear hI hb
    go_wp2_with fail
    refine (C8.out _).mono ?_
    rintro e w8 ⟨q8, d8, rfl, hI, _, hb⟩
    replace hS := hS.step hb
    replace hS := hS.addI rfl hI
    clear hI hb
    go_wp2_with fail
    refine (C9.out _ (hS.matAt 6 rfl)).mono ?_
    rintro e w9 ⟨rfl, hb⟩
    replace hS := hS.step hb
    clear hb
    go_wp2_with fail
    refine (C10.out _ (hS.matAt 6 rfl)).mono ?_
    rintro e w10 ⟨rfl, hw⟩
    subst w10
    go_wp2_with fail
    refine (eq25_true (hS.intsAt 5 rfl) (hS.intsAt 4 rfl)).mono ?_
    rintro e w11 ⟨rfl, hw⟩
    replace hS := hS.drew hw
    clear hw
    go_wp2_with fail
    refine (same32_t (hS.matAt 3 rfl) (hS.matAt 2 rfl)).mono ?_
    rintro e w12 ⟨rfl, hw⟩
    replace hS := hS.drew hw
    clear hw
    go_wp2_with fail
    refine (eq25_true (hS.intsAt 1 rfl) (hS.intsAt 0 rfl)).mono ?_
    rintro e w13 ⟨rfl, hw⟩
    replace hS := hS.drew hw
    clear hw
    go_wp2_with fail
    go_ret
    exact ⟨rfl, hS.bel⟩
  · have hd1 : decide (30 < ws) = false := by simpa using hbig1
    clear hbig hbc hbig1
    go_wp2_with fail
    refine (C1.out _ (hS.matAt 0 rfl)).mono ?_
    rintro e w1 ⟨rfl, hb⟩
    replace hS := hS.step hb
    clear hb
    go_wp2_with fail
    refine (C2.out _ (hS.matAt 0 rfl)).mono ?_
    rintro e w2 ⟨rfl, hw⟩
    replace hS := hS.drew hw
    clear hw
    go_wp2_with fail
    refine (C3.out _ (hS.matAt 0 rfl)).mono ?_
    rintro e w3 ⟨q3', d3, rfl, hI, hb⟩
    replace hS := hS.step hb
    replace hS := hS.addI rfl hI
    clear hI hb
    go_wp2_with fail
    refine (C4.out _ (hS.matAt 1 rfl)).mono ?_
    rintro e w4 ⟨q4', d4, rfl, hI, hb⟩
    replace hS := hS.step hb
    replace hS := hS.addI rfl hI
    clear hI hb
    go_wp2_with fail
    refine (C5.out _ (hS.matAt 2 rfl)).mono ?_
    rintro e w5 ⟨q5, d5, rfl, hI, hb⟩
    replace hS := hS.step hb
    replace hS := hS.addM rfl hI
    clear hI hb
    go_wp2_with fail
    refine (C6.out _ (hS.matAt 3 rfl)).mono ?_
    rintro e w6 ⟨q6, d6, Q6, D6, rfl, hI, hb⟩
    replace hS := hS.step hb
    replace hS := hS.addM rfl hI.mat
    clear hI hb
    go_wp2_with fail
    refine (C7.out _).mono ?_
    rintro e w7 ⟨q7, d7, rfl, hI, _, hb⟩
    replace hS := hS.step hb
    replace hS := hS.addI rfl hI
    clear hI hb
    go_wp2_with fail
    refine (C8.out _).mono ?_
    rintro e w8 ⟨q8, d8, rfl, hI, _, hb⟩
    replace hS := hS.step hb
    replace hS := hS.addI rfl hI
    clear hI hb
    go_wp2_with fail
    refine (C9.out _ (hS.matAt 6 rfl)).mono ?_
    rintro e w9 ⟨rfl, hb⟩
    replace hS := hS.step hb
    clear hb
    go_wp2_with fail
    refine (C10.out _ (hS.matAt 6 rfl)).mono ?_
    rintro e w10 ⟨rfl, hw⟩
    subst w10
    go_wp2_with fail
    refine (eq25_true (hS.intsAt 5 rfl) (hS.intsAt 4 rfl)).mono ?_
    rintro e w11 ⟨rfl, hw⟩
    replace hS := hS.drew hw
    clear hw
    go_wp2_with fail
    refine (same32_t (hS.matAt 3 rfl) (hS.matAt 2 rfl)).mono ?_
    rintro e w12 ⟨rfl, hw⟩
    replace hS := hS.drew hw
    clear hw
    go_wp2_with fail
    refine (eq25_true (hS.intsAt 1 rfl) (hS.intsAt 0 rfl)).mono ?_
    rintro e w13 ⟨rfl, hw⟩
    replace hS := hS.drew hw
    clear hw
    go_wp2_with fail
    go_ret
    exact ⟨rfl, hS.bel⟩
end Go.Proofs.Ytcgaojnfgkfnkaa

/- RotaMakes: for every input the law returns true, and each argument reads as it read before; no condition. -/
namespace Go.Proofs.Ytcgaojnfgkfnkaa.RotaMakesTop
open Go.ChangeShapes Go.WideShapes Go.ChangeAt Go.RowKit Go.Deep
set_option linter.unusedVariables false

set_option maxRecDepth 100000 in
theorem lifted (os : Os) (started : os.Started) (H : Type) (enc : TypeId × Value → H) :
    ReturnsInHanded {} Try.checked os 4 .any (Rows.rotaMakesSpec.pre6 enc Try.prog Try.f4 Rows.rotaMakesRow.domain false) (Rows.rotaMakesSpec.post enc Try.prog Try.f4 false true false false) := by
  refine returnsInHanded_of_change (C := Try.checked) own started (by kernel_rfl) Try.func4
    (ChangeSpec.witness6 (enc := enc) (C := Try.checked) false ⟨#[], #[.slice none 0 0, .int .i64 0, .int .i64 0, .int .i64 0], []⟩ 8 (by kernel_rfl) (by kernel_rfl) (by kernel_rfl) (by kernel_rfl)) ?_
  intro W base args ds gs before hval0 hW hcnd _
  have hval : ∀ (j : Nat) t v, Try.f4.params[j]? = some t → args[j]? = some v → Value.okWide Try.prog W .any base t v := hval0
  have hW' := hW
  obtain ⟨p, q, hA0, hV, rfl, hfz, hnd⟩ := hW
  have hA : DataW.TrodAll enc Try.prog W 0 (fun _ => true) true Try.f4.params.toList args.toList ds p := hA0
  rw [Try.params4] at hA hval
  obtain ⟨v0, vs0, d0, ds0, p0, q0, hargs, rfl, rfl, h0, r0⟩ := trodAll_cons hA
  obtain ⟨v1, vs1, d1, ds1, p1, q1, rfl, rfl, rfl, h1, r1⟩ := trodAll_cons r0
  obtain ⟨v2, vs2, d2, ds2, p2, q2, rfl, rfl, rfl, h2, r2⟩ := trodAll_cons r1
  obtain ⟨v3, vs3, d3, ds3, p3, q3, rfl, rfl, rfl, h3, r3⟩ := trodAll_cons r2
  obtain ⟨rfl, rfl, rfl⟩ := trodAll_nil r3
  obtain rfl : args = #[v0, v1, v2, v3] := by cases args; simp_all
  obtain ⟨rfl, rfl⟩ := trodVars_none hV
  have k0 := h0
  have lt0 : ∀ x ∈ p0, x.block < W.heap.size := by obtain ⟨m, hm⟩ := k0; exact DataW.trod_lt m _ _ _ hm
  obtain ⟨a0, c0, x0, rfl, w0⟩ := open_matV (hval 0 22 v0 rfl rfl) h0
  have k1 := h1
  have lt1 : ∀ x ∈ p1, x.block < W.heap.size := by obtain ⟨m, hm⟩ := k1; exact DataW.trod_lt m _ _ _ hm
  obtain ⟨x1, rfl, w1⟩ := open_intV (hval 1 3 v1 rfl rfl) h1
  have k2 := h2
  have lt2 : ∀ x ∈ p2, x.block < W.heap.size := by obtain ⟨m, hm⟩ := k2; exact DataW.trod_lt m _ _ _ hm
  obtain ⟨x2, rfl, w2⟩ := open_intV (hval 2 3 v2 rfl rfl) h2
  have k3 := h3
  have lt3 : ∀ x ∈ p3, x.block < W.heap.size := by obtain ⟨m, hm⟩ := k3; exact DataW.trod_lt m _ _ _ hm
  obtain ⟨x3, rfl, w3⟩ := open_intV (hval 3 3 v3 rfl rfl) h3
  clear hA0 hval0
  refine (rotaMakes_walk a0 c0 x0 x1 x2 x3 W w0 w1 w2 w3).mono fun e W' ⟨he, bel⟩ => ?_
  subst he
  exact ⟨_, rfl, _, _, _, [], _, [], hW', trodAll_mk1 (shut_bool Try.underlying4 _), (trodAll_cons_mk (Below.trod laidOut (by kernel_rfl) (of_decide_eq_true (by kernel_rfl)) k0 bel lt0) (trodAll_cons_mk (Below.trod laidOut (by kernel_rfl) (of_decide_eq_true (by kernel_rfl)) k1 bel lt1) (trodAll_cons_mk (Below.trod laidOut (by kernel_rfl) (of_decide_eq_true (by kernel_rfl)) k2 bel lt2) (trodAll_cons_mk (Below.trod laidOut (by kernel_rfl) (of_decide_eq_true (by kernel_rfl)) k3 bel lt3) trodAll_mk0)))), rfl, bel.frame _, fun h => by cases h⟩

theorem over : Rows.rotaMakesRow.holds Try.pinned (OpenSpec.ofChange Rows.rotaMakesSpec) :=
  OpenClaim.holds_of_wide 4 Try.f4 rfl rfl rfl rfl rfl rfl rfl ⟨rfl, rfl, rfl, rfl, rfl⟩ rfl rfl rfl rfl rfl (by kernel_rfl) Try.func4 (by kernel_rfl)
    (of_decide_eq_true (by kernel_rfl)) (by unfold Func.isWrapper; first | (rw [if_pos (by decide +kernel)]; kernel_rfl) | (rw [if_neg (by decide +kernel)]; exact ⟨rfl, rfl⟩))
    (fun os started H enc _ => lifted os started H enc)
end Go.Proofs.Ytcgaojnfgkfnkaa.RotaMakesTop
namespace Go.Proofs.Ytcgaojnfgkfnkaa
/-- The statement. -/
theorem rotaMakes_holds : Rows.RotaMakesSaid := RotaMakesTop.over
#print axioms rotaMakes_holds
end Go.Proofs.Ytcgaojnfgkfnkaa
