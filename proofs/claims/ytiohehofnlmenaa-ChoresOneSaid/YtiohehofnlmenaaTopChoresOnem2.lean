/- ChoresOne: for every input the law returns true, and each argument reads as it read before; no condition. -/
import Derived.Test.YtiohehofnlmenaaTopChoresOnem1
import Derived.Test.YtiohehofnlmenaaTopChoresRunsm15
import Derived.Test.YtiohehofnlmenaaTopChoresTopm1
import Derived.Test.YtiohehofnlmenaaTopChoresNamesm1
import Derived.Test.YtiohehofnlmenaaTopChoresTopm2
import Derived.Test.YtiohehofnlmenaaTopChoresRunsm17
import Derived.ChangeOld
/- The walk of the law ChoresOne: for every chores and order it returns true, and changes nothing that was there. -/
namespace Go.Proofs.Ytiohehofnlmenaa
set_option linter.unusedVariables false
set_option linter.unusedSimpArgs false
open Go.ChangeShapes Go.WideShapes Go.ChangeAt Go.RowKit Go.Deep

theorem runE_two {v : List (List Int)} {o : List Int} (h : chkG v = 0) : (runE v o = 0 ∧ OrdP o (wid v)) ∨ (runE v o = 8 ∧ ordB o (wid v) = false) := by
  unfold runE ordB
  rw [if_pos h]
  by_cases ho : OrdP o (wid v)
  · left; exact ⟨if_pos ho, ho⟩
  · right; exact ⟨if_neg ho, decide_eq_false ho⟩

set_option maxHeartbeats 16000000 in
set_option maxRecDepth 100000 in
theorem choresOne_walk (p : Option Addr) (c : Nat) (v : List (List Int)) (q : Option Addr) (d : Nat) (o : List Int) (w : World) (hx : Mat w p c v) (hy : Ints w q d o) :
    Calls Try.prog 7 #[.agg #[.slice p v.length c], .slice q o.length d] w fun e w' => e = .returned (.bool true) ∧ Below w.heap.size w w' := by
  obtain ⟨W0, hW0⟩ : ∃ W, w.alloc (.cells #[.slice p v.length c] 24) = W := ⟨_, rfl⟩
  have hB : Below w.heap.size w W0 := below_alloc hW0
  have bX : BoxV W0 w.heap.size [.slice p v.length c] := BoxV.new rfl hW0
  have mX := hx.below hB (Nat.le_refl _)
  have mT := hy.below hB (Nat.le_refl _)
  have HW0 := Lib.hid hW0
  clear hW0 hx hy
  go_enter Try.func7, Try.ntmps7
  go_wp2_with fail
  rw [HW0.out]
  refine (alive24_any _).mono ?_
  rintro e w1 ⟨rfl, hb⟩
  replace mX := mX.below hb (Nat.le_refl _)
  replace mT := mT.below hb (Nat.le_refl _)
  replace bX := bX.below hb
  replace hB := hB.trans (hb.mono hB.size)
  clear hb
  have x0 := bX.cell 0 _ rfl
  go_wp2_with fail
  refine (fit24_any p q c d v o _ mX mT).mono ?_
  rintro e w2 ⟨rfl, hb⟩
  replace mX := mX.below hb (Nat.le_refl _)
  replace mT := mT.below hb (Nat.le_refl _)
  replace bX := bX.below hb
  replace hB := hB.trans (hb.mono hB.size)
  clear hb x0
  have x0 := bX.cell 0 _ rfl
  by_cases hfit : fit24 v o = true
  · rw [hfit]
    have hgz : chkG v = 0 := by unfold fit24 at hfit; rw [decide_eq_true_iff] at hfit; exact hfit.2
    have Hgz := Lib.hid hgz
    have hg := chkG_zero.1 hgz
    have Hg := Lib.hid hg
    have h0v : 0 < v.length := hg.1
    have hv6 : v.length ≤ 6 := hg.2.1
    have hm10 : wid v ≤ 10 := hg.2.2.1
    have htwo := runE_two (o := o) hgz
    have HAll := Lib.hid (fun ho => runTo_all (v := v) (o := o) hg ho o.length (Nat.le_refl _))
    have KR := Lib.hid (choresRun_any p q c d v o _ mX mT)
    clear hfit hgz hg
    go_wp2_with fail
    refine KR.out.mono ?_
    rintro e w3 ⟨pa, ca, ps, cs, Q, D, rfl, oA, oS, hb⟩
    replace mX := mX.below hb (Nat.le_refl _)
    replace mT := mT.below hb (Nat.le_refl _)
    replace bX := bX.below hb
    replace hB := hB.trans (hb.mono hB.size)
    clear hb x0 KR
    have x0 := bX.cell 0 _ rfl
    rcases htwo with ⟨hE, hOrd⟩ | ⟨hE, hOrd⟩
    · obtain ⟨hAe, hSe⟩ : runA v o = (runTo v o o.length).1 ∧ runS v o = (runTo v o o.length).2 := by
        unfold runA runS; rw [if_pos hE, if_pos hE]; exact ⟨rfl, rfl⟩
      have hall := HAll.out hOrd
      rw [← hAe, ← hSe] at hall
      have hol := ordP_len hOrd
      have hordn := hOrd
      obtain ⟨A, eA⟩ : ∃ A, runA v o = A := ⟨_, rfl⟩
      obtain ⟨S, eS⟩ : ∃ S, runS v o = S := ⟨_, rfl⟩
      rw [eA] at oA hall ⊢
      rw [eS] at oS hall ⊢
      rw [hE]
      have hAl : A.length = wid v := hall.alc.1
      have hSf := hall.few
      have hmiss := efx_missing hall.efx
      have hF := chkA_zero.2 ⟨Hg.out, hall.alc⟩
      have iA := oA.ints
      have KV := ref16Valid_any p c v pa ca A _ mX iA
      rw [hF] at KV
      have KV := Lib.hid KV
      have KO := choresOne_any p c v pa ca A
      unfold GivesMP at KO
      rw [hmiss, hF] at KO
      have KO := Lib.hid KO
      have hrep := hall.rep
      have hstp := hall.stp
      have KP := Lib.hid (fun W hX hS => by
        have := replay_any p c v ps cs w2.heap.size S Q D W hX hS Hg.out hstp (fun h => by
          have : 0 < o.length := by omega
          omega) (by omega)
        rw [hrep] at this
        exact (this : Calls Try.prog 36 #[.agg #[.slice p v.length c], .slice ps S.length cs] W (Gives2 W A 0)))
      have hob : ordB o (A.length : Int) = true := by unfold ordB; rw [hAl]; exact decide_eq_true hOrd
      have KB := ordered_any q d o (A.length : Int)
      rw [hob] at KB
      have KB := Lib.hid KB
      have hhas : ∀ j, j < A.length → (0 ≤ iget A j ↔ ∃ t, t < o.length ∧ iget o t = (j : Int)) := fun j hj => hall.has j (by omega)
      have hrg : ∀ t, t < o.length → 0 ≤ iget o t ∧ iget o t < A.length := fun t ht => by have := hOrd t ht; have h1 := this.1; have h2 := this.2.1; omega
      have Hhas := Lib.hid hhas
      have Hrg := Lib.hid hrg
      have hA10 : A.length ≤ 10 := by omega
      have hS200 : decide ((200 : Int) < S.length) = false := by rw [decide_eq_false_iff_not]; omega
      have hS200n : decide (200 < S.length) = false := by rw [decide_eq_false_iff_not]; omega
      have hcS := oS.cap
      clear hAe hSe hall hordn hE hOrd eA eS hAl hmiss hF hrep hstp hob hhas hrg oA HAll
      go_wp2_with fail
      refine KV.out.mono ?_
      rintro e w4 ⟨rfl, hb⟩
      replace mX := mX.below hb (Nat.le_refl _)
      replace mT := mT.below hb (Nat.le_refl _)
      replace iA := iA.below hb (Nat.le_refl _)
      replace oS := oS.below hb (Nat.le_refl _)
      replace bX := bX.below hb
      replace hB := hB.trans (hb.mono hB.size)
      clear hb x0 KV
      have x0 := bX.cell 0 _ rfl
      have KB2 := Lib.hid (KB.out _ mT)
      go_wp2_with fail
      refine KB2.out.mono ?_
      rintro e w5 ⟨rfl, hw⟩
      have hb : Below _ _ _ := drew_below hw
      replace mX := mX.below hb (Nat.le_refl _)
      replace mT := mT.below hb (Nat.le_refl _)
      replace iA := iA.below hb (Nat.le_refl _)
      replace oS := oS.below hb (Nat.le_refl _)
      replace bX := bX.below hb
      replace hB := hB.trans (hb.mono hB.size)
      clear hb hw x0 KB KB2
      have x0 := bX.cell 0 _ rfl
      have KO2 := Lib.hid (KO.out _ mX iA)
      go_wp2_with fail
      refine KO2.out.mono ?_
      rintro e w6 ⟨pm, cm, pq, cq, rfl, _, _, hb⟩
      replace mX := mX.below hb (Nat.le_refl _)
      replace mT := mT.below hb (Nat.le_refl _)
      replace iA := iA.below hb (Nat.le_refl _)
      replace oS := oS.below hb (Nat.le_refl _)
      replace bX := bX.below hb
      replace hB := hB.trans (hb.mono hB.size)
      clear hb x0 KO KO2
      have x0 := bX.cell 0 _ rfl
      have KP2 := Lib.hid (KP.out _ mX oS)
      go_wp2_with fail
      refine KP2.out.mono ?_
      rintro e w7 ⟨pb, cb, rfl, oB, hb⟩
      have iB := oB.ints
      replace mX := mX.below hb (Nat.le_refl _)
      replace mT := mT.below hb (Nat.le_refl _)
      replace iA := iA.below hb (Nat.le_refl _)
      replace bX := bX.below hb
      replace hB := hB.trans (hb.mono hB.size)
      clear hb x0 KP KP2 oB oS
      have x0 := bX.cell 0 _ rfl
      obtain ⟨B0, hB0⟩ : ∃ B0, w7.heap.size = B0 := ⟨_, rfl⟩
      have HB0 := Lib.hid hB0
      have hwB : w.heap.size < B0 := by have := bX.lt; omega
      have hlo := mT.length_le
      clear hB0
      go_wp2_with (at_make; refine wpList_mkB rfl (.tmp 81) (.tmp 81) rfl B0 A.length rfl rfl (by omega) (Nat.le_of_eq HB0.out.symm) ?_; intro w8 hO8 hg8 hs8)
      rw [HB0.out] at hO8 ⊢
      have hb8 : Below B0 w7 w8 := (Below.refl _ _).grown hg8 (Nat.le_of_eq HB0.out.symm) (fun k' e => by cases e)
      clear hg8 hs8
      have HT := Lib.hid (fun W (h : Below B0 w7 W) => mT.below h (Nat.le_of_eq HB0.out))
      have HA := Lib.hid (fun W (h : Below B0 w7 W) => iA.below h (Nat.le_of_eq HB0.out))
      have HIB := Lib.hid (fun W (h : Below B0 w7 W) => iB.below h (Nat.le_of_eq HB0.out))
      have HBw := Lib.hid hB
      clear mX mT iA iB bX hB x0
      obtain ⟨n, hn⟩ : ∃ n, A.length = n := ⟨_, rfl⟩
      have Hn := Lib.hid hn
      clear hn
      go_wp2_with fail
      go_loopw [15] (fun t wr => ∃ m : Nat, m ≤ o.length ∧ t = .int .i64 m ∧ ∃ bs, Hid (bs.length = n) ∧ OwnB wr B0 (some ⟨B0, 0, none⟩) A.length bs ∧ Hid (∀ i, i < n → (bget bs i = true ↔ ∃ j, j < m ∧ iget o j = (i : Int))) ∧ Below B0 w7 wr) (fun t _ => o.length - (intOf t).toNat)
      case atStart => exact ⟨0, Nat.zero_le _, rfl, List.replicate A.length false, by unfold Hid; rw [List.length_replicate, Hn.out], hO8, fun i hi => by simp [bget, List.getD]; rw [List.getElem?_replicate]; split <;> simp, hb8⟩
      case round =>
        clear hO8 hb8
        obtain ⟨m, hm, rfl, bs, hbl, hO, hbs, hbr⟩ := hrel
        by_cases hlt : m < o.length
        · have hm1 : (m : Int) < o.length := by omega
          obtain ⟨b3, o3, rfl, _, hc⟩ := (HT.out _ hbr).get hlt
          have hr := Hrg.out m hlt
          obtain ⟨i, ei⟩ : ∃ i : Nat, iget o m = i := ⟨(iget o m).toNat, by omega⟩
          rw [ei] at hc hr
          have hi1 : (i : Int) < A.length := hr.2
          have hi0 : (0 : Int) ≤ i := by omega
          have hin : i < n := by have := Hn.out; omega
          have hib : i < bs.length := by rw [hbl.out]; exact hin
          obtain ⟨g', hg', _, _, hcA, hfA⟩ := hO.get hib
          obtain rfl : B0 = g' := by simpa using hg'
          have Ei := Lib.hid ei
          have HO := Lib.hid hO
          clear ei hg' hO hr
          go_wp2_with fail
          go_roundw
          case rel =>
            have h5 := (HO.out.set i true).1
            exact ⟨m + 1, by omega, by go_num, bs.set i true, by unfold Hid; rw [List.length_set]; exact hbl.out, h5, fun k hk => by
              rw [bget_set hib]
              by_cases e : i = k
              · subst e
                simp only [if_true, true_iff]
                exact ⟨m, by omega, Ei.out⟩
              · rw [if_neg e, hbs.out k hk]
                exact ⟨fun ⟨j, h1, h2⟩ => ⟨j, by omega, h2⟩, fun ⟨j, h1, h2⟩ => ⟨j, by
                  by_cases ej : j = m
                  · subst ej; have := Ei.out.symm.trans h2; omega
                  · omega, h2⟩⟩, hbr.setCell (p := ⟨B0, i, none⟩) (Nat.le_refl _) _⟩
          case measure => (simp [intOf] <;> omega)
        · have hm1 : ¬ (m : Int) < o.length := by omega
          obtain rfl : m = o.length := by omega
          have hcmp : Hid (∀ k, k < A.length → bget bs k = decide (0 ≤ iget A k)) := fun k hk => by
            rw [Bool.eq_iff_iff, decide_eq_true_iff, hbs.out k (by rw [← Hn.out]; exact hk), Hhas.out k hk]
          have Hcb : Hid (∀ k, k < A.length → wr.cell? ⟨B0, k, none⟩ = some (.bool (bget bs k))) := fun k hk => hO.at (by rw [hbl.out, ← Hn.out]; exact hk)
          obtain ⟨wo, hwo⟩ : ∃ wo, wr = wo := ⟨_, rfl⟩
          rw [hwo] at hbr Hcb ⊢
          clear hwo hO hm
          go_wp2_with fail
          go_loopw [16] (fun t wr => ∃ k : Nat, k ≤ A.length ∧ t = .int .i64 k ∧ ∃ N, wr = wo.drewN N) (fun t _ => A.length - (intOf t).toNat)
          case atStart => exact ⟨0, Nat.zero_le _, rfl, drew_refl _⟩
          case round =>
            obtain ⟨k, hk, rfl, hw⟩ := hrel
            have hbd := hbr.drewP hw
            by_cases hkl : k < A.length
            · have hk1 : (k : Int) < A.length := by omega
              obtain ⟨ba, oa, rfl, _, hca⟩ := (HA.out _ hbd).get hkl
              have hcb : wr.cell? ⟨B0, k, none⟩ = some (.bool (bget bs k)) := by obtain ⟨N, rfl⟩ := hw; exact Hcb.out k hkl
              have hcm := hcmp.out k hkl
              obtain ⟨x, ex⟩ : ∃ x, iget A k = x := ⟨_, rfl⟩
              rw [ex] at hca hcm
              have Hw := Lib.hid hw
              by_cases h0 : 0 ≤ x
              · have hd : decide (0 ≤ x) = true := by simpa using h0
                rw [hd] at hcm
                rw [hcm] at hcb
                clear ex hcm h0 hw hbd
                go_wp2_with fail
                go_quiet (fail)
                go_wp2_with fail
                go_roundw
                case rel => exact ⟨k + 1, by omega, by go_num, drew_drewN _ Hw.out⟩
                case measure => (simp [intOf] <;> omega)
              · have hd : decide (0 ≤ x) = false := by simpa using h0
                rw [hd] at hcm
                rw [hcm] at hcb
                clear ex hcm h0 hw hbd
                go_wp2_with fail
                go_quiet (fail)
                go_wp2_with fail
                go_roundw
                case rel => exact ⟨k + 1, by omega, by go_num, drew_drewN _ Hw.out⟩
                case measure => (simp [intOf] <;> omega)
            · have hk1 : ¬ (k : Int) < A.length := by omega
              have KE := Lib.hid (eqI_true (HA.out _ hbd) (HIB.out _ hbd))
              have HbD := Lib.hid hbd
              have hBf := HBw.out
              clear hw hbd
              go_wp2_with fail
              refine KE.out.mono ?_
              rintro e wf ⟨rfl, hw⟩
              have hbf := HbD.out.drewP hw
              clear hw
              go_wp2_with fail
              go_ret
              exact ⟨rfl, hBf.trans (hbf.mono (by omega))⟩
    · rw [hE]
      have hm0 := mX.get (j := 0) h0v
      obtain ⟨b, o', rfl, _, q0, d0, hc0, hi0⟩ := hm0
      rw [Nat.add_zero] at hc0
      have hc1 : _ = some (Value.slice q0 (wid v) d0) := hc0
      obtain ⟨m, hm⟩ : ∃ m, wid v = m := ⟨_, rfl⟩
      rw [hm] at hc1 hOrd
      have KB := ordered_any q d o (m : Int) _ mT
      rw [hOrd] at KB
      have KB := Lib.hid KB
      have hv1 : (0 : Int) < v.length := by omega
      clear hc0 hi0 hE hOrd hm HAll oA oS
      go_wp2_with fail
      refine KB.out.mono ?_
      rintro e w4 ⟨rfl, hw⟩
      have hBf := hB.drewP hw
      clear hw
      go_wp2_with fail
      go_ret
      exact ⟨rfl, hBf⟩
  · have hfit : fit24 v o = false := by simpa using hfit
    rw [hfit]
    clear hfit
    go_wp2_with fail
    go_ret
    exact ⟨rfl, hB⟩
end Go.Proofs.Ytiohehofnlmenaa

/- ChoresOne: for every input the law returns true, and each argument reads as it read before; no condition. -/
namespace Go.Proofs.Ytiohehofnlmenaa.ChoresOneTop
open Go.ChangeShapes Go.WideShapes Go.ChangeAt Go.RowKit Go.Deep
set_option linter.unusedVariables false

set_option maxRecDepth 100000 in
theorem lifted (os : Os) (started : os.Started) (H : Type) (enc : TypeId × Value → H) :
    ReturnsInHanded {} Try.checked os 7 .any (Rows.choresOneSpec.pre6 enc Try.prog Try.f7 Rows.choresOneRow.domain false) (Rows.choresOneSpec.post enc Try.prog Try.f7 false true false false) := by
  refine returnsInHanded_of_change (C := Try.checked) own started (by kernel_rfl) Try.func7
    (ChangeSpec.witness6 (enc := enc) (C := Try.checked) false ⟨#[], #[.agg #[.slice none 0 0], .slice none 0 0], []⟩ 8 (by kernel_rfl) (by kernel_rfl) (by kernel_rfl) (by kernel_rfl)) ?_
  intro W base args ds gs before hval0 hW hcnd _
  have hval : ∀ (j : Nat) t v, Try.f7.params[j]? = some t → args[j]? = some v → Value.okWide Try.prog W .any base t v := hval0
  have hW' := hW
  obtain ⟨p, q, hA0, hV, rfl, hfz, hnd⟩ := hW
  have hA : DataW.TrodAll enc Try.prog W 0 (fun _ => true) true Try.f7.params.toList args.toList ds p := hA0
  rw [Try.params7] at hA hval
  obtain ⟨v0, vs0, d0, ds0, p0, q0, hargs, rfl, rfl, h0, r0⟩ := trodAll_cons hA
  obtain ⟨v1, vs1, d1, ds1, p1, q1, rfl, rfl, rfl, h1, r1⟩ := trodAll_cons r0
  obtain ⟨rfl, rfl, rfl⟩ := trodAll_nil r1
  obtain rfl : args = #[v0, v1] := by cases args; simp_all
  obtain ⟨rfl, rfl⟩ := trodVars_none hV
  have k0 := h0
  have lt0 : ∀ x ∈ p0, x.block < W.heap.size := by obtain ⟨m, hm⟩ := k0; exact DataW.trod_lt m _ _ _ hm
  obtain ⟨a0, c0, x0, rfl, w0⟩ := open_goodsV (hval 0 24 v0 rfl rfl) h0
  have k1 := h1
  have lt1 : ∀ x ∈ p1, x.block < W.heap.size := by obtain ⟨m, hm⟩ := k1; exact DataW.trod_lt m _ _ _ hm
  obtain ⟨a1, c1, x1, rfl, w1⟩ := open_intsV (hval 1 25 v1 rfl rfl) h1
  clear hA0 hval0
  refine (choresOne_walk a0 c0 x0 a1 c1 x1 W w0 w1).mono fun e W' ⟨he, bel⟩ => ?_
  subst he
  exact ⟨_, rfl, _, _, _, [], _, [], hW', trodAll_mk1 (shut_bool Try.underlying4 _), (trodAll_cons_mk (Below.trod laidOut (by kernel_rfl) (of_decide_eq_true (by kernel_rfl)) k0 bel lt0) (trodAll_cons_mk (Below.trod laidOut (by kernel_rfl) (of_decide_eq_true (by kernel_rfl)) k1 bel lt1) trodAll_mk0)), rfl, bel.frame _, fun h => by cases h⟩

theorem over : Rows.choresOneRow.holds Try.pinned (OpenSpec.ofChange Rows.choresOneSpec) :=
  OpenClaim.holds_of_wide 7 Try.f7 rfl rfl rfl rfl rfl rfl rfl ⟨rfl, rfl, rfl, rfl, rfl⟩ rfl rfl rfl rfl rfl (by kernel_rfl) Try.func7 (by kernel_rfl)
    (of_decide_eq_true (by kernel_rfl)) (by unfold Func.isWrapper; first | (rw [if_pos (by decide +kernel)]; kernel_rfl) | (rw [if_neg (by decide +kernel)]; exact ⟨rfl, rfl⟩))
    (fun os started H enc _ => lifted os started H enc)
end Go.Proofs.Ytiohehofnlmenaa.ChoresOneTop
namespace Go.Proofs.Ytiohehofnlmenaa
/-- The statement. -/
theorem choresOne_holds : Rows.ChoresOneSaid := ChoresOneTop.over
#print axioms choresOne_holds
end Go.Proofs.Ytiohehofnlmenaa
