/- The walk of the law RobinOne: for every goods and turns it returns true, and changes nothing that was there. -/
import Derived.Test.YtfagapcihacgkaaOneP
import Derived.Test.YtfagapcihacgkaaFit18
import Derived.Test.YtfagapcihacgkaaAlive18
import Derived.Test.YtfagapcihacgkaaRobinD
import Derived.Deep.RegionHeld3
namespace Go.Proofs.Ytfagapcihacgkaa
set_option linter.unusedVariables false
set_option linter.unusedSimpArgs false
open Go.ChangeShapes Go.WideShapes Go.ChangeAt Go.RowKit Go.Deep

theorem pick_as1 (p q : Option Addr) (c d : Nat) (v : List (List Int)) (ts : List Int) (A T : List Int) (hg : chkG v = 0) (ht : chkT v.length ts = 0) (hA : pkA v ts ts.length = A) (hT : pkT v ts ts.length = T) (w : World) (hx : Mat w p c v) (hy : Ints w q d ts) :
    Calls Try.prog 12 #[.agg #[.slice p v.length c], .slice q ts.length d] w fun e w' => ∃ pa ca pt ct, e = .returned (.tuple #[.slice pa A.length ca, .slice pt ts.length ct, .int .i64 0]) ∧ Ints w' pa ca A ∧ Ints w' pt ct T ∧ Below w.heap.size w w' := by
  have hE : pickE v ts = 0 := by rw [pickE_ok hg]; exact ht
  have hL : pickL v ts = A := by unfold pickL; rw [if_pos hE, hA]
  have hTt : pickT v ts = T := by unfold pickT; rw [if_pos hE, hT]
  have hm : T.length = ts.length := by rw [← hT, pkT_len]
  refine (robinPick_any p q c d v ts w hx hy).mono ?_
  rintro e w' ⟨pa, ca, pt, ct, rfl, oA, oT, hb⟩
  rw [hL] at oA ⊢
  rw [hTt] at oT ⊢
  rw [hE, hm]
  exact ⟨pa, ca, pt, ct, rfl, oA.ints, oT.ints, hb⟩

set_option maxHeartbeats 16000000 in
set_option maxRecDepth 100000 in
theorem robinOne_walk (p : Option Addr) (c : Nat) (v : List (List Int)) (q : Option Addr) (d : Nat) (ts : List Int) (w : World) (hx : Mat w p c v) (hy : Ints w q d ts) :
    Calls Try.prog 8 #[.agg #[.slice p v.length c], .slice q ts.length d] w fun e w' => e = .returned (.bool true) ∧ Below w.heap.size w w' := by
  obtain ⟨W0, hW0⟩ : ∃ W0, w.alloc (.cells #[.slice p v.length c] 24) = W0 := ⟨_, rfl⟩
  have hB : Below w.heap.size w W0 := below_alloc hW0
  have bX : BoxV W0 w.heap.size [.slice p v.length c] := BoxV.new rfl hW0
  have hx := hx.below hB (Nat.le_refl _)
  have hy := hy.below hB (Nat.le_refl _)
  have x0 := bX.cell 0 _ rfl
  have HW0 := Lib.hid hW0
  clear hW0
  have hl1 := hx.length_le
  have hl2 := hy.length_le
  go_enter Try.func8, Try.ntmps8
  go_wp2_with fail
  rw [HW0.out]
  refine (alive18_any _).mono ?_
  rintro e w1 ⟨rfl, hb1⟩
  replace hx := hx.below hb1 (Nat.le_refl _)
  replace hy := hy.below hb1 (Nat.le_refl _)
  replace bX := bX.below hb1
  replace x0 := bX.cell 0 _ rfl
  replace hB := hB.trans (hb1.mono hB.size)
  clear hb1
  go_wp2_with fail
  refine (fit18_any p q c d v ts _ hx hy).mono ?_
  rintro e w2 ⟨rfl, hb1⟩
  replace hx := hx.below hb1 (Nat.le_refl _)
  replace hy := hy.below hb1 (Nat.le_refl _)
  replace bX := bX.below hb1
  replace x0 := bX.cell 0 _ rfl
  replace hB := hB.trans (hb1.mono hB.size)
  clear hb1
  cases hF : fit18 v ts with
  | false =>
    clear hF
    go_wp2_with fail
    go_ret
    exact ⟨rfl, hB⟩
  | true =>
    unfold fit18 at hF
    rw [decide_eq_true_iff] at hF
    obtain ⟨hg, ht⟩ := hF
    have hGd := chkG_zero.1 hg
    have hOk := turnOk_of hg ht
    have hAlc : AlcOk v (pkA v ts ts.length) := ⟨pkA_len _ _ _, pkA_ok hOk.turn _ (Nat.le_refl _)⟩
    have hcA := chkA_ok hGd hAlc
    have C0 := robinBalanced_any v.length p c [] w2
    have CB := Lib.hid (fun W h => robinBalanced_any (v.length : Int) q d ts W h)
    rw [ht] at CB
    have h60 : ts.length ≤ 60 := (chkT_zero.1 ht).2.2.1
    have HBal : Hid (balB (v.length : Int) ts = true → BalTo v.length ts ts.length) := fun h => by rw [balB_ok ht] at h; exact of_decide_eq_true h
    have Hcalm : Hid (BalTo v.length ts ts.length → CalmOne v (pkA v ts ts.length)) := fun h => calm_one hOk h
    have Hfst : Hid (BalTo v.length ts ts.length → ∀ i k t0, i < v.length → t0 < ts.length → iget ts t0 = ((k : Nat) : Int) → 0 ≤ iget (pkT v ts ts.length) t0 → (∀ t, t < t0 → ¬ (iget ts t = (k : Int) ∧ 0 ≤ iget (pkT v ts ts.length) t)) →
        worth v (pkA v ts ts.length) i (k : Int) - iget (rget v i) (iget (pkT v ts ts.length) t0).toNat ≤ worth v (pkA v ts ts.length) i (i : Int)) := fun h i k t0 h1 h2 h3 h4 h5 => one_first hOk h h1 h2 h3 h4 h5
    have hTr : ∀ t, t < ts.length → iget (pkT v ts ts.length) t < wid v := fun t h => by rw [took_at h]; exact (tkX_range t).2
    have C1 := Lib.hid (fun W hX hY => pick_as1 p q c d v ts _ _ hg ht rfl rfl W hX hY)
    obtain ⟨T, eT⟩ : ∃ T, pkT v ts ts.length = T := ⟨_, rfl⟩
    obtain ⟨A, eA⟩ : ∃ A, pkA v ts ts.length = A := ⟨_, rfl⟩
    have hTl : T.length = ts.length := by rw [← eT, pkT_len]
    rw [eT] at C1 Hfst hTr
    rw [eA] at C1 Hfst Hcalm hcA hAlc
    have HTr := Lib.hid hTr
    have HTl := Lib.hid hTl
    have Hg := Lib.hid hGd
    have Ha := Lib.hid hAlc
    have HcA := Lib.hid hcA
    clear hg ht hGd hOk hAlc hcA C0 hTr hTl eT eA
    go_wp2_with fail
    refine (CB.out _ hy).mono ?_
    rintro e w3 ⟨rfl, hb1⟩
    replace hx := hx.below hb1 (Nat.le_refl _)
    replace hy := hy.below hb1 (Nat.le_refl _)
    replace bX := bX.below hb1
    replace x0 := bX.cell 0 _ rfl
    replace hB := hB.trans (hb1.mono hB.size)
    clear hb1 CB
    obtain ⟨bal, ebal⟩ : ∃ b, balB (v.length : Int) ts = b := ⟨_, rfl⟩
    rw [ebal] at HBal ⊢
    clear ebal
    go_wp2_with fail
    refine (C1.out _ hx hy).mono ?_
    rintro e w4 ⟨pa, ca, pt, ct, rfl, iA, iT, hb1⟩
    replace hx := hx.below hb1 (Nat.le_refl _)
    replace hy := hy.below hb1 (Nat.le_refl _)
    replace bX := bX.below hb1
    replace x0 := bX.cell 0 _ rfl
    replace hB := hB.trans (hb1.mono hB.size)
    clear hb1 C1
    have hLL : ((ts.length : Int) != (ts.length : Int)) = false := by simp
    go_wp2_with fail
    refine (ref16Valid_any p c v pa ca A _ hx iA).mono ?_
    rintro e w5 ⟨rfl, hb1⟩
    rw [HcA.out]
    replace hx := hx.below hb1 (Nat.le_refl _)
    replace hy := hy.below hb1 (Nat.le_refl _)
    replace iA := iA.below hb1 (Nat.le_refl _)
    replace iT := iT.below hb1 (Nat.le_refl _)
    replace bX := bX.below hb1
    replace x0 := bX.cell 0 _ rfl
    replace hB := hB.trans (hb1.mono hB.size)
    clear hb1
    cases bal with
    | false =>
      go_wp2_with fail
      go_ret
      exact ⟨rfl, hB⟩
    | true =>
      have hbal := HBal.out rfl
      have CN := Lib.hid (fun W hX hI => nearOne_calm p c v pa ca A W hX hI HcA.out (Hcalm.out hbal))
      have Hfst2 := Lib.hid (Hfst.out hbal)
      clear hbal HBal Hcalm Hfst
      go_wp2_with fail
      refine (CN.out _ hx iA).mono ?_
      rintro e w6 ⟨pm, nm, cm, rfl, hb1⟩
      replace hx := hx.below hb1 (Nat.le_refl _)
      replace hy := hy.below hb1 (Nat.le_refl _)
      replace iA := iA.below hb1 (Nat.le_refl _)
      replace iT := iT.below hb1 (Nat.le_refl _)
      replace bX := bX.below hb1
      replace x0 := bX.cell 0 _ rfl
      replace hB := hB.trans (hb1.mono hB.size)
      clear hb1 CN
      have h0v : 0 < v.length := Hg.out.1
      have h6v := Hg.out.2.1
      go_wp2_with fail
      go_loopw [14] (fun s wr => ∃ k : Nat, k ≤ v.length ∧ s = .int .i64 k ∧ Below w6.heap.size w6 wr) (fun s _ => v.length - (intOf s).toNat)
      case atStart => exact ⟨0, Nat.zero_le _, rfl, Below.refl _ _⟩
      case round =>
        obtain ⟨k, hk, rfl, hbr⟩ := hrel
        have bXr := bX.below hbr
        have x0 := bXr.cell 0 _ rfl
        by_cases hkl : k < v.length
        · have hk1 : (k : Int) < v.length := by omega
          have hyr := hy.below hbr (Nat.le_refl _)
          have iTr := iT.below hbr (Nat.le_refl _)
          have hF0 := Lib.hid (isF_end ts T k)
          go_wp2_with fail
          go_loop [15, 16] (fun s t => ∃ (m : Nat) (f : Int), m ≤ ts.length ∧ t = .int .i64 ((m : Int) - 1) ∧ s = .int .i64 f ∧ Hid (IsF ts T k m f)) (fun _ t => (intOf t + 1).toNat)
          case atStart => exact ⟨ts.length, -1, Nat.le_refl _, rfl, rfl, hF0.out⟩
          case round =>
            obtain ⟨m', f, hm, rfl, rfl, hI⟩ := hrel
            by_cases hm0 : m' = 0
            · subst hm0
              have hnn : ¬ (0 : Int) ≤ ((0 : Nat) : Int) - 1 := by omega
              have hI0 := hI.out
              clear hF0 hyr iTr
              obtain ⟨wo, rfl⟩ : ∃ wo : World, wo = wr := ⟨_, rfl⟩
              go_wp2_with fail
              go_loopw [17] (fun s wr => ∃ i : Nat, i ≤ v.length ∧ s = .int .i64 i ∧ Below wo.heap.size wo wr) (fun s _ => v.length - (intOf s).toNat)
              case atStart => exact ⟨0, Nat.zero_le _, rfl, Below.refl _ _⟩
              case round =>
                clear x0
                obtain ⟨i, hin, rfl, hbi⟩ := hrel
                have hBr : Below w6.heap.size w6 wr := hbr.trans (hbi.mono hbr.size)
                have bXi := bX.below hBr
                have x0 := bXi.cell 0 _ rfl
                by_cases hil : i < v.length
                · have hi1 : (i : Int) < v.length := by omega
                  by_cases hf0 : f < 0
                  · have hfd : decide (0 ≤ f) = false := by rw [decide_eq_false_iff_not]; omega
                    clear hf0 hI hI0
                    go_wp2_with fail
                    go_roundw
                    case rel => exact ⟨k + 1, by omega, by go_num, hBr⟩
                    case measure => (simp [intOf] <;> omega)
                  · obtain ⟨x, rfl⟩ : ∃ x : Nat, f = x := ⟨f.toNat, by omega⟩
                    have hfd : decide (0 ≤ (x : Int)) = true := by rw [decide_eq_true_iff]; omega
                    have key : x < wid v ∧ worth v A i (k : Int) - iget (rget v i) x ≤ worth v A i (i : Int) := by
                      rcases hI0 with ⟨e, _⟩ | ⟨t0, _, h2, h3, h4, h5, h6⟩
                      · omega
                      · have a1 := Hfst2.out i k t0 hil h2 h3 h4 (fun t => h6 t (Nat.zero_le _))
                        rw [← h5, Int.toNat_natCast] at a1
                        have a2 := HTr.out t0 h2
                        exact ⟨by omega, a1⟩
                    obtain ⟨hxw, hle⟩ := key
                    have hxA : x < A.length := by rw [Ha.out.1]; exact hxw
                    have hxd : decide (A.length ≤ x) = false := by rw [decide_eq_false_iff_not]; omega
                    have hxi := hx.below hBr (Nat.le_refl _)
                    have iAi := iA.below hBr (Nat.le_refl _)
                    have hw1 := worth_in Hg.out Ha.out hil (k : Int)
                    have hw2 := worth_in Hg.out Ha.out hil (i : Int)
                    have hrl := (Hg.out.2.2.2 i hil).1
                    have hbd := gds_bid Hg.out hil hxw
                    have CW1 := Lib.hid (fun W (h : Below wr.heap.size wr W) => worth_any p c v pa ca A i (k : Int) W (hxi.below h (Nat.le_refl _)) (iAi.below h (Nat.le_refl _)) Hg.out Ha.out hil)
                    have CW2 := Lib.hid (fun W (h : Below wr.heap.size wr W) => worth_any p c v pa ca A i (i : Int) W (hxi.below h (Nat.le_refl _)) (iAi.below h (Nat.le_refl _)) Hg.out Ha.out hil)
                    obtain ⟨b, o, rfl, hlb, qi, di, hc, hr⟩ := hxi.get hil
                    obtain ⟨b3, o3, rfl, hlb3, hc3⟩ := hr.get (j := x) (by rw [hrl]; exact hxw)
                    have hxr : (x : Int) < (rget v i).length := by rw [hrl]; omega
                    obtain ⟨y1, e1⟩ : ∃ y, worth v A i (k : Int) = y := ⟨_, rfl⟩
                    obtain ⟨y2, e2⟩ : ∃ y, iget (rget v i) x = y := ⟨_, rfl⟩
                    obtain ⟨y3, e3⟩ : ∃ y, worth v A i (i : Int) = y := ⟨_, rfl⟩
                    rw [e1] at hw1 hle CW1
                    rw [e2] at hc3 hle hbd
                    rw [e3] at hw2 hle CW2
                    have hwr : IntKind.i64.wrap (y1 - y2) = y1 - y2 := IntWalk.i64_in _ (by omega)
                    have hdd : decide (y3 < y1 - y2) = false := by rw [decide_eq_false_iff_not]; omega
                    have hlX := bXi.lt
                    have Hmk : Hid (∀ W, Below wr.heap.size wr W → (W.cell? ⟨w.heap.size, 0, none⟩ = some (Value.slice (some ⟨b, o, none⟩) v.length c) ∧ W.cell? ⟨b, o + i, none⟩ = some (Value.slice (some ⟨b3, o3, none⟩) (rget v i).length di) ∧ W.cell? ⟨b3, o3 + x, none⟩ = some (Value.int .i64 y2) ∧ Below wr.heap.size wr W)) := fun W hG => ⟨(hG.cell (p := ⟨w.heap.size, 0, none⟩) hlX).trans x0, (hG.cell (p := ⟨b, o + i, none⟩) hlb).trans hc, (hG.cell (p := ⟨b3, o3 + x, none⟩) hlb3).trans hc3, hG⟩
                    clear hI hI0 hf0 hle hw1 hw2 hbd e1 e2 e3 hrl hr hxi iAi
                    go_wp2_with fail
                    go_region_held3 (fun W => W.cell? ⟨w.heap.size, 0, none⟩ = some (Value.slice (some ⟨b, o, none⟩) v.length c) ∧ W.cell? ⟨b, o + i, none⟩ = some (Value.slice (some ⟨b3, o3, none⟩) (rget v i).length di) ∧ W.cell? ⟨b3, o3 + x, none⟩ = some (Value.int .i64 y2) ∧ Below wr.heap.size wr W)
                      (first | assumption | exact Hmk.out _ hG | exact Hmk.out _ (below_drewN wr.heap.size wr 1) | exact Hmk.out _ (Below.refl _ _))
                      (first
                        | (go_at_call_of 32 (Value.int .i64 (k : Int)); refine (CW1.out _ (by go_split_ands; assumption)).mono ?_; rintro e wC ⟨rfl, hbC⟩; have hG : Below wr.heap.size wr wC := Below.trans (by go_split_ands; assumption) (hbC.mono (Below.size (B := wr.heap.size) (w := wr) (by go_split_ands; assumption))))
                        | (go_at_call_of 32 (Value.int .i64 (i : Int)); refine (CW2.out _ (by go_split_ands; assumption)).mono ?_; rintro e wC ⟨rfl, hbC⟩; have hG : Below wr.heap.size wr wC := Below.trans (by go_split_ands; assumption) (hbC.mono (Below.size (B := wr.heap.size) (w := wr) (by go_split_ands; assumption)))))
                    go_wp2_with fail
                    go_roundw
                    case rel => exact ⟨i + 1, by omega, by go_num, hbi.trans (hG.mono hbi.size)⟩
                    case measure => (simp [intOf] <;> omega)
                · have hi1 : ¬ (i : Int) < v.length := by omega
                  clear hI hI0
                  go_wp2_with fail
                  go_roundw
                  case rel => exact ⟨k + 1, by omega, by go_num, hBr⟩
                  case measure => (simp [intOf] <;> omega)
            · obtain ⟨m, rfl⟩ : ∃ m, m' = m + 1 := ⟨m' - 1, by omega⟩
              have em : ((m + 1 : Nat) : Int) - 1 = (m : Int) := by omega
              rw [em]
              have hml : m < ts.length := by omega
              have hm1 : (m : Int) < ts.length := by omega
              obtain ⟨b1, o1, rfl, _, hc1⟩ := hyr.get hml
              obtain ⟨b2, o2, rfl, _, hc2⟩ := iTr.get (j := m) (by rw [HTl.out]; exact hml)
              have hY := Lib.hid (fun h1 h2 => isF_yes (ts := ts) (T := T) (k := k) hml h1 h2)
              have hN := Lib.hid (fun hn => isF_no hI.out hn)
              obtain ⟨y, ey⟩ : ∃ y, iget ts m = y := ⟨_, rfl⟩
              obtain ⟨z, ez⟩ : ∃ z, iget T m = z := ⟨_, rfl⟩
              rw [ey] at hc1 hY hN
              rw [ez] at hc2 hY hN
              clear ey ez em
              by_cases he : y = (k : Int)
              · have hb : (y == (k : Int)) = true := by simpa using he
                cases hz : decide (0 ≤ z) with
                | true =>
                  have HR := Lib.hid (hY.out he (of_decide_eq_true hz))
                  clear he
                  go_wp2_with fail
                  go_round
                  case rel => exact ⟨m, z, by omega, by go_num, rfl, HR.out⟩
                  case measure => (simp [intOf] <;> omega)
                | false =>
                  have HR := Lib.hid (hN.out (fun h => by simp at hz; omega))
                  clear he
                  go_wp2_with fail
                  go_round
                  case rel => exact ⟨m, f, by omega, by go_num, rfl, HR.out⟩
                  case measure => (simp [intOf] <;> omega)
              · have hb : (y == (k : Int)) = false := by simpa using he
                have HR := Lib.hid (hN.out (fun h => he h.1))
                clear he
                go_wp2_with fail
                go_round
                case rel => exact ⟨m, f, by omega, by go_num, rfl, HR.out⟩
                case measure => (simp [intOf] <;> omega)
        · have hk1 : ¬ (k : Int) < v.length := by omega
          go_wp2_with fail
          go_ret
          exact ⟨rfl, hB.trans (hbr.mono hB.size)⟩
end Go.Proofs.Ytfagapcihacgkaa
