/- The walk of the law RobinBest: for every goods and turns it returns true, and changes nothing that was there. -/
import Derived.Test.YtfagapcihacgkaaRobinQ
import Derived.Test.YtfagapcihacgkaaFit18
import Derived.Test.YtfagapcihacgkaaAlive18
import Derived.Test.YtfagapcihacgkaaGoodsV
import Derived.Test.YtfagapcihacgkaaRobinC
import Derived.Deep.RegionHeld3
import Derived.StillTailTactics
namespace Go.Proofs.Ytfagapcihacgkaa
set_option linter.unusedVariables false
set_option linter.unusedSimpArgs false
open Go.ChangeShapes Go.WideShapes Go.ChangeAt Go.RowKit Go.Deep

theorem OwnB.below {w w' : World} {base B : Nat} {p : Option Addr} {c : Nat} {bs : List Bool} (h : OwnB w base p c bs) (hb : Below B w w') (hB : w.heap.size ≤ B) : OwnB w' base p c bs :=
  World.ownsRow.kept h (grownBy_of_below hb hB none) (by cases (Value.slice p bs.length c).ownBlock <;> simp)

set_option maxHeartbeats 16000000 in
set_option maxRecDepth 100000 in
theorem robinBest_walk (p : Option Addr) (c : Nat) (v : List (List Int)) (q : Option Addr) (d : Nat) (ts : List Int) (w : World) (hx : Mat w p c v) (hy : Ints w q d ts) :
    Calls Try.prog 5 #[.agg #[.slice p v.length c], .slice q ts.length d] w fun e w' => e = .returned (.bool true) ∧ Below w.heap.size w w' := by
  obtain ⟨W0, hW0⟩ : ∃ W0, w.alloc (.cells #[.slice p v.length c] 24) = W0 := ⟨_, rfl⟩
  have hB : Below w.heap.size w W0 := below_alloc hW0
  have bX : BoxV W0 w.heap.size [.slice p v.length c] := BoxV.new rfl hW0
  have hx := hx.below hB (Nat.le_refl _)
  have hy := hy.below hB (Nat.le_refl _)
  have x0 := bX.cell 0 _ rfl
  have HW0 := Lib.hid hW0
  clear hW0
  have hl1 := hx.length_le
  have hl2 := hy.length_le
  go_enter Try.func5, Try.ntmps5
  go_wp2_with fail
  rw [HW0.out]
  refine (alive18_any _).mono ?_
  rintro e w1 ⟨rfl, hb1⟩
  replace hx := hx.below hb1 (Nat.le_refl _)
  replace hy := hy.below hb1 (Nat.le_refl _)
  replace bX := bX.below hb1
  replace x0 := bX.cell 0 _ rfl
  replace hB := hB.trans (hb1.mono hB.size)
  clear hb1
  go_wp2_with fail
  refine (fit18_any p q c d v ts _ hx hy).mono ?_
  rintro e w2 ⟨rfl, hb1⟩
  replace hx := hx.below hb1 (Nat.le_refl _)
  replace hy := hy.below hb1 (Nat.le_refl _)
  replace bX := bX.below hb1
  replace x0 := bX.cell 0 _ rfl
  replace hB := hB.trans (hb1.mono hB.size)
  clear hb1
  cases hF : fit18 v ts with
  | false =>
    clear hF
    go_wp2_with fail
    go_ret
    exact ⟨rfl, hB⟩
  | true =>
    unfold fit18 at hF
    rw [decide_eq_true_iff] at hF
    obtain ⟨hg, ht⟩ := hF
    have HP := Lib.hid (picks_of hg ht)
    have HG := Lib.hid (chkG_zero.1 hg)
    have hE : pickE v ts = 0 := by rw [pickE_ok hg]; exact ht
    have htt := (chkT_zero.1 ht).2.2.2
    have hA : chkA v (pkA v ts ts.length) = 0 := chkA_ok (chkG_zero.1 hg) ⟨pkA_len _ _ _, pkA_ok htt _ (Nat.le_refl _)⟩
    have HA := Lib.hid hA
    have Hall := Lib.hid (pkA_ok htt ts.length (Nat.le_refl _))
    have Hst := Lib.hid (fun t (h : t < ts.length) => pk_step (v := v) htt h)
    have C1 := robinPick_any p q c d v ts w2 hx hy
    have hL : pickL v ts = pkA v ts ts.length := by unfold pickL; rw [if_pos hE]
    have hT : pickT v ts = pkT v ts ts.length := by unfold pickT; rw [if_pos hE]
    rw [hL, hT, hE] at C1
    have hTl := pkT_len v ts ts.length
    have hAl := pkA_len v ts ts.length
    have Hm := Lib.hid (show wid v ≤ 10 from (picks_of hg ht).m10)
    obtain ⟨T, eT⟩ : ∃ T, pkT v ts ts.length = T := ⟨_, rfl⟩
    obtain ⟨A, eA⟩ : ∃ A, pkA v ts ts.length = A := ⟨_, rfl⟩
    rw [eT] at C1 hTl
    rw [eA] at C1 hAl HA Hall
    simp only [eT, eA] at Hst
    have C1 := Lib.hid C1
    have HTl := Lib.hid hTl
    have HAl := Lib.hid hAl
    have HeA := Lib.hid eA
    have Htt := Lib.hid htt
    clear hg ht hE htt hA hL hT hTl hAl eT eA
    go_wp2_with fail
    refine C1.out.mono ?_
    rintro e w3 ⟨pa, ca, pt, ct, rfl, oA, oT, hb1⟩
    have iA := oA.ints
    have iT := oT.ints
    replace hx := hx.below hb1 (Nat.le_refl _)
    replace hy := hy.below hb1 (Nat.le_refl _)
    replace bX := bX.below hb1
    replace x0 := bX.cell 0 _ rfl
    replace hB := hB.trans (hb1.mono hB.size)
    clear hb1 oA oT
    go_wp2_with fail
    refine (ref16Valid_any p c v pa ca A _ hx iA).mono ?_
    rintro e w4 ⟨rfl, hb1⟩
    rw [HA.out, HTl.out]
    replace hx := hx.below hb1 (Nat.le_refl _)
    replace hy := hy.below hb1 (Nat.le_refl _)
    replace iA := iA.below hb1 (Nat.le_refl _)
    replace iT := iT.below hb1 (Nat.le_refl _)
    replace bX := bX.below hb1
    replace x0 := bX.cell 0 _ rfl
    replace hB := hB.trans (hb1.mono hB.size)
    clear hb1
    have hne : ((ts.length : Int) != (ts.length : Int)) = false := by simp
    have hal : A.length ≤ 10 := by rw [HAl.out]; exact Hm.out
    obtain ⟨G, hGs⟩ : ∃ G, w4.heap.size = G := ⟨_, rfl⟩
    have hlX := bX.lt
    rw [hGs] at hlX
    have HGs := Lib.hid hGs
    have hG0 : w.heap.size ≤ G := by rw [← hGs]; exact hB.size
    clear hGs
    go_wp2_with (at_make; refine wpList_mkB rfl (.tmp 49) (.tmp 49) rfl G A.length rfl rfl (by omega) (Nat.le_of_eq HGs.out.symm) ?_; intro w5 hO hg5 hs5)
    have hb5 : Below G w4 w5 := Below.grown (Below.refl G w4) hg5 (Nat.le_of_eq HGs.out.symm) (fun k e => (by cases e))
    rw [HGs.out] at hO ⊢
    have hO0 : OwnB w5 G (some ⟨G, 0, none⟩) A.length (fillB A.length 0) := by rw [fillB_zero]; exact hO
    clear hO hg5 hs5
    have hB4 := Lib.hid hB
    clear hB
    go_wp2_with fail
    go_loopw [11] (fun t wr => ∃ k : Nat, k ≤ A.length ∧ t = .int .i64 k ∧ OwnB wr G (some ⟨G, 0, none⟩) A.length (fillB A.length k) ∧ Below G w4 wr) (fun t _ => A.length - (intOf t).toNat)
    case atStart => exact ⟨0, Nat.zero_le _, rfl, hO0, hb5⟩
    case round =>
      clear hO0 hb5
      obtain ⟨k, hk, rfl, hO, hbr⟩ := hrel
      by_cases hlt : k < A.length
      · have hk1 : (k : Int) < A.length := by omega
        have hc := hO.at (j := k) (by rw [fillB_len]; exact hlt)
        have hfz := hO.free k
        have HO := Lib.hid hO
        clear hO
        go_wp2_with fail
        go_roundw
        case rel => exact ⟨k + 1, by omega, by go_num, by rw [← fillB_set hlt]; exact (HO.out.set k true).1, hbr.setCell (p := ⟨G, k, none⟩) (Nat.le_refl _) _⟩
        case measure => simp [intOf]; omega
      · have hk1 : ¬ (k : Int) < A.length := by omega
        obtain rfl : k = A.length := by omega
        have hO0 : OwnB wr G (some ⟨G, 0, none⟩) A.length (frB (pkA v ts 0)) := by rw [pkA, ← HAl.out, ← fillB_full]; exact hO
        have hm0 : cntF (pkA v ts 0) = A.length := by rw [pkA, ← HAl.out]; exact cntF_new _
        have hm1 : Value.int .i64 (A.length : Int) = .int .i64 (cntF (pkA v ts 0) : Int) := by rw [hm0]
        have Hm1 := Lib.hid hm1
        have hb5 := hbr
        clear hO hm0 hm1 hbr
        go_wp2_with fail
        go_loopw [10, 12] (fun s i wr => ∃ t : Nat, t ≤ ts.length ∧ i = .int .i64 t ∧ s = .int .i64 (cntF (pkA v ts t) : Nat) ∧ OwnB wr G (some ⟨G, 0, none⟩) A.length (frB (pkA v ts t)) ∧ Below G w4 wr) (fun _ i _ => ts.length - (intOf i).toNat)
        case atStart => exact ⟨0, Nat.zero_le _, rfl, Hm1.out, hO0, hb5⟩
        case round =>
          clear hO0 hb5
          obtain ⟨t, ht, rfl, rfl, hO, hbr⟩ := hrel
          by_cases htl : t < ts.length
          · have ht1 : (t : Int) < ts.length := by omega
            have ht2 : (t : Int) < T.length := by rw [HTl.out]; exact ht1
            obtain ⟨bt, ot, rfl, hbt, hct⟩ := iT.get (j := t) (by rw [HTl.out]; exact htl)
            have hctr := (hbr.cell (p := ⟨bt, ot + t, none⟩) (by rw [← HGs.out]; exact hbt)).trans hct
            have hcl := pkA_len v ts t
            have hcm : cntF (pkA v ts t) ≤ 10 := by
              have := List.countP_le_length (p := fun x : Int => decide (x < 0)) (l := pkA v ts t)
              unfold cntF; have := Hm.out; omega
            rcases Hst.out t htl with ⟨h1, h2, h3⟩ | ⟨h1, x, h2, hxw, hfr, hfin, hbest, hset, hdec⟩
            · rw [h2] at hctr
              have hO1 : OwnB wr G (some ⟨G, 0, none⟩) A.length (frB (pkA v ts (t + 1))) := by rw [h3]; exact hO
              have HM : Hid (Value.int .i64 ((0 : Nat) : Int) = .int .i64 (cntF (pkA v ts (t + 1)) : Nat)) := by unfold Hid; rw [h3, h1]
              rw [h1]
              clear hO h1 h2 h3 hct
              go_wp2_with fail
              go_roundw
              case rel => exact ⟨t + 1, by omega, by go_num, HM.out, hO1, hbr⟩
              case measure => simp [intOf]; omega
            · rw [h2] at hctr
              obtain ⟨C, hC⟩ : ∃ C, cntF (pkA v ts t) = C := ⟨_, rfl⟩
              rw [hC] at h1 hdec hcm ⊢
              have hdec2 := hdec
              have hcz : ((C : Int) == 0) = false := by rw [beq_eq_false_iff_ne]; omega
              have hxA : x < A.length := by rw [HAl.out]; exact hxw
              have hxA1 : (x : Int) < A.length := by omega
              have hxd1 : decide ((x : Int) < 0) = false := by rw [decide_eq_false_iff_not]; omega
              have hxd2 : decide (A.length ≤ x) = false := by rw [decide_eq_false_iff_not]; omega
              have hc9 := hO.at (j := x) (by rw [frB_len, hcl]; exact hxw)
              rw [frB_get (by rw [hcl]; exact hxw), decide_eq_true hfr] at hc9
              have hfz := hO.free x
              obtain ⟨i, hti, hiv⟩ := HP.out.turn t htl
              obtain ⟨ba, oa, rfl, hba, hca⟩ := iA.get (j := x) hxA
              rw [hfin, hti] at hca
              have hcar := (hbr.cell (p := ⟨ba, oa + x, none⟩) (by rw [← HGs.out]; exact hba)).trans hca
              obtain ⟨bs, os, rfl, hbs, hcs⟩ := hy.get (j := t) htl
              rw [hti] at hcs
              have hcsr := (hbr.cell (p := ⟨bs, os + t, none⟩) (by rw [← HGs.out]; exact hbs)).trans hcs
              have hii : ((i : Int) != (i : Int)) = false := by simp
              have hrow := HP.out.row i hiv
              rw [hti, Int.toNat_natCast] at hbest
              have HCs := Lib.hid hcs
              have HO := Lib.hid hO
              have Hbest := Lib.hid hbest
              have Hset := Lib.hid hset
              have Hhti := Lib.hid hti
              have Hrow := Lib.hid hrow
              have Hcl := Lib.hid hcl
              clear hO hbest hset hti hca hcs hct hfin hfr hdec hrow hcl
              have HD := Lib.hid hdec2
              clear hdec2
              have hszo := hbr.size
              rw [HGs.out] at hszo
              obtain ⟨wo, rfl⟩ : ∃ wo : World, wo = wr := ⟨_, rfl⟩
              go_wp2_with fail
              go_quiet (fail)
              go_wp2_with fail
              go_loopw [14] (fun s wr => ∃ y : Nat, y ≤ A.length ∧ s = .int .i64 y ∧ Below wo.heap.size wo wr) (fun s _ => A.length - (intOf s).toNat)
              case atStart => exact ⟨0, Nat.zero_le _, rfl, below_drewN _ _ _⟩
              case round =>
                clear hc9 hfz hcar hcsr hctr
                obtain ⟨y, hyA, rfl, hby⟩ := hrel
                have hBr : Below G w4 wr := hbr.trans (hby.mono hszo)
                have hO := HO.out.below hby (Nat.le_refl _)
                by_cases hyl : y < A.length
                · have hy1 : (y : Int) < A.length := by omega
                  have hyw : y < (pkA v ts t).length := by rw [Hcl.out, ← HAl.out]; exact hyl
                  have hcy := hO.at (j := y) (by rw [frB_len]; exact hyw)
                  rw [frB_get hyw] at hcy
                  by_cases hyf : iget (pkA v ts t) y < 0
                  · rw [decide_eq_true hyf] at hcy
                    by_cases hyx : y = x
                    · have hyb : ((y : Int) != (x : Int)) = false := by rw [hyx]; simp
                      clear hyf hyx
                      go_wp2_with fail
                      go_quiet (fail)
                      go_wp2_with fail
                      go_roundw
                      case rel => exact ⟨y + 1, by omega, by go_num, hby.drewN' _⟩
                      case measure => simp [intOf]; omega
                    · have hyb : ((y : Int) != (x : Int)) = true := by rw [bne_iff_ne]; omega
                      have hbt2 : betterB (rget v i) x y = true := decide_eq_true (Hbest.out y (by rw [← HAl.out]; exact hyl) hyf hyx)
                      have bXy := bX.below (by rw [HGs.out]; exact hBr)
                      have x0 := bXy.cell 0 _ rfl
                      have hlXy := bXy.lt
                      have hcsy := (hBr.cell (p := ⟨bs, os + t, none⟩) (by rw [← HGs.out]; exact hbs)).trans HCs.out
                      have Hbt := Lib.hid (fun W (h : Below wr.heap.size wr W) => better_any p c v i x y W ((hx.below hBr (Nat.le_of_eq HGs.out)).below h (Nat.le_refl _)) hiv (by rw [Hrow.out, ← HAl.out]; exact hxA) (by rw [Hrow.out, ← HAl.out]; exact hyl) (by rw [Hrow.out, ← HAl.out]; omega))
                      rw [hbt2] at Hbt
                      have hbsz : bs < wr.heap.size := by have := hBr.size; omega
                      have hGz : G < wr.heap.size := by
                        have := HO.out.get (j := x) (by rw [frB_len, Hcl.out, ← HAl.out]; exact hxA)
                        obtain ⟨g, hg, _, hlt, _, _⟩ := this
                        have e : G = g := by simpa using hg
                        have := hby.size
                        omega
                      have Hmk : Hid (∀ W, Below wr.heap.size wr W → (W.cell? ⟨w.heap.size, 0, none⟩ = some (Value.slice p v.length c) ∧ W.cell? ⟨bs, os + t, none⟩ = some (Value.int .i64 i) ∧ W.cell? ⟨G, y, none⟩ = some (Value.bool true) ∧ Below wr.heap.size wr W)) := fun W hG => ⟨(hG.cell (p := ⟨w.heap.size, 0, none⟩) hlXy).trans x0, (hG.cell (p := ⟨bs, os + t, none⟩) hbsz).trans hcsy, (hG.cell (p := ⟨G, y, none⟩) hGz).trans hcy, hG⟩
                      clear hyf hyx bXy hbt2
                      go_wp2_with fail
                      go_region_held3 (fun W => W.cell? ⟨w.heap.size, 0, none⟩ = some (Value.slice p v.length c) ∧ W.cell? ⟨bs, os + t, none⟩ = some (Value.int .i64 i) ∧ W.cell? ⟨G, y, none⟩ = some (Value.bool true) ∧ Below wr.heap.size wr W)
                        (first | assumption | exact Hmk.out _ hGb | exact Hmk.out _ (below_drewN wr.heap.size wr 1) | exact Hmk.out _ (Below.refl _ _))
                        (first | (go_at_call 27; refine (Hbt.out _ (by go_split_ands; assumption)).mono ?_; rintro e wC ⟨rfl, hbC⟩; have hGb : Below wr.heap.size wr wC := Below.trans (by go_split_ands; assumption) (hbC.mono (Below.size (B := wr.heap.size) (w := wr) (by go_split_ands; assumption)))))
                      go_wp2_with fail
                      go_roundw
                      case rel => exact ⟨y + 1, by omega, by go_num, hby.trans (hGb.mono hby.size)⟩
                      case measure => simp [intOf]; omega
                  · rw [decide_eq_false hyf] at hcy
                    clear hyf
                    go_wp2_with fail
                    go_quiet (fail)
                    go_wp2_with fail
                    go_roundw
                    case rel => exact ⟨y + 1, by omega, by go_num, hby.drewN' _⟩
                    case measure => simp [intOf]; omega
                · have hy1 : ¬ (y : Int) < A.length := by omega
                  have hxw2 : x < (pkA v ts t).length := by rw [Hcl.out, ← HAl.out]; exact hxA
                  have hc9 := hO.at (j := x) (by rw [frB_len]; exact hxw2)
                  have hfz := hO.free x
                  have HO2 := Lib.hid (hO.set x false).1
                  rw [← frB_set _ x (Int.natCast_nonneg i), ← Hhti.out, ← Hset.out] at HO2
                  have hsz2 := hBr.size
                  rw [HGs.out] at hsz2
                  clear hO
                  go_wp2_with fail
                  go_roundw
                  case rel => exact ⟨t + 1, by omega, by go_num, by (show Value.int .i64 ((C : Int) - 1) = _); congr 1; have := HD.out; omega, HO2.out, hBr.setCell (p := ⟨G, x, none⟩) (Nat.le_refl _) _⟩
                  case measure => simp [intOf]; omega
          · have ht1 : ¬ (t : Int) < ts.length := by omega
            obtain rfl : t = ts.length := by omega
            rw [HeA.out] at hO
            have hbf := hB4.out.trans (hbr.mono hG0)
            obtain ⟨w6, rfl⟩ : ∃ w6 : World, w6 = wr := ⟨_, rfl⟩
            have iA6 := iA.below hbr (Nat.le_of_eq HGs.out)
            go_wp2_with fail
            go_loopw [15] (fun s wr => ∃ k : Nat, k ≤ A.length ∧ s = .int .i64 k ∧ ∃ n, wr = w6.drewN n) (fun s _ => A.length - (intOf s).toNat)
            case atStart => exact ⟨0, Nat.zero_le _, rfl, drew_refl _⟩
            case round =>
              obtain ⟨k, hk, rfl, hw⟩ := hrel
              by_cases hlt : k < A.length
              · have hk1 : (k : Int) < A.length := by omega
                have hck := (hO.drew hw).at (j := k) (by rw [frB_len]; exact hlt)
                rw [frB_get hlt] at hck
                obtain ⟨ba, oa, rfl, hba, hca⟩ := (iA6.drew hw).get (j := k) hlt
                have hall := (Hall.out k hlt).1
                have Hw := Lib.hid hw
                clear hw
                by_cases hneg : iget A k < 0
                · rw [decide_eq_true hneg] at hck
                  have hm1 : iget A k = -1 := by omega
                  rw [hm1] at hca
                  clear hneg hm1 hall
                  go_wp2_with fail
                  go_quiet (fail)
                  go_wp2_with fail
                  go_roundw
                  case rel => exact ⟨k + 1, by omega, by go_num, drew_drewN _ Hw.out⟩
                  case measure => simp [intOf]; omega
                · rw [decide_eq_false hneg] at hck
                  have hm1 : (iget A k == -1) = false := by rw [beq_eq_false_iff_ne]; omega
                  clear hneg hall
                  go_wp2_with fail
                  go_quiet (fail)
                  go_wp2_with fail
                  go_roundw
                  case rel => exact ⟨k + 1, by omega, by go_num, drew_drewN _ Hw.out⟩
                  case measure => simp [intOf]; omega
              · have hk1 : ¬ (k : Int) < A.length := by omega
                go_wp2_with fail
                go_ret
                exact ⟨rfl, hbf.drewP hw⟩
end Go.Proofs.Ytfagapcihacgkaa
