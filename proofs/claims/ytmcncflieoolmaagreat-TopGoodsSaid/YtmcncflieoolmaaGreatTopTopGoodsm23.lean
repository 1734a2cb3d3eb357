/- The walks of rounds.valid, rounds.pass and rounds.Replay at steps that can be replayed. -/
import Derived.Test.YtmcncflieoolmaaGreatTopTopGoodsm20
import Derived.Test.YtmcncflieoolmaaGreatTopTopGoodsm21
import Derived.Test.YtmcncflieoolmaaGreatTopTopGoodsm15
import Derived.Test.YtmcncflieoolmaaGreatTopTopGoodsm17
import Derived.Test.YtmcncflieoolmaaGreatTopTopGoodsm22
import Derived.Test.YtmcncflieoolmaaGreatTopTopGoodsm9
import Derived.Test.YtmcncflieoolmaaGreatTopTopGoodsm8
import Derived.Test.YtmcncflieoolmaaGreatTopTopGoodsm11
import Derived.Deep.DeepCutAuto
/- The walks of rounds.valid, rounds.pass and rounds.Replay at steps that can be replayed. -/
namespace Go.Proofs.YtmcncflieoolmaaGreat
set_option linter.unusedVariables false
set_option linter.unusedSimpArgs false
open Go.ChangeShapes Go.WideShapes Go.ChangeAt Go.RowKit Go.Deep

theorem circ_take {l : List Int} {n k : Nat} (h : CircOk l n) (hk : k < l.length) : hasB (l.take k) (iget l k) = false := by
  cases hh : hasB (l.take k) (iget l k) with
  | false => rfl
  | true =>
    obtain ⟨j, hj, e⟩ := (hasB_take (by omega) _).1 hh
    exact absurd e (h.inj j k hj hk)
set_option maxHeartbeats 4000000 in
set_option maxRecDepth 100000 in
theorem rvalid_any (p : Option Addr) (c : Nat) (v : List (List Int)) (q : Option Addr) (d : Nat) (l : List Int) (y z : Int) (w : World) (hx : Mat w p c v) (hi : Ints w q d l) (hg : Gds v) (hs : StepOk v (l, y, z)) :
    Calls Tryz.prog 90 #[.agg #[.slice p v.length c], .agg #[.slice q l.length d, .int .i64 y, .int .i64 z]] w fun e w' => e = .returned (.bool true) ∧ Below w.heap.size w w' := by
  obtain ⟨W00, hW00⟩ : ∃ W0, w.alloc (.cells #[.slice p v.length c] 24) = W0 := ⟨_, rfl⟩
  obtain ⟨W0, hW0⟩ : ∃ W0, W00.alloc (.cells #[.slice q l.length d, .int .i64 y, .int .i64 z] 72) = W0 := ⟨_, rfl⟩
  have hB1 : Below w.heap.size w W00 := below_alloc hW00
  have hB2 := below_alloc hW0
  have hs0 : W00.heap.size = w.heap.size + 1 := by rw [← hW00]; simp
  have bX : BoxV W0 w.heap.size [.slice p v.length c] := (BoxV.new rfl hW00).below hB2
  have bS : BoxV W0 (w.heap.size + 1) [.slice q l.length d, .int .i64 y, .int .i64 z] := BoxV.new hs0 hW0
  have hB : Below w.heap.size w W0 := hB1.trans (hB2.mono hB1.size)
  have hx := hx.below hB (Nat.le_refl _)
  have hi := hi.below hB (Nat.le_refl _)
  have x0 := bX.cell 0 _ rfl
  have s0 := bS.cell 0 _ rfl
  have s1 := bS.cell 1 _ rfl
  have s2 := bS.cell 2 _ rfl
  have HW00 := Lib.hid hW00
  have HW0 := Lib.hid hW0
  have h0v : 0 < v.length := hg.1
  have hl1 := hx.length_le
  have hl2 := hi.length_le
  clear hW0 hW00 hB1 hB2 hs0 bX bS
  rcases hs with ⟨h1, h2, h3, h4⟩ | ⟨h1, h2, h3, h4⟩
  · simp only at h1 h2 h3 h4
    obtain ⟨x, rfl⟩ : ∃ x : Nat, y = x := ⟨y.toNat, by omega⟩
    obtain ⟨g, rfl⟩ : ∃ g : Nat, z = g := ⟨z.toNat, by omega⟩
    obtain ⟨b, o', rfl, _, q0, d0, hc0, hi0⟩ := hx.get (j := 0) h0v
    rw [Nat.add_zero] at hc0
    obtain ⟨m, hm⟩ : ∃ m, wid v = m := ⟨_, rfl⟩
    have hm0 : (rget v 0).length = m := hm
    rw [hm0] at hc0
    rw [hm] at h4
    obtain ⟨l0, hl0⟩ : ∃ l0, l.length = l0 := ⟨_, rfl⟩
    rw [hl0] at s0 HW0
    rw [hl0]
    have h10 : ((l0 : Int) == 0) = true := by rw [beq_iff_eq]; omega
    have hx1 : decide ((x : Int) < v.length) = true := by rw [decide_eq_true_iff]; exact h2.2
    have hx2 : decide (x < v.length) = true := by rw [decide_eq_true_iff]; omega
    have hg1 : decide ((g : Int) < m) = true := by rw [decide_eq_true_iff]; exact h4
    have hg2 : decide (g < m) = true := by rw [decide_eq_true_iff]; omega
    have hx3 : decide ((0 : Int) ≤ x) = true := by rw [decide_eq_true_iff]; omega
    have hg3 : decide ((0 : Int) ≤ g) = true := by rw [decide_eq_true_iff]; omega
    have hv0 : (0 : Int) < v.length := by omega
    have hx4 := h2.2
    clear h1 h2 h3 hm hm0 hi0 hl0 hi
    go_enter Tryz.func90, Tryz.ntmps90
    go_wp2_with fail
    rw [HW00.out, HW0.out]
    go_quiet (fail)
    go_wp2_with fail
    go_ret
    exact ⟨rfl, hB.drewN' _⟩
  · simp only at h1 h2 h3 h4
    subst h3 h4
    have h10 : ((l.length : Int) == 0) = false := by rw [beq_eq_false_iff_ne]; omega
    have HL := Lib.hid h2
    clear h1 h2
    go_enter Tryz.func90, Tryz.ntmps90
    go_wp2_with fail
    rw [HW00.out, HW0.out]
    go_loop [4, 40] (fun s t => s = .bool false ∧ ∃ k : Nat, k ≤ l.length ∧ t = .int .i64 k) (fun _ t => l.length - (intOf t).toNat)
    case atStart => exact ⟨rfl, 0, Nat.zero_le _, rfl⟩
    case round =>
      obtain ⟨rfl, k, hk, rfl⟩ := hrel
      by_cases hlt : k < l.length
      · have hk1 : (k : Int) < l.length := by omega
        obtain ⟨b3, o3, rfl, _, hc⟩ := hi.get hlt
        have hsl := run_pre (some ⟨b3, o3, none⟩) l.length d k (by have := hi.le; omega)
        have HC := containsR (some ⟨b3, o3, none⟩) d k l (iget l k) (by omega) W0 hi
        rw [circ_take HL.out hlt] at HC
        have hr := HL.out.at' k hlt
        obtain ⟨x, hx'⟩ : ∃ x : Nat, iget l k = x := ⟨(iget l k).toNat, by omega⟩
        rw [hx'] at hc HC hr
        have HC := Lib.hid HC
        have hd1 : decide ((x : Int) < 0) = false := by rw [decide_eq_false_iff_not]; omega
        have hd2 : decide ((v.length : Int) ≤ x) = false := by rw [decide_eq_false_iff_not]; omega
        have hd3 : decide (v.length ≤ x) = false := by rw [decide_eq_false_iff_not]; omega
        have hd4 : ¬ (v.length : Int) ≤ x := by omega
        clear hx' hr
        go_wp2_with fail
        refine HC.out.mono ?_
        rintro e w' ⟨rfl, rfl⟩
        go_wp2_with fail
        go_round
        case rel => exact ⟨rfl, k + 1, by omega, by go_num⟩
        case measure => (simp [intOf] <;> omega)
      · have hk1 : ¬ (k : Int) < l.length := by omega
        go_wp2_with fail
        go_ret
        exact ⟨rfl, hB⟩

set_option maxHeartbeats 8000000 in
set_option maxRecDepth 100000 in
theorem rpass_any (p : Option Addr) (c : Nat) (v : List (List Int)) (q : Option Addr) (d m : Nat) (A : List Int) (s : Option Addr) (f : Nat) (l : List Int) (hm : A.length = m) (hmp : 0 < m) (hg : Gds v) (ha : AlcOk v A) (hlc : CircOk l v.length) (w : World) (hx : Mat w p c v) (hi : Ints w q d A) (ho : Ints w s f l) :
    Calls Tryz.prog 34 #[.agg #[.slice p v.length c], .slice q m d, .slice s l.length f] w fun e w' => ∃ g c, e = .returned (.slice (some ⟨g, 0, none⟩) m c) ∧ Own w' w.heap.size (some ⟨g, 0, none⟩) c (passL A l) ∧ Below w.heap.size w w' := by
  obtain ⟨W0, hW0⟩ : ∃ W0, w.alloc (.cells #[.slice p v.length c] 24) = W0 := ⟨_, rfl⟩
  have hB : Below w.heap.size w W0 := below_alloc hW0
  have bX : BoxV W0 w.heap.size [.slice p v.length c] := BoxV.new rfl hW0
  have x0 := bX.cell 0 _ rfl
  have HW0 := Lib.hid hW0
  clear hW0
  have Hx := Lib.hid (hx.below hB (Nat.le_refl _))
  have Hi := Lib.hid (hi.below hB (Nat.le_refl _))
  have Ho := Lib.hid (ho.below hB (Nat.le_refl _))
  have hl1 := hx.length_le
  have hll := ho.length_le
  have hv6 : v.length ≤ 6 := hg.2.1
  have h0v : 0 < v.length := hg.1
  obtain ⟨n, hn⟩ : ∃ n, v.length = n := ⟨_, rfl⟩
  have Hn := Lib.hid hn
  have hn6 : n ≤ 6 := by omega
  have hn1 : 1 ≤ n := by omega
  obtain ⟨B3, hB3⟩ : ∃ B3, W0.heap.size = B3 := ⟨_, rfl⟩
  have HB3 := Lib.hid hB3
  have hIs : Hid (∀ j, idL (j + 1) = idL j ++ [(j : Int)]) := fun j => idL_snoc j
  have hI0 : Hid (idL 0 = []) := rfl
  have hIl := Lib.hid (fun j => idL_len j)
  have HpV := Lib.hid (fun (t : List Int) (s : Option Addr) (f : Nat) (ht : t = toL l n) W hX hI hT => passR p c n v hn q d m A s f l t hm hg ha hlc (by rw [hn]; exact ht) hmp W hX hI hT)
  have Hlc2 : Hid (CircOk l n) := by unfold Hid; rw [← hn]; exact hlc
  have hsz0 := hB.size
  clear hn hB3 hx hi ho hm ha hlc hg
  go_enter Tryz.func34, Tryz.ntmps34
  go_wp2_with fail
  rw [HW0.out]
  go_loopw [7, 16] (fun s t wk => ∃ j : Nat, j ≤ v.length ∧ t = .int .i64 j ∧ (∃ zs pt ct, Hid (zs = idL j) ∧ s = .slice pt (zs : List Int).length ct ∧ Own wk B3 pt ct zs) ∧ Below B3 W0 wk) (fun _ t _ => v.length - (intOf t).toNat)
  case atStart => exact ⟨0, Nat.zero_le _, rfl, ⟨[], none, 0, hI0.out.symm, rfl, Own.ofNil _ _⟩, Below.refl _ _⟩
  case round =>
    clear x0
    obtain ⟨j, hj, rfl, ⟨zs, pt, ct, hz, rfl, hT⟩, hbk⟩ := hrel
    have hsk : B3 ≤ wr.heap.size := by have := hbk.size; have := HB3.out; omega
    by_cases hjn : j < v.length
    · have hj1 : (j : Int) < v.length := by omega
      have hzl : zs.length ≤ 900000 := by rw [hz.out, hIl.out]; omega
      have hji : in64 (j : Int) := ⟨by omega, by omega⟩
      have Hji := Lib.hid hji
      have HT := Lib.hid hT
      clear hji hT
      go_wp2_with (at_builtin; refine wpList_app1 rfl (.tmp 19) (.tmp 21) rfl B3 _ _ zs (j : Int) rfl rfl rfl HT.out Hji.out hzl hsk ?_; intro p3 c3 w3' u3 hu3 hO3 hg3 hf3)
      go_roundw
      case rel => exact ⟨j + 1, by omega, by go_num, ⟨u3, _, _, by unfold Hid; rw [hu3.out, hz.out, hIs.out], rfl, hO3⟩, hbk.grown hg3 hsk (fun k' e => (HT.out.lt k' e).1)⟩
      case measure => (simp [intOf] <;> omega)
    · have hj1 : ¬ (j : Int) < v.length := by omega
      obtain rfl : j = v.length := by omega
      have hz2 : zs = toN l n 0 := by rw [hz.out, Hn.out]; rfl
      clear hz
      subst hz2
      have hTl := Lib.hid (fun i => toN_len l n i)
      obtain ⟨gt, rfl, hgt1, hgt2, _, _⟩ := hT.get (j := 0) (by rw [hTl.out]; omega)
      have hTn : Hid (∀ i, toN l n (i + 1) = (toN l n i).set (iget l i).toNat (iget l ((i + 1) % l.length))) := fun i => rfl
      rw [hTl.out]
      go_wp2_with fail
      go_loopw [26] (fun t wk => ∃ i : Nat, i ≤ l.length ∧ t = .int .i64 i ∧ Own wk B3 (some ⟨gt, 0, none⟩) ct (toN l n i) ∧ Below B3 W0 wk) (fun t _ => l.length - (intOf t).toNat)
      case atStart => exact ⟨0, Nat.zero_le _, rfl, hT, hbk⟩
      case round =>
        clear hT hbk hsk
        obtain ⟨i, hi, rfl, hT, hbk⟩ := hrel
        have hsk : B3 ≤ wr.heap.size := by have := hbk.size; have := HB3.out; omega
        by_cases hil : i < l.length
        · have hi1 : (i : Int) < l.length := by omega
          obtain ⟨u, hu⟩ : ∃ u, (i + 1) % l.length = u := ⟨_, rfl⟩
          have hul : u < l.length := by rw [← hu]; exact Nat.mod_lt _ (by omega)
          have hmod : ((i : Int) + 1) % (l.length : Int) = (u : Int) := by rw [← hu]; simp [Int.natCast_emod]
          have hmod2 : ((i : Int) + 1).tmod (l.length : Int) = (u : Int) := by rw [Int.tmod_eq_emod_of_nonneg (by omega), hmod]
          have hu1 : (u : Int) < l.length := by omega
          have hu0 : (0 : Int) ≤ u := by omega
          have hl0 : ((l.length : Int) == 0) = false := by rw [beq_eq_false_iff_ne]; omega
          have iL := Ho.out.below hbk (Nat.le_of_eq HB3.out)
          obtain ⟨b2, o2, rfl, _, hc2⟩ := iL.get hil
          have hc3 := iL.at hul
          have hr3 := iL.rng u hul
          obtain ⟨z, hz⟩ : ∃ z : Nat, iget l i = z := ⟨(iget l i).toNat, by have := (Hlc2.out.at' i hil).1; omega⟩
          have hzn : z < n := by have := (Hlc2.out.at' i hil).2; omega
          have hz1 : (z : Int) < n := by omega
          have hz0 : (0 : Int) ≤ z := by omega
          have HTs := hTn.out i
          rw [hu, hz, Int.toNat_natCast] at HTs
          rw [hz] at hc2
          obtain ⟨y, ey⟩ : ∃ y, iget l u = y := ⟨_, rfl⟩
          rw [ey] at hc3 hr3 HTs
          obtain ⟨_, _, hcT, hfT⟩ := own_cell hT (j := z) (by rw [hTl.out]; exact hzn)
          have HT2 := Lib.hid ((hT.set z hr3).1)
          have HBk := Lib.hid (hbk.setCell (p := ⟨gt, z, none⟩) hgt1 (.int .i64 y))
          have HTs := Lib.hid HTs
          clear hu hz ey hr3 iL hT hbk
          go_wp2_with fail
          go_roundw
          case rel => exact ⟨i + 1, by omega, by go_num, by rw [HTs.out]; exact HT2.out, HBk.out⟩
          case measure => (simp [intOf] <;> omega)
        · have hi1 : ¬ (i : Int) < l.length := by omega
          obtain rfl : i = l.length := by omega
          have x0 := (bX.below (by rw [HB3.out]; exact hbk)).cell 0 _ rfl
          have HP := Lib.hid (HpV.out (toL l n) (some ⟨gt, 0, none⟩) ct rfl _ (Hx.out.below hbk (Nat.le_of_eq HB3.out)) (Hi.out.below hbk (Nat.le_of_eq HB3.out)) hT.ints)
          have hwB := HB3.out
          have hbw := hB.trans (hbk.mono (by omega))
          clear hT hbk
          go_wp2_with fail
          refine HP.out.mono ?_
          rintro e w5 ⟨g2, c2, rfl, hO2, hb⟩
          have hs2 := hbw.size
          go_wp2_with fail
          go_ret
          exact ⟨g2, c2, rfl, hO2.lower hs2, hbw.trans (hb.mono hs2)⟩
end Go.Proofs.YtmcncflieoolmaaGreat

/- The walk of rounds.Replay at steps that can be replayed. -/
namespace Go.Proofs.YtmcncflieoolmaaGreat
set_option linter.unusedVariables false
set_option linter.unusedSimpArgs false
open Go.ChangeShapes Go.WideShapes Go.ChangeAt Go.RowKit Go.Deep

theorem repStep_ok {v : List (List Int)} {a : List Int} {s : Stp} (ha : AlcOk v a) (hs : StepOk v s) : AlcOk v (repStep a s) := by
  unfold repStep
  rcases hs with ⟨h1, h2, h3, h4⟩ | ⟨h1, h2, _, _⟩
  · rw [if_pos h1]
    refine ⟨by rw [List.length_set]; exact ha.1, fun j hj => ?_⟩
    rw [List.length_set] at hj
    rw [iget_set (by rw [ha.1]; omega)]
    split
    · omega
    · exact ha.2 j hj
  · rw [if_neg h1]
    exact ⟨by rw [passL_len]; exact ha.1, passL_ok h2 ha.2⟩
theorem repTo_ok {v : List (List Int)} {S : List Stp} (h : ∀ m, m < S.length → StepOk v (sget S m)) : ∀ m, m ≤ S.length → AlcOk v (repTo v S m)
  | 0, _ => ⟨by simp [repTo], fun j hj => by
      simp [repTo] at hj ⊢
      simp [iget, List.getD, hj]; omega⟩
  | m + 1, hm => repStep_ok (repTo_ok h m (by omega)) (h m (by omega))

set_option maxHeartbeats 8000000 in
set_option maxRecDepth 100000 in
theorem replay_any (p : Option Addr) (c : Nat) (v : List (List Int)) (q : Option Addr) (d b0 : Nat) (S : List Stp) (Q : Nat → Option Addr) (D : Nat → Nat) (w : World) (hx : Mat w p c v) (hS : OwnS w b0 q d S Q D) (hg : Gds v) (hst : ∀ m, m < S.length → StepOk v (sget S m)) (hmp : 0 < S.length → 0 < wid v) (hfew : S.length ≤ 400) :
    Calls Tryz.prog 49 #[.agg #[.slice p v.length c], .slice q S.length d] w (Gives2 w (repTo v S S.length) 0) := by
  obtain ⟨W0, hW0⟩ : ∃ W0, w.alloc (.cells #[.slice p v.length c] 24) = W0 := ⟨_, rfl⟩
  have hB : Below w.heap.size w W0 := below_alloc hW0
  have bX : BoxV W0 w.heap.size [.slice p v.length c] := BoxV.new rfl hW0
  have x0 := bX.cell 0 _ rfl
  have HW0 := Lib.hid hW0
  clear hW0
  have hl1 := hx.length_le
  have hl2 := hS.cap
  have hgz : chkG v = 0 := chkG_zero.2 hg
  have K0 := goodsCheck_any p c v _ (hx.below hB (Nat.le_refl _))
  rw [hgz] at K0
  have K0 := Lib.hid K0
  have Hg := Lib.hid hg
  have Hx := Lib.hid hx
  have HS := Lib.hid hS
  have Hst := Lib.hid hst
  have Hok := Lib.hid (repTo_ok hst)
  have Hmp := Lib.hid hmp
  have h0v : 0 < v.length := hg.1
  have hm10 : wid v ≤ 10 := hg.2.2.1
  have hd400 : decide ((400 : Int) < S.length) = false := by rw [decide_eq_false_iff_not]; omega
  have Hrs : Hid (∀ m, repTo v S (m + 1) = repStep (repTo v S m) (sget S m)) := fun m => rfl
  clear hx hS hst hmp hg hgz
  go_enter Tryz.func49, Tryz.ntmps49
  go_wp2_with fail
  rw [HW0.out]
  refine K0.out.mono ?_
  rintro e w1 ⟨rfl, hb⟩
  clear x0 K0
  replace bX := bX.below hb
  replace hB := hB.trans (hb.mono hB.size)
  clear hb
  have x0 := bX.cell 0 _ rfl
  obtain ⟨b, o', rfl, _, q0, d0, hc0, hi0⟩ := (Hx.out.below hB (Nat.le_refl _)).get (j := 0) h0v
  rw [Nat.add_zero] at hc0
  obtain ⟨m, hm⟩ : ∃ m, wid v = m := ⟨_, rfl⟩
  have hm0 : (rget v 0).length = m := hm
  rw [hm0] at hc0
  rw [hm] at hm10
  have Hm := Lib.hid hm
  have hv1 : (0 : Int) < v.length := by omega
  clear hm hm0 hi0
  have hI1 := ints_one w1 (x := -1) ⟨by omega, by omega⟩ 3
  have hBa : Below w1.heap.size w1 (w1.alloc (.cells #[.int .i64 (-1)] 3)) := (Below.refl _ _).alloc (Nat.le_refl _) _
  have hc0' : (w1.alloc (.cells #[.int .i64 (-1)] 3)).cell? ⟨b, o', none⟩ = _ := (hBa.cell (p := ⟨b, o', none⟩) (World.block_lt_of_cell? _ _ hc0)).trans hc0
  have x0' : (w1.alloc (.cells #[.int .i64 (-1)] 3)).cell? ⟨w.heap.size, 0, none⟩ = _ := (hBa.cell (p := ⟨w.heap.size, 0, none⟩) (World.block_lt_of_cell? _ _ x0)).trans x0
  go_wp2_with fail
  refine (repeat1_any _ _ (-1) m _ hI1 (by omega) ⟨by omega, by omega⟩).mono ?_
  rintro e w3 ⟨g0, c1, rfl, hO, hb'⟩
  have hb := hBa.trans (hb'.mono hBa.size)
  have hbs := hBa.size
  have lX := bX.lt
  replace hO := hO.lower (base' := w.heap.size + 1) (by omega)
  clear x0 x0' hc0 hc0' hI1 hb' hBa
  replace bX := bX.below hb
  replace hB := hB.trans (hb.mono hB.size)
  clear hb hbs lX
  have hO0 : Hid (Own w3 (w.heap.size + 1) (some ⟨g0, 0, none⟩) c1 (repTo v S 0)) := by unfold Hid repTo; rw [Hm.out]; exact hO
  clear hO
  go_wp2_with fail
  go_loopw [4, 5, 7, 27] (fun s4 s5 s7 t wr => s4 = .slice none 0 0 ∧ s5 = .int .i64 0 ∧ ∃ k : Nat, k ≤ S.length ∧ t = .int .i64 k ∧ (∃ g cA, s7 = .slice (some ⟨g, 0, none⟩) m cA ∧ Own wr (w.heap.size + 1) (some ⟨g, 0, none⟩) cA (repTo v S k)) ∧ BoxV wr w.heap.size [.slice (some ⟨b, o', none⟩) v.length c] ∧ Below w.heap.size w wr) (fun _ _ _ t _ => S.length - (intOf t).toNat)
  case atStart => exact ⟨rfl, rfl, 0, Nat.zero_le _, rfl, ⟨g0, c1, rfl, hO0.out⟩, bX, hB⟩
  case round =>
    clear hO0 bX hB
    obtain ⟨rfl, rfl, k, hk, rfl, ⟨g, cA, rfl, hO⟩, bX, hbw⟩ := hrel
    by_cases hlt : k < S.length
    · have hk1 : (k : Int) < S.length := by omega
      obtain ⟨gs, rfl, _, _, hs0, hs1, hs2, hsI⟩ := (HS.out.below hbw (Nat.le_refl _)).get hlt
      have hso := Hst.out k hlt
      have hAok := Hok.out k hk
      have hRs := Hrs.out k
      have hmp : 0 < m := by have := Hmp.out (by omega); rw [Hm.out] at this; exact this
      obtain ⟨A, eA⟩ : ∃ A, repTo v S k = A := ⟨_, rfl⟩
      rw [eA] at hO hAok hRs
      have hAl : A.length = m := by rw [hAok.1]; exact Hm.out
      obtain ⟨s, es⟩ : ∃ s, sget S k = s := ⟨_, rfl⟩
      obtain ⟨l, y, z⟩ := s
      rw [es] at hs0 hs1 hs2 hsI hso hRs
      simp only at hs0 hs1 hs2 hsI
      obtain ⟨ql, hql⟩ : ∃ x, Q k = x := ⟨_, rfl⟩
      obtain ⟨dl, hdl⟩ : ∃ x, D k = x := ⟨_, rfl⟩
      rw [hql, hdl] at hs0 hsI
      obtain ⟨W1, hW1⟩ : ∃ W1, wr.alloc (.cells #[.slice ql l.length dl, .int .i64 y, .int .i64 z] 72) = W1 := ⟨_, rfl⟩
      have hb1 := below_alloc hW1
      have bS : BoxV W1 wr.heap.size [.slice ql l.length dl, .int .i64 y, .int .i64 z] := BoxV.new rfl hW1
      have bX1 := bX.below hb1
      have hbw1 := hbw.trans (hb1.mono hbw.size)
      have hO1 := hO.below hb1 (Nat.le_refl _)
      have hI1 := hsI.below hb1 (Nat.le_refl _)
      have HW1 := Lib.hid hW1
      have Alen := Lib.hid hAl
      have HA := Lib.hid hAok
      have HSo := Lib.hid hso
      have HRs := Lib.hid hRs
      obtain ⟨Bs, hBs⟩ : ∃ Bs, wr.heap.size = Bs := ⟨_, rfl⟩
      have HBs := Lib.hid hBs
      rw [hBs] at bS
      have KV := Lib.hid (rvalid_any _ c v ql dl l y z W1 (Hx.out.below hbw1 (Nat.le_refl _)) hI1 Hg.out hso)
      have x1 : (wr.alloc (.cells #[.slice ql l.length dl, .int .i64 y, .int .i64 z] 72)).cell? ⟨w.heap.size, 0, none⟩ = some (.slice (some ⟨b, o', none⟩) v.length c) := by rw [hW1]; exact bX1.cell 0 _ rfl
      have hll := hsI.length_le
      clear eA es hql hdl hW1 hb1 hBs hAl hAok hso hRs hO hsI bX hbw
      go_wp2_with fail
      rw [HW1.out]
      refine KV.out.mono ?_
      rintro e w4 ⟨rfl, hb⟩
      replace hO1 := hO1.below hb (Nat.le_refl _)
      replace hI1 := hI1.below hb (Nat.le_refl _)
      replace bX1 := bX1.below hb
      replace bS := bS.below hb
      replace hbw1 := hbw1.trans (hb.mono hbw1.size)
      clear x1 hb KV hs0 hs1 hs2
      have x0 := bX1.cell 0 _ rfl
      have s0 := bS.cell 0 _ rfl
      have s1 := bS.cell 1 _ rfl
      have s2 := bS.cell 2 _ rfl
      have hlX := bX1.lt
      rw [HBs.out]
      by_cases hl0 : l.length = 0
      · have hd : decide ((0 : Int) < l.length) = false := by rw [decide_eq_false_iff_not]; omega
        have hdn : decide (0 < l.length) = false := by rw [decide_eq_false_iff_not]; omega
        obtain ⟨h2, h3, h4⟩ : (0 ≤ y ∧ y < v.length) ∧ 0 ≤ z ∧ z < m := by
          rcases HSo.out with ⟨_, h2, h3, h4⟩ | ⟨h1, _⟩
          · exact ⟨h2, h3, by rw [Hm.out] at h4; exact h4⟩
          · exact absurd hl0 h1
        obtain ⟨x, rfl⟩ : ∃ x : Nat, z = x := ⟨z.toNat, by omega⟩
        have hx1 : (x : Int) < m := h4
        have hx0 : (0 : Int) ≤ x := h3
        have hyi : in64 y := ⟨by omega, by omega⟩
        obtain ⟨hgw, hgl, hcA, hfA⟩ := own_cell hO1 (j := x) (by rw [Alen.out]; omega)
        have HR2 : Hid (repTo v S (k + 1) = A.set x y) := by
          unfold Hid; rw [HRs.out, repStep]; simp only [if_pos hl0, Int.toNat_natCast]
        have HO2 := Lib.hid ((hO1.set x hyi).1)
        have HX2 := Lib.hid (bX1.heap (Nat.le_of_eq (size_set _).symm) (heap_set_ne _ (g := g) (x := x) (u := .int .i64 y) (by omega)))
        have HB2 := Lib.hid (hbw1.setCell (p := ⟨g, x, none⟩) (by simp only; omega) (.int .i64 y))
        obtain ⟨l0, hl0'⟩ : ∃ l0, l.length = l0 := ⟨_, rfl⟩
        rw [hl0'] at s0 hd hdn
        clear hO1 hI1 bX1 bS hbw1 hl0 hl0' h2 h3 h4 hyi
        go_wp2_with fail
        go_roundw
        case rel => exact ⟨rfl, rfl, k + 1, by omega, by go_num, ⟨g, cA, rfl, by rw [HR2.out]; exact HO2.out⟩, HX2.out, HB2.out⟩
        case measure => (simp [intOf] <;> omega)
      · have hd : decide ((0 : Int) < l.length) = true := by rw [decide_eq_true_iff]; omega
        have hdn : decide (0 < l.length) = true := by rw [decide_eq_true_iff]; omega
        have hlc : CircOk l v.length := by
          rcases HSo.out with ⟨h1, _⟩ | ⟨_, h2, _⟩
          · exact absurd h1 hl0
          · exact h2
        have HR2 : Hid (repTo v S (k + 1) = passL A l) := by
          unfold Hid; rw [HRs.out, repStep]; simp only [if_neg hl0]
        have KP := Lib.hid (rpass_any _ c v (some ⟨g, 0, none⟩) cA m A ql dl l Alen.out hmp Hg.out HA.out hlc w4 (Hx.out.below hbw1 (Nat.le_refl _)) hO1.ints hI1)
        have hsw := hbw1.size
        clear hl0 hlc hO1 hI1 bS
        go_wp2_with fail
        refine KP.out.mono ?_
        rintro e w5 ⟨g2, c2, rfl, hO2, hb⟩
        have hX2 := bX1.below hb
        have hB2 := hbw1.trans (hb.mono hsw)
        have hO3 := hO2.lower (base' := w.heap.size + 1) (by omega)
        clear x0 s0 s1 s2 hb hO2
        go_wp2_with fail
        go_roundw
        case rel => exact ⟨rfl, rfl, k + 1, by omega, by go_num, ⟨g2, c2, rfl, by rw [HR2.out]; exact hO3⟩, hX2, hB2⟩
        case measure => (simp [intOf] <;> omega)
    · have hk1 : ¬ (k : Int) < S.length := by omega
      obtain rfl : k = S.length := by omega
      have hAl : Hid ((repTo v S S.length).length = m) := by unfold Hid; rw [(Hok.out _ (Nat.le_refl _)).1]; exact Hm.out
      go_wp2_with fail
      go_ret2
      exact ⟨_, _, by rw [hAl.out]; rfl, hO.lower (by omega), hbw⟩
end Go.Proofs.YtmcncflieoolmaaGreat

/- The walk of parcenertop.worked: true for every goods, first round and the order 0, 1, .. -/
namespace Go.Proofs.YtmcncflieoolmaaGreat
set_option linter.unusedVariables false
set_option linter.unusedSimpArgs false
open Go.ChangeShapes Go.WideShapes Go.ChangeAt Go.RowKit Go.Deep

theorem rounds_as2 {n m : Nat} {f : List Int} (b : Bool) (hA : IsA f n) (hn : 1 ≤ n) (hn6 : n ≤ 6) (hm : m ≤ 60) : rndE f (m : Int) = 0 ∧ rndL f b (m : Int) = seqL f b m := by
  have h0 : rndE f (m : Int) = 0 := by
    have hl := hA.1
    refine rndE_ok (by omega) ?_ (by omega)
    rintro (h | h)
    · omega
    · rw [hl] at h; exact h hA
  exact ⟨h0, by unfold rndL; rw [if_pos h0, Int.toNat_natCast]⟩
theorem rounds_c2 (n m k : Nat) (f : List Int) (s : Option Addr) (u : Nat) (hA : IsA f n) (hk : f.length = k) (hn : 1 ≤ n) (hn6 : n ≤ 6) (hm : m ≤ 60) (w : World) (hz : Ints w s u f) :
    Calls Tryz.prog 10 #[.slice s k u, .int .i64 m] w fun e w' => ∃ p c, e = .returned (.tuple #[.slice p m c, .int .i64 0]) ∧ Ints w' p c (seqL f false m) ∧ Below w.heap.size w w' := by
  have hl := hA.1
  obtain ⟨h0, h1⟩ := rounds_as2 (m := m) false hA hn hn6 hm
  subst hk
  refine (robinRounds_any s u f m w hz (by omega)).mono ?_
  rintro e w' ⟨p, c, rfl, oX, hb⟩
  rw [h1] at oX ⊢
  rw [h0, seqL_len]
  exact ⟨p, c, rfl, oX.ints, hb⟩
theorem crounds_of {v : List (List Int)} {f : List Int} {M : Nat} (hg : Gds v) (hA : IsA f v.length) (hM : M ≤ 60) : CRounds v (seqL f false M) f := by
  have hn : 1 ≤ v.length := hg.1
  have hl := hA.1
  have hget : ∀ t, t < M → iget (seqL f false M) t = iget f (t % v.length) := fun t ht => by
    have : iget (seqL f false M) t = seqI f false t := by simp [seqL, iget, ht]
    rw [this, seqI_false, hl]
  have hturn : ∀ t, t < (seqL f false M).length → 0 ≤ iget (seqL f false M) t ∧ iget (seqL f false M) t < v.length := fun t ht => by
    rw [seqL_len] at ht
    rw [hget t ht]
    have := isA_lt hA (t % v.length) (Nat.mod_lt _ hn)
    simp only [itm] at this
    omega
  exact ⟨⟨hg, hturn⟩, hA, fun t ht => hget t (by rw [seqL_len] at ht; exact ht)⟩
theorem ordP_id (m : Nat) : OrdP (idL m) (m : Int) := by
  intro n hn
  rw [idL_len] at hn
  have e := idL_get hn
  refine ⟨by rw [e]; omega, by rw [e]; omega, ?_⟩
  intro j hj
  rw [e, idL_get (by omega)]
  omega
set_option maxHeartbeats 4000000 in
set_option maxRecDepth 100000 in
theorem worked_walk (p : Option Addr) (c : Nat) (v : List (List Int)) (s : Option Addr) (u kf : Nat) (f : List Int) (q : Option Addr) (d m : Nat) (o : List Int) (w : World) (hx : Mat w p c v) (hz : Ints w s u f) (hy : Ints w q d o) (hg : Gds v) (hA : IsA f v.length) (hkf : f.length = kf) (hm : wid v = m) (ho : o = idL m) :
    Calls Tryz.prog 19 #[.agg #[.slice p v.length c], .slice s kf u, .slice q m d] w fun e w' => e = .returned (.bool true) ∧ Below w.heap.size w w' := by
  obtain ⟨W0, hW0⟩ : ∃ W0, w.alloc (.cells #[.slice p v.length c] 24) = W0 := ⟨_, rfl⟩
  have hB : Below w.heap.size w W0 := below_alloc hW0
  have bX : BoxV W0 w.heap.size [.slice p v.length c] := BoxV.new rfl hW0
  have hx := hx.below hB (Nat.le_refl _)
  have hy := hy.below hB (Nat.le_refl _)
  have hz := hz.below hB (Nat.le_refl _)
  have hm10 : m ≤ 10 := by rw [← hm]; exact hg.2.2.1
  have hol : o.length = m := by rw [ho, idL_len]
  have hcg := chkG_ok hg
  have CR := Lib.hid (fun W (h : Below W0.heap.size W0 W) => rounds_c2 v.length m kf f s u hA hkf hg.1 hg.2.1 (by omega) W (hz.below h (Nat.le_refl _)))
  -- the turns
  obtain ⟨ts, ets⟩ : ∃ ts, seqL f false m = ts := ⟨_, rfl⟩
  have hts : ts.length = m := by rw [← ets, seqL_len]
  have hcr : CRounds v ts f := by rw [← ets]; exact crounds_of hg hA (by omega)
  have hct : chkT v.length ts = 0 := by rw [← ets]; exact seq_chkT hA hg.1 hg.2.1 false (by omega)
  have hpe : pickE v ts = 0 := by rw [pickE_ok hcg]; exact hct
  obtain ⟨A1, eA1⟩ : ∃ A, cpickL v ts = A := ⟨_, rfl⟩
  have eA1' : A1 = cpA v ts ts.length := by rw [← eA1]; unfold cpickL; rw [if_pos hpe]
  have hA1 : AlcOk v A1 := by rw [eA1']; exact cpA_alc hcr.ok (Nat.le_refl _)
  have hA1e := efx_missing (by rw [eA1']; exact c_efx hcr : EFX v A1)
  have hA1l : A1.length = m := by rw [hA1.1, hm]
  have hA1F := chkA_ok hg hA1
  have CP := Lib.hid (fun W pt ct (h : Below W0.heap.size W0 W) (ht : Ints W pt ct ts) => by
    have := choresPick_any p pt c ct v ts W (hx.below h (Nat.le_refl _)) ht
    rw [hpe] at this
    unfold GivesLL at this
    rw [eA1, hA1l, hts] at this
    exact this)
  -- the rounds
  have hord : OrdP o (wid v : Int) := by rw [ho, hm]; exact ordP_id m
  have hall := runTo_all hg hord o.length (Nat.le_refl _)
  have hre : runE v o = 0 := by unfold runE; rw [if_pos hcg, if_pos hord]
  obtain ⟨A2, eA2⟩ : ∃ A, runA v o = A := ⟨_, rfl⟩
  obtain ⟨S2, eS2⟩ : ∃ S, runS v o = S := ⟨_, rfl⟩
  have hAe : (runTo v o o.length).1 = A2 := by rw [← eA2]; unfold runA; rw [if_pos hre]
  have hSe : (runTo v o o.length).2 = S2 := by rw [← eS2]; unfold runS; rw [if_pos hre]
  rw [hAe, hSe] at hall
  have hA2l : A2.length = m := by rw [hall.alc.1, hm]
  have hA2e := efx_missing hall.efx
  have hA2F := chkA_ok hg hall.alc
  have CU := Lib.hid (fun W (h : Below W0.heap.size W0 W) => by
    have := choresRun_any p q c d v o W (hx.below h (Nat.le_refl _)) (hy.below h (Nat.le_refl _))
    rw [hre, hol] at this
    unfold GivesLS at this
    rw [eA2, eS2, hA2l] at this
    exact this)
  have hfew := hall.few
  have CY := Lib.hid (fun W ps cs b0 Q D (h : Below W0.heap.size W0 W) (hS : OwnS W b0 ps cs S2 Q D) => by
    have := replay_any p c v ps cs b0 S2 Q D W (hx.below h (Nat.le_refl _)) hS hg hall.stp (fun h => by omega) (by omega)
    rw [hall.rep] at this
    unfold Gives2 at this
    rw [hA2l] at this
    exact this)
  have CO1 := Lib.hid (fun W pa ca (h : Below W0.heap.size W0 W) (ht : Ints W pa ca A1) => by
    have := choresOne_any p c v pa ca A1 W (hx.below h (Nat.le_refl _)) ht
    unfold GivesMP at this
    rw [hA1e, hA1F, hA1l] at this
    exact this)
  have CO2 := Lib.hid (fun W pa ca (h : Below W0.heap.size W0 W) (ht : Ints W pa ca A2) => by
    have := choresOne_any p c v pa ca A2 W (hx.below h (Nat.le_refl _)) ht
    unfold GivesMP at this
    rw [hA2e, hA2F, hA2l] at this
    exact this)
  have HA2l := Lib.hid hA2l
  have HW0 := Lib.hid hW0
  have x0 := bX.cell 0 _ rfl
  clear hW0 hx hy hz hm hol ho hcg hts hcr hct hpe eA1 eA1' hA1 hA1e hA1l hA1F hord hall hre eA2 eS2 hAe hSe hA2l hA2e hA2F hfew hg hA hkf
  rw [ets] at CR
  clear ets
  go_enter Tryz.func19, Tryz.ntmps19
  go_wp2_with fail
  rw [HW0.out]
  refine (CR.out W0 (Below.refl _ _)).mono ?_
  rintro e w1 ⟨p1, c1, rfl, i1, hb1⟩
  clear x0
  have x0 := (bX.below hb1).cell 0 _ rfl
  have K := CP.out w1 p1 c1 hb1 i1
  have HB1 := Lib.hid hb1
  clear i1 hb1
  go_wp2_with fail
  refine K.mono ?_
  rintro e w2 ⟨p2, c2, p2', c2', rfl, o2, _, hb2⟩
  have hb := HB1.out.trans (hb2.mono HB1.out.size)
  clear x0 K hb2
  have x0 := (bX.below hb).cell 0 _ rfl
  have K := CU.out w2 hb
  have I2 := Lib.hid o2.ints
  have HB2 := Lib.hid hb
  clear o2 hb
  go_wp2_with fail
  refine K.mono ?_
  rintro e w3 ⟨p3, c3, p3', c3', Q3, D3, rfl, o3, oS3, hb3⟩
  have I2 := Lib.hid (I2.out.below hb3 (Nat.le_refl _))
  have hb := HB2.out.trans (hb3.mono HB2.out.size)
  clear x0 K hb3
  have x0 := (bX.below hb).cell 0 _ rfl
  have K := CY.out w3 p3' c3' _ Q3 D3 hb oS3
  have I3 := Lib.hid o3.ints
  have HB3 := Lib.hid hb
  clear o3 oS3 hb
  go_wp2_with fail
  refine K.mono ?_
  rintro e w4 ⟨p4, c4, rfl, o4, hb4⟩
  have I2 := Lib.hid (I2.out.below hb4 (Nat.le_refl _))
  have I3 := Lib.hid (I3.out.below hb4 (Nat.le_refl _))
  have hb := HB3.out.trans (hb4.mono HB3.out.size)
  clear x0 K hb4
  have x0 := (bX.below hb).cell 0 _ rfl
  have K := CO1.out w4 p2 c2 hb I2.out
  have I4 := Lib.hid o4.ints
  have HB4 := Lib.hid hb
  clear o4 hb
  go_wp2_with fail
  refine K.mono ?_
  rintro e w5 ⟨p5, c5, p5', c5', rfl, _, _, hb5⟩
  have I3 := Lib.hid (I3.out.below hb5 (Nat.le_refl _))
  have I4 := Lib.hid (I4.out.below hb5 (Nat.le_refl _))
  have hb := HB4.out.trans (hb5.mono HB4.out.size)
  clear x0 K hb5
  have x0 := (bX.below hb).cell 0 _ rfl
  have K := CO2.out w5 p3 c3 hb I3.out
  have HB5 := Lib.hid hb
  clear hb
  go_wp2_with fail
  refine K.mono ?_
  rintro e w6 ⟨p6, c6, p6', c6', rfl, _, _, hb6⟩
  have I3 := Lib.hid (I3.out.below hb6 (Nat.le_refl _))
  have I4 := Lib.hid (I4.out.below hb6 (Nat.le_refl _))
  have hb := HB5.out.trans (hb6.mono HB5.out.size)
  have K2 := sameI_true HA2l.out HA2l.out rfl I3.out I4.out
  have HB6 := Lib.hid hb
  clear x0 K hb6 hb
  go_wp2_with fail
  refine K2.mono ?_
  rintro e w7 ⟨rfl, hw7⟩
  have HB7 := Lib.hid (HB6.out.drewP hw7)
  clear hw7 K2
  go_wp2_with fail
  go_ret
  exact ⟨rfl, hB.trans (HB7.out.mono hB.size)⟩
end Go.Proofs.YtmcncflieoolmaaGreat

/- The walk of the reference's Links, for every flat. -/
namespace Go.Proofs.YtmcncflieoolmaaGreat
set_option linter.unusedVariables false
set_option linter.unusedSimpArgs false
open Go.ChangeShapes Go.WideShapes Go.ChangeAt Go.RowKit Go.Deep

end Go.Proofs.YtmcncflieoolmaaGreat
