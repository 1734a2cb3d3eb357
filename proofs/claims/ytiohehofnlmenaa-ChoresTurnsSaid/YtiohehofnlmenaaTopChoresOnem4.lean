/- ChoresOne: for every input the law returns true, and each argument reads as it read before; no condition. -/
import Derived.Test.YtiohehofnlmenaaTopChoresOnem3
import Derived.Test.YtiohehofnlmenaaTopChoresRunsm10
import Derived.Test.YtiohehofnlmenaaTopChoresRunsm2
import Derived.Test.YtiohehofnlmenaaTopChoresRunsm1
import Derived.Test.YtiohehofnlmenaaTopChoresRunsm15
import Derived.Test.YtiohehofnlmenaaTopChoresNamesm1
import Derived.Test.YtiohehofnlmenaaTopChoresRunsm17
import Derived.ChangeOld
/- The walk of rounds.Replay at steps that can be replayed. -/
namespace Go.Proofs.Ytiohehofnlmenaa
set_option linter.unusedVariables false
set_option linter.unusedSimpArgs false
open Go.ChangeShapes Go.WideShapes Go.ChangeAt Go.RowKit Go.Deep

theorem repStep_ok {v : List (List Int)} {a : List Int} {s : Stp} (ha : AlcOk v a) (hs : StepOk v s) : AlcOk v (repStep a s) := by
  unfold repStep
  rcases hs with ⟨h1, h2, h3, h4⟩ | ⟨h1, h2, _, _⟩
  · rw [if_pos h1]
    refine ⟨by rw [List.length_set]; exact ha.1, fun j hj => ?_⟩
    rw [List.length_set] at hj
    rw [iget_set (by rw [ha.1]; omega)]
    split
    · omega
    · exact ha.2 j hj
  · rw [if_neg h1]
    exact ⟨by rw [passL_len]; exact ha.1, passL_ok h2 ha.2⟩
theorem repTo_ok {v : List (List Int)} {S : List Stp} (h : ∀ m, m < S.length → StepOk v (sget S m)) : ∀ m, m ≤ S.length → AlcOk v (repTo v S m)
  | 0, _ => ⟨by simp [repTo], fun j hj => by
      simp [repTo] at hj ⊢
      simp [iget, List.getD, hj]; omega⟩
  | m + 1, hm => repStep_ok (repTo_ok h m (by omega)) (h m (by omega))

set_option maxHeartbeats 8000000 in
set_option maxRecDepth 100000 in
theorem replay_any (p : Option Addr) (c : Nat) (v : List (List Int)) (q : Option Addr) (d b0 : Nat) (S : List Stp) (Q : Nat → Option Addr) (D : Nat → Nat) (w : World) (hx : Mat w p c v) (hS : OwnS w b0 q d S Q D) (hg : Gds v) (hst : ∀ m, m < S.length → StepOk v (sget S m)) (hmp : 0 < S.length → 0 < wid v) (hfew : S.length ≤ 400) :
    Calls Try.prog 36 #[.agg #[.slice p v.length c], .slice q S.length d] w (Gives2 w (repTo v S S.length) 0) := by
  obtain ⟨W0, hW0⟩ : ∃ W0, w.alloc (.cells #[.slice p v.length c] 24) = W0 := ⟨_, rfl⟩
  have hB : Below w.heap.size w W0 := below_alloc hW0
  have bX : BoxV W0 w.heap.size [.slice p v.length c] := BoxV.new rfl hW0
  have x0 := bX.cell 0 _ rfl
  have HW0 := Lib.hid hW0
  clear hW0
  have hl1 := hx.length_le
  have hl2 := hS.cap
  have hgz : chkG v = 0 := chkG_zero.2 hg
  have K0 := goodsCheck_any p c v _ (hx.below hB (Nat.le_refl _))
  rw [hgz] at K0
  have K0 := Lib.hid K0
  have Hg := Lib.hid hg
  have Hx := Lib.hid hx
  have HS := Lib.hid hS
  have Hst := Lib.hid hst
  have Hok := Lib.hid (repTo_ok hst)
  have Hmp := Lib.hid hmp
  have h0v : 0 < v.length := hg.1
  have hm10 : wid v ≤ 10 := hg.2.2.1
  have hd400 : decide ((400 : Int) < S.length) = false := by rw [decide_eq_false_iff_not]; omega
  have Hrs : Hid (∀ m, repTo v S (m + 1) = repStep (repTo v S m) (sget S m)) := fun m => rfl
  clear hx hS hst hmp hg hgz
  go_enter Try.func36, Try.ntmps36
  go_wp2_with fail
  rw [HW0.out]
  refine K0.out.mono ?_
  rintro e w1 ⟨rfl, hb⟩
  clear x0 K0
  replace bX := bX.below hb
  replace hB := hB.trans (hb.mono hB.size)
  clear hb
  have x0 := bX.cell 0 _ rfl
  obtain ⟨b, o', rfl, _, q0, d0, hc0, hi0⟩ := (Hx.out.below hB (Nat.le_refl _)).get (j := 0) h0v
  rw [Nat.add_zero] at hc0
  obtain ⟨m, hm⟩ : ∃ m, wid v = m := ⟨_, rfl⟩
  have hm0 : (rget v 0).length = m := hm
  rw [hm0] at hc0
  rw [hm] at hm10
  have Hm := Lib.hid hm
  have hv1 : (0 : Int) < v.length := by omega
  clear hm hm0 hi0
  have hI1 := ints_one w1 (x := -1) ⟨by omega, by omega⟩ 3
  have hBa : Below w1.heap.size w1 (w1.alloc (.cells #[.int .i64 (-1)] 3)) := (Below.refl _ _).alloc (Nat.le_refl _) _
  have hc0' : (w1.alloc (.cells #[.int .i64 (-1)] 3)).cell? ⟨b, o', none⟩ = _ := (hBa.cell (p := ⟨b, o', none⟩) (World.block_lt_of_cell? _ _ hc0)).trans hc0
  have x0' : (w1.alloc (.cells #[.int .i64 (-1)] 3)).cell? ⟨w.heap.size, 0, none⟩ = _ := (hBa.cell (p := ⟨w.heap.size, 0, none⟩) (World.block_lt_of_cell? _ _ x0)).trans x0
  go_wp2_with fail
  refine (repeat1_any _ _ (-1) m _ hI1 (by omega) ⟨by omega, by omega⟩).mono ?_
  rintro e w3 ⟨g0, c1, rfl, hO, hb'⟩
  have hb := hBa.trans (hb'.mono hBa.size)
  have hbs := hBa.size
  have lX := bX.lt
  replace hO := hO.lower (base' := w.heap.size + 1) (by omega)
  clear x0 x0' hc0 hc0' hI1 hb' hBa
  replace bX := bX.below hb
  replace hB := hB.trans (hb.mono hB.size)
  clear hb hbs lX
  have hO0 : Hid (Own w3 (w.heap.size + 1) (some ⟨g0, 0, none⟩) c1 (repTo v S 0)) := by unfold Hid repTo; rw [Hm.out]; exact hO
  clear hO
  go_wp2_with fail
  go_loopw [4, 5, 7, 27] (fun s4 s5 s7 t wr => s4 = .slice none 0 0 ∧ s5 = .int .i64 0 ∧ ∃ k : Nat, k ≤ S.length ∧ t = .int .i64 k ∧ (∃ g cA, s7 = .slice (some ⟨g, 0, none⟩) m cA ∧ Own wr (w.heap.size + 1) (some ⟨g, 0, none⟩) cA (repTo v S k)) ∧ BoxV wr w.heap.size [.slice (some ⟨b, o', none⟩) v.length c] ∧ Below w.heap.size w wr) (fun _ _ _ t _ => S.length - (intOf t).toNat)
  case atStart => exact ⟨rfl, rfl, 0, Nat.zero_le _, rfl, ⟨g0, c1, rfl, hO0.out⟩, bX, hB⟩
  case round =>
    clear hO0 bX hB
    obtain ⟨rfl, rfl, k, hk, rfl, ⟨g, cA, rfl, hO⟩, bX, hbw⟩ := hrel
    by_cases hlt : k < S.length
    · have hk1 : (k : Int) < S.length := by omega
      obtain ⟨gs, rfl, _, _, hs0, hs1, hs2, hsI⟩ := (HS.out.below hbw (Nat.le_refl _)).get hlt
      have hso := Hst.out k hlt
      have hAok := Hok.out k hk
      have hRs := Hrs.out k
      have hmp : 0 < m := by have := Hmp.out (by omega); rw [Hm.out] at this; exact this
      obtain ⟨A, eA⟩ : ∃ A, repTo v S k = A := ⟨_, rfl⟩
      rw [eA] at hO hAok hRs
      have hAl : A.length = m := by rw [hAok.1]; exact Hm.out
      obtain ⟨s, es⟩ : ∃ s, sget S k = s := ⟨_, rfl⟩
      obtain ⟨l, y, z⟩ := s
      rw [es] at hs0 hs1 hs2 hsI hso hRs
      simp only at hs0 hs1 hs2 hsI
      obtain ⟨ql, hql⟩ : ∃ x, Q k = x := ⟨_, rfl⟩
      obtain ⟨dl, hdl⟩ : ∃ x, D k = x := ⟨_, rfl⟩
      rw [hql, hdl] at hs0 hsI
      obtain ⟨W1, hW1⟩ : ∃ W1, wr.alloc (.cells #[.slice ql l.length dl, .int .i64 y, .int .i64 z] 89) = W1 := ⟨_, rfl⟩
      have hb1 := below_alloc hW1
      have bS : BoxV W1 wr.heap.size [.slice ql l.length dl, .int .i64 y, .int .i64 z] := BoxV.new rfl hW1
      have bX1 := bX.below hb1
      have hbw1 := hbw.trans (hb1.mono hbw.size)
      have hO1 := hO.below hb1 (Nat.le_refl _)
      have hI1 := hsI.below hb1 (Nat.le_refl _)
      have HW1 := Lib.hid hW1
      have Alen := Lib.hid hAl
      have HA := Lib.hid hAok
      have HSo := Lib.hid hso
      have HRs := Lib.hid hRs
      obtain ⟨Bs, hBs⟩ : ∃ Bs, wr.heap.size = Bs := ⟨_, rfl⟩
      have HBs := Lib.hid hBs
      rw [hBs] at bS
      have KV := Lib.hid (rvalid_any _ c v ql dl l y z W1 (Hx.out.below hbw1 (Nat.le_refl _)) hI1 Hg.out hso)
      have x1 : (wr.alloc (.cells #[.slice ql l.length dl, .int .i64 y, .int .i64 z] 89)).cell? ⟨w.heap.size, 0, none⟩ = some (.slice (some ⟨b, o', none⟩) v.length c) := by rw [hW1]; exact bX1.cell 0 _ rfl
      have hll := hsI.length_le
      clear eA es hql hdl hW1 hb1 hBs hAl hAok hso hRs hO hsI bX hbw
      go_wp2_with fail
      rw [HW1.out]
      refine KV.out.mono ?_
      rintro e w4 ⟨rfl, hb⟩
      replace hO1 := hO1.below hb (Nat.le_refl _)
      replace hI1 := hI1.below hb (Nat.le_refl _)
      replace bX1 := bX1.below hb
      replace bS := bS.below hb
      replace hbw1 := hbw1.trans (hb.mono hbw1.size)
      clear x1 hb KV hs0 hs1 hs2
      have x0 := bX1.cell 0 _ rfl
      have s0 := bS.cell 0 _ rfl
      have s1 := bS.cell 1 _ rfl
      have s2 := bS.cell 2 _ rfl
      have hlX := bX1.lt
      rw [HBs.out]
      by_cases hl0 : l.length = 0
      · have hd : decide ((0 : Int) < l.length) = false := by rw [decide_eq_false_iff_not]; omega
        have hdn : decide (0 < l.length) = false := by rw [decide_eq_false_iff_not]; omega
        obtain ⟨h2, h3, h4⟩ : (0 ≤ y ∧ y < v.length) ∧ 0 ≤ z ∧ z < m := by
          rcases HSo.out with ⟨_, h2, h3, h4⟩ | ⟨h1, _⟩
          · exact ⟨h2, h3, by rw [Hm.out] at h4; exact h4⟩
          · exact absurd hl0 h1
        obtain ⟨x, rfl⟩ : ∃ x : Nat, z = x := ⟨z.toNat, by omega⟩
        have hx1 : (x : Int) < m := h4
        have hx0 : (0 : Int) ≤ x := h3
        have hyi : in64 y := ⟨by omega, by omega⟩
        obtain ⟨hgw, hgl, hcA, hfA⟩ := own_cell hO1 (j := x) (by rw [Alen.out]; omega)
        have HR2 : Hid (repTo v S (k + 1) = A.set x y) := by
          unfold Hid; rw [HRs.out, repStep]; simp only [if_pos hl0, Int.toNat_natCast]
        have HO2 := Lib.hid ((hO1.set x hyi).1)
        have HX2 := Lib.hid (bX1.heap (Nat.le_of_eq (size_set _).symm) (heap_set_ne _ (g := g) (x := x) (u := .int .i64 y) (by omega)))
        have HB2 := Lib.hid (hbw1.setCell (p := ⟨g, x, none⟩) (by simp only; omega) (.int .i64 y))
        obtain ⟨l0, hl0'⟩ : ∃ l0, l.length = l0 := ⟨_, rfl⟩
        rw [hl0'] at s0 hd hdn
        clear hO1 hI1 bX1 bS hbw1 hl0 hl0' h2 h3 h4 hyi
        go_wp2_with fail
        go_roundw
        case rel => exact ⟨rfl, rfl, k + 1, by omega, by go_num, ⟨g, cA, rfl, by rw [HR2.out]; exact HO2.out⟩, HX2.out, HB2.out⟩
        case measure => (simp [intOf] <;> omega)
      · have hd : decide ((0 : Int) < l.length) = true := by rw [decide_eq_true_iff]; omega
        have hdn : decide (0 < l.length) = true := by rw [decide_eq_true_iff]; omega
        have hlc : CircOk l v.length := by
          rcases HSo.out with ⟨h1, _⟩ | ⟨_, h2, _⟩
          · exact absurd h1 hl0
          · exact h2
        have HR2 : Hid (repTo v S (k + 1) = passL A l) := by
          unfold Hid; rw [HRs.out, repStep]; simp only [if_neg hl0]
        have KP := Lib.hid (rpass_any _ c v (some ⟨g, 0, none⟩) cA m A ql dl l Alen.out hmp Hg.out HA.out hlc w4 (Hx.out.below hbw1 (Nat.le_refl _)) hO1.ints hI1)
        have hsw := hbw1.size
        clear hl0 hlc hO1 hI1 bS
        go_wp2_with fail
        refine KP.out.mono ?_
        rintro e w5 ⟨g2, c2, rfl, hO2, hb⟩
        have hX2 := bX1.below hb
        have hB2 := hbw1.trans (hb.mono hsw)
        have hO3 := hO2.lower (base' := w.heap.size + 1) (by omega)
        clear x0 s0 s1 s2 hb hO2
        go_wp2_with fail
        go_roundw
        case rel => exact ⟨rfl, rfl, k + 1, by omega, by go_num, ⟨g2, c2, rfl, by rw [HR2.out]; exact hO3⟩, hX2, hB2⟩
        case measure => (simp [intOf] <;> omega)
    · have hk1 : ¬ (k : Int) < S.length := by omega
      obtain rfl : k = S.length := by omega
      have hAl : Hid ((repTo v S S.length).length = m) := by unfold Hid; rw [(Hok.out _ (Nat.le_refl _)).1]; exact Hm.out
      go_wp2_with fail
      go_ret2
      exact ⟨_, _, by rw [hAl.out]; rfl, hO.lower (by omega), hbw⟩
end Go.Proofs.Ytiohehofnlmenaa

/- The walks of the laws' fit (chores), and of the reference's Complete. -/
namespace Go.Proofs.Ytiohehofnlmenaa
set_option linter.unusedVariables false
set_option linter.unusedSimpArgs false
open Go.ChangeShapes Go.WideShapes Go.ChangeAt Go.RowKit Go.Deep
def fit24 (v : List (List Int)) (l : List Int) : Bool := decide (¬ GreatG v l ∧ chkG v = 0)
set_option maxHeartbeats 1600000 in
theorem fit24_any (p q : Option Addr) (c d : Nat) (v : List (List Int)) (l : List Int) (w : World) (hx : Mat w p c v) (hy : Ints w q d l) :
    Calls Try.prog 30 #[.agg #[.slice p v.length c], .slice q l.length d] w fun e w' => e = .returned (.bool (fit24 v l)) ∧ Below w.heap.size w w' := by
  obtain ⟨W0, hW0⟩ : ∃ W0, w.alloc (.cells #[.slice p v.length c] 24) = W0 := ⟨_, rfl⟩
  have hB : Below w.heap.size w W0 := below_alloc hW0
  have bX : BoxV W0 w.heap.size [.slice p v.length c] := BoxV.new rfl hW0
  have hx := hx.below hB (Nat.le_refl _)
  have x0 := bX.cell 0 _ rfl
  have HW0 := Lib.hid hW0
  clear hW0
  have hl1 := hx.length_le
  go_enter Try.func30, Try.ntmps30
  go_wp2_with fail
  rw [HW0.out]
  refine (great16_any p q c d v l _ hx).mono ?_
  rintro e w1 ⟨rfl, hb1⟩
  have hx := hx.below hb1 (Nat.le_refl _)
  have bX := bX.below hb1
  have x0 := bX.cell 0 _ rfl
  have hB := hB.trans (hb1.mono hB.size)
  by_cases hG : GreatG v l
  · have hg : greatG v l = true := by simp [greatG, hG]
    have HR : Hid (fit24 v l = false) := by unfold Hid fit24; rw [decide_eq_false_iff_not]; exact fun h => h.1 hG
    rw [hg]
    clear hG hb1 hg
    go_wp2_with fail
    go_ret
    exact ⟨ret_bool HR.out.symm, hB⟩
  · have hg : greatG v l = false := by simp [greatG, hG]
    have HG := Lib.hid hG
    rw [hg]
    clear hG hb1 hg
    go_wp2_with fail
    refine (ref16Check_any p c v _ hx).mono ?_
    rintro e w2 ⟨rfl, hb1⟩
    have hB := hB.trans (hb1.mono hB.size)
    have HR : Hid (fit24 v l = (chkG v == 0)) := by
      unfold Hid fit24; rw [Bool.eq_iff_iff, decide_eq_true_iff, beq_iff_eq]; exact ⟨fun h => h.2, fun h => ⟨HG.out, h⟩⟩
    cases hT : (chkG v == 0) with
    | true =>
      rw [hT] at HR
      clear hb1
      go_wp2_with fail
      go_ret
      exact ⟨ret_bool HR.out.symm, hB⟩
    | false =>
      rw [hT] at HR
      clear hb1
      go_wp2_with fail
      go_ret
      exact ⟨ret_bool HR.out.symm, hB⟩
def complP (a : List Int) : Prop := ∀ k, k < a.length → 0 ≤ iget a k
instance (a : List Int) : Decidable (complP a) := by unfold complP; infer_instance
set_option maxHeartbeats 800000 in
theorem complete_any (p : Option Addr) (c : Nat) (a : List Int) (w : World) (hx : Ints w p c a) :
    Calls Try.prog 33 #[.slice p a.length c] w fun e w' => e = .returned (.bool (decide (complP a))) ∧ w' = w := by
  have hl1 := hx.length_le
  go_enter Try.func33, Try.ntmps33
  go_wp2_with fail
  go_loop [3] (fun t => ∃ k : Nat, k ≤ a.length ∧ t = .int .i64 k ∧ Hid (∀ j, j < k → 0 ≤ iget a j)) (fun t => a.length - (intOf t).toNat)
  case atStart => exact ⟨0, Nat.zero_le _, rfl, fun j hj => absurd hj (Nat.not_lt_zero j)⟩
  case round =>
    obtain ⟨k, hk, rfl, ht⟩ := hrel
    by_cases hlt : k < a.length
    · obtain ⟨b, o, rfl, _, hc⟩ := hx.get hlt
      have hk1 : (k : Int) < a.length := by omega
      by_cases h0 : iget a k < 0
      · have hd : decide (iget a k < 0) = true := by simpa using h0
        have HP : Hid (decide (complP a) = false) := by unfold Hid; rw [decide_eq_false_iff_not]; exact fun h => by have := h k hlt; omega
        clear h0
        go_wp2_with fail
        go_ret
        exact ⟨ret_bool HP.out.symm, rfl⟩
      · have hd : decide (iget a k < 0) = false := by simpa using h0
        have HP : Hid (0 ≤ iget a k) := by unfold Hid; omega
        clear h0
        go_wp2_with fail
        go_round
        case rel => exact ⟨k + 1, by omega, by go_num, snoc_all' ht.out HP.out⟩
        case measure => simp [intOf]; omega
    · have hk1 : ¬ (k : Int) < a.length := by omega
      go_wp2_with fail
      go_ret
      exact ⟨ret_bool (decide_eq_true (fun j hj => ht.out j (by omega))).symm, rfl⟩
end Go.Proofs.Ytiohehofnlmenaa

/- Rows of bools that a call itself makes; no condition but sizes. -/
namespace Go.Proofs.Ytiohehofnlmenaa
set_option linter.unusedVariables false
set_option linter.unusedSimpArgs false
open Go.ChangeShapes Go.WideShapes Go.ChangeAt Go.RowKit Go.Deep

theorem infoBool : (Try.prog.info? 4).map (fun i => (i.zero, i.size, i.bytes)) = some (some (.bool false), 1, 1) := by kernel_rfl
def bget (bs : List Bool) (k : Nat) : Bool := bs.getD k false
theorem bget_set {xs : List Bool} {j k : Nat} {x : Bool} (hj : j < xs.length) : bget (xs.set j x) k = if j = k then x else bget xs k := by
  simp only [bget, List.getD, List.getElem?_set]
  split
  · rename_i h; subst h; simp [hj]
  · rfl
/-- The slice (p, bs.length, c) is a row of bools of the call's own. -/
def OwnB (w : World) (base : Nat) (p : Option Addr) (c : Nat) (bs : List Bool) : Prop := w.ownsRow base 4 1 (.slice p bs.length c) bs.length (bs.map Value.bool)
theorem OwnB.get {w : World} {base : Nat} {p : Option Addr} {c : Nat} {bs : List Bool} (h : OwnB w base p c bs) {j : Nat} (hj : j < bs.length) :
    ∃ g, p = some ⟨g, 0, none⟩ ∧ base ≤ g ∧ g < w.heap.size ∧ w.cell? ⟨g, j, none⟩ = some (.bool (bget bs j)) ∧ w.frozen? ⟨g, j, none⟩ = false := by
  have h' := h
  unfold OwnB at h'
  rcases h.2 with ⟨h1, h2⟩ | ⟨g, cap, cur, h1, h2, h3, h4, h5, _, _⟩
  · omega
  · simp only [Value.slice.injEq] at h1
    obtain ⟨rfl, _, rfl⟩ := h1
    refine ⟨g, rfl, h2, (Array.getElem?_eq_some_iff.1 h3).1, ?_, h'.frozenAt j⟩
    rw [h'.cellAt j (by omega)]
    simp [bget, hj]
theorem OwnB.at {w : World} {base g : Nat} {c : Nat} {bs : List Bool} (h : OwnB w base (some ⟨g, 0, none⟩) c bs) {j : Nat} (hj : j < bs.length) : w.cell? ⟨g, j, none⟩ = some (.bool (bget bs j)) := by
  have h' := h
  unfold OwnB at h'
  rw [h'.cellAt j (by omega)]
  simp [bget, hj]
theorem OwnB.free {w : World} {base g : Nat} {c : Nat} {bs : List Bool} (h : OwnB w base (some ⟨g, 0, none⟩) c bs) (j : Nat) : w.frozen? ⟨g, j, none⟩ = false := World.ownsRow.frozenAt h j
theorem OwnB.set {w : World} {base g : Nat} {c : Nat} {bs : List Bool} (h : OwnB w base (some ⟨g, 0, none⟩) c bs) (j : Nat) (x : Bool) :
    OwnB (w.setCell ⟨g, j, none⟩ (.bool x)) base (some ⟨g, 0, none⟩) c (bs.set j x) ∧ w.grownBy (w.setCell ⟨g, j, none⟩ (.bool x)) (some g) := by
  obtain ⟨h1, h2⟩ := World.ownsRow.stored h j (.bool x)
  exact ⟨by unfold OwnB; rw [List.length_set, List.map_set]; exact h1, h2⟩
theorem OwnB.drewN {w : World} {base : Nat} {p : Option Addr} {c : Nat} {bs : List Bool} (h : OwnB w base p c bs) (n : Nat) : OwnB (w.drewN n) base p c bs :=
  World.ownsRow.kept h (grownBy_of_below (below_drewN w.heap.size w n) (Nat.le_refl _) none) (by cases (Value.slice p bs.length c).ownBlock <;> simp)
theorem OwnB.drew {w w' : World} {base : Nat} {p : Option Addr} {c : Nat} {bs : List Bool} (h : OwnB w base p c bs) (hw : ∃ n, w' = w.drewN n) : OwnB w' base p c bs := by obtain ⟨n, rfl⟩ := hw; exact h.drewN n
theorem setCell_back {w : World} {g j : Nat} {u old : Value} (h : w.cell? ⟨g, j, none⟩ = some old) : (w.setCell ⟨g, j, none⟩ u).setCell ⟨g, j, none⟩ old = w := by
  have hb := World.block_lt_of_cell? _ _ h
  simp only [World.setCell]
  cases w with
  | mk heap tape drawn os output =>
    simp only [World.mk.injEq, and_true, true_and]
    apply Array.ext
    · simp
    · intro i h1 h2
      simp only [Array.getElem_modify]
      by_cases e : g = i
      · subst e
        simp only [if_true]
        simp only [World.cell?] at h
        rw [Array.getElem?_eq_getElem h2] at h
        cases ho : heap[g] with
        | cells c elem frozen =>
          rw [ho] at h
          simp at h
          simp only [Obj.cells.injEq, and_true]
          apply Array.ext
          · simp
          · intro k k1 k2
            simp only [Option.isSome_none, Bool.false_eq_true, if_false, Array.getElem_setIfInBounds]
            simp at k1
            by_cases e : j = k
            · subst e
              simp
              have := (Array.getElem?_eq_some_iff.1 h).2
              exact this.symm
            · simp [e]
              rw [Array.getElem_setIfInBounds, if_neg e]
        | _ => rfl
      · simp [e]

/-- 'make([]bool, n)', n a variable. -/
theorem wpList_mkB {w : World} {ops : Array Oper} {rest : List Oper} {o : Oper} {a : Act} {Q : Exit → Act → World → Prop} (hg : o.guard = none) (l c : Operand) (hop : o.op = Op.makeSlice 62 l c)
    (base n : Nat) (hl : a.eval l = .int .i64 (n : Int)) (hc : a.eval c = .int .i64 (n : Int)) (hn : n ≤ 1000000) (hb : base ≤ w.heap.size)
    (hK : ∀ w', OwnB w' base (some ⟨w.heap.size, 0, none⟩) n (List.replicate n false) → w.grownBy w' none → w'.heap.size = w.heap.size + 1 → wpList Try.prog ops Q rest (a.put o.dst (.slice (some ⟨w.heap.size, 0, none⟩) n n)) w') : wpList Try.prog ops Q (o :: rest) a w := by
  obtain ⟨i, hi, hz0, hz1, hz2⟩ := info_parts infoBool
  refine wpList_plain hg fun K hK' => ?_
  have hrun := run_make (P := Try.prog) w 62 4 i (.bool false) Try.underlying62 hi hz0 .i64 .i64 (n : Int) (n : Int) (by omega) (by omega) (by rw [hz2]; omega) (by omega)
  have hcs : (madeCells (Value.bool false).cells (n * 1)).toList = List.replicate n (.bool false) := by
    rw [Nat.mul_one]; exact toList_madeCells_one _ _
  unfold Oper.wp
  rw [hz1] at hrun
  simp only [Int.toNat_natCast] at hrun
  simp [execOp, hop, hl, hc, hrun, Result.andThen]
  refine hK' _ _ (hK _ ?_ (World.grownBy_alloc _ _ _) (by simp))
  have := World.ownsRow_lit (e := 4) (size := 1) (base := base) w (madeCells (Value.bool false).cells (n * 1)) n hb (by simp [maxLen]; omega) (by rw [size_madeCells])
  rw [hcs] at this
  unfold OwnB
  simpa using this
/-- The cells of a new row of bools; the walk does not look behind the name. -/
def boolCells (n : Nat) : Array Value := madeCells (Value.bool false).cells (n * 1)
theorem run_mkB (n : Nat) (hn : n ≤ 1000000) (W : World) : (Instr.makeSlice 62 (.int .i64 (n : Int)) (.int .i64 (n : Int))).run Try.prog W = .ok (.slice (some ⟨W.heap.size, 0, none⟩) n n) (W.alloc (.cells (boolCells n) 4)) := by
  obtain ⟨i, hi, hz0, hz1, hz2⟩ := info_parts infoBool
  have hrun := run_make (P := Try.prog) W 62 4 i (.bool false) Try.underlying62 hi hz0 .i64 .i64 (n : Int) (n : Int) (by omega) (by omega) (by rw [hz2]; omega) (by omega)
  rw [hz1] at hrun
  simp only [Int.toNat_natCast] at hrun
  exact hrun
theorem ownB_cells (W : World) (base n : Nat) (hn : n ≤ 1000000) (hb : base ≤ W.heap.size) : OwnB (W.alloc (.cells (boolCells n) 4)) base (some ⟨W.heap.size, 0, none⟩) n (List.replicate n false) := by
  have hcs : (boolCells n).toList = List.replicate n (.bool false) := by
    unfold boolCells; rw [Nat.mul_one]; exact toList_madeCells_one _ _
  have := World.ownsRow_lit (e := 4) (size := 1) (base := base) W (boolCells n) n hb (by simp [maxLen]; omega) (by unfold boolCells; rw [size_madeCells])
  rw [hcs] at this
  unfold OwnB
  simpa using this
end Go.Proofs.Ytiohehofnlmenaa

/- The walk of the law ChoresOne: for every chores and order it returns true, and changes nothing that was there. -/
namespace Go.Proofs.Ytiohehofnlmenaa
set_option linter.unusedVariables false
set_option linter.unusedSimpArgs false
open Go.ChangeShapes Go.WideShapes Go.ChangeAt Go.RowKit Go.Deep

theorem runE_two {v : List (List Int)} {o : List Int} (h : chkG v = 0) : (runE v o = 0 ∧ OrdP o (wid v)) ∨ (runE v o = 8 ∧ ordB o (wid v) = false) := by
  unfold runE ordB
  rw [if_pos h]
  by_cases ho : OrdP o (wid v)
  · left; exact ⟨if_pos ho, ho⟩
  · right; exact ⟨if_neg ho, decide_eq_false ho⟩

set_option maxHeartbeats 16000000 in
set_option maxRecDepth 100000 in
theorem choresOne_walk (p : Option Addr) (c : Nat) (v : List (List Int)) (q : Option Addr) (d : Nat) (o : List Int) (w : World) (hx : Mat w p c v) (hy : Ints w q d o) :
    Calls Try.prog 7 #[.agg #[.slice p v.length c], .slice q o.length d] w fun e w' => e = .returned (.bool true) ∧ Below w.heap.size w w' := by
  obtain ⟨W0, hW0⟩ : ∃ W, w.alloc (.cells #[.slice p v.length c] 24) = W := ⟨_, rfl⟩
  have hB : Below w.heap.size w W0 := below_alloc hW0
  have bX : BoxV W0 w.heap.size [.slice p v.length c] := BoxV.new rfl hW0
  have mX := hx.below hB (Nat.le_refl _)
  have mT := hy.below hB (Nat.le_refl _)
  have HW0 := Lib.hid hW0
  clear hW0 hx hy
  go_enter Try.func7, Try.ntmps7
  go_wp2_with fail
  rw [HW0.out]
  refine (alive24_any _).mono ?_
  rintro e w1 ⟨rfl, hb⟩
  replace mX := mX.below hb (Nat.le_refl _)
  replace mT := mT.below hb (Nat.le_refl _)
  replace bX := bX.below hb
  replace hB := hB.trans (hb.mono hB.size)
  clear hb
  have x0 := bX.cell 0 _ rfl
  go_wp2_with fail
  refine (fit24_any p q c d v o _ mX mT).mono ?_
  rintro e w2 ⟨rfl, hb⟩
  replace mX := mX.below hb (Nat.le_refl _)
  replace mT := mT.below hb (Nat.le_refl _)
  replace bX := bX.below hb
  replace hB := hB.trans (hb.mono hB.size)
  clear hb x0
  have x0 := bX.cell 0 _ rfl
  by_cases hfit : fit24 v o = true
  · rw [hfit]
    have hgz : chkG v = 0 := by unfold fit24 at hfit; rw [decide_eq_true_iff] at hfit; exact hfit.2
    have Hgz := Lib.hid hgz
    have hg := chkG_zero.1 hgz
    have Hg := Lib.hid hg
    have h0v : 0 < v.length := hg.1
    have hv6 : v.length ≤ 6 := hg.2.1
    have hm10 : wid v ≤ 10 := hg.2.2.1
    have htwo := runE_two (o := o) hgz
    have HAll := Lib.hid (fun ho => runTo_all (v := v) (o := o) hg ho o.length (Nat.le_refl _))
    have KR := Lib.hid (choresRun_any p q c d v o _ mX mT)
    clear hfit hgz hg
    go_wp2_with fail
    refine KR.out.mono ?_
    rintro e w3 ⟨pa, ca, ps, cs, Q, D, rfl, oA, oS, hb⟩
    replace mX := mX.below hb (Nat.le_refl _)
    replace mT := mT.below hb (Nat.le_refl _)
    replace bX := bX.below hb
    replace hB := hB.trans (hb.mono hB.size)
    clear hb x0 KR
    have x0 := bX.cell 0 _ rfl
    rcases htwo with ⟨hE, hOrd⟩ | ⟨hE, hOrd⟩
    · obtain ⟨hAe, hSe⟩ : runA v o = (runTo v o o.length).1 ∧ runS v o = (runTo v o o.length).2 := by
        unfold runA runS; rw [if_pos hE, if_pos hE]; exact ⟨rfl, rfl⟩
      have hall := HAll.out hOrd
      rw [← hAe, ← hSe] at hall
      have hol := ordP_len hOrd
      have hordn := hOrd
      obtain ⟨A, eA⟩ : ∃ A, runA v o = A := ⟨_, rfl⟩
      obtain ⟨S, eS⟩ : ∃ S, runS v o = S := ⟨_, rfl⟩
      rw [eA] at oA hall ⊢
      rw [eS] at oS hall ⊢
      rw [hE]
      have hAl : A.length = wid v := hall.alc.1
      have hSf := hall.few
      have hmiss := efx_missing hall.efx
      have hF := chkA_zero.2 ⟨Hg.out, hall.alc⟩
      have iA := oA.ints
      have KV := ref16Valid_any p c v pa ca A _ mX iA
      rw [hF] at KV
      have KV := Lib.hid KV
      have KO := choresOne_any p c v pa ca A
      unfold GivesMP at KO
      rw [hmiss, hF] at KO
      have KO := Lib.hid KO
      have hrep := hall.rep
      have hstp := hall.stp
      have KP := Lib.hid (fun W hX hS => by
        have := replay_any p c v ps cs w2.heap.size S Q D W hX hS Hg.out hstp (fun h => by
          have : 0 < o.length := by omega
          omega) (by omega)
        rw [hrep] at this
        exact (this : Calls Try.prog 36 #[.agg #[.slice p v.length c], .slice ps S.length cs] W (Gives2 W A 0)))
      have hob : ordB o (A.length : Int) = true := by unfold ordB; rw [hAl]; exact decide_eq_true hOrd
      have KB := ordered_any q d o (A.length : Int)
      rw [hob] at KB
      have KB := Lib.hid KB
      have hhas : ∀ j, j < A.length → (0 ≤ iget A j ↔ ∃ t, t < o.length ∧ iget o t = (j : Int)) := fun j hj => hall.has j (by omega)
      have hrg : ∀ t, t < o.length → 0 ≤ iget o t ∧ iget o t < A.length := fun t ht => by have := hOrd t ht; have h1 := this.1; have h2 := this.2.1; omega
      have Hhas := Lib.hid hhas
      have Hrg := Lib.hid hrg
      have hA10 : A.length ≤ 10 := by omega
      have hS200 : decide ((200 : Int) < S.length) = false := by rw [decide_eq_false_iff_not]; omega
      have hS200n : decide (200 < S.length) = false := by rw [decide_eq_false_iff_not]; omega
      have hcS := oS.cap
      clear hAe hSe hall hordn hE hOrd eA eS hAl hmiss hF hrep hstp hob hhas hrg oA HAll
      go_wp2_with fail
      refine KV.out.mono ?_
      rintro e w4 ⟨rfl, hb⟩
      replace mX := mX.below hb (Nat.le_refl _)
      replace mT := mT.below hb (Nat.le_refl _)
      replace iA := iA.below hb (Nat.le_refl _)
      replace oS := oS.below hb (Nat.le_refl _)
      replace bX := bX.below hb
      replace hB := hB.trans (hb.mono hB.size)
      clear hb x0 KV
      have x0 := bX.cell 0 _ rfl
      have KB2 := Lib.hid (KB.out _ mT)
      go_wp2_with fail
      refine KB2.out.mono ?_
      rintro e w5 ⟨rfl, hw⟩
      have hb : Below _ _ _ := drew_below hw
      replace mX := mX.below hb (Nat.le_refl _)
      replace mT := mT.below hb (Nat.le_refl _)
      replace iA := iA.below hb (Nat.le_refl _)
      replace oS := oS.below hb (Nat.le_refl _)
      replace bX := bX.below hb
      replace hB := hB.trans (hb.mono hB.size)
      clear hb hw x0 KB KB2
      have x0 := bX.cell 0 _ rfl
      have KO2 := Lib.hid (KO.out _ mX iA)
      go_wp2_with fail
      refine KO2.out.mono ?_
      rintro e w6 ⟨pm, cm, pq, cq, rfl, _, _, hb⟩
      replace mX := mX.below hb (Nat.le_refl _)
      replace mT := mT.below hb (Nat.le_refl _)
      replace iA := iA.below hb (Nat.le_refl _)
      replace oS := oS.below hb (Nat.le_refl _)
      replace bX := bX.below hb
      replace hB := hB.trans (hb.mono hB.size)
      clear hb x0 KO KO2
      have x0 := bX.cell 0 _ rfl
      have KP2 := Lib.hid (KP.out _ mX oS)
      go_wp2_with fail
      refine KP2.out.mono ?_
      rintro e w7 ⟨pb, cb, rfl, oB, hb⟩
      have iB := oB.ints
      replace mX := mX.below hb (Nat.le_refl _)
      replace mT := mT.below hb (Nat.le_refl _)
      replace iA := iA.below hb (Nat.le_refl _)
      replace bX := bX.below hb
      replace hB := hB.trans (hb.mono hB.size)
      clear hb x0 KP KP2 oB oS
      have x0 := bX.cell 0 _ rfl
      obtain ⟨B0, hB0⟩ : ∃ B0, w7.heap.size = B0 := ⟨_, rfl⟩
      have HB0 := Lib.hid hB0
      have hwB : w.heap.size < B0 := by have := bX.lt; omega
      have hlo := mT.length_le
      clear hB0
      go_wp2_with (at_make; refine wpList_mkB rfl (.tmp 81) (.tmp 81) rfl B0 A.length rfl rfl (by omega) (Nat.le_of_eq HB0.out.symm) ?_; intro w8 hO8 hg8 hs8)
      rw [HB0.out] at hO8 ⊢
      have hb8 : Below B0 w7 w8 := (Below.refl _ _).grown hg8 (Nat.le_of_eq HB0.out.symm) (fun k' e => by cases e)
      clear hg8 hs8
      have HT := Lib.hid (fun W (h : Below B0 w7 W) => mT.below h (Nat.le_of_eq HB0.out))
      have HA := Lib.hid (fun W (h : Below B0 w7 W) => iA.below h (Nat.le_of_eq HB0.out))
      have HIB := Lib.hid (fun W (h : Below B0 w7 W) => iB.below h (Nat.le_of_eq HB0.out))
      have HBw := Lib.hid hB
      clear mX mT iA iB bX hB x0
      obtain ⟨n, hn⟩ : ∃ n, A.length = n := ⟨_, rfl⟩
      have Hn := Lib.hid hn
      clear hn
      go_wp2_with fail
      go_loopw [15] (fun t wr => ∃ m : Nat, m ≤ o.length ∧ t = .int .i64 m ∧ ∃ bs, Hid (bs.length = n) ∧ OwnB wr B0 (some ⟨B0, 0, none⟩) A.length bs ∧ Hid (∀ i, i < n → (bget bs i = true ↔ ∃ j, j < m ∧ iget o j = (i : Int))) ∧ Below B0 w7 wr) (fun t _ => o.length - (intOf t).toNat)
      case atStart => exact ⟨0, Nat.zero_le _, rfl, List.replicate A.length false, by unfold Hid; rw [List.length_replicate, Hn.out], hO8, fun i hi => by simp [bget, List.getD]; rw [List.getElem?_replicate]; split <;> simp, hb8⟩
      case round =>
        clear hO8 hb8
        obtain ⟨m, hm, rfl, bs, hbl, hO, hbs, hbr⟩ := hrel
        by_cases hlt : m < o.length
        · have hm1 : (m : Int) < o.length := by omega
          obtain ⟨b3, o3, rfl, _, hc⟩ := (HT.out _ hbr).get hlt
          have hr := Hrg.out m hlt
          obtain ⟨i, ei⟩ : ∃ i : Nat, iget o m = i := ⟨(iget o m).toNat, by omega⟩
          rw [ei] at hc hr
          have hi1 : (i : Int) < A.length := hr.2
          have hi0 : (0 : Int) ≤ i := by omega
          have hin : i < n := by have := Hn.out; omega
          have hib : i < bs.length := by rw [hbl.out]; exact hin
          obtain ⟨g', hg', _, _, hcA, hfA⟩ := hO.get hib
          obtain rfl : B0 = g' := by simpa using hg'
          have Ei := Lib.hid ei
          have HO := Lib.hid hO
          clear ei hg' hO hr
          go_wp2_with fail
          go_roundw
          case rel =>
            have h5 := (HO.out.set i true).1
            exact ⟨m + 1, by omega, by go_num, bs.set i true, by unfold Hid; rw [List.length_set]; exact hbl.out, h5, fun k hk => by
              rw [bget_set hib]
              by_cases e : i = k
              · subst e
                simp only [if_true, true_iff]
                exact ⟨m, by omega, Ei.out⟩
              · rw [if_neg e, hbs.out k hk]
                exact ⟨fun ⟨j, h1, h2⟩ => ⟨j, by omega, h2⟩, fun ⟨j, h1, h2⟩ => ⟨j, by
                  by_cases ej : j = m
                  · subst ej; have := Ei.out.symm.trans h2; omega
                  · omega, h2⟩⟩, hbr.setCell (p := ⟨B0, i, none⟩) (Nat.le_refl _) _⟩
          case measure => (simp [intOf] <;> omega)
        · have hm1 : ¬ (m : Int) < o.length := by omega
          obtain rfl : m = o.length := by omega
          have hcmp : Hid (∀ k, k < A.length → bget bs k = decide (0 ≤ iget A k)) := fun k hk => by
            rw [Bool.eq_iff_iff, decide_eq_true_iff, hbs.out k (by rw [← Hn.out]; exact hk), Hhas.out k hk]
          have Hcb : Hid (∀ k, k < A.length → wr.cell? ⟨B0, k, none⟩ = some (.bool (bget bs k))) := fun k hk => hO.at (by rw [hbl.out, ← Hn.out]; exact hk)
          obtain ⟨wo, hwo⟩ : ∃ wo, wr = wo := ⟨_, rfl⟩
          rw [hwo] at hbr Hcb ⊢
          clear hwo hO hm
          go_wp2_with fail
          go_loopw [16] (fun t wr => ∃ k : Nat, k ≤ A.length ∧ t = .int .i64 k ∧ ∃ N, wr = wo.drewN N) (fun t _ => A.length - (intOf t).toNat)
          case atStart => exact ⟨0, Nat.zero_le _, rfl, drew_refl _⟩
          case round =>
            obtain ⟨k, hk, rfl, hw⟩ := hrel
            have hbd := hbr.drewP hw
            by_cases hkl : k < A.length
            · have hk1 : (k : Int) < A.length := by omega
              obtain ⟨ba, oa, rfl, _, hca⟩ := (HA.out _ hbd).get hkl
              have hcb : wr.cell? ⟨B0, k, none⟩ = some (.bool (bget bs k)) := by obtain ⟨N, rfl⟩ := hw; exact Hcb.out k hkl
              have hcm := hcmp.out k hkl
              obtain ⟨x, ex⟩ : ∃ x, iget A k = x := ⟨_, rfl⟩
              rw [ex] at hca hcm
              have Hw := Lib.hid hw
              by_cases h0 : 0 ≤ x
              · have hd : decide (0 ≤ x) = true := by simpa using h0
                rw [hd] at hcm
                rw [hcm] at hcb
                clear ex hcm h0 hw hbd
                go_wp2_with fail
                go_quiet (fail)
                go_wp2_with fail
                go_roundw
                case rel => exact ⟨k + 1, by omega, by go_num, drew_drewN _ Hw.out⟩
                case measure => (simp [intOf] <;> omega)
              · have hd : decide (0 ≤ x) = false := by simpa using h0
                rw [hd] at hcm
                rw [hcm] at hcb
                clear ex hcm h0 hw hbd
                go_wp2_with fail
                go_quiet (fail)
                go_wp2_with fail
                go_roundw
                case rel => exact ⟨k + 1, by omega, by go_num, drew_drewN _ Hw.out⟩
                case measure => (simp [intOf] <;> omega)
            · have hk1 : ¬ (k : Int) < A.length := by omega
              have KE := Lib.hid (eqI_true (HA.out _ hbd) (HIB.out _ hbd))
              have HbD := Lib.hid hbd
              have hBf := HBw.out
              clear hw hbd
              go_wp2_with fail
              refine KE.out.mono ?_
              rintro e wf ⟨rfl, hw⟩
              have hbf := HbD.out.drewP hw
              clear hw
              go_wp2_with fail
              go_ret
              exact ⟨rfl, hBf.trans (hbf.mono (by omega))⟩
    · rw [hE]
      have hm0 := mX.get (j := 0) h0v
      obtain ⟨b, o', rfl, _, q0, d0, hc0, hi0⟩ := hm0
      rw [Nat.add_zero] at hc0
      have hc1 : _ = some (Value.slice q0 (wid v) d0) := hc0
      obtain ⟨m, hm⟩ : ∃ m, wid v = m := ⟨_, rfl⟩
      rw [hm] at hc1 hOrd
      have KB := ordered_any q d o (m : Int) _ mT
      rw [hOrd] at KB
      have KB := Lib.hid KB
      have hv1 : (0 : Int) < v.length := by omega
      clear hc0 hi0 hE hOrd hm HAll oA oS
      go_wp2_with fail
      refine KB.out.mono ?_
      rintro e w4 ⟨rfl, hw⟩
      have hBf := hB.drewP hw
      clear hw
      go_wp2_with fail
      go_ret
      exact ⟨rfl, hBf⟩
  · have hfit : fit24 v o = false := by simpa using hfit
    rw [hfit]
    clear hfit
    go_wp2_with fail
    go_ret
    exact ⟨rfl, hB⟩
end Go.Proofs.Ytiohehofnlmenaa

/- ChoresOne: for every input the law returns true, and each argument reads as it read before; no condition. -/
namespace Go.Proofs.Ytiohehofnlmenaa.ChoresOneTop
open Go.ChangeShapes Go.WideShapes Go.ChangeAt Go.RowKit Go.Deep
set_option linter.unusedVariables false

set_option maxRecDepth 100000 in
theorem lifted (os : Os) (started : os.Started) (H : Type) (enc : TypeId × Value → H) :
    ReturnsInHanded {} Try.checked os 7 .any (Rows.choresOneSpec.pre6 enc Try.prog Try.f7 Rows.choresOneRow.domain false) (Rows.choresOneSpec.post enc Try.prog Try.f7 false true false false) := by
  refine returnsInHanded_of_change (C := Try.checked) own started (by kernel_rfl) Try.func7
    (ChangeSpec.witness6 (enc := enc) (C := Try.checked) false ⟨#[], #[.agg #[.slice none 0 0], .slice none 0 0], []⟩ 8 (by kernel_rfl) (by kernel_rfl) (by kernel_rfl) (by kernel_rfl)) ?_
  intro W base args ds gs before hval0 hW hcnd _
  have hval : ∀ (j : Nat) t v, Try.f7.params[j]? = some t → args[j]? = some v → Value.okWide Try.prog W .any base t v := hval0
  have hW' := hW
  obtain ⟨p, q, hA0, hV, rfl, hfz, hnd⟩ := hW
  have hA : DataW.TrodAll enc Try.prog W 0 (fun _ => true) true Try.f7.params.toList args.toList ds p := hA0
  rw [Try.params7] at hA hval
  obtain ⟨v0, vs0, d0, ds0, p0, q0, hargs, rfl, rfl, h0, r0⟩ := trodAll_cons hA
  obtain ⟨v1, vs1, d1, ds1, p1, q1, rfl, rfl, rfl, h1, r1⟩ := trodAll_cons r0
  obtain ⟨rfl, rfl, rfl⟩ := trodAll_nil r1
  obtain rfl : args = #[v0, v1] := by cases args; simp_all
  obtain ⟨rfl, rfl⟩ := trodVars_none hV
  have k0 := h0
  have lt0 : ∀ x ∈ p0, x.block < W.heap.size := by obtain ⟨m, hm⟩ := k0; exact DataW.trod_lt m _ _ _ hm
  obtain ⟨a0, c0, x0, rfl, w0⟩ := open_goodsV (hval 0 24 v0 rfl rfl) h0
  have k1 := h1
  have lt1 : ∀ x ∈ p1, x.block < W.heap.size := by obtain ⟨m, hm⟩ := k1; exact DataW.trod_lt m _ _ _ hm
  obtain ⟨a1, c1, x1, rfl, w1⟩ := open_intsV (hval 1 25 v1 rfl rfl) h1
  clear hA0 hval0
  refine (choresOne_walk a0 c0 x0 a1 c1 x1 W w0 w1).mono fun e W' ⟨he, bel⟩ => ?_
  subst he
  exact ⟨_, rfl, _, _, _, [], _, [], hW', trodAll_mk1 (shut_bool Try.underlying4 _), (trodAll_cons_mk (Below.trod laidOut (by kernel_rfl) (of_decide_eq_true (by kernel_rfl)) k0 bel lt0) (trodAll_cons_mk (Below.trod laidOut (by kernel_rfl) (of_decide_eq_true (by kernel_rfl)) k1 bel lt1) trodAll_mk0)), rfl, bel.frame _, fun h => by cases h⟩

theorem over : Rows.choresOneRow.holds Try.pinned (OpenSpec.ofChange Rows.choresOneSpec) :=
  OpenClaim.holds_of_wide 7 Try.f7 rfl rfl rfl rfl rfl rfl rfl ⟨rfl, rfl, rfl, rfl, rfl⟩ rfl rfl rfl rfl rfl (by kernel_rfl) Try.func7 (by kernel_rfl)
    (of_decide_eq_true (by kernel_rfl)) (by unfold Func.isWrapper; first | (rw [if_pos (by decide +kernel)]; kernel_rfl) | (rw [if_neg (by decide +kernel)]; exact ⟨rfl, rfl⟩))
    (fun os started H enc _ => lifted os started H enc)
end Go.Proofs.Ytiohehofnlmenaa.ChoresOneTop
namespace Go.Proofs.Ytiohehofnlmenaa
/-- The statement. -/
theorem choresOne_holds : Rows.ChoresOneSaid := ChoresOneTop.over
#print axioms choresOne_holds
end Go.Proofs.Ytiohehofnlmenaa
