/- The walk of chores.One, for every chores and allocation. -/
import Derived.Test.YtiohehofnlmenaaTopChoresRunsm7
import Derived.Test.YtiohehofnlmenaaTopChoresRunsm3
import Derived.WalkMore
import Derived.Deep.LoopGhost
import Derived.Test.YtiohehofnlmenaaTopChoresRunsm6
/- The walk of chores.One, for every chores and allocation. -/
namespace Go.Proofs.Ytiohehofnlmenaa
set_option linter.unusedVariables false
set_option linter.unusedSimpArgs false
open Go.ChangeShapes Go.WideShapes Go.ChangeAt Go.RowKit Go.Deep

/-- Chore j is i's, and without it i would not envy k. -/
def oneP (v : List (List Int)) (a : List Int) (i k j : Nat) : Bool := decide (iget a j = (i : Int) ∧ worth v a i (i : Int) - worth v a i (k : Int) ≤ iget (rget v i) j)
def oneF (v : List (List Int)) (a : List Int) (x : Nat × Nat) : Int := firstN (oneP v a x.1 x.2) a.length
def mk1 (v : List (List Int)) (a : List Int) (x : Nat × Nat) : List Trip := if 0 ≤ oneF v a x then [(x.1, x.2, oneF v a x)] else []
def ms1 (v : List (List Int)) (a : List Int) (x : Nat × Nat) : List (Nat × Nat) := if 0 ≤ oneF v a x then [] else [x]
def mkL (v : List (List Int)) (a : List Int) (E : List (Nat × Nat)) : List Trip := E.flatMap (mk1 v a)
def msL (v : List (List Int)) (a : List Int) (E : List (Nat × Nat)) : List (Nat × Nat) := E.flatMap (ms1 v a)
theorem take_pget {E : List (Nat × Nat)} {k : Nat} (hk : k < E.length) : E.take (k + 1) = E.take k ++ [pget E k] := by
  rw [List.take_add_one, List.getElem?_eq_getElem hk]
  simp [pget, hk]
theorem mkL_yes {v : List (List Int)} {a : List Int} {E : List (Nat × Nat)} {k i j x : Nat} (hk : k < E.length) (hp : pget E k = (i, j)) (hx : firstN (oneP v a i j) a.length = (x : Int)) :
    mkL v a (E.take (k + 1)) = mkL v a (E.take k) ++ [(i, j, (x : Int))] ∧ msL v a (E.take (k + 1)) = msL v a (E.take k) := by
  have ho : oneF v a (i, j) = (x : Int) := hx
  have h0 : (0 : Int) ≤ (x : Int) := by omega
  rw [take_pget hk, hp]
  constructor
  · unfold mkL; rw [List.flatMap_append]; simp [mk1, ho, h0]
  · unfold msL; rw [List.flatMap_append]; simp [ms1, ho, h0]
theorem mkL_no {v : List (List Int)} {a : List Int} {E : List (Nat × Nat)} {k i j : Nat} (hk : k < E.length) (hp : pget E k = (i, j)) (hx : firstN (oneP v a i j) a.length = -1) :
    mkL v a (E.take (k + 1)) = mkL v a (E.take k) ∧ msL v a (E.take (k + 1)) = msL v a (E.take k) ++ [(i, j)] := by
  have ho : oneF v a (i, j) = -1 := hx
  rw [take_pget hk, hp]
  constructor
  · unfold mkL; rw [List.flatMap_append]; simp [mk1, ho]
  · unfold msL; rw [List.flatMap_append]; simp [ms1, ho]
theorem mkL_len (v : List (List Int)) (a : List Int) : ∀ E : List (Nat × Nat), (mkL v a E).length ≤ E.length ∧ (msL v a E).length ≤ E.length
  | [] => by simp [mkL, msL]
  | x :: E => by
    obtain ⟨h1, h2⟩ := mkL_len v a E
    have e1 : (mk1 v a x).length ≤ 1 := by unfold mk1; split <;> simp
    have e2 : (ms1 v a x).length ≤ 1 := by unfold ms1; split <;> simp
    unfold mkL msL at *
    rw [List.flatMap_cons, List.flatMap_cons, List.length_append, List.length_append, List.length_cons]
    omega
def GivesMP (w : World) (ms : List Trip) (ps : List (Nat × Nat)) (k : Int) (e : Ending) (w' : World) : Prop :=
  ∃ pm cm pq cq, e = .returned (.tuple #[.slice pm ms.length cm, .slice pq ps.length cq, .int .i64 k]) ∧ OwnT 75 w' w.heap.size pm cm ms ∧ OwnP w' w.heap.size pq cq ps ∧ Below w.heap.size w w'
def oneM (v : List (List Int)) (a : List Int) : List Trip := mkL v a (envG cP v a)
def oneN (v : List (List Int)) (a : List Int) : List (Nat × Nat) := msL v a (envG cP v a)
theorem pget_eq {E : List (Nat × Nat)} {k i j : Nat} (h1 : (pget E k).1 = i) (h2 : (pget E k).2 = j) : pget E k = (i, j) := by rw [← h1, ← h2]
theorem pget_lt {P : Nat → Nat → Bool} {n k : Nat} (hk : k < (prTo P n n).length) : (pget (prTo P n n) k).1 < n ∧ (pget (prTo P n n) k).2 < n := by
  have : pget (prTo P n n) k ∈ prTo P n n := by
    have e : pget (prTo P n n) k = (prTo P n n)[k] := by simp [pget, hk]
    rw [e]; exact List.getElem_mem hk
  obtain ⟨h1, h2, _⟩ := prTo_mem.1 this
  exact ⟨h1, h2⟩

set_option maxHeartbeats 8000000 in
set_option maxRecDepth 100000 in
theorem choresOne_any (p : Option Addr) (c : Nat) (v : List (List Int)) (q : Option Addr) (d : Nat) (a : List Int) (w : World) (hx : Mat w p c v) (hi : Ints w q d a) :
    Calls Try.prog 17 #[.agg #[.slice p v.length c], .slice q a.length d] w (GivesMP w (oneM v a) (oneN v a) (chkA v a)) := by
  obtain ⟨W0, hW0⟩ : ∃ W0, w.alloc (.cells #[.slice p v.length c] 24) = W0 := ⟨_, rfl⟩
  have hB : Below w.heap.size w W0 := below_alloc hW0
  have bX : BoxV W0 w.heap.size [.slice p v.length c] := BoxV.new rfl hW0
  have hx := hx.below hB (Nat.le_refl _)
  have hi := hi.below hB (Nat.le_refl _)
  have x0 := bX.cell 0 _ rfl
  have HW0 := Lib.hid hW0
  clear hW0
  have hl1 := hx.length_le
  have hl2 := hi.length_le
  go_enter Try.func17, Try.ntmps17
  go_wp2_with fail
  go_step3
  go_wp2_with fail
  rw [HW0.out]
  refine (choresEnvies_any p c v q d a _ hx hi).mono ?_
  rintro e w1 ⟨pe, ce, rfl, oE, hb1⟩
  replace hx := hx.below hb1 (Nat.le_refl _)
  replace hi := hi.below hb1 (Nat.le_refl _)
  replace bX := bX.below hb1
  replace x0 := bX.cell 0 _ rfl
  replace hB := hB.trans (hb1.mono hB.size)
  clear hb1
  by_cases hF : chkA v a = 0
  · have HF := Lib.hid hF
    have hM : oneM v a = mkL v a (prTo (cP v a) v.length v.length) := by unfold oneM; rw [envG_ok hF]
    have hN : oneN v a = msL v a (prTo (cP v a) v.length v.length) := by unfold oneN; rw [envG_ok hF]
    have C2 := goodsValues_any p c v q d a _ hx hi
    rw [valsL_ok hF, hF] at C2
    rw [envG_ok hF] at oE ⊢
    rw [hF]
    obtain ⟨hg, ha⟩ := chkA_zero.1 hF
    have Hg := Lib.hid hg
    have Ha := Lib.hid ha
    have C2 := Lib.hid C2
    have hcap := oE.cap
    have hElen := prTo_len (cP v a) v.length v.length
    have h66 : v.length * v.length ≤ 6 * 6 := Nat.mul_le_mul hg.2.1 hg.2.1
    have Hin := Lib.hid (fun k h => pget_lt (P := cP v a) (n := v.length) (k := k) h)
    obtain ⟨E, eE⟩ : ∃ E, prTo (cP v a) v.length v.length = E := ⟨_, rfl⟩
    rw [eE] at oE hcap hElen hM hN ⊢
    simp only [eE] at Hin
    have HM := Lib.hid hM
    have HN := Lib.hid hN
    clear hg ha hF eE hM hN
    go_wp2_with fail
    refine C2.out.mono ?_
    rintro e w2 ⟨pv, cv, rfl, mV, hb1⟩
    rw [valsG_len]
    replace hx := hx.below hb1 (Nat.le_refl _)
    replace hi := hi.below hb1 (Nat.le_refl _)
    replace oE := oE.below hb1 (Nat.le_refl _)
    replace bX := bX.below hb1
    replace x0 := bX.cell 0 _ rfl
    replace hB := hB.trans (hb1.mono hB.size)
    clear hb1 C2
    obtain ⟨B, hBB⟩ : ∃ B, w2.heap.size = B := ⟨_, rfl⟩
    have HBB := Lib.hid hBB
    have hwB : w.heap.size ≤ B := by have := hB.size; omega
    have hlX := bX.lt
    rw [hBB] at hlX
    clear hBB
    go_wp2_with fail
    go_step3
    go_wp2_with fail
    go_loopw [4, 5, 32] (fun s u t wr => ∃ k : Nat, k ≤ E.length ∧ t = .int .i64 k ∧ (∃ zs qz dz ys qy dy, Hid (zs = mkL v a (E.take k)) ∧ s = .slice qz (zs : List Trip).length dz ∧ OwnT 75 wr B qz dz zs ∧ Hid (ys = msL v a (E.take k)) ∧ u = .slice qy (ys : List (Nat × Nat)).length dy ∧ OwnP wr B qy dy ys ∧ (∀ g, blk qz = some g → blk qy ≠ some g)) ∧ Below B w2 wr) (fun _ _ t _ => E.length - (intOf t).toNat)
    case atStart => exact ⟨0, Nat.zero_le _, rfl, ⟨[], none, 0, [], none, 0, rfl, rfl, OwnT.ofNil _ _, rfl, rfl, OwnP.ofNil _ _, fun g h => (by cases h)⟩, Below.refl _ _⟩
    case round =>
      obtain ⟨k, hk, rfl, ⟨zs, qz, dz, ys, qy, dy, hz, rfl, hO, hy, rfl, hP, hsep⟩, hbr⟩ := hrel
      by_cases hlt : k < E.length
      · have hk1 : (k : Int) < E.length := by omega
        obtain ⟨ge, rfl, _, _, hce, hce2⟩ := (oE.below hbr (Nat.le_of_eq HBB.out)).get hlt
        obtain ⟨h1, h2⟩ := Hin.out k hlt
        obtain ⟨i, ei⟩ : ∃ i, (pget E k).1 = i := ⟨_, rfl⟩
        obtain ⟨j, ej⟩ : ∃ j, (pget E k).2 = j := ⟨_, rfl⟩
        have hpk := pget_eq ei ej
        rw [ei] at hce h1
        rw [ej] at hce2 h2
        have HY := Lib.hid (fun x (h : firstN (oneP v a i j) a.length = ((x : Nat) : Int)) => mkL_yes hlt hpk h)
        have HNo := Lib.hid (fun (h : firstN (oneP v a i j) a.length = -1) => mkL_no hlt hpk h)
        clear ei ej hpk
        have hszB := hbr.size
        rw [HBB.out] at hszB
        obtain ⟨W1, hW1⟩ : ∃ W, wr.alloc (.cells #[.int .i64 (i : Int), .int .i64 (j : Int)] 63) = W := ⟨_, rfl⟩
        have hb1 : Below wr.heap.size wr W1 := below_alloc hW1
        have bP : BoxV W1 wr.heap.size [.int .i64 (i : Int), .int .i64 (j : Int)] := BoxV.new rfl hW1
        have hbw : Below B w2 W1 := hbr.trans (hb1.mono hszB)
        have HW1 := Lib.hid hW1
        have p0 := bP.cell 0 _ rfl
        have p1 := bP.cell 1 _ rfl
        obtain ⟨bv, ov, rfl, _, qi, di, hcv, hI⟩ := (mV.below hbw (Nat.le_of_eq HBB.out)).get (j := i) (by rw [valsG_len]; exact h1)
        rw [valsG_row h1] at hcv hI
        rw [worthRow_len] at hcv
        obtain ⟨br, or', rfl, _, hci⟩ := hI.get (j := i) (by rw [worthRow_len]; exact h1)
        have hcj := hI.at (j := j) (by rw [worthRow_len]; exact h2)
        rw [worthRow_get h1] at hci
        rw [worthRow_get h2] at hcj
        have hyy := worth_in Hg.out Ha.out h1 (i : Int)
        have hzz := worth_in Hg.out Ha.out h1 (j : Int)
        have hi1 : (i : Int) < v.length := by omega
        have hj1 : (j : Int) < v.length := by omega
        have hone : ∀ x, oneP v a i j x = decide (iget a x = (i : Int) ∧ worth v a i (i : Int) - worth v a i (j : Int) ≤ iget (rget v i) x) := fun x => rfl
        have hlen := mkL_len v a (E.take k)
        have hzl : zs.length ≤ 900000 := by rw [hz.out]; have := hlen.1; rw [List.length_take] at this; omega
        have hyl : ys.length ≤ 900000 := by rw [hy.out]; have := hlen.2; rw [List.length_take] at this; omega
        obtain ⟨Y, eY⟩ : ∃ y, worth v a i (i : Int) = y := ⟨_, rfl⟩
        obtain ⟨Z, eZ⟩ : ∃ y, worth v a i (j : Int) = y := ⟨_, rfl⟩
        rw [eY] at hci hyy
        rw [eZ] at hcj hzz
        simp only [eY, eZ] at hone
        have Hone := Lib.hid hone
        have Hrl := Lib.hid ((Hg.out.2.2.2 i h1).1.trans Ha.out.1.symm)
        have HO := Lib.hid (hO.below hb1 (Nat.le_refl _))
        have HPw := Lib.hid (hP.below hb1 (Nat.le_refl _))
        have Hsep := Lib.hid hsep
        clear eY eZ hone hlen hI hO hP hsep
        go_wp2_with fail
        go_quiet (fail)
        go_wp2_with fail
        obtain ⟨W2, hW2⟩ : ∃ W, W1.drewN nq = W := ⟨_, rfl⟩
        have hb2 : Below W1.heap.size W1 W2 := by rw [← hW2]; exact below_drewN _ _ _
        have hbw2 : Below B w2 W2 := hbw.trans (hb2.mono (Nat.le_trans hszB hb1.size))
        have bP2 := bP.below hb2
        have x0 := (bX.below (by rw [HBB.out]; exact hbw2)).cell 0 _ rfl
        have hxr := hx.below hbw2 (Nat.le_of_eq HBB.out)
        have hir := hi.below hbw2 (Nat.le_of_eq HBB.out)
        have HO2 := Lib.hid (HO.out.below hb2 (Nat.le_refl _))
        have HP2 := Lib.hid (HPw.out.below hb2 (Nat.le_refl _))
        have hsz2 : B ≤ W2.heap.size := Nat.le_trans hszB (Nat.le_trans hb1.size hb2.size)
        have q0 := bP2.cell 0 _ rfl
        have q1 := bP2.cell 1 _ rfl
        rw [hW2]
        clear p0 p1 hcv hci hcj hW2 hW1 bP hce hce2
        obtain ⟨bx, ox, rfl, _, qx, dx, hcx, hX⟩ := hxr.get h1
        go_loopw [4, 57] (fun s t wk => ∃ x : Nat, x ≤ a.length ∧ t = .int .i64 x ∧ s = .slice qz zs.length dz ∧ Hid (∀ r, r < x → oneP v a i j r = false) ∧ wk = W2) (fun _ t _ => a.length - (intOf t).toNat)
        case atStart => exact ⟨0, Nat.zero_le _, rfl, rfl, (fun r hr => absurd hr (Nat.not_lt_zero r)), rfl⟩
        case round =>
          obtain ⟨x, hxl, rfl, rfl, hfx, rfl⟩ := hrel
          by_cases hxa : x < a.length
          · have hx1 : (x : Int) < a.length := by omega
            have hx2 : (x : Int) < (rget v i).length := by rw [Hrl.out]; exact hx1
            obtain ⟨b4, o4, rfl, _, hc4⟩ := hir.get hxa
            obtain ⟨b5, o5, rfl, _, hc5⟩ := hX.get (j := x) (by rw [Hrl.out]; exact hxa)
            have hP1 := Hone.out x
            obtain ⟨t4, e4⟩ : ∃ t, iget a x = t := ⟨_, rfl⟩
            obtain ⟨t5, e5⟩ : ∃ t, iget (rget v i) x = t := ⟨_, rfl⟩
            rw [e4] at hc4 hP1
            rw [e5] at hc5 hP1
            clear e4 e5
            have HP1 := Lib.hid hP1
            clear hP1
            by_cases he : t4 = (i : Int)
            · subst he
              have hb : ((i : Int) == (i : Int)) = true := by simp
              cases hm : decide (Y - Z ≤ t5) with
              | true =>
                have HR : Hid (oneP v a i j x = true) := by unfold Hid; rw [HP1.out]; simp at hm; simp [hm]
                obtain ⟨m1, m2⟩ := HY.out x (firstN_of hxa HR.out hfx.out)
                have Hm1 := Lib.hid m1
                have Hm2 := Lib.hid m2
                clear m1 m2
                go_wp2_with (at_builtin; refine wpList_appT rfl (.tmp 78) (.tmp 85) 40 rfl (by kernel_rfl) (by kernel_rfl) B _ _ zs i j (x : Int) rfl rfl rfl HO2.out hzl hsz2 ?_; intro p3 c3 w3 u3 hu3 hO3 hg3 hf3)
                go_roundw
                case rel => exact ⟨k + 1, by omega, by go_num, ⟨u3, _, _, ys, qy, dy, by unfold Hid; rw [hu3.out, hz.out, Hm1.out], rfl, hO3, by unfold Hid; rw [hy.out, Hm2.out], rfl, HP2.out.keptBy hg3 (fun g hg e => Hsep.out g e hg), fun g hg e => by
                  rcases hf3 g hg with h | h
                  · exact Hsep.out g h e
                  · have := (HP2.out.lt g e).2; omega⟩, hbw2.grown hg3 hsz2 (fun k' e => (HO2.out.lt k' e).1)⟩
                case measure => (simp [intOf] <;> omega)
              | false =>
                have HR : Hid (oneP v a i j x = false) := by unfold Hid; rw [HP1.out]; simp at hm; simp; omega
                go_wp2_with fail
                go_roundw
                case rel => exact ⟨x + 1, by omega, by go_num, rfl, snoc_all' hfx.out HR.out, (by first | rfl | trivial)⟩
                case measure => (simp [intOf] <;> omega)
            · have hb : (t4 == (i : Int)) = false := by simpa using he
              have HR : Hid (oneP v a i j x = false) := by unfold Hid; rw [HP1.out]; simp [he]
              clear he
              go_wp2_with fail
              go_roundw
              case rel => exact ⟨x + 1, by omega, by go_num, rfl, snoc_all' hfx.out HR.out, (by first | rfl | trivial)⟩
              case measure => (simp [intOf] <;> omega)
          · have hx1 : ¬ (x : Int) < a.length := by omega
            obtain ⟨m1, m2⟩ := HNo.out (firstN_none (fun r hr => hfx.out r (by omega)))
            have Hm1 := Lib.hid m1
            have Hm2 := Lib.hid m2
            clear m1 m2
            go_wp2_with (at_builtin; refine wpList_appP rfl (.tmp 88) (.tmp 90) rfl B _ _ ys i j rfl rfl rfl HP2.out hyl hsz2 ?_; intro p3 c3 w3 u3 hu3 hP3 hg3 hf3)
            go_roundw
            case rel => exact ⟨k + 1, by omega, by go_num, ⟨zs, qz, dz, u3, _, _, by unfold Hid; rw [hz.out, Hm1.out], rfl, HO2.out.keptBy hg3 (fun g hg e => Hsep.out g hg e), by unfold Hid; rw [hu3.out, hy.out, Hm2.out], rfl, hP3, fun g hg e => by
              rcases hf3 g e with h | h
              · exact Hsep.out g hg h
              · have := (HO2.out.lt g hg).2; omega⟩, hbw2.grown hg3 hsz2 (fun k' e => (HP2.out.lt k' e).1)⟩
            case measure => (simp [intOf] <;> omega)
      · have hk1 : ¬ (k : Int) < E.length := by omega
        obtain rfl : k = E.length := by omega
        have hzr : zs = oneM v a := by rw [hz.out, HM.out, List.take_of_length_le (Nat.le_refl _)]
        have hyr : ys = oneN v a := by rw [hy.out, HN.out, List.take_of_length_le (Nat.le_refl _)]
        subst hzr hyr
        go_wp2_with fail
        go_ret3
        rw [HF.out]
        exact ⟨qz, dz, qy, dy, rfl, hO.lower hwB, hP.lower hwB, hB.trans (hbr.mono hwB)⟩
  · have hz : (chkA v a != 0) = true := by rw [bne_iff_ne]; exact hF
    have hM : Hid (oneM v a = []) := by unfold Hid oneM; rw [envG_err hF]; rfl
    have hN : Hid (oneN v a = []) := by unfold Hid oneN; rw [envG_err hF]; rfl
    rw [envG_err hF]
    clear hF
    go_wp2_with fail
    go_ret3
    rw [hM.out, hN.out]
    exact ⟨none, 0, none, 0, rfl, OwnT.ofNil _ _, OwnP.ofNil _ _, hB⟩
end Go.Proofs.Ytiohehofnlmenaa

/- The walk of the reference's One, for every chores and allocation. -/
namespace Go.Proofs.Ytiohehofnlmenaa
set_option linter.unusedVariables false
set_option linter.unusedSimpArgs false
open Go.ChangeShapes Go.WideShapes Go.ChangeAt Go.RowKit Go.Deep

theorem contB_one {v : List (List Int)} {a : List Int} {i j x : Nat} (h : iget a x = (i : Int)) : contB v a i j (x : Int) = oneP v a i j x := by
  unfold contB oneP
  rw [if_pos ⟨by omega, by rw [Int.toNat_natCast]; exact h⟩, Int.toNat_natCast, Bool.eq_iff_iff, decide_eq_true_iff, decide_eq_true_iff]
  constructor
  · intro h1; exact ⟨h, by omega⟩
  · rintro ⟨_, h1⟩; omega
theorem oneP_off {v : List (List Int)} {a : List Int} {i j x : Nat} (h : ¬ iget a x = (i : Int)) : oneP v a i j x = false := by
  unfold oneP; rw [decide_eq_false_iff_not]; exact fun h1 => h h1.1

set_option maxHeartbeats 8000000 in
set_option maxRecDepth 100000 in
theorem ref24One_any (p : Option Addr) (c : Nat) (v : List (List Int)) (q : Option Addr) (d : Nat) (a : List Int) (w : World) (hx : Mat w p c v) (hi : Ints w q d a) :
    Calls Try.prog 18 #[.agg #[.slice p v.length c], .slice q a.length d] w (GivesMP w (oneM v a) (oneN v a) (chkA v a)) := by
  obtain ⟨W0, hW0⟩ : ∃ W0, w.alloc (.cells #[.slice p v.length c] 24) = W0 := ⟨_, rfl⟩
  have hB : Below w.heap.size w W0 := below_alloc hW0
  have bX : BoxV W0 w.heap.size [.slice p v.length c] := BoxV.new rfl hW0
  have hx := hx.below hB (Nat.le_refl _)
  have hi := hi.below hB (Nat.le_refl _)
  have x0 := bX.cell 0 _ rfl
  have HW0 := Lib.hid hW0
  clear hW0
  have hl1 := hx.length_le
  have hl2 := hi.length_le
  go_enter Try.func18, Try.ntmps18
  go_wp2_with fail
  rw [HW0.out]
  refine (ref24Envies_any p c v q d a _ hx hi).mono ?_
  rintro e w1 ⟨pe, ce, rfl, oE, hb1⟩
  replace hx := hx.below hb1 (Nat.le_refl _)
  replace hi := hi.below hb1 (Nat.le_refl _)
  replace bX := bX.below hb1
  replace x0 := bX.cell 0 _ rfl
  replace hB := hB.trans (hb1.mono hB.size)
  clear hb1
  by_cases hF : chkA v a = 0
  · have HF := Lib.hid hF
    have hM : oneM v a = mkL v a (prTo (cP v a) v.length v.length) := by unfold oneM; rw [envG_ok hF]
    have hN : oneN v a = msL v a (prTo (cP v a) v.length v.length) := by unfold oneN; rw [envG_ok hF]
    rw [envG_ok hF] at oE ⊢
    rw [hF]
    obtain ⟨hg, ha⟩ := chkA_zero.1 hF
    have HC := Lib.hid (fun (i k x : Nat) W hX hI (h : i < v.length) (hx2 : x < a.length) => content24_any p c v q d a i k (x : Int) W hX hI hg ha h (by omega) ⟨by omega, by omega⟩)
    have hcap := oE.cap
    have hElen := prTo_len (cP v a) v.length v.length
    have h66 : v.length * v.length ≤ 6 * 6 := Nat.mul_le_mul hg.2.1 hg.2.1
    have Hin := Lib.hid (fun k h => pget_lt (P := cP v a) (n := v.length) (k := k) h)
    obtain ⟨E, eE⟩ : ∃ E, prTo (cP v a) v.length v.length = E := ⟨_, rfl⟩
    rw [eE] at oE hcap hElen hM hN ⊢
    simp only [eE] at Hin
    have HM := Lib.hid hM
    have HN := Lib.hid hN
    clear hg ha hF eE hM hN
    obtain ⟨B, hBB⟩ : ∃ B, w1.heap.size = B := ⟨_, rfl⟩
    have HBB := Lib.hid hBB
    have hwB : w.heap.size ≤ B := by have := hB.size; omega
    have hlX := bX.lt
    rw [hBB] at hlX
    clear hBB
    go_wp2_with fail
    go_loopw [9, 10, 11] (fun s u t wr => ∃ k : Nat, k ≤ E.length ∧ t = .int .i64 k ∧ (∃ zs qz dz ys qy dy, Hid (zs = mkL v a (E.take k)) ∧ s = .slice qz (zs : List Trip).length dz ∧ OwnT 75 wr B qz dz zs ∧ Hid (ys = msL v a (E.take k)) ∧ u = .slice qy (ys : List (Nat × Nat)).length dy ∧ OwnP wr B qy dy ys ∧ (∀ g, blk qz = some g → blk qy ≠ some g)) ∧ Below B w1 wr) (fun _ _ t _ => E.length - (intOf t).toNat)
    case atStart => exact ⟨0, Nat.zero_le _, rfl, ⟨[], none, 0, [], none, 0, rfl, rfl, OwnT.ofNil _ _, rfl, rfl, OwnP.ofNil _ _, fun g h => (by cases h)⟩, Below.refl _ _⟩
    case round =>
      obtain ⟨k, hk, rfl, ⟨zs, qz, dz, ys, qy, dy, hz, rfl, hO, hy, rfl, hP, hsep⟩, hbr⟩ := hrel
      by_cases hlt : k < E.length
      · have hk1 : (k : Int) < E.length := by omega
        obtain ⟨ge, rfl, _, hgl, hce, hce2⟩ := (oE.below hbr (Nat.le_of_eq HBB.out)).get hlt
        obtain ⟨h1, h2⟩ := Hin.out k hlt
        obtain ⟨i, ei⟩ : ∃ i, (pget E k).1 = i := ⟨_, rfl⟩
        obtain ⟨j, ej⟩ : ∃ j, (pget E k).2 = j := ⟨_, rfl⟩
        have hpk := pget_eq ei ej
        rw [ei] at hce h1
        rw [ej] at hce2 h2
        have HY := Lib.hid (fun x (h : firstN (oneP v a i j) a.length = ((x : Nat) : Int)) => mkL_yes hlt hpk h)
        have HNo := Lib.hid (fun (h : firstN (oneP v a i j) a.length = -1) => mkL_no hlt hpk h)
        have hszB := hbr.size
        rw [HBB.out] at hszB
        have hlen := mkL_len v a (E.take k)
        have hzl : zs.length ≤ 900000 := by rw [hz.out]; have := hlen.1; rw [List.length_take] at this; omega
        have hyl : ys.length ≤ 900000 := by rw [hy.out]; have := hlen.2; rw [List.length_take] at this; omega
        have HO := Lib.hid hO
        have HPw := Lib.hid hP
        have Hsep := Lib.hid hsep
        have hoff := Lib.hid (fun x (h : ¬ iget a x = (i : Int)) => oneP_off (v := v) (j := j) h)
        have hon := Lib.hid (fun x (h : iget a x = (i : Int)) => contB_one (v := v) (j := j) h)
        clear ei ej hpk hlen hO hP hsep
        obtain ⟨wo, rfl⟩ : ∃ wo : World, wo = wr := ⟨_, rfl⟩
        go_wp2_with fail
        go_quiet (fail)
        go_wp2_with fail
        go_loopw [14] (fun t wk => ∃ x : Nat, x ≤ a.length ∧ t = .int .i64 x ∧ Hid (∀ r, r < x → oneP v a i j r = false) ∧ Below wo.heap.size wo wk) (fun t _ => a.length - (intOf t).toNat)
        case atStart => exact ⟨0, Nat.zero_le _, rfl, (fun r hr => absurd hr (Nat.not_lt_zero r)), below_drewN _ _ _⟩
        case round =>
          obtain ⟨x, hxl, rfl, hfx, hbk⟩ := hrel
          have hbw := hbr.trans (hbk.mono hszB)
          have bXk := bX.below (by rw [HBB.out]; exact hbw)
          have x0 := bXk.cell 0 _ rfl
          have hxk := hx.below hbw (Nat.le_of_eq HBB.out)
          have hik := hi.below hbw (Nat.le_of_eq HBB.out)
          by_cases hxa : x < a.length
          · have hx1 : (x : Int) < a.length := by omega
            obtain ⟨b4, o4, rfl, _, hc4⟩ := hik.get hxa
            by_cases he : iget a x = (i : Int)
            · have hcon := HC.out i j x wr hxk hik h1 hxa
              rw [hon.out x he] at hcon
              rw [he] at hc4
              have hb : ((i : Int) != (i : Int)) = false := by simp
              clear he
              cases hm : oneP v a i j x with
              | true =>
                obtain ⟨m1, m2⟩ := HY.out x (firstN_of hxa hm hfx.out)
                have Hm1 := Lib.hid m1
                have Hm2 := Lib.hid m2
                rw [hm] at hcon
                have Hcon := Lib.hid hcon
                clear hm m1 m2 hcon
                go_wp2_with fail
                refine Hcon.out.mono ?_
                rintro e wC ⟨rfl, hbC⟩
                have hb2 := hbk.trans (hbC.mono hbk.size)
                have hO2 := HO.out.below hb2 (Nat.le_refl _)
                have hP2 := HPw.out.below hb2 (Nat.le_refl _)
                have hsz2 := Nat.le_trans hszB hb2.size
                have hbw2 := hbr.trans (hb2.mono hszB)
                go_wp2_with (at_builtin; refine wpList_appT rfl (.tmp 67) (.tmp 72) 40 rfl (by kernel_rfl) (by kernel_rfl) B _ _ zs i j (x : Int) rfl rfl rfl hO2 hzl hsz2 ?_; intro p3 c3 w3 u3 hu3 hO3 hg3 hf3)
                go_roundw
                case rel => exact ⟨k + 1, by omega, by go_num, ⟨u3, _, _, ys, qy, dy, by unfold Hid; rw [hu3.out, hz.out, Hm1.out], rfl, hO3, by unfold Hid; rw [hy.out, Hm2.out], rfl, hP2.keptBy hg3 (fun g hg e => Hsep.out g e hg), fun g hg e => by
                  rcases hf3 g hg with h | h
                  · exact Hsep.out g h e
                  · have := (hP2.lt g e).2; omega⟩, hbw2.grown hg3 hsz2 (fun k' e => (hO2.lt k' e).1)⟩
                case measure => (simp [intOf] <;> omega)
              | false =>
                rw [hm] at hcon
                have Hcon := Lib.hid hcon
                have HR := Lib.hid hm
                clear hm hcon
                go_wp2_with fail
                refine Hcon.out.mono ?_
                rintro e wC ⟨rfl, hbC⟩
                go_wp2_with fail
                go_roundw
                case rel => exact ⟨x + 1, by omega, by go_num, snoc_all' hfx.out HR.out, hbk.trans (hbC.mono hbk.size)⟩
                case measure => (simp [intOf] <;> omega)
            · have hb : (iget a x != (i : Int)) = true := by rw [bne_iff_ne]; exact he
              have HR := Lib.hid (hoff.out x he)
              clear he
              go_wp2_with fail
              go_roundw
              case rel => exact ⟨x + 1, by omega, by go_num, snoc_all' hfx.out HR.out, hbk⟩
              case measure => (simp [intOf] <;> omega)
          · have hx1 : ¬ (x : Int) < a.length := by omega
            obtain ⟨m1, m2⟩ := HNo.out (firstN_none (fun r hr => hfx.out r (by omega)))
            have Hm1 := Lib.hid m1
            have Hm2 := Lib.hid m2
            have hO2 := HO.out.below hbk (Nat.le_refl _)
            have hP2 := HPw.out.below hbk (Nat.le_refl _)
            have hsz2 := Nat.le_trans hszB hbk.size
            have hcek := (hbk.cell (p := ⟨ge, k * 2, none⟩) hgl).trans hce
            have hcek2 := (hbk.cell (p := ⟨ge, k * 2 + 1, none⟩) hgl).trans hce2
            clear m1 m2
            go_wp2_with (at_builtin; refine wpList_appP rfl (.tmp 74) (.tmp 79) rfl B _ _ ys i j rfl rfl rfl hP2 hyl hsz2 ?_; intro p3 c3 w3 u3 hu3 hP3 hg3 hf3)
            go_roundw
            case rel => exact ⟨k + 1, by omega, by go_num, ⟨zs, qz, dz, u3, _, _, by unfold Hid; rw [hz.out, Hm1.out], rfl, hO2.keptBy hg3 (fun g hg e => Hsep.out g hg e), by unfold Hid; rw [hu3.out, hy.out, Hm2.out], rfl, hP3, fun g hg e => by
              rcases hf3 g e with h | h
              · exact Hsep.out g hg h
              · have := (hO2.lt g hg).2; omega⟩, hbw.grown hg3 hsz2 (fun k' e => (hP2.lt k' e).1)⟩
            case measure => (simp [intOf] <;> omega)
      · have hk1 : ¬ (k : Int) < E.length := by omega
        obtain rfl : k = E.length := by omega
        have hzr : zs = oneM v a := by rw [hz.out, HM.out, List.take_of_length_le (Nat.le_refl _)]
        have hyr : ys = oneN v a := by rw [hy.out, HN.out, List.take_of_length_le (Nat.le_refl _)]
        subst hzr hyr
        go_wp2_with fail
        go_ret3
        rw [HF.out]
        exact ⟨qz, dz, qy, dy, rfl, hO.lower hwB, hP.lower hwB, hB.trans (hbr.mono hwB)⟩
  · have hz : (chkA v a != 0) = true := by rw [bne_iff_ne]; exact hF
    have hM : Hid (oneM v a = []) := by unfold Hid oneM; rw [envG_err hF]; rfl
    have hN : Hid (oneN v a = []) := by unfold Hid oneN; rw [envG_err hF]; rfl
    rw [envG_err hF]
    clear hF
    go_wp2_with fail
    go_ret3
    rw [hM.out, hN.out]
    exact ⟨none, 0, none, 0, rfl, OwnT.ofNil _ _, OwnP.ofNil _ _, hB⟩
end Go.Proofs.Ytiohehofnlmenaa

/- The walks of chores.free and of the reference's Free; plain words for who envies nobody. -/
namespace Go.Proofs.Ytiohehofnlmenaa
set_option linter.unusedVariables false
set_option linter.unusedSimpArgs false
open Go.ChangeShapes Go.WideShapes Go.ChangeAt Go.RowKit Go.Deep

theorem firstN_congr {P Q : Nat → Bool} {n : Nat} (h : ∀ j, j < n → P j = Q j) : firstN P n = firstN Q n := by
  cases ha : anyN Q n with
  | false => rw [firstN_none (anyN_false.1 ha), firstN_none (fun j hj => by rw [h j hj]; exact anyN_false.1 ha j hj)]
  | true =>
    obtain ⟨k, hk, hkn, hP, hb⟩ := firstN_lt ha
    rw [hk, firstN_of hkn (by rw [h k hkn]; exact hP) (fun j hj => by rw [h j (by omega)]; exact hb j hj)]
theorem firstN_range (P : Nat → Bool) (n : Nat) : -1 ≤ firstN P n ∧ firstN P n < n := by
  cases ha : anyN P n with
  | false => rw [firstN_none (anyN_false.1 ha)]; omega
  | true =>
    obtain ⟨k, hk, hkn, _, _⟩ := firstN_lt ha
    omega
/-- i envies nobody; the first such, or -1. -/
def calmB (v : List (List Int)) (a : List Int) (i : Nat) : Bool := decide (∀ k, k < v.length → worth v a i (i : Int) ≤ worth v a i (k : Int))
def freeI (v : List (List Int)) (a : List Int) : Int := firstN (calmB v a) v.length
def lowP (V : List (List Int)) (i : Nat) : Bool := decide (lowTo (rget V i) (rget V i).length = iget (rget V i) i)
theorem lowP_calm {v : List (List Int)} {a : List Int} {i : Nat} (hi : i < v.length) : lowP (valsG v a) i = calmB v a i := by
  unfold lowP calmB
  rw [valsG_row hi, worthRow_len]
  apply dec_congr
  rw [worthRow_get hi]
  obtain ⟨j, hj, he⟩ := lowTo_mem (worthRow v a i) v.length (by omega)
  constructor
  · intro h k hk
    have := lowTo_le (worthRow v a i) v.length k hk
    rw [worthRow_get hk, h] at this
    exact this
  · intro h
    have h1 := lowTo_le (worthRow v a i) v.length i hi
    rw [worthRow_get hi] at h1
    rw [he, worthRow_get hj]
    have h2 := h j hj
    rw [he, worthRow_get hj] at h1
    omega
theorem free_valsG {v : List (List Int)} {a : List Int} : firstN (lowP (valsG v a)) (valsG v a).length = freeI v a := by
  rw [valsG_len]
  exact firstN_congr fun j hj => lowP_calm hj

set_option maxHeartbeats 1600000 in
theorem free_any (p : Option Addr) (c : Nat) (V : List (List Int)) (w : World) (hx : Mat w p c V) (hsq : ∀ i, i < V.length → (rget V i).length = V.length) :
    Calls Try.prog 54 #[.slice p V.length c] w fun e w' => e = .returned (.int .i64 (firstN (lowP V) V.length)) ∧ ∃ n, w' = w.drewN n := by
  have hl1 := hx.length_le
  have Hsq := Lib.hid hsq
  clear hsq
  go_enter Try.func54, Try.ntmps54
  go_wp2_with fail
  go_loopw [7] (fun t wr => ∃ k : Nat, k ≤ V.length ∧ t = .int .i64 k ∧ Hid (∀ j, j < k → lowP V j = false) ∧ ∃ n, wr = w.drewN n) (fun t _ => V.length - (intOf t).toNat)
  case atStart => exact ⟨0, Nat.zero_le _, rfl, (fun j hj => absurd hj (Nat.not_lt_zero j)), drew_refl _⟩
  case round =>
    obtain ⟨k, hk, rfl, ht, hw⟩ := hrel
    have hxr := hx.drew hw
    have Hw := Lib.hid hw
    clear hw
    by_cases hlt : k < V.length
    · have hk1 : (k : Int) < V.length := by omega
      obtain ⟨b, o, rfl, _, q, d, hc, hi⟩ := hxr.get hlt
      obtain ⟨b2, o2, rfl, _, hc2⟩ := hi.get (j := k) (by rw [Hsq.out k hlt]; exact hlt)
      have hrow := Hsq.out k hlt
      have hM := Lib.hid (fun (W : World) (h : Ints W (some ⟨b2, o2, none⟩) d (rget V k)) => sMin_any _ d _ W h (by rw [Hsq.out k hlt]; omega))
      have hk2 : (k : Int) < (rget V k).length := by rw [hrow]; exact hk1
      have HP : Hid (lowP V k = decide (lowTo (rget V k) (rget V k).length = iget (rget V k) k)) := rfl
      obtain ⟨z, ez⟩ : ∃ z, iget (rget V k) k = z := ⟨_, rfl⟩
      obtain ⟨y, ey⟩ : ∃ y, lowTo (rget V k) (rget V k).length = y := ⟨_, rfl⟩
      rw [ez] at hc2 HP
      rw [ey] at HP
      simp only [ey] at hM
      have HI := Lib.hid hi
      clear ez ey hrow hi
      by_cases he : y = z
      · subst he
        have hb : (y == y) = true := by simp
        have HP2 : Hid (lowP V k = true) := by unfold Hid; rw [HP.out]; simp
        clear HP
        go_wp2_with fail
        go_quiet ((go_at_call 63; exact Calls.quiet_of_same (hM.out _ (HI.out.drewN _))))
        go_wp2_with fail
        go_ret
        exact ⟨ret_int (firstN_of hlt HP2.out ht.out).symm, drew_drewN _ Hw.out⟩
      · have hb : (y == z) = false := by simpa using he
        have HP2 : Hid (lowP V k = false) := by unfold Hid; rw [HP.out]; simpa using he
        clear HP he
        go_wp2_with fail
        go_quiet ((go_at_call 63; exact Calls.quiet_of_same (hM.out _ (HI.out.drewN _))))
        go_wp2_with fail
        go_roundw
        case rel => exact ⟨k + 1, by omega, by go_num, snoc_all' ht.out HP2.out, drew_drewN _ Hw.out⟩
        case measure => (simp [intOf] <;> omega)
    · have hk1 : ¬ (k : Int) < V.length := by omega
      go_wp2_with fail
      go_ret
      exact ⟨ret_int (firstN_none (fun j hj => ht.out j (by omega))).symm, Hw.out⟩
def allTo (P : Nat → Bool) : Nat → Bool
  | 0 => true
  | k + 1 => allTo P k && P k
theorem allTo_true {P : Nat → Bool} : ∀ {k}, allTo P k = true ↔ ∀ j, j < k → P j = true
  | 0 => ⟨fun _ j h => by omega, fun _ => rfl⟩
  | k + 1 => by
    rw [allTo, Bool.and_eq_true, allTo_true]
    exact ⟨fun h => snoc_all' h.1 h.2, fun h => ⟨fun j hj => h j (by omega), h k (by omega)⟩⟩
theorem allTo_calm (v : List (List Int)) (a : List Int) (i : Nat) : allTo (fun k => !cP v a i k) v.length = calmB v a i := by
  rw [Bool.eq_iff_iff, allTo_true]
  unfold calmB cP
  rw [decide_eq_true_iff]
  exact ⟨fun h k hk => by have := h k hk; simp at this; omega, fun h k hk => by have := h k hk; simp; omega⟩

set_option maxHeartbeats 8000000 in
set_option maxRecDepth 100000 in
theorem ref24Free_any (p : Option Addr) (c : Nat) (v : List (List Int)) (q : Option Addr) (d : Nat) (a : List Int) (w : World) (hx : Mat w p c v) (hi : Ints w q d a) (hg : Gds v) (ha : AlcOk v a) :
    Calls Try.prog 56 #[.agg #[.slice p v.length c], .slice q a.length d] w fun e w' => e = .returned (.int .i64 (freeI v a)) ∧ Below w.heap.size w w' := by
  obtain ⟨W0, hW0⟩ : ∃ W0, w.alloc (.cells #[.slice p v.length c] 24) = W0 := ⟨_, rfl⟩
  have hB : Below w.heap.size w W0 := below_alloc hW0
  have bX : BoxV W0 w.heap.size [.slice p v.length c] := BoxV.new rfl hW0
  have hx := hx.below hB (Nat.le_refl _)
  have hi := hi.below hB (Nat.le_refl _)
  have x0 := bX.cell 0 _ rfl
  have HW0 := Lib.hid hW0
  clear hW0
  have hl1 := hx.length_le
  have hl2 := hi.length_le
  have HC := Lib.hid (fun (i k : Nat) W hX hI (h : i < v.length) => by
    have := content24_any p c v q d a i k (-1) W hX hI hg ha h (by omega) ⟨by omega, by omega⟩
    rw [contB_none] at this
    exact this)
  have Hcalm := Lib.hid (fun i => allTo_calm v a i)
  have HF : Hid (freeI v a = firstN (calmB v a) v.length) := rfl
  have Hst : Hid (∀ i k, allTo (fun k => !cP v a i k) (k + 1) = (allTo (fun k => !cP v a i k) k && !cP v a i k)) := fun _ _ => rfl
  have Hst0 : Hid (∀ i, allTo (fun k => !cP v a i k) 0 = true) := fun _ => rfl
  clear hg ha
  go_enter Try.func56, Try.ntmps56
  go_wp2_with fail
  rw [HW0.out]
  go_loopw [5] (fun t wr => ∃ i : Nat, i ≤ v.length ∧ t = .int .i64 i ∧ Hid (∀ j, j < i → calmB v a j = false) ∧ Below W0.heap.size W0 wr) (fun t _ => v.length - (intOf t).toNat)
  case atStart => exact ⟨0, Nat.zero_le _, rfl, (fun j hj => absurd hj (Nat.not_lt_zero j)), Below.refl _ _⟩
  case round =>
    clear x0
    obtain ⟨i, hk, rfl, ht, hbr⟩ := hrel
    have bXr := bX.below hbr
    have x0 := bXr.cell 0 _ rfl
    by_cases hlt : i < v.length
    · have hi1 : (i : Int) < v.length := by omega
      go_wp2_with fail
      go_loopw [6, 7] (fun s t wk => ∃ k : Nat, k ≤ v.length ∧ t = .int .i64 k ∧ s = .bool (allTo (fun k => !cP v a i k) k) ∧ Below W0.heap.size W0 wk) (fun _ t _ => v.length - (intOf t).toNat)
      case atStart => exact ⟨0, Nat.zero_le _, rfl, by rw [Hst0.out], hbr⟩
      case round =>
        clear x0 bXr hbr
        obtain ⟨k, hk, rfl, rfl, hbr⟩ := hrel
        have bXr := bX.below hbr
        have x0 := bXr.cell 0 _ rfl
        by_cases hlk : k < v.length
        · have hk1 : (k : Int) < v.length := by omega
          have HS := Hst.out i k
          cases hB0 : allTo (fun k => !cP v a i k) k with
          | false =>
            rw [hB0, Bool.false_and] at HS
            have HS := Lib.hid HS
            clear hB0
            go_wp2_with fail
            go_roundw
            case rel => exact ⟨k + 1, by omega, by go_num, by rw [HS.out], hbr⟩
            case measure => (simp [intOf] <;> omega)
          | true =>
            rw [hB0, Bool.true_and] at HS
            have HS := Lib.hid HS
            have HCk := Lib.hid (HC.out i k wr (hx.below hbr (Nat.le_refl _)) (hi.below hbr (Nat.le_refl _)) hlt)
            clear hB0
            go_wp2_with fail
            refine HCk.out.mono ?_
            rintro e w' ⟨rfl, hb2⟩
            go_wp2_with fail
            go_roundw
            case rel => exact ⟨k + 1, by omega, by go_num, by rw [HS.out], hbr.trans (hb2.mono hbr.size)⟩
            case measure => (simp [intOf] <;> omega)
        · have hk1 : ¬ (k : Int) < v.length := by omega
          obtain rfl : k = v.length := by omega
          rw [Hcalm.out]
          cases hP : calmB v a i with
          | true =>
            have HP := Lib.hid hP
            clear hP
            go_wp2_with fail
            go_ret
            exact ⟨ret_int (HF.out.trans (firstN_of hlt HP.out ht.out)).symm, hB.trans (hbr.mono hB.size)⟩
          | false =>
            have HP := Lib.hid hP
            clear hP
            go_wp2_with fail
            go_roundw
            case rel => exact ⟨i + 1, by omega, by go_num, snoc_all' ht.out HP.out, hbr⟩
            case measure => (simp [intOf] <;> omega)
    · have hi1 : ¬ (i : Int) < v.length := by omega
      go_wp2_with fail
      go_ret
      exact ⟨ret_int (HF.out.trans (firstN_none (fun j hj => ht.out j (by omega)))).symm, hB.trans (hbr.mono hB.size)⟩
end Go.Proofs.Ytiohehofnlmenaa
