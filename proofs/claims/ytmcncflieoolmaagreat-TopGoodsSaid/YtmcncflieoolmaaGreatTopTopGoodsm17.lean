/- The walk of chores.One, for every chores and allocation. -/
import Derived.Test.YtmcncflieoolmaaGreatTopTopGoodsm16
import Derived.Test.YtmcncflieoolmaaGreatTopTopGoodsm6
import Derived.Test.YtmcncflieoolmaaGreatTopTopGoodsm3
import Derived.WalkMore
import Derived.Deep.LoopGhost
import Derived.Test.YtmcncflieoolmaaGreatTopTopGoodsm9
import Derived.Test.YtmcncflieoolmaaGreatTopTopGoodsm2
import Derived.BigQuiet
import Derived.Shelf.Bits.Mul64
import Derived.Test.YtmcncflieoolmaaGreatProg
import Derived.Laws.CopyOwn
import Derived.Deep.RegionLaw
import Derived.Deep.DeepMust
import Derived.Maps.RangeWalk
/- The walk of chores.One, for every chores and allocation. -/
namespace Go.Proofs.YtmcncflieoolmaaGreat
set_option linter.unusedVariables false
set_option linter.unusedSimpArgs false
open Go.ChangeShapes Go.WideShapes Go.ChangeAt Go.RowKit Go.Deep

/-- Chore j is i's, and without it i would not envy k. -/
def oneP (v : List (List Int)) (a : List Int) (i k j : Nat) : Bool := decide (iget a j = (i : Int) ∧ worth v a i (i : Int) - worth v a i (k : Int) ≤ iget (rget v i) j)
def oneF (v : List (List Int)) (a : List Int) (x : Nat × Nat) : Int := firstN (oneP v a x.1 x.2) a.length
def mk1 (v : List (List Int)) (a : List Int) (x : Nat × Nat) : List Trip := if 0 ≤ oneF v a x then [(x.1, x.2, oneF v a x)] else []
def ms1 (v : List (List Int)) (a : List Int) (x : Nat × Nat) : List (Nat × Nat) := if 0 ≤ oneF v a x then [] else [x]
def mkL (v : List (List Int)) (a : List Int) (E : List (Nat × Nat)) : List Trip := E.flatMap (mk1 v a)
def msL (v : List (List Int)) (a : List Int) (E : List (Nat × Nat)) : List (Nat × Nat) := E.flatMap (ms1 v a)
theorem take_pget {E : List (Nat × Nat)} {k : Nat} (hk : k < E.length) : E.take (k + 1) = E.take k ++ [pget E k] := by
  rw [List.take_add_one, List.getElem?_eq_getElem hk]
  simp [pget, hk]
theorem mkL_yes {v : List (List Int)} {a : List Int} {E : List (Nat × Nat)} {k i j x : Nat} (hk : k < E.length) (hp : pget E k = (i, j)) (hx : firstN (oneP v a i j) a.length = (x : Int)) :
    mkL v a (E.take (k + 1)) = mkL v a (E.take k) ++ [(i, j, (x : Int))] ∧ msL v a (E.take (k + 1)) = msL v a (E.take k) := by
  have ho : oneF v a (i, j) = (x : Int) := hx
  have h0 : (0 : Int) ≤ (x : Int) := by omega
  rw [take_pget hk, hp]
  constructor
  · unfold mkL; rw [List.flatMap_append]; simp [mk1, ho, h0]
  · unfold msL; rw [List.flatMap_append]; simp [ms1, ho, h0]
theorem mkL_no {v : List (List Int)} {a : List Int} {E : List (Nat × Nat)} {k i j : Nat} (hk : k < E.length) (hp : pget E k = (i, j)) (hx : firstN (oneP v a i j) a.length = -1) :
    mkL v a (E.take (k + 1)) = mkL v a (E.take k) ∧ msL v a (E.take (k + 1)) = msL v a (E.take k) ++ [(i, j)] := by
  have ho : oneF v a (i, j) = -1 := hx
  rw [take_pget hk, hp]
  constructor
  · unfold mkL; rw [List.flatMap_append]; simp [mk1, ho]
  · unfold msL; rw [List.flatMap_append]; simp [ms1, ho]
theorem mkL_len (v : List (List Int)) (a : List Int) : ∀ E : List (Nat × Nat), (mkL v a E).length ≤ E.length ∧ (msL v a E).length ≤ E.length
  | [] => by simp [mkL, msL]
  | x :: E => by
    obtain ⟨h1, h2⟩ := mkL_len v a E
    have e1 : (mk1 v a x).length ≤ 1 := by unfold mk1; split <;> simp
    have e2 : (ms1 v a x).length ≤ 1 := by unfold ms1; split <;> simp
    unfold mkL msL at *
    rw [List.flatMap_cons, List.flatMap_cons, List.length_append, List.length_append, List.length_cons]
    omega
def GivesMP (w : World) (ms : List Trip) (ps : List (Nat × Nat)) (k : Int) (e : Ending) (w' : World) : Prop :=
  ∃ pm cm pq cq, e = .returned (.tuple #[.slice pm ms.length cm, .slice pq ps.length cq, .int .i64 k]) ∧ OwnT 119 w' w.heap.size pm cm ms ∧ OwnP w' w.heap.size pq cq ps ∧ Below w.heap.size w w'
def oneM (v : List (List Int)) (a : List Int) : List Trip := mkL v a (envG cP v a)
def oneN (v : List (List Int)) (a : List Int) : List (Nat × Nat) := msL v a (envG cP v a)
theorem pget_eq {E : List (Nat × Nat)} {k i j : Nat} (h1 : (pget E k).1 = i) (h2 : (pget E k).2 = j) : pget E k = (i, j) := by rw [← h1, ← h2]
theorem pget_lt {P : Nat → Nat → Bool} {n k : Nat} (hk : k < (prTo P n n).length) : (pget (prTo P n n) k).1 < n ∧ (pget (prTo P n n) k).2 < n := by
  have : pget (prTo P n n) k ∈ prTo P n n := by
    have e : pget (prTo P n n) k = (prTo P n n)[k] := by simp [pget, hk]
    rw [e]; exact List.getElem_mem hk
  obtain ⟨h1, h2, _⟩ := prTo_mem.1 this
  exact ⟨h1, h2⟩

set_option maxHeartbeats 8000000 in
set_option maxRecDepth 100000 in
theorem choresOne_any (p : Option Addr) (c : Nat) (v : List (List Int)) (q : Option Addr) (d : Nat) (a : List Int) (w : World) (hx : Mat w p c v) (hi : Ints w q d a) :
    Calls Tryz.prog 50 #[.agg #[.slice p v.length c], .slice q a.length d] w (GivesMP w (oneM v a) (oneN v a) (chkA v a)) := by
  obtain ⟨W0, hW0⟩ : ∃ W0, w.alloc (.cells #[.slice p v.length c] 24) = W0 := ⟨_, rfl⟩
  have hB : Below w.heap.size w W0 := below_alloc hW0
  have bX : BoxV W0 w.heap.size [.slice p v.length c] := BoxV.new rfl hW0
  have hx := hx.below hB (Nat.le_refl _)
  have hi := hi.below hB (Nat.le_refl _)
  have x0 := bX.cell 0 _ rfl
  have HW0 := Lib.hid hW0
  clear hW0
  have hl1 := hx.length_le
  have hl2 := hi.length_le
  go_enter Tryz.func50, Tryz.ntmps50
  go_wp2_with fail
  go_step3
  go_wp2_with fail
  rw [HW0.out]
  refine (choresEnvies_any p c v q d a _ hx hi).mono ?_
  rintro e w1 ⟨pe, ce, rfl, oE, hb1⟩
  replace hx := hx.below hb1 (Nat.le_refl _)
  replace hi := hi.below hb1 (Nat.le_refl _)
  replace bX := bX.below hb1
  replace x0 := bX.cell 0 _ rfl
  replace hB := hB.trans (hb1.mono hB.size)
  clear hb1
  by_cases hF : chkA v a = 0
  · have HF := Lib.hid hF
    have hM : oneM v a = mkL v a (prTo (cP v a) v.length v.length) := by unfold oneM; rw [envG_ok hF]
    have hN : oneN v a = msL v a (prTo (cP v a) v.length v.length) := by unfold oneN; rw [envG_ok hF]
    have C2 := goodsValues_any p c v q d a _ hx hi
    rw [valsL_ok hF, hF] at C2
    rw [envG_ok hF] at oE ⊢
    rw [hF]
    obtain ⟨hg, ha⟩ := chkA_zero.1 hF
    have Hg := Lib.hid hg
    have Ha := Lib.hid ha
    have C2 := Lib.hid C2
    have hcap := oE.cap
    have hElen := prTo_len (cP v a) v.length v.length
    have h66 : v.length * v.length ≤ 6 * 6 := Nat.mul_le_mul hg.2.1 hg.2.1
    have Hin := Lib.hid (fun k h => pget_lt (P := cP v a) (n := v.length) (k := k) h)
    obtain ⟨E, eE⟩ : ∃ E, prTo (cP v a) v.length v.length = E := ⟨_, rfl⟩
    rw [eE] at oE hcap hElen hM hN ⊢
    simp only [eE] at Hin
    have HM := Lib.hid hM
    have HN := Lib.hid hN
    clear hg ha hF eE hM hN
    go_wp2_with fail
    refine C2.out.mono ?_
    rintro e w2 ⟨pv, cv, rfl, mV, hb1⟩
    rw [valsG_len]
    replace hx := hx.below hb1 (Nat.le_refl _)
    replace hi := hi.below hb1 (Nat.le_refl _)
    replace oE := oE.below hb1 (Nat.le_refl _)
    replace bX := bX.below hb1
    replace x0 := bX.cell 0 _ rfl
    replace hB := hB.trans (hb1.mono hB.size)
    clear hb1 C2
    obtain ⟨B, hBB⟩ : ∃ B, w2.heap.size = B := ⟨_, rfl⟩
    have HBB := Lib.hid hBB
    have hwB : w.heap.size ≤ B := by have := hB.size; omega
    have hlX := bX.lt
    rw [hBB] at hlX
    clear hBB
    go_wp2_with fail
    go_step3
    go_wp2_with fail
    go_loopw [4, 5, 32] (fun s u t wr => ∃ k : Nat, k ≤ E.length ∧ t = .int .i64 k ∧ (∃ zs qz dz ys qy dy, Hid (zs = mkL v a (E.take k)) ∧ s = .slice qz (zs : List Trip).length dz ∧ OwnT 119 wr B qz dz zs ∧ Hid (ys = msL v a (E.take k)) ∧ u = .slice qy (ys : List (Nat × Nat)).length dy ∧ OwnP wr B qy dy ys ∧ (∀ g, blk qz = some g → blk qy ≠ some g)) ∧ Below B w2 wr) (fun _ _ t _ => E.length - (intOf t).toNat)
    case atStart => exact ⟨0, Nat.zero_le _, rfl, ⟨[], none, 0, [], none, 0, rfl, rfl, OwnT.ofNil _ _, rfl, rfl, OwnP.ofNil _ _, fun g h => (by cases h)⟩, Below.refl _ _⟩
    case round =>
      obtain ⟨k, hk, rfl, ⟨zs, qz, dz, ys, qy, dy, hz, rfl, hO, hy, rfl, hP, hsep⟩, hbr⟩ := hrel
      by_cases hlt : k < E.length
      · have hk1 : (k : Int) < E.length := by omega
        obtain ⟨ge, rfl, _, _, hce, hce2⟩ := (oE.below hbr (Nat.le_of_eq HBB.out)).get hlt
        obtain ⟨h1, h2⟩ := Hin.out k hlt
        obtain ⟨i, ei⟩ : ∃ i, (pget E k).1 = i := ⟨_, rfl⟩
        obtain ⟨j, ej⟩ : ∃ j, (pget E k).2 = j := ⟨_, rfl⟩
        have hpk := pget_eq ei ej
        rw [ei] at hce h1
        rw [ej] at hce2 h2
        have HY := Lib.hid (fun x (h : firstN (oneP v a i j) a.length = ((x : Nat) : Int)) => mkL_yes hlt hpk h)
        have HNo := Lib.hid (fun (h : firstN (oneP v a i j) a.length = -1) => mkL_no hlt hpk h)
        clear ei ej hpk
        have hszB := hbr.size
        rw [HBB.out] at hszB
        obtain ⟨W1, hW1⟩ : ∃ W, wr.alloc (.cells #[.int .i64 (i : Int), .int .i64 (j : Int)] 88) = W := ⟨_, rfl⟩
        have hb1 : Below wr.heap.size wr W1 := below_alloc hW1
        have bP : BoxV W1 wr.heap.size [.int .i64 (i : Int), .int .i64 (j : Int)] := BoxV.new rfl hW1
        have hbw : Below B w2 W1 := hbr.trans (hb1.mono hszB)
        have HW1 := Lib.hid hW1
        have p0 := bP.cell 0 _ rfl
        have p1 := bP.cell 1 _ rfl
        obtain ⟨bv, ov, rfl, _, qi, di, hcv, hI⟩ := (mV.below hbw (Nat.le_of_eq HBB.out)).get (j := i) (by rw [valsG_len]; exact h1)
        rw [valsG_row h1] at hcv hI
        rw [worthRow_len] at hcv
        obtain ⟨br, or', rfl, _, hci⟩ := hI.get (j := i) (by rw [worthRow_len]; exact h1)
        have hcj := hI.at (j := j) (by rw [worthRow_len]; exact h2)
        rw [worthRow_get h1] at hci
        rw [worthRow_get h2] at hcj
        have hyy := worth_in Hg.out Ha.out h1 (i : Int)
        have hzz := worth_in Hg.out Ha.out h1 (j : Int)
        have hi1 : (i : Int) < v.length := by omega
        have hj1 : (j : Int) < v.length := by omega
        have hone : ∀ x, oneP v a i j x = decide (iget a x = (i : Int) ∧ worth v a i (i : Int) - worth v a i (j : Int) ≤ iget (rget v i) x) := fun x => rfl
        have hlen := mkL_len v a (E.take k)
        have hzl : zs.length ≤ 900000 := by rw [hz.out]; have := hlen.1; rw [List.length_take] at this; omega
        have hyl : ys.length ≤ 900000 := by rw [hy.out]; have := hlen.2; rw [List.length_take] at this; omega
        obtain ⟨Y, eY⟩ : ∃ y, worth v a i (i : Int) = y := ⟨_, rfl⟩
        obtain ⟨Z, eZ⟩ : ∃ y, worth v a i (j : Int) = y := ⟨_, rfl⟩
        rw [eY] at hci hyy
        rw [eZ] at hcj hzz
        simp only [eY, eZ] at hone
        have Hone := Lib.hid hone
        have Hrl := Lib.hid ((Hg.out.2.2.2 i h1).1.trans Ha.out.1.symm)
        have HO := Lib.hid (hO.below hb1 (Nat.le_refl _))
        have HPw := Lib.hid (hP.below hb1 (Nat.le_refl _))
        have Hsep := Lib.hid hsep
        clear eY eZ hone hlen hI hO hP hsep
        go_wp2_with fail
        go_quiet (fail)
        go_wp2_with fail
        obtain ⟨W2, hW2⟩ : ∃ W, W1.drewN nq = W := ⟨_, rfl⟩
        have hb2 : Below W1.heap.size W1 W2 := by rw [← hW2]; exact below_drewN _ _ _
        have hbw2 : Below B w2 W2 := hbw.trans (hb2.mono (Nat.le_trans hszB hb1.size))
        have bP2 := bP.below hb2
        have x0 := (bX.below (by rw [HBB.out]; exact hbw2)).cell 0 _ rfl
        have hxr := hx.below hbw2 (Nat.le_of_eq HBB.out)
        have hir := hi.below hbw2 (Nat.le_of_eq HBB.out)
        have HO2 := Lib.hid (HO.out.below hb2 (Nat.le_refl _))
        have HP2 := Lib.hid (HPw.out.below hb2 (Nat.le_refl _))
        have hsz2 : B ≤ W2.heap.size := Nat.le_trans hszB (Nat.le_trans hb1.size hb2.size)
        have q0 := bP2.cell 0 _ rfl
        have q1 := bP2.cell 1 _ rfl
        rw [hW2]
        clear p0 p1 hcv hci hcj hW2 hW1 bP hce hce2
        obtain ⟨bx, ox, rfl, _, qx, dx, hcx, hX⟩ := hxr.get h1
        go_loopw [4, 57] (fun s t wk => ∃ x : Nat, x ≤ a.length ∧ t = .int .i64 x ∧ s = .slice qz zs.length dz ∧ Hid (∀ r, r < x → oneP v a i j r = false) ∧ wk = W2) (fun _ t _ => a.length - (intOf t).toNat)
        case atStart => exact ⟨0, Nat.zero_le _, rfl, rfl, (fun r hr => absurd hr (Nat.not_lt_zero r)), rfl⟩
        case round =>
          obtain ⟨x, hxl, rfl, rfl, hfx, rfl⟩ := hrel
          by_cases hxa : x < a.length
          · have hx1 : (x : Int) < a.length := by omega
            have hx2 : (x : Int) < (rget v i).length := by rw [Hrl.out]; exact hx1
            obtain ⟨b4, o4, rfl, _, hc4⟩ := hir.get hxa
            obtain ⟨b5, o5, rfl, _, hc5⟩ := hX.get (j := x) (by rw [Hrl.out]; exact hxa)
            have hP1 := Hone.out x
            obtain ⟨t4, e4⟩ : ∃ t, iget a x = t := ⟨_, rfl⟩
            obtain ⟨t5, e5⟩ : ∃ t, iget (rget v i) x = t := ⟨_, rfl⟩
            rw [e4] at hc4 hP1
            rw [e5] at hc5 hP1
            clear e4 e5
            have HP1 := Lib.hid hP1
            clear hP1
            by_cases he : t4 = (i : Int)
            · subst he
              have hb : ((i : Int) == (i : Int)) = true := by simp
              cases hm : decide (Y - Z ≤ t5) with
              | true =>
                have HR : Hid (oneP v a i j x = true) := by unfold Hid; rw [HP1.out]; simp at hm; simp [hm]
                obtain ⟨m1, m2⟩ := HY.out x (firstN_of hxa HR.out hfx.out)
                have Hm1 := Lib.hid m1
                have Hm2 := Lib.hid m2
                clear m1 m2
                go_wp2_with (at_builtin; refine wpList_appT rfl (.tmp 78) (.tmp 85) 78 rfl (by kernel_rfl) (by kernel_rfl) B _ _ zs i j (x : Int) rfl rfl rfl HO2.out hzl hsz2 ?_; intro p3 c3 w3 u3 hu3 hO3 hg3 hf3)
                go_roundw
                case rel => exact ⟨k + 1, by omega, by go_num, ⟨u3, _, _, ys, qy, dy, by unfold Hid; rw [hu3.out, hz.out, Hm1.out], rfl, hO3, by unfold Hid; rw [hy.out, Hm2.out], rfl, HP2.out.keptBy hg3 (fun g hg e => Hsep.out g e hg), fun g hg e => by
                  rcases hf3 g hg with h | h
                  · exact Hsep.out g h e
                  · have := (HP2.out.lt g e).2; omega⟩, hbw2.grown hg3 hsz2 (fun k' e => (HO2.out.lt k' e).1)⟩
                case measure => (simp [intOf] <;> omega)
              | false =>
                have HR : Hid (oneP v a i j x = false) := by unfold Hid; rw [HP1.out]; simp at hm; simp; omega
                go_wp2_with fail
                go_roundw
                case rel => exact ⟨x + 1, by omega, by go_num, rfl, snoc_all' hfx.out HR.out, (by first | rfl | trivial)⟩
                case measure => (simp [intOf] <;> omega)
            · have hb : (t4 == (i : Int)) = false := by simpa using he
              have HR : Hid (oneP v a i j x = false) := by unfold Hid; rw [HP1.out]; simp [he]
              clear he
              go_wp2_with fail
              go_roundw
              case rel => exact ⟨x + 1, by omega, by go_num, rfl, snoc_all' hfx.out HR.out, (by first | rfl | trivial)⟩
              case measure => (simp [intOf] <;> omega)
          · have hx1 : ¬ (x : Int) < a.length := by omega
            obtain ⟨m1, m2⟩ := HNo.out (firstN_none (fun r hr => hfx.out r (by omega)))
            have Hm1 := Lib.hid m1
            have Hm2 := Lib.hid m2
            clear m1 m2
            go_wp2_with (at_builtin; refine wpList_appP rfl (.tmp 88) (.tmp 90) rfl B _ _ ys i j rfl rfl rfl HP2.out hyl hsz2 ?_; intro p3 c3 w3 u3 hu3 hP3 hg3 hf3)
            go_roundw
            case rel => exact ⟨k + 1, by omega, by go_num, ⟨zs, qz, dz, u3, _, _, by unfold Hid; rw [hz.out, Hm1.out], rfl, HO2.out.keptBy hg3 (fun g hg e => Hsep.out g hg e), by unfold Hid; rw [hu3.out, hy.out, Hm2.out], rfl, hP3, fun g hg e => by
              rcases hf3 g e with h | h
              · exact Hsep.out g hg h
              · have := (HO2.out.lt g hg).2; omega⟩, hbw2.grown hg3 hsz2 (fun k' e => (HP2.out.lt k' e).1)⟩
            case measure => (simp [intOf] <;> omega)
      · have hk1 : ¬ (k : Int) < E.length := by omega
        obtain rfl : k = E.length := by omega
        have hzr : zs = oneM v a := by rw [hz.out, HM.out, List.take_of_length_le (Nat.le_refl _)]
        have hyr : ys = oneN v a := by rw [hy.out, HN.out, List.take_of_length_le (Nat.le_refl _)]
        subst hzr hyr
        go_wp2_with fail
        go_ret3
        rw [HF.out]
        exact ⟨qz, dz, qy, dy, rfl, hO.lower hwB, hP.lower hwB, hB.trans (hbr.mono hwB)⟩
  · have hz : (chkA v a != 0) = true := by rw [bne_iff_ne]; exact hF
    have hM : Hid (oneM v a = []) := by unfold Hid oneM; rw [envG_err hF]; rfl
    have hN : Hid (oneN v a = []) := by unfold Hid oneN; rw [envG_err hF]; rfl
    rw [envG_err hF]
    clear hF
    go_wp2_with fail
    go_ret3
    rw [hM.out, hN.out]
    exact ⟨none, 0, none, 0, rfl, OwnT.ofNil _ _, OwnP.ofNil _ _, hB⟩
end Go.Proofs.YtmcncflieoolmaaGreat

/- The walk of the reference's One, for every chores and allocation. -/
namespace Go.Proofs.YtmcncflieoolmaaGreat
set_option linter.unusedVariables false
set_option linter.unusedSimpArgs false
open Go.ChangeShapes Go.WideShapes Go.ChangeAt Go.RowKit Go.Deep

end Go.Proofs.YtmcncflieoolmaaGreat

/- The walks of chores.free and of the reference's Free; plain words for who envies nobody. -/
namespace Go.Proofs.YtmcncflieoolmaaGreat
set_option linter.unusedVariables false
set_option linter.unusedSimpArgs false
open Go.ChangeShapes Go.WideShapes Go.ChangeAt Go.RowKit Go.Deep

theorem firstN_congr {P Q : Nat → Bool} {n : Nat} (h : ∀ j, j < n → P j = Q j) : firstN P n = firstN Q n := by
  cases ha : anyN Q n with
  | false => rw [firstN_none (anyN_false.1 ha), firstN_none (fun j hj => by rw [h j hj]; exact anyN_false.1 ha j hj)]
  | true =>
    obtain ⟨k, hk, hkn, hP, hb⟩ := firstN_lt ha
    rw [hk, firstN_of hkn (by rw [h k hkn]; exact hP) (fun j hj => by rw [h j (by omega)]; exact hb j hj)]
theorem firstN_range (P : Nat → Bool) (n : Nat) : -1 ≤ firstN P n ∧ firstN P n < n := by
  cases ha : anyN P n with
  | false => rw [firstN_none (anyN_false.1 ha)]; omega
  | true =>
    obtain ⟨k, hk, hkn, _, _⟩ := firstN_lt ha
    omega
/-- i envies nobody; the first such, or -1. -/
def calmB (v : List (List Int)) (a : List Int) (i : Nat) : Bool := decide (∀ k, k < v.length → worth v a i (i : Int) ≤ worth v a i (k : Int))
def freeI (v : List (List Int)) (a : List Int) : Int := firstN (calmB v a) v.length
def lowP (V : List (List Int)) (i : Nat) : Bool := decide (lowTo (rget V i) (rget V i).length = iget (rget V i) i)
theorem lowP_calm {v : List (List Int)} {a : List Int} {i : Nat} (hi : i < v.length) : lowP (valsG v a) i = calmB v a i := by
  unfold lowP calmB
  rw [valsG_row hi, worthRow_len]
  apply dec_congr
  rw [worthRow_get hi]
  obtain ⟨j, hj, he⟩ := lowTo_mem (worthRow v a i) v.length (by omega)
  constructor
  · intro h k hk
    have := lowTo_le (worthRow v a i) v.length k hk
    rw [worthRow_get hk, h] at this
    exact this
  · intro h
    have h1 := lowTo_le (worthRow v a i) v.length i hi
    rw [worthRow_get hi] at h1
    rw [he, worthRow_get hj]
    have h2 := h j hj
    rw [he, worthRow_get hj] at h1
    omega
theorem free_valsG {v : List (List Int)} {a : List Int} : firstN (lowP (valsG v a)) (valsG v a).length = freeI v a := by
  rw [valsG_len]
  exact firstN_congr fun j hj => lowP_calm hj

set_option maxHeartbeats 1600000 in
theorem free_any (p : Option Addr) (c : Nat) (V : List (List Int)) (w : World) (hx : Mat w p c V) (hsq : ∀ i, i < V.length → (rget V i).length = V.length) :
    Calls Tryz.prog 88 #[.slice p V.length c] w fun e w' => e = .returned (.int .i64 (firstN (lowP V) V.length)) ∧ ∃ n, w' = w.drewN n := by
  have hl1 := hx.length_le
  have Hsq := Lib.hid hsq
  clear hsq
  go_enter Tryz.func88, Tryz.ntmps88
  go_wp2_with fail
  go_loopw [7] (fun t wr => ∃ k : Nat, k ≤ V.length ∧ t = .int .i64 k ∧ Hid (∀ j, j < k → lowP V j = false) ∧ ∃ n, wr = w.drewN n) (fun t _ => V.length - (intOf t).toNat)
  case atStart => exact ⟨0, Nat.zero_le _, rfl, (fun j hj => absurd hj (Nat.not_lt_zero j)), drew_refl _⟩
  case round =>
    obtain ⟨k, hk, rfl, ht, hw⟩ := hrel
    have hxr := hx.drew hw
    have Hw := Lib.hid hw
    clear hw
    by_cases hlt : k < V.length
    · have hk1 : (k : Int) < V.length := by omega
      obtain ⟨b, o, rfl, _, q, d, hc, hi⟩ := hxr.get hlt
      obtain ⟨b2, o2, rfl, _, hc2⟩ := hi.get (j := k) (by rw [Hsq.out k hlt]; exact hlt)
      have hrow := Hsq.out k hlt
      have hM := Lib.hid (fun (W : World) (h : Ints W (some ⟨b2, o2, none⟩) d (rget V k)) => sMin_any _ d _ W h (by rw [Hsq.out k hlt]; omega))
      have hk2 : (k : Int) < (rget V k).length := by rw [hrow]; exact hk1
      have HP : Hid (lowP V k = decide (lowTo (rget V k) (rget V k).length = iget (rget V k) k)) := rfl
      obtain ⟨z, ez⟩ : ∃ z, iget (rget V k) k = z := ⟨_, rfl⟩
      obtain ⟨y, ey⟩ : ∃ y, lowTo (rget V k) (rget V k).length = y := ⟨_, rfl⟩
      rw [ez] at hc2 HP
      rw [ey] at HP
      simp only [ey] at hM
      have HI := Lib.hid hi
      clear ez ey hrow hi
      by_cases he : y = z
      · subst he
        have hb : (y == y) = true := by simp
        have HP2 : Hid (lowP V k = true) := by unfold Hid; rw [HP.out]; simp
        clear HP
        go_wp2_with fail
        go_quiet ((go_at_call 115; exact Calls.quiet_of_same (hM.out _ (HI.out.drewN _))))
        go_wp2_with fail
        go_ret
        exact ⟨ret_int (firstN_of hlt HP2.out ht.out).symm, drew_drewN _ Hw.out⟩
      · have hb : (y == z) = false := by simpa using he
        have HP2 : Hid (lowP V k = false) := by unfold Hid; rw [HP.out]; simpa using he
        clear HP he
        go_wp2_with fail
        go_quiet ((go_at_call 115; exact Calls.quiet_of_same (hM.out _ (HI.out.drewN _))))
        go_wp2_with fail
        go_roundw
        case rel => exact ⟨k + 1, by omega, by go_num, snoc_all' ht.out HP2.out, drew_drewN _ Hw.out⟩
        case measure => (simp [intOf] <;> omega)
    · have hk1 : ¬ (k : Int) < V.length := by omega
      go_wp2_with fail
      go_ret
      exact ⟨ret_int (firstN_none (fun j hj => ht.out j (by omega))).symm, Hw.out⟩
end Go.Proofs.YtmcncflieoolmaaGreat

/- Equal lists compared by the reference: true; no condition. -/
namespace Go.Proofs.YtmcncflieoolmaaGreat
set_option linter.unusedVariables false
open Go.ChangeShapes Go.WideShapes Go.ChangeAt Go.RowKit Go.Deep
theorem drew_below {w w' : World} (h : ∃ n, w' = w.drewN n) : Below w.heap.size w w' := by obtain ⟨n, rfl⟩ := h; exact below_drewN _ _ _
end Go.Proofs.YtmcncflieoolmaaGreat

/- The walks of the reference's Ordered and Passed; their plain words. -/
namespace Go.Proofs.YtmcncflieoolmaaGreat
set_option linter.unusedVariables false
set_option linter.unusedSimpArgs false
open Go.ChangeShapes Go.WideShapes Go.ChangeAt Go.RowKit Go.Deep

/-- Entry n of a list is below M and new. -/
def NewAt (o : List Int) (M : Int) (n : Nat) : Prop := 0 ≤ iget o n ∧ iget o n < M ∧ ∀ m, m < n → iget o m ≠ iget o n
def OrdP (o : List Int) (M : Int) : Prop := ∀ n, n < o.length → NewAt o M n
instance (o : List Int) (M : Int) (n : Nat) : Decidable (NewAt o M n) := by unfold NewAt; infer_instance
instance (o : List Int) (M : Int) : Decidable (OrdP o M) := by unfold OrdP; infer_instance
/-- Where the bundle x goes along a circle, after its first m. -/
def lastP (l : List Int) (x : Int) : Nat → Int
  | 0 => x
  | m + 1 => if x = iget l ((m + 1) % l.length) then iget l m else lastP l x m
def passL (a l : List Int) : List Int := a.map fun x => lastP l x l.length
end Go.Proofs.YtmcncflieoolmaaGreat

/-
  DERIVED: THE SHELF's CONTRACTS AT THIS DUMP, IN PLAIN WORDS (tools/lay-plain.mjs out of 'TryzShelf.lean', which tools/lay-shelf.mjs wrote): THE SAME DECLARATIONS UNDER THE SAME NAMES: 'import', 'namespace', 'open', 'def', 'theorem' AND NOTHING ELSE: no command of the shelf's: FOR A HAND-IN. Each laying: the table of numbers ('.._ren') and one theorem, a field a fact of the dump's own or the kernel's comparison; each contract: ONE APPLICATION.
-/
namespace Go.Proofs
open Go.Shelf
open Go.RowKit Go.Lib in
def Tryz.lays212_ren : Go.Shelf.Ren := ⟨fun | 212 => 65 | 263 => 105 | 264 => 106 | n => n, fun | 46 => 103 | 51 => 145 | 146 => 146 | 53 => 128 | 148 => 148 | n => n, fun | n => n⟩
theorem Tryz.lays212 : Go.Proofs.Lays.n212 Tryz.prog Tryz.lays212_ren := {
  mixed := by kernel_rfl
  f212 := Tryz.func65.trans (congrArg some (by kernel_rfl))
  f263 := Tryz.func105.trans (congrArg some (by kernel_rfl))
  f264 := Tryz.func106.trans (congrArg some (by kernel_rfl))
  t46 := Tryz.underlying103
  a46 := Tryz.isAgg103
  z46 := Tryz.sizeOf103
  v46 := Tryz.zeroValue103
  t51 := Tryz.underlying145
  a51 := Tryz.isAgg145
  z51 := Tryz.sizeOf145
  v51 := Tryz.zeroValue145
  t53 := Tryz.underlying128
  a53 := Tryz.isAgg128
  z53 := Tryz.sizeOf128
  v53 := Tryz.zeroValue128
  t146 := Tryz.underlying146
  a146 := Tryz.isAgg146
  z146 := Tryz.sizeOf146
  v146 := Tryz.zeroValue146
  t148 := Tryz.underlying148
  a148 := Tryz.isAgg148
  z148 := Tryz.sizeOf148
  v148 := Tryz.zeroValue148 }
open Go.RowKit Go.Lib in
/-- math/bits.Mul: "Mul returns the full-width product of x and y": on a machine of 64 bits: Mul64's. (LAID: no walk: one application.) -/
theorem Tryz.bits_Mul (x y : Nat) (hx : x < 18446744073709551616) (hy : y < 18446744073709551616) (w : World) :
    Calls Tryz.prog 65 #[.int .u64 x, .int .u64 y] w fun e w' => e = .returned (.tuple #[.int .u64 ((x * y / 18446744073709551616 : Nat) : Int), .int .u64 ((x * y % 18446744073709551616 : Nat) : Int)]) ∧ w' = w := Any.bits_Mul Tryz.lays212 x y hx hy w
end Go.Proofs

/- slices.Repeat of one number: what it hands back; no condition but the size. -/
namespace Go.Proofs.YtmcncflieoolmaaGreat
set_option linter.unusedVariables false
set_option linter.unusedSimpArgs false
open Go.ChangeShapes Go.WideShapes Go.ChangeAt Go.RowKit Go.Deep

/-- Block g holds just these numbers. -/
def RowAt (w : World) (g : Nat) (xs : List Int) : Prop := w.heap[g]? = some (.cells (xs.map (Value.int .i64)).toArray 3 (0, 0))
theorem own_rowAt {w : World} {base g : Nat} {xs : List Int} (h : Own w base (some ⟨g, 0, none⟩) xs.length xs) : RowAt w g xs := by
  rcases h.row.2 with ⟨h1, _⟩ | ⟨g', cap, cur, h1, h2, h3, h4, h5, h6, h7⟩
  · simp at h1
  · simp only [Value.slice.injEq, Option.some.injEq, Addr.mk.injEq, and_true, true_and] at h1
    obtain ⟨rfl, rfl⟩ := h1
    unfold RowAt
    rw [h3]
    have : cur.toList = xs.map (Value.int .i64) := by
      rw [← h7, List.take_of_length_le]
      simp [h6]
    rw [← this]
theorem rowAt_own {w : World} {base g : Nat} {xs : List Int} (h : RowAt w g xs) (hb : base ≤ g) (hl : xs.length ≤ 1000000) (hr : ∀ j, j < xs.length → in64 (iget xs j)) : Own w base (some ⟨g, 0, none⟩) xs.length xs :=
  ⟨⟨by simp, .inr ⟨g, xs.length, _, rfl, hb, h, Nat.le_refl _, by simp [maxLen]; omega, by simp, by rw [List.take_of_length_le (by simp)]⟩⟩, hr⟩
theorem RowAt.cell {w : World} {g : Nat} {xs : List Int} (h : RowAt w g xs) {j : Nat} (hj : j < xs.length) : w.cell? ⟨g, j, none⟩ = some (.int .i64 (iget xs j)) := by
  unfold RowAt at h
  simp only [World.cell?, h]
  simp [hj, iget]
theorem RowAt.lt {w : World} {g : Nat} {xs : List Int} (h : RowAt w g xs) : g < w.heap.size := (Array.getElem?_eq_some_iff.1 h).1
theorem rowAt_splice {w : World} {g off : Nat} {cur cs : List Int} (h : Hid (w.heap[g]? = some (.cells (splice (cur.map (Value.int .i64)) off (cs.map (Value.int .i64))).toArray 3 (0, 0)))) : RowAt w g (splice cur off cs) := by
  have e : splice (cur.map (Value.int .i64)) off (cs.map (Value.int .i64)) = (splice cur off cs).map (Value.int .i64) := by simp [splice]
  have := h.out
  rw [e] at this
  exact this

/-- The row while it is filled. -/
def fillR (x : Int) (n k : Nat) : List Int := List.replicate k x ++ List.replicate (n - k) 0
theorem fillR_len {x : Int} {n k : Nat} (h : k ≤ n) : (fillR x n k).length = n := by simp [fillR]; omega
theorem fillR_get {x : Int} {n k j : Nat} (h : j < k) (hk : k ≤ n) : iget (fillR x n k) j = x := by
  unfold fillR
  rw [iget_append]
  simp [h, iget]
theorem fillR_step {x : Int} {n k : Nat} (hk : k ≤ n) (m : Nat) (hm : k + m ≤ n) : splice (fillR x n k) k (List.replicate m x) = fillR x n (k + m) := by
  unfold splice fillR
  rw [List.take_append_of_le_length (by simp), List.take_of_length_le (by simp)]
  rw [List.drop_append, List.drop_eq_nil_of_le (by simp), List.nil_append, List.length_replicate, List.length_replicate, List.drop_replicate, ← List.append_assoc, List.replicate_append_replicate]
  congr 2
  omega
theorem fillR_full {x : Int} {n : Nat} : fillR x n n = List.replicate n x := by simp [fillR]
theorem fillR_zero {x : Int} {n : Nat} : fillR x n 0 = List.replicate n 0 := by simp [fillR]

theorem mul1_any (n : Nat) (hn : n ≤ 1000) (w : World) : Calls Tryz.prog 65 #[.int .u64 1, .int .u64 n] w fun e w' => e = .returned (.tuple #[.int .u64 0, .int .u64 n]) ∧ w' = w := by
  refine (Tryz.bits_Mul 1 n (by omega) (by omega) w).mono ?_
  rintro e w' ⟨rfl, rfl⟩
  rw [Nat.one_mul, Nat.div_eq_of_lt (by omega), Nat.mod_eq_of_lt (by omega)]
  exact ⟨rfl, rfl⟩
theorem made_row {w w1 : World} {n : Nat} {x : Int} (hO : Own w1 w.heap.size (some ⟨w.heap.size, 0, none⟩) n (List.replicate n 0)) : RowAt w1 w.heap.size (fillR x n 0) := by
  rw [fillR_zero]
  have : Own w1 w.heap.size (some ⟨w.heap.size, 0, none⟩) (List.replicate n (0 : Int)).length (List.replicate n 0) := by simpa using hO
  exact own_rowAt this
theorem made_below {w w1 : World} (hg : w.grownBy w1 none) : Below w.heap.size w w1 := below_grown (p := none) (base := w.heap.size) (Below.refl _ _) hg (Nat.le_refl _) (fun _ h => by cases h) (Nat.le_refl _)
theorem src_one {w w1 : World} {b o : Nat} {x : Int} (hb : b < w.heap.size) (hc : w.cell? ⟨b, o, none⟩ = some (.int .i64 x)) (h : Below w.heap.size w w1) : ∀ (j : Nat) (u : Value), ([x].map (Value.int .i64))[j]? = some u → w1.cell? ((⟨b, o, none⟩ : Addr).add j) = some u := by
  intro j u hu
  have hj : j = 0 := by
    have := (List.getElem?_eq_some_iff.1 hu).1
    simpa using this
  subst hj
  simp at hu; subst hu
  rw [add_plain]
  exact (h.cell (p := ⟨b, o, none⟩) hb).trans hc
theorem fill_cs {x : Int} {n k m : Nat} {w : World} {g : Nat} (h : RowAt w g (fillR x n k)) (hk : k ≤ n) (hm : m ≤ k) : ∀ (j : Nat) (u : Value), ((List.replicate m x).map (Value.int .i64))[j]? = some u → w.cell? ((⟨g, 0, none⟩ : Addr).add j) = some u := by
  intro j u hu
  rw [List.getElem?_map, List.getElem?_replicate] at hu
  split at hu
  · rename_i hj
    simp at hu; subst hu
    rw [add_plain, Nat.zero_add, h.cell (by rw [fillR_len hk]; omega), fillR_get (by omega) hk]
  · simp at hu
set_option maxHeartbeats 4000000 in
set_option maxRecDepth 100000 in
theorem repeat1_any (p : Option Addr) (c : Nat) (x : Int) (n : Nat) (w : World) (hx : Ints w p c [x]) (hn : n ≤ 1000) (hx64 : in64 x) :
    Calls Tryz.prog 29 #[.slice p 1 c, .int .i64 n] w fun e w' => ∃ g c', e = .returned (.slice (some ⟨g, 0, none⟩) n c') ∧ Own w' w.heap.size (some ⟨g, 0, none⟩) c' (List.replicate n x) ∧ Below w.heap.size w w' := by
  obtain ⟨b, o, rfl, hb, hc⟩ := hx.get (j := 0) (by simp)
  have hsz : (Tryz.prog.info? 3).map (·.size) = some 1 := by kernel_rfl
  have hnn : ¬ (n : Int) < 0 := by omega
  have hd : decide (9223372036854775807 < (n : Int)) = false := by simp; omega
  have hrep : ∀ j, j < (List.replicate n x).length → in64 (iget (List.replicate n x) j) := fun j hj => by
    have : iget (List.replicate n x) j = x := by simp at hj; simp [iget, hj]
    rw [this]; exact hx64
  have Hrep := Lib.hid hrep
  have Hsz := Lib.hid hsz
  clear hrep hsz
  go_enter Tryz.func29, Tryz.ntmps29
  go_wp2_with fail
  refine (mul1_any n hn w).mono ?_
  rintro e w' ⟨rfl, rfl⟩
  by_cases h0 : n < 1
  · have h00 : n = 0 := by omega
    have h0' : Hid (0 = Nat.min 1 n) := by unfold Hid; rw [h00]; rfl
    have HE : Hid (List.replicate n x = []) := by unfold Hid; rw [h00]; rfl
    have hle : ¬ (0 : Int) < n := by omega
    clear h00
    go_wp2_with (first
      | (at_make; refine wpList_mk rfl (.tmp 29) (.tmp 29) rfl w'.heap.size n rfl rfl (by omega) (Nat.le_refl _) ?_; intro w1 hO hg1 hs1; have hrow := Lib.hid (made_row (x := x) hO); have hbel := made_below hg1)
      | ((with_reducible show wpList _ _ _ (⟨some 33, _, _, _, _, _⟩ :: _) _ _); go_must (refine wpList_copy_splice rfl (.tmp 31) (.tmp 32) 25 25 rfl 3 Tryz.underlying25 Hsz.out (some ⟨w'.heap.size, 0, none⟩) (some ⟨b, o, none⟩) n n 1 c rfl rfl w'.heap.size 0 ((fillR x n 0).map (Value.int .i64)) 3 hrow.out [] h0'.out (fun h => absurd h (by simp)) (by simp) (by simp) w'.heap.size w' hbel (Nat.le_refl _) ?_); intro w2 hw2 hb2))
    go_loopw [8] (fun t wr => t = .int .i64 0 ∧ wr = w2) (fun t _ => 0)
    case atStart => exact ⟨rfl, rfl⟩
    case round =>
      obtain ⟨rfl, rfl⟩ := hrel
      go_wp2_with fail
      go_ret
      have hr := rowAt_splice (cs := []) hw2
      have e : splice (fillR x n 0) 0 [] = List.replicate n x := by
        have : n = 0 := by omega
        subst this; rfl
      rw [e] at hr
      exact ⟨w'.heap.size, n, by rfl, by have := rowAt_own hr (Nat.le_refl _) (by simp; omega) Hrep.out; simpa using this, hb2⟩
  · have h1 : Hid (([x].map (Value.int .i64)).length = Nat.min 1 n) := by
      show 1 = min 1 n
      omega
    have hc' : w'.cell? ⟨b, o, none⟩ = some (.int .i64 x) := hc
    go_wp2_with (first
      | (at_make; refine wpList_mk rfl (.tmp 29) (.tmp 29) rfl w'.heap.size n rfl rfl (by omega) (Nat.le_refl _) ?_; intro w1 hO hg1 hs1; have hrow := Lib.hid (made_row (x := x) hO); have hbel := made_below hg1; have hsrc := Lib.hid (src_one hb hc' hbel))
      | ((with_reducible show wpList _ _ _ (⟨some 33, _, _, _, _, _⟩ :: _) _ _); go_must (refine wpList_copy_splice rfl (.tmp 31) (.tmp 32) 25 25 rfl 3 Tryz.underlying25 Hsz.out (some ⟨w'.heap.size, 0, none⟩) (some ⟨b, o, none⟩) n n 1 c rfl rfl w'.heap.size 0 ((fillR x n 0).map (Value.int .i64)) 3 hrow.out ([x].map (Value.int .i64)) h1.out (fun _ => ⟨rfl, _, rfl, hsrc.out⟩) (by simp [fillR_len]; omega) (by simp [Value.oneCell']) w'.heap.size w' hbel (Nat.le_refl _) ?_); intro w2 hw2 hb2))
    have hr2 : Hid (RowAt w2 w'.heap.size (fillR x n 1)) := by
      have hr := rowAt_splice (cs := [x]) hw2
      have e : splice (fillR x n 0) 0 [x] = fillR x n 1 := fillR_step (Nat.zero_le _) 1 (by omega)
      rw [e] at hr
      exact hr
    clear hw2 hrow hsrc
    go_loopw [8] (fun t wr => ∃ k : Nat, 1 ≤ k ∧ k ≤ n ∧ t = .int .i64 k ∧ Hid (RowAt wr w'.heap.size (fillR x n k)) ∧ Below w'.heap.size w' wr) (fun t _ => n - (intOf t).toNat)
    case atStart => exact ⟨1, by omega, by omega, by rfl, hr2, hb2⟩
    case round =>
      obtain ⟨k, hk1, hk, rfl, hr, hbr⟩ := hrel
      by_cases hlt : k < n
      · have hlt1 : (k : Int) < n := by omega
        obtain ⟨m, hm1, hm2, hm⟩ : ∃ m : Nat, m ≤ k ∧ k + m ≤ n ∧ (m = min k (n - k)) := ⟨min k (n - k), by omega, by omega, rfl⟩
        have Hm := Lib.hid hm
        have hmp : 0 < m := by omega
        have Hm2 : Hid (((List.replicate m x).map (Value.int .i64)).length = Nat.min k (n - k)) := by unfold Hid; rw [List.length_map, List.length_replicate, hm]
        have hrd : Hid (RowAt wr.drew w'.heap.size (fillR x n k)) := hr
        have hcs := Lib.hid (fill_cs hrd.out hk hm1)
        have hbd : Below w'.heap.size w' wr.drew := hbr.drew
        have hk0 : (0 : Int) ≤ k := by omega
        clear hm
        have hk3 : (k : Int) ≤ n := by omega
        have Hfit : Hid (k + ((List.replicate m x).map (Value.int .i64)).length ≤ ((fillR x n k).map (Value.int .i64)).length) := by
          unfold Hid; rw [List.length_map, List.length_map, List.length_replicate, fillR_len hk]; exact hm2
        have Hone : Hid (∀ v ∈ (List.replicate m x).map (Value.int .i64), v.oneCell' = true) := by unfold Hid; simp [Value.oneCell']
        go_wp2_with fail
        have hne : ¬ n = k := by omega
        have hwr : IntKind.i64.wrap ((k : Int) + (m : Int)) = (k : Int) + (m : Int) := IntWalk.i64_in _ (by omega)
        have hne2 : ¬ (n : Int) = k := by omega
        go_region_law ((refine step_copy_splice rfl (.tmp 41) (.tmp 44) 25 25 rfl 3 Tryz.underlying25 Hsz.out (some ⟨w'.heap.size, k, none⟩) (some ⟨w'.heap.size, 0, none⟩) (n - k) (n - k) k n (by go_simp) (by go_simp) w'.heap.size k ((fillR x n k).map (Value.int .i64)) 3 hrd.out ((List.replicate m x).map (Value.int .i64)) Hm2.out (fun _ => ⟨rfl, _, rfl, hcs.out⟩) Hfit.out Hone.out w'.heap.size w' hbd (Nat.le_refl _) ?_; intro w4 hw4 hb4))
        go_simp
        go_wp2_with fail
        have hr4 : RowAt w4 w'.heap.size (fillR x n (k + m)) := by
          have hr := rowAt_splice hw4
          rwa [fillR_step hk m hm2] at hr
        go_roundw
        case rel => exact ⟨k + m, by omega, hm2, by go_num, hr4, hb4⟩
        case measure => simp [intOf]; omega
      · have hlt1 : ¬ (k : Int) < n := by omega
        obtain rfl : k = n := by omega
        go_wp2_with fail
        go_ret
        have hr := hr.out
        rw [fillR_full] at hr
        exact ⟨w'.heap.size, k, by rfl, by have := rowAt_own hr (Nat.le_refl _) (by simp; omega) Hrep.out; simpa using this, hbr⟩
end Go.Proofs.YtmcncflieoolmaaGreat
