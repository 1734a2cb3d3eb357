/- The walk of the reference's One, for every chores and allocation. -/
import Derived.Test.YtiohehofnlmenaaChoresC
namespace Go.Proofs.Ytiohehofnlmenaa
set_option linter.unusedVariables false
set_option linter.unusedSimpArgs false
open Go.ChangeShapes Go.WideShapes Go.ChangeAt Go.RowKit Go.Deep

theorem contB_one {v : List (List Int)} {a : List Int} {i j x : Nat} (h : iget a x = (i : Int)) : contB v a i j (x : Int) = oneP v a i j x := by
  unfold contB oneP
  rw [if_pos ⟨by omega, by rw [Int.toNat_natCast]; exact h⟩, Int.toNat_natCast, Bool.eq_iff_iff, decide_eq_true_iff, decide_eq_true_iff]
  constructor
  · intro h1; exact ⟨h, by omega⟩
  · rintro ⟨_, h1⟩; omega
theorem oneP_off {v : List (List Int)} {a : List Int} {i j x : Nat} (h : ¬ iget a x = (i : Int)) : oneP v a i j x = false := by
  unfold oneP; rw [decide_eq_false_iff_not]; exact fun h1 => h h1.1

set_option maxHeartbeats 8000000 in
set_option maxRecDepth 100000 in
theorem ref24One_any (p : Option Addr) (c : Nat) (v : List (List Int)) (q : Option Addr) (d : Nat) (a : List Int) (w : World) (hx : Mat w p c v) (hi : Ints w q d a) :
    Calls Try.prog 18 #[.agg #[.slice p v.length c], .slice q a.length d] w (GivesMP w (oneM v a) (oneN v a) (chkA v a)) := by
  obtain ⟨W0, hW0⟩ : ∃ W0, w.alloc (.cells #[.slice p v.length c] 24) = W0 := ⟨_, rfl⟩
  have hB : Below w.heap.size w W0 := below_alloc hW0
  have bX : BoxV W0 w.heap.size [.slice p v.length c] := BoxV.new rfl hW0
  have hx := hx.below hB (Nat.le_refl _)
  have hi := hi.below hB (Nat.le_refl _)
  have x0 := bX.cell 0 _ rfl
  have HW0 := Lib.hid hW0
  clear hW0
  have hl1 := hx.length_le
  have hl2 := hi.length_le
  go_enter Try.func18, Try.ntmps18
  go_wp2_with fail
  rw [HW0.out]
  refine (ref24Envies_any p c v q d a _ hx hi).mono ?_
  rintro e w1 ⟨pe, ce, rfl, oE, hb1⟩
  replace hx := hx.below hb1 (Nat.le_refl _)
  replace hi := hi.below hb1 (Nat.le_refl _)
  replace bX := bX.below hb1
  replace x0 := bX.cell 0 _ rfl
  replace hB := hB.trans (hb1.mono hB.size)
  clear hb1
  by_cases hF : chkA v a = 0
  · have HF := Lib.hid hF
    have hM : oneM v a = mkL v a (prTo (cP v a) v.length v.length) := by unfold oneM; rw [envG_ok hF]
    have hN : oneN v a = msL v a (prTo (cP v a) v.length v.length) := by unfold oneN; rw [envG_ok hF]
    rw [envG_ok hF] at oE ⊢
    rw [hF]
    obtain ⟨hg, ha⟩ := chkA_zero.1 hF
    have HC := Lib.hid (fun (i k x : Nat) W hX hI (h : i < v.length) (hx2 : x < a.length) => content24_any p c v q d a i k (x : Int) W hX hI hg ha h (by omega) ⟨by omega, by omega⟩)
    have hcap := oE.cap
    have hElen := prTo_len (cP v a) v.length v.length
    have h66 : v.length * v.length ≤ 6 * 6 := Nat.mul_le_mul hg.2.1 hg.2.1
    have Hin := Lib.hid (fun k h => pget_lt (P := cP v a) (n := v.length) (k := k) h)
    obtain ⟨E, eE⟩ : ∃ E, prTo (cP v a) v.length v.length = E := ⟨_, rfl⟩
    rw [eE] at oE hcap hElen hM hN ⊢
    simp only [eE] at Hin
    have HM := Lib.hid hM
    have HN := Lib.hid hN
    clear hg ha hF eE hM hN
    obtain ⟨B, hBB⟩ : ∃ B, w1.heap.size = B := ⟨_, rfl⟩
    have HBB := Lib.hid hBB
    have hwB : w.heap.size ≤ B := by have := hB.size; omega
    have hlX := bX.lt
    rw [hBB] at hlX
    clear hBB
    go_wp2_with fail
    go_loopw [9, 10, 11] (fun s u t wr => ∃ k : Nat, k ≤ E.length ∧ t = .int .i64 k ∧ (∃ zs qz dz ys qy dy, Hid (zs = mkL v a (E.take k)) ∧ s = .slice qz (zs : List Trip).length dz ∧ OwnT 75 wr B qz dz zs ∧ Hid (ys = msL v a (E.take k)) ∧ u = .slice qy (ys : List (Nat × Nat)).length dy ∧ OwnP wr B qy dy ys ∧ (∀ g, blk qz = some g → blk qy ≠ some g)) ∧ Below B w1 wr) (fun _ _ t _ => E.length - (intOf t).toNat)
    case atStart => exact ⟨0, Nat.zero_le _, rfl, ⟨[], none, 0, [], none, 0, rfl, rfl, OwnT.ofNil _ _, rfl, rfl, OwnP.ofNil _ _, fun g h => (by cases h)⟩, Below.refl _ _⟩
    case round =>
      obtain ⟨k, hk, rfl, ⟨zs, qz, dz, ys, qy, dy, hz, rfl, hO, hy, rfl, hP, hsep⟩, hbr⟩ := hrel
      by_cases hlt : k < E.length
      · have hk1 : (k : Int) < E.length := by omega
        obtain ⟨ge, rfl, _, hgl, hce, hce2⟩ := (oE.below hbr (Nat.le_of_eq HBB.out)).get hlt
        obtain ⟨h1, h2⟩ := Hin.out k hlt
        obtain ⟨i, ei⟩ : ∃ i, (pget E k).1 = i := ⟨_, rfl⟩
        obtain ⟨j, ej⟩ : ∃ j, (pget E k).2 = j := ⟨_, rfl⟩
        have hpk := pget_eq ei ej
        rw [ei] at hce h1
        rw [ej] at hce2 h2
        have HY := Lib.hid (fun x (h : firstN (oneP v a i j) a.length = ((x : Nat) : Int)) => mkL_yes hlt hpk h)
        have HNo := Lib.hid (fun (h : firstN (oneP v a i j) a.length = -1) => mkL_no hlt hpk h)
        have hszB := hbr.size
        rw [HBB.out] at hszB
        have hlen := mkL_len v a (E.take k)
        have hzl : zs.length ≤ 900000 := by rw [hz.out]; have := hlen.1; rw [List.length_take] at this; omega
        have hyl : ys.length ≤ 900000 := by rw [hy.out]; have := hlen.2; rw [List.length_take] at this; omega
        have HO := Lib.hid hO
        have HPw := Lib.hid hP
        have Hsep := Lib.hid hsep
        have hoff := Lib.hid (fun x (h : ¬ iget a x = (i : Int)) => oneP_off (v := v) (j := j) h)
        have hon := Lib.hid (fun x (h : iget a x = (i : Int)) => contB_one (v := v) (j := j) h)
        clear ei ej hpk hlen hO hP hsep
        obtain ⟨wo, rfl⟩ : ∃ wo : World, wo = wr := ⟨_, rfl⟩
        go_wp2_with fail
        go_quiet (fail)
        go_wp2_with fail
        go_loopw [14] (fun t wk => ∃ x : Nat, x ≤ a.length ∧ t = .int .i64 x ∧ Hid (∀ r, r < x → oneP v a i j r = false) ∧ Below wo.heap.size wo wk) (fun t _ => a.length - (intOf t).toNat)
        case atStart => exact ⟨0, Nat.zero_le _, rfl, (fun r hr => absurd hr (Nat.not_lt_zero r)), below_drewN _ _ _⟩
        case round =>
          obtain ⟨x, hxl, rfl, hfx, hbk⟩ := hrel
          have hbw := hbr.trans (hbk.mono hszB)
          have bXk := bX.below (by rw [HBB.out]; exact hbw)
          have x0 := bXk.cell 0 _ rfl
          have hxk := hx.below hbw (Nat.le_of_eq HBB.out)
          have hik := hi.below hbw (Nat.le_of_eq HBB.out)
          by_cases hxa : x < a.length
          · have hx1 : (x : Int) < a.length := by omega
            obtain ⟨b4, o4, rfl, _, hc4⟩ := hik.get hxa
            by_cases he : iget a x = (i : Int)
            · have hcon := HC.out i j x wr hxk hik h1 hxa
              rw [hon.out x he] at hcon
              rw [he] at hc4
              have hb : ((i : Int) != (i : Int)) = false := by simp
              clear he
              cases hm : oneP v a i j x with
              | true =>
                obtain ⟨m1, m2⟩ := HY.out x (firstN_of hxa hm hfx.out)
                have Hm1 := Lib.hid m1
                have Hm2 := Lib.hid m2
                rw [hm] at hcon
                have Hcon := Lib.hid hcon
                clear hm m1 m2 hcon
                go_wp2_with fail
                refine Hcon.out.mono ?_
                rintro e wC ⟨rfl, hbC⟩
                have hb2 := hbk.trans (hbC.mono hbk.size)
                have hO2 := HO.out.below hb2 (Nat.le_refl _)
                have hP2 := HPw.out.below hb2 (Nat.le_refl _)
                have hsz2 := Nat.le_trans hszB hb2.size
                have hbw2 := hbr.trans (hb2.mono hszB)
                go_wp2_with (at_builtin; refine wpList_appT rfl (.tmp 67) (.tmp 72) 40 rfl (by kernel_rfl) (by kernel_rfl) B _ _ zs i j (x : Int) rfl rfl rfl hO2 hzl hsz2 ?_; intro p3 c3 w3 u3 hu3 hO3 hg3 hf3)
                go_roundw
                case rel => exact ⟨k + 1, by omega, by go_num, ⟨u3, _, _, ys, qy, dy, by unfold Hid; rw [hu3.out, hz.out, Hm1.out], rfl, hO3, by unfold Hid; rw [hy.out, Hm2.out], rfl, hP2.keptBy hg3 (fun g hg e => Hsep.out g e hg), fun g hg e => by
                  rcases hf3 g hg with h | h
                  · exact Hsep.out g h e
                  · have := (hP2.lt g e).2; omega⟩, hbw2.grown hg3 hsz2 (fun k' e => (hO2.lt k' e).1)⟩
                case measure => (simp [intOf] <;> omega)
              | false =>
                rw [hm] at hcon
                have Hcon := Lib.hid hcon
                have HR := Lib.hid hm
                clear hm hcon
                go_wp2_with fail
                refine Hcon.out.mono ?_
                rintro e wC ⟨rfl, hbC⟩
                go_wp2_with fail
                go_roundw
                case rel => exact ⟨x + 1, by omega, by go_num, snoc_all' hfx.out HR.out, hbk.trans (hbC.mono hbk.size)⟩
                case measure => (simp [intOf] <;> omega)
            · have hb : (iget a x != (i : Int)) = true := by rw [bne_iff_ne]; exact he
              have HR := Lib.hid (hoff.out x he)
              clear he
              go_wp2_with fail
              go_roundw
              case rel => exact ⟨x + 1, by omega, by go_num, snoc_all' hfx.out HR.out, hbk⟩
              case measure => (simp [intOf] <;> omega)
          · have hx1 : ¬ (x : Int) < a.length := by omega
            obtain ⟨m1, m2⟩ := HNo.out (firstN_none (fun r hr => hfx.out r (by omega)))
            have Hm1 := Lib.hid m1
            have Hm2 := Lib.hid m2
            have hO2 := HO.out.below hbk (Nat.le_refl _)
            have hP2 := HPw.out.below hbk (Nat.le_refl _)
            have hsz2 := Nat.le_trans hszB hbk.size
            have hcek := (hbk.cell (p := ⟨ge, k * 2, none⟩) hgl).trans hce
            have hcek2 := (hbk.cell (p := ⟨ge, k * 2 + 1, none⟩) hgl).trans hce2
            clear m1 m2
            go_wp2_with (at_builtin; refine wpList_appP rfl (.tmp 74) (.tmp 79) rfl B _ _ ys i j rfl rfl rfl hP2 hyl hsz2 ?_; intro p3 c3 w3 u3 hu3 hP3 hg3 hf3)
            go_roundw
            case rel => exact ⟨k + 1, by omega, by go_num, ⟨zs, qz, dz, u3, _, _, by unfold Hid; rw [hz.out, Hm1.out], rfl, hO2.keptBy hg3 (fun g hg e => Hsep.out g hg e), by unfold Hid; rw [hu3.out, hy.out, Hm2.out], rfl, hP3, fun g hg e => by
              rcases hf3 g e with h | h
              · exact Hsep.out g hg h
              · have := (hO2.lt g hg).2; omega⟩, hbw.grown hg3 hsz2 (fun k' e => (hP2.lt k' e).1)⟩
            case measure => (simp [intOf] <;> omega)
      · have hk1 : ¬ (k : Int) < E.length := by omega
        obtain rfl : k = E.length := by omega
        have hzr : zs = oneM v a := by rw [hz.out, HM.out, List.take_of_length_le (Nat.le_refl _)]
        have hyr : ys = oneN v a := by rw [hy.out, HN.out, List.take_of_length_le (Nat.le_refl _)]
        subst hzr hyr
        go_wp2_with fail
        go_ret3
        rw [HF.out]
        exact ⟨qz, dz, qy, dy, rfl, hO.lower hwB, hP.lower hwB, hB.trans (hbr.mono hwB)⟩
  · have hz : (chkA v a != 0) = true := by rw [bne_iff_ne]; exact hF
    have hM : Hid (oneM v a = []) := by unfold Hid oneM; rw [envG_err hF]; rfl
    have hN : Hid (oneN v a = []) := by unfold Hid oneN; rw [envG_err hF]; rfl
    rw [envG_err hF]
    clear hF
    go_wp2_with fail
    go_ret3
    rw [hM.out, hN.out]
    exact ⟨none, 0, none, 0, rfl, OwnT.ofNil _ _, OwnP.ofNil _ _, hB⟩
end Go.Proofs.Ytiohehofnlmenaa
