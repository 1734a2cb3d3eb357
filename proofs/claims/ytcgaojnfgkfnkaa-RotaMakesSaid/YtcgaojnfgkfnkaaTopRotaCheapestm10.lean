/- The walk of rota.prove: a week of the least cost, and bounds that prove it, for counts of at most 1000.  (Printed by wip/genprove.py.) -/
import Derived.Test.YtcgaojnfgkfnkaaTopRotaCheapestm7
import Derived.WalkMore
import Derived.Deep.DeepCutAuto
/- The walk of rota.prove: a week of the least cost, and bounds that prove it, for counts of at most 1000.  (Printed by wip/genprove.py.) -/
namespace Go.Proofs.Ytcgaojnfgkfnkaa
set_option linter.unusedVariables false
set_option linter.unusedSimpArgs false
open Go.ChangeShapes Go.WideShapes Go.ChangeAt Go.RowKit Go.Deep

theorem lt9 {i : Nat} (h : i < 9) : i = 0 ∨ i = 1 ∨ i = 2 ∨ i = 3 ∨ i = 4 ∨ i = 5 ∨ i = 6 ∨ i = 7 ∨ i = 8 := by omega
theorem lt12 {i : Nat} (h : i < 12) : i = 0 ∨ i = 1 ∨ i = 2 ∨ i = 3 ∨ i = 4 ∨ i = 5 ∨ i = 6 ∨ i = 7 ∨ i = 8 ∨ i = 9 ∨ i = 10 ∨ i = 11 := by omega
def GivesP (v : List (List Int)) (w : World) (e : Ending) (w' : World) : Prop := ∃ gu gv gh U V H, e = .returned (.tuple #[.agg #[.slice (some ⟨gu, 0, none⟩) (v.length + 1) (v.length + 1), .slice (some ⟨gv, 0, none⟩) (v.length + 1) (v.length + 1)], .slice (some ⟨gh, 0, none⟩) (v.length + 1) (v.length + 1)]) ∧
  Stg v.length 1000 (bid v) v.length U V H ∧ Hp w' [(gu, v.length + 1, iF U), (gv, v.length + 1, iF V), (gh, v.length + 1, nF H)] ∧ Below w.heap.size w w' ∧ w.heap.size ≤ gu ∧ w.heap.size ≤ gv ∧ w.heap.size ≤ gh
set_option maxHeartbeats 16000000 in
set_option maxRecDepth 100000 in
theorem prove_any (p : Option Addr) (c : Nat) (v : List (List Int)) (w : World) (hx : Mat w p c v) (hv : CountsP v) :
    Calls Try.prog 45 #[.slice p v.length c] w (GivesP v w) := by
  obtain ⟨W0, hW0⟩ : ∃ W, w.alloc (.cells #[.slice none 0 0, .slice none 0 0] 69) = W := ⟨_, rfl⟩
  have hB0 := below_alloc hW0
  have bR : RowF W0 w.heap.size 2 nilF := by
    rw [← hW0]
    exact RowF.new fun k hk => by (match k, hk with | 0, _ => rfl | 1, _ => rfl)
  have mX := hx.below hB0 (Nat.le_refl _)
  have hlx := hx.length_le
  have HW0 := Lib.hid hW0
  clear hW0
  have Hv := Lib.hid hv
  have hn := hv.len
  clear hv
  have ec : ((v.length + 1 : Nat) : Int) = (v.length : Int) + 1 := by omega
  have mkI : ∀ W, (Instr.makeSlice 23 (.int .i64 ((v.length : Int) + 1)) (.int .i64 ((v.length : Int) + 1))).run Try.prog W = .ok (.slice (some ⟨W.heap.size, 0, none⟩) (v.length + 1) (v.length + 1)) (W.alloc (.cells (zI (v.length + 1)) 3)) := fun W => by rw [← ec]; exact run_zI _ (by omega) W
  have mkB : ∀ W, (Instr.makeSlice 81 (.int .i64 ((v.length : Int) + 1)) (.int .i64 ((v.length : Int) + 1))).run Try.prog W = .ok (.slice (some ⟨W.heap.size, 0, none⟩) (v.length + 1) (v.length + 1)) (W.alloc (.cells (boolCells (v.length + 1)) 4)) := fun W => by rw [← ec]; exact run_mkB _ (by omega) W
  have hw1 : IntKind.i64.wrap ((v.length : Int) + 1) = (v.length : Int) + 1 := IntWalk.i64_in _ (by omega)
  clear ec
  go_enter Try.func45, Try.ntmps45
  go_wp2_with fail
  rw [HW0.out]
  have hN : BxN (fun k => match k with | 0 => some (.int .i64 (v.length : Int)) | 1 => some (.int .i64 ((v.length : Int) + 1)) | 3 => some (.int .i64 (v.length : Int)) | 4 => some (.int .i64 ((v.length : Int) + 1)) | _ => none) (fun k => match k with | 2 => some (v.length + 1, iF fun _ => 0) | 5 => some (v.length + 1, iF fun _ => 0) | _ => none) 2 5 6 7 8 := ⟨⟨rfl, rfl⟩, ⟨rfl, rfl⟩, ⟨rfl, rfl⟩, by decide⟩
  refine wp_region_inv (by kernel_rfl) (by decide +kernel) (by decide +kernel) _ _ (BxJ W0 (fun k => match k with | 0 => some (.int .i64 (v.length : Int)) | 1 => some (.int .i64 ((v.length : Int) + 1)) | 3 => some (.int .i64 (v.length : Int)) | 4 => some (.int .i64 ((v.length : Int) + 1)) | _ => none) (fun k => match k with | 2 => some (v.length + 1, iF fun _ => 0) | 5 => some (v.length + 1, iF fun _ => 0) | _ => none) 2 5 6 7 8) ?_ ?_ ?_
  · exact fun us => BxJ.start us
  · intro us D W i o A hA hi hJ hnD hon K hK
    have hlt : i < 9 := (Array.getElem?_eq_some_iff.1 hi).1
    rcases lt9 hlt with rfl | rfl | rfl | rfl | rfl | rfl | rfl | rfl | rfl
    · have hi' := Option.some.inj hi
      subst hi'
      refine wp_val (v := (.int .i64 (v.length : Int))) (w' := W) ?_ (hK _ _ (hJ.pure (i := 0) rfl rfl hnD (by decide)))
      · skip
        have e4 : A.tmps[4]?.getD undef = (.int .i64 (v.length : Int)) := by rw [hA]; kernel_rfl
        clear hA hK hon hJ
        go_simp
    · have hi' := Option.some.inj hi
      subst hi'
      refine wp_val (v := (.int .i64 ((v.length : Int) + 1))) (w' := W) ?_ (hK _ _ (hJ.pure (i := 1) rfl rfl hnD (by decide)))
      · skip
        have e20 : A.tmps[20]?.getD undef = (.int .i64 (v.length : Int)) := (by rw [hA]; kernel_rfl : A.tmps[20]?.getD undef = us 0).trans (hJ.m.val 0 _ rfl (hon 0 (by decide +kernel)))
        clear hA hK hon hJ
        go_simp
    · have hi' := Option.some.inj hi
      subst hi'
      refine wp_val (v := .slice (some ⟨W.heap.size, 0, none⟩) (v.length + 1) (v.length + 1)) (w' := W.alloc (.cells (zI (v.length + 1)) 3)) ?_ (hK _ _ (hJ.make (i := 2) rfl rfl hnD (by decide) (fun hd => (hJ.bld hd).1) (RowF.new fun k hk => zI_get hk)))
      · skip
        have e21 : A.tmps[21]?.getD undef = (.int .i64 ((v.length : Int) + 1)) := (by rw [hA]; kernel_rfl : A.tmps[21]?.getD undef = us 1).trans (hJ.m.val 1 _ rfl (hon 1 (by decide +kernel)))
        clear hA hK hon hJ
        go_simp
    · have hi' := Option.some.inj hi
      subst hi'
      refine wp_val (v := (.int .i64 (v.length : Int))) (w' := W) ?_ (hK _ _ (hJ.pure (i := 3) rfl rfl hnD (by decide)))
      · skip
        have e4 : A.tmps[4]?.getD undef = (.int .i64 (v.length : Int)) := by rw [hA]; kernel_rfl
        clear hA hK hon hJ
        go_simp
    · have hi' := Option.some.inj hi
      subst hi'
      refine wp_val (v := (.int .i64 ((v.length : Int) + 1))) (w' := W) ?_ (hK _ _ (hJ.pure (i := 4) rfl rfl hnD (by decide)))
      · skip
        have e23 : A.tmps[23]?.getD undef = (.int .i64 (v.length : Int)) := (by rw [hA]; kernel_rfl : A.tmps[23]?.getD undef = us 3).trans (hJ.m.val 3 _ rfl (hon 3 (by decide +kernel)))
        clear hA hK hon hJ
        go_simp
    · have hi' := Option.some.inj hi
      subst hi'
      refine wp_val (v := .slice (some ⟨W.heap.size, 0, none⟩) (v.length + 1) (v.length + 1)) (w' := W.alloc (.cells (zI (v.length + 1)) 3)) ?_ (hK _ _ (hJ.make (i := 5) rfl rfl hnD (by decide) (fun hd => (hJ.bld hd).2.1) (RowF.new fun k hk => zI_get hk)))
      · skip
        have e24 : A.tmps[24]?.getD undef = (.int .i64 ((v.length : Int) + 1)) := (by rw [hA]; kernel_rfl : A.tmps[24]?.getD undef = us 4).trans (hJ.m.val 4 _ rfl (hon 4 (by decide +kernel)))
        clear hA hK hon hJ
        go_simp
    · have hi' := Option.some.inj hi
      subst hi'
      obtain ⟨g2, u2, _, _⟩ := hJ.m.made 2 _ _ rfl (hon 2 (by decide +kernel))
      obtain ⟨g5, u5, _, _⟩ := hJ.m.made 5 _ _ rfl (hon 5 (by decide +kernel))
      have hJ2 := hJ.build hN hnD (hon 2 (by decide +kernel)) (hon 5 (by decide +kernel))
      rw [u2, u5] at hJ2
      refine wp_val (v := .agg #[(.slice (some ⟨g2, 0, none⟩) (v.length + 1) (v.length + 1)), (.slice (some ⟨g5, 0, none⟩) (v.length + 1) (v.length + 1))]) (w' := W) ?_ (hK _ _ hJ2)
      · skip
        have e22 : A.tmps[22]?.getD undef = (.slice (some ⟨g2, 0, none⟩) (v.length + 1) (v.length + 1)) := (by rw [hA]; kernel_rfl : A.tmps[22]?.getD undef = us 2).trans u2
        have e25 : A.tmps[25]?.getD undef = (.slice (some ⟨g5, 0, none⟩) (v.length + 1) (v.length + 1)) := (by rw [hA]; kernel_rfl : A.tmps[25]?.getD undef = us 5).trans u5
        clear hA hK hon hJ hJ2 u2 u5
        go_simp
    · have hi' := Option.some.inj hi
      subst hi'
      refine wp_val (v := .pointer (some ⟨W.heap.size, 0, none⟩)) (w' := W.alloc (.cells #[.slice none 0 0, .slice none 0 0] 69)) ?_ (hK _ _ (hJ.alloc hN hnD (f := fun _ => .slice none 0 0) (RowF.new fun k hk => by (match k, hk with | 0, _ => rfl | 1, _ => rfl))))
      · skip
        clear hA hK hon hJ
        go_simp
    · have hi' := Option.some.inj hi
      subst hi'
      obtain ⟨b, f, q1, q2, q3, q4, _⟩ := hJ.box (hon 7 (by decide +kernel))
      obtain ⟨_, _, q6⟩ := hJ.bld (hon 6 (by decide +kernel))
      obtain ⟨g2, u2, _, _⟩ := hJ.m.made 2 _ _ rfl (hJ.bld (hon 6 (by decide +kernel))).1
      obtain ⟨g5, u5, _, _⟩ := hJ.m.made 5 _ _ rfl (hJ.bld (hon 6 (by decide +kernel))).2.1
      have hJ2 := hJ.store hN hnD (hon 7 (by decide +kernel)) (hon 6 (by decide +kernel)) q1 undef
      rw [u2, u5] at hJ2 q6
      refine wp_skip (w' := (W.setCell ⟨b, 0, none⟩ (.slice (some ⟨g2, 0, none⟩) (v.length + 1) (v.length + 1))).setCell ⟨b, 1, none⟩ (.slice (some ⟨g5, 0, none⟩) (v.length + 1) (v.length + 1))) ?_ (hK _ _ hJ2)
      · skip
        have e5 : A.tmps[5]?.getD undef = .pointer (some ⟨b, 0, none⟩) := (by rw [hA]; kernel_rfl : A.tmps[5]?.getD undef = us 7).trans q1
        have e26 : A.tmps[26]?.getD undef = .agg #[(.slice (some ⟨g2, 0, none⟩) (v.length + 1) (v.length + 1)), (.slice (some ⟨g5, 0, none⟩) (v.length + 1) (v.length + 1))] := (by rw [hA]; kernel_rfl : A.tmps[26]?.getD undef = us 6).trans q6
        have c0 := q3.cell 0 (by omega)
        have c1 := q3.cell 1 (by omega)
        have f0 := q3.live 0 (by omega)
        have f1 := q3.live 1 (by omega)
        clear q3 q4 q6 hA hK hon hJ hJ2 u2 u5
        go_simp
  · intro us D W1 hJ hall
    obtain ⟨gb, fb, q1, q2, q3, q4, q5⟩ := hJ.box (hall 7 (by decide))
    obtain ⟨gu, u1, u2, u3⟩ := hJ.m.made 2 _ _ rfl (hall 2 (by decide))
    obtain ⟨gv, v1, v2, v3⟩ := hJ.m.made 5 _ _ rfl (hall 5 (by decide))
    have d1 := q4 2 gu _ (by simp) (hall 2 (by decide)) u1
    have d2 := q4 5 gv _ (by simp) (hall 5 (by decide)) v1
    have d3 := hJ.m.dis 2 5 gu gv _ _ (hall 2 (by decide)) (hall 5 (by decide)) (by decide) (by simp) (by simp) u1 v1
    obtain ⟨f0, f1⟩ := q5 (hall 8 (by decide))
    rw [u1] at f0
    rw [v1] at f1
    have hbel := hJ.m.bel
    have q3' : RowF W1 gb 2 (slF (v.length + 1) gu gv) := q3.congr fun k hk => by (match k, hk with | 0, _ => exact f0.symm | 1, _ => exact f1.symm)
    have hH : Hp W1 [(gb, 2, slF (v.length + 1) gu gv), (gu, v.length + 1, iF fun _ => 0), (gv, v.length + 1, iF fun _ => 0)] := ((Hp.one v3).add u3 (by simp; exact Ne.symm d3)).add q3' (by simp; exact ⟨d1, d2⟩)
    have s0 := hB0.size
    have s0' := bR.lt
    have ggb : w.heap.size < gb := by omega
    have ggu : w.heap.size < gu := by omega
    have ggv : w.heap.size < gv := by omega
    have hb1 : Below w.heap.size w W1 := hB0.trans (hbel.mono s0)
    have bR1 := bR.below hbel bR.lt
    obtain ⟨W2, hW2⟩ : ∃ W, W1.alloc (.cells (zI (v.length + 1)) 3) = W := ⟨_, rfl⟩
    have hb2 : Below W1.heap.size W1 W2 := below_alloc hW2
    have hr2 : RowF W2 W1.heap.size (v.length + 1) (nF fun _ => 0) := by rw [← hW2]; exact RowF.new fun k hk => zI_get hk
    have hf2 := Hp.fresh hH (Nat.le_refl _)
    have hH1 := (hH.add bR1 (by simp; omega)).below hb2
    have hP5 : PV5 W2 (v.length + 1) gb gu gv W1.heap.size w.heap.size (fun _ => 0) (fun _ => 0) (fun _ => 0) := (hH1.add hr2 (by simp at hf2 ⊢; have := bR1.lt; omega)).perm (List.perm_append_comm (l₁ := [(W1.heap.size, v.length + 1, nF fun _ => 0), (w.heap.size, 2, nilF)]) (l₂ := [(gb, 2, slF (v.length + 1) gu gv), (gu, v.length + 1, iF fun _ => 0), (gv, v.length + 1, iF fun _ => 0)]))
    have hB2 : Below w.heap.size w W2 := hb1.trans (hb2.mono hb1.size)
    have ggh : w.heap.size < W1.heap.size := bR1.lt
    have HW2 := Lib.hid hW2
    clear hJ hall q3 q4 q5 f0 f1 d1 d2 d3 u2 u3 v2 v3 u1 v1 q2 hN hW2 hb2 hr2 hf2 hH1 hH bR1 hb1 hbel q3' s0 s0' bR
    simp only [actL, slotL, putL, List.setIfInBounds_toArray, List.set_cons_zero, List.set_cons_succ, Nat.zero_add, Nat.reduceAdd, q1]
    clear q1
    go_upto_region 4 with (fail)
    rw [HW2.out]
    obtain ⟨gh, egh⟩ : ∃ g, W1.heap.size = g := ⟨_, rfl⟩
    rw [egh] at hP5 ggh ⊢
    clear egh
    go_wp2_with fail
    go_loopw [7] (fun i wr => ∃ k : Nat, 1 ≤ k ∧ k ≤ v.length + 1 ∧ i = .int .i64 k ∧ (∃ U V H, Hid (Stg v.length 1000 (bid v) (k - 1) U V H) ∧ PV5 wr (v.length + 1) gb gu gv gh w.heap.size U V H) ∧ Below w.heap.size w wr) (fun i _ => v.length + 1 - (intOf i).toNat)
    case atStart => exact ⟨1, by omega, by omega, rfl, ⟨_, _, _, stg_zero (fun a k ha hk => Hv.out.cb a k ha hk) (by omega), hP5⟩, hB2⟩
    case round =>
      obtain ⟨k, hk1, hkn, rfl, ⟨U, V, H, hSt, hP⟩, hBr⟩ := hrel
      clear hP5 hB2
      by_cases hlt : k ≤ v.length
      · have hk2 : (k : Int) ≤ v.length := by omega
        go_wp2_with fail
        go_step3
        go_wp2_with fail
        refine wp_region_inv (by kernel_rfl) (by decide +kernel) (by decide +kernel) _ _ (MkJ 0 wr (fun k => match k with | 0 => some (.int .i64 (v.length : Int)) | 1 => some (.int .i64 ((v.length : Int) + 1)) | 3 => some (.int .i64 (v.length : Int)) | 4 => some (.int .i64 ((v.length : Int) + 1)) | 6 => some (.int .i64 (v.length : Int)) | 7 => some (.int .i64 ((v.length : Int) + 1)) | _ => none) (fun k => match k with | 2 => some (v.length + 1, iF fun _ => 0) | 5 => some (v.length + 1, iF fun _ => 0) | 8 => some (v.length + 1, bF fun _ => false) | _ => none) (fun k => match k with | 9 => some 2 | 10 => some 5 | 11 => some 8 | _ => none)) ?_ ?_ ?_
        · exact fun us => MkJ.start us
        · intro us D W i o A hA hi hJ hnD hon K hK
          have hlt : i < 12 := (Array.getElem?_eq_some_iff.1 hi).1
          rcases lt12 hlt with rfl | rfl | rfl | rfl | rfl | rfl | rfl | rfl | rfl | rfl | rfl | rfl
          · have hi' := Option.some.inj hi
            subst hi'
            refine wp_val (v := (.int .i64 (v.length : Int))) (w' := W) ?_ (hK _ _ (hJ.pure (i := 0) rfl rfl rfl hnD))
            · skip
              have e4 : A.tmps[4]?.getD undef = (.int .i64 (v.length : Int)) := by rw [hA]; kernel_rfl
              clear hA hK hon hJ
              go_simp
          · have hi' := Option.some.inj hi
            subst hi'
            refine wp_val (v := (.int .i64 ((v.length : Int) + 1))) (w' := W) ?_ (hK _ _ (hJ.pure (i := 1) rfl rfl rfl hnD))
            · skip
              have e35 : A.tmps[35]?.getD undef = (.int .i64 (v.length : Int)) := (by rw [hA]; kernel_rfl : A.tmps[35]?.getD undef = us 0).trans (hJ.val 0 _ rfl (hon 0 (by decide +kernel)))
              clear hA hK hon hJ
              go_simp
          · have hi' := Option.some.inj hi
            subst hi'
            refine wp_val (v := .slice (some ⟨W.heap.size, 0, none⟩) (v.length + 1) (v.length + 1)) (w' := W.alloc (.cells (zI (v.length + 1)) 3)) ?_ (hK _ _ (hJ.make (i := 2) rfl rfl rfl hnD (RowF.new fun k hk => zI_get hk)))
            · skip
              have e36 : A.tmps[36]?.getD undef = (.int .i64 ((v.length : Int) + 1)) := (by rw [hA]; kernel_rfl : A.tmps[36]?.getD undef = us 1).trans (hJ.val 1 _ rfl (hon 1 (by decide +kernel)))
              clear hA hK hon hJ
              go_simp
          · have hi' := Option.some.inj hi
            subst hi'
            refine wp_val (v := (.int .i64 (v.length : Int))) (w' := W) ?_ (hK _ _ (hJ.pure (i := 3) rfl rfl rfl hnD))
            · skip
              have e4 : A.tmps[4]?.getD undef = (.int .i64 (v.length : Int)) := by rw [hA]; kernel_rfl
              clear hA hK hon hJ
              go_simp
          · have hi' := Option.some.inj hi
            subst hi'
            refine wp_val (v := (.int .i64 ((v.length : Int) + 1))) (w' := W) ?_ (hK _ _ (hJ.pure (i := 4) rfl rfl rfl hnD))
            · skip
              have e38 : A.tmps[38]?.getD undef = (.int .i64 (v.length : Int)) := (by rw [hA]; kernel_rfl : A.tmps[38]?.getD undef = us 3).trans (hJ.val 3 _ rfl (hon 3 (by decide +kernel)))
              clear hA hK hon hJ
              go_simp
          · have hi' := Option.some.inj hi
            subst hi'
            refine wp_val (v := .slice (some ⟨W.heap.size, 0, none⟩) (v.length + 1) (v.length + 1)) (w' := W.alloc (.cells (zI (v.length + 1)) 3)) ?_ (hK _ _ (hJ.make (i := 5) rfl rfl rfl hnD (RowF.new fun k hk => zI_get hk)))
            · skip
              have e39 : A.tmps[39]?.getD undef = (.int .i64 ((v.length : Int) + 1)) := (by rw [hA]; kernel_rfl : A.tmps[39]?.getD undef = us 4).trans (hJ.val 4 _ rfl (hon 4 (by decide +kernel)))
              clear hA hK hon hJ
              go_simp
          · have hi' := Option.some.inj hi
            subst hi'
            refine wp_val (v := (.int .i64 (v.length : Int))) (w' := W) ?_ (hK _ _ (hJ.pure (i := 6) rfl rfl rfl hnD))
            · skip
              have e4 : A.tmps[4]?.getD undef = (.int .i64 (v.length : Int)) := by rw [hA]; kernel_rfl
              clear hA hK hon hJ
              go_simp
          · have hi' := Option.some.inj hi
            subst hi'
            refine wp_val (v := (.int .i64 ((v.length : Int) + 1))) (w' := W) ?_ (hK _ _ (hJ.pure (i := 7) rfl rfl rfl hnD))
            · skip
              have e41 : A.tmps[41]?.getD undef = (.int .i64 (v.length : Int)) := (by rw [hA]; kernel_rfl : A.tmps[41]?.getD undef = us 6).trans (hJ.val 6 _ rfl (hon 6 (by decide +kernel)))
              clear hA hK hon hJ
              go_simp
          · have hi' := Option.some.inj hi
            subst hi'
            refine wp_val (v := .slice (some ⟨W.heap.size, 0, none⟩) (v.length + 1) (v.length + 1)) (w' := W.alloc (.cells (boolCells (v.length + 1)) 4)) ?_ (hK _ _ (hJ.make (i := 8) rfl rfl rfl hnD (RowF.new fun k hk => boolCells_get hk)))
            · skip
              have e42 : A.tmps[42]?.getD undef = (.int .i64 ((v.length : Int) + 1)) := (by rw [hA]; kernel_rfl : A.tmps[42]?.getD undef = us 7).trans (hJ.val 7 _ rfl (hon 7 (by decide +kernel)))
              clear hA hK hon hJ
              go_simp
          · have hi' := Option.some.inj hi
            subst hi'
            refine wp_val (v := us 2) (w' := W) ?_ (hK _ _ (hJ.copy (i := 9) rfl rfl rfl (hon 2 (by decide +kernel)) hnD))
            · skip
              have e37 : A.tmps[37]?.getD undef = us 2 := by rw [hA]; kernel_rfl
              clear hA hK hon hJ
              go_simp
          · have hi' := Option.some.inj hi
            subst hi'
            refine wp_val (v := us 5) (w' := W) ?_ (hK _ _ (hJ.copy (i := 10) rfl rfl rfl (hon 5 (by decide +kernel)) hnD))
            · skip
              have e40 : A.tmps[40]?.getD undef = us 5 := by rw [hA]; kernel_rfl
              clear hA hK hon hJ
              go_simp
          · have hi' := Option.some.inj hi
            subst hi'
            refine wp_val (v := us 8) (w' := W) ?_ (hK _ _ (hJ.copy (i := 11) rfl rfl rfl (hon 8 (by decide +kernel)) hnD))
            · skip
              have e43 : A.tmps[43]?.getD undef = us 8 := by rw [hA]; kernel_rfl
              clear hA hK hon hJ
              go_simp
        · intro us D W3 hJ hall
          obtain ⟨gL, L1, L2, L3⟩ := hJ.made 2 _ _ rfl (hall 2 (by decide))
          obtain ⟨gP, P1, P2, P3⟩ := hJ.made 5 _ _ rfl (hall 5 (by decide))
          obtain ⟨gD, D1, D2, D3⟩ := hJ.made 8 _ _ rfl (hall 8 (by decide))
          have n1 := hJ.dis 2 5 gL gP _ _ (hall 2 (by decide)) (hall 5 (by decide)) (by decide) (by simp) (by simp) L1 P1
          have n2 := hJ.dis 2 8 gL gD _ _ (hall 2 (by decide)) (hall 8 (by decide)) (by decide) (by simp) (by simp) L1 D1
          have n3 := hJ.dis 5 8 gP gD _ _ (hall 5 (by decide)) (hall 8 (by decide)) (by decide) (by simp) (by simp) P1 D1
          have e9 := (hJ.cop 9 2 rfl (hall 9 (by decide))).2
          have e10 := (hJ.cop 10 5 rfl (hall 10 (by decide))).2
          have e11 := (hJ.cop 11 8 rfl (hall 11 (by decide))).2
          rw [L1] at e9
          rw [P1] at e10
          rw [D1] at e11
          have hbel := hJ.bel
          have hQ : PV8 W3 (v.length + 1) gL gP gD gb gu gv gh w.heap.size (lowF 0) (fun _ => 0) (fun _ => false) U V H := by
            rw [lowF_zero]
            exact hP.more hbel L2 P2 D2 n1 n2 n3 L3 (P3.congr fun _ _ => rfl) D3
          have hB3 : Below w.heap.size w W3 := hBr.trans (hbel.mono hBr.size)
          have hsz := hBr.size
          have ggL : w.heap.size ≤ gL := by omega
          have ggP : w.heap.size ≤ gP := by omega
          have ggD : w.heap.size ≤ gD := by omega
          clear hJ hall L1 L2 L3 P1 P2 P3 D1 D2 D3 n1 n2 n3 hbel hsz hP hBr
          simp only [actL, slotL, putL, List.setIfInBounds_toArray, List.set_cons_zero, List.set_cons_succ, Nat.zero_add, Nat.reduceAdd, e9, e10, e11]
          clear e9 e10 e11
          go_wp2_with fail
          go_loopw [46] (fun t wq => ∃ j : Nat, j ≤ v.length + 1 ∧ t = .int .i64 j ∧ PV8 wq (v.length + 1) gL gP gD gb gu gv gh w.heap.size (lowF j) (fun _ => 0) (fun _ => false) U V H ∧ Below w.heap.size w wq) (fun t _ => v.length + 1 - (intOf t).toNat)
          case atStart => exact ⟨0, by omega, rfl, hQ, hB3⟩
          case round =>
            obtain ⟨j, hj, rfl, hQr, hBq⟩ := hrel
            clear hQ hB3
            by_cases hjl : j < v.length + 1
            · have hj1 : (j : Int) < (v.length : Int) + 1 := by omega
              have c0 := hQr.cL hjl
              have f0 := hQr.fL hjl
              go_wp2_with fail
              go_roundw
              case rel => exact ⟨j + 1, by omega, by go_num, by rw [← lowF_succ]; exact hQr.setL hjl big40, hBq.setCell (p := ⟨gL, j, none⟩) ggL _⟩
              case measure => simp [intOf]; omega
            · have hj1 : ¬ (j : Int) < (v.length : Int) + 1 := by omega
              obtain rfl : j = v.length + 1 := by omega
              have c0 := hQr.cH (show 0 < v.length + 1 by omega)
              have f0 := hQr.fH (show 0 < v.length + 1 by omega)
              have hn0 : (0 : Int) < (v.length : Int) + 1 := by omega
              go_wp2_with fail
              have ek : k - 1 + 1 = k := by omega
              have hF0 := hSt.out.start (by omega) (by decide) (fun _ => 0) (L := lowF (v.length + 1)) (fun x hx => if_pos (by omega))
              rw [ek] at hF0
              have hQ0 := hQr.setH (show 0 < v.length + 1 by omega) k
              have hB0' := hBq.setCell (p := ⟨gh, 0, none⟩) (Nat.le_of_lt ggh) (.int .i64 (k : Int))
              clear c0 f0 hQr hBq
              go_step3
              go_wp2_with fail
              go_loopw [12] (fun tt wr => ∃ (t : Nat) (U V : Nat → Int) (H : Nat → Nat) (D : Nat → Bool) (L : Nat → Int) (P ρ : Nat → Nat) (m : Nat), tt = .int .i64 t ∧ Hid (Fur v.length 1000 (bid v) (k - 1) U V H t D L P ρ m) ∧ PV8 wr (v.length + 1) gL gP gD gb gu gv gh w.heap.size L P D U V H ∧ Below w.heap.size w wr) (fun _ wr => undone wr gD (v.length + 1))
              case atStart => exact ⟨0, _, _, _, _, _, _, _, _, rfl, hF0, hQ0, hB0'⟩
              case round =>
                clear hF0 hQ0 hB0' hSt
                obtain ⟨t, U, V, H, D, L, P, ρ, m, rfl, hF, hQ, hB⟩ := hrel
                have htn : t < v.length + 1 := by have := hF.out.tn; omega
                have ht1 : (t : Int) < (v.length : Int) + 1 := by omega
                have c0 := hQ.cD htn
                have f0 := hQ.fD htn
                have hms := undone_of hQ.tree
                have hms2 := falses_less (D := D) htn hF.out.nd
                go_wp2_with fail
                have hQ1 := hQ.setD htn true
                have hB1 := hB.setCell (p := ⟨gD, t, none⟩) ggD (.bool true)
                clear c0 f0
                have Hms := Lib.hid (And.intro hms hms2)
                clear hms hms2
                obtain ⟨a, ha⟩ : ∃ a, H t = a + 1 := ⟨H t - 1, by have := hF.out.ht; omega⟩
                have han : a < v.length := by have := (hF.out.row hF.out.tn hF.out.ht).1; omega
                have Ha := Lib.hid ha
                clear ha
                go_loopw [13, 14, 15] (fun ss xx kk wk => ∃ (j : Nat) (s x : Int), 1 ≤ j ∧ j ≤ v.length + 1 ∧ kk = .int .i64 j ∧ ss = .int .i64 s ∧ xx = .int .i64 x ∧ Hid (Least (newL (bid v) U V H t (updf D t true) L j) (updf D t true) j s x) ∧ PV8 wk (v.length + 1) gL gP gD gb gu gv gh w.heap.size (newL (bid v) U V H t (updf D t true) L j) (newP (bid v) U V H t (updf D t true) L P j) (updf D t true) U V H ∧ Below w.heap.size w wk) (fun _ _ kk _ => v.length + 1 - (intOf kk).toNat)
                case atStart =>
                  obtain ⟨z1, z2⟩ := newL_zero (bid v) U V H t (updf D t true) L P
                  exact ⟨1, big40, -1, by omega, by omega, rfl, rfl, rfl, least_zero _ _, by rw [z1, z2]; exact hQ1, hB1⟩
                case round =>
                  clear hQ1 hB1
                  obtain ⟨j, s, x, hj1, hjn, rfl, rfl, rfl, hLe, hQk, hBk⟩ := hrel
                  by_cases hjl : j ≤ v.length
                  · have hj2 : (j : Int) ≤ v.length := by omega
                    have hjl' : j < v.length + 1 := by omega
                    have hj3 : (j : Int) < (v.length : Int) + 1 := by omega
                    have cD := hQk.cD hjl'
                    cases hd : updf D t true j with
                    | true =>
                      rw [hd] at cD
                      go_wp2_with fail
                      go_roundw
                      case rel =>
                        obtain ⟨e1, e2⟩ := newL_same (c := bid v) (U := U) (V := V) (H := H) (t := t) (D := updf D t true) (L := L) (P := P) (k := j) (.inl hd)
                        exact ⟨j + 1, s, x, by omega, by omega, by go_num, rfl, rfl, by rw [e1]; exact hLe.out.skip hd, by rw [e1, e2]; exact hQk, hBk⟩
                      case measure => simp [intOf]; omega
                    | false =>
                      rw [hd] at cD
                      obtain ⟨bb, oo, rfl, _, qr, dr, hcr, hir⟩ := (hx.below hBk (Nat.le_refl _)).get han
                      rw [Hv.out.row a han] at hcr
                      obtain ⟨jm, ejm⟩ : ∃ jm : Nat, j - 1 = jm := ⟨_, rfl⟩
                      have hjm : jm < v.length := by omega
                      obtain ⟨bq, oq, rfl, _, hcc⟩ := hir.get (j := jm) (by rw [Hv.out.row a han]; exact hjm)
                      have hbd := Hv.out.cb a jm han hjm
                      have hU := hF.out.uhi a han
                      have hV := hF.out.vlo jm hjm
                      have hS := hF.out.slk_nonneg hF.out.tn hF.out.ht hj1 hjl
                      have eS : slk (bid v) U V H t j = bid v a jm - U (a + 1) - V j := by unfold slk; rw [Ha.out, ejm]; rfl
                      have cH := hQk.cH htn
                      rw [Ha.out, show (((a + 1 : Nat)) : Int) = (a : Int) + 1 by omega] at cH
                      have cU := hQk.cU (show a + 1 < v.length + 1 by omega)
                      have cV := hQk.cV hjl'
                      have cL := hQk.cL hjl'
                      rw [newL_at] at cL
                      have fL := hQk.fL hjl'
                      have cP := hQk.cP hjl'
                      have fP := hQk.fP hjl'
                      have b0 := hQk.c0
                      have b1 := hQk.c1
                      rw [show j = jm + 1 by omega] at eS cV
                      obtain ⟨X, eX'⟩ : ∃ X, iget (rget v a) jm = X := ⟨_, rfl⟩
                      have eX : bid v a jm = X := eX'
                      rw [eX'] at hcc
                      obtain ⟨Ua, eUa⟩ : ∃ X, U (a + 1) = X := ⟨_, rfl⟩
                      obtain ⟨Vj, eVj⟩ : ∃ X, V (jm + 1) = X := ⟨_, rfl⟩
                      obtain ⟨Lj, eLj⟩ : ∃ X, L j = X := ⟨_, rfl⟩
                      rw [eX] at hbd eS
                      rw [eUa] at hU eS cU
                      rw [eVj] at hV eS cV
                      rw [eLj] at cL
                      rw [show jm + 1 = j by omega] at cV eS
                      obtain ⟨Sk, eSk⟩ : ∃ X, slk (bid v) U V H t j = X := ⟨_, rfl⟩
                      rw [eSk] at eS hS
                      have hw1 : IntKind.i64.wrap ((a : Int) + 1 - 1) = a := by rw [Int.add_sub_cancel]; exact IntWalk.i64_in _ (by omega)
                      have hw2 : IntKind.i64.wrap ((j : Int) - 1) = jm := by rw [show (j : Int) - 1 = jm by omega]; exact IntWalk.i64_in _ (by omega)
                      have hw3 : IntKind.i64.wrap (X - Ua) = X - Ua := IntWalk.i64_in _ (by omega)
                      have hw4 : IntKind.i64.wrap (X - Ua - Vj) = Sk := by rw [← eS]; exact IntWalk.i64_in _ (by omega)
                      have ha1 : (a : Int) < v.length := by omega
                      have ha2 : (a : Int) + 1 < (v.length : Int) + 1 := by omega
                      have hjm1 : (jm : Int) < v.length := by omega
                      have Heq := Lib.hid (And.intro eSk eLj)
                      clear hir hbd hU hV eS eX eX' eUa eVj eLj eSk hS ejm
                      go_wp2_with fail
                      go_quiet (fail)
                      clear hcr hcc b0 b1 cV cU cH cD
                      by_cases hl : Sk < Lj
                      · obtain ⟨e1, e2⟩ := newL_less (c := bid v) (U := U) (V := V) (H := H) (t := t) (D := updf D t true) (L := L) (P := P) hj1 hd (by rw [Heq.out.1, Heq.out.2]; exact hl)
                        rw [Heq.out.1] at e1
                        obtain ⟨w2, hw2'⟩ : ∃ W, ((wr.drewN nq).setCell ⟨gL, j, none⟩ (.int .i64 Sk)).setCell ⟨gP, j, none⟩ (.int .i64 (t : Int)) = W := ⟨_, rfl⟩
                        have hQ2 : PV8 w2 (v.length + 1) gL gP gD gb gu gv gh w.heap.size (newL (bid v) U V H t (updf D t true) L (j + 1)) (newP (bid v) U V H t (updf D t true) L P (j + 1)) (updf D t true) U V H := by
                          rw [e1, e2, ← hw2']; exact ((hQk.drewN nq).setL hjl' Sk).setP hjl' t
                        have hB2 : Below w.heap.size w w2 := by
                          rw [← hw2']; exact ((hBk.drewN' nq).setCell (p := ⟨gL, j, none⟩) ggL _).setCell (p := ⟨gP, j, none⟩) ggP _
                        have hLj : newL (bid v) U V H t (updf D t true) L (j + 1) j = Sk := by rw [e1, updf_at]
                        have hLe2 : Least (newL (bid v) U V H t (updf D t true) L (j + 1)) (updf D t true) j s x := hLe.out.congr fun i h1 h2 => by rw [e1, updf_ne (by omega)]
                        have HW3 := Lib.hid hw2'
                        have cP2 := ((hQk.drewN nq).setL hjl' Sk).cP hjl'
                        clear e1 e2 hw2' cP
                        go_upto_region 24 with (fail)
                        clear cP2 cL
                        rw [HW3.out]
                        have cL := hQ2.cL hjl'
                        rw [hLj] at cL
                        by_cases hs : Sk < s
                        · go_wp2_with fail
                          go_roundw
                          case rel => exact ⟨j + 1, Sk, j, by omega, by omega, by go_num, rfl, rfl, by have := hLe2.less hj1 hd (by rw [hLj]; exact hs); rw [hLj] at this; exact this, hQ2, hB2⟩
                          case measure => simp [intOf]; omega
                        · go_wp2_with fail
                          go_roundw
                          case rel => exact ⟨j + 1, s, x, by omega, by omega, by go_num, rfl, rfl, hLe2.same (by rw [hLj]; exact hs), hQ2, hB2⟩
                          case measure => simp [intOf]; omega
                      · obtain ⟨e1, e2⟩ := newL_same (c := bid v) (U := U) (V := V) (H := H) (t := t) (D := updf D t true) (L := L) (P := P) (k := j) (.inr (by rw [Heq.out.1, Heq.out.2]; exact hl))
                        have hQ2 := hQk.drewN nq
                        have hB2 := hBk.drewN' nq
                        rw [← e1, ← e2] at hQ2
                        have hLj : newL (bid v) U V H t (updf D t true) L (j + 1) j = Lj := by rw [e1, newL_at]; exact Heq.out.2
                        have hLe2 := hLe.out
                        rw [← e1] at hLe2
                        clear e1 e2
                        by_cases hs : Lj < s
                        · go_wp2_with fail
                          go_roundw
                          case rel => exact ⟨j + 1, Lj, j, by omega, by omega, by go_num, rfl, rfl, by have := hLe2.less hj1 hd (by rw [hLj]; exact hs); rw [hLj] at this; exact this, hQ2, hB2⟩
                          case measure => simp [intOf]; omega
                        · go_wp2_with fail
                          go_roundw
                          case rel => exact ⟨j + 1, s, x, by omega, by omega, by go_num, rfl, rfl, hLe2.same (by rw [hLj]; exact hs), hQ2, hB2⟩
                          case measure => simp [intOf]; omega
                  · obtain rfl : j = v.length + 1 := by omega
                    have hj3 : ¬ ((v.length + 1 : Nat) : Int) ≤ v.length := by omega
                    obtain ⟨y, rfl, hM⟩ := hF.out.mid hLe.out
                    have HM := Lib.hid hM
                    clear hM hLe hF
                    obtain ⟨L1, eL1⟩ : ∃ f, newL (bid v) U V H t (updf D t true) L (v.length + 1) = f := ⟨_, rfl⟩
                    obtain ⟨P1, eP1⟩ : ∃ f, newP (bid v) U V H t (updf D t true) L P (v.length + 1) = f := ⟨_, rfl⟩
                    obtain ⟨D1, eD1⟩ : ∃ f, updf D t true = f := ⟨_, rfl⟩
                    rw [eD1] at eL1 eP1 HM hQk Hms
                    rw [eL1, eP1] at HM hQk
                    clear eL1 eP1 eD1
                    go_wp2_with fail
                    go_loopw [122] (fun kk wk => ∃ j : Nat, j ≤ v.length + 1 ∧ kk = .int .i64 j ∧ PV8 wk (v.length + 1) gL gP gD gb gu gv gh w.heap.size (bumpL D1 s L1 j) P1 D1 (bumpU H D1 s U j) (bumpV D1 s V j) H ∧ Below w.heap.size w wk) (fun kk _ => v.length + 1 - (intOf kk).toNat)
                    case atStart =>
                      obtain ⟨z1, z2, z3⟩ := bump_zero (H := H) (D := D1) (s := s) (U := U) (V := V) (L := L1)
                      exact ⟨0, by omega, rfl, by rw [z1, z2, z3]; exact hQk, hBk⟩
                    case round =>
                      clear hQk hBk
                      obtain ⟨j, hj, rfl, hQj, hBj⟩ := hrel
                      by_cases hjl : j < v.length + 1
                      · have hj1 : (j : Int) < (v.length : Int) + 1 := by omega
                        have cD := hQj.cD hjl
                        have hs0 := HM.out.s_pos
                        have hs1 := HM.out.s_le
                        cases hd : D1 j with
                        | true =>
                          rw [hd] at cD
                          obtain ⟨hjn, hHj⟩ := HM.out.dn j hd
                          obtain ⟨a2, ha2⟩ : ∃ a, H j = a + 1 := ⟨H j - 1, by omega⟩
                          have han2 : a2 < v.length := by have := (HM.out.row hjn hHj).1; omega
                          obtain ⟨y1, y2, y3, y4⟩ := bump_yes (H := H) (U := U) (V := V) (L := L1) (s := s) hd (fun i hi hdi e => by have := HM.out.injA (HM.out.dn i hdi).1 hjn (HM.out.dn i hdi).2 e; omega)
                          have cH := hQj.cH hjl
                          have cU := hQj.cU (show H j < v.length + 1 by omega)
                          have fU := hQj.fU (show H j < v.length + 1 by omega)
                          have cV := hQj.cV hjl
                          have fV := hQj.fV hjl
                          have b0 := hQj.c0
                          have b1 := hQj.c1
                          rw [y1] at cU
                          rw [bumpV_at] at cV
                          rw [ha2] at cH cU fU y2
                          rw [show (((a2 + 1 : Nat)) : Int) = (a2 : Int) + 1 by omega] at cH
                          have hU := HM.out.uhi a2 han2
                          have hV : -1000000 ≤ V j ∧ V j ≤ 0 := by
                            cases j with
                            | zero => have h1 := HM.out.v0; have h2 := HM.out.uhi (k - 1) (by omega); omega
                            | succ j => have := HM.out.vlo j (by omega); omega
                          obtain ⟨Uh, eUh⟩ : ∃ x, U (a2 + 1) = x := ⟨_, rfl⟩
                          obtain ⟨Vj, eVj⟩ : ∃ x, V j = x := ⟨_, rfl⟩
                          rw [eUh] at cU hU y2
                          rw [eVj] at cV hV y3
                          have hw2 : IntKind.i64.wrap (Uh + s) = Uh + s := IntWalk.i64_in _ (by omega)
                          have hw3 : IntKind.i64.wrap (Vj - s) = Vj - s := IntWalk.i64_in _ (by omega)
                          have ha4 : (a2 : Int) + 1 < (v.length : Int) + 1 := by omega
                          have Y2 := Lib.hid eVj
                          clear hU hV eUh eVj y1
                          have Y := Lib.hid (And.intro y2 (And.intro y3 y4))
                          have Ha2 := Lib.hid ha2
                          clear y2 y3 y4 ha2 hs0 hs1
                          go_wp2_with fail
                          go_region
                          obtain ⟨w2, hw2'⟩ : ∃ W, (wr.setCell ⟨gu, a2 + 1, none⟩ (.int .i64 (Uh + s))).drew = W := ⟨_, rfl⟩
                          have hQ2 : PV8 w2 (v.length + 1) gL gP gD gb gu gv gh w.heap.size (bumpL D1 s L1 j) P1 D1 (updf (bumpU H D1 s U j) (a2 + 1) (Uh + s)) (bumpV D1 s V j) H := by
                            rw [← hw2']; exact (hQj.setU (show a2 + 1 < v.length + 1 by omega) (Uh + s)).drewN 1
                          have hB2 : Below w.heap.size w w2 := by
                            rw [← hw2']; exact (hBj.setCell (p := ⟨gu, a2 + 1, none⟩) (Nat.le_of_lt ggu) _).drewN' 1
                          have HW3 := Lib.hid hw2'
                          rw [hw2']
                          clear hw2' cD cH cU fU cV fV b0 b1
                          have cV := hQ2.cV hjl
                          have fV := hQ2.fV hjl
                          have b1 := hQ2.c1
                          have Hve : Hid (bumpV D1 s V j j = V j) := bumpV_at
                          obtain ⟨Vv, eVv⟩ : ∃ x, bumpV D1 s V j j = x := ⟨_, rfl⟩
                          have hv5 : Vv = Vj := by rw [← eVv]; exact Hve.out.trans Y2.out
                          rw [eVv, hv5] at cV
                          clear eVv hv5 Hve
                          go_wp2_with fail
                          go_roundw
                          case rel => exact ⟨j + 1, by omega, by go_num, by rw [Y.out.1, Y.out.2.1, Y.out.2.2]; exact hQ2.setV hjl (Vj - s), hB2.setCell (p := ⟨gv, j, none⟩) (Nat.le_of_lt ggv) _⟩
                          case measure => simp [intOf]; omega
                        | false =>
                          rw [hd] at cD
                          obtain ⟨y2, y3, y4⟩ := bump_no (H := H) (U := U) (V := V) (L := L1) (s := s) hd
                          have cL := hQj.cL hjl
                          have fL := hQj.fL hjl
                          rw [bumpL_at] at cL
                          have hL := HM.out.lb j (by omega)
                          unfold big40 at hL
                          obtain ⟨Lj, eLj⟩ : ∃ x, L1 j = x := ⟨_, rfl⟩
                          rw [eLj] at cL hL y4
                          have hs2 : -1000 ≤ -s ∧ -s ≤ 0 := by omega
                          have hw2 : IntKind.i64.wrap (Lj - s) = Lj - s := IntWalk.i64_in _ (by omega)
                          have Y := Lib.hid (And.intro y2 (And.intro y3 y4))
                          clear y2 y3 y4 hL hs0 hs1 hs2 eLj
                          go_wp2_with fail
                          go_roundw
                          case rel => exact ⟨j + 1, by omega, by go_num, by rw [Y.out.1, Y.out.2.1, Y.out.2.2]; exact hQj.setL hjl (Lj - s), hBj.setCell (p := ⟨gL, j, none⟩) ggL _⟩
                          case measure => simp [intOf]; omega
                      · obtain rfl : j = v.length + 1 := by omega
                        have hj1 : ¬ (((v.length + 1 : Nat) : Int)) < (v.length : Int) + 1 := by omega
                        have hyn := HM.out.yn
                        have hy1 : (y : Int) < (v.length : Int) + 1 := by omega
                        have cY := hQj.cH (show y < v.length + 1 by omega)
                        by_cases hy : H y = 0
                        · have hyb : (((H y : Nat) : Int) == 0) = true := by rw [hy]; rfl
                          have hAu := HM.out.aug hy
                          rw [hy] at cY
                          clear HM hyb
                          obtain ⟨U2, eU2⟩ : ∃ f, bumpU H D1 s U (v.length + 1) = f := ⟨_, rfl⟩
                          obtain ⟨V2, eV2⟩ : ∃ f, bumpV D1 s V (v.length + 1) = f := ⟨_, rfl⟩
                          obtain ⟨L2, eL2⟩ : ∃ f, bumpL D1 s L1 (v.length + 1) = f := ⟨_, rfl⟩
                          obtain ⟨ρ2, eρ2⟩ : ∃ f, updf ρ y (m + 1) = f := ⟨_, rfl⟩
                          rw [eU2, eV2, eL2] at hQj
                          rw [eU2, eV2, eρ2] at hAu
                          clear eU2 eV2 eL2 eρ2
                          go_wp2_with fail
                          go_loopw [12] (fun tt wk => ∃ (t : Nat) (H' : Nat → Nat), tt = .int .i64 t ∧ Hid (Aug v.length 1000 (bid v) (k - 1) U2 V2 H H' t D1 P1 ρ2) ∧ PV8 wk (v.length + 1) gL gP gD gb gu gv gh w.heap.size L2 P1 D1 U2 V2 H' ∧ Below w.heap.size w wk) (fun tt _ => ρ2 (intOf tt).toNat)
                          case atStart => exact ⟨y, H, rfl, hAu, hQj, hBj⟩
                          case round =>
                            clear hAu hQj hBj cY
                            obtain ⟨t2, H2, rfl, hA, hQa, hBa⟩ := hrel
                            by_cases ht0 : t2 = 0
                            · subst ht0
                              have hSt2 := hA.out.stop
                              rw [ek] at hSt2
                              have HS2 := Lib.hid hSt2
                              clear hSt2 hA
                              go_wp2_with fail
                              rw [Exit.noGoto_normal]
                              go_wp2_with fail
                              go_roundw
                              case rel => exact ⟨k + 1, by omega, by omega, by go_num, ⟨U2, V2, H2, HS2, hQa.out⟩, hBa⟩
                              case measure => simp [intOf]; omega
                            · have hnb : (((t2 : Nat) : Int) != 0) = true := by rw [bne_iff_ne]; omega
                              obtain ⟨hA2, hPn, hρ⟩ := hA.out.step ht0
                              have htn2 := hA.out.tn
                              have ht3 : (t2 : Int) < (v.length : Int) + 1 := by omega
                              have cP := hQa.cP (show t2 < v.length + 1 by omega)
                              have cH1 := hQa.cH (show P1 t2 < v.length + 1 by omega)
                              have cH0 := hQa.cH (show t2 < v.length + 1 by omega)
                              have fH := hQa.fH (show t2 < v.length + 1 by omega)
                              have hQ3 := hQa.setH (show t2 < v.length + 1 by omega) (H2 (P1 t2))
                              have cP2 := hQ3.cP (show t2 < v.length + 1 by omega)
                              have HA2 := Lib.hid hA2
                              have Hρ := Lib.hid hρ
                              have hB3 := hBa.setCell (p := ⟨gh, t2, none⟩) (Nat.le_of_lt ggh) (.int .i64 ((H2 (P1 t2) : Nat) : Int))
                              clear hA hA2 hρ
                              obtain ⟨p2, ep2⟩ : ∃ x, P1 t2 = x := ⟨_, rfl⟩
                              rw [ep2] at cP cH1 hQ3 cP2 HA2 Hρ hPn hB3
                              have hp3 : (p2 : Int) < (v.length : Int) + 1 := by omega
                              clear ep2
                              go_wp2_with fail
                              go_roundw
                              case rel => exact ⟨p2, _, rfl, HA2.out, hQ3, hB3⟩
                              case measure => simp [intOf]; exact Hρ.out
                        · have hyb : (((H y : Nat) : Int) == 0) = false := by rw [beq_eq_false_iff_ne]; omega
                          have hNx := HM.out.next hy
                          clear HM
                          go_wp2_with fail
                          go_roundw
                          case rel => exact ⟨y, _, _, _, _, _, _, _, _, rfl, hNx, hQj, hBj⟩
                          case measure =>
                            rw [undone_of hQj.tree, Hms.out.1]
                            have := Hms.out.2
                            omega
      · obtain rfl : k = v.length + 1 := by omega
        have hk2 : ¬ ((v.length + 1 : Nat) : Int) ≤ v.length := by omega
        have b0 := hP.c0
        have b1 := hP.c1
        have r0 : wr.cell? ⟨w.heap.size, 0, none⟩ = some (.slice none 0 0) := hP.r.cell 0 (by omega)
        have r1 : wr.cell? ⟨w.heap.size, 1, none⟩ = some (.slice none 0 0) := hP.r.cell 1 (by omega)
        have l0 := hP.r.live 0 (by omega)
        have l1 := hP.r.live 1 (by omega)
        go_upto_region 39 with (fail)
        clear hk2
        go_wp2_with fail
        have hr := (hP.r.set (.slice (some ⟨gu, 0, none⟩) (v.length + 1) (v.length + 1)) (j := 0) (by omega)).set (.slice (some ⟨gv, 0, none⟩) (v.length + 1) (v.length + 1)) (j := 1) (by omega)
        have k0 := hr.cell 0 (by omega)
        have k1 := hr.cell 1 (by omega)
        rw [updf_ne (by omega), updf_at] at k0
        rw [updf_at] at k1
        have hF := (hP.rows.set 3 rfl (.slice (some ⟨gu, 0, none⟩) (v.length + 1) (v.length + 1)) (j := 0) (by omega)).set 3 rfl (.slice (some ⟨gv, 0, none⟩) (v.length + 1) (v.length + 1)) (j := 1) (by omega)
        refine bodyPost_ret (v := .tuple #[.agg #[.slice (some ⟨gu, 0, none⟩) (v.length + 1) (v.length + 1), .slice (some ⟨gv, 0, none⟩) (v.length + 1) (v.length + 1)], .slice (some ⟨gh, 0, none⟩) (v.length + 1) (v.length + 1)]) (by simp [results, Try.results45, go_sem, k0, k1]) rfl ⟨gu, gv, gh, U, V, H, rfl, hSt.out, hF.sub (List.sublist_append_left [_, _, _] [_]), (hBr.setCell (p := ⟨w.heap.size, 0, none⟩) (Nat.le_refl _) _).setCell (p := ⟨w.heap.size, 1, none⟩) (Nat.le_refl _) _, Nat.le_of_lt ggu, Nat.le_of_lt ggv, Nat.le_of_lt ggh⟩
end Go.Proofs.Ytcgaojnfgkfnkaa
