/- The walk of rota.Follow, for every counts and every number of weeks. -/
import Derived.Test.YtcgaojnfgkfnkaaTopRotaCheapestm13
import Derived.Test.YtcgaojnfgkfnkaaTopRotaCheapestm7
import Derived.Test.YtcgaojnfgkfnkaaTopRotaCheapestm11
import Derived.Test.YtcgaojnfgkfnkaaTopRotaCheapestm2
import Derived.Maps.RangeWalk
import Derived.RangeFuncOwn
import Derived.Test.YtcgaojnfgkfnkaaTopRotaCheapestm3
import Derived.Test.YtcgaojnfgkfnkaaTopRotaCheapestm1
import Derived.Test.YtcgaojnfgkfnkaaTopRotaCheapestm4
import Derived.Test.YtcgaojnfgkfnkaaTopRotaCheapestm8
/- The walk of rota.Follow, for every counts and every number of weeks. -/
namespace Go.Proofs.Ytcgaojnfgkfnkaa
set_option linter.unusedSimpArgs false
open Go.ChangeShapes Go.WideShapes Go.ChangeAt Go.RowKit Go.Deep
set_option linter.unusedVariables false
attribute [local go_sem] Oper.semAt_some

set_option maxRecDepth 100000 in
set_option maxHeartbeats 16000000 in
theorem follow_any (p : Option Addr) (c : Nat) (v : List (List Int)) (n : Int) (w : World) (hx : Mat w p c v) :
    Calls Try.prog 18 #[.slice p v.length c, .int .i64 n] w (GivesMt w (folR v n) (folE v n)) := by
  obtain ⟨i0, hi0, hz0, hz1, hz2⟩ := info_parts infoRow
  obtain ⟨W0, hW0⟩ : ∃ W, w.alloc (.cells #[.int .i64 n] 3) = W := ⟨_, rfl⟩
  have hB0 := below_alloc hW0
  have k0 : OneV W0 w.heap.size (.int .i64 n) 3 := OneV.new rfl hW0
  have hx0 := hx.below hB0 (Nat.le_refl _)
  have HW0 := Lib.hid hW0
  have CK := Lib.hid (check_any p c v W0 hx0)
  clear hW0 hx
  refine (callsIn_wide (n := 8)).1 ?_
  refine callsIn_of_wp_marks Try.func18 rfl trivial ?_ rfl
  simp only [Try.ntmps18, List.size_toArray, List.length_cons, List.length_nil, Nat.reduceAdd, Nat.reduceSub, Array.replicate_succ, Array.replicate_zero, List.push_toArray, List.append_toArray, List.nil_append, List.cons_append]
  gi_wp2
  rw [HW0.out]
  refine ⟨trivial, (callsIn_wide.2 CK.out).mono ?_⟩
  rintro e w1 ⟨rfl, hb1⟩
  have hB1 : Below w.heap.size w w1 := hB0.trans (hb1.mono hB0.size)
  have k1 := k0.below hb1 k0.lt
  have hx1 := hx0.below hb1 (Nat.le_refl _)
  clear CK hB0 k0 hx0 hb1 HW0
  by_cases hC : chk32 v ≠ 0
  · have HE := Lib.hid (folE_chk (n := n) hC)
    have HR := Lib.hid (folR_bad (v := v) (n := n) (by rw [HE.out]; exact hC))
    obtain ⟨E, eE⟩ : ∃ E, chk32 v = E := ⟨_, rfl⟩
    rw [eE] at HE hC ⊢
    have hb : (E != 0) = true := by rw [bne_iff_ne]; exact hC
    clear eE hC
    gi_wp2
    refine ⟨_, results_tmp2 rfl _ _ _, ?_⟩
    rw [HE.out, HR.out]
    exact ⟨none, 0, rfl, Mat.ofNil _, hB1⟩
  replace hC : chk32 v = 0 := Classical.not_not.1 hC
  rw [hC]
  have c1 := k1.cell
  by_cases hA : n < 0 ∨ 400 < n
  · have HE := Lib.hid (folE_arg hC hA)
    have HR := Lib.hid (folR_bad (v := v) (n := n) (by rw [HE.out]; omega))
    clear hC
    by_cases h0 : n < 0
    · have hd : decide (n < 0) = true := by simpa using h0
      gi_wp2
      refine ⟨_, results_tmp2 rfl _ _ _, ?_⟩
      rw [HE.out, HR.out]
      exact ⟨none, 0, rfl, Mat.ofNil _, hB1⟩
    · have hd : decide (n < 0) = false := by simpa using h0
      have hd2 : decide (400 < n) = true := by simp; omega
      gi_wp2
      refine ⟨_, results_tmp2 rfl _ _ _, ?_⟩
      rw [HE.out, HR.out]
      exact ⟨none, 0, rfl, Mat.ofNil _, hB1⟩
  obtain ⟨M, rfl⟩ : ∃ M : Nat, n = M := ⟨n.toNat, by omega⟩
  have hd : decide ((M : Int) < 0) = false := by simp
  have hd2 : decide (400 < (M : Int)) = false := by simp; omega
  have HE := Lib.hid (folE_ok hC hA)
  have HR := Lib.hid (folR_ok HE.out)
  have hM : M ≤ 400 := by omega
  have Hv := Lib.hid (CntM.of_chk hC)
  have hl1 : 1 ≤ v.length := (chk32_zero hC).2.1
  clear hC hA
  gi_wp2
  obtain ⟨W3, hW3⟩ : ∃ W, w1.alloc (.cells #[.slice none 0 0] 22) = W := ⟨_, rfl⟩
  rw [hW3]
  refine ⟨trivial, (callsIn_wide.2 (followed_any p v.length c W3)).mono ?_⟩
  rintro e w4 ⟨rfl, hw4⟩
  have kO3 : OneV W3 w1.heap.size (.slice none 0 0) 22 := OneV.new rfl hW3
  have hs3 : W3.heap.size = w1.heap.size + 1 := by rw [← hW3]; simp
  have hs4 : w4.heap.size = w1.heap.size + 2 := by rw [hw4]; simp [hs3]
  have hB34 : Below W3.heap.size W3 w4 := by rw [hw4]; exact (Below.refl _ _).alloc (Nat.le_refl _) _
  have hB14 : Below w1.heap.size w1 w4 := (below_alloc hW3).trans (hB34.mono (by omega))
  have kO : OneV w4 w1.heap.size (.slice none 0 0) 22 := kO3.below hB34 (by omega)
  have kS : OneV w4 W3.heap.size (.slice p v.length c) 22 := OneV.new rfl hw4.symm
  have km : OneV w4 w.heap.size (.int .i64 M) 3 := k1.below hB14 k1.lt
  have hwO : w.heap.size < w1.heap.size := k1.lt
  have hx4 := hx1.below hB14 (Nat.le_refl _)
  have hB5 : Below w.heap.size w w4 := hB1.trans (hB14.mono hB1.size)
  obtain ⟨O, hO⟩ : ∃ O, w1.heap.size = O := ⟨_, rfl⟩
  obtain ⟨n4, hn4⟩ : ∃ n4, w4.heap.size = n4 := ⟨_, rfl⟩
  obtain ⟨s3, hsx⟩ : ∃ s3, W3.heap.size = s3 := ⟨_, rfl⟩
  rw [hO] at kO hwO hs3 hs4
  rw [hsx] at kS hs3 ⊢
  rw [hn4] at hs4
  have hOn : O < n4 := by omega
  have HSt := Lib.hid (followed1_ends (8 - 1) (by omega) s3 O M p c v w4 (by omega) (by omega) kS.cell hx4 Hv.out hl1 (by omega) (by rw [outB_of kO.cell]; rfl))
  have Hn4 := Lib.hid hn4
  have Hgo : Hid (Stab w4.heap.size O (GotF w4 O n4)) := by unfold Hid; rw [hn4]; exact gotF_stab w4 O n4 hOn
  have H00 : Hid (GotF w4 O n4 [] w4) := ⟨none, 0, kO, World.ownsRow_nil _ _ _ _, (fun x h => by cases h), Keeps.refl _ _ _, by omega⟩
  have HO := Lib.hid hO
  clear hn4 hB34 hB14 kO3 kO kS hs3 hs4 hsx hO hw4 hW3 hx4 hx1 k1 c1 hB1
  gi_wp2
  rw [HO.out]
  refine range_endsW (by omega) (gf := 50) (lb := #[.pointer (some ⟨s3, 0, none⟩)]) rfl (enters_of Try.func50 (by kernel_rfl) rfl) (O := O) (by rw [Hn4.out]; exact hOn) HSt.out rfl
    (fun pre W => GotF w4 O n4 pre W ∧ pre.length ≤ M) (fun pre W => ∃ pre' x, pre = pre' ++ [x] ∧ GotF w4 O n4 pre' W ∧ pre'.length = M) 0
    (fun s A B hs h1 h2 h3 => ⟨Hgo.out s A B hs.1 h1 h2 h3, hs.2⟩)
    (fun s A B hs h1 h2 h3 => by
      obtain ⟨pre', x, rfl, h, hl⟩ := hs
      exact ⟨pre', x, rfl, Hgo.out pre' A B h h1 h2 (fun k hk hq => h3 k hk (hq.imp (fun h => h) fun h => ⟨h.1, h.2.imp (fun h => h) fun h => by rw [List.map_append]; exact List.mem_append.2 (.inl h)⟩)), hl⟩)
    (fun pre W h => h.2) ⟨H00.out, Nat.zero_le _⟩ ?a1 ?assign ?body ?stop
  case assign =>
    intro l x W K hK
    unfold encX
    gi_wp2
    exact hK
  case body =>
    rintro l pre x W ⟨⟨q, d, g1, g2, g3, g4, g5⟩, hpre⟩ hok
    have cO := g1.cell
    have fO := g1.free
    have cm : W.cell? ⟨w.heap.size, 0, none⟩ = some (.int .i64 M) := (g4.cell (by omega) (by omega)).trans km.cell
    by_cases hfull : pre.length = M
    · have hdl : (((pre.length : Int)) == (M : Int)) = true := by rw [hfull]; simp
      have HG : Hid (GotF w4 O n4 pre W) := ⟨q, d, g1, g2, g3, g4, g5⟩
      have Hf := Lib.hid hfull
      clear hfull
      gi_wp2
      exact ⟨rfl, KeepsOthers.refl _, pre, x, rfl, HG.out, Hf.out⟩
    · have hdl : (((pre.length : Int)) == (M : Int)) = false := by rw [beq_eq_false_iff_ne]; omega
      have hpl : pre.length + 1 ≤ M := by omega
      have hok2 : OkX n4 O x W := by rw [← Hn4.out]; exact hok
      clear hfull hok
      gi_wp2_with (first
        | (gi_at_builtin; refine wpListIn_app1G _ rfl _ _ 22 rfl n4 23 i0 (.slice none 0 0) 24 Try.underlying22 hi0 hz0 hz1 hz2 rfl q pre.length d (rowVs pre) rfl (g2.alloc _) ⟨W.heap.size, 0, none⟩ (.slice (some ⟨x.1, 0, none⟩) x.2.length x.2.length) rfl (by rw [add_plain, World.cell?_alloc_at _ _ _ _ rfl]; rfl) rfl (by simp [maxLen]; omega) (by omega) (by simp; omega) ?_; intro p' c' w3 hown' hg3 hfr; have hst := Lib.hid (gotF_stored (x := x) hOn g1 g2 g3 g4 g5 hok2 ⟨hg3.os, hg3.tape, hg3.output, hg3.size, hg3.block⟩ hfr hown'); obtain ⟨hc3, hf3⟩ := boxF_after hOn g1 g2 g5 hg3; go_frame))
      exact ⟨hst.out.1, hst.out.2.1, hst.out.2.2, by rw [List.length_append]; exact hpl⟩
  case stop =>
    rintro D pre W hD hpre ⟨pre', x, rfl, hg, hl⟩ hK
    have hnD : n4 ≤ D := by rw [← Hn4.out]; exact hD
    have hp' : pre'.map (·.2) = folL v M := by
      rw [List.length_append, List.length_singleton, folL_succ, List.map_append, hl] at hpre
      exact (List.append_inj' hpre rfl).1
    obtain ⟨q2, d2, e1, e2, e3, e4, e5⟩ := Hgo.out.putObj (o' := .deferred none) hg (by omega) hK rfl
    obtain ⟨q, d, g1, g2, g3, g4, g5⟩ := hg
    have cO := g1.cell
    have he : q = q2 ∧ d = d2 := by
      have h1 : OneV (W.putObj D (.deferred none)) O (.slice q pre'.length d) 22 := g1.putObj (by omega)
      unfold OneV at h1 e1
      rw [h1] at e1
      simp at e1; exact e1
    obtain ⟨rfl, rfl⟩ := he
    have Hp := Lib.hid hp'
    have HK2 := Lib.hid hK
    have hmat := gotF_mat e2 e3
    have Hmat := Lib.hid hmat
    have Hl := Lib.hid hl
    clear hK hp' hl hpre g1 hmat
    gi_wp2
    refine ⟨by simp, .inl ⟨_, _, rfl, run_takeDeferred HK2.out, ?_⟩⟩
    refine ⟨_, results_tmp2 rfl _ _ _, ?_⟩
    rw [HR.out, HE.out, ← Hp.out]
    exact ⟨q, d, by rw [List.length_map]; rfl, Hmat.out, hB5.trans (e4.bel.mono (by omega))⟩
end Go.Proofs.Ytcgaojnfgkfnkaa

/- The walks of rota.Next and of the reference's Next. -/
namespace Go.Proofs.Ytcgaojnfgkfnkaa
set_option linter.unusedVariables false
set_option linter.unusedSimpArgs false
open Go.ChangeShapes Go.WideShapes Go.ChangeAt Go.RowKit Go.Deep

/-- The next week, where counts are counts. -/
noncomputable def nxtL (v : List (List Int)) : List Int := if chk32 v = 0 then weekA v else []
theorem nxtL_ok {v : List (List Int)} (h : chk32 v = 0) : nxtL v = weekA v := if_pos h
theorem nxtL_bad {v : List (List Int)} (h : chk32 v ≠ 0) : nxtL v = [] := if_neg h
/-- A row that can be read, and an error. -/
def GivesI2 (w : World) (xs : List Int) (k : Int) (e : Ending) (w' : World) : Prop := ∃ p c, e = .returned (.tuple #[.slice p xs.length c, .int .i64 k]) ∧ Ints w' p c xs ∧ Below w.heap.size w w'
set_option maxHeartbeats 1600000 in
theorem next2_any (p : Option Addr) (c : Nat) (v : List (List Int)) (w : World) (hx : Mat w p c v) :
    Calls Try.prog 13 #[.slice p v.length c] w fun e w' => GivesI2 w (nxtL v) (chk32 v) e w' ∧ (chk32 v = 0 → IsWeek v (weekA v)) := by
  have CK := Lib.hid (check_any p c v w hx)
  by_cases hC : chk32 v ≠ 0
  · have HR := Lib.hid (nxtL_bad hC)
    have HC := Lib.hid hC
    obtain ⟨E, eE⟩ : ∃ E, chk32 v = E := ⟨_, rfl⟩
    rw [eE] at CK HC hC ⊢
    have hb : (E != 0) = true := by rw [bne_iff_ne]; exact hC
    clear eE hC
    go_enter Try.func13, Try.ntmps13
    go_wp2_with fail
    refine CK.out.mono ?_
    rintro e w1 ⟨rfl, hb1⟩
    go_wp2_with fail
    go_ret2
    rw [HR.out]
    exact ⟨⟨none, 0, rfl, Ints.ofNil _, hb1⟩, fun h => absurd h HC.out⟩
  replace hC : chk32 v = 0 := Classical.not_not.1 hC
  have HR := Lib.hid (nxtL_ok hC)
  have hM := CntM.of_chk hC
  have HN := Lib.hid (fun W h => next_any p c v W h (hM.counts (by omega)))
  rw [hC] at CK ⊢
  clear hC hM
  go_enter Try.func13, Try.ntmps13
  go_wp2_with fail
  refine CK.out.mono ?_
  rintro e w1 ⟨rfl, hb1⟩
  go_wp2_with fail
  refine (HN.out w1 (hx.below hb1 (Nat.le_refl _))).mono ?_
  rintro e w2 ⟨g, rfl, hIs, hI, hb2, hg⟩
  go_wp2_with fail
  go_ret2
  rw [HR.out]
  refine ⟨⟨some ⟨g, 0, none⟩, v.length, ?_, hI, hb1.trans (hb2.mono hb1.size)⟩, fun _ => hIs⟩
  rw [hIs.1.1]; rfl
set_option maxHeartbeats 1600000 in
theorem refNext_any (p : Option Addr) (c : Nat) (v : List (List Int)) (w : World) (hx : Mat w p c v) (h7 : chk32 v = 0 → v.length ≤ 7) :
    Calls Try.prog 17 #[.slice p v.length c] w fun e w' => GivesI2 w (nxtL v) (chk32 v) e w' ∧ (chk32 v = 0 → IsWeek v (weekA v)) := by
  have CK := Lib.hid (refChk_any p c v w hx)
  by_cases hC : chk32 v ≠ 0
  · have HR := Lib.hid (nxtL_bad hC)
    have HC := Lib.hid hC
    obtain ⟨E, eE⟩ : ∃ E, chk32 v = E := ⟨_, rfl⟩
    rw [eE] at CK HC hC ⊢
    have hb : (E != 0) = true := by rw [bne_iff_ne]; exact hC
    clear eE hC h7
    go_enter Try.func17, Try.ntmps17
    go_wp2_with fail
    refine CK.out.mono ?_
    rintro e w1 ⟨rfl, hw⟩
    subst w1
    go_wp2_with fail
    refine CK.out.mono ?_
    rintro e w1 ⟨rfl, hw⟩
    subst w1
    go_wp2_with fail
    go_ret2
    rw [HR.out]
    exact ⟨⟨none, 0, rfl, Ints.ofNil _, Below.refl _ _⟩, fun h => absurd h HC.out⟩
  replace hC : chk32 v = 0 := Classical.not_not.1 hC
  have HR := Lib.hid (nxtL_ok hC)
  have hM := CntM.of_chk hC
  have HN := Lib.hid (week_any p c v w hx (hM.counts (by omega)) (h7 hC))
  rw [hC] at CK ⊢
  clear hC hM h7
  go_enter Try.func17, Try.ntmps17
  go_wp2_with fail
  refine CK.out.mono ?_
  rintro e w1 ⟨rfl, hw⟩
  subst w1
  go_wp2_with fail
  refine HN.out.mono ?_
  rintro e w2 ⟨hIs, q, d, rfl, hO, hb2⟩
  go_wp2_with fail
  go_ret2
  rw [HR.out]
  exact ⟨⟨q, d, rfl, hO.ints, hb2⟩, fun _ => hIs⟩
end Go.Proofs.Ytcgaojnfgkfnkaa

/- What a text that runs straight on holds: rows, tables, lists of tables, under one name; literals, calls; no condition but sizes. -/
namespace Go.Proofs.Ytcgaojnfgkfnkaa
open Go.ChangeShapes Go.WideShapes Go.ChangeAt Go.RowKit Go.Deep
set_option linter.unusedVariables false
set_option linter.unusedSimpArgs false

def in64B (x : Int) : Bool := decide (-9223372036854775808 ≤ x) && decide (x ≤ 9223372036854775807)
theorem in64_all {xs : List Int} (h : xs.all in64B = true) : ∀ x ∈ xs, in64 x := fun x hx => by
  have := List.all_eq_true.1 h x hx
  simp [in64B] at this
  exact this
theorem ints_lit (w : World) (xs : List Int) (hsz : xs.length ≤ 1000000) (hr : ∀ x ∈ xs, in64 x) :
    Ints (w.alloc (.cells (xs.map (Value.int .i64)).toArray 3)) (some ⟨w.heap.size, 0, none⟩) xs.length xs :=
  (Own.lit w w.heap.size (Nat.le_refl _) xs hsz (fun j hj => hr _ (iget_mem hj))).ints
theorem mat_lit (w : World) (rows : List (Option Addr × Nat × List Int)) (hsz : rows.length ≤ 1000000) (hr : ∀ r ∈ rows, Ints w r.1 r.2.1 r.2.2) :
    Mat (w.alloc (.cells (rows.map fun r => Value.slice r.1 r.2.2.length r.2.1).toArray 23)) (some ⟨w.heap.size, 0, none⟩) rows.length (rows.map fun r => r.2.2) := by
  have hb : Below w.heap.size w (w.alloc (.cells (rows.map fun r => Value.slice r.1 r.2.2.length r.2.1).toArray 23)) := (Below.refl _ w).alloc (Nat.le_refl _) _
  have hn := World.alloc_heap_new w (.cells (rows.map fun r => Value.slice r.1 r.2.2.length r.2.1).toArray 23)
  refine ⟨by simp, by omega, fun h => (by cases h), ?_, ?_⟩
  · rintro a ⟨⟩ _
    exact ⟨rfl, by simp⟩
  · rintro b o ⟨⟩ j hj
    have hj' : j < rows.length := by simpa using hj
    have hg : rget (rows.map fun r => r.2.2) j = rows[j].2.2 := by rw [rget_of hj]; simp
    refine ⟨rows[j].1, rows[j].2.1, ?_, ?_⟩
    · simp only [World.cell?]
      rw [hn, hg, Nat.zero_add]
      simp [hj']
    · rw [hg]
      exact (hr _ (List.getElem_mem hj')).below hb (Nat.le_refl _)

inductive Item where
  | ints (p : Option Addr) (n c : Nat) (xs : List Int)
  | mat (p : Option Addr) (n c : Nat) (v : List (List Int))
  | mats (b : Nat) (vs : List Value) (ms : List (List (List Int)))
  | box (b : Nat) (vs : List Value)
def Item.ok (w : World) : Item → Prop
  | .ints p n c xs => xs.length = n ∧ Ints w p c xs
  | .mat p n c v => v.length = n ∧ Mat w p c v
  | .mats b vs ms => vs.length = ms.length ∧ b < w.heap.size ∧ ∀ (j : Nat) (v : List (List Int)), ms[j]? = some v → ∃ p c, w.cell? ⟨b, j, none⟩ = some (.slice p v.length c) ∧ vs[j]? = some (.slice p v.length c) ∧ Mat w p c v
  | .box b vs => b < w.heap.size ∧ ∀ (j : Nat) (u : Value), vs[j]? = some u → w.cell? ⟨b, j, none⟩ = some u
theorem Item.ok_below {w w' : World} {i : Item} (h : i.ok w) (hb : Below w.heap.size w w') : i.ok w' := by
  cases i with
  | ints p n c xs => exact ⟨h.1, Ints.below h.2 hb (Nat.le_refl _)⟩
  | mat p n c v => exact ⟨h.1, Mat.below h.2 hb (Nat.le_refl _)⟩
  | mats b vs ms =>
    obtain ⟨h0, h1, h2⟩ := h
    refine ⟨h0, Nat.lt_of_lt_of_le h1 hb.size, fun j v hm => ?_⟩
    obtain ⟨p, c, h3, h4, h5⟩ := h2 j v hm
    exact ⟨p, c, (hb.cell (p := ⟨b, j, none⟩) h1).trans h3, h4, h5.below hb (Nat.le_refl _)⟩
  | box b vs => exact ⟨Nat.lt_of_lt_of_le h.1 hb.size, fun j u hj => (hb.cell (p := ⟨b, j, none⟩) h.1).trans (h.2 j u hj)⟩
/-- The items of these numbers are rows: what they hold, and their values. -/
inductive RowsAt (l : List Item) : List Nat → List (List Int) → List Value → Prop where
  | nil : RowsAt l [] [] []
  | cons {k : Nat} {ks : List Nat} {p : Option Addr} {n c : Nat} {x : List Int} {v : List (List Int)} {vs : List Value} (h : l[k]? = some (.ints p n c x)) (t : RowsAt l ks v vs) : RowsAt l (k :: ks) (x :: v) (.slice p n c :: vs)
  | nul {k : Nat} {ks : List Nat} {v : List (List Int)} {vs : List Value} (t : RowsAt l ks v vs) : RowsAt l (k :: ks) ([] :: v) (.slice none 0 0 :: vs)
inductive MatsAt (l : List Item) : List Nat → List (List (List Int)) → List Value → Prop where
  | nil : MatsAt l [] [] []
  | cons {k : Nat} {ks : List Nat} {p : Option Addr} {n c : Nat} {x : List (List Int)} {v : List (List (List Int))} {vs : List Value} (h : l[k]? = some (.mat p n c x)) (t : MatsAt l ks v vs) : MatsAt l (k :: ks) (x :: v) (.slice p n c :: vs)
  | nul {k : Nat} {ks : List Nat} {v : List (List (List Int))} {vs : List Value} (t : MatsAt l ks v vs) : MatsAt l (k :: ks) ([] :: v) (.slice none 0 0 :: vs)
theorem RowsAt.spec {l : List Item} {w : World} (hl : ∀ i ∈ l, i.ok w) {ks : List Nat} {v : List (List Int)} {vs : List Value} (h : RowsAt l ks v vs) :
    vs.length = v.length ∧ ∀ (j : Nat) (x : List Int), v[j]? = some x → ∃ p c, vs[j]? = some (Value.slice p x.length c) ∧ Ints w p c x := by
  induction h with
  | nil => exact ⟨rfl, fun j x h => (by simp at h)⟩
  | cons h t ih =>
    refine ⟨by simp [ih.1], fun j x hj => ?_⟩
    cases j with
    | zero =>
      simp at hj; subst hj
      obtain ⟨h1, h2⟩ := hl _ (List.mem_of_getElem? h)
      exact ⟨_, _, by rw [h1]; rfl, h2⟩
    | succ j => exact ih.2 j x (by simpa using hj)
  | nul t ih =>
    refine ⟨by simp [ih.1], fun j x hj => ?_⟩
    cases j with
    | zero => simp at hj; subst hj; exact ⟨none, 0, rfl, Ints.ofNil w⟩
    | succ j => exact ih.2 j x (by simpa using hj)
theorem MatsAt.spec {l : List Item} {w : World} (hl : ∀ i ∈ l, i.ok w) {ks : List Nat} {v : List (List (List Int))} {vs : List Value} (h : MatsAt l ks v vs) :
    vs.length = v.length ∧ ∀ (j : Nat) (x : List (List Int)), v[j]? = some x → ∃ p c, vs[j]? = some (Value.slice p x.length c) ∧ Mat w p c x := by
  induction h with
  | nil => exact ⟨rfl, fun j x h => (by simp at h)⟩
  | cons h t ih =>
    refine ⟨by simp [ih.1], fun j x hj => ?_⟩
    cases j with
    | zero =>
      simp at hj; subst hj
      obtain ⟨h1, h2⟩ := hl _ (List.mem_of_getElem? h)
      exact ⟨_, _, by rw [h1]; rfl, h2⟩
    | succ j => exact ih.2 j x (by simpa using hj)
  | nul t ih =>
    refine ⟨by simp [ih.1], fun j x hj => ?_⟩
    cases j with
    | zero => simp at hj; subst hj; exact ⟨none, 0, rfl, Mat.ofNil w⟩
    | succ j => exact ih.2 j x (by simpa using hj)
theorem mat_new (w : World) (v : List (List Int)) (vs : List Value) (hsz : v.length ≤ 1000000) (hl : vs.length = v.length) (h : ∀ (j : Nat) (x : List Int), v[j]? = some x → ∃ p c, vs[j]? = some (Value.slice p x.length c) ∧ Ints w p c x) :
    Mat (w.alloc (.cells vs.toArray 23)) (some ⟨w.heap.size, 0, none⟩) v.length v := by
  have hb : Below w.heap.size w (w.alloc (.cells vs.toArray 23)) := (Below.refl _ w).alloc (Nat.le_refl _) _
  have hn := World.alloc_heap_new w (.cells vs.toArray 23)
  refine ⟨Nat.le_refl _, by omega, fun h => (by cases h), ?_, ?_⟩
  · rintro a ⟨⟩ _
    exact ⟨rfl, by simp⟩
  · rintro b o ⟨⟩ j hj
    obtain ⟨p, c, h1, h2⟩ := h j (rget v j) (by rw [rget_of hj]; simp [hj])
    refine ⟨p, c, ?_, h2.below hb (Nat.le_refl _)⟩
    simp only [World.cell?]
    rw [hn, Nat.zero_add]
    simp [h1]

/-- In w, of B blocks, the items read as they say; what lay in w0 lies as it lay. -/
structure St (w0 w : World) (B : Nat) (l : List Item) : Prop where
  size : w.heap.size = B
  bel : Below w0.heap.size w0 w
  all : ∀ i ∈ l, i.ok w
theorem St.start (w : World) : St w w w.heap.size [] := ⟨rfl, Below.refl _ _, fun _ h => (by cases h)⟩
section
variable {w0 w : World} {B : Nat} {l : List Item}
theorem St.step {w' : World} (h : St w0 w B l) (hb : Below w.heap.size w w') : St w0 w' w'.heap.size l :=
  ⟨rfl, h.bel.trans (hb.mono h.bel.size), fun i hi => Item.ok_below (h.all i hi) hb⟩
theorem St.drew {w' : World} (h : St w0 w B l) (hw : ∃ n, w' = w.drewN n) : St w0 w' w'.heap.size l := by
  obtain ⟨n, rfl⟩ := hw; exact h.step (below_drewN _ _ _)
theorem St.add (h : St w0 w B l) (i : Item) (hi : i.ok w) : St w0 w B (i :: l) :=
  ⟨h.size, h.bel, fun j hj => by
    rcases List.mem_cons.1 hj with rfl | hj
    · exact hi
    · exact h.all j hj⟩
theorem St.pop {i : Item} (h : St w0 w B (i :: l)) : St w0 w B l := ⟨h.size, h.bel, fun j hj => h.all j (List.mem_cons_of_mem _ hj)⟩
theorem St.addI {n c : Nat} {p : Option Addr} {xs : List Int} (h : St w0 w B l) (hn : xs.length = n) (hi : Ints w p c xs) : St w0 w B (.ints p n c xs :: l) := h.add _ ⟨hn, hi⟩
theorem St.addM {n c : Nat} {p : Option Addr} {v : List (List Int)} (h : St w0 w B l) (hn : v.length = n) (hi : Mat w p c v) : St w0 w B (.mat p n c v :: l) := h.add _ ⟨hn, hi⟩
theorem St.intsAt (h : St w0 w B l) (k : Nat) {p : Option Addr} {n c : Nat} {xs : List Int} (hk : l[k]? = some (.ints p n c xs)) : Ints w p c xs := (h.all _ (List.mem_of_getElem? hk)).2
theorem St.matAt (h : St w0 w B l) (k : Nat) {p : Option Addr} {n c : Nat} {v : List (List Int)} (hk : l[k]? = some (.mat p n c v)) : Mat w p c v := (h.all _ (List.mem_of_getElem? hk)).2
theorem St.matsAt (h : St w0 w B l) (k : Nat) {b : Nat} {vs : List Value} {ms : List (List (List Int))} (hk : l[k]? = some (.mats b vs ms)) : ∀ (j : Nat) (v : List (List Int)), ms[j]? = some v → ∃ p c, w.cell? ⟨b, j, none⟩ = some (.slice p v.length c) ∧ Mat w p c v := fun j v hj => by
  obtain ⟨p, c, h1, _, h2⟩ := (h.all _ (List.mem_of_getElem? hk)).2.2 j v hj
  exact ⟨p, c, h1, h2⟩
theorem St.bump (h : St w0 w B l) (o : Obj) : St w0 (w.alloc o) (B + 1) l :=
  ⟨by simp [h.size], h.bel.alloc h.bel.size _, fun i hi => Item.ok_below (h.all i hi) ((Below.refl _ _).alloc (Nat.le_refl _) _)⟩
/-- A new block of known cells. -/
theorem St.box (h : St w0 w B l) (vs : List Value) (T : TypeId) : St w0 (w.alloc (.cells vs.toArray T)) (B + 1) (.box B vs :: l) :=
  (h.bump _).add _ ⟨by simp [h.size], fun j u hj => by rw [← h.size]; exact (World.cell?_alloc_at _ _ _ _ rfl).trans (by simpa using hj)⟩
theorem St.boxAt (h : St w0 w B l) (k j : Nat) {b : Nat} {vs : List Value} {u : Value} (hk : l[k]? = some (.box b vs)) (hj : vs[j]? = some u) : w.cell? ⟨b, j, none⟩ = some u := (h.all _ (List.mem_of_getElem? hk)).2 j u hj
theorem St.boxLt (h : St w0 w B l) (k : Nat) {b : Nat} {vs : List Value} (hk : l[k]? = some (.box b vs)) : b < w.heap.size := (h.all _ (List.mem_of_getElem? hk)).1
/-- '[]int{..}'. -/
theorem St.lit (h : St w0 w B l) (xs : List Int) (n : Nat) (hn : xs.length = n := by rfl) (hsz : n ≤ 1000 := by decide) (hr : xs.all in64B = true := by decide +kernel) :
    St w0 (w.alloc (.cells (xs.map (Value.int .i64)).toArray 3)) (B + 1) (.ints (some ⟨B, 0, none⟩) n n xs :: l) :=
  (h.bump _).add _ ⟨hn, by subst hn; rw [← h.size]; exact ints_lit w xs (by omega) (in64_all hr)⟩
/-- '[][]int{..}', its rows being items (by their numbers). -/
theorem St.litM (h : St w0 w B l) {ks : List Nat} {v : List (List Int)} {vs : List Value} (hm : RowsAt l ks v vs) (n : Nat) (hn : v.length = n := by rfl) (hsz : n ≤ 1000 := by decide) :
    St w0 (w.alloc (.cells vs.toArray 23)) (B + 1) (.mat (some ⟨B, 0, none⟩) n n v :: l) :=
  (h.bump _).add _ ⟨hn, by
    subst hn; rw [← h.size]
    obtain ⟨h1, h2⟩ := hm.spec h.all
    exact mat_new w v vs (by omega) h1 h2⟩
/-- 'make([][]int, n)', n a numeral. -/
theorem St.mkM (h : St w0 w B l) (n : Nat) (hsz : n ≤ 1000 := by decide) :
    St w0 (w.alloc (.cells (List.replicate n (.slice none 0 0)).toArray 23)) (B + 1) (.mat (some ⟨B, 0, none⟩) n n (List.replicate n []) :: l) :=
  (h.bump _).add _ ⟨by simp, by
    rw [← h.size]
    have := mat_new w (List.replicate n []) (List.replicate n (.slice none 0 0)) (by simp; omega) (by simp) (fun j x hj => by
      rw [List.getElem?_replicate] at hj
      split at hj
      · rename_i hlt
        cases hj
        exact ⟨none, 0, by rw [List.getElem?_replicate, if_pos hlt]; rfl, Ints.ofNil w⟩
      · cases hj)
    simpa using this⟩
/-- '[][][]int{..}', its tables being items. -/
theorem St.litMs (h : St w0 w B l) {ks : List Nat} {ms : List (List (List Int))} {vs : List Value} (hm : MatsAt l ks ms vs) (T : TypeId) :
    St w0 (w.alloc (.cells vs.toArray T)) (B + 1) (.mats B vs ms :: l) := by
  obtain ⟨h1, h2⟩ := hm.spec h.all
  refine (h.bump _).add _ ⟨h1, by simp [h.size], fun j v hj => ?_⟩
  obtain ⟨p, c, h3, h4⟩ := h2 j v hj
  refine ⟨p, c, ?_, h3, h4.below ((Below.refl _ w).alloc (Nat.le_refl _) _) (Nat.le_refl _)⟩
  have hn := World.alloc_heap_new w (.cells vs.toArray T)
  rw [← h.size]
  simp only [World.cell?]
  rw [hn]
  simp [h3]
/-- What goes on: the items, in every world that keeps what lies. -/
theorem St.frame (h : St w0 w B l) : ∃ G : World → Prop, G w ∧ Hid (∀ a b, G a → Below a.heap.size a b → G b) ∧ Hid (∀ a, G a → St w0 a a.heap.size l) :=
  ⟨fun a => St w0 a a.heap.size l, ⟨rfl, h.bel, h.all⟩, fun a b ha hb => ha.step hb, fun a ha => ha⟩
end
end Go.Proofs.Ytcgaojnfgkfnkaa

/- The walk of the reference's Is: whether a list is a week; no condition. -/
namespace Go.Proofs.Ytcgaojnfgkfnkaa
set_option linter.unusedVariables false
set_option linter.unusedSimpArgs false
open Go.ChangeShapes Go.WideShapes Go.ChangeAt Go.RowKit Go.Deep

/-- Whether a list is a week of n agents. -/
def isWk (a : List Int) (n : Nat) : Bool := decide (1 ≤ n ∧ n ≤ 12 ∧ IsA a n)
theorem isWk_true {a : List Int} {n : Nat} : isWk a n = true ↔ (1 ≤ n ∧ n ≤ 12 ∧ IsA a n) := by unfold isWk; rw [decide_eq_true_iff]
theorem isWk_false {a : List Int} {n : Nat} (h : ¬ (1 ≤ n ∧ n ≤ 12 ∧ IsA a n)) : isWk a n = false := by unfold isWk; rw [decide_eq_false_iff_not]; exact h
/-- How often k is among the first i. -/
def cntTo (a : List Int) (k : Int) : Nat → Nat
  | 0 => 0
  | i + 1 => cntTo a k i + if iget a i = k then 1 else 0
theorem cntTo_le (a : List Int) (k : Int) : ∀ i, cntTo a k i ≤ i
  | 0 => Nat.le_refl _
  | i + 1 => by have := cntTo_le a k i; simp only [cntTo]; split <;> omega
theorem cntTo_take (a : List Int) (k : Int) : ∀ i, i ≤ a.length → cntTo a k i = (a.take i).count k
  | 0, _ => by simp [cntTo]
  | i + 1, h => by
    rw [List.take_succ_eq_append_getElem (by omega), List.count_append, cntTo, cntTo_take a k i (by omega), iget_of (by omega)]
    congr 1
    rw [List.count_singleton]
    by_cases e : a[i] = k
    · rw [if_pos e, if_pos (by simpa using e)]
    · rw [if_neg e, if_neg (by simpa using e)]
theorem cntTo_all (a : List Int) (k : Int) : cntTo a k a.length = a.count k := by rw [cntTo_take a k _ (Nat.le_refl _), List.take_length]

set_option maxHeartbeats 1600000 in
theorem is32_any (p : Option Addr) (c : Nat) (a : List Int) (n : Nat) (w : World) (hx : Ints w p c a) (hn : n ≤ 1000000) :
    Calls Try.prog 14 #[.slice p a.length c, .int .i64 (n : Int)] w fun e w' => e = .returned (.bool (isWk a n)) ∧ w' = w := by
  have hl1 := hx.length_le
  by_cases hl : a.length ≠ n
  · have hb : ((a.length : Int) != (n : Int)) = true := by simp; omega
    have HE := Lib.hid (isWk_false (a := a) (n := n) fun h => hl h.2.2.1)
    clear hl
    go_enter Try.func14, Try.ntmps14
    go_wp2_with fail
    go_ret
    exact ⟨ret_bool HE.out.symm, rfl⟩
  obtain rfl : a.length = n := Classical.not_not.1 hl
  clear hl
  have hb : ((a.length : Int) != (a.length : Int)) = false := by simp
  by_cases h1 : (a.length : Int) < 1
  · have hd1 : decide ((a.length : Int) < 1) = true := by simpa using h1
    have HE := Lib.hid (isWk_false (a := a) (n := a.length) fun h => by have := h.1; omega)
    clear h1
    go_enter Try.func14, Try.ntmps14
    go_wp2_with fail
    go_ret
    exact ⟨ret_bool HE.out.symm, rfl⟩
  have hd1 : decide ((a.length : Int) < 1) = false := by simpa using h1
  by_cases h2 : (12 : Int) < a.length
  · have hd2 : decide ((12 : Int) < (a.length : Int)) = true := by simpa using h2
    have HE := Lib.hid (isWk_false (a := a) (n := a.length) fun h => by have := h.2.1; omega)
    clear h2
    go_enter Try.func14, Try.ntmps14
    go_wp2_with fail
    go_ret
    exact ⟨ret_bool HE.out.symm, rfl⟩
  have hd2 : decide ((12 : Int) < (a.length : Int)) = false := by simpa using h2
  go_enter Try.func14, Try.ntmps14
  go_wp2_with fail
  go_loop [5] (fun i => ∃ k : Nat, k ≤ a.length ∧ i = .int .i64 k ∧ Hid (∀ j, j < k → a.count ((j : Nat) : Int) = 1)) (fun i => a.length - (intOf i).toNat)
  case atStart => exact ⟨0, by omega, rfl, fun j hj => absurd hj (Nat.not_lt_zero j)⟩
  case round =>
    obtain ⟨k, hk, rfl, ht⟩ := hrel
    by_cases hlt : k < a.length
    · have hk1 : (k : Int) < a.length := by omega
      have HA := Lib.hid (cntTo_all a (k : Int))
      go_wp2_with fail
      go_loop [6, 7] (fun s i => ∃ j : Nat, j ≤ a.length ∧ i = .int .i64 j ∧ s = .int .i64 ((cntTo a (k : Int) j : Nat) : Int)) (fun _ i => a.length - (intOf i).toNat)
      case atStart => exact ⟨0, by omega, rfl, rfl⟩
      case round =>
        obtain ⟨j, hj, rfl, rfl⟩ := hrel
        by_cases hlj : j < a.length
        · have hj1 : (j : Int) < a.length := by omega
          obtain ⟨b, o, rfl, _, hc⟩ := hx.get hlj
          have hle := cntTo_le a (k : Int) j
          by_cases he : iget a j = (k : Int)
          · have hq : (iget a j == (k : Int)) = true := by simpa using he
            have HS : Hid (cntTo a (k : Int) (j + 1) = cntTo a (k : Int) j + 1) := by unfold Hid; rw [cntTo, if_pos he]
            obtain ⟨m, em⟩ : ∃ m, cntTo a (k : Int) j = m := ⟨_, rfl⟩
            rw [em] at HS hle
            rw [em]
            clear he em
            go_wp2_with fail
            go_round
            case rel => exact ⟨j + 1, by omega, by go_num, by rw [HS.out]; go_num⟩
            case measure => simp [intOf]; omega
          · have hq : (iget a j == (k : Int)) = false := by rw [beq_eq_false_iff_ne]; exact he
            have HS : Hid (cntTo a (k : Int) (j + 1) = cntTo a (k : Int) j) := by unfold Hid; rw [cntTo, if_neg he, Nat.add_zero]
            obtain ⟨m, em⟩ : ∃ m, cntTo a (k : Int) j = m := ⟨_, rfl⟩
            rw [em] at HS hle
            rw [em]
            clear he em
            go_wp2_with fail
            go_round
            case rel => exact ⟨j + 1, by omega, by go_num, by rw [HS.out]⟩
            case measure => simp [intOf]; omega
        · have hj1 : ¬ (j : Int) < a.length := by omega
          obtain rfl : j = a.length := by omega
          rw [HA.out]
          obtain ⟨m, em⟩ : ∃ m, a.count (k : Int) = m := ⟨_, rfl⟩
          have Em := Lib.hid em
          rw [em]
          clear em HA
          by_cases hm : m = 1
          · have hq : (((m : Nat) : Int) != 1) = false := by rw [hm]; rfl
            have HP : Hid (a.count (k : Int) = 1) := by unfold Hid; rw [Em.out, hm]
            clear hm
            go_wp2_with fail
            go_round
            case rel => exact ⟨k + 1, by omega, by go_num, snoc_all' ht.out HP.out⟩
            case measure => simp [intOf]; omega
          · have hq : (((m : Nat) : Int) != 1) = true := by rw [bne_iff_ne]; omega
            have HE := Lib.hid (isWk_false (a := a) (n := a.length) fun h => hm (by rw [← Em.out]; exact h.2.2.2 k hlt))
            clear hm
            go_wp2_with fail
            go_ret
            exact ⟨ret_bool HE.out.symm, rfl⟩
    · have hk1 : ¬ (k : Int) < a.length := by omega
      have HE := Lib.hid ((isWk_true (a := a) (n := a.length)).2 ⟨by omega, by omega, rfl, fun j hj => ht.out j (by omega)⟩)
      go_wp2_with fail
      go_ret
      exact ⟨ret_bool HE.out.symm, rfl⟩
end Go.Proofs.Ytcgaojnfgkfnkaa

/- The walk of alive (rota): the chapter's examples hold; no condition. -/
namespace Go.Proofs.Ytcgaojnfgkfnkaa
set_option linter.unusedVariables false
set_option linter.unusedSimpArgs false
open Go.ChangeShapes Go.WideShapes Go.ChangeAt Go.RowKit Go.Deep

def cntB (m : Int) (v : List (List Int)) : Bool := decide (v.length ≤ 12) && v.all fun r => (r.length == v.length) && r.all fun x => decide (0 ≤ x) && decide (x ≤ m)
theorem cntM_of_B {m : Int} {v : List (List Int)} (h : cntB m v = true) : CntM m v := by
  unfold cntB at h
  rw [Bool.and_eq_true, decide_eq_true_iff] at h
  have hr : ∀ i, i < v.length → (rget v i).length = v.length ∧ ∀ x ∈ rget v i, 0 ≤ x ∧ x ≤ m := fun i hi => by
    have := List.all_eq_true.1 h.2 _ (rget_mem hi)
    rw [Bool.and_eq_true] at this
    refine ⟨by simpa using this.1, fun x hx => ?_⟩
    have h2 := List.all_eq_true.1 this.2 x hx
    rw [Bool.and_eq_true, decide_eq_true_iff, decide_eq_true_iff] at h2
    exact h2
  exact ⟨h.1, fun i hi => (hr i hi).1, fun i k hi hk => (hr i hi).2 _ (iget_mem (by rw [(hr i hi).1]; exact hk))⟩
theorem chk32_B {v : List (List Int)} (h : cntB 400 v = true) (h1 : 1 ≤ v.length) : chk32 v = 0 := chk32_of (cntM_of_B h) h1
theorem follow_e {p : Option Addr} {c : Nat} {v r : List (List Int)} {k m : Nat} {w : World} (h : cntB 400 v = true) (h1 : 1 ≤ v.length) (hm : m ≤ 400) (hr : folL v m = r) (hk : r.length = k) (hx : Mat w p c v) :
    Calls Try.prog 18 #[.slice p v.length c, .int .i64 (m : Int)] w fun e w' => ∃ q d, e = .returned (.tuple #[.slice q k d, .int .i64 0]) ∧ Mat w' q d r ∧ Below w.heap.size w w' := by
  have hE : folE v m = 0 := folE_ok (chk32_B h h1) (by omega)
  have hF := follow_any p c v m w hx
  rw [folR_ok hE, hE, hr] at hF
  subst hk
  exact hF
theorem next_e {p : Option Addr} {c : Nat} {v : List (List Int)} {a : List Int} {k : Nat} {w : World} (h : cntB 400 v = true) (h1 : 1 ≤ v.length) (ha : weekA v = a) (hk : a.length = k) (hx : Mat w p c v) :
    Calls Try.prog 13 #[.slice p v.length c] w fun e w' => ∃ q d, e = .returned (.tuple #[.slice q k d, .int .i64 0]) ∧ Ints w' q d a ∧ Below w.heap.size w w' := by
  have hC := chk32_B h h1
  have hN := next2_any p c v w hx
  rw [hC, nxtL_ok hC, ha] at hN
  subst hk
  exact hN.mono fun e w' h => h.1
theorem same32_t {p q : Option Addr} {c d : Nat} {v : List (List Int)} {w : World} (hx : Mat w p c v) (hy : Mat w q d v) :
    Calls Try.prog 24 #[.slice p v.length c, .slice q v.length d] w fun e w' => e = .returned (.bool true) ∧ ∃ n, w' = w.drewN n := by
  refine (same32_any p q c d v v w hx hy).mono ?_
  rintro e w' ⟨he, hw⟩
  exact ⟨by rw [he]; simp [sameMB], hw⟩
theorem zeros_e {v : List (List Int)} {n : Nat} {w : World} (hn : n ≤ 1000) (hv : zeroL n = v) (hl : v.length = n) :
    Calls Try.prog 30 #[.int .i64 (n : Int)] w fun e w' => ∃ q d, e = .returned (.slice q n d) ∧ Mat w' q d v ∧ Below w.heap.size w w' := by
  have h := zeros_any n w hn
  rw [hv] at h
  refine h.mono ?_
  rintro e w' ⟨q, d, Q, D, he, hD, hb⟩
  rw [hl] at he
  exact ⟨q, d, he, hD.mat, hb⟩
set_option maxHeartbeats 8000000 in
set_option maxRecDepth 100000 in
theorem alive32_any (w : World) : Calls Try.prog 10 #[] w fun e w' => e = .returned (.bool true) ∧ Below w.heap.size w w' := by
  go_enter Try.func10, Try.ntmps10
  have hS := St.start w
  go_wp2_with fail
  refine (zeros_e (n := 2) (v := [[0, 0], [0, 0]]) (by decide) rfl rfl).mono ?_
  rintro e w1 ⟨p1, c1, rfl, hM, hb⟩
  replace hS := hS.step hb
  replace hS := hS.addM rfl hM
  clear hb hM
  go_wp2_with fail
  refine (follow_e (m := 2) (v := [[0, 0], [0, 0]]) (by decide +kernel) (by decide) (by decide) fol_z2 rfl (hS.matAt 0 rfl)).mono ?_
  rintro e w2 ⟨q, d, rfl, hM, hb⟩
  replace hS := hS.step hb
  replace hS := hS.addM rfl hM
  clear hb hM
  replace hS := hS.lit [1, 0, 0] 3
  replace hS := hS.lit [0, 1, 0] 3
  replace hS := hS.lit [0, 0, 1] 3
  replace hS := hS.litM (ks := [2, 1, 0]) (.cons rfl (.cons rfl (.cons rfl .nil))) 3
  go_wp2_with fail
  refine (next_e (v := [[1, 0, 0], [0, 1, 0], [0, 0, 1]]) (by decide +kernel) (by decide) wk_i3 rfl (hS.matAt 0 rfl)).mono ?_
  rintro e w3 ⟨q3, d3, rfl, hI, hb⟩
  replace hS := hS.step hb
  replace hS := hS.addI rfl hI
  clear hb hI
  replace hS := hS.lit [0, 1] 2
  replace hS := hS.lit [1, 0] 2
  replace hS := hS.litM (ks := [1, 0]) (.cons rfl (.cons rfl .nil)) 2
  go_wp2_with fail
  refine (same32_t (v := [[0, 1], [1, 0]]) (hS.matAt 8 rfl) (hS.matAt 0 rfl)).mono ?_
  rintro e w4 ⟨rfl, hw⟩
  replace hS := hS.drew hw
  clear hw
  replace hS := hS.lit [1, 2, 0] 3
  go_wp2_with fail
  refine (eq25_true (xs := [1, 2, 0]) (hS.intsAt 4 rfl) (hS.intsAt 0 rfl)).mono ?_
  rintro e w5 ⟨rfl, hw⟩
  replace hS := hS.drew hw
  clear hw
  go_wp2_with fail
  go_ret
  exact ⟨rfl, hS.bel⟩
end Go.Proofs.Ytcgaojnfgkfnkaa
