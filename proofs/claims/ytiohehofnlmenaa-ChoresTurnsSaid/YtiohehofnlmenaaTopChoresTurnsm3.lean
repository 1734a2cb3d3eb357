/- The walks of robin.some, Rounds and Snake, for every first round and number; no condition but sizes. -/
import Derived.Test.YtiohehofnlmenaaTopChoresTurnsm1
import Derived.Test.YtiohehofnlmenaaTopChoresTurnsm2
import Derived.Test.YtiohehofnlmenaaTopChoresRunsm2
import Derived.Test.YtiohehofnlmenaaTopChoresRunsm12
import Derived.Test.YtiohehofnlmenaaTopChoresOnem4
import Derived.Test.YtiohehofnlmenaaTopChoresNamesm1
/- The walks of robin.some, Rounds and Snake, for every first round and number; no condition but sizes. -/
namespace Go.Proofs.Ytiohehofnlmenaa
set_option linter.unusedSimpArgs false
open Go.ChangeShapes Go.WideShapes Go.ChangeAt Go.RowKit Go.Deep
set_option linter.unusedVariables false
attribute [local go_sem] Oper.semAt_some

/-- What is answered of a first round and a number of turns. -/
def rndE (f : List Int) (many : Int) : Int := if 6 < f.length then 4 else if f.length = 0 ∨ ¬ IsA f f.length then 8 else if many < 0 ∨ 60 < many then 2 else 0
def rndL (f : List Int) (b : Bool) (many : Int) : List Int := if rndE f many = 0 then seqL f b many.toNat else []
theorem rndE_many {f : List Int} {m : Int} (h : 6 < f.length) : rndE f m = 4 := if_pos h
theorem rndE_bad {f : List Int} {m : Int} (h : ¬ 6 < f.length) (h2 : f.length = 0 ∨ ¬ IsA f f.length) : rndE f m = 8 := by unfold rndE; rw [if_neg h, if_pos h2]
theorem rndE_arg {f : List Int} {m : Int} (h : ¬ 6 < f.length) (h2 : ¬ (f.length = 0 ∨ ¬ IsA f f.length)) (h3 : m < 0 ∨ 60 < m) : rndE f m = 2 := by unfold rndE; rw [if_neg h, if_neg h2, if_pos h3]
theorem rndE_ok {f : List Int} {m : Int} (h : ¬ 6 < f.length) (h2 : ¬ (f.length = 0 ∨ ¬ IsA f f.length)) (h3 : ¬ (m < 0 ∨ 60 < m)) : rndE f m = 0 := by unfold rndE; rw [if_neg h, if_neg h2, if_neg h3]
theorem rndL_bad {f : List Int} {b : Bool} {m : Int} (h : ¬ rndE f m = 0) : rndL f b m = [] := if_neg h

/-- Between two rounds: box O holds a row of the call's own, from n on, with what has come. -/
def Got2 (w2 : World) (O n : Nat) (pre : List Int) (W : World) : Prop :=
  ∃ p c, OneV W O (.slice p pre.length c) 25 ∧ W.ownsRow n 3 1 (.slice p pre.length c) pre.length (pre.map (Value.int .i64)) ∧ Keeps O n w2 W ∧ n ≤ W.heap.size
theorem got2_own (w2 : World) (O n : Nat) (hO : O < n) : OwnFrom n (Got2 w2 O n) := by
  rintro s W W' row ⟨p, c, h1, h2, h3, h4⟩ hg hr
  refine ⟨p, c, h1.kept hg (fun r e => (hr r e).2), h2.kept hg ?_, h3.grown h4 hO hg (fun k e => (hr k e).1), Nat.le_trans h4 hg.size⟩
  cases hk : (Value.slice p s.length c).ownBlock with
  | none => exact .inl rfl
  | some k =>
    refine .inr fun e => ?_
    obtain ⟨_, o, ho, hc⟩ := hr k e.symm
    obtain ⟨_, o', ho', hc'⟩ := row_cells h2 hk
    rw [ho] at ho'; cases ho'; rw [hc] at hc'; cases hc'
/-- A round's store into the box. -/
theorem got2_stored {w2 W w3 : World} {O n : Nat} {p1 p' : Option Addr} {c1 c' : Nat} {pre : List Int} {x : Int} {vs : Array Value} {t' : TypeId} (hO : O < n)
    (g1 : OneV W O (.slice p1 pre.length c1) 25) (g2 : W.ownsRow n 3 1 (.slice p1 pre.length c1) pre.length (pre.map (Value.int .i64))) (g3 : Keeps O n w2 W) (g4 : n ≤ W.heap.size)
    (hg3 : (W.alloc (.cells vs t')).grownBy w3 (Value.slice p1 pre.length c1).ownBlock) (hown : w3.ownsRow n 3 1 (.slice p' (pre.length + 1) c') (pre.length + 1) (pre.map (Value.int .i64) ++ [.int .i64 x])) :
    KeepsOthers W (w3.setCell ⟨O, 0, none⟩ (.slice p' (pre.length + 1) c')) ∧ Keeps O n W (w3.setCell ⟨O, 0, none⟩ (.slice p' (pre.length + 1) c')) ∧ Got2 w2 O n (pre ++ [x]) (w3.setCell ⟨O, 0, none⟩ (.slice p' (pre.length + 1) c')) := by
  have hrow : ∀ k, (Value.slice p1 pre.length c1).ownBlock = some k → n ≤ k := fun k e => (row_cells g2 e).1
  have hK : KeepsOthers W w3 := (KeepsOthers.alloc W _).trans (keepsOthers_own (g2.alloc _) hg3)
  have hka : Keeps O n W (W.alloc (.cells vs t')) := ⟨(Below.refl _ _).alloc (by omega) _, fun k h1 h2 => Below.heap_alloc _ _ _ (by omega)⟩
  have hk3 : Keeps O n W w3 := hka.grown (by simp; omega) hO hg3 hrow
  have hkf : Keeps O n W (w3.setCell ⟨O, 0, none⟩ (.slice p' (pre.length + 1) c')) := hk3.setO
  have h1 : OneV w3 O (.slice p1 pre.length c1) 25 := by
    have ha : OneV (W.alloc (.cells vs t')) O (.slice p1 pre.length c1) 25 := (Below.heap_alloc _ _ _ (by omega)).trans g1
    exact (hg3.block O ha.lt (fun e => by have := hrow O e.symm; omega)).trans ha
  have hgs : w3.grownBy (w3.setCell ⟨O, 0, none⟩ (.slice p' (pre.length + 1) c')) (some O) := grownBy_setCell' _ _ _
  have hsz : n ≤ w3.heap.size := by have := hg3.size; simp at this; omega
  refine ⟨hK.trans (KeepsOthers.setCell _ _ _), hkf, p', c', ?_, ?_, g3.trans hkf, Nat.le_trans hsz hgs.size⟩
  · rw [List.length_append]; exact h1.set
  · rw [List.length_append, List.map_append]
    refine hown.kept hgs ?_
    cases hk : (Value.slice p' (pre.length + 1) c').ownBlock with
    | none => exact .inl rfl
    | some k => exact .inr fun e => by have := (row_cells hown hk).1; cases e; omega
theorem box2_after {W w3 : World} {O n : Nat} {p1 : Option Addr} {c1 m : Nat} {xs : List Value} {vs : Array Value} {t' : TypeId} (hO : O < n)
    (g1 : OneV W O (.slice p1 m c1) 25) (g2 : W.ownsRow n 3 1 (.slice p1 m c1) m xs) (g4 : n ≤ W.heap.size) (hg3 : (W.alloc (.cells vs t')).grownBy w3 (Value.slice p1 m c1).ownBlock) :
    w3.cell? ⟨O, 0, none⟩ = some (.slice p1 m c1) ∧ w3.frozen? ⟨O, 0, none⟩ = false := by
  have ha : OneV (W.alloc (.cells vs t')) O (.slice p1 m c1) 25 := (Below.heap_alloc _ _ _ (by omega)).trans g1
  have h1 : OneV w3 O (.slice p1 m c1) 25 := (hg3.block O ha.lt (fun e => by have := (row_cells g2 e.symm).1; omega)).trans ha
  exact ⟨h1.cell, h1.free⟩
theorem seqI_mem {f : List Int} {b : Bool} {t : Nat} (hf : 0 < f.length) : ∃ j, j < f.length ∧ seqI f b t = iget f j := by
  have := Nat.mod_lt t hf
  unfold seqI
  split
  · exact ⟨_, by omega, rfl⟩
  · exact ⟨_, this, rfl⟩

set_option maxRecDepth 100000 in
set_option maxHeartbeats 8000000 in
theorem robinSome_any (p : Option Addr) (c : Nat) (f : List Int) (many : Int) (b : Bool) (w : World) (hx : Ints w p c f) (hl : f.length ≤ 1000000) :
    Calls Try.prog 59 #[.slice p f.length c, .int .i64 many, .bool b] w (Gives2 w (rndL f b many) (rndE f many)) := by
  obtain ⟨i0, hi0, hz0, hz1, hz2⟩ := info_parts infoInt
  obtain ⟨W0, hW0⟩ : ∃ W, w.alloc (.cells #[.int .i64 many] 3) = W := ⟨_, rfl⟩
  have hB0 := below_alloc hW0
  have k0 : OneV W0 w.heap.size (.int .i64 many) 3 := OneV.new rfl hW0
  have hs0 : W0.heap.size = w.heap.size + 1 := by rw [← hW0]; simp
  have hx0 := hx.below hB0 (Nat.le_refl _)
  have HW0 := Lib.hid hW0
  have Hs0 := Lib.hid hs0
  clear hW0 hs0 hx
  have hlen := hx0.length_le
  refine (callsIn_wide (n := 8)).1 ?_
  refine callsIn_of_wp_marks Try.func59 rfl trivial ?_ rfl
  simp only [Try.ntmps59, List.size_toArray, List.length_cons, List.length_nil, Nat.reduceAdd, Nat.reduceSub, Array.replicate_succ, Array.replicate_zero, List.push_toArray, List.append_toArray, List.nil_append, List.cons_append]
  by_cases h6 : 6 < f.length
  · have hd : decide (6 < (f.length : Int)) = true := by simp; omega
    have HE := Lib.hid (rndE_many (m := many) h6)
    have HL : Hid (rndL f b many = []) := rndL_bad (by rw [HE.out]; omega)
    gi_wp2
    refine ⟨_, results_tmp2 rfl _ _ _, ?_⟩
    rw [HW0.out, HL.out, HE.out]
    exact ⟨none, 0, rfl, Own.ofNil _ _, hB0⟩
  have hd : decide (6 < (f.length : Int)) = false := by simp; omega
  gi_wp2
  rw [HW0.out]
  refine ⟨trivial, (callsIn_wide.2 (values_any p f.length c W0)).mono ?_⟩
  rintro e w1 ⟨rfl, hw1⟩
  have hb1 : Below W0.heap.size W0 w1 := by rw [hw1]; exact (Below.refl _ _).alloc (Nat.le_refl _) _
  have kV : OneV w1 W0.heap.size (.slice p f.length c) 25 := OneV.new rfl hw1.symm
  have hx1 := hx0.below hb1 (Nat.le_refl _)
  clear hw1
  gi_wp2
  refine ⟨trivial, (callsIn_wide.2 (sorted_any W0.heap.size p c f hl w1 kV.lt kV.cell hx1)).mono ?_⟩
  rintro e w2 ⟨ps, cs, rfl, hS, hb2⟩
  have hsl := srt_length f
  have hIs := hS.ints
  have hB2 : Below W0.heap.size W0 w2 := hb1.trans (hb2.mono hb1.size)
  have k2 := k0.below hB2 (by rw [Hs0.out]; omega)
  have hx2 := hx0.below hB2 (Nat.le_refl _)
  have hBw : Below w.heap.size w w2 := hB0.trans (hB2.mono hB0.size)
  obtain ⟨Z, hZ⟩ : ∃ Z, srt f = Z := ⟨_, rfl⟩
  rw [hZ] at hIs hsl ⊢
  have HZ := Lib.hid hZ
  have Hsl := Lib.hid hsl
  have hZl : Z.length ≤ 6 := by omega
  clear hsl hS hb1 hb2 kV hx1 hZ
  gi_wp2
  gi_loop [21] (fun t => ∃ k : Nat, k ≤ Z.length ∧ t = .int .i64 k ∧ Hid (∀ j, j < k → iget Z j = j)) (fun t => Z.length - (intOf t).toNat)
  case atStart => exact ⟨0, by omega, rfl, fun j hj => by omega⟩
  case round =>
    obtain ⟨k, hk, rfl, hok⟩ := hrel
    by_cases hkZ : k < Z.length
    · have hk1 : (k : Int) < Z.length := by omega
      obtain ⟨bz, oz, rfl, _, hcz⟩ := hIs.get hkZ
      by_cases he : iget Z k = k
      · have hd1 : (iget Z k != (k : Int)) = false := by rw [he]; simp
        have HP := Lib.hid he
        clear he
        gi_wp2
        go_round
        case rel => exact ⟨k + 1, by omega, by go_num, snoc_all' hok.out HP.out⟩
        case measure => simp [intOf]; omega
      · have hd1 : (iget Z k != (k : Int)) = true := by rw [bne_iff_ne]; exact he
        have HE : Hid (rndE f many = 8) := rndE_bad h6 (.inr fun hA => he (by
          have := ((asgP_iff f f.length).2 hA).1 k
          rw [HZ.out] at this
          exact this hkZ))
        have HL : Hid (rndL f b many = []) := rndL_bad (by rw [HE.out]; omega)
        clear he
        gi_wp2
        refine ⟨_, results_tmp2 rfl _ _ _, ?_⟩
        rw [HL.out, HE.out]
        exact ⟨none, 0, rfl, Own.ofNil _ _, hBw⟩
    · have hk1 : ¬ (k : Int) < Z.length := by omega
      have hA : IsA f f.length := (asgP_iff f f.length).1 ⟨fun j hj => by rw [HZ.out] at hj ⊢; exact hok.out j (by omega), srt_length f⟩
      by_cases h0 : f.length = 0
      · have hd1 : ((Z.length : Int) == 0) = true := by rw [beq_iff_eq]; have := Hsl.out; omega
        have HE : Hid (rndE f many = 8) := rndE_bad h6 (.inl h0)
        have HL : Hid (rndL f b many = []) := rndL_bad (by rw [HE.out]; omega)
        clear h0
        gi_wp2
        refine ⟨_, results_tmp2 rfl _ _ _, ?_⟩
        rw [HL.out, HE.out]
        exact ⟨none, 0, rfl, Own.ofNil _ _, hBw⟩
      have hd1 : ((Z.length : Int) == 0) = false := by rw [beq_eq_false_iff_ne]; have := Hsl.out; omega
      have hno : Hid (¬ (f.length = 0 ∨ ¬ IsA f f.length)) := fun h => by
        rcases h with h | h
        · exact h0 h
        · exact h hA
      have hf1 : 1 ≤ f.length := by omega
      have c0 := k2.cell
      clear h0 hA hok
      by_cases hm0 : many < 0
      · have hd2 : decide (many < 0) = true := by simpa using hm0
        have HE : Hid (rndE f many = 2) := rndE_arg h6 hno.out (.inl hm0)
        have HL : Hid (rndL f b many = []) := rndL_bad (by rw [HE.out]; omega)
        gi_wp2
        refine ⟨_, results_tmp2 rfl _ _ _, ?_⟩
        rw [HL.out, HE.out]
        exact ⟨none, 0, rfl, Own.ofNil _ _, hBw⟩
      have hd2 : decide (many < 0) = false := by simpa using hm0
      by_cases hm6 : 60 < many
      · have hd3 : decide (60 < many) = true := by simpa using hm6
        have HE : Hid (rndE f many = 2) := rndE_arg h6 hno.out (.inr hm6)
        have HL : Hid (rndL f b many = []) := rndL_bad (by rw [HE.out]; omega)
        gi_wp2
        refine ⟨_, results_tmp2 rfl _ _ _, ?_⟩
        rw [HL.out, HE.out]
        exact ⟨none, 0, rfl, Own.ofNil _ _, hBw⟩
      have hd3 : decide (60 < many) = false := by simpa using hm6
      obtain ⟨M, rfl⟩ : ∃ M : Nat, many = M := ⟨many.toNat, by omega⟩
      have hM : M ≤ 60 := by omega
      have HE : Hid (rndE f M = 0) := rndE_ok h6 hno.out (by omega)
      have HL : Hid (rndL f b M = seqL f b M) := by unfold Hid rndL; rw [if_pos HE.out, Int.toNat_natCast]
      gi_wp2
      obtain ⟨W3, hW3⟩ : ∃ W, w2.alloc (.cells #[.slice none 0 0] 25) = W := ⟨_, rfl⟩
      rw [hW3]
      refine ⟨trivial, (callsIn_wide.2 (turns_any p f.length c b W3)).mono ?_⟩
      rintro e w4 ⟨rfl, hw4⟩
      have kO3 : OneV W3 w2.heap.size (.slice none 0 0) 25 := OneV.new rfl hW3
      have hs3 : W3.heap.size = w2.heap.size + 1 := by rw [← hW3]; simp
      have hs4 : w4.heap.size = w2.heap.size + 3 := by rw [hw4]; simp [hs3]
      have hB34 : Below W3.heap.size W3 w4 := by rw [hw4]; exact ((Below.refl _ _).alloc (Nat.le_refl _) _).alloc (by simp) _
      have hB24 : Below w2.heap.size w2 w4 := (below_alloc hW3).trans (hB34.mono (by omega))
      have kO : OneV w4 w2.heap.size (.slice none 0 0) 25 := kO3.below hB34 (by omega)
      have kS : OneV w4 W3.heap.size (.slice p f.length c) 25 := by
        rw [hw4]; exact OneV.below (B := W3.heap.size + 1) (OneV.new rfl rfl) ((Below.refl _ _).alloc (by simp) _) (by omega)
      have kB : OneV w4 (W3.heap.size + 1) (.bool b) 4 := by rw [hw4]; exact OneV.new (by simp) rfl
      have km : OneV w4 w.heap.size (.int .i64 M) 3 := k2.below hB24 (by have := k2.lt; omega)
      have hlm := k2.lt
      have hx4 := hx2.below hB24 (Nat.le_refl _)
      have hpb : ∀ b' o', p = some ⟨b', o', none⟩ → b' < w2.heap.size := fun b' o' e => (hx2.plain _ e (by have := hx2.le; omega)).2
      have hw0 : w.heap.size < w2.heap.size := hlm
      obtain ⟨O, hO⟩ : ∃ O, w2.heap.size = O := ⟨_, rfl⟩
      obtain ⟨n4, hn4⟩ : ∃ n4, w4.heap.size = n4 := ⟨_, rfl⟩
      obtain ⟨s3, hsx⟩ : ∃ s3, W3.heap.size = s3 := ⟨_, rfl⟩
      rw [hO] at kO hpb hw0 hs3 hs4
      rw [hsx] at kS kB hs3 ⊢
      rw [hn4] at hs4
      have hB5 : Below w.heap.size w w4 := hBw.trans (hB24.mono hBw.size)
      have hOn : O < n4 := by omega
      have hwO : w.heap.size ≤ O := by omega
      have hSt := turns1_ends (8 - 1) (by omega) s3 (s3 + 1) O n4 p (by omega) (by omega) hpb c f b M hf1 (by omega) (by omega) w4 (by omega) (by omega) hn4 kS.cell kB.cell hx4
      have HSt := Lib.hid hSt
      have Hn4 := Lib.hid hn4
      have HK := Lib.hid (Keeps.putObj (w := w4) (O := O) (n := n4) (by omega) hOn)
      have hgo := got2_own w4 O n4 hOn
      have h00 : Got2 w4 O n4 [] w4 := ⟨none, 0, kO, World.ownsRow_nil _ _ _ _, Keeps.refl _ _ _, by omega⟩
      have hgo' : OwnFrom w4.heap.size (Got2 w4 O n4) := by rw [hn4]; exact hgo
      have Hgo := Lib.hid hgo'
      have H00 := Lib.hid h00
      have HO := Lib.hid hO
      clear hSt hn4 hgo hgo' h00 hB34 hB24 kO3 kO kS kB hs3 hs4 hsx hO hw4 hW3 hx4 hlm hpb
      gi_wp2
      rw [HO.out]
      refine range_ends (by omega) (gf := 85) (lb := #[.pointer (some ⟨s3, 0, none⟩), .pointer (some ⟨s3 + 1, 0, none⟩)]) rfl (enters_of Try.func85 (by kernel_rfl) rfl) HSt.out (fun h k => h.trans k) HK.out (fun _ => rfl)
        (fun pre W => Got2 w4 O n4 pre W ∧ pre.length ≤ M) (fun pre W => ∃ pre' x, pre = pre' ++ [x] ∧ Got2 w4 O n4 pre' W ∧ pre'.length = M) 2
        (fun s A B row hs hg hr => ⟨Hgo.out s A B row hs.1 hg hr, hs.2⟩)
        (fun s A B row hs hg hr => by obtain ⟨pre', x, e, h, hl⟩ := hs; exact ⟨pre', x, e, Hgo.out pre' A B row h hg hr, hl⟩)
        (fun pre W h => h.2) ⟨H00.out, Nat.zero_le _⟩
        (fun x => { tmps := #[.slice p f.length c, .int .i64 M, .bool b, undef, .pointer (some ⟨w.heap.size, 0, none⟩), undef, u6, u7, .slice ps Z.length cs, u9, u10, .pointer (some ⟨O, 0, none⟩), .int .i64 x, .slice p f.length c, .int .i64 f.length, .bool false, .slice p f.length c, .func (.func 84) #[] #[.pointer (some ⟨W0.heap.size, 0, none⟩)], .slice ps Z.length cs, .slice ps Z.length cs, .int .i64 Z.length, .int .i64 k, .bool false, u23, u24, u25, u26, u27, u28, u29, .slice ps Z.length cs, .int .i64 Z.length, .bool false, .int .i64 M, .bool false, .bool false, .int .i64 M, .bool false, .bool false, .slice p f.length c, .bool b, .func (.func 85) #[] #[.pointer (some ⟨s3, 0, none⟩), .pointer (some ⟨s3 + 1, 0, none⟩)], .int .i64 x, undef, undef, undef, undef, undef, undef, undef, undef, undef], defers := [] }) ?assign ?body ?stop
      case assign =>
        intro l x W K hK
        gi_wp2
        exact hK
      case body =>
        rintro l pre x W ⟨⟨q, d, g1, g2, g3, g4⟩, hpre⟩
        have cO := g1.cell
        have fO := g1.free
        have cm : W.cell? ⟨w.heap.size, 0, none⟩ = some (.int .i64 M) := (g3.cell (by omega) (by omega)).trans km.cell
        by_cases hfull : pre.length = M
        · have hdl : (((pre.length : Int)) == (M : Int)) = true := by rw [hfull]; simp
          have HG : Hid (Got2 w4 O n4 pre W) := ⟨q, d, g1, g2, g3, g4⟩
          have Hf := Lib.hid hfull
          clear hfull
          gi_wp2
          exact ⟨rfl, KeepsOthers.refl _, pre, x, rfl, HG.out, Hf.out⟩
        · have hdl : (((pre.length : Int)) == (M : Int)) = false := by rw [beq_eq_false_iff_ne]; omega
          have hpl : pre.length + 1 ≤ M := by omega
          clear hfull
          gi_wp2_with (first
            | (gi_at_builtin; refine wpListIn_append_own _ rfl _ _ 25 rfl n4 3 i0 (.int .i64 0) 1 8 Try.underlying25 hi0 hz0 hz1 hz2 rfl (by decide) _ pre.length _ rfl (g2.alloc _) ⟨W.heap.size, 0, none⟩ 1 1 [.int .i64 x] rfl rfl (cell_one_new _ _ _) (by simp [Value.oneCell']) (by simp [maxLen]; omega) (by omega) (by simp; omega) ?_; intro v' w3 hown' hg3 hnil3; obtain ⟨p', c', rfl⟩ := own_value hown'; have hst := Lib.hid (got2_stored hOn g1 g2 g3 g4 hg3 hown'); obtain ⟨hc3, hf3⟩ := box2_after hOn g1 g2 g4 hg3; go_frame))
          exact ⟨hst.out.1, hst.out.2.1, hst.out.2.2, by rw [List.length_append]; exact hpl⟩
      case stop =>
        rintro D pre W hD hpre ⟨pre', x, rfl, hg, hl⟩ hK
        have hnD : n4 ≤ D := by rw [← Hn4.out]; exact hD
        have hp' : pre' = seqL f b M := by
          rw [List.length_append, List.length_singleton, seqL_succ, hl] at hpre
          exact (List.append_inj' hpre rfl).1
        obtain ⟨q2, d2, e1, e2, e3, e4⟩ := Hgo.out.putObj (.deferred none) hg (by omega) hK rfl
        obtain ⟨q, d, g1, g2, g3, g4⟩ := hg
        have cO := g1.cell
        have he : q = q2 ∧ d = d2 := by
          have h1 : OneV (W.putObj D (.deferred none)) O (.slice q pre'.length d) 25 := g1.putObj (by omega)
          unfold OneV at h1 e1
          rw [h1] at e1
          simp at e1; exact e1
        obtain ⟨rfl, rfl⟩ := he
        have Hp := Lib.hid hp'
        have HK2 := Lib.hid hK
        clear hK hp' hl hpre g1
        gi_wp2
        refine ⟨by simp, .inl ⟨_, _, rfl, run_takeDeferred HK2.out, ?_⟩⟩
        refine ⟨_, results_tmp2 rfl _ _ _, ?_⟩
        rw [HL.out, HE.out, ← Hp.out]
        refine ⟨q, d, rfl, Own.lower ⟨e2, fun j hj => ?_⟩ (by omega), (hB5.trans (e3.bel.mono (by omega)))⟩
        rw [Hp.out] at hj ⊢
        rw [seqL_len] at hj
        have hgj : iget (seqL f b M) j = seqI f b j := by simp [seqL, iget, hj]
        obtain ⟨i, hi, hie⟩ := seqI_mem (f := f) (b := b) (t := j) (by omega)
        rw [hgj, hie]
        exact hx0.rng i hi
end Go.Proofs.Ytiohehofnlmenaa

/- The walks of robin.Rounds, Snake and of the reference's round, Rounds, Snake; no condition but sizes. -/
namespace Go.Proofs.Ytiohehofnlmenaa
set_option linter.unusedSimpArgs false
open Go.ChangeShapes Go.WideShapes Go.ChangeAt Go.RowKit Go.Deep
set_option linter.unusedVariables false

set_option maxHeartbeats 800000 in
theorem robinRounds_any (p : Option Addr) (c : Nat) (f : List Int) (many : Int) (w : World) (hx : Ints w p c f) (hl : f.length ≤ 1000000) :
    Calls Try.prog 38 #[.slice p f.length c, .int .i64 many] w (Gives2 w (rndL f false many) (rndE f many)) := by
  go_enter Try.func38, Try.ntmps38
  go_wp2_with fail
  refine (robinSome_any p c f many false w hx hl).mono ?_
  rintro e w' ⟨q, d, rfl, hO, hb⟩
  go_wp2_with fail
  go_ret2
  exact ⟨q, d, rfl, hO, hb⟩

theorem seqI_false (f : List Int) (t : Nat) : seqI f false t = iget f (t % f.length) := by unfold seqI; simp
/-- The snake's index, as the reference reckons it. -/
def snk (n t : Nat) : Nat := if n ≤ t % (2 * n) then 2 * n - 1 - t % (2 * n) else t % (2 * n)
theorem snk_eq {n : Nat} (t : Nat) (hn : 1 ≤ n) : snk n t = if (t / n) % 2 = 1 then n - 1 - t % n else t % n := by
  unfold snk
  have h1 : t % (2 * n) = t % n + n * (t / n % 2) := by rw [Nat.mul_comm 2 n, Nat.mod_mul]
  have h2 := Nat.mod_lt t (show n > 0 by omega)
  have h3 := Nat.mod_lt (t / n) (show 2 > 0 by omega)
  rw [h1]
  by_cases h : t / n % 2 = 1
  · rw [h, if_pos rfl, Nat.mul_one, if_pos (by omega)]; omega
  · have h0 : t / n % 2 = 0 := by omega
    rw [h0, Nat.mul_zero, if_neg (by omega), if_neg (by omega)]; rfl
theorem seqI_true {f : List Int} (t : Nat) (hf : 1 ≤ f.length) : seqI f true t = iget f (snk f.length t) := by
  rw [snk_eq t hf]; unfold seqI; simp
theorem snk_lt {n : Nat} (t : Nat) (hn : 1 ≤ n) : snk n t < n := by
  rw [snk_eq t hn]
  have h2 := Nat.mod_lt t (show n > 0 by omega)
  split <;> omega

end Go.Proofs.Ytiohehofnlmenaa

/- The walk of the law ChoresTurns: for every chores, first round and number it returns true, and changes nothing that was there. -/
namespace Go.Proofs.Ytiohehofnlmenaa
set_option linter.unusedVariables false
set_option linter.unusedSimpArgs false
open Go.ChangeShapes Go.WideShapes Go.ChangeAt Go.RowKit Go.Deep

theorem cpT_get {v : List (List Int)} {ts : List Int} : ∀ m t, t < m → iget (cpT v ts m) t = cX v ts t
  | m + 1, t, h => by
    rw [cpT, iget_append, cpT_len]
    by_cases e : t < m
    · rw [if_pos e]; exact cpT_get m t e
    · rw [if_neg e]
      obtain rfl : t = m := by omega
      rw [Nat.sub_self]; rfl
/-- What the rounds bring. -/
theorem turns_all {v : List (List Int)} {f : List Int} {M : Nat} (hg : Gds v) (hA : IsA f v.length) (hM : M ≤ 60) : ∃ ts, ts.length = M ∧ rndL f false (M : Int) = ts ∧ rndE f (M : Int) = 0 ∧ CRounds v ts f ∧ chkT v.length ts = 0 := by
  have hn : 1 ≤ v.length := hg.1
  have hn6 := hg.2.1
  have hl := hA.1
  have hE : rndE f (M : Int) = 0 := rndE_ok (by omega) (by
    rintro (h | h)
    · omega
    · rw [hl] at h; exact h hA) (by omega)
  have hget : ∀ t, t < M → iget (seqL f false M) t = iget f (t % v.length) := fun t ht => by
    have : iget (seqL f false M) t = seqI f false t := by simp [seqL, iget, ht]
    rw [this, seqI_false, hl]
  have hturn : ∀ t, t < (seqL f false M).length → 0 ≤ iget (seqL f false M) t ∧ iget (seqL f false M) t < v.length := fun t ht => by
    rw [seqL_len] at ht
    rw [hget t ht]
    have := isA_lt hA (t % v.length) (Nat.mod_lt _ hn)
    simp only [itm] at this
    omega
  refine ⟨seqL f false M, seqL_len _ _ _, by unfold rndL; rw [if_pos hE, Int.toNat_natCast], hE, ⟨⟨hg, hturn⟩, hA, fun t ht => hget t (by rw [seqL_len] at ht; exact ht)⟩, chkT_zero.2 ⟨by omega, by omega, by rw [seqL_len]; exact hM, hturn⟩⟩

set_option maxHeartbeats 16000000 in
set_option maxRecDepth 100000 in
theorem choresTurns_walk (p : Option Addr) (c : Nat) (v : List (List Int)) (q : Option Addr) (d : Nat) (f : List Int) (many : Int) (w : World) (hx : Mat w p c v) (hy : Ints w q d f) (hm64 : in64 many) :
    Calls Try.prog 8 #[.agg #[.slice p v.length c], .slice q f.length d, .int .i64 many] w fun e w' => e = .returned (.bool true) ∧ Below w.heap.size w w' := by
  obtain ⟨W0, hW0⟩ : ∃ W, w.alloc (.cells #[.slice p v.length c] 24) = W := ⟨_, rfl⟩
  have hB : Below w.heap.size w W0 := below_alloc hW0
  have bX : BoxV W0 w.heap.size [.slice p v.length c] := BoxV.new rfl hW0
  have mX := hx.below hB (Nat.le_refl _)
  have mT := hy.below hB (Nat.le_refl _)
  have HW0 := Lib.hid hW0
  clear hW0 hx hy
  obtain ⟨hm1, hm2⟩ := hm64
  go_enter Try.func8, Try.ntmps8
  go_wp2_with fail
  rw [HW0.out]
  refine (alive24_any _).mono ?_
  rintro e w1 ⟨rfl, hb⟩
  replace mX := mX.below hb (Nat.le_refl _)
  replace mT := mT.below hb (Nat.le_refl _)
  replace bX := bX.below hb
  replace hB := hB.trans (hb.mono hB.size)
  clear hb
  have x0 := bX.cell 0 _ rfl
  go_wp2_with fail
  refine (fit24_any p q c d v f _ mX mT).mono ?_
  rintro e w2 ⟨rfl, hb⟩
  replace mX := mX.below hb (Nat.le_refl _)
  replace mT := mT.below hb (Nat.le_refl _)
  replace bX := bX.below hb
  replace hB := hB.trans (hb.mono hB.size)
  clear hb x0
  have x0 := bX.cell 0 _ rfl
  by_cases hfit : fit24 v f = true
  · rw [hfit]
    have hgz : chkG v = 0 := by unfold fit24 at hfit; rw [decide_eq_true_iff] at hfit; exact hfit.2
    have hgr : ¬ GreatG v f := by unfold fit24 at hfit; rw [decide_eq_true_iff] at hfit; exact hfit.1
    have hf50 : f.length ≤ 1000000 := by
      have : ¬ 50 < f.length := fun h => hgr (.inr (.inr h))
      omega
    have hg := chkG_zero.1 hgz
    have Hgz := Lib.hid hgz
    have Hg := Lib.hid hg
    have h0v : 0 < v.length := hg.1
    have hv6 : v.length ≤ 6 := hg.2.1
    have hm10 : wid v ≤ 10 := hg.2.2.1
    have KA := Lib.hid (assigned_any q d f v.length _ (by omega) mT)
    clear hfit hgz hgr hg
    go_wp2_with fail
    refine KA.out.mono ?_
    rintro e w3 ⟨rfl, rfl⟩
    clear KA
    by_cases hA : IsA f v.length
    · have hab : isAB f v.length = true := decide_eq_true hA
      rw [hab]
      clear hab
      by_cases hneg : many < 0
      · have hd : decide (many < 0) = true := by simpa using hneg
        clear hA
        go_wp2_with fail
        go_ret
        exact ⟨rfl, hB⟩
      by_cases hbig : 60 < many
      · have hd : decide (many < 0) = false := by simpa using hneg
        have hd2 : decide (60 < many) = true := by simpa using hbig
        clear hA
        go_wp2_with fail
        go_ret
        exact ⟨rfl, hB⟩
      obtain ⟨M, rfl⟩ : ∃ M : Nat, many = M := ⟨many.toNat, by omega⟩
      have hM : M ≤ 60 := by omega
      have hd1 : decide ((M : Int) < 0) = false := by rw [decide_eq_false_iff_not]; omega
      have hd2 : decide ((60 : Int) < (M : Int)) = false := by rw [decide_eq_false_iff_not]; omega
      have hd3 : decide (60 < M) = false := by rw [decide_eq_false_iff_not]; omega
      obtain ⟨ts, htl, hrl, hre, hcr, hct⟩ := turns_all (M := M) Hg.out hA hM
      have hpe : pickE v ts = 0 := (pickE_ok Hgz.out).trans hct
      have K1 := robinRounds_any q d f (M : Int) _ mT hf50
      unfold Gives2 at K1
      rw [hrl, hre] at K1
      have K1 := Lib.hid K1
      have K2 := Lib.hid (fun (px : Option Addr) (cx : Nat) W hX hI => by
        have := choresPick_any p px c cx v ts W hX hI
        unfold GivesLL at this
        rw [hpe, show cpickL v ts = cpA v ts ts.length by unfold cpickL; rw [if_pos hpe], show cpickT v ts = cpT v ts ts.length by unfold cpickT; rw [if_pos hpe]] at this
        exact (this : Calls Try.prog 24 #[.agg #[.slice p v.length c], .slice px ts.length cx] W fun e w' => ∃ p c q d, e = .returned (.tuple #[.slice p (cpA v ts ts.length).length c, .slice q (cpT v ts ts.length).length d, .int .i64 0]) ∧ Own w' W.heap.size p c (cpA v ts ts.length) ∧ Own w' W.heap.size q d (cpT v ts ts.length) ∧ Below W.heap.size W w'))
      have hAl : (cpA v ts ts.length).length = wid v := cpA_len v ts _
      have hTl : (cpT v ts ts.length).length = M := by rw [cpT_len, htl]
      have hTg : ∀ t, t < M → iget (cpT v ts ts.length) t = cX v ts t := fun t ht => cpT_get _ _ (by omega)
      have hac := cpA_alc hcr.ok (Nat.le_refl _)
      have hmiss := efx_missing (c_efx hcr)
      have hF := chkA_ok Hg.out hac
      have hcon := fun i k (h1 : i < v.length) (h2 : k < v.length) => c_content hcr h1 h2
      have hlast := fun i (h1 : i < v.length) => (c_last hcr h1)
      have hlr : ∀ i, i < v.length → lastC v ts i M < (cpA v ts ts.length).length ∧ -1 ≤ lastC v ts i M := fun i hi => by
        have := hlast i hi
        rw [htl] at this
        rw [hAl]
        exact ⟨this.1, this.2.1⟩
      have hne1 : ((ts.length : Int) != (M : Int)) = false := by rw [htl]; simp
      have hcx : ∀ t, in64 (cX v ts t) := fun t => by have := cX_range (v := v) (ts := ts) t; exact ⟨by omega, by omega⟩
      rw [htl] at hcon
      obtain ⟨A, eA⟩ : ∃ A, cpA v ts ts.length = A := ⟨_, rfl⟩
      obtain ⟨T, eT⟩ : ∃ T, cpT v ts ts.length = T := ⟨_, rfl⟩
      rw [htl] at eA
      rw [htl] at hlr hTg hTl hAl hac hmiss hF
      have eT' := eT
      rw [htl] at eT'
      simp only [eA, eT'] at hlr hTg hTl hAl hac hmiss hF hcon
      have K2' : Hid (∀ (px : Option Addr) (cx : Nat) W, Mat W p c v → Ints W px cx ts → Calls Try.prog 24 #[.agg #[.slice p v.length c], .slice px ts.length cx] W fun e w' => ∃ p c q d, e = .returned (.tuple #[.slice p (A : List Int).length c, .slice q (T : List Int).length d, .int .i64 0]) ∧ Own w' W.heap.size p c A ∧ Own w' W.heap.size q d T ∧ Below W.heap.size W w') := fun px cx W hX hI => by
        have := K2.out px cx W hX hI
        rw [eT, htl, eA] at this
        rw [htl]
        exact this
      have K3 := fun (pa : Option Addr) (ca : Nat) W hX hI => (choresOne_any p c v pa ca A W hX hI)
      unfold GivesMP at K3
      rw [hmiss, hF] at K3
      have K3 := Lib.hid K3
      have K4 := fun (pa : Option Addr) (ca : Nat) W hX hI => (ref16Valid_any p c v pa ca A W hX hI)
      rw [hF] at K4
      have K4 := Lib.hid K4
      have hne2 : ((T.length : Int) != (M : Int)) = false := by rw [hTl]; simp
      have K5 := Lib.hid (fun (pa : Option Addr) (ca : Nat) (i k : Nat) (x : Int) W hX hI (h : i < v.length) (hxl : x < A.length) hx64 => content24_any p c v pa ca A i k x W hX hI Hg.out hac h hxl hx64)
      have Hcon := Lib.hid hcon
      have Hlr := Lib.hid hlr
      have HTg := Lib.hid hTg
      have HTl := Lib.hid hTl
      have Htl := Lib.hid htl
      have Hcx := Lib.hid hcx
      have HLs : Hid (∀ i t, lastC v ts i (t + 1) = if iget ts t = (i : Int) ∧ 0 ≤ cX v ts t then cX v ts t else lastC v ts i t) := fun _ _ => rfl
      have HL0 : Hid (∀ i, lastC v ts i 0 = -1) := fun _ => rfl
      have hA10 : A.length ≤ 10 := by omega
      have HAl := Lib.hid hAl
      clear hA hneg hbig htl hrl hre hcr hct hpe K2 hAl hTl hTg hac hmiss hF hcon hlast hlr eA eT eT' hcx
      go_wp2_with fail
      refine K1.out.mono ?_
      rintro e w4 ⟨px, cx, rfl, oX, hb⟩
      have iX := oX.ints
      replace mX := mX.below hb (Nat.le_refl _)
      replace bX := bX.below hb
      replace hB := hB.trans (hb.mono hB.size)
      clear hb x0 K1 oX mT
      have x0 := bX.cell 0 _ rfl
      have K2 := Lib.hid (K2'.out px cx _ mX iX)
      go_wp2_with fail
      refine K2.out.mono ?_
      rintro e w5 ⟨pa, ca, pt, ct, rfl, oA, oT, hb⟩
      have iA := oA.ints
      have iT := oT.ints
      replace mX := mX.below hb (Nat.le_refl _)
      replace iX := iX.below hb (Nat.le_refl _)
      replace bX := bX.below hb
      replace hB := hB.trans (hb.mono hB.size)
      clear hb x0 K2 K2' oA oT
      have x0 := bX.cell 0 _ rfl
      have K3b := Lib.hid (K3.out pa ca _ mX iA)
      go_wp2_with fail
      refine K3b.out.mono ?_
      rintro e w6 ⟨pm, cm, pq, cq, rfl, _, _, hb⟩
      replace mX := mX.below hb (Nat.le_refl _)
      replace iX := iX.below hb (Nat.le_refl _)
      replace iA := iA.below hb (Nat.le_refl _)
      replace iT := iT.below hb (Nat.le_refl _)
      replace bX := bX.below hb
      replace hB := hB.trans (hb.mono hB.size)
      clear hb x0 K3 K3b
      have x0 := bX.cell 0 _ rfl
      have K4b := Lib.hid (K4.out pa ca _ mX iA)
      have hlx := iX.length_le
      have hlt := iT.length_le
      go_wp2_with fail
      refine K4b.out.mono ?_
      rintro e w7 ⟨rfl, hb⟩
      replace mX := mX.below hb (Nat.le_refl _)
      replace iX := iX.below hb (Nat.le_refl _)
      replace iA := iA.below hb (Nat.le_refl _)
      replace iT := iT.below hb (Nat.le_refl _)
      replace bX := bX.below hb
      replace hB := hB.trans (hb.mono hB.size)
      clear hb x0 K4 K4b
      have x0 := bX.cell 0 _ rfl
      go_wp2_with fail
      go_loopw [16] (fun t wr => ∃ i : Nat, i ≤ v.length ∧ t = .int .i64 i ∧ Below w7.heap.size w7 wr) (fun t _ => v.length - (intOf t).toNat)
      case atStart => exact ⟨0, Nat.zero_le _, rfl, Below.refl _ _⟩
      case round =>
        clear x0
        obtain ⟨i, hi, rfl, hbr⟩ := hrel
        have x0 := (bX.below hbr).cell 0 _ rfl
        by_cases hiv : i < v.length
        · have hi1 : (i : Int) < v.length := by omega
          have hIX := iX.below hbr (Nat.le_refl _)
          have hIT := iT.below hbr (Nat.le_refl _)
          go_wp2_with fail
          obtain ⟨wo, hwo⟩ : ∃ wo, wr = wo := ⟨_, rfl⟩
          rw [hwo] at hbr x0 hIX hIT ⊢
          clear hwo
          go_loop [17, 18] (fun s t => ∃ k : Nat, k ≤ M ∧ t = .int .i64 k ∧ s = .int .i64 (lastC v ts i k)) (fun _ t => M - (intOf t).toNat)
          case atStart => exact ⟨0, Nat.zero_le _, rfl, by rw [HL0.out]⟩
          case round =>
            obtain ⟨k, hk, rfl, rfl⟩ := hrel
            by_cases hkm : k < M
            · have hk1 : (k : Int) < (M : Int) := by omega
              have hkx : (k : Int) < ts.length := by rw [Htl.out]; exact hk1
              have hkt : (k : Int) < T.length := by rw [HTl.out]; exact hk1
              obtain ⟨bx, ox, rfl, _, hcx⟩ := hIX.get (j := k) (by rw [Htl.out]; exact hkm)
              obtain ⟨bt, ot, rfl, _, hct⟩ := hIT.get (j := k) (by rw [HTl.out]; exact hkm)
              rw [HTg.out k hkm] at hct
              have HS := HLs.out i k
              obtain ⟨x, ex⟩ : ∃ x, iget ts k = x := ⟨_, rfl⟩
              obtain ⟨y, ey⟩ : ∃ y, cX v ts k = y := ⟨_, rfl⟩
              obtain ⟨z, ez⟩ : ∃ z, lastC v ts i k = z := ⟨_, rfl⟩
              rw [ex] at hcx HS
              rw [ey] at hct HS
              rw [ez] at HS ⊢
              clear ex ey ez
              by_cases hxi : x = (i : Int)
              · have hb1 : (x == (i : Int)) = true := by simpa using hxi
                by_cases hy0 : 0 ≤ y
                · have hd5 : decide (0 ≤ y) = true := by simpa using hy0
                  rw [if_pos ⟨hxi, hy0⟩] at HS
                  have HS := Lib.hid HS
                  clear hxi hy0
                  go_wp2_with fail
                  go_round
                  case rel => exact ⟨k + 1, by omega, by go_num, by rw [HS.out]⟩
                  case measure => (simp [intOf] <;> omega)
                · have hd5 : decide (0 ≤ y) = false := by simpa using hy0
                  rw [if_neg (fun h => hy0 h.2)] at HS
                  have HS := Lib.hid HS
                  clear hxi hy0
                  go_wp2_with fail
                  go_round
                  case rel => exact ⟨k + 1, by omega, by go_num, by rw [HS.out]⟩
                  case measure => (simp [intOf] <;> omega)
              · have hb1 : (x == (i : Int)) = false := by simpa using hxi
                rw [if_neg (fun h => hxi h.1)] at HS
                have HS := Lib.hid HS
                clear hxi
                go_wp2_with fail
                go_round
                case rel => exact ⟨k + 1, by omega, by go_num, by rw [HS.out]⟩
                case measure => (simp [intOf] <;> omega)
            · have hk1 : ¬ (k : Int) < (M : Int) := by omega
              obtain rfl : k = M := by omega
              obtain ⟨hl1, hl2⟩ := Hlr.out i hiv
              have hKc := fun k hk => Hcon.out i k hiv hk
              obtain ⟨z, ez⟩ : ∃ z, lastC v ts i k = z := ⟨_, rfl⟩
              rw [ez] at hl1 hl2 ⊢
              simp only [ez] at hKc
              have HKc := Lib.hid hKc
              have hz64 : in64 z := ⟨by omega, by omega⟩
              have K6 := Lib.hid (fun (k : Nat) W hX hI => K5.out pa ca i k z W hX hI hiv hl1 hz64)
              have hd6 : decide ((A.length : Int) ≤ z) = false := by rw [decide_eq_false_iff_not]; omega
              have hd7 : ¬ (A.length : Int) ≤ z := by omega
              clear ez hKc hz64 hIX hIT
              obtain ⟨wq, hwq⟩ : ∃ wq, wo = wq := ⟨_, rfl⟩
              rw [hwq] at hbr x0 ⊢
              clear hwq
              go_wp2_with fail
              go_loopw [19] (fun t wr => ∃ j : Nat, j ≤ v.length ∧ t = .int .i64 j ∧ Below w7.heap.size w7 wr) (fun t _ => v.length - (intOf t).toNat)
              case atStart => exact ⟨0, Nat.zero_le _, rfl, hbr⟩
              case round =>
                clear x0 hbr
                obtain ⟨j, hj, rfl, hbr⟩ := hrel
                have x0 := (bX.below hbr).cell 0 _ rfl
                by_cases hjv : j < v.length
                · have hj1 : (j : Int) < v.length := by omega
                  have K7 := K6.out j wr (mX.below hbr (Nat.le_refl _)) (iA.below hbr (Nat.le_refl _))
                  rw [HKc.out j hjv] at K7
                  have K7 := Lib.hid K7
                  go_wp2_with fail
                  refine K7.out.mono ?_
                  rintro e w' ⟨rfl, hb2⟩
                  go_wp2_with fail
                  go_roundw
                  case rel => exact ⟨j + 1, by omega, by go_num, hbr.trans (hb2.mono hbr.size)⟩
                  case measure => (simp [intOf] <;> omega)
                · have hj1 : ¬ (j : Int) < v.length := by omega
                  go_wp2_with fail
                  go_roundw
                  case rel => exact ⟨i + 1, by omega, by go_num, hbr⟩
                  case measure => (simp [intOf] <;> omega)
        · have hi1 : ¬ (i : Int) < v.length := by omega
          go_wp2_with fail
          go_ret
          exact ⟨rfl, hB.trans (hbr.mono hB.size)⟩
    · have hab : isAB f v.length = false := decide_eq_false hA
      rw [hab]
      clear hab hA
      go_wp2_with fail
      go_ret
      exact ⟨rfl, hB⟩
  · have hfit : fit24 v f = false := by simpa using hfit
    rw [hfit]
    clear hfit
    go_wp2_with fail
    go_ret
    exact ⟨rfl, hB⟩
end Go.Proofs.Ytiohehofnlmenaa
