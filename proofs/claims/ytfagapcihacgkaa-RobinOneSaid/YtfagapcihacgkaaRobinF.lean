/- The walks of robin.some, Rounds and Snake, for every first round and number; no condition but sizes. -/
import Derived.Test.YtfagapcihacgkaaRobinD
import Derived.Test.YtfagapcihacgkaaRobinE
import Derived.Test.YtfagapcihacgkaaSortP
import Derived.Test.YtfagapcihacgkaaOwnMat
namespace Go.Proofs.Ytfagapcihacgkaa
set_option linter.unusedSimpArgs false
open Go.ChangeShapes Go.WideShapes Go.ChangeAt Go.RowKit Go.Deep
set_option linter.unusedVariables false
attribute [local go_sem] Oper.semAt_some

/-- What is answered of a first round and a number of turns. -/
def rndE (f : List Int) (many : Int) : Int := if 6 < f.length then 4 else if f.length = 0 ∨ ¬ IsA f f.length then 8 else if many < 0 ∨ 60 < many then 2 else 0
def rndL (f : List Int) (b : Bool) (many : Int) : List Int := if rndE f many = 0 then seqL f b many.toNat else []
theorem rndE_many {f : List Int} {m : Int} (h : 6 < f.length) : rndE f m = 4 := if_pos h
theorem rndE_bad {f : List Int} {m : Int} (h : ¬ 6 < f.length) (h2 : f.length = 0 ∨ ¬ IsA f f.length) : rndE f m = 8 := by unfold rndE; rw [if_neg h, if_pos h2]
theorem rndE_arg {f : List Int} {m : Int} (h : ¬ 6 < f.length) (h2 : ¬ (f.length = 0 ∨ ¬ IsA f f.length)) (h3 : m < 0 ∨ 60 < m) : rndE f m = 2 := by unfold rndE; rw [if_neg h, if_neg h2, if_pos h3]
theorem rndE_ok {f : List Int} {m : Int} (h : ¬ 6 < f.length) (h2 : ¬ (f.length = 0 ∨ ¬ IsA f f.length)) (h3 : ¬ (m < 0 ∨ 60 < m)) : rndE f m = 0 := by unfold rndE; rw [if_neg h, if_neg h2, if_neg h3]
theorem rndL_bad {f : List Int} {b : Bool} {m : Int} (h : ¬ rndE f m = 0) : rndL f b m = [] := if_neg h

/-- Between two rounds: box O holds a row of the call's own, from n on, with what has come. -/
def Got2 (w2 : World) (O n : Nat) (pre : List Int) (W : World) : Prop :=
  ∃ p c, OneV W O (.slice p pre.length c) 25 ∧ W.ownsRow n 3 1 (.slice p pre.length c) pre.length (pre.map (Value.int .i64)) ∧ Keeps O n w2 W ∧ n ≤ W.heap.size
theorem got2_own (w2 : World) (O n : Nat) (hO : O < n) : OwnFrom n (Got2 w2 O n) := by
  rintro s W W' row ⟨p, c, h1, h2, h3, h4⟩ hg hr
  refine ⟨p, c, h1.kept hg (fun r e => (hr r e).2), h2.kept hg ?_, h3.grown h4 hO hg (fun k e => (hr k e).1), Nat.le_trans h4 hg.size⟩
  cases hk : (Value.slice p s.length c).ownBlock with
  | none => exact .inl rfl
  | some k =>
    refine .inr fun e => ?_
    obtain ⟨_, o, ho, hc⟩ := hr k e.symm
    obtain ⟨_, o', ho', hc'⟩ := row_cells h2 hk
    rw [ho] at ho'; cases ho'; rw [hc] at hc'; cases hc'
/-- A round's store into the box. -/
theorem got2_stored {w2 W w3 : World} {O n : Nat} {p1 p' : Option Addr} {c1 c' : Nat} {pre : List Int} {x : Int} {vs : Array Value} {t' : TypeId} (hO : O < n)
    (g1 : OneV W O (.slice p1 pre.length c1) 25) (g2 : W.ownsRow n 3 1 (.slice p1 pre.length c1) pre.length (pre.map (Value.int .i64))) (g3 : Keeps O n w2 W) (g4 : n ≤ W.heap.size)
    (hg3 : (W.alloc (.cells vs t')).grownBy w3 (Value.slice p1 pre.length c1).ownBlock) (hown : w3.ownsRow n 3 1 (.slice p' (pre.length + 1) c') (pre.length + 1) (pre.map (Value.int .i64) ++ [.int .i64 x])) :
    KeepsOthers W (w3.setCell ⟨O, 0, none⟩ (.slice p' (pre.length + 1) c')) ∧ Keeps O n W (w3.setCell ⟨O, 0, none⟩ (.slice p' (pre.length + 1) c')) ∧ Got2 w2 O n (pre ++ [x]) (w3.setCell ⟨O, 0, none⟩ (.slice p' (pre.length + 1) c')) := by
  have hrow : ∀ k, (Value.slice p1 pre.length c1).ownBlock = some k → n ≤ k := fun k e => (row_cells g2 e).1
  have hK : KeepsOthers W w3 := (KeepsOthers.alloc W _).trans (keepsOthers_own (g2.alloc _) hg3)
  have hka : Keeps O n W (W.alloc (.cells vs t')) := ⟨(Below.refl _ _).alloc (by omega) _, fun k h1 h2 => Below.heap_alloc _ _ _ (by omega)⟩
  have hk3 : Keeps O n W w3 := hka.grown (by simp; omega) hO hg3 hrow
  have hkf : Keeps O n W (w3.setCell ⟨O, 0, none⟩ (.slice p' (pre.length + 1) c')) := hk3.setO
  have h1 : OneV w3 O (.slice p1 pre.length c1) 25 := by
    have ha : OneV (W.alloc (.cells vs t')) O (.slice p1 pre.length c1) 25 := (Below.heap_alloc _ _ _ (by omega)).trans g1
    exact (hg3.block O ha.lt (fun e => by have := hrow O e.symm; omega)).trans ha
  have hgs : w3.grownBy (w3.setCell ⟨O, 0, none⟩ (.slice p' (pre.length + 1) c')) (some O) := grownBy_setCell' _ _ _
  have hsz : n ≤ w3.heap.size := by have := hg3.size; simp at this; omega
  refine ⟨hK.trans (KeepsOthers.setCell _ _ _), hkf, p', c', ?_, ?_, g3.trans hkf, Nat.le_trans hsz hgs.size⟩
  · rw [List.length_append]; exact h1.set
  · rw [List.length_append, List.map_append]
    refine hown.kept hgs ?_
    cases hk : (Value.slice p' (pre.length + 1) c').ownBlock with
    | none => exact .inl rfl
    | some k => exact .inr fun e => by have := (row_cells hown hk).1; cases e; omega
theorem box2_after {W w3 : World} {O n : Nat} {p1 : Option Addr} {c1 m : Nat} {xs : List Value} {vs : Array Value} {t' : TypeId} (hO : O < n)
    (g1 : OneV W O (.slice p1 m c1) 25) (g2 : W.ownsRow n 3 1 (.slice p1 m c1) m xs) (g4 : n ≤ W.heap.size) (hg3 : (W.alloc (.cells vs t')).grownBy w3 (Value.slice p1 m c1).ownBlock) :
    w3.cell? ⟨O, 0, none⟩ = some (.slice p1 m c1) ∧ w3.frozen? ⟨O, 0, none⟩ = false := by
  have ha : OneV (W.alloc (.cells vs t')) O (.slice p1 m c1) 25 := (Below.heap_alloc _ _ _ (by omega)).trans g1
  have h1 : OneV w3 O (.slice p1 m c1) 25 := (hg3.block O ha.lt (fun e => by have := (row_cells g2 e.symm).1; omega)).trans ha
  exact ⟨h1.cell, h1.free⟩
theorem seqI_mem {f : List Int} {b : Bool} {t : Nat} (hf : 0 < f.length) : ∃ j, j < f.length ∧ seqI f b t = iget f j := by
  have := Nat.mod_lt t hf
  unfold seqI
  split
  · exact ⟨_, by omega, rfl⟩
  · exact ⟨_, this, rfl⟩

set_option maxRecDepth 100000 in
set_option maxHeartbeats 8000000 in
theorem robinSome_any (p : Option Addr) (c : Nat) (f : List Int) (many : Int) (b : Bool) (w : World) (hx : Ints w p c f) (hl : f.length ≤ 1000000) :
    Calls Try.prog 40 #[.slice p f.length c, .int .i64 many, .bool b] w (Gives2 w (rndL f b many) (rndE f many)) := by
  obtain ⟨i0, hi0, hz0, hz1, hz2⟩ := info_parts infoInt
  obtain ⟨W0, hW0⟩ : ∃ W, w.alloc (.cells #[.int .i64 many] 3) = W := ⟨_, rfl⟩
  have hB0 := below_alloc hW0
  have k0 : OneV W0 w.heap.size (.int .i64 many) 3 := OneV.new rfl hW0
  have hs0 : W0.heap.size = w.heap.size + 1 := by rw [← hW0]; simp
  have hx0 := hx.below hB0 (Nat.le_refl _)
  have HW0 := Lib.hid hW0
  have Hs0 := Lib.hid hs0
  clear hW0 hs0 hx
  have hlen := hx0.length_le
  refine (callsIn_wide (n := 8)).1 ?_
  refine callsIn_of_wp_marks Try.func40 rfl trivial ?_ rfl
  simp only [Try.ntmps40, List.size_toArray, List.length_cons, List.length_nil, Nat.reduceAdd, Nat.reduceSub, Array.replicate_succ, Array.replicate_zero, List.push_toArray, List.append_toArray, List.nil_append, List.cons_append]
  by_cases h6 : 6 < f.length
  · have hd : decide (6 < (f.length : Int)) = true := by simp; omega
    have HE := Lib.hid (rndE_many (m := many) h6)
    have HL : Hid (rndL f b many = []) := rndL_bad (by rw [HE.out]; omega)
    gi_wp2
    refine ⟨_, results_tmp2 rfl _ _ _, ?_⟩
    rw [HW0.out, HL.out, HE.out]
    exact ⟨none, 0, rfl, Own.ofNil _ _, hB0⟩
  have hd : decide (6 < (f.length : Int)) = false := by simp; omega
  gi_wp2
  rw [HW0.out]
  refine ⟨trivial, (callsIn_wide.2 (values_any p f.length c W0)).mono ?_⟩
  rintro e w1 ⟨rfl, hw1⟩
  have hb1 : Below W0.heap.size W0 w1 := by rw [hw1]; exact (Below.refl _ _).alloc (Nat.le_refl _) _
  have kV : OneV w1 W0.heap.size (.slice p f.length c) 25 := OneV.new rfl hw1.symm
  have hx1 := hx0.below hb1 (Nat.le_refl _)
  clear hw1
  gi_wp2
  refine ⟨trivial, (callsIn_wide.2 (sorted_any W0.heap.size p c f hl w1 kV.lt kV.cell hx1)).mono ?_⟩
  rintro e w2 ⟨ps, cs, rfl, hS, hb2⟩
  have hsl := srt_length f
  have hIs := hS.ints
  have hB2 : Below W0.heap.size W0 w2 := hb1.trans (hb2.mono hb1.size)
  have k2 := k0.below hB2 (by rw [Hs0.out]; omega)
  have hx2 := hx0.below hB2 (Nat.le_refl _)
  have hBw : Below w.heap.size w w2 := hB0.trans (hB2.mono hB0.size)
  obtain ⟨Z, hZ⟩ : ∃ Z, srt f = Z := ⟨_, rfl⟩
  rw [hZ] at hIs hsl ⊢
  have HZ := Lib.hid hZ
  have Hsl := Lib.hid hsl
  have hZl : Z.length ≤ 6 := by omega
  clear hsl hS hb1 hb2 kV hx1 hZ
  gi_wp2
  gi_loop [21] (fun t => ∃ k : Nat, k ≤ Z.length ∧ t = .int .i64 k ∧ Hid (∀ j, j < k → iget Z j = j)) (fun t => Z.length - (intOf t).toNat)
  case atStart => exact ⟨0, by omega, rfl, fun j hj => by omega⟩
  case round =>
    obtain ⟨k, hk, rfl, hok⟩ := hrel
    by_cases hkZ : k < Z.length
    · have hk1 : (k : Int) < Z.length := by omega
      obtain ⟨bz, oz, rfl, _, hcz⟩ := hIs.get hkZ
      by_cases he : iget Z k = k
      · have hd1 : (iget Z k != (k : Int)) = false := by rw [he]; simp
        have HP := Lib.hid he
        clear he
        gi_wp2
        go_round
        case rel => exact ⟨k + 1, by omega, by go_num, snoc_all' hok.out HP.out⟩
        case measure => simp [intOf]; omega
      · have hd1 : (iget Z k != (k : Int)) = true := by rw [bne_iff_ne]; exact he
        have HE : Hid (rndE f many = 8) := rndE_bad h6 (.inr fun hA => he (by
          have := ((asgP_iff f f.length).2 hA).1 k
          rw [HZ.out] at this
          exact this hkZ))
        have HL : Hid (rndL f b many = []) := rndL_bad (by rw [HE.out]; omega)
        clear he
        gi_wp2
        refine ⟨_, results_tmp2 rfl _ _ _, ?_⟩
        rw [HL.out, HE.out]
        exact ⟨none, 0, rfl, Own.ofNil _ _, hBw⟩
    · have hk1 : ¬ (k : Int) < Z.length := by omega
      have hA : IsA f f.length := (asgP_iff f f.length).1 ⟨fun j hj => by rw [HZ.out] at hj ⊢; exact hok.out j (by omega), srt_length f⟩
      by_cases h0 : f.length = 0
      · have hd1 : ((Z.length : Int) == 0) = true := by rw [beq_iff_eq]; have := Hsl.out; omega
        have HE : Hid (rndE f many = 8) := rndE_bad h6 (.inl h0)
        have HL : Hid (rndL f b many = []) := rndL_bad (by rw [HE.out]; omega)
        clear h0
        gi_wp2
        refine ⟨_, results_tmp2 rfl _ _ _, ?_⟩
        rw [HL.out, HE.out]
        exact ⟨none, 0, rfl, Own.ofNil _ _, hBw⟩
      have hd1 : ((Z.length : Int) == 0) = false := by rw [beq_eq_false_iff_ne]; have := Hsl.out; omega
      have hno : Hid (¬ (f.length = 0 ∨ ¬ IsA f f.length)) := fun h => by
        rcases h with h | h
        · exact h0 h
        · exact h hA
      have hf1 : 1 ≤ f.length := by omega
      have c0 := k2.cell
      clear h0 hA hok
      by_cases hm0 : many < 0
      · have hd2 : decide (many < 0) = true := by simpa using hm0
        have HE : Hid (rndE f many = 2) := rndE_arg h6 hno.out (.inl hm0)
        have HL : Hid (rndL f b many = []) := rndL_bad (by rw [HE.out]; omega)
        gi_wp2
        refine ⟨_, results_tmp2 rfl _ _ _, ?_⟩
        rw [HL.out, HE.out]
        exact ⟨none, 0, rfl, Own.ofNil _ _, hBw⟩
      have hd2 : decide (many < 0) = false := by simpa using hm0
      by_cases hm6 : 60 < many
      · have hd3 : decide (60 < many) = true := by simpa using hm6
        have HE : Hid (rndE f many = 2) := rndE_arg h6 hno.out (.inr hm6)
        have HL : Hid (rndL f b many = []) := rndL_bad (by rw [HE.out]; omega)
        gi_wp2
        refine ⟨_, results_tmp2 rfl _ _ _, ?_⟩
        rw [HL.out, HE.out]
        exact ⟨none, 0, rfl, Own.ofNil _ _, hBw⟩
      have hd3 : decide (60 < many) = false := by simpa using hm6
      obtain ⟨M, rfl⟩ : ∃ M : Nat, many = M := ⟨many.toNat, by omega⟩
      have hM : M ≤ 60 := by omega
      have HE : Hid (rndE f M = 0) := rndE_ok h6 hno.out (by omega)
      have HL : Hid (rndL f b M = seqL f b M) := by unfold Hid rndL; rw [if_pos HE.out, Int.toNat_natCast]
      gi_wp2
      obtain ⟨W3, hW3⟩ : ∃ W, w2.alloc (.cells #[.slice none 0 0] 25) = W := ⟨_, rfl⟩
      rw [hW3]
      refine ⟨trivial, (callsIn_wide.2 (turns_any p f.length c b W3)).mono ?_⟩
      rintro e w4 ⟨rfl, hw4⟩
      have kO3 : OneV W3 w2.heap.size (.slice none 0 0) 25 := OneV.new rfl hW3
      have hs3 : W3.heap.size = w2.heap.size + 1 := by rw [← hW3]; simp
      have hs4 : w4.heap.size = w2.heap.size + 3 := by rw [hw4]; simp [hs3]
      have hB34 : Below W3.heap.size W3 w4 := by rw [hw4]; exact ((Below.refl _ _).alloc (Nat.le_refl _) _).alloc (by simp) _
      have hB24 : Below w2.heap.size w2 w4 := (below_alloc hW3).trans (hB34.mono (by omega))
      have kO : OneV w4 w2.heap.size (.slice none 0 0) 25 := kO3.below hB34 (by omega)
      have kS : OneV w4 W3.heap.size (.slice p f.length c) 25 := by
        rw [hw4]; exact OneV.below (B := W3.heap.size + 1) (OneV.new rfl rfl) ((Below.refl _ _).alloc (by simp) _) (by omega)
      have kB : OneV w4 (W3.heap.size + 1) (.bool b) 4 := by rw [hw4]; exact OneV.new (by simp) rfl
      have km : OneV w4 w.heap.size (.int .i64 M) 3 := k2.below hB24 (by have := k2.lt; omega)
      have hlm := k2.lt
      have hx4 := hx2.below hB24 (Nat.le_refl _)
      have hpb : ∀ b' o', p = some ⟨b', o', none⟩ → b' < w2.heap.size := fun b' o' e => (hx2.plain _ e (by have := hx2.le; omega)).2
      have hw0 : w.heap.size < w2.heap.size := hlm
      obtain ⟨O, hO⟩ : ∃ O, w2.heap.size = O := ⟨_, rfl⟩
      obtain ⟨n4, hn4⟩ : ∃ n4, w4.heap.size = n4 := ⟨_, rfl⟩
      obtain ⟨s3, hsx⟩ : ∃ s3, W3.heap.size = s3 := ⟨_, rfl⟩
      rw [hO] at kO hpb hw0 hs3 hs4
      rw [hsx] at kS kB hs3 ⊢
      rw [hn4] at hs4
      have hB5 : Below w.heap.size w w4 := hBw.trans (hB24.mono hBw.size)
      have hOn : O < n4 := by omega
      have hwO : w.heap.size ≤ O := by omega
      have hSt := turns1_ends (8 - 1) (by omega) s3 (s3 + 1) O n4 p (by omega) (by omega) hpb c f b M hf1 (by omega) (by omega) w4 (by omega) (by omega) hn4 kS.cell kB.cell hx4
      have HSt := Lib.hid hSt
      have Hn4 := Lib.hid hn4
      have HK := Lib.hid (Keeps.putObj (w := w4) (O := O) (n := n4) (by omega) hOn)
      have hgo := got2_own w4 O n4 hOn
      have h00 : Got2 w4 O n4 [] w4 := ⟨none, 0, kO, World.ownsRow_nil _ _ _ _, Keeps.refl _ _ _, by omega⟩
      have hgo' : OwnFrom w4.heap.size (Got2 w4 O n4) := by rw [hn4]; exact hgo
      have Hgo := Lib.hid hgo'
      have H00 := Lib.hid h00
      have HO := Lib.hid hO
      clear hSt hn4 hgo hgo' h00 hB34 hB24 kO3 kO kS kB hs3 hs4 hsx hO hw4 hW3 hx4 hlm hpb
      gi_wp2
      rw [HO.out]
      refine range_ends (by omega) (gf := 62) (lb := #[.pointer (some ⟨s3, 0, none⟩), .pointer (some ⟨s3 + 1, 0, none⟩)]) rfl (enters_of Try.func62 (by kernel_rfl) rfl) HSt.out (fun h k => h.trans k) HK.out (fun _ => rfl)
        (fun pre W => Got2 w4 O n4 pre W ∧ pre.length ≤ M) (fun pre W => ∃ pre' x, pre = pre' ++ [x] ∧ Got2 w4 O n4 pre' W ∧ pre'.length = M) 2
        (fun s A B row hs hg hr => ⟨Hgo.out s A B row hs.1 hg hr, hs.2⟩)
        (fun s A B row hs hg hr => by obtain ⟨pre', x, e, h, hl⟩ := hs; exact ⟨pre', x, e, Hgo.out pre' A B row h hg hr, hl⟩)
        (fun pre W h => h.2) ⟨H00.out, Nat.zero_le _⟩
        (fun x => { tmps := #[.slice p f.length c, .int .i64 M, .bool b, undef, .pointer (some ⟨w.heap.size, 0, none⟩), undef, u6, u7, .slice ps Z.length cs, u9, u10, .pointer (some ⟨O, 0, none⟩), .int .i64 x, .slice p f.length c, .int .i64 f.length, .bool false, .slice p f.length c, .func (.func 61) #[] #[.pointer (some ⟨W0.heap.size, 0, none⟩)], .slice ps Z.length cs, .slice ps Z.length cs, .int .i64 Z.length, .int .i64 k, .bool false, u23, u24, u25, u26, u27, u28, u29, .slice ps Z.length cs, .int .i64 Z.length, .bool false, .int .i64 M, .bool false, .bool false, .int .i64 M, .bool false, .bool false, .slice p f.length c, .bool b, .func (.func 62) #[] #[.pointer (some ⟨s3, 0, none⟩), .pointer (some ⟨s3 + 1, 0, none⟩)], .int .i64 x, undef, undef, undef, undef, undef, undef, undef, undef, undef], defers := [] }) ?assign ?body ?stop
      case assign =>
        intro l x W K hK
        gi_wp2
        exact hK
      case body =>
        rintro l pre x W ⟨⟨q, d, g1, g2, g3, g4⟩, hpre⟩
        have cO := g1.cell
        have fO := g1.free
        have cm : W.cell? ⟨w.heap.size, 0, none⟩ = some (.int .i64 M) := (g3.cell (by omega) (by omega)).trans km.cell
        by_cases hfull : pre.length = M
        · have hdl : (((pre.length : Int)) == (M : Int)) = true := by rw [hfull]; simp
          have HG : Hid (Got2 w4 O n4 pre W) := ⟨q, d, g1, g2, g3, g4⟩
          have Hf := Lib.hid hfull
          clear hfull
          gi_wp2
          exact ⟨rfl, KeepsOthers.refl _, pre, x, rfl, HG.out, Hf.out⟩
        · have hdl : (((pre.length : Int)) == (M : Int)) = false := by rw [beq_eq_false_iff_ne]; omega
          have hpl : pre.length + 1 ≤ M := by omega
          clear hfull
          gi_wp2_with (first
            | (gi_at_builtin; refine wpListIn_append_own _ rfl _ _ 25 rfl n4 3 i0 (.int .i64 0) 1 8 Try.underlying25 hi0 hz0 hz1 hz2 rfl (by decide) _ pre.length _ rfl (g2.alloc _) ⟨W.heap.size, 0, none⟩ 1 1 [.int .i64 x] rfl rfl (cell_one_new _ _ _) (by simp [Value.oneCell']) (by simp [maxLen]; omega) (by omega) (by simp; omega) ?_; intro v' w3 hown' hg3 hnil3; obtain ⟨p', c', rfl⟩ := own_value hown'; have hst := Lib.hid (got2_stored hOn g1 g2 g3 g4 hg3 hown'); obtain ⟨hc3, hf3⟩ := box2_after hOn g1 g2 g4 hg3; go_frame))
          exact ⟨hst.out.1, hst.out.2.1, hst.out.2.2, by rw [List.length_append]; exact hpl⟩
      case stop =>
        rintro D pre W hD hpre ⟨pre', x, rfl, hg, hl⟩ hK
        have hnD : n4 ≤ D := by rw [← Hn4.out]; exact hD
        have hp' : pre' = seqL f b M := by
          rw [List.length_append, List.length_singleton, seqL_succ, hl] at hpre
          exact (List.append_inj' hpre rfl).1
        obtain ⟨q2, d2, e1, e2, e3, e4⟩ := Hgo.out.putObj (.deferred none) hg (by omega) hK rfl
        obtain ⟨q, d, g1, g2, g3, g4⟩ := hg
        have cO := g1.cell
        have he : q = q2 ∧ d = d2 := by
          have h1 : OneV (W.putObj D (.deferred none)) O (.slice q pre'.length d) 25 := g1.putObj (by omega)
          unfold OneV at h1 e1
          rw [h1] at e1
          simp at e1; exact e1
        obtain ⟨rfl, rfl⟩ := he
        have Hp := Lib.hid hp'
        have HK2 := Lib.hid hK
        clear hK hp' hl hpre g1
        gi_wp2
        refine ⟨by simp, .inl ⟨_, _, rfl, run_takeDeferred HK2.out, ?_⟩⟩
        refine ⟨_, results_tmp2 rfl _ _ _, ?_⟩
        rw [HL.out, HE.out, ← Hp.out]
        refine ⟨q, d, rfl, Own.lower ⟨e2, fun j hj => ?_⟩ (by omega), (hB5.trans (e3.bel.mono (by omega)))⟩
        rw [Hp.out] at hj ⊢
        rw [seqL_len] at hj
        have hgj : iget (seqL f b M) j = seqI f b j := by simp [seqL, iget, hj]
        obtain ⟨i, hi, hie⟩ := seqI_mem (f := f) (b := b) (t := j) (by omega)
        rw [hgj, hie]
        exact hx0.rng i hi
end Go.Proofs.Ytfagapcihacgkaa
