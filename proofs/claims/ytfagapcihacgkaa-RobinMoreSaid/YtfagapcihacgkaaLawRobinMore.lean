/- The walk of the law RobinMore: for every goods, turns, number and first round it returns true, and changes nothing that was there. -/
import Derived.Test.YtfagapcihacgkaaMoreQ
import Derived.Test.YtfagapcihacgkaaFit18
import Derived.Test.YtfagapcihacgkaaAlive18
import Derived.Test.YtfagapcihacgkaaGoodsE
import Derived.Test.YtfagapcihacgkaaSame
import Derived.Test.YtfagapcihacgkaaRefB
import Derived.Test.YtfagapcihacgkaaPre
import Derived.Deep.RegionHeld3
import Derived.StillTailTactics
namespace Go.Proofs.Ytfagapcihacgkaa
set_option linter.unusedVariables false
set_option linter.unusedSimpArgs false
open Go.ChangeShapes Go.WideShapes Go.ChangeAt Go.RowKit Go.Deep

/-- Picking, as the law needs it: the number of turns by its name. -/
theorem pick_as (p q : Option Addr) (c d m : Nat) (v : List (List Int)) (ts : List Int) (A T : List Int) (hg : chkG v = 0) (ht : chkT v.length ts = 0) (hl : ts.length = m) (hA : pkA v ts ts.length = A) (hT : pkT v ts ts.length = T) (w : World) (hx : Mat w p c v) (hy : Ints w q d ts) :
    Calls Try.prog 12 #[.agg #[.slice p v.length c], .slice q m d] w fun e w' => ∃ pa ca pt ct, e = .returned (.tuple #[.slice pa A.length ca, .slice pt m ct, .int .i64 0]) ∧ Ints w' pa ca A ∧ Ints w' pt ct T ∧ Below w.heap.size w w' := by
  have hE : pickE v ts = 0 := by rw [pickE_ok hg]; exact ht
  have hL : pickL v ts = A := by unfold pickL; rw [if_pos hE, hA]
  have hTt : pickT v ts = T := by unfold pickT; rw [if_pos hE, hT]
  have hm : T.length = m := by rw [← hT, pkT_len, hl]
  subst hl
  refine (robinPick_any p q c d v ts w hx hy).mono ?_
  rintro e w' ⟨pa, ca, pt, ct, rfl, oA, oT, hb⟩
  rw [hL] at oA ⊢
  rw [hTt] at oT ⊢
  rw [hE, hm]
  exact ⟨pa, ca, pt, ct, rfl, oA.ints, oT.ints, hb⟩
theorem rounds_as (p : Option Addr) (c n m : Nat) (f : List Int) (b : Bool) (hA : IsA f n) (hn : 1 ≤ n) (hn6 : n ≤ 6) (hm : m ≤ 60) :
    rndE f (m : Int) = 0 ∧ rndL f b (m : Int) = seqL f b m := by
  have h0 : rndE f (m : Int) = 0 := by
    have hl := hA.1
    refine rndE_ok (by omega) ?_ (by omega)
    rintro (h | h)
    · omega
    · rw [hl] at h; exact h hA
  exact ⟨h0, by unfold rndL; rw [if_pos h0, Int.toNat_natCast]⟩

theorem rounds_c (n m : Nat) (f : List Int) (s : Option Addr) (u : Nat) (hA : IsA f n) (hn : 1 ≤ n) (hn6 : n ≤ 6) (hm : m ≤ 60) (w : World) (hz : Ints w s u f) :
    Calls Try.prog 20 #[.slice s f.length u, .int .i64 m] w fun e w' => ∃ p c, e = .returned (.tuple #[.slice p m c, .int .i64 0]) ∧ Ints w' p c (seqL f false m) ∧ Below w.heap.size w w' := by
  have hl := hA.1
  obtain ⟨h0, h1⟩ := rounds_as s u n m f false hA hn hn6 hm
  refine (robinRounds_any s u f m w hz (by omega)).mono ?_
  rintro e w' ⟨p, c, rfl, oX, hb⟩
  rw [h1] at oX ⊢
  rw [h0, seqL_len]
  exact ⟨p, c, rfl, oX.ints, hb⟩
theorem snake_c (n m : Nat) (f : List Int) (s : Option Addr) (u : Nat) (hA : IsA f n) (hn : 1 ≤ n) (hn6 : n ≤ 6) (hm : m ≤ 60) (w : World) (hz : Ints w s u f) :
    Calls Try.prog 22 #[.slice s f.length u, .int .i64 m] w fun e w' => ∃ p c, e = .returned (.tuple #[.slice p m c, .int .i64 0]) ∧ Ints w' p c (seqL f true m) ∧ Below w.heap.size w w' := by
  have hl := hA.1
  obtain ⟨h0, h1⟩ := rounds_as s u n m f true hA hn hn6 hm
  refine (robinSnake_any s u f m w hz (by omega)).mono ?_
  rintro e w' ⟨p, c, rfl, oX, hb⟩
  rw [h1] at oX ⊢
  rw [h0, seqL_len]
  exact ⟨p, c, rfl, oX.ints, hb⟩
theorem bal_c (n m : Nat) (f : List Int) (b : Bool) (hA : IsA f n) (hn : 1 ≤ n) (hn6 : n ≤ 6) (hm : m ≤ 60) (p : Option Addr) (c : Nat) (w : World) (hz : Ints w p c (seqL f b m)) :
    Calls Try.prog 14 #[.int .i64 n, .slice p m c] w fun e w' => e = .returned (.tuple #[.bool true, .int .i64 0]) ∧ Below w.heap.size w w' := by
  have h := robinBalanced_any n p c (seqL f b m) w hz
  rw [seqL_len, seq_balB hA hn hn6 b hm, seq_chkT hA hn hn6 b hm] at h
  exact h
theorem envies_c (p : Option Addr) (c : Nat) (v : List (List Int)) (q : Option Addr) (d : Nat) (A : List Int) (h0 : chkA v A = 0) (w : World) (hx : Mat w p c v) (hi : Ints w q d A) :
    Calls Try.prog 30 #[.agg #[.slice p v.length c], .slice q A.length d] w (GivesQ w (prTo (gP v A) v.length v.length) 0) := by
  have h := goodsEnvies_any p c v q d A w hx hi
  rw [envG_ok h0, h0] at h
  exact h
theorem pget_mem {xs : List (Nat × Nat)} {j : Nat} (h : j < xs.length) : pget xs j ∈ xs := by
  have : pget xs j = xs[j] := by simp [pget, h]
  rw [this]; exact List.getElem_mem h

set_option maxHeartbeats 16000000 in
set_option maxRecDepth 100000 in
theorem robinMore_walk (p : Option Addr) (c : Nat) (v : List (List Int)) (q : Option Addr) (d : Nat) (ts : List Int) (less : Int) (s : Option Addr) (u : Nat) (f : List Int) (w : World) (hx : Mat w p c v) (hy : Ints w q d ts) (h64 : in64 less) (hz : Ints w s u f) :
    Calls Try.prog 7 #[.agg #[.slice p v.length c], .slice q ts.length d, .int .i64 less, .slice s f.length u] w fun e w' => e = .returned (.bool true) ∧ Below w.heap.size w w' := by
  obtain ⟨W0, hW0⟩ : ∃ W0, w.alloc (.cells #[.slice p v.length c] 24) = W0 := ⟨_, rfl⟩
  have hB : Below w.heap.size w W0 := below_alloc hW0
  have bX : BoxV W0 w.heap.size [.slice p v.length c] := BoxV.new rfl hW0
  have hx := hx.below hB (Nat.le_refl _)
  have hy := hy.below hB (Nat.le_refl _)
  have hz := hz.below hB (Nat.le_refl _)
  have x0 := bX.cell 0 _ rfl
  have HW0 := Lib.hid hW0
  clear hW0
  have hl1 := hx.length_le
  have hl2 := hy.length_le
  have hl3 := hz.length_le
  go_enter Try.func7, Try.ntmps7
  go_wp2_with fail
  rw [HW0.out]
  refine (alive18_any _).mono ?_
  rintro e w1 ⟨rfl, hb1⟩
  replace hx := hx.below hb1 (Nat.le_refl _)
  replace hy := hy.below hb1 (Nat.le_refl _)
  replace hz := hz.below hb1 (Nat.le_refl _)
  replace bX := bX.below hb1
  replace x0 := bX.cell 0 _ rfl
  replace hB := hB.trans (hb1.mono hB.size)
  clear hb1
  go_wp2_with fail
  refine (fit18_any p q c d v ts _ hx hy).mono ?_
  rintro e w2 ⟨rfl, hb1⟩
  replace hx := hx.below hb1 (Nat.le_refl _)
  replace hy := hy.below hb1 (Nat.le_refl _)
  replace hz := hz.below hb1 (Nat.le_refl _)
  replace bX := bX.below hb1
  replace x0 := bX.cell 0 _ rfl
  replace hB := hB.trans (hb1.mono hB.size)
  clear hb1
  cases hF : fit18 v ts with
  | false =>
    clear hF
    go_wp2_with fail
    go_ret
    exact ⟨rfl, hB⟩
  | true =>
    unfold fit18 at hF
    rw [decide_eq_true_iff] at hF
    obtain ⟨hg, ht⟩ := hF
    by_cases hneg : less < 0
    · have hd : decide (less < 0) = true := by simpa using hneg
      clear hneg hg ht
      go_wp2_with fail
      go_ret
      exact ⟨rfl, hB⟩
    have hd : decide (less < 0) = false := by simpa using hneg
    by_cases hbig : (ts.length : Int) < less
    · have hd2 : decide ((ts.length : Int) < less) = true := by simpa using hbig
      clear hneg hbig hg ht
      go_wp2_with fail
      go_ret
      exact ⟨rfl, hB⟩
    have hd2 : decide ((ts.length : Int) < less) = false := by simpa using hbig
    obtain ⟨m, hm⟩ : ∃ m : Nat, (ts.length : Int) - less = m := ⟨((ts.length : Int) - less).toNat, by omega⟩
    have hmL : m ≤ ts.length := by omega
    have hmL1 : (m : Int) ≤ ts.length := by omega
    have hGd := chkG_zero.1 hg
    have hn1 := hGd.1
    have hn6 := hGd.2.1
    have hL60 : ts.length ≤ 60 := (chkT_zero.1 ht).2.2.1
    have htk : (ts.take m).length = m := by rw [List.length_take]; omega
    have hT2 : pkT v (ts.take m) (ts.take m).length = (pkT v ts ts.length).take m := pkT_more hmL
    obtain ⟨T, eT⟩ : ∃ T, pkT v ts ts.length = T := ⟨_, rfl⟩
    have hTl : T.length = ts.length := by rw [← eT, pkT_len]
    rw [eT] at hT2
    have hTk : (T.take m).length = m := by rw [List.length_take]; omega
    have C1 := Lib.hid (fun W hX hY => pick_as p q c d ts.length v ts _ T hg ht rfl rfl eT W hX hY)
    have C2 := Lib.hid (fun W hX hY => pick_as p q c d m v (ts.take m) _ (T.take m) hg (chkT_take ht) htk rfl hT2 W hX hY)
    obtain ⟨A1, eA1⟩ : ∃ A, pkA v ts ts.length = A := ⟨_, rfl⟩
    obtain ⟨A2, eA2⟩ : ∃ A, pkA v (ts.take m) (ts.take m).length = A := ⟨_, rfl⟩
    rw [eA1] at C1
    rw [eA2] at C2
    have CS := Lib.hid (fun (pa pb : Option Addr) (ca cb : Nat) (W : World) (h1 : Ints W pa ca (T.take m)) (h2 : Ints W pb cb (T.take m)) => eqI_true h1 h2)
    rw [hTk] at CS
    have Hg := Lib.hid hg
    have HGd := Lib.hid hGd
    clear hneg hbig eA1 eA2 eT hT2 htk hTk ht hg hGd
    go_wp2_with fail
    refine (C1.out w2 hx hy).mono ?_
    rintro e w3 ⟨pa, ca, pt, ct, rfl, iA, iT, hb1⟩
    replace hx := hx.below hb1 (Nat.le_refl _)
    replace hy := hy.below hb1 (Nat.le_refl _)
    replace hz := hz.below hb1 (Nat.le_refl _)
    replace bX := bX.below hb1
    replace x0 := bX.cell 0 _ rfl
    replace hB := hB.trans (hb1.mono hB.size)
    clear hb1 iA
    have hlX := bX.lt
    have Hpk := Lib.hid (fun W (h : Below w3.heap.size w3 W) => C2.out W (hx.below h (Nat.le_refl _)) ((hy.below h (Nat.le_refl _)).pre m))
    have Hmk : Hid (∀ W, Below w3.heap.size w3 W → (W.cell? ⟨w.heap.size, 0, none⟩ = some (Value.slice p v.length c) ∧ Below w3.heap.size w3 W)) := fun W hG => ⟨(hG.cell (p := ⟨w.heap.size, 0, none⟩) hlX).trans x0, hG⟩
    have hmd := hy.le
    have hwr : IntKind.i64.wrap ((ts.length : Int) - less) = (m : Int) := by rw [hm]; exact IntWalk.i64_in _ (by omega)
    have hwr2 : IntKind.i64.wrap (m : Int) = (m : Int) := IntWalk.i64_in _ (by omega)
    have hmi0 : (0 : Int) ≤ (m : Int) := by omega
    have hmi1 : (m : Int) ≤ (d : Int) := by omega
    have hsl1 := run_pre q ts.length d m (by omega)
    have hsl2 := run_pre pt ts.length ct m (by have := iT.le; omega)
    go_wp2_with fail
    go_region_held3 (fun W => W.cell? ⟨w.heap.size, 0, none⟩ = some (Value.slice p v.length c) ∧ Below w3.heap.size w3 W)
      (first | assumption | exact Hmk.out _ hGb | exact Hmk.out _ (below_drewN w3.heap.size w3 1) | exact Hmk.out _ (Below.refl _ _))
      (first | (go_at_call 12; refine (Hpk.out _ (by go_split_ands; assumption)).mono ?_; rintro e wC ⟨pa2, ca2, pt2, ct2, rfl, iA2, iT2, hbC⟩; have hGb : Below w3.heap.size w3 wC := Below.trans (by go_split_ands; assumption) (hbC.mono (Below.size (B := w3.heap.size) (w := w3) (by go_split_ands; assumption)))))
    replace hx := hx.below hGb (Nat.le_refl _)
    replace hz := hz.below hGb (Nat.le_refl _)
    replace iT := iT.below hGb (Nat.le_refl _)
    replace bX := bX.below hGb
    replace x0 := bX.cell 0 _ rfl
    replace hB := hB.trans (hGb.mono hB.size)
    clear hGb iA2 Hmk Hpk hy
    have hLL : ((ts.length : Int) != (ts.length : Int)) = false := by simp
    go_wp2_with fail
    refine (CS.out pt2 pt ct2 ct _ iT2 (iT.pre m)).mono ?_
    rintro e w4 ⟨rfl, hw⟩
    replace hx := hx.drew hw
    replace hz := hz.drew hw
    replace bX := bX.below (drew_below hw)
    replace x0 := bX.cell 0 _ rfl
    replace hB := hB.drewP hw
    clear hw iT iT2
    go_wp2_with fail
    refine (long_any s u f.length _).mono ?_
    rintro e w5 ⟨rfl, rfl⟩
    cases hL : decide (100 < f.length) with
    | true =>
      clear hL
      go_wp2_with fail
      go_ret
      exact ⟨rfl, hB⟩
    | false =>
      clear hL
      go_wp2_with fail
      refine (assigned_any s u f v.length _ (by omega) hz).mono ?_
      rintro e w6 ⟨rfl, rfl⟩
      cases hI : isAB f v.length with
      | false =>
        clear hI
        go_wp2_with fail
        go_ret
        exact ⟨rfl, hB⟩
      | true =>
        have hA : IsA f v.length := of_decide_eq_true hI
        have hfl := hA.1
        have hA' : IsA f f.length := by rw [hfl]; exact hA
        have hf1 : 1 ≤ f.length := by omega
        have hf6 : f.length ≤ 6 := by omega
        have C3 := Lib.hid (fun W h => rounds_c f.length ts.length f s u hA' hf1 hf6 hL60 W h)
        have C4 := Lib.hid (fun W h => snake_c f.length ts.length f s u hA' hf1 hf6 hL60 W h)
        have C5 := Lib.hid (fun pq cq W h => bal_c f.length ts.length f false hA' hf1 hf6 hL60 pq cq W h)
        have C6 := Lib.hid (fun pq cq W h => bal_c f.length ts.length f true hA' hf1 hf6 hL60 pq cq W h)
        have hch := seq_chkT hA hn1 hn6 false hL60
        have hXl := seqL_len f false ts.length
        have hcA : chkA v (pkA v (seqL f false ts.length) (seqL f false ts.length).length) = 0 := chkA_ok HGd.out ⟨pkA_len _ _ _, pkA_ok (fun t ht => seq_turn hA hn1 false _ t ht) _ (Nat.le_refl _)⟩
        obtain ⟨i0, hi0, hiv⟩ : ∃ i : Nat, iget f 0 = (i : Int) ∧ i < v.length := by
          have := isA_lt hA 0 (by omega)
          unfold itm at this
          exact ⟨(iget f 0).toNat, by omega, by omega⟩
        have Hcalm := Lib.hid (fun k => rounds_calm (m := ts.length) HGd.out hA hiv hi0 k)
        have hz0 : Hid (iget f 0 = (i0 : Int)) := hi0
        obtain ⟨X, eX⟩ : ∃ X, seqL f false ts.length = X := ⟨_, rfl⟩
        obtain ⟨Y, eY⟩ : ∃ Y, seqL f true ts.length = Y := ⟨_, rfl⟩
        rw [eX] at C3 C5 hch hXl hcA Hcalm
        rw [eY] at C4 C6
        obtain ⟨A3, eA3⟩ : ∃ A, pkA v X X.length = A := ⟨_, rfl⟩
        rw [eA3] at hcA Hcalm
        have C7 := Lib.hid (fun pq cq W hX hY => pick_as p pq c cq ts.length v X A3 (pkT v X X.length) Hg.out hch hXl eA3 rfl W hX hY)
        have C8 := Lib.hid (fun pq cq W hX hY => envies_c p c v pq cq A3 hcA W hX hY)
        have Hfl := Lib.hid hfl
        clear hA hA' hI hfl hch hXl hcA hi0 eX eY eA3
        go_wp2_with fail
        refine (C3.out _ hz).mono ?_
        rintro e w7 ⟨px, cx, rfl, iX, hb1⟩
        replace hx := hx.below hb1 (Nat.le_refl _)
        replace hz := hz.below hb1 (Nat.le_refl _)
        replace bX := bX.below hb1
        replace x0 := bX.cell 0 _ rfl
        replace hB := hB.trans (hb1.mono hB.size)
        clear hb1
        go_wp2_with fail
        refine (C4.out _ hz).mono ?_
        rintro e w8 ⟨py, cy, rfl, iY, hb1⟩
        replace hx := hx.below hb1 (Nat.le_refl _)
        replace hz := hz.below hb1 (Nat.le_refl _)
        replace iX := iX.below hb1 (Nat.le_refl _)
        replace bX := bX.below hb1
        replace x0 := bX.cell 0 _ rfl
        replace hB := hB.trans (hb1.mono hB.size)
        clear hb1
        go_wp2_with fail
        refine (C5.out px cx _ iX).mono ?_
        rintro e w9 ⟨rfl, hb1⟩
        replace hx := hx.below hb1 (Nat.le_refl _)
        replace hz := hz.below hb1 (Nat.le_refl _)
        replace iX := iX.below hb1 (Nat.le_refl _)
        replace iY := iY.below hb1 (Nat.le_refl _)
        replace bX := bX.below hb1
        replace x0 := bX.cell 0 _ rfl
        replace hB := hB.trans (hb1.mono hB.size)
        clear hb1
        go_wp2_with fail
        refine (C6.out py cy _ iY).mono ?_
        rintro e w10 ⟨rfl, hb1⟩
        replace hx := hx.below hb1 (Nat.le_refl _)
        replace hz := hz.below hb1 (Nat.le_refl _)
        replace iX := iX.below hb1 (Nat.le_refl _)
        replace bX := bX.below hb1
        replace x0 := bX.cell 0 _ rfl
        replace hB := hB.trans (hb1.mono hB.size)
        clear hb1 iY
        go_wp2_with fail
        refine (C7.out px cx _ hx iX).mono ?_
        rintro e w11 ⟨pa3, ca3, pt3, ct3, rfl, iA3, iT3, hb1⟩
        replace hx := hx.below hb1 (Nat.le_refl _)
        replace hz := hz.below hb1 (Nat.le_refl _)
        replace bX := bX.below hb1
        replace x0 := bX.cell 0 _ rfl
        replace hB := hB.trans (hb1.mono hB.size)
        clear hb1 iX iT3
        go_wp2_with fail
        refine (C8.out pa3 ca3 _ hx iA3).mono ?_
        rintro e w12 ⟨pe, ce, rfl, oE, hb1⟩
        replace hz := hz.below hb1 (Nat.le_refl _)
        replace hB := hB.trans (hb1.mono hB.size)
        have hcap := oE.cap
        have Hne : Hid (∀ j, j < (prTo (gP v A3) v.length v.length).length → (pget (prTo (gP v A3) v.length v.length) j).1 ≠ i0) := fun j hj he => by
          have h1 := (prTo_mem.1 (pget_mem hj)).2.2
          rw [he, Hcalm.out] at h1
          cases h1
        generalize prTo (gP v A3) v.length v.length = E at *
        clear hb1 C1 C2 CS C3 C4 C5 C6 C7 C8 Hcalm iA3
        obtain ⟨bf, of, rfl, _, hcf⟩ := hz.get (j := 0) (by omega)
        have hf0 : (0 : Int) < f.length := by omega
        go_wp2_with fail
        go_loopw [29] (fun t wr => ∃ k : Nat, k ≤ E.length ∧ t = .int .i64 k ∧ ∃ n, wr = w12.drewN n) (fun t _ => E.length - (intOf t).toNat)
        case atStart => exact ⟨0, Nat.zero_le _, rfl, drew_refl _⟩
        case round =>
          clear hcf
          obtain ⟨k, hk, rfl, hw⟩ := hrel
          by_cases hlt : k < E.length
          · have hk1 : (k : Int) < E.length := by omega
            obtain ⟨ge, rfl, _, _, hce, hce2⟩ := (oE.drew hw).get hlt
            have hcf := (hz.drew hw).at (j := 0) (by omega)
            rw [hz0.out, Nat.add_zero] at hcf
            have hne : (((pget E k).1 : Int) == (i0 : Int)) = false := by
              rw [beq_eq_false_iff_ne]; intro h; exact Hne.out k hlt (by omega)
            have Hw := Lib.hid hw
            clear hw
            go_wp2_with fail
            go_quiet (fail)
            go_wp2_with fail
            go_roundw
            case rel => exact ⟨k + 1, by omega, by go_num, drew_drewN _ Hw.out⟩
            case measure => simp [intOf]; omega
          · have hk1 : ¬ (k : Int) < E.length := by omega
            go_wp2_with fail
            go_ret
            exact ⟨rfl, hB.drewP hw⟩
end Go.Proofs.Ytfagapcihacgkaa
