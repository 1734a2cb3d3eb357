/- The walks of chores.Circle and of the reference's Circle, for every chores and allocation; no condition. -/
import Derived.Test.YtiohehofnlmenaaTopChoresRunsm5
import Derived.Test.YtiohehofnlmenaaTopChoresRunsm2
import Derived.Deep.AppendLies
import Derived.Laws.StructEq
import Derived.Test.YtiohehofnlmenaaTopChoresRunsm4
/- The walks of chores.Circle and of the reference's Circle, for every chores and allocation; no condition. -/
namespace Go.Proofs.Ytiohehofnlmenaa
set_option linter.unusedVariables false
set_option linter.unusedSimpArgs false
open Go.ChangeShapes Go.WideShapes Go.ChangeAt Go.RowKit Go.Deep

/-- The top circle of an allocation. -/
noncomputable def topG (v : List (List Int)) (a : List Int) : List Int := topL (bestF (valsG v a)) v.length
noncomputable def circL (v : List (List Int)) (a : List Int) : List Int := if chkA v a = 0 then topG v a else []
theorem circL_ok {v : List (List Int)} {a : List Int} (h : chkA v a = 0) : circL v a = topG v a := by simp [circL, h]
theorem circL_err {v : List (List Int)} {a : List Int} (h : chkA v a ≠ 0) : circL v a = [] := by simp [circL, h]

set_option maxHeartbeats 4000000 in
set_option maxRecDepth 100000 in
theorem choresCircle_any (p : Option Addr) (c : Nat) (v : List (List Int)) (q : Option Addr) (d : Nat) (a : List Int) (w : World) (hx : Mat w p c v) (hi : Ints w q d a) :
    Calls Try.prog 19 #[.agg #[.slice p v.length c], .slice q a.length d] w (Gives2 w (circL v a) (chkA v a)) := by
  obtain ⟨W0, hW0⟩ : ∃ W0, w.alloc (.cells #[.slice p v.length c] 24) = W0 := ⟨_, rfl⟩
  have hB : Below w.heap.size w W0 := below_alloc hW0
  have bX : BoxV W0 w.heap.size [.slice p v.length c] := BoxV.new rfl hW0
  have hx := hx.below hB (Nat.le_refl _)
  have hi := hi.below hB (Nat.le_refl _)
  have x0 := bX.cell 0 _ rfl
  have HW0 := Lib.hid hW0
  clear hW0
  have hl1 := hx.length_le
  have hl2 := hi.length_le
  go_enter Try.func19, Try.ntmps19
  go_wp2_with fail
  rw [HW0.out]
  by_cases hF : chkA v a = 0
  · have HL := Lib.hid (circL_ok hF)
    have HF := Lib.hid hF
    have C2 := goodsValues_any p c v q d a _ hx hi
    rw [valsL_ok hF, hF] at C2
    obtain ⟨hg, ha⟩ := chkA_zero.1 hF
    have h0 := hg.1
    have h6 := hg.2.1
    clear hF hg ha
    refine C2.mono ?_
    rintro e w1 ⟨pv, cv, rfl, mV, hb1⟩
    have hlV := valsG_len v a
    have HC := circle_any pv cv (valsG v a) w1 mV (by omega) (by omega) (fun i hi => by rw [hlV] at hi ⊢; rw [valsG_row hi, worthRow_len])
    rw [hlV] at HC ⊢
    have HC := Lib.hid HC
    clear hlV C2
    go_wp2_with fail
    refine HC.out.mono ?_
    rintro e w2 ⟨p2, c2, rfl, hO, hb2⟩
    go_wp2_with fail
    go_ret2
    rw [HL.out, HF.out]
    have hs1 := (hB.trans (hb1.mono hB.size)).size
    exact ⟨p2, c2, rfl, hO.lower hs1, (hB.trans (hb1.mono hB.size)).trans (hb2.mono hs1)⟩
  · have HL := Lib.hid (circL_err hF)
    have C2 := goodsValues_any p c v q d a _ hx hi
    rw [valsL_err hF] at C2
    have hz : (chkA v a != 0) = true := by rw [bne_iff_ne]; exact hF
    clear hF
    refine C2.mono ?_
    rintro e w1 ⟨pv, cv, rfl, mV, hb1⟩
    go_wp2_with fail
    go_ret2
    rw [HL.out]
    exact ⟨none, 0, rfl, Own.ofNil _ _, hB.trans (hb1.mono hB.size)⟩

/-- The least number of the first k + 1 from z on. -/
def lowIt (f : Nat → Nat) (z : Nat) : Nat → Nat
  | 0 => z
  | k + 1 => min (lowIt f z k) (itN f (k + 1) z)
theorem lowIt_le (f : Nat → Nat) (z : Nat) : ∀ k j, j ≤ k → lowIt f z k ≤ itN f j z
  | 0, j, h => by obtain rfl : j = 0 := by omega
                  exact Nat.le_refl _
  | k + 1, j, h => by
    rw [lowIt]
    by_cases e : j = k + 1
    · subst e; omega
    · have := lowIt_le f z k j (by omega); omega
theorem lowIt_mem (f : Nat → Nat) (z : Nat) : ∀ k, ∃ j, j ≤ k ∧ lowIt f z k = itN f j z
  | 0 => ⟨0, Nat.le_refl _, rfl⟩
  | k + 1 => by
    obtain ⟨j, hj, he⟩ := lowIt_mem f z k
    rw [lowIt]
    by_cases h : lowIt f z k ≤ itN f (k + 1) z
    · exact ⟨j, by omega, by omega⟩
    · exact ⟨k + 1, by omega, by omega⟩
theorem top_of_low {f : Nat → Nat} {n : Nat} (hf : ∀ x, x < n → f x < n) (h0 : 0 < n) :
    ∃ L, 1 ≤ L ∧ L ≤ n ∧ PerC f (lowIt f (itN f (2 * n) 0) n) L ∧ topL f n = if L = 1 then [] else orb f (lowIt f (itN f (2 * n) 0) n) L := by
  obtain ⟨M, hM1, hMn, hM⟩ := it_back hf h0
  obtain ⟨L, hL, hP⟩ := per_ex hM1 hM
  have hz : itN f (2 * n) 0 = itN f n (itN f n 0) := by rw [← itN_add]; congr 1; omega
  have hPz : PerC f (itN f (2 * n) 0) L := by rw [hz]; exact per_any hP n
  obtain ⟨j, hj, he⟩ := lowIt_mem f (itN f (2 * n) 0) n
  have hPm : PerC f (lowIt f (itN f (2 * n) 0) n) L := by rw [he]; exact per_any hPz j
  refine ⟨L, hP.1, by omega, hPm, topL_eq ⟨_, L, hPm, ⟨2 * n + j, by omega, by rw [he, itN_add]⟩, fun k => ?_, rfl⟩⟩
  have e1 : itN f k (lowIt f (itN f (2 * n) 0) n) = itN f ((j + k) % L) (itN f (2 * n) 0) := by rw [he, ← itN_add, per_mod hPz]
  rw [e1]
  exact lowIt_le f _ n _ (by have := Nat.mod_lt (j + k) (show 0 < L from hP.1); omega)
theorem favI_best {v : List (List Int)} {a : List Int} {i : Nat} (hi : i < v.length) : favI v a i = (bestF (valsG v a) i : Int) := by
  have hl := valsG_len v a
  have h1 := bestF_eq (v := valsG v a) (i := i) (by omega)
  rw [hl, valsG_row hi] at h1
  exact h1
set_option maxHeartbeats 8000000 in
set_option maxRecDepth 100000 in
theorem ref24top_any (p : Option Addr) (c : Nat) (v : List (List Int)) (q : Option Addr) (d : Nat) (a : List Int) (w : World) (hx : Mat w p c v) (hi : Ints w q d a) (hg : Gds v) (ha : AlcOk v a) :
    Calls Try.prog 44 #[.agg #[.slice p v.length c], .slice q a.length d] w (Gives w (topG v a)) := by
  obtain ⟨W0, hW0⟩ : ∃ W0, w.alloc (.cells #[.slice p v.length c] 24) = W0 := ⟨_, rfl⟩
  have hB : Below w.heap.size w W0 := below_alloc hW0
  have bX : BoxV W0 w.heap.size [.slice p v.length c] := BoxV.new rfl hW0
  have hx := hx.below hB (Nat.le_refl _)
  have hi := hi.below hB (Nat.le_refl _)
  have x0 := bX.cell 0 _ rfl
  have HW0 := Lib.hid hW0
  clear hW0
  have hl1 := hx.length_le
  have hl2 := hi.length_le
  have h0 := hg.1
  have h6 := hg.2.1
  have hlV := valsG_len v a
  have hbl : ∀ y, y < v.length → bestF (valsG v a) y < v.length := fun y _ => by
    have := bestF_lt (v := valsG v a) (i := y) (by omega)
    omega
  have CF := Lib.hid (fun (i : Nat) W (h : i < v.length) hX hI => favI_best (a := a) h ▸ favourite_any p c v q d a i W hX hI hg ha h)
  obtain ⟨L, h1L, hLn, hper, htop⟩ := top_of_low hbl h0
  have HT : Hid (topG v a = topL (bestF (valsG v a)) v.length) := rfl
  obtain ⟨f, hf⟩ : ∃ f, bestF (valsG v a) = f := ⟨_, rfl⟩
  rw [hf] at hbl hper htop HT
  simp only [hf] at CF
  have Hit := Lib.hid (fun k => itN_lt hbl k 0 h0)
  have Hbl := Lib.hid hbl
  have Hst : Hid (∀ k x, itN f (k + 1) x = f (itN f k x)) := fun k x => rfl
  have Hz0 : Hid (∀ x, itN f 0 x = x) := fun x => rfl
  have Hper := Lib.hid hper
  have Htop := Lib.hid htop
  clear hf hlV hbl hper htop hg ha
  go_enter Try.func44, Try.ntmps44
  go_wp2_with fail
  rw [HW0.out]
  go_loopw [5, 6] (fun s t wr => ∃ k : Nat, k ≤ 2 * v.length ∧ t = .int .i64 k ∧ s = .int .i64 (itN f k 0 : Nat) ∧ Below W0.heap.size W0 wr) (fun _ t _ => 2 * v.length - (intOf t).toNat)
  case atStart => exact ⟨0, Nat.zero_le _, rfl, by rw [Hz0.out]; rfl, Below.refl _ _⟩
  case round =>
    clear x0
    obtain ⟨k, hk, rfl, rfl, hbr⟩ := hrel
    have bXr := bX.below hbr
    have x0 := bXr.cell 0 _ rfl
    by_cases hlt : k < 2 * v.length
    · have hk1 : (k : Int) < 2 * (v.length : Int) := by omega
      have hy := Hit.out k
      have HS := Lib.hid (Hst.out k 0)
      obtain ⟨y, ey⟩ : ∃ y, itN f k 0 = y := ⟨_, rfl⟩
      rw [ey] at hy HS
      rw [ey]
      clear ey
      have HC := Lib.hid (CF.out y wr hy (hx.below hbr (Nat.le_refl _)) (hi.below hbr (Nat.le_refl _)))
      go_wp2_with fail
      refine HC.out.mono ?_
      rintro e w' ⟨rfl, hb2⟩
      go_wp2_with fail
      go_roundw
      case rel => exact ⟨k + 1, by omega, by go_num, by rw [HS.out], hbr.trans (hb2.mono hbr.size)⟩
      case measure => (simp [intOf] <;> omega)
    · have hk1 : ¬ (k : Int) < 2 * (v.length : Int) := by omega
      obtain rfl : k = 2 * v.length := by omega
      have hz := Hit.out (2 * v.length)
      obtain ⟨z, ez⟩ : ∃ z, itN f (2 * v.length) 0 = z := ⟨_, rfl⟩
      rw [ez] at hz Hper Htop ⊢
      rw [show ((2 * v.length : Nat) : Int) = 2 * (v.length : Int) by omega]
      have Hi2 := Lib.hid (fun k => itN_lt Hbl.out k z hz)
      have Hlow : Hid (∀ k, lowIt f z (k + 1) = min (lowIt f z k) (itN f (k + 1) z)) := fun k => rfl
      have Hlow0 : Hid (lowIt f z 0 = z) := rfl
      have Hlm := Lib.hid (fun k => lowIt_mem f z k)
      clear ez hk hlt hk1
      obtain ⟨wo, hwo⟩ : ∃ wo, wr = wo := ⟨_, rfl⟩
      rw [hwo] at hbr bXr x0 ⊢
      clear hwo
      go_wp2_with fail
      go_loopw [5, 7, 8] (fun s u t wr => ∃ k : Nat, k ≤ v.length ∧ t = .int .i64 k ∧ s = .int .i64 (itN f k z : Nat) ∧ u = .int .i64 (lowIt f z k : Nat) ∧ Below W0.heap.size W0 wr) (fun _ _ t _ => v.length - (intOf t).toNat)
      case atStart => exact ⟨0, Nat.zero_le _, rfl, by rw [Hz0.out], by rw [Hlow0.out], hbr⟩
      case round =>
        clear x0 bXr hbr
        obtain ⟨k, hk, rfl, rfl, rfl, hbr⟩ := hrel
        have bXr := bX.below hbr
        have x0 := bXr.cell 0 _ rfl
        by_cases hlt : k < v.length
        · have hk1 : (k : Int) < (v.length : Int) := by omega
          have hy := Hi2.out k
          have HS := Lib.hid (Hst.out k z)
          have HL := Lib.hid (Hlow.out k)
          have hy2 := Hi2.out (k + 1)
          have hl : lowIt f z k < v.length := by obtain ⟨j, _, e⟩ := Hlm.out k; rw [e]; exact Hi2.out j
          obtain ⟨y, ey⟩ : ∃ y, itN f k z = y := ⟨_, rfl⟩
          obtain ⟨y2, ey2⟩ : ∃ y, itN f (k + 1) z = y := ⟨_, rfl⟩
          obtain ⟨m, em⟩ : ∃ y, lowIt f z k = y := ⟨_, rfl⟩
          rw [ey, ey2] at HS
          rw [ey] at hy
          rw [ey2] at hy2
          rw [em, ey2] at HL
          rw [em] at hl
          rw [ey, em]
          have E2 := Lib.hid ey2
          have HC := CF.out y wr hy (hx.below hbr (Nat.le_refl _)) (hi.below hbr (Nat.le_refl _))
          rw [← HS.out] at HC
          have HC := Lib.hid HC
          clear ey ey2 em
          by_cases hmy : m ≤ y2
          · have e1 : min m y2 = m := by omega
            have e2 : min (m : Int) (y2 : Int) = (m : Int) := by omega
            rw [e1] at HL
            go_wp2_with fail
            refine HC.out.mono ?_
            rintro e w' ⟨rfl, hb2⟩
            go_wp2_with fail
            go_roundw
            case rel => exact ⟨k + 1, by omega, by go_num, by rw [E2.out], by rw [HL.out] <;> first | rfl | (congr 1; omega), hbr.trans (hb2.mono hbr.size)⟩
            case measure => (simp [intOf] <;> omega)
          · have e1 : min m y2 = y2 := by omega
            have e2 : min (m : Int) (y2 : Int) = (y2 : Int) := by omega
            rw [e1] at HL
            go_wp2_with fail
            refine HC.out.mono ?_
            rintro e w' ⟨rfl, hb2⟩
            go_wp2_with fail
            go_roundw
            case rel => exact ⟨k + 1, by omega, by go_num, by rw [E2.out], by rw [HL.out] <;> first | rfl | (congr 1; omega), hbr.trans (hb2.mono hbr.size)⟩
            case measure => (simp [intOf] <;> omega)
        · have hk1 : ¬ (k : Int) < (v.length : Int) := by omega
          obtain rfl : k = v.length := by omega
          have hm : lowIt f z v.length < v.length := by obtain ⟨j, _, e⟩ := Hlm.out v.length; rw [e]; exact Hi2.out j
          obtain ⟨m, em⟩ : ∃ m, lowIt f z v.length = m := ⟨_, rfl⟩
          obtain ⟨y0, ey0⟩ : ∃ m, itN f v.length z = m := ⟨_, rfl⟩
          rw [em] at hm Hper Htop
          rw [em, ey0]
          have Hi3 := Lib.hid (fun k => itN_lt Hbl.out k m hm)
          have Hos : Hid (∀ k, orb f m (k + 1) = orb f m k ++ [(itN f k m : Int)]) := fun k => orb_succ
          have Hol := Lib.hid (fun k => orb_len f m k)
          have Ho1 : Hid (orb f m 1 = [(m : Int)]) := rfl
          clear em ey0 hk hlt hk1
          obtain ⟨W1, hW1⟩ : ∃ W1, wr.alloc (.cells #[.int .i64 (m : Int)] 3) = W1 := ⟨_, rfl⟩
          have hb1 : Below wr.heap.size wr W1 := below_alloc hW1
          have hsz1 : W0.heap.size ≤ wr.heap.size := hbr.size
          have hO1 : Own W1 W0.heap.size (some ⟨wr.heap.size, 0, none⟩) 1 [(m : Int)] := by
            rw [← hW1]
            exact Own.lit wr W0.heap.size hsz1 [(m : Int)] (by simp) (fun j hj => by simp at hj; subst hj; show in64 (m : Int); exact ⟨by omega, by omega⟩)
          have hbw : Below W0.heap.size W0 W1 := hbr.trans (hb1.mono hsz1)
          have bX1 := bX.below hbw
          have x1 := bX1.cell 0 _ rfl
          have HW1 := Lib.hid hW1
          have HC := Lib.hid (CF.out m W1 hm (hx.below hbw (Nat.le_refl _)) (hi.below hbw (Nat.le_refl _)))
          have Hf1 : Hid (f m = itN f 1 m) := rfl
          have x1a : (wr.alloc (.cells #[.int .i64 (m : Int)] 3)).cell? ⟨w.heap.size, 0, none⟩ = some (.slice p v.length c) := by rw [hW1]; exact x1
          clear hW1 bXr
          obtain ⟨B1, hB1⟩ : ∃ B1, wr.heap.size = B1 := ⟨_, rfl⟩
          have HB1 := Lib.hid hB1
          rw [hB1] at hO1
          clear hB1
          go_wp2_with fail
          rw [HW1.out, HB1.out]
          refine HC.out.mono ?_
          rintro e w2 ⟨rfl, hb2⟩
          have hsz2 := hbw.size
          go_wp2_with fail
          go_loopw [5, 9] (fun s t wr => ∃ k : Nat, 1 ≤ k ∧ k ≤ L ∧ s = .int .i64 (itN f k m : Nat) ∧ (∃ zs qz dz, Hid (zs = orb f m k) ∧ t = .slice qz (zs : List Int).length dz ∧ Own wr W0.heap.size qz dz zs) ∧ Below W0.heap.size W0 wr) (fun _ t _ => L - lenV t)
          case atStart => exact ⟨1, Nat.le_refl _, h1L, by rw [Hf1.out], ⟨[(m : Int)], _, _, Ho1.out.symm, rfl, hO1.below hb2 (Nat.le_refl _)⟩, hbw.trans (hb2.mono hsz2)⟩
          case round =>
            clear x0 x1 x1a bX1 hbr hbw hb1 hb2
            obtain ⟨k, hk0, hk, rfl, ⟨zs, qz, dz, hz2, rfl, hO⟩, hbr⟩ := hrel
            have bXr := bX.below hbr
            have x0 := bXr.cell 0 _ rfl
            have hzl : zs.length = k := by rw [hz2.out]; exact Hol.out k
            by_cases hlt : k < L
            · have hne : itN f k m ≠ m := Hper.out.2.2 k hk0 hlt
              have hy := Hi3.out k
              have HS := Lib.hid (Hst.out k m)
              have HO := Lib.hid (Hos.out k)
              obtain ⟨y, ey⟩ : ∃ y, itN f k m = y := ⟨_, rfl⟩
              rw [ey] at hy HS hne HO
              rw [ey]
              have hb : ((y : Int) != (m : Int)) = true := by rw [bne_iff_ne]; omega
              have hyi : in64 (y : Int) := ⟨by omega, by omega⟩
              have hsz3 := hbr.size
              have Hzl := Lib.hid hzl
              have hz9 : zs.length ≤ 900000 := by omega
              clear ey hzl hne
              go_wp2_with (at_builtin; refine wpList_app1 rfl (.tmp 50) (.tmp 52) rfl W0.heap.size _ _ zs (y : Int) rfl rfl rfl hO hyi hz9 hsz3 ?_; intro p3 c3 w3 u3 hu3 hO3 hg3 hf3; have hbw := hbr.grown hg3 hsz3 (fun k' e => (hO.lt k' e).1); have x3 := (bX.below hbw).cell 0 _ rfl; have HC2 := Lib.hid (CF.out y w3 hy (hx.below hbw (Nat.le_refl _)) (hi.below hbw (Nat.le_refl _))))
              refine HC2.out.mono ?_
              rintro e w' ⟨rfl, hb4⟩
              go_wp2_with fail
              go_roundw
              case rel => exact ⟨k + 1, by omega, by omega, by rw [HS.out], ⟨u3, _, _, by unfold Hid; rw [hu3.out, hz2.out, HO.out], rfl, hO3.below hb4 (Nat.le_refl _)⟩, hbw.trans (hb4.mono hbw.size)⟩
              case measure => have e3 : u3.length = k + 1 := by rw [hu3.out, List.length_append, Hzl.out]; rfl
                              have e4 := Hzl.out
                              simp only [lenV]; omega
            · have hkL : k = L := by omega
              subst hkL
              have hper := Hper.out.2.1
              rw [hper]
              have hb : ((m : Int) != (m : Int)) = false := by simp
              have Hzl := Lib.hid hzl
              by_cases hL1 : k = 1
              · have hb2 : ((zs.length : Int) == 1) = true := by rw [beq_iff_eq]; omega
                have HT2 : Hid (topG v a = []) := by unfold Hid; rw [HT.out, Htop.out, if_pos hL1]
                clear hL1 hzl hper
                go_wp2_with fail
                go_ret
                rw [HT2.out]
                exact ⟨none, 0, rfl, Own.ofNil _ _, hB.trans (hbr.mono hB.size)⟩
              · have hb2 : ((zs.length : Int) == 1) = false := by rw [beq_eq_false_iff_ne]; omega
                have HT2 : Hid (topG v a = orb f m k) := by unfold Hid; rw [HT.out, Htop.out, if_neg hL1]
                clear hL1 hzl hper
                go_wp2_with fail
                go_ret
                rw [HT2.out, ← hz2.out]
                exact ⟨_, _, rfl, hO.lower hB.size, hB.trans (hbr.mono hB.size)⟩
end Go.Proofs.Ytiohehofnlmenaa

/- Rows of pairs that a call itself makes: how they are read, appended to, compared; no condition but sizes. -/
namespace Go.Proofs.Ytiohehofnlmenaa
set_option linter.unusedVariables false
set_option linter.unusedSimpArgs false
open Go.ChangeShapes Go.WideShapes Go.ChangeAt Go.RowKit Go.Deep

theorem infoPair : (Try.prog.info? 63).map (fun i => (i.zero, i.size, i.bytes)) = some (some (.agg #[.int .i64 0, .int .i64 0]), 2, 16) := by kernel_rfl
/-- The cells of a list of pairs. -/
def cellsP (xs : List (Nat × Nat)) : List Value := xs.flatMap fun x => [.int .i64 x.1, .int .i64 x.2]
def pget (xs : List (Nat × Nat)) (j : Nat) : Nat × Nat := xs.getD j (0, 0)
theorem cellsP_append (xs ys : List (Nat × Nat)) : cellsP (xs ++ ys) = cellsP xs ++ cellsP ys := by simp [cellsP]
theorem cellsP_get : ∀ (xs : List (Nat × Nat)) (j : Nat), j < xs.length → (cellsP xs)[j * 2]? = some (.int .i64 (pget xs j).1) ∧ (cellsP xs)[j * 2 + 1]? = some (.int .i64 (pget xs j).2)
  | x :: xs, 0, _ => ⟨rfl, rfl⟩
  | x :: xs, j + 1, h => by
    have ih := cellsP_get xs j (by simpa using h)
    have e : cellsP (x :: xs) = Value.int .i64 x.1 :: Value.int .i64 x.2 :: cellsP xs := rfl
    have e1 : (j + 1) * 2 = j * 2 + 1 + 1 := by omega
    have e2 : pget (x :: xs) (j + 1) = pget xs j := rfl
    rw [e, e1, e2, List.getElem?_cons_succ, List.getElem?_cons_succ, List.getElem?_cons_succ, List.getElem?_cons_succ]
    exact ih

/-- The slice (p, xs.length, c) is a row of the call's own, in a block from base on, and holds the pairs xs. -/
structure OwnP (w : World) (base : Nat) (p : Option Addr) (c : Nat) (xs : List (Nat × Nat)) : Prop where
  row : w.ownsRow base 63 2 (.slice p xs.length c) xs.length (cellsP xs)
theorem OwnP.ofNil (w : World) (base : Nat) : OwnP w base none 0 [] := ⟨World.ownsRow_nil w base _ _⟩
theorem OwnP.lt {w : World} {base : Nat} {p : Option Addr} {c : Nat} {xs : List (Nat × Nat)} (h : OwnP w base p c xs) : ∀ k, blk p = some k → base ≤ k ∧ k < w.heap.size := fun k hk => h.row.lt k (by rw [ownBlock_slice]; exact hk)
theorem OwnP.lower {w : World} {base base' : Nat} {p : Option Addr} {c : Nat} {xs : List (Nat × Nat)} (h : OwnP w base p c xs) (hb : base' ≤ base) : OwnP w base' p c xs := by
  refine ⟨⟨h.row.1, ?_⟩⟩
  rcases h.row.2 with h1 | ⟨g, cap, cur, h1, h2, r⟩
  · exact .inl h1
  · exact .inr ⟨g, cap, cur, h1, Nat.le_trans hb h2, r⟩
theorem OwnP.keptBy {w w' : World} {base : Nat} {p : Option Addr} {c : Nat} {xs : List (Nat × Nat)} (h : OwnP w base p c xs) {row : Option Nat} (hg : w.grownBy w' row) (hne : ∀ k, blk p = some k → row ≠ some k) : OwnP w' base p c xs :=
  ⟨h.row.kept hg (by
    rw [ownBlock_slice]
    cases hb : blk p with
    | none => exact .inl rfl
    | some k => exact .inr fun e => hne k hb e.symm)⟩
theorem OwnP.below {w w' : World} {base B : Nat} {p : Option Addr} {c : Nat} {xs : List (Nat × Nat)} (h : OwnP w base p c xs) (hb : Below B w w') (hB : w.heap.size ≤ B) : OwnP w' base p c xs :=
  h.keptBy (grownBy_of_below hb hB none) (fun _ _ h => by cases h)
theorem OwnP.drew {w w' : World} {base : Nat} {p : Option Addr} {c : Nat} {xs : List (Nat × Nat)} (h : OwnP w base p c xs) (hw : ∃ n, w' = w.drewN n) : OwnP w' base p c xs := by
  obtain ⟨n, rfl⟩ := hw
  exact h.below (below_drewN w.heap.size w n) (Nat.le_refl _)
theorem OwnP.alloc {w : World} {base : Nat} {p : Option Addr} {c : Nat} {xs : List (Nat × Nat)} (h : OwnP w base p c xs) (o : Obj) : OwnP (w.alloc o) base p c xs := ⟨h.row.alloc o⟩
theorem OwnP.cap {w : World} {base : Nat} {p : Option Addr} {c : Nat} {xs : List (Nat × Nat)} (h : OwnP w base p c xs) : xs.length ≤ 9223372036854775807 := by
  rcases h.row.2 with ⟨_, h2⟩ | ⟨g, cap, cur, _, _, _, h4, h5, _, _⟩
  · omega
  · simp only [maxLen] at h5; omega
theorem OwnP.get {w : World} {base : Nat} {p : Option Addr} {c : Nat} {xs : List (Nat × Nat)} (h : OwnP w base p c xs) {j : Nat} (hj : j < xs.length) :
    ∃ g, p = some ⟨g, 0, none⟩ ∧ base ≤ g ∧ g < w.heap.size ∧ w.cell? ⟨g, j * 2, none⟩ = some (.int .i64 (pget xs j).1) ∧ w.cell? ⟨g, j * 2 + 1, none⟩ = some (.int .i64 (pget xs j).2) := by
  obtain ⟨g, cap, hv, hb, hlt⟩ := h.row.form (by omega)
  simp only [Value.slice.injEq] at hv
  obtain ⟨rfl, _, rfl⟩ := hv
  obtain ⟨e1, e2⟩ := cellsP_get xs j hj
  exact ⟨g, rfl, hb, hlt, (h.row.cellAt (j * 2) (by omega)).trans e1, (h.row.cellAt (j * 2 + 1) (by omega)).trans e2⟩

/-- 'append(s, [2]int{i, k})', the pair laid in a new block. -/
theorem wpList_appP {w : World} {ops : Array Oper} {rest : List Oper} {o : Oper} {a : Act} {Q : Exit → Act → World → Prop} (hgd : o.guard = none) (s x : Operand)
    (ho : o.op = .call { callee := .builtin .append, args := #[s, x], argTypes := #[28, 28] })
    (base : Nat) (p : Option Addr) (c : Nat) (xs : List (Nat × Nat)) (y0 y1 : Nat) (hs : a.eval s = .slice p xs.length c) {B : Nat} (hx : a.eval x = .slice (some ⟨B, 0, none⟩) 1 1) (hB : w.heap.size = B) (hown : OwnP w base p c xs)
    (hsz : xs.length ≤ 900000) (hbase : base ≤ w.heap.size)
    (h : ∀ p' c' w' zs, Hid (zs = xs ++ [(y0, y1)]) → OwnP w' base p' c' zs → w.grownBy w' (blk p) → Fresh w p p' → wpList Try.prog ops Q rest (a.put o.dst (.slice p' zs.length c')) w') : wpList Try.prog ops Q (o :: rest) a (w.alloc (.cells #[.int .i64 y0, .int .i64 y1] 63)) := by
  subst hB
  refine wpList_appG (w := w.alloc (.cells #[.int .i64 y0, .int .i64 y1] 63)) hgd s x 28 63 ho (.agg #[.int .i64 0, .int .i64 0]) 2 16 Try.underlying28 infoPair (by kernel_rfl) (by decide) base p (some ⟨w.heap.size, 0, none⟩) xs.length 1 c 1 (cellsP xs) [.int .i64 y0, .int .i64 y1] hs hx (hown.row.alloc _)
    (fun e => (by cases e)) rfl ?_ (by simp [Value.oneCell']) (by simp [maxLen]; omega) (by omega) (by simp; omega) ?_
  · rintro ad ⟨⟩ j u hu
    rw [add_plain, World.cell?_alloc_at _ _ _ _ rfl]
    simpa using hu
  · intro p' c' w' h2 h3 h4
    have hg : w.grownBy w' (blk p) := ⟨h3.os, h3.tape, h3.output, by have := h3.size; simp at this; omega, fun k hk hne => by
      rw [h3.block k (by simp; omega) hne]
      exact Below.heap_alloc _ _ _ hk⟩
    have hfr : Fresh w p p' := fun k hk => by
      rcases h4 k hk with h5 | h5
      · exact .inl h5
      · exact .inr (by simp at h5; omega)
    have := h p' c' w' (xs ++ [(y0, y1)]) rfl ⟨by rw [List.length_append, cellsP_append]; exact h2⟩ hg hfr
    rw [List.length_append] at this
    exact this

/-- Two pairs compared. -/
theorem eqPair (a b c d : Int) (w : World) : (Op.equalIn 10000 63 (.agg #[.int .i64 a, .int .i64 b]) (.agg #[.int .i64 c, .int .i64 d])).run Try.prog w = .ok (a == c && b == d) w := by
  have u3 := Try.underlying3
  have a3 := Try.isAgg3
  have z3 := Try.sizeOf3
  rw [show (10000 : Nat) = 9999 + 1 from rfl, Op.equalIn]
  simp only [Sem.run_bind, run_underlying Try.underlying63, Result.andThen_ok]
  simp only [Std.Legacy.Range.forIn_eq_forIn_range', Std.Legacy.Range.size, Nat.sub_zero, Nat.add_sub_cancel, Nat.div_one, List.range'_succ, List.range'_zero, List.forIn_cons, List.forIn_nil]
  go_simp
  by_cases h1 : a = c <;> by_cases h2 : b = d <;> simp [h1, h2]

set_option maxHeartbeats 800000 in
theorem samePairs_any (p q : Option Addr) (c d b0 b1 : Nat) (xs : List (Nat × Nat)) (w : World) (hx : OwnP w b0 p c xs) (hy : OwnP w b1 q d xs) :
    Calls Try.prog 15 #[.slice p xs.length c, .slice q xs.length d] w fun e w' => e = .returned (.bool true) ∧ ∃ n, w' = w.drewN n := by
  have hl := hx.cap
  have he : ((xs.length : Int) != (xs.length : Int)) = false := by simp
  go_enter Try.func15, Try.ntmps15
  go_wp2_with fail
  go_loopw [5] (fun i wr => ∃ k : Nat, k ≤ xs.length ∧ i = .int .i64 k ∧ ∃ n, wr = w.drewN n) (fun i _ => xs.length - (intOf i).toNat)
  case atStart => exact ⟨0, by omega, rfl, drew_refl w⟩
  case round =>
    obtain ⟨k, hk, rfl, hw⟩ := hrel
    have hx := hx.drew hw
    have hy := hy.drew hw
    have Hw := Lib.hid hw
    clear hw
    by_cases hlt : k < xs.length
    · obtain ⟨g, rfl, _, _, c1, c2⟩ := hx.get hlt
      obtain ⟨g', rfl, _, _, c3, c4⟩ := hy.get hlt
      have hk1 : (k : Int) < xs.length := by omega
      generalize (pget xs k).1 = y0 at *
      generalize (pget xs k).2 = y1 at *
      have heq := eqPair y0 y1 y0 y1
      go_wp2_with fail
      go_quiet (fail)
      go_wp2_with fail
      go_roundw
      case rel => exact ⟨k + 1, by omega, by go_num, drew_drewN _ Hw.out⟩
      case measure => simp [intOf]; omega
    · have hk1 : ¬ (k : Int) < xs.length := by omega
      go_wp2_with fail
      go_ret
      exact ⟨rfl, Hw.out⟩
end Go.Proofs.Ytiohehofnlmenaa

/- Lists of the pairs, or numbers, of which a property holds, in order; who envies whom, who is burdened; no program. -/
namespace Go.Proofs.Ytiohehofnlmenaa
set_option linter.unusedVariables false
set_option linter.unusedSimpArgs false

def prRow (P : Nat → Nat → Bool) (m : Nat) : Nat → List (Nat × Nat)
  | 0 => []
  | k + 1 => prRow P m k ++ (if P m k then [(m, k)] else [])
def prTo (P : Nat → Nat → Bool) (n : Nat) : Nat → List (Nat × Nat)
  | 0 => []
  | m + 1 => prTo P n m ++ prRow P m n
theorem prRow_yes {P : Nat → Nat → Bool} {m k : Nat} (h : P m k = true) : prRow P m (k + 1) = prRow P m k ++ [(m, k)] := by simp [prRow, h]
theorem prRow_no {P : Nat → Nat → Bool} {m k : Nat} (h : P m k = false) : prRow P m (k + 1) = prRow P m k := by simp [prRow, h]
theorem prTo_succ (P : Nat → Nat → Bool) (n m : Nat) : prTo P n (m + 1) = prTo P n m ++ prRow P m n := rfl
theorem prRow_len (P : Nat → Nat → Bool) (m : Nat) : ∀ k, (prRow P m k).length ≤ k
  | 0 => by simp [prRow]
  | k + 1 => by
    have := prRow_len P m k
    rw [prRow, List.length_append]
    split <;> simp <;> omega
theorem prTo_len (P : Nat → Nat → Bool) (n : Nat) : ∀ m, (prTo P n m).length ≤ m * n
  | 0 => by simp [prTo]
  | m + 1 => by
    have h1 := prTo_len P n m
    have h2 := prRow_len P m n
    rw [prTo, List.length_append, Nat.add_mul]
    omega
theorem prRow_mem {P : Nat → Nat → Bool} {m : Nat} {x : Nat × Nat} : ∀ {k : Nat}, x ∈ prRow P m k ↔ x.1 = m ∧ x.2 < k ∧ P x.1 x.2 = true
  | 0 => by simp [prRow]
  | k + 1 => by
    rw [prRow, List.mem_append, prRow_mem]
    obtain ⟨a, b⟩ := x
    constructor
    · rintro (⟨h1, h2, h3⟩ | h)
      · exact ⟨h1, by omega, h3⟩
      · split at h
        · rename_i hp
          simp at h
          obtain ⟨rfl, rfl⟩ := h
          exact ⟨rfl, by simp, hp⟩
        · simp at h
    · rintro ⟨h1, h2, h3⟩
      simp only at h1 h2 h3
      subst h1
      by_cases hb : b = k
      · subst hb; right; rw [if_pos h3]; simp
      · left; exact ⟨rfl, by simp only; omega, h3⟩
theorem prTo_mem {P : Nat → Nat → Bool} {n : Nat} {x : Nat × Nat} : ∀ {m : Nat}, x ∈ prTo P n m ↔ x.1 < m ∧ x.2 < n ∧ P x.1 x.2 = true
  | 0 => by simp [prTo]
  | m + 1 => by
    rw [prTo, List.mem_append, prTo_mem, prRow_mem]
    constructor
    · rintro (⟨h1, h2, h3⟩ | ⟨h1, h2, h3⟩)
      · exact ⟨by omega, h2, h3⟩
      · exact ⟨by omega, h2, h3⟩
    · rintro ⟨h1, h2, h3⟩
      by_cases h : x.1 = m
      · exact .inr ⟨h, h2, h3⟩
      · exact .inl ⟨by omega, h2, h3⟩
theorem prRow_congr {P P' : Nat → Nat → Bool} {m : Nat} : ∀ {k : Nat}, (∀ j, j < k → P m j = P' m j) → prRow P m k = prRow P' m k
  | 0, _ => rfl
  | k + 1, h => by rw [prRow, prRow, prRow_congr fun j hj => h j (by omega), h k (by omega)]

/-- The numbers below m of which P holds. -/
def fUp (P : Nat → Bool) : Nat → List Int
  | 0 => []
  | m + 1 => fUp P m ++ (if P m then [(m : Int)] else [])
theorem fUp_yes {P : Nat → Bool} {m : Nat} (h : P m = true) : fUp P (m + 1) = fUp P m ++ [(m : Int)] := by simp [fUp, h]
theorem fUp_no {P : Nat → Bool} {m : Nat} (h : P m = false) : fUp P (m + 1) = fUp P m := by simp [fUp, h]
theorem fUp_len (P : Nat → Bool) : ∀ m, (fUp P m).length ≤ m
  | 0 => by simp [fUp]
  | m + 1 => by
    have := fUp_len P m
    rw [fUp, List.length_append]
    split <;> simp <;> omega
theorem fUp_mem {P : Nat → Bool} {x : Int} : ∀ {m : Nat}, x ∈ fUp P m ↔ ∃ i : Nat, x = i ∧ i < m ∧ P i = true
  | 0 => by simp [fUp]
  | m + 1 => by
    rw [fUp, List.mem_append, fUp_mem]
    constructor
    · rintro (⟨i, h1, h2, h3⟩ | h)
      · exact ⟨i, h1, by omega, h3⟩
      · split at h
        · rename_i hp
          simp at h
          exact ⟨m, h, by omega, hp⟩
        · simp at h
    · rintro ⟨i, h1, h2, h3⟩
      by_cases h : i = m
      · subst h; right; rw [if_pos h3]; simp [h1]
      · exact .inl ⟨i, h1, by omega, h3⟩

/-- Goods: i would rather have k's bundle. -/
def gP (v : List (List Int)) (a : List Int) (i k : Nat) : Bool := decide (worth v a i (i : Int) < worth v a i (k : Int))
/-- Chores: i would rather have k's bundle. -/
def cP (v : List (List Int)) (a : List Int) (i k : Nat) : Bool := decide (worth v a i (k : Int) < worth v a i (i : Int))
def envG (P : List (List Int) → List Int → Nat → Nat → Bool) (v : List (List Int)) (a : List Int) : List (Nat × Nat) := if chkA v a = 0 then prTo (P v a) v.length v.length else []
theorem envG_ok {P : List (List Int) → List Int → Nat → Nat → Bool} {v : List (List Int)} {a : List Int} (h : chkA v a = 0) : envG P v a = prTo (P v a) v.length v.length := by simp [envG, h]
theorem envG_err {P : List (List Int) → List Int → Nat → Nat → Bool} {v : List (List Int)} {a : List Int} (h : chkA v a ≠ 0) : envG P v a = [] := by simp [envG, h]

def sumUp (xs : List Int) : Nat → Int
  | 0 => 0
  | m + 1 => sumUp xs m + iget xs m
theorem sumUp_in {v : List (List Int)} (hg : Gds v) {i : Nat} (hi : i < v.length) : ∀ m, m ≤ wid v → 0 ≤ sumUp (rget v i) m ∧ sumUp (rget v i) m ≤ 1000 * m
  | 0, _ => by simp [sumUp]
  | m + 1, hm => by
    have h1 := sumUp_in hg hi m (by omega)
    have h2 := gds_bid hg hi (j := m) (by omega)
    rw [sumUp]; omega
def allG (v : List (List Int)) (i : Nat) : Int := sumUp (rget v i) (rget v i).length
/-- Chores: i bears more than its share. -/
def bP (v : List (List Int)) (a : List Int) (i : Nat) : Bool := decide (allG v i < worth v a i (i : Int) * v.length)
def burdL (v : List (List Int)) (a : List Int) : List Int := if chkA v a = 0 then fUp (bP v a) v.length else []
theorem burdL_ok {v : List (List Int)} {a : List Int} (h : chkA v a = 0) : burdL v a = fUp (bP v a) v.length := by simp [burdL, h]
theorem burdL_err {v : List (List Int)} {a : List Int} (h : chkA v a ≠ 0) : burdL v a = [] := by simp [burdL, h]
/-- Chores: i would not rather have k's bundle, were its own chore x left out. -/
def contB (v : List (List Int)) (a : List Int) (i k : Nat) (x : Int) : Bool :=
  decide (worth v a i (i : Int) - (if 0 ≤ x ∧ iget a x.toNat = (i : Int) then iget (rget v i) x.toNat else 0) ≤ worth v a i (k : Int))
theorem contB_none (v : List (List Int)) (a : List Int) (i k : Nat) : contB v a i k (-1) = !cP v a i k := by
  unfold contB cP
  rw [if_neg (by omega), Bool.eq_iff_iff]
  simp
end Go.Proofs.Ytiohehofnlmenaa

/- The walks of goods.Envies and chores.Envies, for every goods and allocation; no condition.  (Printed by wip/genenv.py.) -/
namespace Go.Proofs.Ytiohehofnlmenaa
set_option linter.unusedVariables false
set_option linter.unusedSimpArgs false
open Go.ChangeShapes Go.WideShapes Go.ChangeAt Go.RowKit Go.Deep

/-- A list of pairs, and an error. -/
def GivesQ (w : World) (xs : List (Nat × Nat)) (k : Int) (e : Ending) (w' : World) : Prop :=
  ∃ p c, e = .returned (.tuple #[.slice p xs.length c, .int .i64 k]) ∧ OwnP w' w.heap.size p c xs ∧ Below w.heap.size w w'


set_option maxHeartbeats 8000000 in
set_option maxRecDepth 100000 in
theorem choresEnvies_any (p : Option Addr) (c : Nat) (v : List (List Int)) (q : Option Addr) (d : Nat) (a : List Int) (w : World) (hx : Mat w p c v) (hi : Ints w q d a) :
    Calls Try.prog 11 #[.agg #[.slice p v.length c], .slice q a.length d] w (GivesQ w (envG cP v a) (chkA v a)) := by
  obtain ⟨W0, hW0⟩ : ∃ W0, w.alloc (.cells #[.slice p v.length c] 24) = W0 := ⟨_, rfl⟩
  have hB : Below w.heap.size w W0 := below_alloc hW0
  have bX : BoxV W0 w.heap.size [.slice p v.length c] := BoxV.new rfl hW0
  have hx := hx.below hB (Nat.le_refl _)
  have hi := hi.below hB (Nat.le_refl _)
  have x0 := bX.cell 0 _ rfl
  have HW0 := Lib.hid hW0
  clear hW0
  have hl1 := hx.length_le
  have hl2 := hi.length_le
  go_enter Try.func11, Try.ntmps11
  go_wp2_with fail
  rw [HW0.out]
  refine (goodsValues_any p c v q d a _ hx hi).mono ?_
  rintro e w1 ⟨pv, cv, rfl, mV, hb1⟩
  have hB := hB.trans (hb1.mono hB.size)
  by_cases hF : chkA v a = 0
  · have HL := Lib.hid (envG_ok (P := cP) hF)
    have HF := Lib.hid hF
    rw [valsL_ok hF] at mV
    rw [valsL_ok hF, valsG_len, hF]
    obtain ⟨hg, ha⟩ := chkA_zero.1 hF
    have h0 : 0 < v.length := hg.1
    have h6 := hg.2.1
    obtain ⟨B1, hB1⟩ : ∃ B1, w1.heap.size = B1 := ⟨_, rfl⟩
    have Hg := Lib.hid hg
    have Ha := Lib.hid ha
    have HB1 := Lib.hid hB1
    have HB := Lib.hid hB
    obtain ⟨bv, ov, rfl, hbv, _, _, _, _⟩ := mV.get (j := 0) (by rw [valsG_len]; exact h0)
    rw [hB1] at hbv
    clear hg ha hF hb1 hB hB1
    go_wp2_with fail
    go_loopw [8, 24] (fun s t wr => ∃ m : Nat, m ≤ v.length ∧ t = .int .i64 m ∧ (∃ zs q d, Hid (zs = prTo (cP v a) v.length m) ∧ s = .slice q (zs : List (Nat × Nat)).length d ∧ OwnP wr B1 q d zs) ∧ Below B1 w1 wr) (fun _ t _ => v.length - (intOf t).toNat)
    case atStart => exact ⟨0, Nat.zero_le _, rfl, ⟨[], none, 0, rfl, rfl, OwnP.ofNil _ _⟩, Below.refl _ _⟩
    case round =>
      obtain ⟨m, hm, rfl, ⟨zs, qz, dz, hz, rfl, hO⟩, hbr⟩ := hrel
      by_cases hlt : m < v.length
      · have hm1 : (m : Int) < v.length := by omega
        obtain ⟨qm, dm, hc, hI⟩ := mV.at (j := m) (by rw [valsG_len]; exact hlt)
        rw [valsG_row hlt] at hc hI
        rw [worthRow_len] at hc
        have hc := (hbr.cell (p := ⟨bv, ov + m, none⟩) hbv).trans hc
        have hz1 := hz.out
        go_wp2_with fail
        go_loopw [8, 31] (fun s t wk => ∃ k : Nat, k ≤ v.length ∧ t = .int .i64 k ∧ (∃ ys q d, Hid (ys = prTo (cP v a) v.length m ++ prRow (cP v a) m k) ∧ s = .slice q (ys : List (Nat × Nat)).length d ∧ OwnP wk B1 q d ys) ∧ Below B1 w1 wk) (fun _ t _ => v.length - (intOf t).toNat)
        case atStart => exact ⟨0, Nat.zero_le _, rfl, ⟨zs, qz, dz, by unfold Hid; rw [prRow, List.append_nil]; exact hz1, rfl, hO⟩, hbr⟩
        case round =>
          clear hO hz1 hz hc hbr
          obtain ⟨k, hk, rfl, ⟨ys, qy, dy, hy, rfl, hO⟩, hbk⟩ := hrel
          have hszk := hbk.size
          rw [HB1.out] at hszk
          by_cases hkl : k < v.length
          · have hk1 : (k : Int) < v.length := by omega
            have hIk := hI.below hbk (Nat.le_of_eq HB1.out)
            obtain ⟨b2, o2, rfl, _, hc2⟩ := hIk.get (j := k) (by rw [worthRow_len]; exact hkl)
            have hc3 := hIk.at (j := m) (by rw [worthRow_len]; exact hlt)
            rw [worthRow_get hkl] at hc2
            rw [worthRow_get hlt] at hc3
            have hyl : ys.length ≤ 900000 := by
              rw [hy.out, List.length_append]
              have h1 := prTo_len (cP v a) v.length m
              have h2 := prRow_len (cP v a) m k
              have h3 : m * v.length ≤ 6 * 6 := Nat.mul_le_mul (by omega) h6
              omega
            have hP : cP v a m k = decide (worth v a m (k : Int) < worth v a m (m : Int)) := rfl
            have HR1 := Lib.hid (show cP v a m k = true → _ from fun h => prRow_yes (P := cP v a) (m := m) (k := k) h)
            have HR2 := Lib.hid (show cP v a m k = false → _ from fun h => prRow_no (P := cP v a) (m := m) (k := k) h)
            obtain ⟨y, ey⟩ : ∃ y, worth v a m (k : Int) = y := ⟨_, rfl⟩
            obtain ⟨z, ez⟩ : ∃ z, worth v a m (m : Int) = z := ⟨_, rfl⟩
            rw [ey] at hc2 hP
            rw [ez] at hc3 hP
            clear ey ez hIk
            cases hd : decide (y < z) with
            | true =>
              have HR := Lib.hid (HR1.out (hP.trans hd))
              have HO := Lib.hid hO
              clear hP hO
              go_wp2_with (at_builtin; refine wpList_appP rfl (.tmp 42) (.tmp 46) rfl B1 _ _ ys m k rfl rfl rfl HO.out hyl hszk ?_; intro p3 c3 w3 u3 hu3 hO3 hg3 hf3)
              go_roundw
              case rel => exact ⟨k + 1, by omega, by go_num, ⟨u3, _, _, by unfold Hid; rw [hu3.out, hy.out, HR.out, List.append_assoc], rfl, hO3⟩, hbk.grown hg3 hszk (fun k' e => (HO.out.lt k' e).1)⟩
              case measure => simp [intOf]; omega
            | false =>
              have HR := Lib.hid (HR2.out (hP.trans hd))
              have HO := Lib.hid hO
              clear hP hO
              go_wp2_with fail
              go_roundw
              case rel => exact ⟨k + 1, by omega, by go_num, ⟨ys, _, _, by unfold Hid; rw [hy.out, HR.out], rfl, HO.out⟩, hbk⟩
              case measure => simp [intOf]; omega
          · have hk1 : ¬ (k : Int) < v.length := by omega
            obtain rfl : k = v.length := by omega
            have HS := Lib.hid (prTo_succ (cP v a) v.length m)
            go_wp2_with fail
            go_roundw
            case rel => exact ⟨m + 1, by omega, by go_num, ⟨ys, _, _, by unfold Hid; rw [hy.out, HS.out], rfl, hO⟩, hbk⟩
            case measure => simp [intOf]; omega
      · have hm1 : ¬ (m : Int) < v.length := by omega
        obtain rfl : m = v.length := by omega
        have hzr := hz.out
        subst hzr
        have hsz := HB.out.size
        go_wp2_with fail
        go_ret2
        rw [HL.out, HF.out]
        exact ⟨qz, dz, rfl, hO.lower (by have := HB1.out; omega), HB.out.trans (hbr.mono (by have := HB1.out; omega))⟩
  · have HL := Lib.hid (envG_err (P := cP) hF)
    have hz : (chkA v a != 0) = true := by rw [bne_iff_ne]; exact hF
    clear hF
    go_wp2_with fail
    go_ret2
    rw [HL.out]
    exact ⟨none, 0, rfl, OwnP.ofNil _ _, hB⟩
end Go.Proofs.Ytiohehofnlmenaa
