/- The walks of chores.Circle and of the reference's Circle, for every chores and allocation; no condition. -/
import Derived.Test.YtiohehofnlmenaaCircA
namespace Go.Proofs.Ytiohehofnlmenaa
set_option linter.unusedVariables false
set_option linter.unusedSimpArgs false
open Go.ChangeShapes Go.WideShapes Go.ChangeAt Go.RowKit Go.Deep

/-- The top circle of an allocation. -/
noncomputable def topG (v : List (List Int)) (a : List Int) : List Int := topL (bestF (valsG v a)) v.length
noncomputable def circL (v : List (List Int)) (a : List Int) : List Int := if chkA v a = 0 then topG v a else []
theorem circL_ok {v : List (List Int)} {a : List Int} (h : chkA v a = 0) : circL v a = topG v a := by simp [circL, h]
theorem circL_err {v : List (List Int)} {a : List Int} (h : chkA v a ≠ 0) : circL v a = [] := by simp [circL, h]

set_option maxHeartbeats 4000000 in
set_option maxRecDepth 100000 in
theorem choresCircle_any (p : Option Addr) (c : Nat) (v : List (List Int)) (q : Option Addr) (d : Nat) (a : List Int) (w : World) (hx : Mat w p c v) (hi : Ints w q d a) :
    Calls Try.prog 19 #[.agg #[.slice p v.length c], .slice q a.length d] w (Gives2 w (circL v a) (chkA v a)) := by
  obtain ⟨W0, hW0⟩ : ∃ W0, w.alloc (.cells #[.slice p v.length c] 24) = W0 := ⟨_, rfl⟩
  have hB : Below w.heap.size w W0 := below_alloc hW0
  have bX : BoxV W0 w.heap.size [.slice p v.length c] := BoxV.new rfl hW0
  have hx := hx.below hB (Nat.le_refl _)
  have hi := hi.below hB (Nat.le_refl _)
  have x0 := bX.cell 0 _ rfl
  have HW0 := Lib.hid hW0
  clear hW0
  have hl1 := hx.length_le
  have hl2 := hi.length_le
  go_enter Try.func19, Try.ntmps19
  go_wp2_with fail
  rw [HW0.out]
  by_cases hF : chkA v a = 0
  · have HL := Lib.hid (circL_ok hF)
    have HF := Lib.hid hF
    have C2 := goodsValues_any p c v q d a _ hx hi
    rw [valsL_ok hF, hF] at C2
    obtain ⟨hg, ha⟩ := chkA_zero.1 hF
    have h0 := hg.1
    have h6 := hg.2.1
    clear hF hg ha
    refine C2.mono ?_
    rintro e w1 ⟨pv, cv, rfl, mV, hb1⟩
    have hlV := valsG_len v a
    have HC := circle_any pv cv (valsG v a) w1 mV (by omega) (by omega) (fun i hi => by rw [hlV] at hi ⊢; rw [valsG_row hi, worthRow_len])
    rw [hlV] at HC ⊢
    have HC := Lib.hid HC
    clear hlV C2
    go_wp2_with fail
    refine HC.out.mono ?_
    rintro e w2 ⟨p2, c2, rfl, hO, hb2⟩
    go_wp2_with fail
    go_ret2
    rw [HL.out, HF.out]
    have hs1 := (hB.trans (hb1.mono hB.size)).size
    exact ⟨p2, c2, rfl, hO.lower hs1, (hB.trans (hb1.mono hB.size)).trans (hb2.mono hs1)⟩
  · have HL := Lib.hid (circL_err hF)
    have C2 := goodsValues_any p c v q d a _ hx hi
    rw [valsL_err hF] at C2
    have hz : (chkA v a != 0) = true := by rw [bne_iff_ne]; exact hF
    clear hF
    refine C2.mono ?_
    rintro e w1 ⟨pv, cv, rfl, mV, hb1⟩
    go_wp2_with fail
    go_ret2
    rw [HL.out]
    exact ⟨none, 0, rfl, Own.ofNil _ _, hB.trans (hb1.mono hB.size)⟩

/-- The least number of the first k + 1 from z on. -/
def lowIt (f : Nat → Nat) (z : Nat) : Nat → Nat
  | 0 => z
  | k + 1 => min (lowIt f z k) (itN f (k + 1) z)
theorem lowIt_le (f : Nat → Nat) (z : Nat) : ∀ k j, j ≤ k → lowIt f z k ≤ itN f j z
  | 0, j, h => by obtain rfl : j = 0 := by omega
                  exact Nat.le_refl _
  | k + 1, j, h => by
    rw [lowIt]
    by_cases e : j = k + 1
    · subst e; omega
    · have := lowIt_le f z k j (by omega); omega
theorem lowIt_mem (f : Nat → Nat) (z : Nat) : ∀ k, ∃ j, j ≤ k ∧ lowIt f z k = itN f j z
  | 0 => ⟨0, Nat.le_refl _, rfl⟩
  | k + 1 => by
    obtain ⟨j, hj, he⟩ := lowIt_mem f z k
    rw [lowIt]
    by_cases h : lowIt f z k ≤ itN f (k + 1) z
    · exact ⟨j, by omega, by omega⟩
    · exact ⟨k + 1, by omega, by omega⟩
theorem top_of_low {f : Nat → Nat} {n : Nat} (hf : ∀ x, x < n → f x < n) (h0 : 0 < n) :
    ∃ L, 1 ≤ L ∧ L ≤ n ∧ Per f (lowIt f (itN f (2 * n) 0) n) L ∧ topL f n = if L = 1 then [] else orb f (lowIt f (itN f (2 * n) 0) n) L := by
  obtain ⟨M, hM1, hMn, hM⟩ := it_back hf h0
  obtain ⟨L, hL, hP⟩ := per_ex hM1 hM
  have hz : itN f (2 * n) 0 = itN f n (itN f n 0) := by rw [← itN_add]; congr 1; omega
  have hPz : Per f (itN f (2 * n) 0) L := by rw [hz]; exact per_any hP n
  obtain ⟨j, hj, he⟩ := lowIt_mem f (itN f (2 * n) 0) n
  have hPm : Per f (lowIt f (itN f (2 * n) 0) n) L := by rw [he]; exact per_any hPz j
  refine ⟨L, hP.1, by omega, hPm, topL_eq ⟨_, L, hPm, ⟨2 * n + j, by omega, by rw [he, itN_add]⟩, fun k => ?_, rfl⟩⟩
  have e1 : itN f k (lowIt f (itN f (2 * n) 0) n) = itN f ((j + k) % L) (itN f (2 * n) 0) := by rw [he, ← itN_add, per_mod hPz]
  rw [e1]
  exact lowIt_le f _ n _ (by have := Nat.mod_lt (j + k) (show 0 < L from hP.1); omega)
theorem favI_best {v : List (List Int)} {a : List Int} {i : Nat} (hi : i < v.length) : favI v a i = (bestF (valsG v a) i : Int) := by
  have hl := valsG_len v a
  have h1 := bestF_eq (v := valsG v a) (i := i) (by omega)
  rw [hl, valsG_row hi] at h1
  exact h1
set_option maxHeartbeats 8000000 in
set_option maxRecDepth 100000 in
theorem ref24top_any (p : Option Addr) (c : Nat) (v : List (List Int)) (q : Option Addr) (d : Nat) (a : List Int) (w : World) (hx : Mat w p c v) (hi : Ints w q d a) (hg : Gds v) (ha : AlcOk v a) :
    Calls Try.prog 44 #[.agg #[.slice p v.length c], .slice q a.length d] w (Gives w (topG v a)) := by
  obtain ⟨W0, hW0⟩ : ∃ W0, w.alloc (.cells #[.slice p v.length c] 24) = W0 := ⟨_, rfl⟩
  have hB : Below w.heap.size w W0 := below_alloc hW0
  have bX : BoxV W0 w.heap.size [.slice p v.length c] := BoxV.new rfl hW0
  have hx := hx.below hB (Nat.le_refl _)
  have hi := hi.below hB (Nat.le_refl _)
  have x0 := bX.cell 0 _ rfl
  have HW0 := Lib.hid hW0
  clear hW0
  have hl1 := hx.length_le
  have hl2 := hi.length_le
  have h0 := hg.1
  have h6 := hg.2.1
  have hlV := valsG_len v a
  have hbl : ∀ y, y < v.length → bestF (valsG v a) y < v.length := fun y _ => by
    have := bestF_lt (v := valsG v a) (i := y) (by omega)
    omega
  have CF := Lib.hid (fun (i : Nat) W (h : i < v.length) hX hI => favI_best (a := a) h ▸ favourite_any p c v q d a i W hX hI hg ha h)
  obtain ⟨L, h1L, hLn, hper, htop⟩ := top_of_low hbl h0
  have HT : Hid (topG v a = topL (bestF (valsG v a)) v.length) := rfl
  obtain ⟨f, hf⟩ : ∃ f, bestF (valsG v a) = f := ⟨_, rfl⟩
  rw [hf] at hbl hper htop HT
  simp only [hf] at CF
  have Hit := Lib.hid (fun k => itN_lt hbl k 0 h0)
  have Hbl := Lib.hid hbl
  have Hst : Hid (∀ k x, itN f (k + 1) x = f (itN f k x)) := fun k x => rfl
  have Hz0 : Hid (∀ x, itN f 0 x = x) := fun x => rfl
  have Hper := Lib.hid hper
  have Htop := Lib.hid htop
  clear hf hlV hbl hper htop hg ha
  go_enter Try.func44, Try.ntmps44
  go_wp2_with fail
  rw [HW0.out]
  go_loopw [5, 6] (fun s t wr => ∃ k : Nat, k ≤ 2 * v.length ∧ t = .int .i64 k ∧ s = .int .i64 (itN f k 0 : Nat) ∧ Below W0.heap.size W0 wr) (fun _ t _ => 2 * v.length - (intOf t).toNat)
  case atStart => exact ⟨0, Nat.zero_le _, rfl, by rw [Hz0.out]; rfl, Below.refl _ _⟩
  case round =>
    clear x0
    obtain ⟨k, hk, rfl, rfl, hbr⟩ := hrel
    have bXr := bX.below hbr
    have x0 := bXr.cell 0 _ rfl
    by_cases hlt : k < 2 * v.length
    · have hk1 : (k : Int) < 2 * (v.length : Int) := by omega
      have hy := Hit.out k
      have HS := Lib.hid (Hst.out k 0)
      obtain ⟨y, ey⟩ : ∃ y, itN f k 0 = y := ⟨_, rfl⟩
      rw [ey] at hy HS
      rw [ey]
      clear ey
      have HC := Lib.hid (CF.out y wr hy (hx.below hbr (Nat.le_refl _)) (hi.below hbr (Nat.le_refl _)))
      go_wp2_with fail
      refine HC.out.mono ?_
      rintro e w' ⟨rfl, hb2⟩
      go_wp2_with fail
      go_roundw
      case rel => exact ⟨k + 1, by omega, by go_num, by rw [HS.out], hbr.trans (hb2.mono hbr.size)⟩
      case measure => (simp [intOf] <;> omega)
    · have hk1 : ¬ (k : Int) < 2 * (v.length : Int) := by omega
      obtain rfl : k = 2 * v.length := by omega
      have hz := Hit.out (2 * v.length)
      obtain ⟨z, ez⟩ : ∃ z, itN f (2 * v.length) 0 = z := ⟨_, rfl⟩
      rw [ez] at hz Hper Htop ⊢
      rw [show ((2 * v.length : Nat) : Int) = 2 * (v.length : Int) by omega]
      have Hi2 := Lib.hid (fun k => itN_lt Hbl.out k z hz)
      have Hlow : Hid (∀ k, lowIt f z (k + 1) = min (lowIt f z k) (itN f (k + 1) z)) := fun k => rfl
      have Hlow0 : Hid (lowIt f z 0 = z) := rfl
      have Hlm := Lib.hid (fun k => lowIt_mem f z k)
      clear ez hk hlt hk1
      obtain ⟨wo, hwo⟩ : ∃ wo, wr = wo := ⟨_, rfl⟩
      rw [hwo] at hbr bXr x0 ⊢
      clear hwo
      go_wp2_with fail
      go_loopw [5, 7, 8] (fun s u t wr => ∃ k : Nat, k ≤ v.length ∧ t = .int .i64 k ∧ s = .int .i64 (itN f k z : Nat) ∧ u = .int .i64 (lowIt f z k : Nat) ∧ Below W0.heap.size W0 wr) (fun _ _ t _ => v.length - (intOf t).toNat)
      case atStart => exact ⟨0, Nat.zero_le _, rfl, by rw [Hz0.out], by rw [Hlow0.out], hbr⟩
      case round =>
        clear x0 bXr hbr
        obtain ⟨k, hk, rfl, rfl, rfl, hbr⟩ := hrel
        have bXr := bX.below hbr
        have x0 := bXr.cell 0 _ rfl
        by_cases hlt : k < v.length
        · have hk1 : (k : Int) < (v.length : Int) := by omega
          have hy := Hi2.out k
          have HS := Lib.hid (Hst.out k z)
          have HL := Lib.hid (Hlow.out k)
          have hy2 := Hi2.out (k + 1)
          have hl : lowIt f z k < v.length := by obtain ⟨j, _, e⟩ := Hlm.out k; rw [e]; exact Hi2.out j
          obtain ⟨y, ey⟩ : ∃ y, itN f k z = y := ⟨_, rfl⟩
          obtain ⟨y2, ey2⟩ : ∃ y, itN f (k + 1) z = y := ⟨_, rfl⟩
          obtain ⟨m, em⟩ : ∃ y, lowIt f z k = y := ⟨_, rfl⟩
          rw [ey, ey2] at HS
          rw [ey] at hy
          rw [ey2] at hy2
          rw [em, ey2] at HL
          rw [em] at hl
          rw [ey, em]
          have E2 := Lib.hid ey2
          have HC := CF.out y wr hy (hx.below hbr (Nat.le_refl _)) (hi.below hbr (Nat.le_refl _))
          rw [← HS.out] at HC
          have HC := Lib.hid HC
          clear ey ey2 em
          by_cases hmy : m ≤ y2
          · have e1 : min m y2 = m := by omega
            have e2 : min (m : Int) (y2 : Int) = (m : Int) := by omega
            rw [e1] at HL
            go_wp2_with fail
            refine HC.out.mono ?_
            rintro e w' ⟨rfl, hb2⟩
            go_wp2_with fail
            go_roundw
            case rel => exact ⟨k + 1, by omega, by go_num, by rw [E2.out], by rw [HL.out] <;> first | rfl | (congr 1; omega), hbr.trans (hb2.mono hbr.size)⟩
            case measure => (simp [intOf] <;> omega)
          · have e1 : min m y2 = y2 := by omega
            have e2 : min (m : Int) (y2 : Int) = (y2 : Int) := by omega
            rw [e1] at HL
            go_wp2_with fail
            refine HC.out.mono ?_
            rintro e w' ⟨rfl, hb2⟩
            go_wp2_with fail
            go_roundw
            case rel => exact ⟨k + 1, by omega, by go_num, by rw [E2.out], by rw [HL.out] <;> first | rfl | (congr 1; omega), hbr.trans (hb2.mono hbr.size)⟩
            case measure => (simp [intOf] <;> omega)
        · have hk1 : ¬ (k : Int) < (v.length : Int) := by omega
          obtain rfl : k = v.length := by omega
          have hm : lowIt f z v.length < v.length := by obtain ⟨j, _, e⟩ := Hlm.out v.length; rw [e]; exact Hi2.out j
          obtain ⟨m, em⟩ : ∃ m, lowIt f z v.length = m := ⟨_, rfl⟩
          obtain ⟨y0, ey0⟩ : ∃ m, itN f v.length z = m := ⟨_, rfl⟩
          rw [em] at hm Hper Htop
          rw [em, ey0]
          have Hi3 := Lib.hid (fun k => itN_lt Hbl.out k m hm)
          have Hos : Hid (∀ k, orb f m (k + 1) = orb f m k ++ [(itN f k m : Int)]) := fun k => orb_succ
          have Hol := Lib.hid (fun k => orb_len f m k)
          have Ho1 : Hid (orb f m 1 = [(m : Int)]) := rfl
          clear em ey0 hk hlt hk1
          obtain ⟨W1, hW1⟩ : ∃ W1, wr.alloc (.cells #[.int .i64 (m : Int)] 3) = W1 := ⟨_, rfl⟩
          have hb1 : Below wr.heap.size wr W1 := below_alloc hW1
          have hsz1 : W0.heap.size ≤ wr.heap.size := hbr.size
          have hO1 : Own W1 W0.heap.size (some ⟨wr.heap.size, 0, none⟩) 1 [(m : Int)] := by
            rw [← hW1]
            exact Own.lit wr W0.heap.size hsz1 [(m : Int)] (by simp) (fun j hj => by simp at hj; subst hj; show in64 (m : Int); exact ⟨by omega, by omega⟩)
          have hbw : Below W0.heap.size W0 W1 := hbr.trans (hb1.mono hsz1)
          have bX1 := bX.below hbw
          have x1 := bX1.cell 0 _ rfl
          have HW1 := Lib.hid hW1
          have HC := Lib.hid (CF.out m W1 hm (hx.below hbw (Nat.le_refl _)) (hi.below hbw (Nat.le_refl _)))
          have Hf1 : Hid (f m = itN f 1 m) := rfl
          have x1a : (wr.alloc (.cells #[.int .i64 (m : Int)] 3)).cell? ⟨w.heap.size, 0, none⟩ = some (.slice p v.length c) := by rw [hW1]; exact x1
          clear hW1 bXr
          obtain ⟨B1, hB1⟩ : ∃ B1, wr.heap.size = B1 := ⟨_, rfl⟩
          have HB1 := Lib.hid hB1
          rw [hB1] at hO1
          clear hB1
          go_wp2_with fail
          rw [HW1.out, HB1.out]
          refine HC.out.mono ?_
          rintro e w2 ⟨rfl, hb2⟩
          have hsz2 := hbw.size
          go_wp2_with fail
          go_loopw [5, 9] (fun s t wr => ∃ k : Nat, 1 ≤ k ∧ k ≤ L ∧ s = .int .i64 (itN f k m : Nat) ∧ (∃ zs qz dz, Hid (zs = orb f m k) ∧ t = .slice qz (zs : List Int).length dz ∧ Own wr W0.heap.size qz dz zs) ∧ Below W0.heap.size W0 wr) (fun _ t _ => L - lenV t)
          case atStart => exact ⟨1, Nat.le_refl _, h1L, by rw [Hf1.out], ⟨[(m : Int)], _, _, Ho1.out.symm, rfl, hO1.below hb2 (Nat.le_refl _)⟩, hbw.trans (hb2.mono hsz2)⟩
          case round =>
            clear x0 x1 x1a bX1 hbr hbw hb1 hb2
            obtain ⟨k, hk0, hk, rfl, ⟨zs, qz, dz, hz2, rfl, hO⟩, hbr⟩ := hrel
            have bXr := bX.below hbr
            have x0 := bXr.cell 0 _ rfl
            have hzl : zs.length = k := by rw [hz2.out]; exact Hol.out k
            by_cases hlt : k < L
            · have hne : itN f k m ≠ m := Hper.out.2.2 k hk0 hlt
              have hy := Hi3.out k
              have HS := Lib.hid (Hst.out k m)
              have HO := Lib.hid (Hos.out k)
              obtain ⟨y, ey⟩ : ∃ y, itN f k m = y := ⟨_, rfl⟩
              rw [ey] at hy HS hne HO
              rw [ey]
              have hb : ((y : Int) != (m : Int)) = true := by rw [bne_iff_ne]; omega
              have hyi : in64 (y : Int) := ⟨by omega, by omega⟩
              have hsz3 := hbr.size
              have Hzl := Lib.hid hzl
              have hz9 : zs.length ≤ 900000 := by omega
              clear ey hzl hne
              go_wp2_with (at_builtin; refine wpList_app1 rfl (.tmp 50) (.tmp 52) rfl W0.heap.size _ _ zs (y : Int) rfl rfl rfl hO hyi hz9 hsz3 ?_; intro p3 c3 w3 u3 hu3 hO3 hg3 hf3; have hbw := hbr.grown hg3 hsz3 (fun k' e => (hO.lt k' e).1); have x3 := (bX.below hbw).cell 0 _ rfl; have HC2 := Lib.hid (CF.out y w3 hy (hx.below hbw (Nat.le_refl _)) (hi.below hbw (Nat.le_refl _))))
              refine HC2.out.mono ?_
              rintro e w' ⟨rfl, hb4⟩
              go_wp2_with fail
              go_roundw
              case rel => exact ⟨k + 1, by omega, by omega, by rw [HS.out], ⟨u3, _, _, by unfold Hid; rw [hu3.out, hz2.out, HO.out], rfl, hO3.below hb4 (Nat.le_refl _)⟩, hbw.trans (hb4.mono hbw.size)⟩
              case measure => have e3 : u3.length = k + 1 := by rw [hu3.out, List.length_append, Hzl.out]; rfl
                              have e4 := Hzl.out
                              simp only [lenV]; omega
            · have hkL : k = L := by omega
              subst hkL
              have hper := Hper.out.2.1
              rw [hper]
              have hb : ((m : Int) != (m : Int)) = false := by simp
              have Hzl := Lib.hid hzl
              by_cases hL1 : k = 1
              · have hb2 : ((zs.length : Int) == 1) = true := by rw [beq_iff_eq]; omega
                have HT2 : Hid (topG v a = []) := by unfold Hid; rw [HT.out, Htop.out, if_pos hL1]
                clear hL1 hzl hper
                go_wp2_with fail
                go_ret
                rw [HT2.out]
                exact ⟨none, 0, rfl, Own.ofNil _ _, hB.trans (hbr.mono hB.size)⟩
              · have hb2 : ((zs.length : Int) == 1) = false := by rw [beq_eq_false_iff_ne]; omega
                have HT2 : Hid (topG v a = orb f m k) := by unfold Hid; rw [HT.out, Htop.out, if_neg hL1]
                clear hL1 hzl hper
                go_wp2_with fail
                go_ret
                rw [HT2.out, ← hz2.out]
                exact ⟨_, _, rfl, hO.lower hB.size, hB.trans (hbr.mono hB.size)⟩
end Go.Proofs.Ytiohehofnlmenaa
