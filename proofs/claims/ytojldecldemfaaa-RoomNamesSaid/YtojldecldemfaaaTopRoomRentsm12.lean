/- The walk of room.Valid, for every flat and lease; no condition but the lists' sizes. -/
import Derived.Test.YtojldecldemfaaaTopRoomRentsm10
import Derived.Test.YtojldecldemfaaaTopRoomRentsm11
import Derived.Test.YtojldecldemfaaaTopRoomRentsm9
import Derived.Test.YtojldecldemfaaaTopRoomRentsm6
/- The walk of room.Valid, for every flat and lease; no condition but the lists' sizes. -/
namespace Go.Proofs.Ytojldecldemfaaa
set_option linter.unusedVariables false
set_option linter.unusedSimpArgs false
open Go.ChangeShapes Go.WideShapes Go.ChangeAt Go.RowKit Go.Deep

/-- The first k prices are small. -/
def PriceOk (z : Int) (ps : List Int) (k : Nat) : Prop := ∀ i, i < k → -10000000 * z ≤ iget ps i ∧ iget ps i ≤ 10000000 * z
instance (z : Int) (ps : List Int) (k : Nat) : Decidable (PriceOk z ps k) := by unfold PriceOk; infer_instance
/-- The lease is valid, in a valid flat. -/
def VldP (v : List (List Int)) (r : Int) (al ps : List Int) (z : Int) : Prop := IsA al v.length ∧ 1 ≤ z ∧ z ≤ 60 ∧ ps.length = v.length ∧ PriceOk z ps ps.length ∧ sumTo (iget ps) ps.length = r * z
instance (v : List (List Int)) (r : Int) (al ps : List Int) (z : Int) : Decidable (VldP v r al ps z) := by unfold VldP; infer_instance
def vldR (v : List (List Int)) (r : Int) (al ps : List Int) (z : Int) : Int := if chkR v r = 0 then (if VldP v r al ps z then 0 else 8) else chkR v r
theorem vld_bad {v : List (List Int)} {r : Int} {al ps : List Int} {z : Int} (h : ¬ chkR v r = 0) : vldR v r al ps z = chkR v r := if_neg h
theorem vld_off {v : List (List Int)} {r : Int} {al ps : List Int} {z : Int} (h : chkR v r = 0) (h2 : ¬ VldP v r al ps z) : vldR v r al ps z = 8 := by unfold vldR; rw [if_pos h, if_neg h2]
theorem vld_ok {v : List (List Int)} {r : Int} {al ps : List Int} {z : Int} (h : chkR v r = 0) (h2 : VldP v r al ps z) : vldR v r al ps z = 0 := by unfold vldR; rw [if_pos h, if_pos h2]
theorem vld_zero {v : List (List Int)} {r : Int} {al ps : List Int} {z : Int} : vldR v r al ps z = 0 ↔ chkR v r = 0 ∧ VldP v r al ps z := by
  constructor
  · intro h
    by_cases hc : chkR v r = 0
    · by_cases hv : VldP v r al ps z
      · exact ⟨hc, hv⟩
      · rw [vld_off hc hv] at h; cases h
    · rw [vld_bad hc] at h; exact absurd h hc
  · rintro ⟨h1, h2⟩; exact vld_ok h1 h2
theorem price_sum {z : Int} {ps : List Int} {n : Nat} (hz : z ≤ 60) (hn : n ≤ 6) (h : PriceOk z ps n) : -3600000000 ≤ sumTo (iget ps) n ∧ sumTo (iget ps) n ≤ 3600000000 := by
  have : -(600000000 * (n : Int)) ≤ sumTo (iget ps) n ∧ sumTo (iget ps) n ≤ 600000000 * n := by
    clear hn
    induction n with
    | zero => simp [sumTo]
    | succ k ih =>
      have h1 := ih (fun i hi => h i (by omega))
      have h2 := h k (by omega)
      simp only [sumTo]
      omega
  omega
theorem rz_bd {r z : Int} (hr1 : 0 ≤ r) (hr2 : r ≤ 10000000) (hz1 : 1 ≤ z) (hz2 : z ≤ 60) : 0 ≤ r * z ∧ r * z ≤ 600000000 := by
  have h1 : r * z ≤ 10000000 * z := Int.mul_le_mul_of_nonneg_right hr2 (by omega)
  exact ⟨Int.mul_nonneg hr1 (by omega), by omega⟩

set_option maxHeartbeats 8000000 in
set_option maxRecDepth 100000 in
theorem roomValid_any (p q s : Option Addr) (c d f : Nat) (v : List (List Int)) (r : Int) (al ps : List Int) (z : Int) (w : World) (hx : Mat w p c v) (hy : Ints w q d al) (hz : Ints w s f ps) (hl : al.length ≤ 1000000) :
    Calls Try.prog 25 #[.agg #[.slice p v.length c, .int .i64 r], .agg #[.slice q al.length d, .slice s ps.length f, .int .i64 z]] w fun e w' => e = .returned (.int .i64 (vldR v r al ps z)) ∧ Below w.heap.size w w' := by
  obtain ⟨Wx, hWx⟩ : ∃ W, w.alloc (.cells #[.slice p v.length c, .int .i64 r] 24) = W := ⟨_, rfl⟩
  obtain ⟨W0, hW0⟩ : ∃ W, Wx.alloc (.cells #[.slice q al.length d, .slice s ps.length f, .int .i64 z] 28) = W := ⟨_, rfl⟩
  have hB1 := below_alloc hWx
  have hB2 := below_alloc hW0
  have bX : BoxV W0 w.heap.size [.slice p v.length c, .int .i64 r] := (BoxV.new rfl hWx).below hB2
  have hs : Wx.heap.size = w.heap.size + 1 := by rw [← hWx]; simp
  have bL : BoxV W0 (w.heap.size + 1) [.slice q al.length d, .slice s ps.length f, .int .i64 z] := BoxV.new hs hW0
  have hB : Below w.heap.size w W0 := hB1.trans (hB2.mono hB1.size)
  have mX := hx.below hB (Nat.le_refl _)
  have mA := hy.below hB (Nat.le_refl _)
  have mP := hz.below hB (Nat.le_refl _)
  have HWx := Lib.hid hWx
  have HW0 := Lib.hid hW0
  clear hWx hW0 hB1 hB2 hs hx hy hz
  have hvl := mX.length_le
  have hpl := mP.length_le
  go_enter Try.func25, Try.ntmps25
  go_wp2_with fail
  rw [HWx.out, HW0.out]
  refine (roomCheck_any p c v r _ mX).mono ?_
  rintro e w1 ⟨rfl, hb⟩
  replace mX := mX.below hb (Nat.le_refl _)
  replace mA := mA.below hb (Nat.le_refl _)
  replace mP := mP.below hb (Nat.le_refl _)
  replace bX := bX.below hb
  replace bL := bL.below hb
  replace hB := hB.trans (hb.mono hB.size)
  clear hb
  by_cases hC : chkR v r = 0
  · have hcz : (chkR v r != 0) = false := by rw [hC]; rfl
    have HC := Lib.hid hC
    clear hC
    have x0 := bX.cell 0 _ rfl
    have x1 := bX.cell 1 _ rfl
    have l0 := bL.cell 0 _ rfl
    have l1 := bL.cell 1 _ rfl
    have l2 := bL.cell 2 _ rfl
    go_wp2_with fail
    refine (valueTop_any p q c d v al _ mX mA hl).mono ?_
    rintro e w2 ⟨rfl, hb⟩
    clear x0 x1 l0 l1 l2
    replace mX := mX.below hb (Nat.le_refl _)
    replace mA := mA.below hb (Nat.le_refl _)
    replace mP := mP.below hb (Nat.le_refl _)
    replace bX := bX.below hb
    replace bL := bL.below hb
    replace hB := hB.trans (hb.mono hB.size)
    clear hb
    obtain ⟨hv, hr1, hr2⟩ := chkR_zero.1 HC.out
    have hv6 := hv.2.1
    by_cases hA : IsA al v.length
    · have hE : (valE v al != 0) = false := by unfold valE; rw [if_pos hv, if_pos hA]; rfl
      have HA := Lib.hid hA
      clear hA hv
      have x0 := bX.cell 0 _ rfl
      have x1 := bX.cell 1 _ rfl
      have l0 := bL.cell 0 _ rfl
      have l1 := bL.cell 1 _ rfl
      have l2 := bL.cell 2 _ rfl
      by_cases hz1 : z < 1
      · have g1 : decide (z < 1) = true := by simpa using hz1
        go_wp2_with fail
        go_ret
        exact ⟨ret_int (vld_off HC.out fun h => by have := h.2.1; omega).symm, hB⟩
      have g1 : decide (z < 1) = false := by simpa using hz1
      by_cases hz2 : 60 < z
      · have g2 : decide (60 < z) = true := by simpa using hz2
        go_wp2_with fail
        go_ret
        exact ⟨ret_int (vld_off HC.out fun h => by have := h.2.2.1; omega).symm, hB⟩
      have g2 : decide (60 < z) = false := by simpa using hz2
      by_cases hp : ps.length = v.length
      · have g3 : ((ps.length : Int) != (v.length : Int)) = false := by rw [hp]; simp
        have Hp := Lib.hid hp
        have hz3 : 1 ≤ z := by omega
        have hz4 : z ≤ 60 := by omega
        have hp6 : ps.length ≤ 6 := by omega
        clear hz1 hz2 hp
        go_wp2_with fail
        go_loop [8, 47] (fun s i => ∃ k : Nat, k ≤ ps.length ∧ i = .int .i64 k ∧ s = .int .i64 (sumTo (iget ps) k) ∧ Hid (PriceOk z ps k)) (fun _ i => ps.length - (intOf i).toNat)
        case atStart => exact ⟨0, by omega, rfl, rfl, fun j hj => by omega⟩
        case round =>
          obtain ⟨k, hk, rfl, rfl, ht⟩ := hrel
          have hS := price_sum hz4 (by omega) ht.out
          by_cases hlt : k < ps.length
          · obtain ⟨b, o, rfl, _, hc⟩ := mP.get hlt
            have hk1 : (k : Int) < ps.length := by omega
            by_cases hlow : iget ps k < -10000000 * z
            · have hdl : decide (iget ps k < -10000000 * z) = true := by simpa using hlow
              have hn := Lib.hid (show ¬ VldP v r al ps z from fun h => by have := (h.2.2.2.2.1 k hlt).1; omega)
              clear hS hlow
              go_wp2_with fail
              go_ret
              exact ⟨ret_int (vld_off HC.out hn.out).symm, hB⟩
            · have hdl : decide (iget ps k < -10000000 * z) = false := by simpa using hlow
              by_cases hhi : 10000000 * z < iget ps k
              · have hdh : decide (10000000 * z < iget ps k) = true := by simpa using hhi
                have hn := Lib.hid (show ¬ VldP v r al ps z from fun h => by have := (h.2.2.2.2.1 k hlt).2; omega)
                clear hS hlow hhi
                go_wp2_with fail
                go_ret
                exact ⟨ret_int (vld_off HC.out hn.out).symm, hB⟩
              · have hdh : decide (10000000 * z < iget ps k) = false := by simpa using hhi
                have Hn := Lib.hid (show PriceOk z ps (k + 1) from snoc_all ht.out ⟨by omega, by omega⟩)
                have Hs : Hid (sumTo (iget ps) (k + 1) = sumTo (iget ps) k + iget ps k) := rfl
                generalize sumTo (iget ps) k = s0 at *
                obtain ⟨hS1, hS2⟩ := hS
                have e1 : -600000000 ≤ iget ps k := by omega
                have e2 : iget ps k ≤ 600000000 := by omega
                clear hlow hhi
                go_wp2_with fail
                go_round
                case rel => exact ⟨k + 1, by omega, by go_num, by rw [Hs.out], Hn⟩
                case measure => simp [intOf]; omega
          · have hk1 : ¬ (k : Int) < ps.length := by omega
            obtain rfl : k = ps.length := by omega
            obtain ⟨m1, m2⟩ := rz_bd hr1 hr2 hz3 hz4
            have hw : IntKind.i64.wrap (r * z) = r * z := IntWalk.i64_in _ (by omega)
            by_cases hq : sumTo (iget ps) ps.length = r * z
            · have g4 : (sumTo (iget ps) ps.length != r * z) = false := by rw [hq]; simp
              have Hq := Lib.hid hq
              clear hq
              go_wp2_with fail
              go_ret
              exact ⟨ret_int (vld_ok HC.out ⟨HA.out, hz3, hz4, Hp.out, ht.out, Hq.out⟩).symm, hB⟩
            · have g4 : (sumTo (iget ps) ps.length != r * z) = true := by rw [bne_iff_ne]; exact hq
              have Hq := Lib.hid hq
              clear hq
              go_wp2_with fail
              go_ret
              exact ⟨ret_int (vld_off HC.out fun h => Hq.out h.2.2.2.2.2).symm, hB⟩
      · have g3 : ((ps.length : Int) != (v.length : Int)) = true := by rw [bne_iff_ne]; omega
        have Hp := Lib.hid hp
        clear hp
        go_wp2_with fail
        go_ret
        exact ⟨ret_int (vld_off HC.out fun h => Hp.out h.2.2.2.1).symm, hB⟩
    · have hE : (valE v al != 0) = true := by unfold valE; rw [if_pos hv, if_neg hA]; rfl
      have hE8 : Hid (valE v al = 8) := by unfold Hid valE; rw [if_pos hv, if_neg hA]
      have HA := Lib.hid hA
      clear hA hv
      go_wp2_with fail
      go_ret
      rw [hE8.out]
      exact ⟨ret_int (vld_off HC.out fun h => HA.out h.1).symm, hB⟩
  · have hcz : (chkR v r != 0) = true := by rw [bne_iff_ne]; exact hC
    have HC := Lib.hid hC
    clear hC
    go_wp2_with fail
    go_ret
    exact ⟨ret_int (vld_bad HC.out).symm, hB⟩
end Go.Proofs.Ytojldecldemfaaa

/- The walk of the reference's Lowest: prices without what they have in common; a positive denominator, small numbers. -/
namespace Go.Proofs.Ytojldecldemfaaa
set_option linter.unusedVariables false
set_option linter.unusedSimpArgs false
open Go.ChangeShapes Go.WideShapes Go.ChangeAt Go.RowKit Go.Deep

theorem take_snocI {l : List Int} {k : Nat} (h : k < l.length) : l.take (k + 1) = l.take k ++ [iget l k] := by rw [List.take_succ_eq_append_getElem h, iget_of h]
theorem comm_gcd_eq {n d : Nat} {l : List Int} (hn : 0 < n) (h : Comm n l d) (hd : gcdL n l ≤ d) : d = gcdL n l := Nat.le_antisymm (comm_le hn h) hd
theorem comm_snoc {n d k : Nat} {l : List Int} (h : k < l.length) : Comm n (l.take (k + 1)) d ↔ Comm n (l.take k) d ∧ d ∣ (iget l k).natAbs := by
  rw [take_snocI h]
  unfold Comm
  constructor
  · rintro ⟨h1, h2⟩
    exact ⟨⟨h1, fun x hx => h2 x (List.mem_append_left _ hx)⟩, h2 _ (by simp)⟩
  · rintro ⟨⟨h1, h2⟩, h3⟩
    refine ⟨h1, fun x hx => ?_⟩
    rcases List.mem_append.1 hx with hx | hx
    · exact h2 x hx
    · simp at hx; subst hx; exact h3
instance (n : Nat) (l : List Int) (d : Nat) : Decidable (Comm n l d) := by unfold Comm; infer_instance
def commB (n : Nat) (l : List Int) (d : Nat) : Bool := decide (Comm n l d)
theorem comm_start (n d : Nat) (l : List Int) : ((n : Int) % (d : Int) == 0) = commB n (l.take 0) d := by
  unfold commB
  rw [Bool.eq_iff_iff, beq_iff_eq, decide_eq_true_iff, List.take_zero]
  unfold Comm
  constructor
  · intro h
    exact ⟨Nat.dvd_of_mod_eq_zero (by omega), fun x hx => by cases hx⟩
  · rintro ⟨h, _⟩
    have := Nat.mod_eq_zero_of_dvd h
    omega
theorem comm_next {n d k : Nat} {l : List Int} (h : k < l.length) (ht : commB n (l.take k) d = true) : ((iget l k).tmod d == 0) = commB n (l.take (k + 1)) d := by
  unfold commB at *
  rw [Bool.eq_iff_iff, beq_iff_eq, decide_eq_true_iff, comm_snoc h, tmod_zero]
  exact ⟨fun h => ⟨by simpa using ht, h⟩, fun h => h.2⟩
theorem tdiv_bound {x : Int} {d : Nat} {M : Int} (hM : 0 ≤ M) (h1 : -M ≤ x) (h2 : x ≤ M) : -M ≤ x.tdiv d ∧ x.tdiv d ≤ M := by
  have h := Int.natAbs_tdiv_le_natAbs x d
  omega

set_option maxHeartbeats 4000000 in
set_option maxRecDepth 100000 in
theorem lowest_any (base : Nat) (p : Option Addr) (c n : Nat) (l : List Int) (w : World) (hbase : base ≤ w.heap.size) (hOl : Own w base p c l) (hn : 0 < n) (hn60 : n ≤ 60) (hl : l.length ≤ 60) (hb : ∀ j, j < l.length → -1000000000 ≤ iget l j ∧ iget l j ≤ 1000000000) :
    Calls Try.prog 45 #[.slice p l.length c, .int .i64 n] w fun e w' => ∃ q d, e = .returned (.tuple #[.slice q l.length d, .int .i64 (lowN n l)]) ∧ Own w' base q d (lowL n l) ∧ Below w.heap.size w w' := by
  have hx := hOl.ints
  have HOl := Lib.hid hOl
  clear hOl
  have hg1 := gcdL_pos l hn
  have hg2 := gcdL_le l hn
  obtain ⟨g, hg⟩ : ∃ g, gcdL n l = g := ⟨_, rfl⟩
  rw [hg] at hg1 hg2
  have Hg := Lib.hid hg
  have Hb := Lib.hid hb
  clear hg hb
  go_enter Try.func45, Try.ntmps45
  go_wp2_with fail
  go_loop [6] (fun t => ∃ d : Nat, g ≤ d ∧ d ≤ n ∧ t = .int .i64 d) (fun t => (intOf t).toNat)
  case atStart => exact ⟨n, hg2, Nat.le_refl _, rfl⟩
  case round =>
    obtain ⟨d, hd1, hd2, rfl⟩ := hrel
    by_cases hlt : 1 < d
    · have hlt1 : (1 : Int) < d := by omega
      have hn0 : (0 : Int) ≤ n := by omega
      have hnd : (n % d = 0) ↔ d ∣ n := ⟨Nat.dvd_of_mod_eq_zero, Nat.mod_eq_zero_of_dvd⟩
      have Hnd := Lib.hid hnd
      clear hnd
      go_wp2_with fail
      go_loop [7, 8] (fun b t => ∃ k : Nat, k ≤ l.length ∧ t = .int .i64 k ∧ b = .bool (commB n (l.take k) d)) (fun _ t => l.length - (intOf t).toNat)
      case atStart => exact ⟨0, Nat.zero_le _, rfl, congrArg Value.bool (comm_start n d l)⟩
      case round =>
        obtain ⟨k, hk, rfl, rfl⟩ := hrel
        by_cases hkl : k < l.length
        · obtain ⟨b0, o0, rfl, _, hc⟩ := hx.get hkl
          have hk1 : (k : Int) < l.length := by omega
          have Hsn := Lib.hid (comm_snoc (n := n) (d := d) hkl)
          have hbd := Hb.out k hkl
          cases hcm : commB n (l.take k) d with
          | false =>
            have Hcm := Lib.hid hcm
            clear hcm
            go_wp2_with fail
            go_round
            case rel => exact ⟨k + 1, by omega, by go_num, by
              congr 1
              symm
              unfold commB
              rw [decide_eq_false_iff_not, Hsn.out]
              intro h
              have := Hcm.out
              simp [commB] at this
              exact this h.1⟩
            case measure => simp [intOf]; omega
          | true =>
            have Hcm := Lib.hid hcm
            clear hcm
            have Hnx := Lib.hid (comm_next hkl Hcm.out)
            go_wp2_with fail
            go_round
            case rel => exact ⟨k + 1, by omega, by go_num, congrArg Value.bool Hnx.out⟩
            case measure => simp [intOf]; omega
        · have hk1 : ¬ (k : Int) < l.length := by omega
          obtain rfl : k = l.length := by omega
          have htk : commB n (l.take l.length) d = commB n l d := by rw [List.take_length]
          rw [htk]
          clear htk
          cases hcm : commB n l d with
          | false =>
            have hne : d ≠ g := by
              intro e
              have hc := comm_gcd n l
              rw [Hg.out, ← e] at hc
              simp [commB, hc] at hcm
            clear hcm
            go_wp2_with fail
            go_round
            case rel => exact ⟨d - 1, by omega, by omega, by congr 1; omega⟩
            case measure => simp [intOf]; omega
          | true =>
            have hdg : d = g := by
              have hc : Comm n l d := by simpa [commB] using hcm
              rw [← Hg.out]
              exact comm_gcd_eq hn hc (by rw [Hg.out]; exact hd1)
            have HN : Hid ((n : Int) / d = lowN n l) := by unfold Hid lowN; rw [Hg.out, ← hdg]; simp
            have HL : Hid (l.map (fun x => x.tdiv d) = lowL n l) := by unfold Hid lowL; rw [Hg.out, ← hdg]
            have hd0 : (0 : Int) < d := by omega
            have hq1 : (0 : Int) ≤ (n : Int) / d := Int.ediv_nonneg (by omega) (by omega)
            have hq2 : (n : Int) / d ≤ 60 := Int.le_trans (Int.ediv_le_self _ (by omega)) (by omega)
            clear hcm hdg hd1 hg1 hg2
            go_wp2_with fail
            go_loopw [9, 10] (fun s i wr => ∃ m : Nat, m ≤ l.length ∧ i = .int .i64 m ∧ (∃ zs q d', Hid (zs = (l.take m).map (fun x => x.tdiv d)) ∧ s = .slice q (zs : List Int).length d' ∧ Own wr w.heap.size q d' zs) ∧ Below w.heap.size w wr) (fun _ i _ => l.length - (intOf i).toNat)
            case atStart => exact ⟨0, by omega, rfl, ⟨[], none, 0, rfl, rfl, Own.ofNil _ _⟩, Below.refl _ _⟩
            case round =>
              obtain ⟨m, hm, rfl, ⟨zs, q, d', hz, rfl, hO⟩, hB⟩ := hrel
              by_cases hml : m < l.length
              · obtain ⟨b0, o0, rfl, _, hc⟩ := (hx.below hB (Nat.le_refl _)).get hml
                have hm1 : (m : Int) < l.length := by omega
                have hbd := Hb.out m hml
                have hbt := tdiv_bound (x := iget l m) (d := d) (M := 1000000000) (by omega) hbd.1 hbd.2
                have hsz := hB.size
                have hzl : zs.length ≤ 900000 := by rw [hz.out, List.length_map, List.length_take]; omega
                have Hsn : Hid ((l.take (m + 1)).map (fun x => x.tdiv d) = (l.take m).map (fun x => x.tdiv d) ++ [(iget l m).tdiv d]) := by unfold Hid; rw [take_snocI hml, List.map_append]; rfl
                obtain ⟨y, hy⟩ : ∃ y, iget l m = y := ⟨_, rfl⟩
                rw [hy] at hc hbd hbt Hsn
                clear hy
                have hy64 : in64 (y.tdiv d) := ⟨by omega, by omega⟩
                go_wp2_with (at_builtin; refine wpList_app1 rfl (.tmp 43) (.tmp 50) rfl w.heap.size _ _ zs (y.tdiv d) rfl rfl rfl hO hy64 hzl hsz ?_; intro p3 c3 w3 ys hys hO3 hg3 hf3)
                go_roundw
                case rel => exact ⟨m + 1, by omega, by go_num, ⟨ys, _, _, by unfold Hid; rw [hys.out, Hsn.out, hz.out], rfl, hO3⟩, hB.grown hg3 hsz (fun k' e => (hO.lt k' e).1)⟩
                case measure => simp [intOf]; omega
              · have hm1 : ¬ (m : Int) < l.length := by omega
                obtain rfl : m = l.length := by omega
                have hzl : zs = lowL n l := by rw [hz.out, List.take_length]; exact HL.out
                subst hzl
                have hll := lowL_length n l
                have Hll := Lib.hid hll
                clear hll hz
                have HO := Lib.hid hO
                have HB := Lib.hid hB
                clear hO hB
                go_wp2_with fail
                go_quiet (fail)
                go_wp2_with fail
                go_ret2
                rw [HN.out, Hll.out]
                exact ⟨q, d', rfl, (HO.out.lower hbase).drewN _, HB.out.drewN' _⟩
    · have hlt1 : ¬ (1 : Int) < d := by omega
      obtain rfl : d = 1 := by omega
      have hg1 : g = 1 := by omega
      obtain ⟨h1, h2⟩ := low_one (n := n) (l := l) (by rw [Hg.out]; exact hg1)
      have H1 := Lib.hid h1
      have H2 := Lib.hid h2
      clear h1 h2 hg1
      go_wp2_with fail
      go_ret2
      rw [H1.out, H2.out]
      exact ⟨p, c, rfl, HOl.out, Below.refl _ _⟩
end Go.Proofs.Ytojldecldemfaaa

/- The walk of room.Gains, for every flat and lease; no condition but the lists' sizes. -/
namespace Go.Proofs.Ytojldecldemfaaa
set_option linter.unusedVariables false
set_option linter.unusedSimpArgs false
open Go.ChangeShapes Go.WideShapes Go.ChangeAt Go.RowKit Go.Deep

/-- What an agent gains with a room, times the denominator; what all gain. -/
def gainI (v : List (List Int)) (ps : List Int) (z : Int) (i j : Nat) : Int := bid v i j * z - iget ps j
def gainL (v : List (List Int)) (al ps : List Int) (z : Int) : List Int := (List.range al.length).map fun i => gainI v ps z i (itm al i)
theorem gainL_len (v : List (List Int)) (al ps : List Int) (z : Int) : (gainL v al ps z).length = al.length := by simp [gainL]
theorem gainL_get {v : List (List Int)} {al ps : List Int} {z : Int} {i : Nat} (h : i < al.length) : iget (gainL v al ps z) i = gainI v ps z i (itm al i) := by
  simp [gainL, iget, h]
def gnsL (v : List (List Int)) (r : Int) (al ps : List Int) (z : Int) : List Int := if vldR v r al ps z = 0 then gainL v al ps z else []
theorem bz_bd {b z : Int} (h1 : 0 ≤ b) (h2 : b ≤ 1000000) (hz1 : 1 ≤ z) (hz2 : z ≤ 60) : 0 ≤ b * z ∧ b * z ≤ 60000000 := by
  have h3 : b * z ≤ 1000000 * z := Int.mul_le_mul_of_nonneg_right h2 (by omega)
  exact ⟨Int.mul_nonneg h1 (by omega), by omega⟩
/-- What a valid lease in a valid flat brings with it. -/
structure Good (v : List (List Int)) (al ps : List Int) (z : Int) : Prop where
  bids : Bids v
  isA : IsA al v.length
  alen : al.length = v.length
  plen : ps.length = v.length
  z1 : 1 ≤ z
  z2 : z ≤ 60
  six : v.length ≤ 6
  row : ∀ i, i < v.length → (rget v i).length = v.length
  itm : ∀ i, i < v.length → 0 ≤ iget al i ∧ itm al i < v.length
  bid : ∀ i, i < v.length → ∀ j, j < v.length → 0 ≤ iget (rget v i) j ∧ iget (rget v i) j ≤ 1000000
  price : ∀ j, j < v.length → -600000000 ≤ iget ps j ∧ iget ps j ≤ 600000000
theorem good_of {v : List (List Int)} {r : Int} {al ps : List Int} {z : Int} (h : vldR v r al ps z = 0) : Good v al ps z := by
  obtain ⟨hk, hA, hz1, hz2, hpl, hP, _⟩ := vld_zero.1 h
  obtain ⟨hv, _, _⟩ := chkR_zero.1 hk
  have hf := fits_of hv hA
  refine ⟨hv, hA, hA.1, hpl, hz1, hz2, hv.2.1, fun i hi => (hv.2.2 i hi).1, fun i hi => ?_, fun i hi j hj => (hv.2.2 i hi).2 j hj, fun j hj => ?_⟩
  · have h1 := hf.item i (by rw [hA.1]; exact hi)
    rw [(hv.2.2 i hi).1] at h1
    exact h1
  · have := hP j (by rw [hpl]; exact hj)
    omega

set_option maxHeartbeats 8000000 in
set_option maxRecDepth 100000 in
theorem roomGains_any (p q s : Option Addr) (c d f : Nat) (v : List (List Int)) (r : Int) (al ps : List Int) (z : Int) (w : World) (hx : Mat w p c v) (hy : Ints w q d al) (hz : Ints w s f ps) (hl : al.length ≤ 1000000) :
    Calls Try.prog 21 #[.agg #[.slice p v.length c, .int .i64 r], .agg #[.slice q al.length d, .slice s ps.length f, .int .i64 z]] w (Gives2 w (gnsL v r al ps z) (vldR v r al ps z)) := by
  obtain ⟨i0, hi0, hz0, hz1, hz2⟩ := info_parts infoInt
  obtain ⟨Wx, hWx⟩ : ∃ W, w.alloc (.cells #[.slice p v.length c, .int .i64 r] 24) = W := ⟨_, rfl⟩
  obtain ⟨W0, hW0⟩ : ∃ W, Wx.alloc (.cells #[.slice q al.length d, .slice s ps.length f, .int .i64 z] 28) = W := ⟨_, rfl⟩
  have hB1 := below_alloc hWx
  have hB2 := below_alloc hW0
  have bX : BoxV W0 w.heap.size [.slice p v.length c, .int .i64 r] := (BoxV.new rfl hWx).below hB2
  have hs : Wx.heap.size = w.heap.size + 1 := by rw [← hWx]; simp
  have bL : BoxV W0 (w.heap.size + 1) [.slice q al.length d, .slice s ps.length f, .int .i64 z] := BoxV.new hs hW0
  have hB : Below w.heap.size w W0 := hB1.trans (hB2.mono hB1.size)
  have mX := hx.below hB (Nat.le_refl _)
  have mA := hy.below hB (Nat.le_refl _)
  have mP := hz.below hB (Nat.le_refl _)
  have HWx := Lib.hid hWx
  have HW0 := Lib.hid hW0
  clear hWx hW0 hB1 hB2 hs hx hy hz
  have hvl := mX.length_le
  have hpl := mP.length_le
  go_enter Try.func21, Try.ntmps21
  go_wp2_with fail
  rw [HWx.out, HW0.out]
  refine (roomValid_any p q s c d f v r al ps z _ mX mA mP hl).mono ?_
  rintro e w1 ⟨rfl, hb⟩
  replace mX := mX.below hb (Nat.le_refl _)
  replace mA := mA.below hb (Nat.le_refl _)
  replace mP := mP.below hb (Nat.le_refl _)
  replace bX := bX.below hb
  replace bL := bL.below hb
  replace hB := hB.trans (hb.mono hB.size)
  clear hb
  have hle := hB.size
  by_cases hC : vldR v r al ps z = 0
  · have hcz : (vldR v r al ps z != 0) = false := by rw [hC]; rfl
    have HL : Hid (gnsL v r al ps z = gainL v al ps z) := by unfold Hid gnsL; rw [if_pos hC]
    have HG := Lib.hid (good_of hC)
    have Hlen := Lib.hid (gainL_len v al ps z)
    have HC := Lib.hid hC
    clear hC
    have l0 := bL.cell 0 _ rfl
    obtain ⟨B, hBB⟩ : ∃ B, w1.heap.size = B := ⟨_, rfl⟩
    have hwB : w.heap.size ≤ B := by omega
    have hlB : w.heap.size + 1 < B := by have := bL.lt; omega
    have HBB := Lib.hid hBB
    clear hBB
    go_wp2_with fail
    go_loopw [7, 19] (fun s i wr => ∃ m : Nat, m ≤ al.length ∧ i = .int .i64 m ∧ (∃ zs q d, Hid (zs = (gainL v al ps z).take m) ∧ s = .slice q (zs : List Int).length d ∧ Own wr B q d zs) ∧ Below B w1 wr) (fun _ i _ => al.length - (intOf i).toNat)
    case atStart => exact ⟨0, by omega, rfl, ⟨[], none, 0, rfl, rfl, Own.ofNil _ _⟩, Below.refl _ _⟩
    case round =>
      obtain ⟨m, hm, rfl, ⟨zs, qz, dz, hzz, rfl, hO⟩, hBm⟩ := hrel
      have hsz := hBm.size
      rw [HBB.out] at hsz
      have hBm' : Below w1.heap.size w1 wr := by rw [HBB.out]; exact hBm
      by_cases hml : m < al.length
      · have hg := HG.out
        have hmv : m < v.length := by rw [← hg.alen]; exact hml
        obtain ⟨i1, i2⟩ := hg.itm m hmv
        obtain ⟨j0, hj0⟩ : ∃ j0 : Nat, iget al m = (j0 : Int) := ⟨(iget al m).toNat, by omega⟩
        have hit : itm al m = j0 := by simp [itm, hj0]
        rw [hit] at i2
        have hrow := hg.row m hmv
        obtain ⟨v1, v2⟩ := hg.bid m hmv j0 i2
        obtain ⟨p1, p2⟩ := hg.price j0 i2
        have hpl2 := hg.plen
        have hz1' := hg.z1
        have hz2' := hg.z2
        have h6 := hg.six
        have Hsn : Hid ((gainL v al ps z).take (m + 1) = (gainL v al ps z).take m ++ [iget (rget v m) j0 * z - iget ps j0]) := by
          have h := take_snocI (l := gainL v al ps z) (k := m) (by rw [Hlen.out]; exact hml)
          rw [gainL_get hml, hit] at h
          exact h
        obtain ⟨b, o, rfl, hlA, hc⟩ := mA.get hml
        rw [hj0] at hc
        obtain ⟨b2, o2, rfl, hlV, qr, dr, hc2, hi⟩ := mX.get hmv
        obtain ⟨b3, o3, rfl, hlR, hc3⟩ := hi.get (show j0 < (rget v m).length by rw [hrow]; exact i2)
        obtain ⟨b4, o4, rfl, hlP, hc4⟩ := mP.get (show j0 < ps.length by rw [hpl2]; exact i2)
        have hcr := (hBm'.cell (p := ⟨b, o + m, none⟩) hlA).trans hc
        have hm1 : (m : Int) < al.length := by omega
        have hmv1 : (m : Int) < v.length := by omega
        have hj1 : (j0 : Int) < (rget v m).length := by omega
        have hj2 : (j0 : Int) < ps.length := by omega
        have hzl : zs.length ≤ 900000 := by rw [hzz.out, List.length_take]; omega
        clear hg hit i1 hj0 hpl2 hrow
        obtain ⟨x, hxx⟩ : ∃ x, iget (rget v m) j0 = x := ⟨_, rfl⟩
        obtain ⟨y, hyy⟩ : ∃ y, iget ps j0 = y := ⟨_, rfl⟩
        rw [hxx] at hc3 v1 v2 Hsn
        rw [hyy] at hc4 p1 p2 Hsn
        clear hxx hyy
        obtain ⟨m1, m2⟩ := bz_bd v1 v2 hz1' hz2'
        have hy64 : in64 (x * z - y) := ⟨by omega, by omega⟩
        have Hwr : Hid (IntKind.i64.wrap (IntKind.i64.wrap (x * z) - y) = x * z - y) := by
          unfold Hid
          rw [IntWalk.i64_in (x * z) (by omega), IntWalk.i64_in _ (by omega)]
        have k0 := bX.cell 0 _ rfl
        have k1 := bL.cell 1 _ rfl
        have k2 := bL.cell 2 _ rfl
        have hltX := bX.lt
        have hltL := bL.lt
        have hmk : ∀ W, Below B w1 W → (W.cell? ⟨w.heap.size, 0, none⟩ = some (.slice (some ⟨b2, o2, none⟩) v.length c) ∧ W.cell? ⟨w.heap.size + 1, 1, none⟩ = some (.slice (some ⟨b4, o4, none⟩) ps.length f) ∧ W.cell? ⟨w.heap.size + 1, 2, none⟩ = some (.int .i64 z) ∧ W.cell? ⟨b2, o2 + m, none⟩ = some (.slice (some ⟨b3, o3, none⟩) (rget v m).length dr) ∧ W.cell? ⟨b3, o3 + j0, none⟩ = some (.int .i64 x) ∧ W.cell? ⟨b4, o4 + j0, none⟩ = some (.int .i64 y)) := fun W hG =>
          ⟨(hG.cell (p := ⟨w.heap.size, 0, none⟩) (by simp only; omega)).trans k0, (hG.cell (p := ⟨w.heap.size + 1, 1, none⟩) hlB).trans k1, (hG.cell (p := ⟨w.heap.size + 1, 2, none⟩) hlB).trans k2, (hG.cell (p := ⟨b2, o2 + m, none⟩) (by rw [← HBB.out]; exact hlV)).trans hc2, (hG.cell (p := ⟨b3, o3 + j0, none⟩) (by rw [← HBB.out]; exact hlR)).trans hc3, (hG.cell (p := ⟨b4, o4 + j0, none⟩) (by rw [← HBB.out]; exact hlP)).trans hc4⟩
        have Hmk := Lib.hid hmk
        clear hmk k0 k1 k2 hc hc2 hc3 hc4 hltX hltL
        go_wp2_with fail
        go_region_held3 (fun W => W.cell? ⟨w.heap.size, 0, none⟩ = some (Value.slice (some ⟨b2, o2, none⟩) v.length c) ∧ W.cell? ⟨w.heap.size + 1, 1, none⟩ = some (Value.slice (some ⟨b4, o4, none⟩) ps.length f) ∧ W.cell? ⟨w.heap.size + 1, 2, none⟩ = some (Value.int .i64 z) ∧ W.cell? ⟨b2, o2 + m, none⟩ = some (Value.slice (some ⟨b3, o3, none⟩) (rget v m).length dr) ∧ W.cell? ⟨b3, o3 + j0, none⟩ = some (Value.int .i64 x) ∧ W.cell? ⟨b4, o4 + j0, none⟩ = some (Value.int .i64 y))
          (first | assumption | exact Hmk.out _ hb4 | exact Hmk.out _ (by repeat (first | exact hBm | apply Below.drewN' | apply Below.drew | refine Below.alloc ?_ (by first | omega | (simp; omega)) _)))
          (first
            | (refine step_append_lies _ rfl (.tmp 24) (.tmp 42) 26 rfl B 3 i0 (.int .i64 0) 1 8 Try.underlying26 hi0 hz0 hz1 hz2 rfl (by decide) (.slice qz zs.length dz) zs.length (zs.map (Value.int .i64)) (by simp [Act.eval, Act.put]) (show Own _ B _ _ zs from by repeat (first | exact hO | apply Own.drewN | apply Own.drew1 | apply Own.alloc)).row ⟨wr.heap.size, 0, none⟩ 1 1 [.int .i64 (IntKind.i64.wrap (IntKind.i64.wrap (x * z) - y))] (by simp [Act.eval, Act.put]) rfl (cell_one_new _ _ _) (by simp [Value.oneCell']) (by decide) (by simp [maxLen]; omega) (by omega) (by simp; omega) _ rfl ?_; intro g cap w4 hown3 hg3 hor3 hlt3; have hb4 : Below B w1 w4 := Below.grown (show Below B w1 _ from by repeat (first | exact hBm | apply Below.drewN' | apply Below.drew | refine Below.alloc ?_ (by first | omega | (simp; omega)) _)) hg3 (by simp; omega) (fun k' e => by rw [ownBlock_slice] at e; exact (hO.lt k' e).1)))
        all_goals
          rw [Hwr.out] at hown3
          go_wp2_with fail
          go_roundw
          case rel => exact ⟨m + 1, by omega, by go_num, ⟨zs ++ [x * z - y], _, cap, by unfold Hid; rw [Hsn.out, hzz.out], by simp, own_snocR hown3 hO.rng hy64⟩, hb4⟩
          case measure => simp [intOf]; omega
      · have hm1 : ¬ (m : Int) < al.length := by omega
        obtain rfl : m = al.length := by omega
        have hzr : zs = gainL v al ps z := by rw [hzz.out, List.take_of_length_le (by rw [Hlen.out]; exact Nat.le_refl _)]
        subst hzr
        go_wp2_with fail
        go_ret2
        rw [HC.out]
        unfold Gives2
        rw [HL.out]
        exact ⟨qz, dz, rfl, hO.lower hwB, hB.trans (hBm'.mono hle)⟩
  · have hcz : (vldR v r al ps z != 0) = true := by rw [bne_iff_ne]; exact hC
    have HL : Hid (gnsL v r al ps z = []) := by unfold Hid gnsL; rw [if_neg hC]
    clear hC
    go_wp2_with fail
    go_ret2
    unfold Gives2
    rw [HL.out]
    exact ⟨none, 0, rfl, Own.ofNil _ _, hB⟩
end Go.Proofs.Ytojldecldemfaaa
