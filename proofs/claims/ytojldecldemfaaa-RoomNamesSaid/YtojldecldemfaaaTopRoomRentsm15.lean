/- The even lease is valid and without envy; who envies nobody; plain, no program. -/
import Derived.Test.YtojldecldemfaaaTopRoomRentsm6
import Derived.Test.YtojldecldemfaaaTopRoomRentsm14
import Derived.Deep.RegionHeld3
import Derived.Test.YtojldecldemfaaaTopRoomRentsm10
/- The even lease is valid and without envy; who envies nobody; plain, no program. -/
namespace Go.Proofs.Ytojldecldemfaaa
set_option linter.unusedVariables false
set_option linter.unusedSimpArgs false

theorem envRow_nil {v : List (List Int)} {al ps : List Int} {z : Int} {i n : Nat} : envRow v al ps z i n = [] ↔ ∀ k, k < n → envB v al ps z i k = false := by
  unfold envRow
  rw [List.map_eq_nil_iff, List.filter_eq_nil_iff]
  exact ⟨fun h k hk => by simpa using h k (List.mem_range.2 hk), fun h k hk => by rw [h k (List.mem_range.1 hk)]; simp⟩
theorem envs_nil {v : List (List Int)} {r : Int} {al ps : List Int} {z : Int} (hv : vldR v r al ps z = 0) : envsL v r al ps z = [] ↔ EF v al (iget ps) z := by
  have hA := (vld_zero.1 hv).2.1
  unfold envsL
  rw [if_pos hv]
  unfold envTo
  rw [List.flatMap_eq_nil_iff]
  constructor
  · intro h i hi j hj
    obtain ⟨k, hk, rfl⟩ := (isA_per hA).surj hj
    have := envRow_nil.1 (h i (List.mem_range.2 hi)) k hk
    unfold envB gainI at this
    rw [decide_eq_false_iff_not] at this
    omega
  · intro h i hi
    have hi := List.mem_range.1 hi
    rw [envRow_nil]
    intro k hk
    unfold envB gainI
    rw [decide_eq_false_iff_not]
    have := h i hi (itm al k) (isA_lt hA k hk).2
    omega
/-- The reference's Free. -/
def freeB (v : List (List Int)) (r : Int) (al ps : List Int) (z : Int) : Bool := decide (vldR v r al ps z = 0 ∧ envsL v r al ps z = [])
theorem least_small {v : List (List Int)} (hv : Bids v) {j : Nat} (hj : j < v.length) : 0 ≤ leastP (wl v (bestA v)) v.length j ∧ leastP (wl v (bestA v)) v.length j ≤ 1000000 * v.length := by
  have hb := bestA_best hv.1
  refine ⟨leastP_nonneg _ _ _, ?_⟩
  unfold leastP
  rcases maxTo_eq (fun i => lnkS (wl v (bestA v)) v.length i j) v.length with e | ⟨i, hi, e⟩
  · rw [e]; omega
  · rw [e]
    have hw : ∀ x y, x < v.length → y < v.length → -1000000 ≤ wl v (bestA v) x y ∧ wl v (bestA v) x y ≤ 1000000 := fun x y hx hy => by
      obtain ⟨k, hk, rfl⟩ := (isA_per hb.1).surj hx
      rw [wl_of hb.1 hk]
      have h1 := (hv.2.2 k hk).2 y hy
      have h2 := (hv.2.2 k hk).2 (itm (bestA v) k) (isA_lt hb.1 k hk).2
      unfold bid
      omega
    exact (lnk_bound (by decide) hw v.length (List.replicate v.length false) i j hi).2
theorem dvd_tdiv {x : Int} {g : Nat} (h : g ∣ x.natAbs) : x = g * x.tdiv g := by
  have h2 : (g : Int) ∣ x := Int.ofNat_dvd_left.2 h
  exact (Int.mul_tdiv_cancel' h2).symm
/-- The even lease. -/
structure EvenOk (v : List (List Int)) (r : Int) : Prop where
  vld : VldP v r (bestA v) (lowL v.length (rawP v r)) (lowN v.length (rawP v r))
  ef : EF v (bestA v) (iget (lowL v.length (rawP v r))) (lowN v.length (rawP v r))
  raw : ∃ g : Int, 0 < g ∧ (v.length : Int) = g * lowN v.length (rawP v r) ∧ ∀ j, j < v.length → iget (rawP v r) j = g * iget (lowL v.length (rawP v r)) j
theorem raw_at {v : List (List Int)} {r : Int} {j : Nat} (hj : j < v.length) : iget (rawP v r) j = v.length * leastP (wl v (bestA v)) v.length j + (r - sumTo (fun j => leastP (wl v (bestA v)) v.length j) v.length) := by
  have hl : ∀ j, j < v.length → iget (leastL v (bestA v)) j = leastP (wl v (bestA v)) v.length j := fun j hj => by simp [leastL, iget, hj]
  rw [rawP_get hj, hl j hj]
  unfold restI
  rw [sumTo_congr hl, Int.mul_comm]
theorem raw_sum {v : List (List Int)} (r : Int) : sumTo (iget (rawP v r)) v.length = v.length * r := by
  rw [sumTo_congr (fun j hj => raw_at hj), sumTo_add, sumTo_mul, sumTo_const, Int.sub_mul, Int.mul_comm r]
  have e : sumTo (fun j => leastP (wl v (bestA v)) v.length j) v.length * (v.length : Int) = v.length * sumTo (leastP (wl v (bestA v)) v.length) v.length := Int.mul_comm _ _
  rw [e]
  omega
theorem evenOk {v : List (List Int)} {r : Int} (hc : chkR v r = 0) : EvenOk v r := by
  obtain ⟨hv, hr1, hr2⟩ := chkR_zero.1 hc
  have h0 := hv.1
  have h6 := hv.2.1
  have hb := bestA_best h0
  obtain ⟨g1, g2⟩ := comm_gcd v.length (rawP v r)
  have gp := gcdL_pos (n := v.length) (rawP v r) h0
  have hg0 : (0 : Int) < (gcdL v.length (rawP v r) : Int) := by omega
  have hn : (v.length : Int) = (gcdL v.length (rawP v r) : Int) * lowN v.length (rawP v r) := by
    unfold lowN
    have := Nat.mul_div_cancel' g1
    rw [← Int.natCast_mul, this]
  have hlen := rawP_len v r
  have hp : ∀ j, j < v.length → iget (rawP v r) j = (gcdL v.length (rawP v r) : Int) * iget (lowL v.length (rawP v r)) j := fun j hj => by
    have e : iget (lowL v.length (rawP v r)) j = (iget (rawP v r) j).tdiv (gcdL v.length (rawP v r)) := by
      have hj2 : j < (rawP v r).length := by rw [hlen]; exact hj
      unfold lowL
      simp [iget, hj2]
    rw [e]
    exact dvd_tdiv (g2 _ (iget_mem (by rw [hlen]; exact hj)))
  obtain ⟨g, hg⟩ : ∃ g : Int, (gcdL v.length (rawP v r) : Int) = g := ⟨_, rfl⟩
  rw [hg] at hg0 hn
  simp only [hg] at hp
  obtain ⟨d, hd⟩ : ∃ d, lowN v.length (rawP v r) = d := ⟨_, rfl⟩
  have hLl : (lowL v.length (rawP v r)).length = v.length := by rw [lowL_length, hlen]
  obtain ⟨q, hq⟩ : ∃ q, lowL v.length (rawP v r) = q := ⟨_, rfl⟩
  rw [hd] at hn
  rw [hq] at hLl
  simp only [hq] at hp
  have hef1 : EF v (bestA v) (iget (rawP v r)) v.length := (ef_scale (k := v.length) (e := 1) (by omega) (by omega) (fun j hj => raw_at hj) hb.1).2 (ef_least h0)
  have hef2 : EF v (bestA v) (iget q) d := (ef_scale (k := g) (c := 0) hg0 hn (fun j hj => by rw [hp j hj]; omega) hb.1).1 hef1
  have hd1 : 1 ≤ d := by
    rcases Int.lt_or_le 0 d with h | h
    · omega
    · have := Int.mul_le_mul_of_nonneg_left h (Int.le_of_lt hg0)
      omega
  have hdn : d ≤ v.length := by
    have := Int.mul_le_mul_of_nonneg_right (show (1 : Int) ≤ g by omega) (show 0 ≤ d by omega)
    omega
  have hS0 : 0 ≤ sumTo (fun j => leastP (wl v (bestA v)) v.length j) v.length := sumTo_nonneg fun j hj => (least_small hv hj).1
  have hSb := (sumTo_bound (f := fun j => leastP (wl v (bestA v)) v.length j) (m := 1000000 * v.length) (n := v.length) (fun j hj => least_small hv hj) v.length (Nat.le_refl _)).2
  have hsq : ∀ n : Nat, n ≤ 6 → 0 < n → (1000000 * (n : Int)) * n ≤ 10000000 * n ∧ 1000000 * (n : Int) * (n - 1) + 10000000 ≤ 10000000 * n := by
    intro n h1 h2
    have : n = 1 ∨ n = 2 ∨ n = 3 ∨ n = 4 ∨ n = 5 ∨ n = 6 := by omega
    rcases this with rfl | rfl | rfl | rfl | rfl | rfl <;> decide
  obtain ⟨q1, q2⟩ := hsq v.length h6 h0
  have hbd : ∀ j, j < v.length → -(10000000 * (v.length : Int)) ≤ iget (rawP v r) j ∧ iget (rawP v r) j ≤ 10000000 * v.length := fun j hj => by
    obtain ⟨l1, l2⟩ := least_small hv hj
    have hs := sumTo_single_le (f := fun j => leastP (wl v (bestA v)) v.length j) (fun j hj => (least_small hv hj).1) hj
    rw [raw_at hj]
    have hs' : leastP (wl v (bestA v)) v.length j ≤ sumTo (fun j => leastP (wl v (bestA v)) v.length j) v.length := hs
    have hm0 : 0 ≤ (v.length : Int) * leastP (wl v (bestA v)) v.length j := Int.mul_nonneg (by omega) l1
    have hm1 : ((v.length : Int) - 1) * leastP (wl v (bestA v)) v.length j ≤ ((v.length : Int) - 1) * (1000000 * v.length) := Int.mul_le_mul_of_nonneg_left l2 (by omega)
    rw [Int.sub_mul, Int.one_mul] at hm1
    have hm2 : ((v.length : Int) - 1) * (1000000 * v.length) = 1000000 * (v.length : Int) * (v.length - 1) := by rw [Int.mul_comm]
    rw [hm2] at hm1
    constructor
    · omega
    · omega
  refine ⟨?_, by rw [hq, hd]; exact hef2, ⟨g, hg0, by rw [hd]; exact hn, fun j hj => by rw [hq]; exact hp j hj⟩⟩
  rw [hq, hd]
  refine ⟨hb.1, hd1, by omega, hLl, fun i hi => ?_, ?_⟩
  · rw [hLl] at hi
    obtain ⟨b1, b2⟩ := hbd i hi
    rw [hp i hi, hn] at b1 b2
    constructor
    · refine mul_le_cancel hg0 ?_
      rw [Int.mul_left_comm]
      omega
    · refine mul_le_cancel hg0 ?_
      rw [Int.mul_left_comm g]
      omega
  · have hs := raw_sum (v := v) r
    rw [sumTo_congr hp, sumTo_mul, hn, Int.mul_assoc] at hs
    rw [hLl]
    have := Int.eq_of_mul_eq_mul_left (by omega) hs
    rw [this, Int.mul_comm]
/-- What the law's double loop knows before links j, k. -/
noncomputable def rtB (v : List (List Int)) (al ps : List Int) (z : Int) (j k : Nat) : Bool :=
  decide (worthI v al = worthI v (bestA v) ∧ (∀ x, x < j → ∀ y, y < v.length → lnkS (wl v (bestA v)) v.length x y * z ≤ iget ps y - iget ps x) ∧ ∀ y, y < k → lnkS (wl v (bestA v)) v.length j y * z ≤ iget ps y - iget ps j)
theorem rtB_zero (v : List (List Int)) (al ps : List Int) (z : Int) : rtB v al ps z 0 0 = decide (worthI v al = worthI v (bestA v)) := by
  unfold rtB
  exact dec_congr ⟨fun h => h.1, fun h => ⟨h, fun x hx => absurd hx (Nat.not_lt_zero x), fun y hy => absurd hy (Nat.not_lt_zero y)⟩⟩
theorem rtB_next (v : List (List Int)) (al ps : List Int) (z : Int) (j k : Nat) : rtB v al ps z j (k + 1) = (rtB v al ps z j k && decide (lnkS (wl v (bestA v)) v.length j k * z ≤ iget ps k - iget ps j)) := by
  unfold rtB
  rw [Bool.eq_iff_iff, Bool.and_eq_true, decide_eq_true_iff, decide_eq_true_iff, decide_eq_true_iff]
  constructor
  · rintro ⟨h1, h2, h3⟩
    exact ⟨⟨h1, h2, fun y hy => h3 y (by omega)⟩, h3 k (by omega)⟩
  · rintro ⟨⟨h1, h2, h3⟩, h4⟩
    exact ⟨h1, h2, snoc_all' h3 h4⟩
theorem rtB_row (v : List (List Int)) (al ps : List Int) (z : Int) (j : Nat) : rtB v al ps z (j + 1) 0 = rtB v al ps z j v.length := by
  unfold rtB
  exact dec_congr ⟨fun ⟨h1, h2, _⟩ => ⟨h1, fun x hx => h2 x (by omega), h2 j (by omega)⟩, fun ⟨h1, h2, h3⟩ => ⟨h1, snoc_all' h2 h3, fun y hy => absurd hy (Nat.not_lt_zero y)⟩⟩
theorem rtB_end {v : List (List Int)} {r : Int} {al ps : List Int} {z : Int} (hv : vldR v r al ps z = 0) : rtB v al ps z v.length 0 = decide (envsL v r al ps z = []) := by
  obtain ⟨hc, hA, hz, _⟩ := vld_zero.1 hv
  have h0 := (chkR_zero.1 hc).1.1
  unfold rtB
  refine dec_congr ?_
  rw [envs_nil hv, ef_iff h0 hA (by omega)]
  exact ⟨fun ⟨h1, h2, _⟩ => ⟨h1, fun j k hj hk => h2 j hj k hk⟩, fun ⟨h1, h2⟩ => ⟨h1, fun x hx y hy => h2 x y hx hy, fun y hy => absurd hy (Nat.not_lt_zero y)⟩⟩
end Go.Proofs.Ytojldecldemfaaa

/- The walk of the reference's Envies, for every flat and lease; no condition but the lists' sizes. -/
namespace Go.Proofs.Ytojldecldemfaaa
set_option linter.unusedVariables false
set_option linter.unusedSimpArgs false
open Go.ChangeShapes Go.WideShapes Go.ChangeAt Go.RowKit Go.Deep

set_option maxHeartbeats 8000000 in
set_option maxRecDepth 100000 in
theorem refEnvies_any (p q s : Option Addr) (c d f : Nat) (v : List (List Int)) (r : Int) (al ps : List Int) (z : Int) (w : World) (hx : Mat w p c v) (hy : Ints w q d al) (hz : Ints w s f ps) :
    Calls Try.prog 24 #[.agg #[.slice p v.length c, .int .i64 r], .agg #[.slice q al.length d, .slice s ps.length f, .int .i64 z]] w fun e w' => ∃ p' c', e = .returned (.tuple #[.slice p' (envsL v r al ps z).length c', .int .i64 (vldR v r al ps z)]) ∧ OwnP w' w.heap.size p' c' (envsL v r al ps z) ∧ Below w.heap.size w w' := by
  obtain ⟨Wx, hWx⟩ : ∃ W, w.alloc (.cells #[.slice p v.length c, .int .i64 r] 24) = W := ⟨_, rfl⟩
  obtain ⟨W0, hW0⟩ : ∃ W, Wx.alloc (.cells #[.slice q al.length d, .slice s ps.length f, .int .i64 z] 28) = W := ⟨_, rfl⟩
  have hB1 := below_alloc hWx
  have hB2 := below_alloc hW0
  have bX : BoxV W0 w.heap.size [.slice p v.length c, .int .i64 r] := (BoxV.new rfl hWx).below hB2
  have hs : Wx.heap.size = w.heap.size + 1 := by rw [← hWx]; simp
  have bL : BoxV W0 (w.heap.size + 1) [.slice q al.length d, .slice s ps.length f, .int .i64 z] := BoxV.new hs hW0
  have hB : Below w.heap.size w W0 := hB1.trans (hB2.mono hB1.size)
  have mX := hx.below hB (Nat.le_refl _)
  have mA := hy.below hB (Nat.le_refl _)
  have mP := hz.below hB (Nat.le_refl _)
  have HWx := Lib.hid hWx
  have HW0 := Lib.hid hW0
  clear hWx hW0 hB1 hB2 hs hx hy hz
  have hvl := mX.length_le
  have hpl := mP.length_le
  go_enter Try.func24, Try.ntmps24
  go_wp2_with fail
  rw [HWx.out, HW0.out]
  refine (refValid_any p q s c d f v r al ps z _ mX mA mP).mono ?_
  rintro e w1 ⟨rfl, hb⟩
  replace mX := mX.below hb (Nat.le_refl _)
  replace mA := mA.below hb (Nat.le_refl _)
  replace mP := mP.below hb (Nat.le_refl _)
  replace bX := bX.below hb
  replace bL := bL.below hb
  replace hB := hB.trans (hb.mono hB.size)
  clear hb
  have hle := hB.size
  have x0 := bX.cell 0 _ rfl
  have x1 := bX.cell 1 _ rfl
  have l0 := bL.cell 0 _ rfl
  have l1 := bL.cell 1 _ rfl
  have l2 := bL.cell 2 _ rfl
  by_cases hC : vldR v r al ps z = 0
  · have hcz : (vldR v r al ps z != 0) = false := by rw [hC]; rfl
    have HL : Hid (envsL v r al ps z = envTo v al ps z v.length v.length) := by unfold Hid envsL; rw [if_pos hC]
    have HG := Lib.hid (good_of hC)
    have HC := Lib.hid hC
    clear hC
    obtain ⟨B, hBB⟩ : ∃ B, w1.heap.size = B := ⟨_, rfl⟩
    have hwB : w.heap.size ≤ B := by omega
    have hlB : w.heap.size + 1 < B := by have := bL.lt; omega
    have HBB := Lib.hid hBB
    clear hBB
    go_wp2_with fail
    clear x0 x1 l0 l1 l2
    go_loopw [6, 7] (fun s i wr => ∃ m : Nat, m ≤ v.length ∧ i = .int .i64 m ∧ (∃ zs q d, Hid (zs = envTo v al ps z m v.length) ∧ s = .slice q (zs : List (Nat × Nat)).length d ∧ OwnP wr B q d zs) ∧ Below B w1 wr) (fun _ i _ => v.length - (intOf i).toNat)
    case atStart => exact ⟨0, by omega, rfl, ⟨[], none, 0, rfl, rfl, OwnP.ofNil _ _⟩, Below.refl _ _⟩
    case round =>
      obtain ⟨m, hm, rfl, ⟨zs, qz, dz, hzz, rfl, hO⟩, hBm⟩ := hrel
      have hBm' : Below w1.heap.size w1 wr := by rw [HBB.out]; exact hBm
      have bXr := bX.below hBm'
      have x0 := bXr.cell 0 _ rfl
      by_cases hmv : m < v.length
      · have hmv1 : (m : Int) < v.length := by omega
        have hzm := hzz.out
        go_wp2_with fail
        clear x0 bXr hBm'
        go_loopw [6, 8] (fun s i wk => ∃ k : Nat, k ≤ v.length ∧ i = .int .i64 k ∧ (∃ ys q d, Hid (ys = envTo v al ps z m v.length ++ envRow v al ps z m k) ∧ s = .slice q (ys : List (Nat × Nat)).length d ∧ OwnP wk B q d ys) ∧ Below B w1 wk) (fun _ i _ => v.length - (intOf i).toNat)
        case atStart => exact ⟨0, by omega, rfl, ⟨zs, qz, dz, by unfold Hid; rw [envRow_zero, List.append_nil]; exact hzm, rfl, hO⟩, hBm⟩
        case round =>
          clear hO hBm hzm hzz
          obtain ⟨k, hk, rfl, ⟨ys, qy, dy, hyy, rfl, hO⟩, hBm⟩ := hrel
          have hsz := hBm.size
          rw [HBB.out] at hsz
          have hBm' : Below w1.heap.size w1 wr := by rw [HBB.out]; exact hBm
          have bXr := bX.below hBm'
          have bLr := bL.below hBm'
          have x0 := bXr.cell 0 _ rfl
          by_cases hkv : k < v.length
          · have hkv1 : (k : Int) < v.length := by omega
            have hg := HG.out
            have hkA : k < al.length := by rw [hg.alen]; exact hkv
            have hmA : m < al.length := by rw [hg.alen]; exact hmv
            obtain ⟨i1, i2⟩ := hg.itm k hkv
            obtain ⟨i3, i4⟩ := hg.itm m hmv
            obtain ⟨j0, hj0⟩ : ∃ j0 : Nat, iget al k = (j0 : Int) := ⟨(iget al k).toNat, by omega⟩
            obtain ⟨j1, hj1⟩ : ∃ j1 : Nat, iget al m = (j1 : Int) := ⟨(iget al m).toNat, by omega⟩
            have hit : itm al k = j0 := by simp [itm, hj0]
            have hit1 : itm al m = j1 := by simp [itm, hj1]
            rw [hit] at i2
            rw [hit1] at i4
            have hE : envB v al ps z m k = decide (gainI v ps z m j1 < gainI v ps z m j0) := by unfold envB; rw [hit, hit1]
            have mXr := mX.below hBm' (Nat.le_refl _)
            have mAr := mA.below hBm' (Nat.le_refl _)
            have mPr := mP.below hBm' (Nat.le_refl _)
            have hcm := mAr.get hmA
            obtain ⟨b, o, rfl, hlA, hc⟩ := mAr.get hkA
            obtain ⟨b', o', hbo, _, hc1⟩ := hcm
            obtain ⟨rfl, rfl⟩ : b = b' ∧ o = o' := by simpa using hbo
            clear hbo
            rw [hj0] at hc
            rw [hj1] at hc1
            have x1 := bXr.cell 1 _ rfl
            have l0 := bLr.cell 0 _ rfl
            have l1 := bLr.cell 1 _ rfl
            have l2 := bLr.cell 2 _ rfl
            have hkA1 : (k : Int) < al.length := by omega
            have hmA1 : (m : Int) < al.length := by omega
            have HGj0 := Lib.hid (fun W (h : Below wr.heap.size wr W) => refGain_ok p (some ⟨b, o, none⟩) s c d f v r al ps z m j0 W (mXr.below h (Nat.le_refl _)) (mPr.below h (Nat.le_refl _)) hg hmv i2)
            have HGj1 := Lib.hid (fun W (h : Below wr.heap.size wr W) => refGain_ok p (some ⟨b, o, none⟩) s c d f v r al ps z m j1 W (mXr.below h (Nat.le_refl _)) (mPr.below h (Nat.le_refl _)) hg hmv i4)
            have Hmk : Hid (∀ W, Below wr.heap.size wr W → (W.cell? ⟨w.heap.size, 0, none⟩ = some (Value.slice p v.length c) ∧ W.cell? ⟨w.heap.size, 1, none⟩ = some (Value.int .i64 r) ∧ W.cell? ⟨w.heap.size + 1, 0, none⟩ = some (Value.slice (some ⟨b, o, none⟩) al.length d) ∧ W.cell? ⟨w.heap.size + 1, 1, none⟩ = some (Value.slice s ps.length f) ∧ W.cell? ⟨w.heap.size + 1, 2, none⟩ = some (Value.int .i64 z) ∧ W.cell? ⟨b, o + k, none⟩ = some (Value.int .i64 j0) ∧ W.cell? ⟨b, o + m, none⟩ = some (Value.int .i64 j1) ∧ Below wr.heap.size wr W)) := fun W hG => ⟨(hG.cell (p := ⟨w.heap.size, 0, none⟩) bXr.lt).trans x0, (hG.cell (p := ⟨w.heap.size, 1, none⟩) bXr.lt).trans x1, (hG.cell (p := ⟨w.heap.size + 1, 0, none⟩) bLr.lt).trans l0, (hG.cell (p := ⟨w.heap.size + 1, 1, none⟩) bLr.lt).trans l1, (hG.cell (p := ⟨w.heap.size + 1, 2, none⟩) bLr.lt).trans l2, (hG.cell (p := ⟨b, o + k, none⟩) hlA).trans hc, (hG.cell (p := ⟨b, o + m, none⟩) hlA).trans hc1, hG⟩
            obtain ⟨G1, hG1⟩ : ∃ G1, gainI v ps z m j0 = G1 := ⟨_, rfl⟩
            obtain ⟨G0, hG0⟩ : ∃ G0, gainI v ps z m j1 = G0 := ⟨_, rfl⟩
            rw [hG1, hG0] at hE
            rw [hG1] at HGj0
            rw [hG0] at HGj1
            have HE := Lib.hid hE
            have h6 := hg.six
            clear hG1 hG0 hg hit hit1 hj0 hj1 hE mXr mAr mPr i1 i2 i3 i4
            have hyl : ys.length ≤ 900000 := by
              rw [hyy.out, List.length_append]
              have h1 := envTo_len v al ps z m v.length
              have h2 := envRow_len v al ps z m k
              have h3 : m * v.length ≤ 6 * 6 := Nat.mul_le_mul (by omega) h6
              omega
            by_cases hgt : G0 < G1
            · have hd : decide (G0 < G1) = true := by simpa using hgt
              have HR : Hid (envRow v al ps z m (k + 1) = envRow v al ps z m k ++ [(m, k)]) := envRow_yes (by rw [HE.out, hd])
              clear hgt
              go_wp2_with fail
              go_region_held3 (fun W => W.cell? ⟨w.heap.size, 0, none⟩ = some (Value.slice p v.length c) ∧ W.cell? ⟨w.heap.size, 1, none⟩ = some (Value.int .i64 r) ∧ W.cell? ⟨w.heap.size + 1, 0, none⟩ = some (Value.slice (some ⟨b, o, none⟩) al.length d) ∧ W.cell? ⟨w.heap.size + 1, 1, none⟩ = some (Value.slice s ps.length f) ∧ W.cell? ⟨w.heap.size + 1, 2, none⟩ = some (Value.int .i64 z) ∧ W.cell? ⟨b, o + k, none⟩ = some (Value.int .i64 j0) ∧ W.cell? ⟨b, o + m, none⟩ = some (Value.int .i64 j1) ∧ Below wr.heap.size wr W)
                (first | assumption | exact Hmk.out _ hG | exact Hmk.out _ (below_drewN wr.heap.size wr 1) | exact Hmk.out _ (Below.refl _ _))
                (first
                  | (go_at_call_of 51 (Value.int .i64 (j0 : Int)); refine (HGj0.out _ (by go_split_ands; assumption)).mono ?_; rintro e wC ⟨rfl, hbC⟩; have hG : Below wr.heap.size wr wC := Below.trans (by go_split_ands; assumption) (hbC.mono (Below.size (B := wr.heap.size) (w := wr) (by go_split_ands; assumption))))
                  | (go_at_call_of 51 (Value.int .i64 (j1 : Int)); refine (HGj1.out _ (by go_split_ands; assumption)).mono ?_; rintro e wC ⟨rfl, hbC⟩; have hG : Below wr.heap.size wr wC := Below.trans (by go_split_ands; assumption) (hbC.mono (Below.size (B := wr.heap.size) (w := wr) (by go_split_ands; assumption)))))
              go_wp2_with (at_builtin; refine wpList_appP rfl (.tmp 49) (.tmp 53) rfl B _ _ ys m k rfl rfl rfl (hO.below hG (Nat.le_refl _)) hyl (by have := hG.size; omega) ?_; intro p3 c3 w3 u3 hu3 hO3 hg3 hf3)
              go_roundw
              case rel => exact ⟨k + 1, by omega, by go_num, ⟨u3, _, _, by unfold Hid; rw [hu3.out, hyy.out, HR.out, List.append_assoc], rfl, hO3⟩, (hBm.trans (hG.mono hsz)).grown hg3 (by have := hG.size; omega) (fun k' e => (hO.lt k' e).1)⟩
              case measure => simp [intOf]; omega
            · have hd : decide (G0 < G1) = false := by simpa using hgt
              have HR : Hid (envRow v al ps z m (k + 1) = envRow v al ps z m k) := envRow_no (by rw [HE.out, hd])
              clear hgt
              go_wp2_with fail
              go_region_held3 (fun W => W.cell? ⟨w.heap.size, 0, none⟩ = some (Value.slice p v.length c) ∧ W.cell? ⟨w.heap.size, 1, none⟩ = some (Value.int .i64 r) ∧ W.cell? ⟨w.heap.size + 1, 0, none⟩ = some (Value.slice (some ⟨b, o, none⟩) al.length d) ∧ W.cell? ⟨w.heap.size + 1, 1, none⟩ = some (Value.slice s ps.length f) ∧ W.cell? ⟨w.heap.size + 1, 2, none⟩ = some (Value.int .i64 z) ∧ W.cell? ⟨b, o + k, none⟩ = some (Value.int .i64 j0) ∧ W.cell? ⟨b, o + m, none⟩ = some (Value.int .i64 j1) ∧ Below wr.heap.size wr W)
                (first | assumption | exact Hmk.out _ hG | exact Hmk.out _ (below_drewN wr.heap.size wr 1) | exact Hmk.out _ (Below.refl _ _))
                (first
                  | (go_at_call_of 51 (Value.int .i64 (j0 : Int)); refine (HGj0.out _ (by go_split_ands; assumption)).mono ?_; rintro e wC ⟨rfl, hbC⟩; have hG : Below wr.heap.size wr wC := Below.trans (by go_split_ands; assumption) (hbC.mono (Below.size (B := wr.heap.size) (w := wr) (by go_split_ands; assumption))))
                  | (go_at_call_of 51 (Value.int .i64 (j1 : Int)); refine (HGj1.out _ (by go_split_ands; assumption)).mono ?_; rintro e wC ⟨rfl, hbC⟩; have hG : Below wr.heap.size wr wC := Below.trans (by go_split_ands; assumption) (hbC.mono (Below.size (B := wr.heap.size) (w := wr) (by go_split_ands; assumption)))))
              go_wp2_with fail
              go_roundw
              case rel => exact ⟨k + 1, by omega, by go_num, ⟨ys, _, _, by unfold Hid; rw [hyy.out, HR.out], rfl, hO.below hG (Nat.le_refl _)⟩, hBm.trans (hG.mono hsz)⟩
              case measure => simp [intOf]; omega
          · have hkv1 : ¬ (k : Int) < v.length := by omega
            obtain rfl : k = v.length := by omega
            have HS := Lib.hid (envTo_succ v al ps z m v.length)
            go_wp2_with fail
            go_roundw
            case rel => exact ⟨m + 1, by omega, by go_num, ⟨ys, _, _, by unfold Hid; rw [hyy.out, HS.out], rfl, hO⟩, hBm⟩
            case measure => simp [intOf]; omega
      · have hmv1 : ¬ (m : Int) < v.length := by omega
        obtain rfl : m = v.length := by omega
        have hzr := hzz.out
        subst hzr
        go_wp2_with fail
        go_ret2
        rw [HC.out, HL.out]
        exact ⟨qz, dz, rfl, hO.lower hwB, hB.trans (hBm'.mono hle)⟩
  · have hcz : (vldR v r al ps z != 0) = true := by rw [bne_iff_ne]; exact hC
    have HL : Hid (envsL v r al ps z = []) := by unfold Hid envsL; rw [if_neg hC]
    clear hC
    go_wp2_with fail
    refine (refValid_any p q s c d f v r al ps z _ mX mA mP).mono ?_
    rintro e w2 ⟨rfl, hb⟩
    go_wp2_with fail
    go_ret2
    rw [HL.out]
    exact ⟨none, 0, rfl, OwnP.ofNil _ _, hB.trans (hb.mono hle)⟩
end Go.Proofs.Ytojldecldemfaaa

/- The walks of the reference's Free and of the laws' fit; no condition but the lists' sizes. -/
namespace Go.Proofs.Ytojldecldemfaaa
set_option linter.unusedVariables false
set_option linter.unusedSimpArgs false
open Go.ChangeShapes Go.WideShapes Go.ChangeAt Go.RowKit Go.Deep

set_option maxHeartbeats 1600000 in
set_option maxRecDepth 100000 in
theorem free14_any (p q s : Option Addr) (c d f : Nat) (v : List (List Int)) (r : Int) (al ps : List Int) (z : Int) (w : World) (hx : Mat w p c v) (hy : Ints w q d al) (hz : Ints w s f ps) :
    Calls Try.prog 32 #[.agg #[.slice p v.length c, .int .i64 r], .agg #[.slice q al.length d, .slice s ps.length f, .int .i64 z]] w fun e w' => e = .returned (.bool (freeB v r al ps z)) ∧ Below w.heap.size w w' := by
  obtain ⟨Wx, hWx⟩ : ∃ W, w.alloc (.cells #[.slice p v.length c, .int .i64 r] 24) = W := ⟨_, rfl⟩
  obtain ⟨W0, hW0⟩ : ∃ W, Wx.alloc (.cells #[.slice q al.length d, .slice s ps.length f, .int .i64 z] 28) = W := ⟨_, rfl⟩
  have hB1 := below_alloc hWx
  have hB2 := below_alloc hW0
  have bX : BoxV W0 w.heap.size [.slice p v.length c, .int .i64 r] := (BoxV.new rfl hWx).below hB2
  have hs : Wx.heap.size = w.heap.size + 1 := by rw [← hWx]; simp
  have bL : BoxV W0 (w.heap.size + 1) [.slice q al.length d, .slice s ps.length f, .int .i64 z] := BoxV.new hs hW0
  have hB : Below w.heap.size w W0 := hB1.trans (hB2.mono hB1.size)
  have mX := hx.below hB (Nat.le_refl _)
  have mA := hy.below hB (Nat.le_refl _)
  have mP := hz.below hB (Nat.le_refl _)
  have HWx := Lib.hid hWx
  have HW0 := Lib.hid hW0
  clear hWx hW0 hB1 hB2 hs hx hy hz
  have kX0 := bX.cell 0 _ rfl
  have kX1 := bX.cell 1 _ rfl
  have kL0 := bL.cell 0 _ rfl
  have kL1 := bL.cell 1 _ rfl
  have kL2 := bL.cell 2 _ rfl
  have hE := refEnvies_any p q s c d f v r al ps z W0 mX mA mP
  obtain ⟨E, eE⟩ : ∃ x, vldR v r al ps z = x := ⟨_, rfl⟩
  obtain ⟨X, eX⟩ : ∃ x, envsL v r al ps z = x := ⟨_, rfl⟩
  have hF : freeB v r al ps z = decide (E = 0 ∧ X = []) := by unfold freeB; rw [eE, eX]
  rw [eE, eX] at hE
  rw [hF]
  have HE := Lib.hid hE
  clear hE eE eX hF
  by_cases h0 : E = 0
  · subst h0
    cases X with
    | nil =>
      go_enter Try.func32, Try.ntmps32
      go_wp2_with fail
      rw [HWx.out, HW0.out]
      refine HE.out.mono ?_
      rintro e w1 ⟨p', c', rfl, oX, hb⟩
      go_wp2_with fail
      go_ret
      exact ⟨ret_bool (by simp), hB.trans (hb.mono hB.size)⟩
    | cons x X =>
      have hd : (((x :: X).length : Int) == 0) = false := by rw [beq_eq_false_iff_ne]; simp only [List.length_cons]; omega
      have hR : Hid (decide ((0 : Int) = 0 ∧ x :: X = []) = false) := by unfold Hid; simp
      obtain ⟨n, hn⟩ : ∃ n, (x :: X).length = n := ⟨_, rfl⟩
      have HE2 : Hid (Calls Try.prog 24 #[.agg #[.slice p v.length c, .int .i64 r], .agg #[.slice q al.length d, .slice s ps.length f, .int .i64 z]] W0 fun e w' => ∃ p' c', e = .returned (.tuple #[.slice p' n c', .int .i64 0]) ∧ Below W0.heap.size W0 w') := by
        unfold Hid
        refine HE.out.mono ?_
        rintro e w' ⟨p', c', h1, _, h3⟩
        exact ⟨p', c', by rw [← hn]; exact h1, h3⟩
      rw [hn] at hd
      clear hn
      go_enter Try.func32, Try.ntmps32
      go_wp2_with fail
      rw [HWx.out, HW0.out]
      refine HE2.out.mono ?_
      rintro e w1 ⟨p', c', rfl, hb⟩
      go_wp2_with fail
      go_ret
      exact ⟨ret_bool hR.out.symm, hB.trans (hb.mono hB.size)⟩
  · have hd : (E == 0) = false := by rw [beq_eq_false_iff_ne]; exact h0
    have hR : Hid (decide (E = 0 ∧ X = []) = false) := by unfold Hid; simp [h0]
    clear h0
    go_enter Try.func32, Try.ntmps32
    go_wp2_with fail
    rw [HWx.out, HW0.out]
    refine HE.out.mono ?_
    rintro e w1 ⟨p', c', rfl, oX, hb⟩
    go_wp2_with fail
    go_ret
    exact ⟨ret_bool hR.out.symm, hB.trans (hb.mono hB.size)⟩
def fit14 (v : List (List Int)) (r : Int) : Bool := decide (chkR v r = 0)
theorem six_of {v : List (List Int)} {r : Int} (h : chkR v r = 0) : v.length ≤ 6 := (chkR_zero.1 h).1.2.1
set_option maxHeartbeats 1600000 in
theorem fit14_any (p : Option Addr) (c : Nat) (v : List (List Int)) (r : Int) (w : World) (hx : Mat w p c v) :
    Calls Try.prog 31 #[.agg #[.slice p v.length c, .int .i64 r]] w fun e w' => e = .returned (.bool (fit14 v r)) ∧ Below w.heap.size w w' := by
  obtain ⟨W0, hW0⟩ : ∃ W, w.alloc (.cells #[.slice p v.length c, .int .i64 r] 24) = W := ⟨_, rfl⟩
  have hB := below_alloc hW0
  have bX : BoxV W0 w.heap.size [.slice p v.length c, .int .i64 r] := BoxV.new rfl hW0
  have mX := hx.below hB (Nat.le_refl _)
  have hl := hx.length_le
  have HW0 := Lib.hid hW0
  have k0 := bX.cell 0 _ rfl
  have k1 := bX.cell 1 _ rfl
  have hC := refCheckR_any p c v r W0 mX
  clear hW0 hx
  by_cases h6 : v.length ≤ 6
  · have hd : decide ((v.length : Int) ≤ 6) = true := by rw [decide_eq_true_iff]; omega
    obtain ⟨E, eE⟩ : ∃ x, chkR v r = x := ⟨_, rfl⟩
    have hR : Hid (fit14 v r = (E == 0)) := by unfold Hid fit14; rw [eE, Bool.eq_iff_iff, decide_eq_true_iff, beq_iff_eq]
    rw [eE] at hC
    have HC := Lib.hid hC
    clear hC eE h6
    go_enter Try.func31, Try.ntmps31
    go_wp2_with fail
    rw [HW0.out]
    refine HC.out.mono ?_
    rintro e w1 ⟨rfl, hb⟩
    go_wp2_with fail
    go_ret
    exact ⟨ret_bool hR.out.symm, hB.trans (hb.mono hB.size)⟩
  · have hd : decide ((v.length : Int) ≤ 6) = false := by rw [decide_eq_false_iff_not]; omega
    have hR : Hid (fit14 v r = false) := by unfold Hid fit14; rw [decide_eq_false_iff_not]; exact fun h => h6 (six_of h)
    clear hC h6
    go_enter Try.func31, Try.ntmps31
    go_wp2_with fail
    rw [HW0.out]
    go_ret
    exact ⟨ret_bool hR.out.symm, hB⟩
end Go.Proofs.Ytojldecldemfaaa
