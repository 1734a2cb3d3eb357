/- The walk of room.Envies, for every flat and lease; no condition but the lists' sizes. -/
import Derived.Test.YtmcncflieoolmaaTopTopRentm17
import Derived.Test.YtmcncflieoolmaaTopTopRentm15
import Derived.Test.YtmcncflieoolmaaTopTopRentm12
import Derived.Test.YtmcncflieoolmaaTopTopRentm9
/- The walk of room.Envies, for every flat and lease; no condition but the lists' sizes. -/
namespace Go.Proofs.Ytmcncflieoolmaa
set_option linter.unusedVariables false
set_option linter.unusedSimpArgs false
open Go.ChangeShapes Go.WideShapes Go.ChangeAt Go.RowKit Go.Deep

/-- Whether agent i would rather have agent k's room; who envies whom, row by row. -/
def envB (v : List (List Int)) (al ps : List Int) (z : Int) (i k : Nat) : Bool := decide (gainI v ps z i (itm al i) < gainI v ps z i (itm al k))
def envRow (v : List (List Int)) (al ps : List Int) (z : Int) (i n : Nat) : List (Nat × Nat) := ((List.range n).filter fun k => envB v al ps z i k).map fun k => (i, k)
def envTo (v : List (List Int)) (al ps : List Int) (z : Int) (m n : Nat) : List (Nat × Nat) := (List.range m).flatMap fun i => envRow v al ps z i n
def envsL (v : List (List Int)) (r : Int) (al ps : List Int) (z : Int) : List (Nat × Nat) := if vldR v r al ps z = 0 then envTo v al ps z v.length v.length else []
theorem envRow_zero (v : List (List Int)) (al ps : List Int) (z : Int) (i : Nat) : envRow v al ps z i 0 = [] := rfl
theorem envRow_yes {v : List (List Int)} {al ps : List Int} {z : Int} {i k : Nat} (h : envB v al ps z i k = true) : envRow v al ps z i (k + 1) = envRow v al ps z i k ++ [(i, k)] := by
  simp [envRow, List.range_succ, List.filter_append, h]
theorem envRow_no {v : List (List Int)} {al ps : List Int} {z : Int} {i k : Nat} (h : envB v al ps z i k = false) : envRow v al ps z i (k + 1) = envRow v al ps z i k := by
  simp [envRow, List.range_succ, List.filter_append, h]
theorem envTo_succ (v : List (List Int)) (al ps : List Int) (z : Int) (m n : Nat) : envTo v al ps z (m + 1) n = envTo v al ps z m n ++ envRow v al ps z m n := by
  simp [envTo, List.range_succ, List.flatMap_append]
theorem envRow_len (v : List (List Int)) (al ps : List Int) (z : Int) (i n : Nat) : (envRow v al ps z i n).length ≤ n := by
  simp only [envRow, List.length_map]
  exact Nat.le_trans (List.length_filter_le _ _) (by simp)
theorem envTo_len (v : List (List Int)) (al ps : List Int) (z : Int) (m n : Nat) : (envTo v al ps z m n).length ≤ m * n := by
  induction m with
  | zero => simp [envTo]
  | succ m ih =>
    rw [envTo_succ, List.length_append, Nat.succ_mul]
    have := envRow_len v al ps z m n
    omega

set_option maxHeartbeats 8000000 in
set_option maxRecDepth 100000 in
/-- The closure 'gain' of Envies: it reads its flat and lease through their boxes. -/
theorem gainClo_ok (X L : Nat) (p s : Option Addr) (c f : Nat) (v : List (List Int)) (al ps : List Int) (z : Int) (i j : Nat) (w : World) (x0 : w.cell? ⟨X, 0, none⟩ = some (.slice p v.length c)) (l1 : w.cell? ⟨L, 1, none⟩ = some (.slice s ps.length f)) (l2 : w.cell? ⟨L, 2, none⟩ = some (.int .i64 z))
    (mX : Mat w p c v) (mP : Ints w s f ps) (hg : Good v al ps z) (hi : i < v.length) (hj : j < v.length) :
    Calls Try.prog 45 #[.int .i64 i, .int .i64 j, .pointer (some ⟨X, 0, none⟩), .pointer (some ⟨L, 0, none⟩)] w fun e w' => e = .returned (.int .i64 (gainI v ps z i j)) ∧ ∃ n, w' = w.drewN n := by
  obtain ⟨v1, v2⟩ := hg.bid i hi j hj
  obtain ⟨p1, p2⟩ := hg.price j hj
  obtain ⟨m1, m2⟩ := bz_bd v1 v2 hg.z1 hg.z2
  have hrow := hg.row i hi
  have hpl := hg.plen
  have h6 := hg.six
  obtain ⟨b2, o2, rfl, _, qr, dr, hc2, hI⟩ := mX.get hi
  obtain ⟨b3, o3, rfl, _, hc3⟩ := hI.get (show j < (rget v i).length by rw [hrow]; exact hj)
  obtain ⟨b4, o4, rfl, _, hc4⟩ := mP.get (show j < ps.length by rw [hpl]; exact hj)
  have hi1 : (i : Int) < v.length := by omega
  have hj1 : (j : Int) < (rget v i).length := by omega
  have hj2 : (j : Int) < ps.length := by omega
  have He : Hid (gainI v ps z i j = iget (rget v i) j * z - iget ps j) := rfl
  clear hg hrow hpl
  obtain ⟨x, hxx⟩ : ∃ x, iget (rget v i) j = x := ⟨_, rfl⟩
  obtain ⟨y, hyy⟩ : ∃ y, iget ps j = y := ⟨_, rfl⟩
  rw [hxx] at hc3 v1 v2 m1 m2 He
  rw [hyy] at hc4 p1 p2 He
  clear hxx hyy
  have hw1 : IntKind.i64.wrap (x * z) = x * z := IntWalk.i64_in _ (by omega)
  have hw2 : IntKind.i64.wrap (x * z - y) = x * z - y := IntWalk.i64_in _ (by omega)
  go_enter Try.func45, Try.ntmps45
  go_wp2_with fail
  go_quiet (fail)
  go_wp2_with fail
  go_ret
  exact ⟨ret_int (by rw [He.out]), nq, rfl⟩

set_option maxHeartbeats 8000000 in
set_option maxRecDepth 100000 in
theorem roomEnvies_any (p q s : Option Addr) (c d f : Nat) (v : List (List Int)) (r : Int) (al ps : List Int) (z : Int) (w : World) (hx : Mat w p c v) (hy : Ints w q d al) (hz : Ints w s f ps) (hl : al.length ≤ 1000000) :
    Calls Try.prog 25 #[.agg #[.slice p v.length c, .int .i64 r], .agg #[.slice q al.length d, .slice s ps.length f, .int .i64 z]] w fun e w' => ∃ p' c', e = .returned (.tuple #[.slice p' (envsL v r al ps z).length c', .int .i64 (vldR v r al ps z)]) ∧ OwnP w' w.heap.size p' c' (envsL v r al ps z) ∧ Below w.heap.size w w' := by
  obtain ⟨Wx, hWx⟩ : ∃ W, w.alloc (.cells #[.slice p v.length c, .int .i64 r] 24) = W := ⟨_, rfl⟩
  obtain ⟨W0, hW0⟩ : ∃ W, Wx.alloc (.cells #[.slice q al.length d, .slice s ps.length f, .int .i64 z] 29) = W := ⟨_, rfl⟩
  have hB1 := below_alloc hWx
  have hB2 := below_alloc hW0
  have bX : BoxV W0 w.heap.size [.slice p v.length c, .int .i64 r] := (BoxV.new rfl hWx).below hB2
  have hs : Wx.heap.size = w.heap.size + 1 := by rw [← hWx]; simp
  have bL : BoxV W0 (w.heap.size + 1) [.slice q al.length d, .slice s ps.length f, .int .i64 z] := BoxV.new hs hW0
  have hB : Below w.heap.size w W0 := hB1.trans (hB2.mono hB1.size)
  have mX := hx.below hB (Nat.le_refl _)
  have mA := hy.below hB (Nat.le_refl _)
  have mP := hz.below hB (Nat.le_refl _)
  have HWx := Lib.hid hWx
  have HW0 := Lib.hid hW0
  clear hWx hW0 hB1 hB2 hs hx hy hz
  have hvl := mX.length_le
  have hpl := mP.length_le
  have hmf : ∀ (fn : Fn) (first cap : Array Value) (w : World), (Instr.makeFunc fn first cap).run Try.prog w = .ok (.func fn first cap) w := fun _ _ _ _ => rfl
  go_enter Try.func25, Try.ntmps25
  go_wp2_with fail
  rw [HWx.out, HW0.out]
  refine (roomGains_any p q s c d f v r al ps z _ mX mA mP hl).mono ?_
  rintro e w1 ⟨pg, cg, rfl, hOg, hb⟩
  replace mX := mX.below hb (Nat.le_refl _)
  replace mA := mA.below hb (Nat.le_refl _)
  replace mP := mP.below hb (Nat.le_refl _)
  replace bX := bX.below hb
  replace bL := bL.below hb
  replace hB := hB.trans (hb.mono hB.size)
  clear hb
  have hle := hB.size
  by_cases hC : vldR v r al ps z = 0
  · have hcz : (vldR v r al ps z != 0) = false := by rw [hC]; rfl
    have HL : Hid (envsL v r al ps z = envTo v al ps z v.length v.length) := by unfold Hid envsL; rw [if_pos hC]
    have HG := Lib.hid (good_of hC)
    have HgL : gnsL v r al ps z = gainL v al ps z := by unfold gnsL; rw [if_pos hC]
    rw [HgL] at hOg ⊢
    clear HgL
    have hLl : (gainL v al ps z).length = v.length := by rw [gainL_len, HG.out.alen]
    rw [hLl]
    have HLl := Lib.hid hLl
    have HC := Lib.hid hC
    clear hC hLl
    have mG := hOg.ints
    clear hOg
    obtain ⟨B, hBB⟩ : ∃ B, w1.heap.size = B := ⟨_, rfl⟩
    have hwB : w.heap.size ≤ B := by omega
    have hlB : w.heap.size + 1 < B := by have := bL.lt; omega
    have HBB := Lib.hid hBB
    clear hBB
    go_wp2_with fail
    go_loopw [9, 24] (fun s i wr => ∃ m : Nat, m ≤ v.length ∧ i = .int .i64 m ∧ (∃ zs q d, Hid (zs = envTo v al ps z m v.length) ∧ s = .slice q (zs : List (Nat × Nat)).length d ∧ OwnP wr B q d zs) ∧ Below B w1 wr) (fun _ i _ => v.length - (intOf i).toNat)
    case atStart => exact ⟨0, by omega, rfl, ⟨[], none, 0, rfl, rfl, OwnP.ofNil _ _⟩, Below.refl _ _⟩
    case round =>
      obtain ⟨m, hm, rfl, ⟨zs, qz, dz, hzz, rfl, hO⟩, hBm⟩ := hrel
      by_cases hmv : m < v.length
      · have hmv1 : (m : Int) < v.length := by omega
        have hzm := hzz.out
        go_wp2_with fail
        go_loopw [9, 29] (fun s i wk => ∃ k : Nat, k ≤ v.length ∧ i = .int .i64 k ∧ (∃ ys q d, Hid (ys = envTo v al ps z m v.length ++ envRow v al ps z m k) ∧ s = .slice q (ys : List (Nat × Nat)).length d ∧ OwnP wk B q d ys) ∧ Below B w1 wk) (fun _ i _ => v.length - (intOf i).toNat)
        case atStart => exact ⟨0, by omega, rfl, ⟨zs, qz, dz, by unfold Hid; rw [envRow_zero, List.append_nil]; exact hzm, rfl, hO⟩, hBm⟩
        case round =>
          clear hO hBm hzm hzz
          obtain ⟨k, hk, rfl, ⟨ys, qy, dy, hyy, rfl, hO⟩, hBm⟩ := hrel
          have hsz := hBm.size
          rw [HBB.out] at hsz
          have hBm' : Below w1.heap.size w1 wr := by rw [HBB.out]; exact hBm
          by_cases hkv : k < v.length
          · have hkv1 : (k : Int) < v.length := by omega
            have hg := HG.out
            have hkA : k < al.length := by rw [hg.alen]; exact hkv
            have hmA : m < al.length := by rw [hg.alen]; exact hmv
            obtain ⟨i1, i2⟩ := hg.itm k hkv
            obtain ⟨j0, hj0⟩ : ∃ j0 : Nat, iget al k = (j0 : Int) := ⟨(iget al k).toNat, by omega⟩
            have hit : itm al k = j0 := by simp [itm, hj0]
            rw [hit] at i2
            have hE : envB v al ps z m k = decide (gainI v ps z m (itm al m) < gainI v ps z m j0) := by unfold envB; rw [hit]
            have hgm : iget (gainL v al ps z) m = gainI v ps z m (itm al m) := gainL_get hmA
            obtain ⟨b, o, rfl, hlA, hc⟩ := mA.get hkA
            rw [hj0] at hc
            obtain ⟨b5, o5, rfl, hlG, hcg⟩ := mG.get (show m < (gainL v al ps z).length by rw [HLl.out]; exact hmv)
            rw [hgm] at hcg
            have hcr := (hBm'.cell (p := ⟨b, o + k, none⟩) hlA).trans hc
            have hcgr := (hBm'.cell (p := ⟨b5, o5 + m, none⟩) hlG).trans hcg
            have bLr := bL.below hBm'
            have bXr := bX.below hBm'
            have l0 := bLr.cell 0 _ rfl
            have Hclo := Lib.hid (fun W (h : Below wr.heap.size wr W) => gainClo_ok w.heap.size (w.heap.size + 1) p s c f v al ps z m j0 W ((bXr.below h).cell 0 _ rfl) ((bLr.below h).cell 1 _ rfl) ((bLr.below h).cell 2 _ rfl) ((mX.below hBm' (Nat.le_refl _)).below h (Nat.le_refl _)) ((mP.below hBm' (Nat.le_refl _)).below h (Nat.le_refl _)) hg hmv i2)
            have hkA1 : (k : Int) < al.length := by omega
            obtain ⟨G1, hG1⟩ : ∃ G1, gainI v ps z m j0 = G1 := ⟨_, rfl⟩
            obtain ⟨G0, hG0⟩ : ∃ G0, gainI v ps z m (itm al m) = G0 := ⟨_, rfl⟩
            rw [hG0] at hcgr hE
            rw [hG1] at hE Hclo
            have HE := Lib.hid hE
            clear hc hcg hg hit hj0 hgm hE
            have h6 := HG.out.six
            have hyl : ys.length ≤ 900000 := by
              rw [hyy.out, List.length_append]
              have h1 := envTo_len v al ps z m v.length
              have h2 := envRow_len v al ps z m k
              have h3 : m * v.length ≤ 6 * 6 := Nat.mul_le_mul (by omega) h6
              omega
            by_cases hgt : G0 < G1
            · have hd : decide (G0 < G1) = true := by simpa using hgt
              have HR : Hid (envRow v al ps z m (k + 1) = envRow v al ps z m k ++ [(m, k)]) := envRow_yes (by rw [HE.out, hd])
              clear hgt
              go_wp2_with fail
              go_quiet (first | (go_at_call 45; refine Calls.quiet_of (Hclo.out _ ?_); first | exact below_drewN _ _ _ | exact ⟨rfl, rfl, rfl, Nat.le_refl _, fun _ _ => rfl⟩ | exact Below.refl _ _))
              go_wp2_with (at_builtin; refine wpList_appP rfl (.tmp 45) (.tmp 49) rfl B _ _ ys m k rfl rfl rfl (hO.drew ⟨_, rfl⟩) hyl (by simp; omega) ?_; intro p3 c3 w3 u3 hu3 hO3 hg3 hf3)
              go_roundw
              case rel => exact ⟨k + 1, by omega, by go_num, ⟨u3, _, _, by unfold Hid; rw [hu3.out, hyy.out, HR.out, List.append_assoc], rfl, hO3⟩, (hBm.drewN' nq).grown hg3 (by simp; omega) (fun k' e => (hO.lt k' e).1)⟩
              case measure => simp [intOf]; omega
            · have hd : decide (G0 < G1) = false := by simpa using hgt
              have HR : Hid (envRow v al ps z m (k + 1) = envRow v al ps z m k) := envRow_no (by rw [HE.out, hd])
              clear hgt
              go_wp2_with fail
              go_quiet (first | (go_at_call 45; refine Calls.quiet_of (Hclo.out _ ?_); first | exact below_drewN _ _ _ | exact ⟨rfl, rfl, rfl, Nat.le_refl _, fun _ _ => rfl⟩ | exact Below.refl _ _))
              go_wp2_with fail
              go_roundw
              case rel => exact ⟨k + 1, by omega, by go_num, ⟨ys, _, _, by unfold Hid; rw [hyy.out, HR.out], rfl, hO.drew ⟨_, rfl⟩⟩, hBm.drewN' nq⟩
              case measure => simp [intOf]; omega
          · have hkv1 : ¬ (k : Int) < v.length := by omega
            obtain rfl : k = v.length := by omega
            have HS := Lib.hid (envTo_succ v al ps z m v.length)
            go_wp2_with fail
            go_roundw
            case rel => exact ⟨m + 1, by omega, by go_num, ⟨ys, _, _, by unfold Hid; rw [hyy.out, HS.out], rfl, hO⟩, hBm⟩
            case measure => simp [intOf]; omega
      · have hmv1 : ¬ (m : Int) < v.length := by omega
        obtain rfl : m = v.length := by omega
        have hBm' : Below w1.heap.size w1 wr := by rw [HBB.out]; exact hBm
        have hzr := hzz.out
        subst hzr
        go_wp2_with fail
        go_ret2
        rw [HC.out, HL.out]
        exact ⟨qz, dz, rfl, hO.lower hwB, hB.trans (hBm'.mono hle)⟩
  · have hcz : (vldR v r al ps z != 0) = true := by rw [bne_iff_ne]; exact hC
    have HL : Hid (envsL v r al ps z = []) := by unfold Hid envsL; rw [if_neg hC]
    clear hC
    go_wp2_with fail
    go_ret2
    rw [HL.out]
    exact ⟨none, 0, rfl, OwnP.ofNil _ _, hB⟩
end Go.Proofs.Ytmcncflieoolmaa

/- The even lease is valid and without envy; who envies nobody; plain, no program. -/
namespace Go.Proofs.Ytmcncflieoolmaa
set_option linter.unusedVariables false
set_option linter.unusedSimpArgs false

theorem envRow_nil {v : List (List Int)} {al ps : List Int} {z : Int} {i n : Nat} : envRow v al ps z i n = [] ↔ ∀ k, k < n → envB v al ps z i k = false := by
  unfold envRow
  rw [List.map_eq_nil_iff, List.filter_eq_nil_iff]
  exact ⟨fun h k hk => by simpa using h k (List.mem_range.2 hk), fun h k hk => by rw [h k (List.mem_range.1 hk)]; simp⟩
theorem envs_nil {v : List (List Int)} {r : Int} {al ps : List Int} {z : Int} (hv : vldR v r al ps z = 0) : envsL v r al ps z = [] ↔ EF v al (iget ps) z := by
  have hA := (vld_zero.1 hv).2.1
  unfold envsL
  rw [if_pos hv]
  unfold envTo
  rw [List.flatMap_eq_nil_iff]
  constructor
  · intro h i hi j hj
    obtain ⟨k, hk, rfl⟩ := (isA_per hA).surj hj
    have := envRow_nil.1 (h i (List.mem_range.2 hi)) k hk
    unfold envB gainI at this
    rw [decide_eq_false_iff_not] at this
    omega
  · intro h i hi
    have hi := List.mem_range.1 hi
    rw [envRow_nil]
    intro k hk
    unfold envB gainI
    rw [decide_eq_false_iff_not]
    have := h i hi (itm al k) (isA_lt hA k hk).2
    omega
/-- The reference's Free. -/
def freeB (v : List (List Int)) (r : Int) (al ps : List Int) (z : Int) : Bool := decide (vldR v r al ps z = 0 ∧ envsL v r al ps z = [])
theorem least_small {v : List (List Int)} (hv : Bids v) {j : Nat} (hj : j < v.length) : 0 ≤ leastP (wl v (bestA v)) v.length j ∧ leastP (wl v (bestA v)) v.length j ≤ 1000000 * v.length := by
  have hb := bestA_best hv.1
  refine ⟨leastP_nonneg _ _ _, ?_⟩
  unfold leastP
  rcases maxTo_eq (fun i => lnkS (wl v (bestA v)) v.length i j) v.length with e | ⟨i, hi, e⟩
  · rw [e]; omega
  · rw [e]
    have hw : ∀ x y, x < v.length → y < v.length → -1000000 ≤ wl v (bestA v) x y ∧ wl v (bestA v) x y ≤ 1000000 := fun x y hx hy => by
      obtain ⟨k, hk, rfl⟩ := (isA_per hb.1).surj hx
      rw [wl_of hb.1 hk]
      have h1 := (hv.2.2 k hk).2 y hy
      have h2 := (hv.2.2 k hk).2 (itm (bestA v) k) (isA_lt hb.1 k hk).2
      unfold bid
      omega
    exact (lnk_bound (by decide) hw v.length (List.replicate v.length false) i j hi).2
theorem dvd_tdiv {x : Int} {g : Nat} (h : g ∣ x.natAbs) : x = g * x.tdiv g := by
  have h2 : (g : Int) ∣ x := Int.ofNat_dvd_left.2 h
  exact (Int.mul_tdiv_cancel' h2).symm
/-- The even lease. -/
structure EvenOk (v : List (List Int)) (r : Int) : Prop where
  vld : VldP v r (bestA v) (lowL v.length (rawP v r)) (lowN v.length (rawP v r))
  ef : EF v (bestA v) (iget (lowL v.length (rawP v r))) (lowN v.length (rawP v r))
  raw : ∃ g : Int, 0 < g ∧ (v.length : Int) = g * lowN v.length (rawP v r) ∧ ∀ j, j < v.length → iget (rawP v r) j = g * iget (lowL v.length (rawP v r)) j
theorem raw_at {v : List (List Int)} {r : Int} {j : Nat} (hj : j < v.length) : iget (rawP v r) j = v.length * leastP (wl v (bestA v)) v.length j + (r - sumTo (fun j => leastP (wl v (bestA v)) v.length j) v.length) := by
  have hl : ∀ j, j < v.length → iget (leastL v (bestA v)) j = leastP (wl v (bestA v)) v.length j := fun j hj => by simp [leastL, iget, hj]
  rw [rawP_get hj, hl j hj]
  unfold restI
  rw [sumTo_congr hl, Int.mul_comm]
theorem raw_sum {v : List (List Int)} (r : Int) : sumTo (iget (rawP v r)) v.length = v.length * r := by
  rw [sumTo_congr (fun j hj => raw_at hj), sumTo_add, sumTo_mul, sumTo_const, Int.sub_mul, Int.mul_comm r]
  have e : sumTo (fun j => leastP (wl v (bestA v)) v.length j) v.length * (v.length : Int) = v.length * sumTo (leastP (wl v (bestA v)) v.length) v.length := Int.mul_comm _ _
  rw [e]
  omega
theorem evenOk {v : List (List Int)} {r : Int} (hc : chkR v r = 0) : EvenOk v r := by
  obtain ⟨hv, hr1, hr2⟩ := chkR_zero.1 hc
  have h0 := hv.1
  have h6 := hv.2.1
  have hb := bestA_best h0
  obtain ⟨g1, g2⟩ := comm_gcd v.length (rawP v r)
  have gp := gcdL_pos (n := v.length) (rawP v r) h0
  have hg0 : (0 : Int) < (gcdL v.length (rawP v r) : Int) := by omega
  have hn : (v.length : Int) = (gcdL v.length (rawP v r) : Int) * lowN v.length (rawP v r) := by
    unfold lowN
    have := Nat.mul_div_cancel' g1
    rw [← Int.natCast_mul, this]
  have hlen := rawP_len v r
  have hp : ∀ j, j < v.length → iget (rawP v r) j = (gcdL v.length (rawP v r) : Int) * iget (lowL v.length (rawP v r)) j := fun j hj => by
    have e : iget (lowL v.length (rawP v r)) j = (iget (rawP v r) j).tdiv (gcdL v.length (rawP v r)) := by
      have hj2 : j < (rawP v r).length := by rw [hlen]; exact hj
      unfold lowL
      simp [iget, hj2]
    rw [e]
    exact dvd_tdiv (g2 _ (iget_mem (by rw [hlen]; exact hj)))
  obtain ⟨g, hg⟩ : ∃ g : Int, (gcdL v.length (rawP v r) : Int) = g := ⟨_, rfl⟩
  rw [hg] at hg0 hn
  simp only [hg] at hp
  obtain ⟨d, hd⟩ : ∃ d, lowN v.length (rawP v r) = d := ⟨_, rfl⟩
  have hLl : (lowL v.length (rawP v r)).length = v.length := by rw [lowL_length, hlen]
  obtain ⟨q, hq⟩ : ∃ q, lowL v.length (rawP v r) = q := ⟨_, rfl⟩
  rw [hd] at hn
  rw [hq] at hLl
  simp only [hq] at hp
  have hef1 : EF v (bestA v) (iget (rawP v r)) v.length := (ef_scale (k := v.length) (e := 1) (by omega) (by omega) (fun j hj => raw_at hj) hb.1).2 (ef_least h0)
  have hef2 : EF v (bestA v) (iget q) d := (ef_scale (k := g) (c := 0) hg0 hn (fun j hj => by rw [hp j hj]; omega) hb.1).1 hef1
  have hd1 : 1 ≤ d := by
    rcases Int.lt_or_le 0 d with h | h
    · omega
    · have := Int.mul_le_mul_of_nonneg_left h (Int.le_of_lt hg0)
      omega
  have hdn : d ≤ v.length := by
    have := Int.mul_le_mul_of_nonneg_right (show (1 : Int) ≤ g by omega) (show 0 ≤ d by omega)
    omega
  have hS0 : 0 ≤ sumTo (fun j => leastP (wl v (bestA v)) v.length j) v.length := sumTo_nonneg fun j hj => (least_small hv hj).1
  have hSb := (sumTo_bound (f := fun j => leastP (wl v (bestA v)) v.length j) (m := 1000000 * v.length) (n := v.length) (fun j hj => least_small hv hj) v.length (Nat.le_refl _)).2
  have hsq : ∀ n : Nat, n ≤ 6 → 0 < n → (1000000 * (n : Int)) * n ≤ 10000000 * n ∧ 1000000 * (n : Int) * (n - 1) + 10000000 ≤ 10000000 * n := by
    intro n h1 h2
    have : n = 1 ∨ n = 2 ∨ n = 3 ∨ n = 4 ∨ n = 5 ∨ n = 6 := by omega
    rcases this with rfl | rfl | rfl | rfl | rfl | rfl <;> decide
  obtain ⟨q1, q2⟩ := hsq v.length h6 h0
  have hbd : ∀ j, j < v.length → -(10000000 * (v.length : Int)) ≤ iget (rawP v r) j ∧ iget (rawP v r) j ≤ 10000000 * v.length := fun j hj => by
    obtain ⟨l1, l2⟩ := least_small hv hj
    have hs := sumTo_single_le (f := fun j => leastP (wl v (bestA v)) v.length j) (fun j hj => (least_small hv hj).1) hj
    rw [raw_at hj]
    have hs' : leastP (wl v (bestA v)) v.length j ≤ sumTo (fun j => leastP (wl v (bestA v)) v.length j) v.length := hs
    have hm0 : 0 ≤ (v.length : Int) * leastP (wl v (bestA v)) v.length j := Int.mul_nonneg (by omega) l1
    have hm1 : ((v.length : Int) - 1) * leastP (wl v (bestA v)) v.length j ≤ ((v.length : Int) - 1) * (1000000 * v.length) := Int.mul_le_mul_of_nonneg_left l2 (by omega)
    rw [Int.sub_mul, Int.one_mul] at hm1
    have hm2 : ((v.length : Int) - 1) * (1000000 * v.length) = 1000000 * (v.length : Int) * (v.length - 1) := by rw [Int.mul_comm]
    rw [hm2] at hm1
    constructor
    · omega
    · omega
  refine ⟨?_, by rw [hq, hd]; exact hef2, ⟨g, hg0, by rw [hd]; exact hn, fun j hj => by rw [hq]; exact hp j hj⟩⟩
  rw [hq, hd]
  refine ⟨hb.1, hd1, by omega, hLl, fun i hi => ?_, ?_⟩
  · rw [hLl] at hi
    obtain ⟨b1, b2⟩ := hbd i hi
    rw [hp i hi, hn] at b1 b2
    constructor
    · refine mul_le_cancel hg0 ?_
      rw [Int.mul_left_comm]
      omega
    · refine mul_le_cancel hg0 ?_
      rw [Int.mul_left_comm g]
      omega
  · have hs := raw_sum (v := v) r
    rw [sumTo_congr hp, sumTo_mul, hn, Int.mul_assoc] at hs
    rw [hLl]
    have := Int.eq_of_mul_eq_mul_left (by omega) hs
    rw [this, Int.mul_comm]
/-- What the law's double loop knows before links j, k. -/
noncomputable def rtB (v : List (List Int)) (al ps : List Int) (z : Int) (j k : Nat) : Bool :=
  decide (worthI v al = worthI v (bestA v) ∧ (∀ x, x < j → ∀ y, y < v.length → lnkS (wl v (bestA v)) v.length x y * z ≤ iget ps y - iget ps x) ∧ ∀ y, y < k → lnkS (wl v (bestA v)) v.length j y * z ≤ iget ps y - iget ps j)
theorem rtB_zero (v : List (List Int)) (al ps : List Int) (z : Int) : rtB v al ps z 0 0 = decide (worthI v al = worthI v (bestA v)) := by
  unfold rtB
  exact dec_congr ⟨fun h => h.1, fun h => ⟨h, fun x hx => absurd hx (Nat.not_lt_zero x), fun y hy => absurd hy (Nat.not_lt_zero y)⟩⟩
theorem rtB_next (v : List (List Int)) (al ps : List Int) (z : Int) (j k : Nat) : rtB v al ps z j (k + 1) = (rtB v al ps z j k && decide (lnkS (wl v (bestA v)) v.length j k * z ≤ iget ps k - iget ps j)) := by
  unfold rtB
  rw [Bool.eq_iff_iff, Bool.and_eq_true, decide_eq_true_iff, decide_eq_true_iff, decide_eq_true_iff]
  constructor
  · rintro ⟨h1, h2, h3⟩
    exact ⟨⟨h1, h2, fun y hy => h3 y (by omega)⟩, h3 k (by omega)⟩
  · rintro ⟨⟨h1, h2, h3⟩, h4⟩
    exact ⟨h1, h2, snoc_all' h3 h4⟩
theorem rtB_row (v : List (List Int)) (al ps : List Int) (z : Int) (j : Nat) : rtB v al ps z (j + 1) 0 = rtB v al ps z j v.length := by
  unfold rtB
  exact dec_congr ⟨fun ⟨h1, h2, _⟩ => ⟨h1, fun x hx => h2 x (by omega), h2 j (by omega)⟩, fun ⟨h1, h2, h3⟩ => ⟨h1, snoc_all' h2 h3, fun y hy => absurd hy (Nat.not_lt_zero y)⟩⟩
theorem rtB_end {v : List (List Int)} {r : Int} {al ps : List Int} {z : Int} (hv : vldR v r al ps z = 0) : rtB v al ps z v.length 0 = decide (envsL v r al ps z = []) := by
  obtain ⟨hc, hA, hz, _⟩ := vld_zero.1 hv
  have h0 := (chkR_zero.1 hc).1.1
  unfold rtB
  refine dec_congr ?_
  rw [envs_nil hv, ef_iff h0 hA (by omega)]
  exact ⟨fun ⟨h1, h2, _⟩ => ⟨h1, fun j k hj hk => h2 j hj k hk⟩, fun ⟨h1, h2⟩ => ⟨h1, fun x hx y hy => h2 x y hx hy, fun y hy => absurd hy (Nat.not_lt_zero y)⟩⟩
end Go.Proofs.Ytmcncflieoolmaa

/- Fractions in lowest terms: what they are worth, sums; plain, no program. -/
namespace Go.Proofs.Ytmcncflieoolmaa
set_option linter.unusedVariables false
set_option linter.unusedSimpArgs false

theorem sgn_abs (x : Int) : sgn (decide (x < 0)) x.natAbs = x := by
  unfold sgn; split <;> rename_i h <;> simp at h <;> omega
theorem sgn_natAbs (m : Bool) (a : Nat) : (sgn m a).natAbs = a := by unfold sgn; split <;> simp
theorem rN_mul {x : Int} {d : Nat} (hd : 0 < d) : rN x d * (rG x d : Nat) = x := by
  have h := Nat.div_mul_cancel (Nat.gcd_dvd_left x.natAbs d)
  have h' : x.natAbs / rG x d * rG x d = x.natAbs := h
  unfold rN sgn
  split
  · rename_i hx
    rw [decide_eq_true_iff] at hx
    rw [Int.neg_mul, ← Int.natCast_mul, h']; omega
  · rename_i hx
    rw [decide_eq_true_iff] at hx
    rw [← Int.natCast_mul, h']; omega
theorem rD_mul {x : Int} {d : Nat} : rD x d * (rG x d : Nat) = d := by
  have h := Nat.div_mul_cancel (Nat.gcd_dvd_right x.natAbs d)
  unfold rD
  rw [← Int.natCast_mul]
  exact congrArg _ h
theorem rD_pos {x : Int} {d : Nat} (hd : 0 < d) : 0 < d / rG x d := Nat.div_pos (rG_le hd) (rG_pos hd)
theorem rD_le {x : Int} {d : Nat} : d / rG x d ≤ d := Nat.div_le_self _ _
theorem rN_le {x : Int} {d : Nat} : (rN x d).natAbs ≤ x.natAbs := by
  unfold rN; rw [sgn_natAbs]; exact Nat.div_le_self _ _
theorem rN_bd {x : Int} {d : Nat} {M : Int} (h1 : -M ≤ x) (h2 : x ≤ M) : -M ≤ rN x d ∧ rN x d ≤ M := by
  have := rN_le (x := x) (d := d); omega
theorem rat_cop {x : Int} {d : Nat} (hd : 0 < d) : Nat.gcd (rN x d).natAbs (d / rG x d) = 1 := by
  unfold rN
  rw [sgn_natAbs]
  exact Nat.coprime_iff_gcd_eq_one.1 (Nat.coprime_div_gcd_div_gcd (Nat.gcd_pos_of_pos_right _ hd))
/-- A fraction in lowest terms is one fraction. -/
theorem rat_scale {x : Int} {d k : Nat} (hd : 0 < d) (hk : 0 < k) : rN (k * x) (k * d) = rN x d ∧ rD (k * x) (k * d) = rD x d := by
  have hg : rG (k * x) (k * d) = k * rG x d := by
    unfold rG; rw [Int.natAbs_mul, Int.natAbs_natCast, Nat.gcd_mul_left]
  have hs : decide ((k : Int) * x < 0) = decide (x < 0) := by
    rw [Bool.eq_iff_iff, decide_eq_true_iff, decide_eq_true_iff]
    constructor
    · intro h
      rcases Int.lt_or_le x 0 with h1 | h1
      · exact h1
      · have := Int.mul_nonneg (show (0 : Int) ≤ k by omega) h1; omega
    · intro h; exact Int.mul_neg_of_pos_of_neg (by omega) h
  unfold rN rD
  rw [hg, hs, Int.natAbs_mul, Int.natAbs_natCast, Nat.mul_div_mul_left _ _ hk, Nat.mul_div_mul_left _ _ hk]
  exact ⟨rfl, rfl⟩
theorem rat_eq {x y : Int} {d e : Nat} (hd : 0 < d) (he : 0 < e) (h : x * e = y * d) : rN x d = rN y e ∧ rD x d = rD y e := by
  obtain ⟨h1, h2⟩ := rat_scale (x := x) hd he
  obtain ⟨h3, h4⟩ := rat_scale (x := y) he hd
  have e1 : (e : Int) * x = d * y := by rw [Int.mul_comm, h, Int.mul_comm]
  rw [e1, Nat.mul_comm] at h1 h2
  exact ⟨h1.symm.trans h3, h2.symm.trans h4⟩
/-- What is in lowest terms is its own lowest terms. -/
theorem rat_self {a : Int} {b : Nat} (h : Nat.gcd a.natAbs b = 1) : rN a b = a ∧ rD a b = b := by
  have hg : rG a b = 1 := h
  unfold rN rD
  rw [hg, Nat.div_one, Nat.div_one, sgn_abs]
  exact ⟨rfl, rfl⟩
theorem rat_less {x y : Int} {d e : Nat} (hd : 0 < d) (he : 0 < e) : decide (rN x d * rD y e < rN y e * rD x d) = decide (x * e < y * d) := by
  have h1 := rN_mul (x := x) hd
  have h2 := rN_mul (x := y) he
  have h3 := rD_mul (x := x) (d := d)
  have h4 := rD_mul (x := y) (d := e)
  have g1 : (0 : Int) < (rG x d : Nat) := by have := rG_pos (x := x) hd; omega
  have g2 : (0 : Int) < (rG y e : Nat) := by have := rG_pos (x := y) he; omega
  obtain ⟨G1, e1⟩ : ∃ G : Int, ((rG x d : Nat) : Int) = G := ⟨_, rfl⟩
  obtain ⟨G2, e2⟩ : ∃ G : Int, ((rG y e : Nat) : Int) = G := ⟨_, rfl⟩
  rw [e1] at h1 h3 g1
  rw [e2] at h2 h4 g2
  obtain ⟨a, ha⟩ : ∃ a, rN x d = a := ⟨_, rfl⟩
  obtain ⟨b, hb⟩ : ∃ a, rD x d = a := ⟨_, rfl⟩
  obtain ⟨a', ha'⟩ : ∃ a, rN y e = a := ⟨_, rfl⟩
  obtain ⟨b', hb'⟩ : ∃ a, rD y e = a := ⟨_, rfl⟩
  rw [ha] at h1 ⊢
  rw [hb] at h3 ⊢
  rw [ha'] at h2 ⊢
  rw [hb'] at h4 ⊢
  have l : x * e = (G1 * G2) * (a * b') := by
    rw [← h1, ← h4]; simp only [Int.mul_comm, Int.mul_left_comm, Int.mul_assoc]
  have r : y * d = (G1 * G2) * (a' * b) := by
    rw [← h2, ← h3]; simp only [Int.mul_comm, Int.mul_left_comm, Int.mul_assoc]
  rw [l, r, Bool.eq_iff_iff, decide_eq_true_iff, decide_eq_true_iff]
  have hp : 0 < G1 * G2 := Int.mul_pos g1 g2
  exact ⟨fun h => Int.mul_lt_mul_of_pos_left h hp, fun h => Int.lt_of_mul_lt_mul_left h (Int.le_of_lt hp)⟩

/-- The sum, as both texts find it. -/
def adG (b e : Nat) : Nat := Nat.gcd b e
def adT (a c : Int) (b e : Nat) : Int := a * ((e / adG b e : Nat) : Int) + c * ((b / adG b e : Nat) : Int)
def adH (a c : Int) (b e : Nat) : Nat := Nat.gcd ((adT a c b e).natAbs % adG b e) (adG b e)
theorem ad_cop {p q r s : Nat} (h1 : Nat.gcd p r = 1) (h2 : Nat.gcd s r = 1) : Nat.Coprime (p * s) r := Nat.Coprime.mul_left h1 h2
theorem cop_add {a c : Int} {d' : Nat} {m : Nat} (h1 : Nat.Coprime a.natAbs m) (h2 : Nat.Coprime d' m) (h3 : (m : Int) ∣ c) : Nat.Coprime (a * (d' : Int) + c).natAbs m := by
  have h : Nat.Coprime (a * (d' : Int)).natAbs m := by
    rw [Int.natAbs_mul, Int.natAbs_natCast]; exact Nat.Coprime.mul_left h1 h2
  rw [Nat.coprime_iff_gcd_eq_one] at h ⊢
  refine Nat.eq_one_of_dvd_one ?_
  rw [← h]
  refine Nat.dvd_gcd ?_ (Nat.gcd_dvd_right _ _)
  have k1 : ((Nat.gcd (a * (d' : Int) + c).natAbs m : Nat) : Int) ∣ a * (d' : Int) + c := Int.ofNat_dvd_left.2 (Nat.gcd_dvd_left _ _)
  have k2 : ((Nat.gcd (a * (d' : Int) + c).natAbs m : Nat) : Int) ∣ c := Int.dvd_trans (Int.ofNat_dvd.2 (Nat.gcd_dvd_right _ _)) h3
  have k3 := Int.dvd_sub k1 k2
  rw [Int.add_sub_cancel] at k3
  exact Int.ofNat_dvd_left.1 k3
theorem ad_sum {a c : Int} {b e : Nat} (hb : 0 < b) (he : 0 < e) (h1 : Nat.gcd a.natAbs b = 1) (h2 : Nat.gcd c.natAbs e = 1) :
    rN (a * e + c * b) (b * e) = sgn (decide (adT a c b e < 0)) ((adT a c b e).natAbs / adH a c b e) ∧ rD (a * e + c * b) (b * e) = ((b / adG b e * (e / adH a c b e) : Nat) : Int) := by
  have hg : 0 < adG b e := Nat.gcd_pos_of_pos_left _ hb
  have hbd : adG b e ∣ b := Nat.gcd_dvd_left _ _
  have hed : adG b e ∣ e := Nat.gcd_dvd_right _ _
  have hcop : Nat.Coprime (b / adG b e) (e / adG b e) := Nat.coprime_div_gcd_div_gcd hg
  have hT : adT a c b e = a * ((e / adG b e : Nat) : Int) + c * ((b / adG b e : Nat) : Int) := rfl
  have hH : adH a c b e = Nat.gcd ((adT a c b e).natAbs % adG b e) (adG b e) := rfl
  obtain ⟨g, eg⟩ : ∃ g, adG b e = g := ⟨_, rfl⟩
  obtain ⟨t, et⟩ : ∃ t, adT a c b e = t := ⟨_, rfl⟩
  obtain ⟨h, eh⟩ : ∃ t, adH a c b e = t := ⟨_, rfl⟩
  rw [eg] at hg hbd hed hcop hT hH ⊢
  rw [et] at hT hH ⊢
  rw [eh] at hH ⊢
  obtain ⟨b', rfl⟩ := hbd
  obtain ⟨e', rfl⟩ := hed
  clear eg et eh
  rw [Nat.mul_div_cancel_left _ hg, Nat.mul_div_cancel_left _ hg] at hcop hT
  rw [Nat.mul_div_cancel_left _ hg]
  have hb' : 0 < b' := Nat.pos_of_mul_pos_left hb |> fun _ => by
    rcases Nat.eq_zero_or_pos b' with h | h
    · subst h; simp at hb
    · exact h
  have he' : 0 < e' := by
    rcases Nat.eq_zero_or_pos e' with h | h
    · subst h; simp at he
    · exact h
  -- t over b' e' g
  have k1 : a * ((g * e' : Nat) : Int) + c * ((g * b' : Nat) : Int) = (g : Int) * t := by
    rw [hT]; push_cast; rw [Int.mul_add]; simp only [Int.mul_comm, Int.mul_left_comm, Int.mul_assoc]
  have k2 : g * b' * (g * e') = g * (b' * e' * g) := by simp only [Nat.mul_comm, Nat.mul_left_comm, Nat.mul_assoc]
  have hp : 0 < b' * e' * g := Nat.mul_pos (Nat.mul_pos hb' he') hg
  obtain ⟨s1, s2⟩ := rat_scale (x := t) hp hg
  rw [k1, k2, s1, s2]
  -- what t has in common with b' e' g it has in common with g
  have c1 : Nat.Coprime t.natAbs b' := by
    rw [hT]
    exact cop_add (Nat.Coprime.coprime_mul_left_right h1) (Nat.Coprime.symm hcop) (Int.dvd_mul_left _ _)
  have c2 : Nat.Coprime t.natAbs e' := by
    rw [hT, Int.add_comm]
    exact cop_add (Nat.Coprime.coprime_mul_left_right h2) hcop (Int.dvd_mul_left _ _)
  have hG : rG t (b' * e' * g) = h := by
    unfold rG
    rw [Nat.Coprime.gcd_mul_left_cancel_right g (Nat.Coprime.mul_right c1 c2).symm, Nat.gcd_comm, Nat.gcd_rec, ← hH]
  have hh : 0 < h := hH ▸ Nat.gcd_pos_of_pos_right _ hg
  have hhg : h ∣ g := hH ▸ Nat.gcd_dvd_right _ _
  unfold rN rD
  rw [hG]
  refine ⟨rfl, ?_⟩
  clear hG hH
  obtain ⟨q, rfl⟩ := hhg
  rw [show b' * e' * (h * q) = h * (b' * (q * e')) by simp only [Nat.mul_comm, Nat.mul_left_comm, Nat.mul_assoc], Nat.mul_div_cancel_left _ hh, Nat.mul_assoc h, Nat.mul_div_cancel_left _ hh]
end Go.Proofs.Ytmcncflieoolmaa

/- The ranges of prices: prices by the links from a room at either end are without envy, and no price without envy lies beyond; plain, no program. -/
namespace Go.Proofs.Ytmcncflieoolmaa
set_option linter.unusedVariables false
set_option linter.unusedSimpArgs false

noncomputable def gLk (v : List (List Int)) (j k : Nat) : Int := bid (linkL v (bestA v)) j k
theorem gLk_eq {v : List (List Int)} {j k : Nat} (hj : j < v.length) (hk : k < v.length) : gLk v j k = lnkS (wl v (bestA v)) v.length j k := tab_bid _ hj hk
theorem gLk_self {v : List (List Int)} {j : Nat} (hj : j < v.length) : gLk v j j = 0 := by
  rw [gLk_eq hj hj]; exact (lnkS_clo _ _).self hj
theorem gLk_tri {v : List (List Int)} (h0 : 0 < v.length) {x y z : Nat} (hx : x < v.length) (hy : y < v.length) (hz : z < v.length) : gLk v x y + gLk v y z ≤ gLk v x z := by
  rw [gLk_eq hx hy, gLk_eq hy hz, gLk_eq hx hz]
  exact (lnkS_clo _ _).tri (noGain_best (bestA_best h0) h0) hx hy hz
theorem gLk_one {v : List (List Int)} (h0 : 0 < v.length) {x y : Nat} (hx : x < v.length) (hy : y < v.length) : wl v (bestA v) x y ≤ gLk v x y := by
  rw [gLk_eq hx hy]
  have h1 := (lnkS_clo (wl v (bestA v)) v.length).step (noGain_best (bestA_best h0) h0) hx hx hy
  rw [(lnkS_clo (wl v (bestA v)) v.length).self hx] at h1
  omega
/-- The prices with the room j at its least, at its greatest price, times the number of rooms. -/
noncomputable def xLo (v : List (List Int)) (r : Int) (j k : Nat) : Int := lowI v r j v.length - v.length * gLk v k j
noncomputable def yHi (v : List (List Int)) (r : Int) (j k : Nat) : Int := highI v r j v.length + v.length * gLk v j k
theorem xLo_ef {v : List (List Int)} (h0 : 0 < v.length) (r : Int) {j : Nat} (hj : j < v.length) : EF v (bestA v) (xLo v r j) v.length := by
  rw [ef_pot (bestA_best h0).1]
  intro y z hy hz
  have h1 := gLk_one h0 hy hz
  have h2 := gLk_tri h0 hy hz hj
  have h3 := Int.mul_le_mul_of_nonneg_left (show wl v (bestA v) y z + gLk v z j ≤ gLk v y j by omega) (show (0 : Int) ≤ v.length by omega)
  rw [Int.mul_add, Int.mul_comm _ (wl v (bestA v) y z)] at h3
  unfold xLo
  omega
theorem yHi_ef {v : List (List Int)} (h0 : 0 < v.length) (r : Int) {j : Nat} (hj : j < v.length) : EF v (bestA v) (yHi v r j) v.length := by
  rw [ef_pot (bestA_best h0).1]
  intro y z hy hz
  have h1 := gLk_one h0 hy hz
  have h2 := gLk_tri h0 hj hy hz
  have h3 := Int.mul_le_mul_of_nonneg_left (show gLk v j y + wl v (bestA v) y z ≤ gLk v j z by omega) (show (0 : Int) ≤ v.length by omega)
  rw [Int.mul_add, Int.mul_comm _ (wl v (bestA v) y z)] at h3
  unfold yHi
  omega
theorem xLo_sum (v : List (List Int)) (r : Int) (j : Nat) : sumTo (xLo v r j) v.length = v.length * r := by
  have e : sumTo (xLo v r j) v.length = sumTo (fun k => lowI v r j v.length - v.length * gLk v k j) v.length := rfl
  have h : lowI v r j v.length = r + sumTo (fun k => gLk v k j) v.length := rfl
  rw [e, sumTo_sub, sumTo_const, sumTo_mul, h, Int.add_mul, Int.mul_comm r, Int.mul_comm (sumTo (fun k => gLk v k j) v.length)]
  omega
theorem yHi_sum (v : List (List Int)) (r : Int) (j : Nat) : sumTo (yHi v r j) v.length = v.length * r := by
  have e : sumTo (yHi v r j) v.length = sumTo (fun k => highI v r j v.length + v.length * gLk v j k) v.length := rfl
  have h : highI v r j v.length = r - sumTo (gLk v j) v.length := rfl
  rw [e, sumTo_add, sumTo_const, sumTo_mul, h, Int.sub_mul, Int.mul_comm r, Int.mul_comm (sumTo (gLk v j) v.length)]
  omega
theorem nG_bd {v : List (List Int)} (hv : Bids v) {x y : Nat} (hx : x < v.length) (hy : y < v.length) : -36000000 ≤ (v.length : Int) * gLk v x y ∧ (v.length : Int) * gLk v x y ≤ 36000000 := by
  have h := linkL_bd hv hx hy
  have h' : -6000000 ≤ gLk v x y ∧ gLk v x y ≤ 6000000 := h
  have h6 := hv.2.1
  generalize v.length = n at *
  have : n = 0 ∨ n = 1 ∨ n = 2 ∨ n = 3 ∨ n = 4 ∨ n = 5 ∨ n = 6 := by omega
  rcases this with rfl | rfl | rfl | rfl | rfl | rfl | rfl <;> omega
theorem xLo_bd {v : List (List Int)} (hv : Bids v) {r : Int} (hr1 : 0 ≤ r) (hr2 : r ≤ 10000000) {j k : Nat} (hj : j < v.length) (hk : k < v.length) : -200000000 ≤ xLo v r j k ∧ xLo v r j k ≤ 200000000 := by
  have h1 := lowI_bd hv hr1 hr2 hj (Nat.le_refl _)
  have h2 := nG_bd hv hk hj
  unfold xLo; omega
theorem yHi_bd {v : List (List Int)} (hv : Bids v) {r : Int} (hr1 : 0 ≤ r) (hr2 : r ≤ 10000000) {j k : Nat} (hj : j < v.length) (hk : k < v.length) : -200000000 ≤ yHi v r j k ∧ yHi v r j k ≤ 200000000 := by
  have h1 := highI_bd hv hr1 hr2 hj (Nat.le_refl _)
  have h2 := nG_bd hv hj hk
  unfold yHi; omega
/-- Prices without envy that add up to the rent keep to the range. -/
theorem range_of {v : List (List Int)} (h0 : 0 < v.length) {al : List Int} (hA : IsA al v.length) {p : Nat → Int} {d r : Int} (hd : 0 < d) (h : EF v al p d) (hs : sumTo p v.length = r * d) {j : Nat} (hj : j < v.length) :
    lowI v r j v.length * d ≤ p j * v.length ∧ p j * v.length ≤ highI v r j v.length * d := by
  have hb := bestA_best h0
  have hl := (pot_link (lnkS_clo (wl v (bestA v)) v.length) (wl_self v (bestA v)) (Int.le_of_lt hd)).1 ((ef_pot hb.1).1 (ef_best hb h0 hA hd h).2)
  have e1 : lowI v r j v.length = r + sumTo (fun k => gLk v k j) v.length := rfl
  have e2 : highI v r j v.length = r - sumTo (gLk v j) v.length := rfl
  have s1 : sumTo (fun k => d * gLk v k j) v.length ≤ sumTo (fun k => p j - p k) v.length := sumTo_le fun k hk => by
    rw [gLk_eq hk hj, Int.mul_comm]; exact hl k j hk hj
  have s2 : sumTo (fun k => d * gLk v j k) v.length ≤ sumTo (fun k => p k - p j) v.length := sumTo_le fun k hk => by
    rw [gLk_eq hj hk, Int.mul_comm]; exact hl j k hj hk
  rw [sumTo_mul, sumTo_sub, sumTo_const, hs] at s1
  rw [sumTo_mul, sumTo_sub, sumTo_const, hs] at s2
  rw [e1, e2, Int.add_mul, Int.sub_mul, Int.mul_comm (sumTo (fun k => gLk v k j) v.length), Int.mul_comm (sumTo (gLk v j) v.length)]
  constructor <;> omega
end Go.Proofs.Ytmcncflieoolmaa
