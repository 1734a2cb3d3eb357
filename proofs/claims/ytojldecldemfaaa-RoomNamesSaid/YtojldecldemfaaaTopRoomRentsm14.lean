/- The walk of room.Envies, for every flat and lease; no condition but the lists' sizes. -/
import Derived.Test.YtojldecldemfaaaTopRoomRentsm13
import Derived.Test.YtojldecldemfaaaTopRoomRentsm12
import Derived.Outline
/- The walk of room.Envies, for every flat and lease; no condition but the lists' sizes. -/
namespace Go.Proofs.Ytojldecldemfaaa
set_option linter.unusedVariables false
set_option linter.unusedSimpArgs false
open Go.ChangeShapes Go.WideShapes Go.ChangeAt Go.RowKit Go.Deep

/-- Whether agent i would rather have agent k's room; who envies whom, row by row. -/
def envB (v : List (List Int)) (al ps : List Int) (z : Int) (i k : Nat) : Bool := decide (gainI v ps z i (itm al i) < gainI v ps z i (itm al k))
def envRow (v : List (List Int)) (al ps : List Int) (z : Int) (i n : Nat) : List (Nat × Nat) := ((List.range n).filter fun k => envB v al ps z i k).map fun k => (i, k)
def envTo (v : List (List Int)) (al ps : List Int) (z : Int) (m n : Nat) : List (Nat × Nat) := (List.range m).flatMap fun i => envRow v al ps z i n
def envsL (v : List (List Int)) (r : Int) (al ps : List Int) (z : Int) : List (Nat × Nat) := if vldR v r al ps z = 0 then envTo v al ps z v.length v.length else []
theorem envRow_zero (v : List (List Int)) (al ps : List Int) (z : Int) (i : Nat) : envRow v al ps z i 0 = [] := rfl
theorem envRow_yes {v : List (List Int)} {al ps : List Int} {z : Int} {i k : Nat} (h : envB v al ps z i k = true) : envRow v al ps z i (k + 1) = envRow v al ps z i k ++ [(i, k)] := by
  simp [envRow, List.range_succ, List.filter_append, h]
theorem envRow_no {v : List (List Int)} {al ps : List Int} {z : Int} {i k : Nat} (h : envB v al ps z i k = false) : envRow v al ps z i (k + 1) = envRow v al ps z i k := by
  simp [envRow, List.range_succ, List.filter_append, h]
theorem envTo_succ (v : List (List Int)) (al ps : List Int) (z : Int) (m n : Nat) : envTo v al ps z (m + 1) n = envTo v al ps z m n ++ envRow v al ps z m n := by
  simp [envTo, List.range_succ, List.flatMap_append]
theorem envRow_len (v : List (List Int)) (al ps : List Int) (z : Int) (i n : Nat) : (envRow v al ps z i n).length ≤ n := by
  simp only [envRow, List.length_map]
  exact Nat.le_trans (List.length_filter_le _ _) (by simp)
theorem envTo_len (v : List (List Int)) (al ps : List Int) (z : Int) (m n : Nat) : (envTo v al ps z m n).length ≤ m * n := by
  induction m with
  | zero => simp [envTo]
  | succ m ih =>
    rw [envTo_succ, List.length_append, Nat.succ_mul]
    have := envRow_len v al ps z m n
    omega

set_option maxHeartbeats 8000000 in
set_option maxRecDepth 100000 in
/-- The closure 'gain' of Envies: it reads its flat and lease through their boxes. -/
theorem gainClo_ok (X L : Nat) (p s : Option Addr) (c f : Nat) (v : List (List Int)) (al ps : List Int) (z : Int) (i j : Nat) (w : World) (x0 : w.cell? ⟨X, 0, none⟩ = some (.slice p v.length c)) (l1 : w.cell? ⟨L, 1, none⟩ = some (.slice s ps.length f)) (l2 : w.cell? ⟨L, 2, none⟩ = some (.int .i64 z))
    (mX : Mat w p c v) (mP : Ints w s f ps) (hg : Good v al ps z) (hi : i < v.length) (hj : j < v.length) :
    Calls Try.prog 52 #[.int .i64 i, .int .i64 j, .pointer (some ⟨X, 0, none⟩), .pointer (some ⟨L, 0, none⟩)] w fun e w' => e = .returned (.int .i64 (gainI v ps z i j)) ∧ ∃ n, w' = w.drewN n := by
  obtain ⟨v1, v2⟩ := hg.bid i hi j hj
  obtain ⟨p1, p2⟩ := hg.price j hj
  obtain ⟨m1, m2⟩ := bz_bd v1 v2 hg.z1 hg.z2
  have hrow := hg.row i hi
  have hpl := hg.plen
  have h6 := hg.six
  obtain ⟨b2, o2, rfl, _, qr, dr, hc2, hI⟩ := mX.get hi
  obtain ⟨b3, o3, rfl, _, hc3⟩ := hI.get (show j < (rget v i).length by rw [hrow]; exact hj)
  obtain ⟨b4, o4, rfl, _, hc4⟩ := mP.get (show j < ps.length by rw [hpl]; exact hj)
  have hi1 : (i : Int) < v.length := by omega
  have hj1 : (j : Int) < (rget v i).length := by omega
  have hj2 : (j : Int) < ps.length := by omega
  have He : Hid (gainI v ps z i j = iget (rget v i) j * z - iget ps j) := rfl
  clear hg hrow hpl
  obtain ⟨x, hxx⟩ : ∃ x, iget (rget v i) j = x := ⟨_, rfl⟩
  obtain ⟨y, hyy⟩ : ∃ y, iget ps j = y := ⟨_, rfl⟩
  rw [hxx] at hc3 v1 v2 m1 m2 He
  rw [hyy] at hc4 p1 p2 He
  clear hxx hyy
  have hw1 : IntKind.i64.wrap (x * z) = x * z := IntWalk.i64_in _ (by omega)
  have hw2 : IntKind.i64.wrap (x * z - y) = x * z - y := IntWalk.i64_in _ (by omega)
  go_enter Try.func52, Try.ntmps52
  go_wp2_with fail
  go_quiet (fail)
  go_wp2_with fail
  go_ret
  exact ⟨ret_int (by rw [He.out]), nq, rfl⟩

set_option maxHeartbeats 8000000 in
set_option maxRecDepth 100000 in
theorem roomEnvies_any (p q s : Option Addr) (c d f : Nat) (v : List (List Int)) (r : Int) (al ps : List Int) (z : Int) (w : World) (hx : Mat w p c v) (hy : Ints w q d al) (hz : Ints w s f ps) (hl : al.length ≤ 1000000) :
    Calls Try.prog 23 #[.agg #[.slice p v.length c, .int .i64 r], .agg #[.slice q al.length d, .slice s ps.length f, .int .i64 z]] w fun e w' => ∃ p' c', e = .returned (.tuple #[.slice p' (envsL v r al ps z).length c', .int .i64 (vldR v r al ps z)]) ∧ OwnP w' w.heap.size p' c' (envsL v r al ps z) ∧ Below w.heap.size w w' := by
  obtain ⟨Wx, hWx⟩ : ∃ W, w.alloc (.cells #[.slice p v.length c, .int .i64 r] 24) = W := ⟨_, rfl⟩
  obtain ⟨W0, hW0⟩ : ∃ W, Wx.alloc (.cells #[.slice q al.length d, .slice s ps.length f, .int .i64 z] 28) = W := ⟨_, rfl⟩
  have hB1 := below_alloc hWx
  have hB2 := below_alloc hW0
  have bX : BoxV W0 w.heap.size [.slice p v.length c, .int .i64 r] := (BoxV.new rfl hWx).below hB2
  have hs : Wx.heap.size = w.heap.size + 1 := by rw [← hWx]; simp
  have bL : BoxV W0 (w.heap.size + 1) [.slice q al.length d, .slice s ps.length f, .int .i64 z] := BoxV.new hs hW0
  have hB : Below w.heap.size w W0 := hB1.trans (hB2.mono hB1.size)
  have mX := hx.below hB (Nat.le_refl _)
  have mA := hy.below hB (Nat.le_refl _)
  have mP := hz.below hB (Nat.le_refl _)
  have HWx := Lib.hid hWx
  have HW0 := Lib.hid hW0
  clear hWx hW0 hB1 hB2 hs hx hy hz
  have hvl := mX.length_le
  have hpl := mP.length_le
  have hmf : ∀ (fn : Fn) (first cap : Array Value) (w : World), (Instr.makeFunc fn first cap).run Try.prog w = .ok (.func fn first cap) w := fun _ _ _ _ => rfl
  go_enter Try.func23, Try.ntmps23
  go_wp2_with fail
  rw [HWx.out, HW0.out]
  refine (roomGains_any p q s c d f v r al ps z _ mX mA mP hl).mono ?_
  rintro e w1 ⟨pg, cg, rfl, hOg, hb⟩
  replace mX := mX.below hb (Nat.le_refl _)
  replace mA := mA.below hb (Nat.le_refl _)
  replace mP := mP.below hb (Nat.le_refl _)
  replace bX := bX.below hb
  replace bL := bL.below hb
  replace hB := hB.trans (hb.mono hB.size)
  clear hb
  have hle := hB.size
  by_cases hC : vldR v r al ps z = 0
  · have hcz : (vldR v r al ps z != 0) = false := by rw [hC]; rfl
    have HL : Hid (envsL v r al ps z = envTo v al ps z v.length v.length) := by unfold Hid envsL; rw [if_pos hC]
    have HG := Lib.hid (good_of hC)
    have HgL : gnsL v r al ps z = gainL v al ps z := by unfold gnsL; rw [if_pos hC]
    rw [HgL] at hOg ⊢
    clear HgL
    have hLl : (gainL v al ps z).length = v.length := by rw [gainL_len, HG.out.alen]
    rw [hLl]
    have HLl := Lib.hid hLl
    have HC := Lib.hid hC
    clear hC hLl
    have mG := hOg.ints
    clear hOg
    obtain ⟨B, hBB⟩ : ∃ B, w1.heap.size = B := ⟨_, rfl⟩
    have hwB : w.heap.size ≤ B := by omega
    have hlB : w.heap.size + 1 < B := by have := bL.lt; omega
    have HBB := Lib.hid hBB
    clear hBB
    go_wp2_with fail
    go_loopw [9, 24] (fun s i wr => ∃ m : Nat, m ≤ v.length ∧ i = .int .i64 m ∧ (∃ zs q d, Hid (zs = envTo v al ps z m v.length) ∧ s = .slice q (zs : List (Nat × Nat)).length d ∧ OwnP wr B q d zs) ∧ Below B w1 wr) (fun _ i _ => v.length - (intOf i).toNat)
    case atStart => exact ⟨0, by omega, rfl, ⟨[], none, 0, rfl, rfl, OwnP.ofNil _ _⟩, Below.refl _ _⟩
    case round =>
      obtain ⟨m, hm, rfl, ⟨zs, qz, dz, hzz, rfl, hO⟩, hBm⟩ := hrel
      by_cases hmv : m < v.length
      · have hmv1 : (m : Int) < v.length := by omega
        have hzm := hzz.out
        go_wp2_with fail
        go_loopw [9, 29] (fun s i wk => ∃ k : Nat, k ≤ v.length ∧ i = .int .i64 k ∧ (∃ ys q d, Hid (ys = envTo v al ps z m v.length ++ envRow v al ps z m k) ∧ s = .slice q (ys : List (Nat × Nat)).length d ∧ OwnP wk B q d ys) ∧ Below B w1 wk) (fun _ i _ => v.length - (intOf i).toNat)
        case atStart => exact ⟨0, by omega, rfl, ⟨zs, qz, dz, by unfold Hid; rw [envRow_zero, List.append_nil]; exact hzm, rfl, hO⟩, hBm⟩
        case round =>
          clear hO hBm hzm hzz
          obtain ⟨k, hk, rfl, ⟨ys, qy, dy, hyy, rfl, hO⟩, hBm⟩ := hrel
          have hsz := hBm.size
          rw [HBB.out] at hsz
          have hBm' : Below w1.heap.size w1 wr := by rw [HBB.out]; exact hBm
          by_cases hkv : k < v.length
          · have hkv1 : (k : Int) < v.length := by omega
            have hg := HG.out
            have hkA : k < al.length := by rw [hg.alen]; exact hkv
            have hmA : m < al.length := by rw [hg.alen]; exact hmv
            obtain ⟨i1, i2⟩ := hg.itm k hkv
            obtain ⟨j0, hj0⟩ : ∃ j0 : Nat, iget al k = (j0 : Int) := ⟨(iget al k).toNat, by omega⟩
            have hit : itm al k = j0 := by simp [itm, hj0]
            rw [hit] at i2
            have hE : envB v al ps z m k = decide (gainI v ps z m (itm al m) < gainI v ps z m j0) := by unfold envB; rw [hit]
            have hgm : iget (gainL v al ps z) m = gainI v ps z m (itm al m) := gainL_get hmA
            obtain ⟨b, o, rfl, hlA, hc⟩ := mA.get hkA
            rw [hj0] at hc
            obtain ⟨b5, o5, rfl, hlG, hcg⟩ := mG.get (show m < (gainL v al ps z).length by rw [HLl.out]; exact hmv)
            rw [hgm] at hcg
            have hcr := (hBm'.cell (p := ⟨b, o + k, none⟩) hlA).trans hc
            have hcgr := (hBm'.cell (p := ⟨b5, o5 + m, none⟩) hlG).trans hcg
            have bLr := bL.below hBm'
            have bXr := bX.below hBm'
            have l0 := bLr.cell 0 _ rfl
            have Hclo := Lib.hid (fun W (h : Below wr.heap.size wr W) => gainClo_ok w.heap.size (w.heap.size + 1) p s c f v al ps z m j0 W ((bXr.below h).cell 0 _ rfl) ((bLr.below h).cell 1 _ rfl) ((bLr.below h).cell 2 _ rfl) ((mX.below hBm' (Nat.le_refl _)).below h (Nat.le_refl _)) ((mP.below hBm' (Nat.le_refl _)).below h (Nat.le_refl _)) hg hmv i2)
            have hkA1 : (k : Int) < al.length := by omega
            obtain ⟨G1, hG1⟩ : ∃ G1, gainI v ps z m j0 = G1 := ⟨_, rfl⟩
            obtain ⟨G0, hG0⟩ : ∃ G0, gainI v ps z m (itm al m) = G0 := ⟨_, rfl⟩
            rw [hG0] at hcgr hE
            rw [hG1] at hE Hclo
            have HE := Lib.hid hE
            clear hc hcg hg hit hj0 hgm hE
            have h6 := HG.out.six
            have hyl : ys.length ≤ 900000 := by
              rw [hyy.out, List.length_append]
              have h1 := envTo_len v al ps z m v.length
              have h2 := envRow_len v al ps z m k
              have h3 : m * v.length ≤ 6 * 6 := Nat.mul_le_mul (by omega) h6
              omega
            by_cases hgt : G0 < G1
            · have hd : decide (G0 < G1) = true := by simpa using hgt
              have HR : Hid (envRow v al ps z m (k + 1) = envRow v al ps z m k ++ [(m, k)]) := envRow_yes (by rw [HE.out, hd])
              clear hgt
              go_wp2_with fail
              go_quiet (first | (go_at_call 52; refine Calls.quiet_of (Hclo.out _ ?_); first | exact below_drewN _ _ _ | exact ⟨rfl, rfl, rfl, Nat.le_refl _, fun _ _ => rfl⟩ | exact Below.refl _ _))
              go_wp2_with (at_builtin; refine wpList_appP rfl (.tmp 45) (.tmp 49) rfl B _ _ ys m k rfl rfl rfl (hO.drew ⟨_, rfl⟩) hyl (by simp; omega) ?_; intro p3 c3 w3 u3 hu3 hO3 hg3 hf3)
              go_roundw
              case rel => exact ⟨k + 1, by omega, by go_num, ⟨u3, _, _, by unfold Hid; rw [hu3.out, hyy.out, HR.out, List.append_assoc], rfl, hO3⟩, (hBm.drewN' nq).grown hg3 (by simp; omega) (fun k' e => (hO.lt k' e).1)⟩
              case measure => simp [intOf]; omega
            · have hd : decide (G0 < G1) = false := by simpa using hgt
              have HR : Hid (envRow v al ps z m (k + 1) = envRow v al ps z m k) := envRow_no (by rw [HE.out, hd])
              clear hgt
              go_wp2_with fail
              go_quiet (first | (go_at_call 52; refine Calls.quiet_of (Hclo.out _ ?_); first | exact below_drewN _ _ _ | exact ⟨rfl, rfl, rfl, Nat.le_refl _, fun _ _ => rfl⟩ | exact Below.refl _ _))
              go_wp2_with fail
              go_roundw
              case rel => exact ⟨k + 1, by omega, by go_num, ⟨ys, _, _, by unfold Hid; rw [hyy.out, HR.out], rfl, hO.drew ⟨_, rfl⟩⟩, hBm.drewN' nq⟩
              case measure => simp [intOf]; omega
          · have hkv1 : ¬ (k : Int) < v.length := by omega
            obtain rfl : k = v.length := by omega
            have HS := Lib.hid (envTo_succ v al ps z m v.length)
            go_wp2_with fail
            go_roundw
            case rel => exact ⟨m + 1, by omega, by go_num, ⟨ys, _, _, by unfold Hid; rw [hyy.out, HS.out], rfl, hO⟩, hBm⟩
            case measure => simp [intOf]; omega
      · have hmv1 : ¬ (m : Int) < v.length := by omega
        obtain rfl : m = v.length := by omega
        have hBm' : Below w1.heap.size w1 wr := by rw [HBB.out]; exact hBm
        have hzr := hzz.out
        subst hzr
        go_wp2_with fail
        go_ret2
        rw [HC.out, HL.out]
        exact ⟨qz, dz, rfl, hO.lower hwB, hB.trans (hBm'.mono hle)⟩
  · have hcz : (vldR v r al ps z != 0) = true := by rw [bne_iff_ne]; exact hC
    have HL : Hid (envsL v r al ps z = []) := by unfold Hid envsL; rw [if_neg hC]
    clear hC
    go_wp2_with fail
    go_ret2
    rw [HL.out]
    exact ⟨none, 0, rfl, OwnP.ofNil _ _, hB⟩
end Go.Proofs.Ytojldecldemfaaa

/- What Even hands back; the walk of the reference's Even, for every flat. -/
namespace Go.Proofs.Ytojldecldemfaaa
set_option linter.unusedVariables false
set_option linter.unusedSimpArgs false
open Go.ChangeShapes Go.WideShapes Go.ChangeAt Go.RowKit Go.Deep

/-- The prices of the even lease, times the number of rooms. -/
noncomputable def restI (v : List (List Int)) (r : Int) (k : Nat) : Int := r - sumTo (iget (leastL v (bestA v))) k
noncomputable def rawP (v : List (List Int)) (r : Int) : List Int := (List.range v.length).map fun j => iget (leastL v (bestA v)) j * v.length + restI v r v.length
theorem rawP_len (v : List (List Int)) (r : Int) : (rawP v r).length = v.length := by simp [rawP]
theorem rawP_get {v : List (List Int)} {r : Int} {j : Nat} (hj : j < v.length) : iget (rawP v r) j = iget (leastL v (bestA v)) j * v.length + restI v r v.length := by simp [rawP, iget, hj]
noncomputable def evenX (v : List (List Int)) (r : Int) : List Int := if chkR v r = 0 then bestA v else []
noncomputable def evenY (v : List (List Int)) (r : Int) : List Int := if chkR v r = 0 then lowL v.length (rawP v r) else []
noncomputable def evenZ (v : List (List Int)) (r : Int) : Int := if chkR v r = 0 then lowN v.length (rawP v r) else 0
/-- The call hands back a lease and a number that is an error. -/
def GivesLease (w : World) (xs ys : List Int) (z k : Int) (e : Ending) (w' : World) : Prop :=
  ∃ p c q d, e = .returned (.tuple #[.agg #[.slice p xs.length c, .slice q ys.length d, .int .i64 z], .int .i64 k]) ∧ Ints w' p c xs ∧ Ints w' q d ys ∧ Below w.heap.size w w'

theorem least_get {v : List (List Int)} (hv : Bids v) {j : Nat} (hj : j < v.length) : 0 ≤ iget (leastL v (bestA v)) j ∧ iget (leastL v (bestA v)) j ≤ 6000000 := by
  have hb := bestA_best hv.1
  have e : iget (leastL v (bestA v)) j = leastP (wl v (bestA v)) v.length j := by simp [leastL, iget, hj]
  rw [e]
  exact ⟨leastP_nonneg _ _ j, leastP_bound hv hb.1 j⟩
theorem least_len (v : List (List Int)) : (leastL v (bestA v)).length = v.length := by simp [leastL]
theorem sum_bound {v : List (List Int)} (hv : Bids v) {k : Nat} (hk : k ≤ v.length) : 0 ≤ sumTo (iget (leastL v (bestA v))) k ∧ sumTo (iget (leastL v (bestA v))) k ≤ 36000000 := by
  have := sumTo_bound (f := iget (leastL v (bestA v))) (m := 6000000) (n := v.length) (fun i hi => least_get hv hi) k hk
  have := hv.2.1
  omega
theorem prod_bound {v : List (List Int)} (hv : Bids v) {j : Nat} (hj : j < v.length) : 0 ≤ iget (leastL v (bestA v)) j * v.length ∧ iget (leastL v (bestA v)) j * v.length ≤ 36000000 := by
  have h1 := least_get hv hj
  have h6 := hv.2.1
  refine ⟨Int.mul_nonneg h1.1 (by omega), ?_⟩
  have : iget (leastL v (bestA v)) j * v.length ≤ 6000000 * 6 := Int.mul_le_mul h1.2 (by omega) (by omega) (by omega)
  omega
theorem raw_bound {v : List (List Int)} (hv : Bids v) {r : Int} (hr1 : 0 ≤ r) (hr2 : r ≤ 10000000) : ∀ j, j < (rawP v r).length → -1000000000 ≤ iget (rawP v r) j ∧ iget (rawP v r) j ≤ 1000000000 := fun j hj => by
  rw [rawP_len] at hj
  rw [rawP_get hj]
  have h1 := prod_bound hv hj
  have h2 := sum_bound hv (Nat.le_refl v.length)
  unfold restI
  omega

theorem least_okR (p q : Option Addr) (c d : Nat) (v : List (List Int)) (w : World) (hx : Mat w p c v) (hy : Ints w q d (bestA v)) (hv : Bids v) :
    Calls Try.prog 44 #[.slice p v.length c, .slice q v.length d] w fun e w' => ∃ q d, e = .returned (.slice q v.length d) ∧ Own w' w.heap.size q d (leastL v (bestA v)) ∧ Below w.heap.size w w' := by
  refine (least_any p q c d v (bestA v) w hx hy hv (bestA_best hv.1).1).mono ?_
  rintro e w' ⟨q, d, rfl, hO, hb⟩
  exact ⟨q, d, by rw [least_len], hO, hb⟩
theorem lowest_okR (base : Nat) (p : Option Addr) (c n m : Nat) (l : List Int) (w : World) (hbase : base ≤ w.heap.size) (hm : l.length = m) (hx : Own w base p c l) (hn : 0 < n) (hn60 : n ≤ 60) (hl : l.length ≤ 60) (hb : ∀ j, j < l.length → -1000000000 ≤ iget l j ∧ iget l j ≤ 1000000000) :
    Calls Try.prog 45 #[.slice p m c, .int .i64 n] w fun e w' => ∃ q d, e = .returned (.tuple #[.slice q m d, .int .i64 (lowN n l)]) ∧ Own w' base q d (lowL n l) ∧ Below w.heap.size w w' := by
  subst hm; exact lowest_any base p c n l w hbase hx hn hn60 hl hb

/-- A block of three cells, as a result's struct lies. -/
structure Three (w : World) (S : Nat) : Prop where
  c0 : ∃ v, w.cell? ⟨S, 0, none⟩ = some v
  c1 : ∃ v, w.cell? ⟨S, 1, none⟩ = some v
  c2 : ∃ v, w.cell? ⟨S, 2, none⟩ = some v
  f0 : w.frozen? ⟨S, 0, none⟩ = false
  f1 : w.frozen? ⟨S, 1, none⟩ = false
  f2 : w.frozen? ⟨S, 2, none⟩ = false
theorem Three.new {w w' : World} {S : Nat} {x y z : Value} {t : TypeId} (hS : w.heap.size = S) (hw : w' = w.alloc (.cells #[x, y, z] t)) : Three w' S := by
  subst hS hw
  have h : ∀ k, (w.alloc (.cells #[x, y, z] t)).cell? ⟨w.heap.size, k, none⟩ = #[x, y, z][k]? := fun k => World.cell?_alloc_at _ _ _ _ rfl
  exact ⟨⟨_, h 0⟩, ⟨_, h 1⟩, ⟨_, h 2⟩, World.frozen?_alloc_at _ _ _ _ rfl, World.frozen?_alloc_at _ _ _ _ rfl, World.frozen?_alloc_at _ _ _ _ rfl⟩
theorem Three.below {w w' : World} {S B : Nat} (h : Three w S) (hb : Below B w w') (hS : S < B) : Three w' S := by
  have hc : ∀ k, w'.cell? ⟨S, k, none⟩ = w.cell? ⟨S, k, none⟩ := fun k => hb.cell (p := ⟨S, k, none⟩) hS
  have hf : ∀ k, w'.frozen? ⟨S, k, none⟩ = w.frozen? ⟨S, k, none⟩ := fun k => hb.frozen (p := ⟨S, k, none⟩) hS
  obtain ⟨v0, h0⟩ := h.c0
  obtain ⟨v1, h1⟩ := h.c1
  obtain ⟨v2, h2⟩ := h.c2
  exact ⟨⟨v0, (hc 0).trans h0⟩, ⟨v1, (hc 1).trans h1⟩, ⟨v2, (hc 2).trans h2⟩, (hf 0).trans h.f0, (hf 1).trans h.f1, (hf 2).trans h.f2⟩

theorem Three.set {w : World} {S : Nat} (h : Three w S) (x y z : Value) :
    (((w.setCell ⟨S, 0, none⟩ x).setCell ⟨S, 1, none⟩ y).setCell ⟨S, 2, none⟩ z).cell? ⟨S, 0, none⟩ = some x ∧ (((w.setCell ⟨S, 0, none⟩ x).setCell ⟨S, 1, none⟩ y).setCell ⟨S, 2, none⟩ z).cell? ⟨S, 1, none⟩ = some y ∧
    (((w.setCell ⟨S, 0, none⟩ x).setCell ⟨S, 1, none⟩ y).setCell ⟨S, 2, none⟩ z).cell? ⟨S, 2, none⟩ = some z := by
  obtain ⟨v0, h0⟩ := h.c0
  obtain ⟨v1, h1⟩ := h.c1
  obtain ⟨v2, h2⟩ := h.c2
  exact ⟨cell_other (cell_other (World.cell?_setCell_same _ _ _ h0) (by omega)) (by omega), cell_other (World.cell?_setCell_same _ _ _ (cell_other h1 (by omega))) (by omega), World.cell?_setCell_same _ _ _ (cell_other (cell_other h2 (by omega)) (by omega))⟩

set_option maxHeartbeats 8000000 in
set_option maxRecDepth 100000 in
theorem refEven_any (p : Option Addr) (c : Nat) (v : List (List Int)) (r : Int) (w : World) (hx : Mat w p c v) :
    Calls Try.prog 12 #[.agg #[.slice p v.length c, .int .i64 r]] w (GivesLease w (evenX v r) (evenY v r) (evenZ v r) (chkR v r)) := by
  obtain ⟨W0, hW0⟩ : ∃ W0, (w.alloc (.cells #[.slice p v.length c, .int .i64 r] 24)).alloc (.cells #[.slice none 0 0, .slice none 0 0, .int .i64 0] 28) = W0 := ⟨_, rfl⟩
  have hb0 : Below w.heap.size w W0 := by rw [← hW0]; exact ((Below.refl _ _).alloc (Nat.le_refl _) _).alloc (by simp) _
  have hx1 := hx.below hb0 (Nat.le_refl _)
  have hs0 : W0.heap.size = w.heap.size + 2 := by rw [← hW0]; simp
  have h3 : Three W0 (w.heap.size + 1) := Three.new (by simp) hW0.symm
  have H3 := Lib.hid h3
  clear h3
  have hbx0 : W0.cell? ⟨w.heap.size, 0, none⟩ = some (.slice p v.length c) := by rw [← hW0]; simp
  have hbx1 : W0.cell? ⟨w.heap.size, 1, none⟩ = some (.int .i64 r) := by rw [← hW0]; simp
  have HW0 := Lib.hid hW0
  have Hs0 := Lib.hid hs0
  clear hW0 hs0
  obtain ⟨i0, hi0, hz0, hz1, hz2⟩ := info_parts infoInt
  by_cases hF : chkR v r = 0
  · obtain ⟨hv, hr1, hr2⟩ := chkR_zero.1 hF
    have h6 := hv.2.1
    have h0 := hv.1
    have hcz : (chkR v r != 0) = false := by rw [hF]; rfl
    have HX : Hid (evenX v r = bestA v) := by unfold Hid evenX; rw [if_pos hF]
    have HY : Hid (evenY v r = lowL v.length (rawP v r)) := by unfold Hid evenY; rw [if_pos hF]
    have HZ : Hid (evenZ v r = lowN v.length (rawP v r)) := by unfold Hid evenZ; rw [if_pos hF]
    have HF := Lib.hid hF
    have Hv := Lib.hid hv
    clear hF hv
    go_enter Try.func12, Try.ntmps12
    go_wp2_with fail
    rw [HW0.out]
    refine (refCheckR_any p c v r _ hx1).mono ?_
    rintro e w1 ⟨rfl, hb1⟩
    have hx2 := hx1.below hb1 (Nat.le_refl _)
    have hB1 : Below W0.heap.size W0 w1 := hb1
    have hbx := (hB1.cell (p := ⟨w.heap.size, 0, none⟩) (by have := Hs0.out; simp only; omega)).trans hbx0
    clear hb1 hx1
    go_wp2_with fail
    refine (most_okR p c v w1 hx2 Hv.out).mono ?_
    rintro e w2 ⟨pa, ca, rfl, hAo, hb2⟩
    have hA := hAo.ints
    have hx3 := hx2.below hb2 (Nat.le_refl _)
    have hB2 := hB1.trans (hb2.mono hB1.size)
    have hbx := (hB2.cell (p := ⟨w.heap.size, 0, none⟩) (by have := Hs0.out; simp only; omega)).trans hbx0
    clear hb2 hx2
    go_wp2_with fail
    refine (least_okR p pa c ca v w2 hx3 hA Hv.out).mono ?_
    rintro e w3 ⟨pl, cl, rfl, hLo, hb3⟩
    have hL := hLo.ints
    have hB3 := hB2.trans (hb3.mono hB2.size)
    have hA3 := hAo.below hb3 (Nat.le_refl _)
    have hbase : w.heap.size + 2 ≤ w1.heap.size := by have := hB1.size; have := Hs0.out; omega
    have Hlen := Lib.hid (least_len v)
    have Hlb : Hid (∀ j, j < v.length → 0 ≤ iget (leastL v (bestA v)) j ∧ iget (leastL v (bestA v)) j ≤ 6000000) := fun j hj => least_get Hv.out hj
    have Hpb : Hid (∀ j, j < v.length → 0 ≤ iget (leastL v (bestA v)) j * v.length ∧ iget (leastL v (bestA v)) j * v.length ≤ 36000000) := fun j hj => prod_bound Hv.out hj
    have Hsb : Hid (∀ k, k ≤ v.length → 0 ≤ sumTo (iget (leastL v (bestA v))) k ∧ sumTo (iget (leastL v (bestA v))) k ≤ 36000000) := fun k hk => sum_bound Hv.out hk
    have Hraw : Hid (∀ j, j < v.length → iget (rawP v r) j = iget (leastL v (bestA v)) j * v.length + (r - sumTo (iget (leastL v (bestA v))) v.length)) := fun j hj => rawP_get hj
    have HXa : Hid ((bestA v).length = v.length) := (bestA_best h0).1.1
    obtain ⟨L, hLL⟩ : ∃ L, leastL v (bestA v) = L := ⟨_, rfl⟩
    rw [hLL] at hL Hlen Hlb Hpb Hsb Hraw
    clear hLL hb3 hB2 hx3 hA hbx hB1 hLo hAo
    go_wp2_with fail
    go_loop [7, 8] (fun s t => ∃ k : Nat, k ≤ v.length ∧ t = .int .i64 k ∧ s = .int .i64 (sumTo (iget L) k)) (fun _ t => v.length - (intOf t).toNat)
    case atStart => exact ⟨0, Nat.zero_le _, rfl, rfl⟩
    case round =>
      obtain ⟨k, hk, rfl, rfl⟩ := hrel
      have hsb := Hsb.out k hk
      by_cases hlt : k < v.length
      · obtain ⟨b, o, rfl, _, hc⟩ := hL.get (j := k) (by rw [Hlen.out]; exact hlt)
        have hk1 : (k : Int) < v.length := by omega
        have hlb := Hlb.out k hlt
        have Hsn : Hid (sumTo (iget L) (k + 1) = sumTo (iget L) k + iget L k) := rfl
        obtain ⟨S, hS⟩ : ∃ S, sumTo (iget L) k = S := ⟨_, rfl⟩
        obtain ⟨y, hy⟩ : ∃ y, iget L k = y := ⟨_, rfl⟩
        rw [hS] at hsb Hsn ⊢
        rw [hy] at hc hlb Hsn
        clear hS hy
        go_wp2_with fail
        go_round
        case rel => exact ⟨k + 1, by omega, by go_num, by rw [Hsn.out]⟩
        case measure => simp [intOf]; omega
      · have hk1 : ¬ (k : Int) < v.length := by omega
        obtain rfl : k = v.length := by omega
        obtain ⟨B, hB⟩ : ∃ B, w3.heap.size = B := ⟨_, rfl⟩
        have hBs : w.heap.size + 2 ≤ B := by have := hB3.size; have := Hs0.out; omega
        have HBe := Lib.hid hB
        obtain ⟨S, hS⟩ : ∃ S, sumTo (iget L) v.length = S := ⟨_, rfl⟩
        rw [hS] at hsb Hraw ⊢
        clear hS hB
        go_wp2_with fail
        go_loopw [9, 10] (fun s i wr => ∃ m : Nat, m ≤ v.length ∧ i = .int .i64 m ∧ (∃ zs q d, Hid (zs = (rawP v r).take m) ∧ s = .slice q (zs : List Int).length d ∧ Own wr B q d zs) ∧ Below B w3 wr) (fun _ i _ => v.length - (intOf i).toNat)
        case atStart => exact ⟨0, by omega, rfl, ⟨[], none, 0, rfl, rfl, Own.ofNil _ _⟩, Below.refl _ _⟩
        case round =>
          obtain ⟨m, hm, rfl, ⟨zs, q, d, hz, rfl, hO⟩, hBm⟩ := hrel
          have hsz := hBm.size
          rw [HBe.out] at hsz
          by_cases hml : m < v.length
          · obtain ⟨b, o, rfl, _, hc⟩ := (hL.below hBm (Nat.le_of_eq HBe.out)).get (j := m) (by rw [Hlen.out]; exact hml)
            have hm1 : (m : Int) < v.length := by omega
            have hlb := Hlb.out m hml
            have hpb := Hpb.out m hml
            have hbr := (hBm.cell (p := ⟨w.heap.size, 1, none⟩) (by simp only; omega)).trans ((hB3.cell (p := ⟨w.heap.size, 1, none⟩) (by have := Hs0.out; simp only; omega)).trans hbx1)
            have hzl : zs.length ≤ 900000 := by rw [hz.out, List.length_take]; omega
            have hrm := Hraw.out m hml
            have Hsn : Hid ((rawP v r).take (m + 1) = (rawP v r).take m ++ [iget (rawP v r) m]) := take_snocI (by rw [rawP_len]; exact hml)
            rw [hrm] at Hsn
            clear hrm
            obtain ⟨y, hy⟩ : ∃ y, iget L m = y := ⟨_, rfl⟩
            rw [hy] at hc hlb Hsn hpb
            clear hy
            have hy64 : in64 (y * v.length + (r - S)) := ⟨by omega, by omega⟩
            have Hwr : Hid (IntKind.i64.wrap (IntKind.i64.wrap (IntKind.i64.wrap ((v.length : Int) * y) + r) - S) = y * v.length + (r - S)) := by
              unfold Hid
              rw [Int.mul_comm, IntWalk.i64_in (y * v.length) (by omega), IntWalk.i64_in (y * v.length + r) (by omega), IntWalk.i64_in _ (by omega)]
              omega
            go_wp2_with fail
            go_region_law (refine step_append_lies _ rfl (.tmp 42) (.tmp 54) 26 rfl B 3 i0 (.int .i64 0) 1 8 Try.underlying26 hi0 hz0 hz1 hz2 rfl (by decide) (.slice q zs.length d) zs.length (zs.map (Value.int .i64)) (by simp [Act.eval, Act.put]) (show Own _ B _ _ zs from by repeat (first | exact hO | apply Own.drewN | apply Own.drew1 | apply Own.alloc)).row ⟨wr.heap.size, 0, none⟩ 1 1 [.int .i64 (IntKind.i64.wrap (IntKind.i64.wrap (IntKind.i64.wrap ((v.length : Int) * y) + r) - S))] (by simp [Act.eval, Act.put]) rfl (cell_one_new _ _ _) (by simp [Value.oneCell']) (by decide) (by simp [maxLen]; omega) (by omega) (by simp; omega) _ rfl ?_; intro g cap w4 hown3 hg3 hor3 hlt3)
            all_goals
              rw [Hwr.out] at hown3
              have hb4 : Below B w3 w4 := Below.grown (show Below B w3 _ from by repeat (first | exact hBm | apply Below.drewN' | apply Below.drew | refine Below.alloc ?_ (by first | omega | (simp; omega)) _)) hg3 (by simp; omega) (fun k' e => by rw [ownBlock_slice] at e; exact (hO.lt k' e).1)
              go_wp2_with fail
              go_roundw
              case rel => exact ⟨m + 1, by omega, by go_num, ⟨zs ++ [y * v.length + (r - S)], _, cap, by unfold Hid; rw [Hsn.out, hz.out], by simp, own_snocR hown3 hO.rng hy64⟩, hb4⟩
              case measure => simp [intOf]; omega
          · have hm1 : ¬ (m : Int) < v.length := by omega
            obtain rfl : m = v.length := by omega
            have hzr : zs = rawP v r := by rw [hz.out, List.take_of_length_le (by rw [rawP_len]; exact Nat.le_refl _)]
            subst hzr
            have Hrl := Lib.hid (rawP_len v r)
            have Hrb := Lib.hid (raw_bound Hv.out hr1 hr2)
            clear hz
            have hI := hO.ints
            have hbm : Below w3.heap.size w3 wr := by rw [HBe.out]; exact hBm
            have hB4 : Below W0.heap.size W0 wr := hB3.trans (hbm.mono hB3.size)
            rw [Hrl.out]
            go_wp2_with fail
            refine (lowest_okR B q d v.length v.length (rawP v r) wr (by omega) Hrl.out hO h0 (by omega) (by rw [Hrl.out]; omega) Hrb.out).mono ?_
            rintro e w5 ⟨q2, d2, rfl, hO2, hb5⟩
            have hA5 := (hA3.below hBm (Nat.le_of_eq HBe.out)).below hb5 (Nat.le_refl _)
            have hB5 := hB4.trans (hb5.mono hB4.size)
            have h3 := H3.out.below hB5 (by have := Hs0.out; omega)
            have H3' := Lib.hid h3
            obtain ⟨⟨x0, c0⟩, ⟨x1, c1⟩, ⟨x2, c2⟩, f0, f1, f2⟩ := h3
            have HA := Lib.hid hA5
            have HO := Lib.hid hO2
            have HB := Lib.hid (hb0.trans (hB5.mono hb0.size))
            have Hll := Lib.hid (lowL_length v.length (rawP v r))
            clear hA5 hO2 hB5 hB4 hbm hb5 hBm hB3 hb0
            go_wp2_with fail
            obtain ⟨k0, k1, k2⟩ := H3'.out.set (.slice pa v.length ca) (.slice q2 v.length d2) (.int .i64 (lowN v.length (rawP v r)))
            refine bodyPost_ret (v := .tuple #[.agg #[.slice pa v.length ca, .slice q2 v.length d2, .int .i64 (lowN v.length (rawP v r))], .int .i64 0]) (by simp [results, Try.results12, go_sem, k0, k1, k2]) rfl ?_
            rw [HX.out, HY.out, HZ.out, HF.out]
            refine ⟨pa, ca, q2, d2, by rw [HXa.out, Hll.out, Hrl.out], ?_, ?_, ?_⟩
            · exact (((HA.out.setCell_far _ (by omega)).setCell_far _ (by omega)).setCell_far _ (by omega)).ints
            · exact (((HO.out.setCell_far _ (by omega)).setCell_far _ (by omega)).setCell_far _ (by omega)).ints
            · exact ((HB.out.setCell (p := ⟨w.heap.size + 1, 0, none⟩) (by simp) _).setCell (p := ⟨w.heap.size + 1, 1, none⟩) (by simp) _).setCell (p := ⟨w.heap.size + 1, 2, none⟩) (by simp) _
  · have hcz : (chkR v r != 0) = true := by rw [bne_iff_ne]; exact hF
    have HX : Hid (evenX v r = []) := by unfold Hid evenX; rw [if_neg hF]
    have HY : Hid (evenY v r = []) := by unfold Hid evenY; rw [if_neg hF]
    have HZ : Hid (evenZ v r = 0) := by unfold Hid evenZ; rw [if_neg hF]
    clear hF
    go_enter Try.func12, Try.ntmps12
    go_wp2_with fail
    rw [HW0.out]
    refine (refCheckR_any p c v r _ hx1).mono ?_
    rintro e w1 ⟨rfl, hb1⟩
    have hx2 := hx1.below hb1 (Nat.le_refl _)
    have hbx := (hb1.cell (p := ⟨w.heap.size, 0, none⟩) (by have := Hs0.out; simp only; omega)).trans hbx0
    have hby := (hb1.cell (p := ⟨w.heap.size, 1, none⟩) (by have := Hs0.out; simp only; omega)).trans hbx1
    have h3 := H3.out.below hb1 (by have := Hs0.out; omega)
    go_wp2_with fail
    refine (refCheckR_any p c v r _ hx2).mono ?_
    rintro e w2 ⟨rfl, hb2⟩
    have hlt : w.heap.size + 1 < w1.heap.size := by have := hb1.size; have := Hs0.out; omega
    have h3 := h3.below hb2 hlt
    have H3' := Lib.hid h3
    obtain ⟨⟨x0, c0⟩, ⟨x1, c1⟩, ⟨x2, c2⟩, f0, f1, f2⟩ := h3
    have HB := Lib.hid ((hb0.trans (hb1.mono hb0.size)).trans (hb2.mono (by omega)))
    clear hb0 hb1 hb2
    go_wp2_with fail
    obtain ⟨k0, k1, k2⟩ := H3'.out.set (.slice none 0 0) (.slice none 0 0) (.int .i64 0)
    refine bodyPost_ret (v := .tuple #[.agg #[.slice none 0 0, .slice none 0 0, .int .i64 0], .int .i64 (chkR v r)]) (by simp [results, Try.results12, go_sem, k0, k1, k2]) rfl ?_
    rw [HX.out, HY.out, HZ.out]
    exact ⟨none, 0, none, 0, rfl, Ints.ofNil _, Ints.ofNil _, ((HB.out.setCell (p := ⟨w.heap.size + 1, 0, none⟩) (by simp) _).setCell (p := ⟨w.heap.size + 1, 1, none⟩) (by simp) _).setCell (p := ⟨w.heap.size + 1, 2, none⟩) (by simp) _⟩
end Go.Proofs.Ytojldecldemfaaa
