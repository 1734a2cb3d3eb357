/- The walk of room.Envies, for every flat and lease; no condition but the lists' sizes. -/
import Derived.Test.YtojldecldemfaaaRoomL
import Derived.Test.YtojldecldemfaaaPairs
namespace Go.Proofs.Ytojldecldemfaaa
set_option linter.unusedVariables false
set_option linter.unusedSimpArgs false
open Go.ChangeShapes Go.WideShapes Go.ChangeAt Go.RowKit Go.Deep

/-- Whether agent i would rather have agent k's room; who envies whom, row by row. -/
def envB (v : List (List Int)) (al ps : List Int) (z : Int) (i k : Nat) : Bool := decide (gainI v ps z i (itm al i) < gainI v ps z i (itm al k))
def envRow (v : List (List Int)) (al ps : List Int) (z : Int) (i n : Nat) : List (Nat × Nat) := ((List.range n).filter fun k => envB v al ps z i k).map fun k => (i, k)
def envTo (v : List (List Int)) (al ps : List Int) (z : Int) (m n : Nat) : List (Nat × Nat) := (List.range m).flatMap fun i => envRow v al ps z i n
def envsL (v : List (List Int)) (r : Int) (al ps : List Int) (z : Int) : List (Nat × Nat) := if vldR v r al ps z = 0 then envTo v al ps z v.length v.length else []
theorem envRow_zero (v : List (List Int)) (al ps : List Int) (z : Int) (i : Nat) : envRow v al ps z i 0 = [] := rfl
theorem envRow_yes {v : List (List Int)} {al ps : List Int} {z : Int} {i k : Nat} (h : envB v al ps z i k = true) : envRow v al ps z i (k + 1) = envRow v al ps z i k ++ [(i, k)] := by
  simp [envRow, List.range_succ, List.filter_append, h]
theorem envRow_no {v : List (List Int)} {al ps : List Int} {z : Int} {i k : Nat} (h : envB v al ps z i k = false) : envRow v al ps z i (k + 1) = envRow v al ps z i k := by
  simp [envRow, List.range_succ, List.filter_append, h]
theorem envTo_succ (v : List (List Int)) (al ps : List Int) (z : Int) (m n : Nat) : envTo v al ps z (m + 1) n = envTo v al ps z m n ++ envRow v al ps z m n := by
  simp [envTo, List.range_succ, List.flatMap_append]
theorem envRow_len (v : List (List Int)) (al ps : List Int) (z : Int) (i n : Nat) : (envRow v al ps z i n).length ≤ n := by
  simp only [envRow, List.length_map]
  exact Nat.le_trans (List.length_filter_le _ _) (by simp)
theorem envTo_len (v : List (List Int)) (al ps : List Int) (z : Int) (m n : Nat) : (envTo v al ps z m n).length ≤ m * n := by
  induction m with
  | zero => simp [envTo]
  | succ m ih =>
    rw [envTo_succ, List.length_append, Nat.succ_mul]
    have := envRow_len v al ps z m n
    omega

set_option maxHeartbeats 8000000 in
set_option maxRecDepth 100000 in
/-- The closure 'gain' of Envies: it reads its flat and lease through their boxes. -/
theorem gainClo_ok (X L : Nat) (p s : Option Addr) (c f : Nat) (v : List (List Int)) (al ps : List Int) (z : Int) (i j : Nat) (w : World) (x0 : w.cell? ⟨X, 0, none⟩ = some (.slice p v.length c)) (l1 : w.cell? ⟨L, 1, none⟩ = some (.slice s ps.length f)) (l2 : w.cell? ⟨L, 2, none⟩ = some (.int .i64 z))
    (mX : Mat w p c v) (mP : Ints w s f ps) (hg : Good v al ps z) (hi : i < v.length) (hj : j < v.length) :
    Calls Try.prog 52 #[.int .i64 i, .int .i64 j, .pointer (some ⟨X, 0, none⟩), .pointer (some ⟨L, 0, none⟩)] w fun e w' => e = .returned (.int .i64 (gainI v ps z i j)) ∧ ∃ n, w' = w.drewN n := by
  obtain ⟨v1, v2⟩ := hg.bid i hi j hj
  obtain ⟨p1, p2⟩ := hg.price j hj
  obtain ⟨m1, m2⟩ := bz_bd v1 v2 hg.z1 hg.z2
  have hrow := hg.row i hi
  have hpl := hg.plen
  have h6 := hg.six
  obtain ⟨b2, o2, rfl, _, qr, dr, hc2, hI⟩ := mX.get hi
  obtain ⟨b3, o3, rfl, _, hc3⟩ := hI.get (show j < (rget v i).length by rw [hrow]; exact hj)
  obtain ⟨b4, o4, rfl, _, hc4⟩ := mP.get (show j < ps.length by rw [hpl]; exact hj)
  have hi1 : (i : Int) < v.length := by omega
  have hj1 : (j : Int) < (rget v i).length := by omega
  have hj2 : (j : Int) < ps.length := by omega
  have He : Hid (gainI v ps z i j = iget (rget v i) j * z - iget ps j) := rfl
  clear hg hrow hpl
  obtain ⟨x, hxx⟩ : ∃ x, iget (rget v i) j = x := ⟨_, rfl⟩
  obtain ⟨y, hyy⟩ : ∃ y, iget ps j = y := ⟨_, rfl⟩
  rw [hxx] at hc3 v1 v2 m1 m2 He
  rw [hyy] at hc4 p1 p2 He
  clear hxx hyy
  have hw1 : IntKind.i64.wrap (x * z) = x * z := IntWalk.i64_in _ (by omega)
  have hw2 : IntKind.i64.wrap (x * z - y) = x * z - y := IntWalk.i64_in _ (by omega)
  go_enter Try.func52, Try.ntmps52
  go_wp2_with fail
  go_quiet (fail)
  go_wp2_with fail
  go_ret
  exact ⟨ret_int (by rw [He.out]), nq, rfl⟩

set_option maxHeartbeats 8000000 in
set_option maxRecDepth 100000 in
theorem roomEnvies_any (p q s : Option Addr) (c d f : Nat) (v : List (List Int)) (r : Int) (al ps : List Int) (z : Int) (w : World) (hx : Mat w p c v) (hy : Ints w q d al) (hz : Ints w s f ps) (hl : al.length ≤ 1000000) :
    Calls Try.prog 23 #[.agg #[.slice p v.length c, .int .i64 r], .agg #[.slice q al.length d, .slice s ps.length f, .int .i64 z]] w fun e w' => ∃ p' c', e = .returned (.tuple #[.slice p' (envsL v r al ps z).length c', .int .i64 (vldR v r al ps z)]) ∧ OwnP w' w.heap.size p' c' (envsL v r al ps z) ∧ Below w.heap.size w w' := by
  obtain ⟨Wx, hWx⟩ : ∃ W, w.alloc (.cells #[.slice p v.length c, .int .i64 r] 24) = W := ⟨_, rfl⟩
  obtain ⟨W0, hW0⟩ : ∃ W, Wx.alloc (.cells #[.slice q al.length d, .slice s ps.length f, .int .i64 z] 28) = W := ⟨_, rfl⟩
  have hB1 := below_alloc hWx
  have hB2 := below_alloc hW0
  have bX : BoxV W0 w.heap.size [.slice p v.length c, .int .i64 r] := (BoxV.new rfl hWx).below hB2
  have hs : Wx.heap.size = w.heap.size + 1 := by rw [← hWx]; simp
  have bL : BoxV W0 (w.heap.size + 1) [.slice q al.length d, .slice s ps.length f, .int .i64 z] := BoxV.new hs hW0
  have hB : Below w.heap.size w W0 := hB1.trans (hB2.mono hB1.size)
  have mX := hx.below hB (Nat.le_refl _)
  have mA := hy.below hB (Nat.le_refl _)
  have mP := hz.below hB (Nat.le_refl _)
  have HWx := Lib.hid hWx
  have HW0 := Lib.hid hW0
  clear hWx hW0 hB1 hB2 hs hx hy hz
  have hvl := mX.length_le
  have hpl := mP.length_le
  have hmf : ∀ (fn : Fn) (first cap : Array Value) (w : World), (Instr.makeFunc fn first cap).run Try.prog w = .ok (.func fn first cap) w := fun _ _ _ _ => rfl
  go_enter Try.func23, Try.ntmps23
  go_wp2_with fail
  rw [HWx.out, HW0.out]
  refine (roomGains_any p q s c d f v r al ps z _ mX mA mP hl).mono ?_
  rintro e w1 ⟨pg, cg, rfl, hOg, hb⟩
  replace mX := mX.below hb (Nat.le_refl _)
  replace mA := mA.below hb (Nat.le_refl _)
  replace mP := mP.below hb (Nat.le_refl _)
  replace bX := bX.below hb
  replace bL := bL.below hb
  replace hB := hB.trans (hb.mono hB.size)
  clear hb
  have hle := hB.size
  by_cases hC : vldR v r al ps z = 0
  · have hcz : (vldR v r al ps z != 0) = false := by rw [hC]; rfl
    have HL : Hid (envsL v r al ps z = envTo v al ps z v.length v.length) := by unfold Hid envsL; rw [if_pos hC]
    have HG := Lib.hid (good_of hC)
    have HgL : gnsL v r al ps z = gainL v al ps z := by unfold gnsL; rw [if_pos hC]
    rw [HgL] at hOg ⊢
    clear HgL
    have hLl : (gainL v al ps z).length = v.length := by rw [gainL_len, HG.out.alen]
    rw [hLl]
    have HLl := Lib.hid hLl
    have HC := Lib.hid hC
    clear hC hLl
    have mG := hOg.ints
    clear hOg
    obtain ⟨B, hBB⟩ : ∃ B, w1.heap.size = B := ⟨_, rfl⟩
    have hwB : w.heap.size ≤ B := by omega
    have hlB : w.heap.size + 1 < B := by have := bL.lt; omega
    have HBB := Lib.hid hBB
    clear hBB
    go_wp2_with fail
    go_loopw [9, 24] (fun s i wr => ∃ m : Nat, m ≤ v.length ∧ i = .int .i64 m ∧ (∃ zs q d, Hid (zs = envTo v al ps z m v.length) ∧ s = .slice q (zs : List (Nat × Nat)).length d ∧ OwnP wr B q d zs) ∧ Below B w1 wr) (fun _ i _ => v.length - (intOf i).toNat)
    case atStart => exact ⟨0, by omega, rfl, ⟨[], none, 0, rfl, rfl, OwnP.ofNil _ _⟩, Below.refl _ _⟩
    case round =>
      obtain ⟨m, hm, rfl, ⟨zs, qz, dz, hzz, rfl, hO⟩, hBm⟩ := hrel
      by_cases hmv : m < v.length
      · have hmv1 : (m : Int) < v.length := by omega
        have hzm := hzz.out
        go_wp2_with fail
        go_loopw [9, 29] (fun s i wk => ∃ k : Nat, k ≤ v.length ∧ i = .int .i64 k ∧ (∃ ys q d, Hid (ys = envTo v al ps z m v.length ++ envRow v al ps z m k) ∧ s = .slice q (ys : List (Nat × Nat)).length d ∧ OwnP wk B q d ys) ∧ Below B w1 wk) (fun _ i _ => v.length - (intOf i).toNat)
        case atStart => exact ⟨0, by omega, rfl, ⟨zs, qz, dz, by unfold Hid; rw [envRow_zero, List.append_nil]; exact hzm, rfl, hO⟩, hBm⟩
        case round =>
          clear hO hBm hzm hzz
          obtain ⟨k, hk, rfl, ⟨ys, qy, dy, hyy, rfl, hO⟩, hBm⟩ := hrel
          have hsz := hBm.size
          rw [HBB.out] at hsz
          have hBm' : Below w1.heap.size w1 wr := by rw [HBB.out]; exact hBm
          by_cases hkv : k < v.length
          · have hkv1 : (k : Int) < v.length := by omega
            have hg := HG.out
            have hkA : k < al.length := by rw [hg.alen]; exact hkv
            have hmA : m < al.length := by rw [hg.alen]; exact hmv
            obtain ⟨i1, i2⟩ := hg.itm k hkv
            obtain ⟨j0, hj0⟩ : ∃ j0 : Nat, iget al k = (j0 : Int) := ⟨(iget al k).toNat, by omega⟩
            have hit : itm al k = j0 := by simp [itm, hj0]
            rw [hit] at i2
            have hE : envB v al ps z m k = decide (gainI v ps z m (itm al m) < gainI v ps z m j0) := by unfold envB; rw [hit]
            have hgm : iget (gainL v al ps z) m = gainI v ps z m (itm al m) := gainL_get hmA
            obtain ⟨b, o, rfl, hlA, hc⟩ := mA.get hkA
            rw [hj0] at hc
            obtain ⟨b5, o5, rfl, hlG, hcg⟩ := mG.get (show m < (gainL v al ps z).length by rw [HLl.out]; exact hmv)
            rw [hgm] at hcg
            have hcr := (hBm'.cell (p := ⟨b, o + k, none⟩) hlA).trans hc
            have hcgr := (hBm'.cell (p := ⟨b5, o5 + m, none⟩) hlG).trans hcg
            have bLr := bL.below hBm'
            have bXr := bX.below hBm'
            have l0 := bLr.cell 0 _ rfl
            have Hclo := Lib.hid (fun W (h : Below wr.heap.size wr W) => gainClo_ok w.heap.size (w.heap.size + 1) p s c f v al ps z m j0 W ((bXr.below h).cell 0 _ rfl) ((bLr.below h).cell 1 _ rfl) ((bLr.below h).cell 2 _ rfl) ((mX.below hBm' (Nat.le_refl _)).below h (Nat.le_refl _)) ((mP.below hBm' (Nat.le_refl _)).below h (Nat.le_refl _)) hg hmv i2)
            have hkA1 : (k : Int) < al.length := by omega
            obtain ⟨G1, hG1⟩ : ∃ G1, gainI v ps z m j0 = G1 := ⟨_, rfl⟩
            obtain ⟨G0, hG0⟩ : ∃ G0, gainI v ps z m (itm al m) = G0 := ⟨_, rfl⟩
            rw [hG0] at hcgr hE
            rw [hG1] at hE Hclo
            have HE := Lib.hid hE
            clear hc hcg hg hit hj0 hgm hE
            have h6 := HG.out.six
            have hyl : ys.length ≤ 900000 := by
              rw [hyy.out, List.length_append]
              have h1 := envTo_len v al ps z m v.length
              have h2 := envRow_len v al ps z m k
              have h3 : m * v.length ≤ 6 * 6 := Nat.mul_le_mul (by omega) h6
              omega
            by_cases hgt : G0 < G1
            · have hd : decide (G0 < G1) = true := by simpa using hgt
              have HR : Hid (envRow v al ps z m (k + 1) = envRow v al ps z m k ++ [(m, k)]) := envRow_yes (by rw [HE.out, hd])
              clear hgt
              go_wp2_with fail
              go_quiet (first | (go_at_call 52; refine Calls.quiet_of (Hclo.out _ ?_); first | exact below_drewN _ _ _ | exact ⟨rfl, rfl, rfl, Nat.le_refl _, fun _ _ => rfl⟩ | exact Below.refl _ _))
              go_wp2_with (at_builtin; refine wpList_appP rfl (.tmp 45) (.tmp 49) rfl B _ _ ys m k rfl rfl rfl (hO.drew ⟨_, rfl⟩) hyl (by simp; omega) ?_; intro p3 c3 w3 u3 hu3 hO3 hg3 hf3)
              go_roundw
              case rel => exact ⟨k + 1, by omega, by go_num, ⟨u3, _, _, by unfold Hid; rw [hu3.out, hyy.out, HR.out, List.append_assoc], rfl, hO3⟩, (hBm.drewN' nq).grown hg3 (by simp; omega) (fun k' e => (hO.lt k' e).1)⟩
              case measure => simp [intOf]; omega
            · have hd : decide (G0 < G1) = false := by simpa using hgt
              have HR : Hid (envRow v al ps z m (k + 1) = envRow v al ps z m k) := envRow_no (by rw [HE.out, hd])
              clear hgt
              go_wp2_with fail
              go_quiet (first | (go_at_call 52; refine Calls.quiet_of (Hclo.out _ ?_); first | exact below_drewN _ _ _ | exact ⟨rfl, rfl, rfl, Nat.le_refl _, fun _ _ => rfl⟩ | exact Below.refl _ _))
              go_wp2_with fail
              go_roundw
              case rel => exact ⟨k + 1, by omega, by go_num, ⟨ys, _, _, by unfold Hid; rw [hyy.out, HR.out], rfl, hO.drew ⟨_, rfl⟩⟩, hBm.drewN' nq⟩
              case measure => simp [intOf]; omega
          · have hkv1 : ¬ (k : Int) < v.length := by omega
            obtain rfl : k = v.length := by omega
            have HS := Lib.hid (envTo_succ v al ps z m v.length)
            go_wp2_with fail
            go_roundw
            case rel => exact ⟨m + 1, by omega, by go_num, ⟨ys, _, _, by unfold Hid; rw [hyy.out, HS.out], rfl, hO⟩, hBm⟩
            case measure => simp [intOf]; omega
      · have hmv1 : ¬ (m : Int) < v.length := by omega
        obtain rfl : m = v.length := by omega
        have hBm' : Below w1.heap.size w1 wr := by rw [HBB.out]; exact hBm
        have hzr := hzz.out
        subst hzr
        go_wp2_with fail
        go_ret2
        rw [HC.out, HL.out]
        exact ⟨qz, dz, rfl, hO.lower hwB, hB.trans (hBm'.mono hle)⟩
  · have hcz : (vldR v r al ps z != 0) = true := by rw [bne_iff_ne]; exact hC
    have HL : Hid (envsL v r al ps z = []) := by unfold Hid envsL; rw [if_neg hC]
    clear hC
    go_wp2_with fail
    go_ret2
    rw [HL.out]
    exact ⟨none, 0, rfl, OwnP.ofNil _ _, hB⟩
end Go.Proofs.Ytojldecldemfaaa
