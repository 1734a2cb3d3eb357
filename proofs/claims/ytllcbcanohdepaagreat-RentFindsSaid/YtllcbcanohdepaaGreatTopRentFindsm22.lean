/- The walk of the reference's leased: the same lease as rent.lease's. -/
import Derived.Test.YtllcbcanohdepaaGreatTopRentFindsm14
import Derived.Test.YtllcbcanohdepaaGreatTopRentFindsm13
import Derived.Test.YtllcbcanohdepaaGreatTopRentFindsm11
import Derived.Test.YtllcbcanohdepaaGreatTopRentFindsm20
/- The walk of the reference's leased: the same lease as rent.lease's. -/
namespace Go.Proofs.YtllcbcanohdepaaGreat
set_option linter.unusedVariables false
set_option linter.unusedSimpArgs false
open Go.ChangeShapes Go.WideShapes Go.ChangeAt Go.RowKit Go.Deep

theorem sumG_succ (f : Nat → Int) (k : Nat) : sumTo f (k + 1) = sumTo f k + f k := rfl
set_option maxHeartbeats 8000000 in
set_option maxRecDepth 100000 in
theorem leased_any (p q s : Option Addr) (c d f : Nat) (v : List (List Int)) (r : Int) (a gs : List Int) (w : World) (hx : Mat w p c v) (hy : Ints w q d a) (hz : Ints w s f gs) (hv : Bids v) (hr1 : 0 ≤ r) (hr2 : r ≤ 10000000) (ha : IsA a v.length) (hg : SmallG gs v.length) :
    Calls Tryz.prog 22 #[.agg #[.slice p v.length c, .int .i64 r], .slice q v.length d, .slice s v.length f] w fun e w' => ∃ t u, e = .returned (.agg #[.slice q v.length d, .slice t v.length u, .int .i64 (lowN v.length (leaseL v r a gs))]) ∧ Own w' w.heap.size t u (lowL v.length (leaseL v r a gs)) ∧ Below w.heap.size w w' := by
  obtain ⟨Wx, hWx⟩ : ∃ W, w.alloc (.cells #[.slice p v.length c, .int .i64 r] 24) = W := ⟨_, rfl⟩
  obtain ⟨W0, hW0⟩ : ∃ W, Wx.alloc (.cells #[.slice none 0 0, .slice none 0 0, .int .i64 0] 27) = W := ⟨_, rfl⟩
  have hB1 := below_alloc hWx
  have hB2 := below_alloc hW0
  have hs : Wx.heap.size = w.heap.size + 1 := by rw [← hWx]; simp
  have hs0 : W0.heap.size = w.heap.size + 2 := by rw [← hW0]; simp; omega
  have bX : BoxV W0 w.heap.size [.slice p v.length c, .int .i64 r] := (BoxV.new rfl hWx).below hB2
  have hB : Below w.heap.size w W0 := hB1.trans (hB2.mono hB1.size)
  have h3 : Three W0 (w.heap.size + 1) := Three.new hs hW0.symm
  have mX := hx.below hB (Nat.le_refl _)
  have mA := hy.below hB (Nat.le_refl _)
  have mG := hz.below hB (Nat.le_refl _)
  have HWx := Lib.hid hWx
  have HW0 := Lib.hid hW0
  have H3 := Lib.hid h3
  have HB := Lib.hid hB
  clear hWx hW0 hB1 hB2 hs h3 hx hy hz
  have h0 := hv.1
  have h6 := hv.2.1
  have Hv := Lib.hid hv
  have Ha := Lib.hid ha
  have Hg := Lib.hid hg
  have Hal := Lib.hid ha.1
  have Hgl := Lib.hid hg.1
  have b0 := bX.cell 0 _ rfl
  have b1 := bX.cell 1 _ rfl
  obtain ⟨B0, hB0⟩ : ∃ B, W0.heap.size = B := ⟨_, rfl⟩
  have hbB : w.heap.size + 2 = B0 := by omega
  have HB0 := Lib.hid hB0
  -- the facts of a round
  have hfact : ∀ W i, Below B0 W0 W → i < v.length → ∃ x : Nat, iget a i = (x : Int) ∧ itm a i = x ∧ x < v.length ∧ ∃ b o bi oi di bq oq bg og, p = some ⟨b, o, none⟩ ∧ q = some ⟨bq, oq, none⟩ ∧ s = some ⟨bg, og, none⟩ ∧ W.cell? ⟨w.heap.size, 0, none⟩ = some (.slice (some ⟨b, o, none⟩) v.length c) ∧ W.cell? ⟨b, o + i, none⟩ = some (.slice (some ⟨bi, oi, none⟩) v.length di) ∧ W.cell? ⟨bi, oi + x, none⟩ = some (.int .i64 (bid v i x)) ∧ W.cell? ⟨bq, oq + i, none⟩ = some (.int .i64 (x : Int)) ∧ W.cell? ⟨bg, og + i, none⟩ = some (.int .i64 (iget gs i)) ∧ 0 ≤ bid v i x ∧ bid v i x ≤ 1000000 ∧ -10000000 ≤ iget gs i ∧ iget gs i ≤ 10000000 ∧ gvI v a gs i = bid v i x - iget gs i ∧ bq < B0 := by
    intro W i hW hi
    obtain ⟨i1, i2⟩ := isA_lt ha i hi
    obtain ⟨x, hx⟩ : ∃ x : Nat, iget a i = (x : Int) := ⟨(iget a i).toNat, by omega⟩
    have hitx : itm a i = x := by simp [itm, hx]
    have hxl : x < v.length := by omega
    have hle : W0.heap.size ≤ B0 := by omega
    obtain ⟨b, o, e1, _, qi, di, hc, hI⟩ := (mX.below hW hle).get hi
    have hrl := (hv.2.2 i hi).1
    obtain ⟨bi, oi, e2, _, hci⟩ := hI.get (j := x) (by omega)
    obtain ⟨bq, oq, e3, hbq, hcq0⟩ := mA.get (j := i) (by rw [ha.1]; exact hi)
    have hcq := (hW.cell (p := ⟨bq, oq + i, none⟩) (by simp only; omega)).trans hcq0
    obtain ⟨bg, og, e4, _, hcg⟩ := (mG.below hW hle).get (j := i) (by rw [hg.1]; exact hi)
    have hbd := (hv.2.2 i hi).2 x hxl
    have hgd := hg.2 i hi
    refine ⟨x, hx, hitx, hxl, b, o, bi, oi, di, bq, oq, bg, og, e1, e3, e4, ?_, ?_, hci, ?_, hcg, hbd.1, hbd.2, hgd.1, hgd.2, by unfold gvI; rw [hitx], by omega⟩
    · rw [← e1]; exact (hW.cell (p := ⟨w.heap.size, 0, none⟩) (by simp only; omega)).trans b0
    · rw [hc, hrl, e2]
    · rw [hcq, hx]
  have Hfact := Lib.hid hfact
  have HX1 : Hid (∀ W, Below B0 W0 W → W.cell? ⟨w.heap.size, 1, none⟩ = some (.int .i64 r)) := fun W hW => (hW.cell (p := ⟨w.heap.size, 1, none⟩) (by simp only; omega)).trans b1
  have Hsb := Lib.hid (fun k (hk : k ≤ v.length) => sum_bdG (f := gvI v a gs) h6 (fun i hi => gvI_bd hv ha hg hi) k hk)
  have Hgb := Lib.hid (fun i (hi : i < v.length) => gvI_bd hv ha hg hi)
  have Hnb := Lib.hid (fun i (hi : i < v.length) => ngv_bd hv ha hg hi)
  have Hlb := Lib.hid (fun j (hj : j < v.length) => leaseL_bd hv ha hg hr1 hr2 hj)
  clear hfact hB0 mX mG hv ha hg bX hB b0 b1 mA
  go_enter Tryz.func22, Tryz.ntmps22
  go_wp2_with (at_make; rw [HWx.out, HW0.out]; refine wpList_mk rfl (.tmp 15) (.tmp 15) rfl B0 v.length rfl rfl (by omega) (Nat.le_of_eq HB0.out.symm) ?_; intro w2 hO2 hg2 hs2)
  have hB2 : Below B0 W0 w2 := (Below.refl _ _).grown hg2 (by have := HB0.out; omega) (fun k e => by cases e)
  rw [HB0.out] at hO2
  have HO2 := Lib.hid hO2
  have HB2 := Lib.hid hB2
  clear hO2 hg2 hs2 hB2
  go_loopw [9, 10] (fun t i wr => ∃ k : Nat, k ≤ v.length ∧ i = .int .i64 k ∧ t = .int .i64 (sumTo (gvI v a gs) k) ∧ (∃ P : List Int, P.length = v.length ∧ Hid (∀ i, i < k → iget P (itm a i) = gvI v a gs i) ∧ Own wr B0 (some ⟨B0, 0, none⟩) v.length P) ∧ Below B0 W0 wr) (fun _ i _ => v.length - (intOf i).toNat)
  case atStart => exact ⟨0, Nat.zero_le _, rfl, by simp [sumTo], ⟨List.replicate v.length 0, by simp, fun i hi => absurd hi (Nat.not_lt_zero i), HO2.out⟩, HB2.out⟩
  case round =>
    obtain ⟨k, hk, rfl, rfl, ⟨P, hPl, hP, hO⟩, hBk⟩ := hrel
    have hrb := Hsb.out k hk
    by_cases hlt : k < v.length
    · have hk1 : (k : Int) < v.length := by omega
      obtain ⟨x, hx, hitx, hxl, b, o, bi, oi, di, bq, oq, bg, og, rfl, rfl, rfl, c0, c2, c3, c4, c5, d1, d2, d3, d4, hgv, hbq⟩ := Hfact.out wr k hBk hlt
      have hxl1 : (x : Int) < v.length := by omega
      have Hsn := Lib.hid (sumG_succ (gvI v a gs) k)
      have cF := hO.free x
      have cX := hO.at (j := x) (by omega)
      have HPx : Hid (∀ u, u = gvI v a gs k → ∀ i, i < k + 1 → iget (P.set x u) (itm a i) = gvI v a gs i) := by
        intro u hu i hi
        rw [iget_set (by omega)]
        by_cases e : i = k
        · subst e; rw [hitx, if_pos rfl]; exact hu
        · have : x ≠ itm a i := fun e2 => e ((isA_per Ha.out).inj i k (by omega) hlt (by rw [hitx, e2]))
          rw [if_neg this]
          exact hP.out i (by omega)
      have Hgv := Lib.hid hgv
      have HPl := Lib.hid hPl
      generalize sumTo (gvI v a gs) k = R at *
      generalize bid v k x = y1 at *
      generalize iget gs k = y2 at *
      have hin4 : in64 (y1 - y2) := ⟨by omega, by omega⟩
      have hw1 : IntKind.i64.wrap (y1 - y2) = y1 - y2 := IntWalk.i64_in _ (by omega)
      have hw2 : IntKind.i64.wrap (R + (y1 - y2)) = R + (y1 - y2) := IntWalk.i64_in _ (by omega)
      have HO := Lib.hid hO
      have HBk := Lib.hid hBk
      have HOn := Lib.hid (hO.set x hin4).1
      have hcn := (hO.set x hin4).1.at (j := x) (by rw [List.length_set]; omega)
      rw [iget_set (by omega), if_pos rfl] at hcn
      have hc4n := (World.cell?_setCell_other wr ⟨B0, x, none⟩ ⟨bq, oq + k, none⟩ (.int .i64 (y1 - y2)) (ne_blk (by omega))).trans c4
      clear hgv hO hBk hP hPl
      go_wp2_with fail
      go_still_tail 22, (by kernel_rfl)
      go_wp2_with fail
      go_roundw
      case rel => exact ⟨k + 1, by omega, by go_num, by rw [Hsn.out, Hgv.out], ⟨P.set x (y1 - y2), by simp [HPl.out], HPx.out _ Hgv.out.symm, HOn.out.drew1⟩, (HBk.out.setCell (p := ⟨B0, x, none⟩) (Nat.le_refl _) _).drew⟩
      case measure => (simp [intOf] <;> omega)
    · have hk1 : ¬ (k : Int) < v.length := by omega
      obtain rfl : v.length = k := by omega
      have HO := Lib.hid hO
      have HBk := Lib.hid hBk
      have HPl := Lib.hid hPl
      have Hnew : Hid (∀ j, j < v.length → iget (leaseL v r a gs) j = iget P j * v.length + r - sumTo (gvI v a gs) v.length ∧ -66000000 ≤ iget P j * v.length ∧ iget P j * v.length ≤ 66000000) := fun j hj => by
        obtain ⟨i, hi, rfl⟩ := (isA_per Ha.out).surj hj
        rw [leaseL_get Ha.out hi, hP.out i hi]
        have := Hnb.out i hi
        rw [Int.mul_comm] at this
        unfold prI rstI
        refine ⟨?_, this⟩
        rw [Int.mul_comm]; omega
      obtain ⟨R, hR⟩ : ∃ R, sumTo (gvI v a gs) v.length = R := ⟨_, rfl⟩
      rw [hR] at Hnew hrb ⊢
      clear hO hBk hPl hP hR
      obtain ⟨w3, rfl⟩ : ∃ W, W = wr := ⟨_, rfl⟩
      go_wp2_with fail
      go_loopw [11] (fun i wr => ∃ j : Nat, j ≤ v.length ∧ i = .int .i64 j ∧ (∃ L : List Int, L.length = v.length ∧ Hid (∀ i, i < v.length → iget L i = if i < j then iget (leaseL v r a gs) i else iget P i) ∧ Own wr B0 (some ⟨B0, 0, none⟩) v.length L) ∧ Below B0 W0 wr) (fun i _ => v.length - (intOf i).toNat)
      case atStart => exact ⟨0, Nat.zero_le _, rfl, ⟨P, HPl.out, fun i hi => by rw [if_neg (Nat.not_lt_zero i)], HO.out⟩, HBk.out⟩
      case round =>
        obtain ⟨j, hj, rfl, ⟨L, hLl, hL, hO⟩, hBk⟩ := hrel
        by_cases hlt : j < v.length
        · have hj1 : (j : Int) < v.length := by omega
          have cF := hO.free j
          have cX := hO.at (j := j) (by omega)
          have hLj := hL.out j hlt
          rw [if_neg (Nat.lt_irrefl j)] at hLj
          rw [hLj] at cX
          obtain ⟨n1, n2, n3⟩ := Hnew.out j hlt
          have k1 := HX1.out wr hBk
          have hb := Hlb.out j hlt
          rw [n1] at hb
          have Hn1 := Lib.hid n1
          generalize iget P j = y at *
          have w1 : IntKind.i64.wrap (y * v.length) = y * v.length := IntWalk.i64_in _ (by omega)
          have w2 : IntKind.i64.wrap (y * v.length + r) = y * v.length + r := IntWalk.i64_in _ (by omega)
          have w3' : IntKind.i64.wrap (y * v.length + r - R) = y * v.length + r - R := IntWalk.i64_in _ (by omega)
          have hin : in64 (y * v.length + r - R) := ⟨by omega, by omega⟩
          have HLn : Hid (∀ i, i < v.length → iget (L.set j (y * v.length + r - R)) i = if i < j + 1 then iget (leaseL v r a gs) i else iget P i) := fun i hi => by
            rw [iget_set (by omega)]
            by_cases e : j = i
            · subst e; rw [if_pos rfl, if_pos (by omega), Hn1.out]
            · rw [if_neg e, hL.out i hi]
              by_cases e2 : i < j
              · rw [if_pos e2, if_pos (by omega)]
              · rw [if_neg e2, if_neg (by omega)]
          have HO := Lib.hid (hO.set j hin).1
          have HBk := Lib.hid hBk
          have HLl := Lib.hid hLl
          clear hO hBk hLl hL n1 n2 n3 hLj hb
          go_wp2_with fail
          go_still_tail 14, (by kernel_rfl)
          go_wp2_with fail
          go_roundw
          case rel => exact ⟨j + 1, by omega, by go_num, ⟨L.set j (y * v.length + r - R), by simp [HLl.out], HLn.out, HO.out.drew1⟩, (HBk.out.setCell (p := ⟨B0, j, none⟩) (Nat.le_refl _) _).drew⟩
          case measure => (simp [intOf] <;> omega)
        · have hj1 : ¬ (j : Int) < v.length := by omega
          obtain rfl : v.length = j := by omega
          have hLe : L = leaseL v r a gs := ints_ext' (fun i hi => by rw [hLl] at hi; rw [hL.out i hi, if_pos hi]) (by rw [hLl, leaseL_len])
          have HBk := Lib.hid hBk
          have hsz : B0 ≤ wr.heap.size := by have := hBk.size; have := HB0.out; omega
          have HC : Hid (Calls Tryz.prog 43 #[.slice (some ⟨B0, 0, none⟩) v.length v.length, .int .i64 v.length] wr fun e w' => ∃ q d, e = .returned (.tuple #[.slice q v.length d, .int .i64 (lowN v.length (leaseL v r a gs))]) ∧ Own w' B0 q d (lowL v.length (leaseL v r a gs)) ∧ Below wr.heap.size wr w') := by
            rw [hLe] at hO
            have h := lowest_any B0 (some ⟨B0, 0, none⟩) v.length v.length (leaseL v r a gs) wr hsz hO h0 (by omega) (by rw [leaseL_len]; omega) (fun j hj => by rw [leaseL_len] at hj; have := Hlb.out j hj; omega)
            rw [leaseL_len] at h
            exact h
          have h3 := H3.out.below hBk (by omega)
          clear hO hBk hLl hL hLe
          obtain ⟨Z, hZ⟩ : ∃ Z, lowN v.length (leaseL v r a gs) = Z := ⟨_, rfl⟩
          rw [hZ] at HC
          have HZ := Lib.hid hZ
          clear hZ
          go_wp2_with fail
          refine HC.out.mono ?_
          rintro e w5 ⟨t, u, rfl, hOt, hb⟩
          have h35 := h3.below hb (by omega)
          have H35 := Lib.hid h35
          have HOt := Lib.hid hOt
          have HB5 := Lib.hid (HB.out.trans ((HBk.out.mono (by omega)).trans (hb.mono (by omega))))
          obtain ⟨⟨x0, t0⟩, ⟨x1, t1⟩, ⟨x2, t2⟩, u0, u1, u2⟩ := h35
          clear hb hOt h3
          go_wp2_with fail
          clear t0 t1 t2 u0 u1 u2
          obtain ⟨k0, k1, k2⟩ := H35.out.set (.slice q v.length d) (.slice t v.length u) (.int .i64 Z)
          refine bodyPost_ret (v := .agg #[.slice q v.length d, .slice t v.length u, .int .i64 Z]) (by simp [results, Tryz.results22, go_sem, k0, k1, k2]) rfl ?_
          refine ⟨t, u, by rw [HZ.out], ?_, ?_⟩
          · exact (((HOt.out.setCell_far (j := 0) _ (by omega)).setCell_far (j := 1) _ (by omega)).setCell_far (j := 2) _ (by omega)).lower (by omega)
          · exact ((HB5.out.setCell (p := ⟨w.heap.size + 1, 0, none⟩) (by simp) _).setCell (p := ⟨w.heap.size + 1, 1, none⟩) (by simp) _).setCell (p := ⟨w.heap.size + 1, 2, none⟩) (by simp) _
end Go.Proofs.YtllcbcanohdepaaGreat

/- The invariant of a region that calls for a row (operation 4), calls with it for a lease (5) and stores the lease (6); no condition. -/
namespace Go.Proofs.YtllcbcanohdepaaGreat
set_option linter.unusedVariables false
set_option linter.unusedSimpArgs false
open Go.ChangeShapes Go.WideShapes Go.ChangeAt Go.RowKit Go.Deep

structure RetJ (B : World) (b0 S n : Nat) (val : Nat → Value) (x : Value) (y : Option Addr → Nat → Value) (z : Value) (G L : List Int) (us : Nat → Value) (D : Nat → Prop) (W : World) : Prop where
  val : ∀ k, k ≠ 4 → k ≠ 5 → k ≠ 6 → D k → us k = val k
  bel : Below b0 B W
  pre : ¬ D 6 → Below B.heap.size B W
  r4 : D 4 → ¬ D 6 → ∃ s f, us 4 = .slice s n f ∧ Ints W s f G
  r5 : D 5 → ∃ t u, us 5 = .agg #[x, y t u, z] ∧ Own W B.heap.size t u L ∧ (D 6 → W.cell? ⟨S, 0, none⟩ = some x ∧ W.cell? ⟨S, 1, none⟩ = some (y t u) ∧ W.cell? ⟨S, 2, none⟩ = some z)
  o5 : D 5 → D 4
  o6 : D 6 → D 5
  far : ∀ T k, T < B.heap.size → T ≠ S → W.cell? ⟨T, k, none⟩ = B.cell? ⟨T, k, none⟩
section
variable {B : World} {b0 S n : Nat} {val : Nat → Value} {x : Value} {y : Option Addr → Nat → Value} {z : Value} {G L : List Int} {us : Nat → Value} {D : Nat → Prop} {W W' : World}
theorem RetJ.start (us : Nat → Value) : RetJ B b0 S n val x y z G L us (fun _ => False) B.drew :=
  ⟨fun k _ _ _ h => h.elim, below_drewN _ _ 1, fun _ => below_drewN _ _ 1, fun h => h.elim, fun h => h.elim, fun h => h, fun h => h, fun T k hT _ => (below_drewN B.heap.size B 1).cell (p := ⟨T, k, none⟩) hT⟩
theorem RetJ.pure (h : RetJ B b0 S n val x y z G L us D W) {i : Nat} (h4 : i ≠ 4) (h5 : i ≠ 5) (h6 : i ≠ 6) : RetJ B b0 S n val x y z G L (upd us i (val i)) (fun k => k = i ∨ D k) W := by
  refine ⟨fun k k4 k5 k6 hd => ?_, h.bel, fun hd => h.pre fun h2 => hd (.inr h2), fun hd hd6 => ?_, fun hd => ?_, fun hd => .inr (h.o5 (or_ne hd (Ne.symm h5))), fun hd => .inr (h.o6 (or_ne hd (Ne.symm h6))), h.far⟩
  · by_cases e : k = i
    · subst e; rw [upd_same]
    · rw [upd_ne e]; exact h.val k k4 k5 k6 (or_ne hd e)
  · rw [upd_ne (Ne.symm h4)]; exact h.r4 (or_ne hd (Ne.symm h4)) fun h2 => hd6 (.inr h2)
  · rw [upd_ne (Ne.symm h5)]
    obtain ⟨t, u, e, hO, hc⟩ := h.r5 (or_ne hd (Ne.symm h5))
    exact ⟨t, u, e, hO, fun hd6 => hc (or_ne hd6 (Ne.symm h6))⟩
theorem RetJ.call4 (h : RetJ B b0 S n val x y z G L us D W) (hn : ¬ D 4) {s : Option Addr} {f : Nat} (hb0 : b0 ≤ B.heap.size) (hb : Below W.heap.size W W') (hi : Ints W' s f G) : RetJ B b0 S n val x y z G L (upd us 4 (.slice s n f)) (fun k => k = 4 ∨ D k) W' := by
  have n5 : ¬ D 5 := fun h5 => hn (h.o5 h5)
  have n6 : ¬ D 6 := fun h6 => n5 (h.o6 h6)
  have hs := h.bel.size
  refine ⟨fun k k4 k5 k6 hd => ?_, h.bel.trans (hb.mono (by omega)), fun _ => (h.pre n6).trans (hb.mono hs), fun _ _ => ⟨s, f, by rw [upd_same], hi⟩, fun hd => (n5 (or_ne hd (by decide))).elim, fun hd => .inl rfl, fun hd => (n6 (or_ne hd (by decide))).elim, fun T k hT hne => (hb.cell (p := ⟨T, k, none⟩) (by simp only; omega)).trans (h.far T k hT hne)⟩
  rw [upd_ne k4]; exact h.val k k4 k5 k6 (or_ne hd k4)
theorem RetJ.call5 (h : RetJ B b0 S n val x y z G L us D W) (hn : ¬ D 5) (h4 : D 4) {t : Option Addr} {u : Nat} (hb0 : b0 ≤ B.heap.size) (hb : Below W.heap.size W W') (hi : Own W' W.heap.size t u L) : RetJ B b0 S n val x y z G L (upd us 5 (.agg #[x, y t u, z])) (fun k => k = 5 ∨ D k) W' := by
  have n6 : ¬ D 6 := fun h6 => hn (h.o6 h6)
  have hs := h.bel.size
  refine ⟨fun k k4 k5 k6 hd => ?_, h.bel.trans (hb.mono (by omega)), fun _ => (h.pre n6).trans (hb.mono hs), fun _ _ => ?_, fun _ => ⟨t, u, by rw [upd_same], hi.lower hs, fun hd => (n6 (or_ne hd (by decide))).elim⟩, fun _ => .inr h4, fun hd => (n6 (or_ne hd (by decide))).elim, fun T k hT hne => (hb.cell (p := ⟨T, k, none⟩) (by simp only; omega)).trans (h.far T k hT hne)⟩
  · rw [upd_ne k5]; exact h.val k k4 k5 k6 (or_ne hd k5)
  · obtain ⟨s, f, e, hI⟩ := h.r4 h4 n6
    exact ⟨s, f, by rw [upd_ne (by decide)]; exact e, hI.below hb (Nat.le_refl _)⟩
theorem RetJ.store6 (h : RetJ B b0 S n val x y z G L us D W) (hn : ¬ D 6) (h5 : D 5) {t : Option Addr} {u : Nat} (e : us 5 = .agg #[x, y t u, z]) (hy : ∀ t' u', y t u = y t' u' → t = t' ∧ u = u') (h3 : Three B S) (hS : S < B.heap.size) (hb0 : b0 ≤ S) (v : Value) : RetJ B b0 S n val x y z G L (upd us 6 v) (fun k => k = 6 ∨ D k) (((W.setCell ⟨S, 0, none⟩ x).setCell ⟨S, 1, none⟩ (y t u)).setCell ⟨S, 2, none⟩ z) := by
  obtain ⟨t', u', e', hO, _⟩ := h.r5 h5
  obtain ⟨rfl, rfl⟩ : t = t' ∧ u = u' := by
    rw [e] at e'
    simp only [Value.agg.injEq, Array.mk.injEq, List.cons.injEq, and_true, true_and] at e'
    exact hy _ _ e'
  have h3W := h3.below (h.pre hn) hS
  refine ⟨fun k k4 k5 k6 hd => ?_, ((h.bel.setCell (p := ⟨S, 0, none⟩) hb0 _).setCell (p := ⟨S, 1, none⟩) hb0 _).setCell (p := ⟨S, 2, none⟩) hb0 _, fun hd => (hd (.inl rfl)).elim, fun _ hd => (hd (.inl rfl)).elim, fun _ => ⟨t, u, by rw [upd_ne (by decide)]; exact e, ((hO.setCell_far (j := 0) _ (by omega)).setCell_far (j := 1) _ (by omega)).setCell_far (j := 2) _ (by omega), fun _ => h3W.set _ _ _⟩, fun hd => .inr (h.o5 (or_ne hd (by decide))), fun _ => .inr h5, fun T k hT hne => (World.cell?_setCell_other _ _ _ _ (ne_blk (Ne.symm hne))).trans ((World.cell?_setCell_other _ _ _ _ (ne_blk (Ne.symm hne))).trans ((World.cell?_setCell_other _ _ _ _ (ne_blk (Ne.symm hne))).trans (h.far T k hT hne)))⟩
  rw [upd_ne k6]; exact h.val k k4 k5 k6 (or_ne hd k6)
end
end Go.Proofs.YtllcbcanohdepaaGreat

/- The invariant of a region that reckons a pair by calls and puts it into a block that lies; no condition. -/
namespace Go.Proofs.YtllcbcanohdepaaGreat
set_option linter.unusedVariables false
set_option linter.unusedSimpArgs false
open Go.ChangeShapes Go.WideShapes Go.ChangeAt Go.RowKit Go.Deep

structure PutJ (b0 : Nat) (B : World) (R si : Nat) (val : Nat → Value) (x y X Y : Value) (us : Nat → Value) (D : Nat → Prop) (W : World) : Prop where
  val : ∀ k, k ≠ si → D k → us k = val k
  bel : Below b0 B W
  pre : ¬ D si → Below B.heap.size B W
  two : ¬ D si → Two W R x y
  put : D si → Two W R X Y
  far : ∀ S k, S < B.heap.size → S ≠ R → W.cell? ⟨S, k, none⟩ = B.cell? ⟨S, k, none⟩
  frz : ∀ S k, S < B.heap.size → W.frozen? ⟨S, k, none⟩ = B.frozen? ⟨S, k, none⟩
section
variable {b0 : Nat} {B : World} {R si : Nat} {val : Nat → Value} {x y X Y : Value} {us : Nat → Value} {D : Nat → Prop} {W W' : World}
theorem PutJ.start (us : Nat → Value) (hR : R < B.heap.size) (h : Two B R x y) : PutJ b0 B R si val x y X Y us (fun _ => False) B.drew :=
  ⟨fun k _ h => h.elim, below_drewN _ _ 1, fun _ => below_drewN _ _ 1, fun _ => h.below (below_drewN B.heap.size B 1) hR, fun h => h.elim, fun S k hS _ => (below_drewN B.heap.size B 1).cell (p := ⟨S, k, none⟩) hS, fun S k hS => (below_drewN B.heap.size B 1).frozen (p := ⟨S, k, none⟩) hS⟩
theorem PutJ.pure (h : PutJ b0 B R si val x y X Y us D W) {i : Nat} (h1 : i ≠ si) (hb0 : b0 ≤ B.heap.size) (hR : R < B.heap.size) (hb : Below W.heap.size W W') : PutJ b0 B R si val x y X Y (upd us i (val i)) (fun k => k = i ∨ D k) W' := by
  have hs := h.bel.size
  refine ⟨fun k k1 hd => ?_, h.bel.trans (hb.mono (by omega)), fun hd => (h.pre fun hd2 => hd (.inr hd2)).trans (hb.mono hs), fun hd => (h.two fun hd2 => hd (.inr hd2)).below hb (by omega), fun hd => (h.put (or_ne hd (Ne.symm h1))).below hb (by omega), fun S k hS hne => (hb.cell (p := ⟨S, k, none⟩) (by simp only; omega)).trans (h.far S k hS hne), fun S k hS => (hb.frozen (p := ⟨S, k, none⟩) (by simp only; omega)).trans (h.frz S k hS)⟩
  by_cases e : k = i
  · subst e; rw [upd_same]
  · rw [upd_ne e]; exact h.val k k1 (or_ne hd e)
theorem PutJ.store (h : PutJ b0 B R si val x y X Y us D W) (hD : ¬ D si) (hR : b0 ≤ R) (u : Value) : PutJ b0 B R si val x y X Y (upd us si u) (fun k => k = si ∨ D k) ((W.setCell ⟨R, 0, none⟩ X).setCell ⟨R, 1, none⟩ Y) := by
  refine ⟨fun k k1 hd => ?_, (h.bel.setCell (p := ⟨R, 0, none⟩) hR _).setCell (p := ⟨R, 1, none⟩) hR _, fun hd => (hd (.inl rfl)).elim, fun hd => (hd (.inl rfl)).elim, fun _ => (h.two hD).put, fun S k hS hne => (World.cell?_setCell_other _ _ _ _ (ne_blk (Ne.symm hne))).trans ((World.cell?_setCell_other _ _ _ _ (ne_blk (Ne.symm hne))).trans (h.far S k hS hne)), fun S k hS => by rw [World.frozen?_setCell, World.frozen?_setCell]; exact h.frz S k hS⟩
  rw [upd_ne k1]; exact h.val k k1 (or_ne hd k1)
/-- Another pair keeps what it holds. -/
theorem PutJ.other (h : PutJ b0 B R si val x y X Y us D W) {S : Nat} {u v : Value} (hT : Two B S u v) (hS : S < B.heap.size) (hne : S ≠ R) : Two W S u v :=
  ⟨(h.far S 0 hS hne).trans hT.c0, (h.far S 1 hS hne).trans hT.c1, (h.frz S 0 hS).trans hT.f0, (h.frz S 1 hS).trans hT.f1⟩
end
end Go.Proofs.YtllcbcanohdepaaGreat
