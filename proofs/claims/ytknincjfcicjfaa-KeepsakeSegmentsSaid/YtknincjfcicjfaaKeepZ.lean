/- The walks of Settle (the program's and the reference's), for every allocation and rankings; no condition but sizes. -/
import Derived.Test.YtknincjfcicjfaaKeepY
import Derived.Test.YtknincjfcicjfaaKeepT
import Derived.Test.YtknincjfcicjfaaClone
import Derived.BigRegion
import Derived.ChangeAlike
namespace Go.Proofs.Ytknincjfcicjfaa
set_option linter.unusedVariables false
set_option linter.unusedSimpArgs false
open Go.ChangeShapes Go.WideShapes Go.ChangeAt Go.RowKit Go.Deep

/-- What Settle answers. -/
def stlL (a : List Int) (v : List (List Int)) : List Int := if Lkd a v then stL a v else []
def stlN (a : List Int) (v : List (List Int)) : Int := if Lkd a v then (stN a v : Int) else 0
theorem stl_ok {a : List Int} {v : List (List Int)} (h : Lkd a v) : stlL a v = stL a v ∧ stlN a v = (stN a v : Int) ∧ lkdI a v = 0 := ⟨if_pos h, if_pos h, lkdI_zero.2 h⟩
theorem stl_no {a : List Int} {v : List (List Int)} (h : ¬ Lkd a v) : stlL a v = [] ∧ stlN a v = 0 := ⟨if_neg h, if_neg h⟩
/-- What the walk must know of settling. -/
structure StF (a : List Int) (v : List (List Int)) : Prop where
  last : exT (stTo a v (stN a v)) v = none
  more : ∀ k, k < stN a v → (exT (stTo a v k) v).isSome = true
  step : ∀ t, stTo a v (t + 1) = stStep (stTo a v t) v
  lkd : ∀ t, Lkd (stTo a v t) v
  len : ∀ t, (stTo a v t).length = a.length
theorem stF {a : List Int} {v : List (List Int)} (h : Lkd a v) : StF a v := ⟨(stN_spec h).2.1, (stN_spec h).2.2, fun _ => rfl, fun t => stTo_lkd h t, fun t => stTo_len a v t⟩
theorem StF.next {a : List Int} {v : List (List Int)} (F : StF a v) {t : Nat} (ht : t < stN a v) : ∃ i j x y, exT (stTo a v t) v = some (i, j, x, y) ∧ stTo a v (t + 1) = swp (stTo a v t) i j x y ∧ i < v.length ∧ j < v.length ∧ x < a.length ∧ y < a.length ∧ x ≠ y := by
  have h1 := F.more t ht
  cases he : exT (stTo a v t) v with
  | none => rw [he] at h1; cases h1
  | some q =>
    obtain ⟨i, j, x, y⟩ := q
    obtain ⟨hi, hij, hj, hx, hy, e1, e2, _⟩ := exT_spec he
    rw [F.len] at hx hy
    exact ⟨i, j, x, y, rfl, by rw [F.step, stStep_some he], hi, hj, hx, hy, fun e => by subst e; rw [e1] at e2; omega⟩
theorem exV_inj {i j x y : Nat} {i2 j2 x2 y2 : Int} (h : exV (some (i, j, x, y)) = .agg #[.int .i64 i2, .int .i64 j2, .int .i64 x2, .int .i64 y2]) : i2 = i ∧ j2 = j ∧ x2 = x ∧ y2 = y := by
  simp [exV] at h
  exact ⟨h.1.symm, h.2.1.symm, h.2.2.1.symm, h.2.2.2.symm⟩
theorem ownFar {w : World} {base S j : Nat} {p : Option Addr} {c : Nat} {xs : List Int} {u : Value} (h : Own w base p c xs) (hS : blk p ≠ some S) : Own (w.setCell ⟨S, j, none⟩ u) base p c xs :=
  h.move fun k hk => Below.heap_setCell w ⟨S, j, none⟩ _ k (fun e => hS (by simp only at e; rw [hk, e]))
/-- All four cells of an exchange's block put anew. -/
theorem box4 {w : World} {S : Nat} {a b c d : Value} (h : BoxF w S [a, b, c, d]) (p q r s : Value) :
    BoxF ((((w.setCell ⟨S, 0, none⟩ p).setCell ⟨S, 1, none⟩ q).setCell ⟨S, 2, none⟩ r).setCell ⟨S, 3, none⟩ s) S [p, q, r, s] :=
  (((h.set (k := 0) (by simp) p).set (k := 1) (by simp) q).set (k := 2) (by simp) r).set (k := 3) (by simp) s
set_option maxHeartbeats 4000000 in
set_option maxRecDepth 100000 in
theorem keepSettle_any (pa : Option Addr) (ca : Nat) (a : List Int) (p : Option Addr) (c : Nat) (v : List (List Int)) (w : World) (ha : Ints w pa ca a) (hx : Mat w p c v)
    (hrl : Hid (∀ i, i < v.length → (rget v i).length ≤ 1000000)) :
    Calls Try.prog 22 #[.slice pa a.length ca, .slice p v.length c] w (Gives3 w (stlL a v) (stlN a v) (lkdI a v)) := by
  have hla := ha.length_le
  have hlv := hx.length_le
  have hC := looked_any pa ca a p c v w ha hx hrl
  by_cases hN : ¬ Lkd a v
  · have h0 : lkdI a v ≠ 0 := fun h => hN (lkdI_zero.1 h)
    obtain ⟨hS1, hS2⟩ := stl_no hN
    rw [hS1, hS2]
    obtain ⟨k, hk⟩ : ∃ k, lkdI a v = k := ⟨_, rfl⟩
    rw [hk] at hC h0 ⊢
    have hd : (k != 0) = true := by rw [bne_iff_ne]; exact h0
    have HC := Lib.hid hC
    clear hC hN h0 hk hS1 hS2
    go_enter Try.func22, Try.ntmps22
    go_wp2_with fail
    refine HC.out.mono ?_
    rintro e w2 ⟨rfl, hb⟩
    go_wp2_with fail
    go_ret3
    exact ⟨none, 0, rfl, Own.ofNil _ _, hb⟩
  have hL := Classical.not_not.1 hN
  have F := stF hL
  obtain ⟨hS1, hS2, hS3⟩ := stl_ok hL
  rw [hS1, hS2, hS3]
  rw [hS3] at hC
  have HC := Lib.hid hC
  have HF := Lib.hid F
  have Hr3 : Hid (∀ i, i < v.length → (rget v i).length ≤ 1000) := fun i hi => by have := (hL.2.2.2.1 i hi).1; have := hL.2.1; omega
  have HPl := Lib.hid (fun W h => places_any p c v W h hL.1 (Lib.hid fun i hi => ⟨by rw [(hL.2.2.2.1 i hi).1]; exact hL.2.2.2.1 i hi, Hr3.out i hi⟩))
  have HTr := Lib.hid (fun W pa ca t q d h1 h2 => trade_any pa ca (stTo a v t) q d (plcM v) v W h1 h2 (plcM_ok (F.lkd t)) Hr3)
  have HLen := Lib.hid (plcM_len v)
  have ha30 : a.length ≤ 30 := hL.2.1
  have hn1 : stN a v < 1000 := (stN_spec hL).1
  have H0 : Hid (stTo a v 0 = a) := rfl
  have HSt : Hid (stTo a v (stN a v) = stL a v) := rfl
  have hv6 := hL.1
  clear hC hN hL hS1 hS2 hS3 F
  go_enter Try.func22, Try.ntmps22
  go_wp2_with fail
  refine HC.out.mono ?_
  rintro e w2 ⟨rfl, hb⟩
  replace hx := hx.below hb (Nat.le_refl _)
  replace ha := ha.below hb (Nat.le_refl _)
  have hB := hb
  clear hb
  go_wp2_with fail
  refine (HPl.out _ hx).mono ?_
  rintro e w3 ⟨pp, cp, Q, D, rfl, oD, hb⟩
  replace ha := ha.below hb (Nat.le_refl _)
  replace hB := hB.trans (hb.mono hB.size)
  have mD := oD.mat
  clear hb oD
  rw [HLen.out]
  go_wp2_with fail
  refine (clone_any pa ca a w3 ha (by omega)).mono ?_
  rintro e w4 ⟨po, co, rfl, oO, hb⟩
  have mD4 := mD.below hb (Nat.le_refl _)
  have hT := HTr.out w4 po co 0 pp cp (by rw [H0.out]; exact oO.ints) mD4
  rw [H0.out] at hT
  have HT := Lib.hid hT
  clear hT mD4
  go_wp2_with fail
  refine HT.out.mono ?_
  rintro e w5 ⟨he, hb5⟩
  obtain ⟨i1, j1, x1, y1, hV⟩ := exV_eq (exT a v)
  rw [hV] at he
  have HV := Lib.hid hV
  clear hV
  subst he
  replace oO := oO.below hb5 (Nat.le_refl _)
  replace hb := hb.trans (hb5.mono hb.size)
  clear hb5
  go_wp2_with fail
  have hsz := hB.size
  have hsz5 : w3.heap.size ≤ w5.heap.size := hb.size
  have hne5 : blk po ≠ some w5.heap.size := fun e => by have := (oO.lt _ e).2; omega
  have bX : BoxF _ w5.heap.size _ := BoxF.new rfl (rfl : w5.alloc (.cells #[.int .i64 i1, .int .i64 j1, .int .i64 x1, .int .i64 y1] 37) = _)
  have hbN : Below w5.heap.size w5 (w5.alloc (.cells #[.int .i64 i1, .int .i64 j1, .int .i64 x1, .int .i64 y1] 37)) := below_alloc rfl
  replace oO := oO.below hbN (Nat.le_refl _)
  replace hb := hb.trans (hbN.mono hb.size)
  clear hbN
  go_loopw [10, 11, 12] (fun s u b wr => ∃ (t g : Nat) (i2 j2 x2 y2 : Int), t ≤ stN a v ∧ s = .int .i64 t ∧ u = .pointer (some ⟨g, 0, none⟩) ∧ b = .bool (exT (stTo a v t) v).isSome ∧ w3.heap.size ≤ g ∧ blk po ≠ some g ∧ Hid (exV (exT (stTo a v t) v) = .agg #[.int .i64 i2, .int .i64 j2, .int .i64 x2, .int .i64 y2]) ∧ BoxF wr g [.int .i64 i2, .int .i64 j2, .int .i64 x2, .int .i64 y2] ∧ Own wr w3.heap.size po co (stTo a v t) ∧ Below w3.heap.size w3 wr) (fun s _ _ _ => stN a v - (intOf s).toNat)
  case atStart => exact ⟨0, w5.heap.size, i1, j1, x1, y1, Nat.zero_le _, rfl, rfl, rfl, hsz5, hne5, by rw [H0.out]; exact HV.out, bX, by rw [H0.out]; exact oO, hb⟩
  case round =>
    clear bX oO hb HV
    obtain ⟨t, g, i2, j2, x2, y2, ht, rfl, rfl, rfl, hg, hne, hV, bX, hO, hBr⟩ := hrel
    by_cases hlt : t < stN a v
    · obtain ⟨i, j, x, y, he, hN, hi, hj, hx', hy', hxy⟩ := HF.out.next hlt
      rw [he] at hV
      obtain ⟨rfl, rfl, rfl, rfl⟩ := exV_inj hV.out
      rw [he]
      have hlen := HF.out.len t
      obtain ⟨out, hout⟩ : ∃ l, stTo a v t = l := ⟨_, rfl⟩
      rw [hout] at hO hlen hN
      have hT := fun W po co q d h1 h2 => HTr.out W po co (t + 1) q d h1 h2
      rw [hN, swp_len, hlen] at hT
      obtain ⟨go, rfl, hg1, hg2, hcx, hfx⟩ := hO.get (j := x) (by omega)
      have hcy := hO.at (j := y) (by omega)
      have hfy := hO.free y
      have b0 := bX.cell 0 _ rfl
      have b1 := bX.cell 1 _ rfl
      have b2 := bX.cell 2 _ rfl
      have b3 := bX.cell 3 _ rfl
      have hgg : go ≠ g := fun e => hne (by rw [e]; rfl)
      have hxa : (x : Int) < a.length := by omega
      have hya : (y : Int) < a.length := by omega
      have HN : Hid (stTo a v (t + 1) = swp out i j x y) := by rw [← hout]; rw [← hout] at hN; exact hN
      have HT := Lib.hid hT
      have Hout := Lib.hid hout
      have Hlen' := Lib.hid hlen
      have hxy' : (x : Int) ≠ y := by omega
      have hO2 : Own _ w3.heap.size (some ⟨go, 0, none⟩) co (swp out i j x y) := ((hO.set x (x := (j : Int)) ⟨by omega, by omega⟩).1.set y (x := (i : Int)) ⟨by omega, by omega⟩).1
      have hB2 : Below w3.heap.size w3 _ := (hBr.setCell (p := ⟨go, x, none⟩) hg1 (.int .i64 (j : Int))).setCell (p := ⟨go, y, none⟩) hg1 (.int .i64 (i : Int))
      obtain ⟨W2, hW2⟩ : ∃ W, (wr.setCell ⟨go, x, none⟩ (.int .i64 (j : Int))).setCell ⟨go, y, none⟩ (.int .i64 (i : Int)) = W := ⟨_, rfl⟩
      have hs2 : W2.heap.size = wr.heap.size := by rw [← hW2]; simp
      rw [hW2] at hO2 hB2
      have hszr := hBr.size
      have hgl := bX.lt
      obtain ⟨W3, hW3⟩ : ∃ W, W2.alloc (.cells #[.int .i64 (i : Int), .int .i64 (j : Int), .int .i64 (x : Int), .int .i64 (y : Int)] 37) = W := ⟨_, rfl⟩
      have hb3 : Below W2.heap.size W2 W3 := below_alloc hW3
      have bX3 : BoxF W3 wr.heap.size [.int .i64 (i : Int), .int .i64 (j : Int), .int .i64 (x : Int), .int .i64 (y : Int)] := BoxF.new hs2 hW3
      have hO3 := hO2.below hb3 (Nat.le_refl _)
      have hB3 := hB2.trans (hb3.mono hB2.size)
      have hb4 : Below W3.heap.size W3 W3.drew := below_drewN _ _ 1
      replace bX3 := bX3.below hb4
      replace hO3 := hO3.below hb4 (Nat.le_refl _)
      replace hB3 := hB3.trans (hb4.mono hB3.size)
      have hI3 := hO3.ints
      have HW2 := Lib.hid hW2
      have HW3 := Lib.hid hW3
      clear hT hN hout hV hlen he hO2 hB2 hW2 hW3 hb3 hb4 hO hBr bX
      go_wp2_with fail
      go_region
      go_wp2_with fail
      rw [HW2.out, HW3.out]
      refine (HT.out _ _ _ _ _ hI3 (mD.below hB3 (Nat.le_refl _))).mono ?_
      rintro e w6 ⟨he, hb6⟩
      obtain ⟨i6, j6, x6, y6, hV6⟩ := exV_eq (exT (swp out i j x y) v)
      rw [hV6] at he
      have HV6 := Lib.hid hV6
      clear hV6
      subst he
      replace hO3 := hO3.below hb6 (Nat.le_refl _)
      replace bX3 := bX3.below hb6
      replace hB3 := hB3.trans (hb6.mono hB3.size)
      have hne6 : blk (some (⟨go, 0, none⟩ : Addr)) ≠ some wr.heap.size := fun e => by simp [blk] at e; omega
      have b0 := bX3.cell 0 _ rfl
      have b1 := bX3.cell 1 _ rfl
      have b2 := bX3.cell 2 _ rfl
      have b3 := bX3.cell 3 _ rfl
      have f0 := bX3.free 0
      have f1 := bX3.free 1
      have f2 := bX3.free 2
      have f3 := bX3.free 3
      clear hb6 hI3
      go_wp2_with fail
      go_roundw
      case rel => exact ⟨t + 1, wr.heap.size, i6, j6, x6, y6, by omega, by go_num, rfl, by rw [HN.out], by omega, hne6, by rw [HN.out]; exact HV6.out, box4 bX3 _ _ _ _, by rw [HN.out]; exact ownFar (ownFar (ownFar (ownFar hO3 hne6) hne6) hne6) hne6, (((hB3.setCell (p := ⟨wr.heap.size, 0, none⟩) hszr _).setCell (p := ⟨wr.heap.size, 1, none⟩) hszr _).setCell (p := ⟨wr.heap.size, 2, none⟩) hszr _).setCell (p := ⟨wr.heap.size, 3, none⟩) hszr _⟩
      case measure => (simp [intOf] <;> omega)
    · obtain rfl : t = stN a v := by omega
      rw [HF.out.last]
      rw [HSt.out] at hO
      have hlen : (stL a v).length = a.length := by rw [← HSt.out]; exact HF.out.len _
      have Hlen := Lib.hid hlen
      clear hlen
      go_wp2_with fail
      go_ret3
      unfold Gives3
      rw [Hlen.out]
      exact ⟨po, co, rfl, hO.lower hsz, hB.trans (hBr.mono hsz)⟩
set_option maxHeartbeats 4000000 in
set_option maxRecDepth 100000 in
theorem ref29Settle_any (pa : Option Addr) (ca : Nat) (a : List Int) (p : Option Addr) (c : Nat) (v : List (List Int)) (w : World) (ha : Ints w pa ca a) (hx : Mat w p c v) :
    Calls Try.prog 23 #[.slice pa a.length ca, .slice p v.length c] w (Gives3 w (stlL a v) (stlN a v) (lkdI a v)) := by
  have hla := ha.length_le
  have hlv := hx.length_le
  have hC := fun W h1 h2 => ref29Looked_any pa ca a p c v W (h1 : Ints W pa ca a) (h2 : Mat W p c v)
  by_cases hN : ¬ Lkd a v
  · have h0 : lkdI a v ≠ 0 := fun h => hN (lkdI_zero.1 h)
    obtain ⟨hS1, hS2⟩ := stl_no hN
    rw [hS1, hS2]
    obtain ⟨k, hk⟩ : ∃ k, lkdI a v = k := ⟨_, rfl⟩
    rw [hk] at hC h0 ⊢
    have hd : (k != 0) = true := by rw [bne_iff_ne]; exact h0
    have HC := Lib.hid hC
    clear hC hN h0 hk hS1 hS2
    go_enter Try.func23, Try.ntmps23
    go_wp2_with fail
    refine (HC.out _ ha hx).mono ?_
    rintro e w2 ⟨rfl, n2, rfl⟩
    go_wp2_with fail
    refine (HC.out _ (ha.drewN _) (hx.drewN _)).mono ?_
    rintro e w3 ⟨rfl, n3, rfl⟩
    go_wp2_with fail
    go_ret3
    exact ⟨none, 0, rfl, Own.ofNil _ _, below_drewN _ _ _⟩
  have hL := Classical.not_not.1 hN
  have F := stF hL
  obtain ⟨hS1, hS2, hS3⟩ := stl_ok hL
  rw [hS1, hS2, hS3]
  rw [hS3] at hC
  have HC := Lib.hid hC
  have HF := Lib.hid F
  have Hr3 : Hid (∀ i, i < v.length → (rget v i).length ≤ 1000) := fun i hi => by have := (hL.2.2.2.1 i hi).1; have := hL.2.1; omega
  have HTr := Lib.hid (fun W pa ca t h1 h2 => first29_any pa ca (stTo a v t) p c v W h1 h2 Hr3)
  have ha30 : a.length ≤ 30 := hL.2.1
  have hn1 : stN a v < 1000 := (stN_spec hL).1
  have H0 : Hid (stTo a v 0 = a) := rfl
  have HSt : Hid (stTo a v (stN a v) = stL a v) := rfl
  have hv6 := hL.1
  clear hC hN hL hS1 hS2 hS3 F
  go_enter Try.func23, Try.ntmps23
  go_wp2_with fail
  refine (HC.out _ ha hx).mono ?_
  rintro e w2 ⟨rfl, n2, rfl⟩
  obtain ⟨W3, hW3⟩ : ∃ W, w.drewN n2 = W := ⟨_, rfl⟩
  have hB3 : Below w.heap.size w W3 := by rw [← hW3]; exact below_drewN _ _ _
  have hsz3 : w.heap.size ≤ W3.heap.size := hB3.size
  rw [hW3]
  clear hW3
  have ha3 := ha.below hB3 (Nat.le_refl _)
  go_wp2_with (at_builtin; refine wpList_app rfl (.tmp 18) (.tmp 19) rfl W3.heap.size _ _ _ _ [] a rfl rfl (Own.made _ _ (Nat.le_refl _)) (ha3.below ((Below.refl _ _).alloc (Nat.le_refl _) _) (Nat.le_refl _)) (by simp; omega) (by simp) ?_; intro p4 c4 w4 zs hz hO4 hg hf)
  obtain rfl : zs = a := hz.out
  have hB4 : Below w.heap.size w w4 := hB3.trans ((app0_below hg).mono (by omega))
  replace hO4 := hO4.lower (show w.heap.size ≤ W3.heap.size by omega)
  clear hz hf hg ha3 hB3
  go_wp2_with fail
  go_loopw [8] (fun s wr => ∃ t : Nat, t ≤ stN zs v ∧ s = .int .i64 t ∧ Own wr w.heap.size p4 c4 (stTo zs v t) ∧ Below w.heap.size w wr) (fun s _ => stN zs v - (intOf s).toNat)
  case atStart => exact ⟨0, Nat.zero_le _, rfl, by rw [H0.out]; exact hO4, hB4⟩
  case round =>
    clear hO4 hB4
    obtain ⟨t, ht, rfl, hO, hBr⟩ := hrel
    have hlen := HF.out.len t
    have hT := HTr.out wr p4 c4 t hO.ints (hx.below hBr (Nat.le_refl _))
    rw [hlen] at hT
    have hszr := hBr.size
    by_cases hlt : t < stN zs v
    · obtain ⟨i, j, x, y, he, hN, hi, hj, hx', hy', hxy⟩ := HF.out.next hlt
      rw [he] at hT
      obtain ⟨out, hout⟩ : ∃ l, stTo zs v t = l := ⟨_, rfl⟩
      rw [hout] at hO hlen hN
      have hxa : (x : Int) < zs.length := by omega
      have hya : (y : Int) < zs.length := by omega
      have HN : Hid (stTo zs v (t + 1) = swp out i j x y) := hN
      have HT := Lib.hid hT
      have hxo : x < out.length := by omega
      have hyo : y < out.length := by omega
      clear hT hN hout hlen he
      go_wp2_with fail
      refine HT.out.mono ?_
      rintro e w6 ⟨he, hb6⟩
      have he2 : e = .returned (.tuple #[.agg #[.int .i64 (i : Int), .int .i64 (j : Int), .int .i64 (x : Int), .int .i64 (y : Int)], .bool true]) := he
      clear he
      subst he2
      replace hO := hO.below hb6 (Nat.le_refl _)
      replace hBr := hBr.trans (hb6.mono hBr.size)
      have hsz6 := hBr.size
      clear hb6 HT
      obtain ⟨W7, hW7⟩ : ∃ W, w6.alloc (.cells #[.int .i64 (i : Int), .int .i64 (j : Int), .int .i64 (x : Int), .int .i64 (y : Int)] 37) = W := ⟨_, rfl⟩
      have hb7 : Below w6.heap.size w6 W7 := below_alloc hW7
      have bX : BoxF W7 w6.heap.size [.int .i64 (i : Int), .int .i64 (j : Int), .int .i64 (x : Int), .int .i64 (y : Int)] := BoxF.new rfl hW7
      obtain ⟨go, rfl, hg1, hg2, _, _⟩ := hO.get (j := x) hxo
      have hO7 := hO.below hb7 (Nat.le_refl _)
      have hB7 := hBr.trans (hb7.mono hBr.size)
      have hcx := hO7.at hxo
      have hcy := hO7.at hyo
      have hfx := hO7.free x
      have hfy := hO7.free y
      have b0 := bX.cell 0 _ rfl
      have b1 := bX.cell 1 _ rfl
      have b2 := bX.cell 2 _ rfl
      have b3 := bX.cell 3 _ rfl
      have hgg : go ≠ w6.heap.size := by omega
      have hO8 : Own _ w.heap.size (some ⟨go, 0, none⟩) c4 (swp out i j x y) := ((hO7.set x (x := (j : Int)) ⟨by omega, by omega⟩).1.set y (x := (i : Int)) ⟨by omega, by omega⟩).1
      have hB8 : Below w.heap.size w _ := (hB7.setCell (p := ⟨go, x, none⟩) hg1 (.int .i64 (j : Int))).setCell (p := ⟨go, y, none⟩) hg1 (.int .i64 (i : Int))
      have HW7 := Lib.hid hW7
      clear hW7 hb7 bX hO
      go_upto_region 7 with fail
      rw [HW7.out]
      go_wp2_with fail
      go_region
      go_wp2_with fail
      go_roundw
      case rel => exact ⟨t + 1, by omega, by go_num, by rw [HN.out]; exact hO8.drew1, hB8.drew⟩
      case measure => (simp [intOf] <;> omega)
    · obtain rfl : t = stN zs v := by omega
      rw [HF.out.last] at hT
      rw [HSt.out] at hO hlen
      have HT := Lib.hid hT
      have Hlen := Lib.hid hlen
      clear hlen hT
      go_wp2_with fail
      refine HT.out.mono ?_
      rintro e w6 ⟨he, hb6⟩
      have he2 : e = .returned (.tuple #[.agg #[.int .i64 0, .int .i64 0, .int .i64 0, .int .i64 0], .bool false]) := he
      clear he
      subst he2
      replace hO := hO.below hb6 (Nat.le_refl _)
      replace hBr := hBr.trans (hb6.mono hBr.size)
      have hsz6 := hBr.size
      clear hb6 HT
      go_wp2_with fail
      go_ret3
      unfold Gives3
      rw [Hlen.out]
      exact ⟨p4, c4, rfl, hO.below ((Below.refl _ _).alloc (Nat.le_refl _) _) (Nat.le_refl _), hBr.alloc hsz6 _⟩
end Go.Proofs.Ytknincjfcicjfaa
