/- The walk of rent.lease: a valid flat, an assignment, small gains. -/
import Derived.Test.YtmcncflieoolmaaTopTopRentm12
import Derived.Test.YtmcncflieoolmaaTopTopRentm13
import Derived.Test.YtmcncflieoolmaaTopTopRentm2
import Derived.Test.YtmcncflieoolmaaTopTopRentm5
/- The walk of rent.lease: a valid flat, an assignment, small gains. -/
namespace Go.Proofs.Ytmcncflieoolmaa
set_option linter.unusedVariables false
set_option linter.unusedSimpArgs false
open Go.ChangeShapes Go.WideShapes Go.ChangeAt Go.RowKit Go.Deep

theorem LB.ne {w : World} {S g k : Nat} {x u : Value} {q : Option Addr} {m d : Nat} {z : Int} (h : LB w S x q m d z) (hg : g ≠ S) : LB (w.setCell ⟨g, k, none⟩ u) S x q m d z :=
  have hc : ∀ j, (w.setCell ⟨g, k, none⟩ u).cell? ⟨S, j, none⟩ = w.cell? ⟨S, j, none⟩ := fun j => World.cell?_setCell_other _ _ _ _ (ne_blk hg)
  ⟨(hc 0).trans h.c0, (hc 1).trans h.c1, (hc 2).trans h.c2, by rw [World.frozen?_setCell]; exact h.f1, by rw [World.frozen?_setCell]; exact h.f2, by simpa [World.setCell] using h.lt⟩
theorem Own.setCell_ne {w : World} {base : Nat} {p : Option Addr} {c : Nat} {xs : List Int} (h : Own w base p c xs) {S j : Nat} {u : Value} (hS : blk p ≠ some S) : Own (w.setCell ⟨S, j, none⟩ u) base p c xs :=
  ⟨ownsRow_move h.row (fun k hk => Below.heap_setCell w ⟨S, j, none⟩ _ k (fun e => by rw [ownBlock_slice] at hk; simp only at e; exact hS (hk.trans (by rw [e])))), h.rng⟩
/-- The number that a pointer's block holds. -/
def dOf (t : Value) (w : World) : Nat := match t with
  | .pointer (some p) => (match w.cell? p with | some u => (intOf u).toNat | none => 0)
  | _ => 0
theorem dOf_eq {w : World} {b d : Nat} (h : w.cell? ⟨b, 0, none⟩ = some (.int .i64 (d : Int))) : dOf (.pointer (some ⟨b, 0, none⟩)) w = d := by simp [dOf, h, intOf]
theorem lease1_call (args : Array Value) (W : World) : (callFunc 43 args).run Try.prog W = .ok (.enter 43 args) W := by kernel_rfl
set_option maxHeartbeats 400000 in
theorem lease1_any (x : Int) (b : Nat) (d : Nat) (w : World) (hd : 0 < d) (hx : -1000000000 ≤ x ∧ x ≤ 1000000000) (hdl : d ≤ 60) (hc : w.cell? ⟨b, 0, none⟩ = some (.int .i64 (d : Int))) :
    Calls Try.prog 43 #[.int .i64 x, .pointer (some ⟨b, 0, none⟩)] w fun e w' => e = .returned (.bool (x.tmod d != 0)) ∧ w' = w := by
  have hd0 : (0 : Int) < d := by omega
  have hdn : (d : Int) ≠ 0 := by omega
  go_enter Try.func43, Try.ntmps43
  go_wp2_with fail
  go_ret
  exact ⟨rfl, rfl⟩

set_option maxHeartbeats 8000000 in
set_option maxRecDepth 100000 in
theorem lease_any (p q s : Option Addr) (c d f : Nat) (v : List (List Int)) (r : Int) (a gs : List Int) (w : World) (hx : Mat w p c v) (hy : Ints w q d a) (hz : Ints w s f gs) (hv : Bids v) (hr1 : 0 ≤ r) (hr2 : r ≤ 10000000) (ha : IsA a v.length) (hg : SmallG gs v.length) :
    Calls Try.prog 23 #[.agg #[.slice p v.length c, .int .i64 r], .slice q v.length d, .slice s v.length f] w fun e w' => ∃ t u, e = .returned (.agg #[.slice q v.length d, .slice t v.length u, .int .i64 (lowN v.length (leaseL v r a gs))]) ∧ Own w' w.heap.size t u (lowL v.length (leaseL v r a gs)) ∧ Below w.heap.size w w' := by
  obtain ⟨Wx, hWx⟩ : ∃ W, w.alloc (.cells #[.slice p v.length c, .int .i64 r] 24) = W := ⟨_, rfl⟩
  obtain ⟨W0, hW0⟩ : ∃ W, Wx.alloc (.cells #[.slice none 0 0, .slice none 0 0, .int .i64 0] 29) = W := ⟨_, rfl⟩
  have hB1 := below_alloc hWx
  have hB2 := below_alloc hW0
  have hs : Wx.heap.size = w.heap.size + 1 := by rw [← hWx]; simp
  have hs0 : W0.heap.size = w.heap.size + 2 := by rw [← hW0]; simp; omega
  have bX : BoxV W0 w.heap.size [.slice p v.length c, .int .i64 r] := (BoxV.new rfl hWx).below hB2
  have hB : Below w.heap.size w W0 := hB1.trans (hB2.mono hB1.size)
  have h3 : Three W0 (w.heap.size + 1) := Three.new hs hW0.symm
  have mX := hx.below hB (Nat.le_refl _)
  have mA := hy.below hB (Nat.le_refl _)
  have mG := hz.below hB (Nat.le_refl _)
  have HWx := Lib.hid hWx
  have HW0 := Lib.hid hW0
  have H3 := Lib.hid h3
  clear hWx hW0 hB1 hB2 hs h3 hx hy hz
  have h0 := hv.1
  have h6 := hv.2.1
  have Hv := Lib.hid hv
  have Ha := Lib.hid ha
  have Hg := Lib.hid hg
  have Hal := Lib.hid ha.1
  have Hgl := Lib.hid hg.1
  have Hit := Lib.hid (isA_lt ha)
  have b0 := bX.cell 0 _ rfl
  have b1 := bX.cell 1 _ rfl
  have hbl := bX.lt
  obtain ⟨B0, hB0⟩ : ∃ B, W0.heap.size = B := ⟨_, rfl⟩
  have hbB : w.heap.size + 2 = B0 := by omega
  have HB0 := Lib.hid hB0
  have hin : in64 (-r) := ⟨by omega, by omega⟩
  -- the facts of a round
  have hfact : ∀ W i, Below B0 W0 W → i < v.length → ∃ x : Nat, iget a i = (x : Int) ∧ itm a i = x ∧ x < v.length ∧ ∃ b o bi oi di bq oq bg og, p = some ⟨b, o, none⟩ ∧ q = some ⟨bq, oq, none⟩ ∧ s = some ⟨bg, og, none⟩ ∧ W.cell? ⟨w.heap.size, 0, none⟩ = some (.slice (some ⟨b, o, none⟩) v.length c) ∧ W.cell? ⟨b, o + i, none⟩ = some (.slice (some ⟨bi, oi, none⟩) v.length di) ∧ W.cell? ⟨bi, oi + x, none⟩ = some (.int .i64 (bid v i x)) ∧ W.cell? ⟨bq, oq + i, none⟩ = some (.int .i64 (x : Int)) ∧ W.cell? ⟨bg, og + i, none⟩ = some (.int .i64 (iget gs i)) ∧ 0 ≤ bid v i x ∧ bid v i x ≤ 1000000 ∧ -10000000 ≤ iget gs i ∧ iget gs i ≤ 10000000 ∧ gvI v a gs i = bid v i x - iget gs i := by
    intro W i hW hi
    obtain ⟨i1, i2⟩ := isA_lt ha i hi
    obtain ⟨x, hx⟩ : ∃ x : Nat, iget a i = (x : Int) := ⟨(iget a i).toNat, by omega⟩
    have hitx : itm a i = x := by simp [itm, hx]
    have hxl : x < v.length := by omega
    have hle : W0.heap.size ≤ B0 := by omega
    obtain ⟨b, o, e1, _, qi, di, hc, hI⟩ := (mX.below hW hle).get hi
    have hrl := (hv.2.2 i hi).1
    obtain ⟨bi, oi, e2, _, hci⟩ := hI.get (j := x) (by omega)
    obtain ⟨bq, oq, e3, _, hcq⟩ := (mA.below hW hle).get (j := i) (by rw [ha.1]; exact hi)
    obtain ⟨bg, og, e4, _, hcg⟩ := (mG.below hW hle).get (j := i) (by rw [hg.1]; exact hi)
    have hbd := (hv.2.2 i hi).2 x hxl
    have hgd := hg.2 i hi
    refine ⟨x, hx, hitx, hxl, b, o, bi, oi, di, bq, oq, bg, og, e1, e3, e4, ?_, ?_, hci, ?_, hcg, hbd.1, hbd.2, hgd.1, hgd.2, by unfold gvI; rw [hitx]⟩
    · rw [← e1]; exact (hW.cell (p := ⟨w.heap.size, 0, none⟩) (by simp only; omega)).trans b0
    · rw [hc, hrl, e2]
    · rw [hcq, hx]
  have Hfact := Lib.hid hfact
  have Hrb := Lib.hid (fun k (hk : k ≤ v.length) => rstI_bd hv ha hg hr1 hr2 hk)
  have Hpb := Lib.hid (fun i (hi : i < v.length) => (⟨ngv_bd hv ha hg hi, prI_bd hv ha hg hr1 hr2 hi⟩ : (-66000000 ≤ (v.length : Int) * gvI v a gs i ∧ (v.length : Int) * gvI v a gs i ≤ 66000000) ∧ (-150000000 ≤ prI v r a gs i ∧ prI v r a gs i ≤ 150000000)))
  have Hlb := Lib.hid (fun j (hj : j < v.length) => leaseL_bd hv ha hg hr1 hr2 hj)
  clear hfact hB0 mX mG hv ha hg bX
  go_enter Try.func23, Try.ntmps23
  go_wp2_with fail
  rw [HWx.out, HW0.out]
  go_wp2_with fail
  go_loopw [8, 23] (fun t i wr => ∃ k : Nat, k ≤ v.length ∧ i = .int .i64 k ∧ t = .int .i64 (rstI v r a gs k) ∧ Below B0 W0 wr) (fun _ i _ => v.length - (intOf i).toNat)
  case atStart => exact ⟨0, Nat.zero_le _, rfl, by simp [rstI, sumTo], Below.refl _ _⟩
  case round =>
    obtain ⟨k, hk, rfl, rfl, hBk⟩ := hrel
    have hrb := Hrb.out k hk
    by_cases hlt : k < v.length
    · have hk1 : (k : Int) < v.length := by omega
      obtain ⟨x, hx, hitx, hxl, b, o, bi, oi, di, bq, oq, bg, og, rfl, rfl, rfl, c0, c1, c2, c3, c4, d1, d2, d3, d4, hgv⟩ := Hfact.out wr k hBk hlt
      have hxl1 : (x : Int) < v.length := by omega
      have Hsn := Lib.hid (rstI_succ v r a gs k)
      rw [hgv] at Hsn
      generalize rstI v r a gs k = R at *
      generalize bid v k x = y1 at *
      generalize iget gs k = y2 at *
      clear hgv
      go_wp2_with fail
      go_quiet (fail)
      go_wp2_with fail
      go_roundw
      case rel => exact ⟨k + 1, by omega, by go_num, by rw [Hsn.out], hBk.drewN' _⟩
      case measure => simp [intOf]; omega
    · have hk1 : ¬ (k : Int) < v.length := by omega
      obtain rfl : k = v.length := by omega
      have hBw := hBk.size
      have hsz : B0 ≤ wr.heap.size := by have := HB0.out; omega
      obtain ⟨W1, rfl⟩ : ∃ W, W = wr := ⟨_, rfl⟩
      clear hrb
      go_wp2_with (at_make; refine wpList_mk rfl (.tmp 45) (.tmp 45) rfl B0 v.length rfl rfl (by omega) hsz ?_; intro w2 hO2 hg2 hs2)
      obtain ⟨g, hgd⟩ : ∃ g, W1.heap.size = g := ⟨_, rfl⟩
      rw [hgd] at hO2 hs2 hsz ⊢
      have hB2 : Below B0 W0 w2 := hBk.grown hg2 (by omega) (fun k e => by cases e)
      have Hgd := Lib.hid hgd
      obtain ⟨S, hSg⟩ : ∃ S, g + 1 = S := ⟨_, rfl⟩
      have hS : w2.heap.size = S := by omega
      have HS := Lib.hid hS
      rw [hSg]
      obtain ⟨R, hR⟩ : ∃ R, rstI v r a gs v.length = R := ⟨_, rfl⟩
      have hRb := Hrb.out v.length (Nat.le_refl _)
      rw [hR] at hRb ⊢
      have HR := Lib.hid hR
      clear hR hgd hS hg2 hs2
      go_loopw [51] (fun i wr => ∃ k : Nat, k ≤ v.length ∧ i = .int .i64 k ∧ (∃ P : List Int, P.length = v.length ∧ Hid (∀ i, i < k → iget P (itm a i) = prI v r a gs i) ∧ Own wr B0 (some ⟨g, 0, none⟩) v.length P) ∧ LB wr S (.slice q v.length d) (some ⟨g, 0, none⟩) v.length v.length v.length ∧ Below B0 W0 wr) (fun i _ => v.length - (intOf i).toNat)
      case atStart =>
        have hc : ∀ k, (w2.alloc (.cells #[.slice q v.length d, .slice (some ⟨g, 0, none⟩) v.length v.length, .int .i64 v.length] 29)).cell? ⟨w2.heap.size, k, none⟩ = #[.slice q v.length d, .slice (some ⟨g, 0, none⟩) v.length v.length, .int .i64 v.length][k]? := fun k => World.cell?_alloc_at _ _ _ _ rfl
        rw [HS.out] at hc
        exact ⟨0, by omega, rfl, ⟨List.replicate v.length 0, by simp, fun i hi => absurd hi (Nat.not_lt_zero i), hO2.alloc _⟩, ⟨hc 0, hc 1, hc 2, by rw [← HS.out]; exact World.frozen?_alloc_at _ _ _ _ rfl, by rw [← HS.out]; exact World.frozen?_alloc_at _ _ _ _ rfl, by simp; have := HS.out; omega⟩, hB2.alloc (by have := HS.out; omega) _⟩
      case round =>
        obtain ⟨k, hk, rfl, ⟨P, hPl, hP, hO⟩, hLB, hBk⟩ := hrel
        by_cases hlt : k < v.length
        · have hk1 : (k : Int) < v.length := by omega
          obtain ⟨x, hx, hitx, hxl, b, o, bi, oi, di, bq, oq, bg, og, rfl, rfl, rfl, c0, c1, c2, c3, c4, d1, d2, d3, d4, hgv⟩ := Hfact.out wr k hBk hlt
          have hxl1 : (x : Int) < v.length := by omega
          obtain ⟨⟨p1, p2⟩, p3, p4⟩ := Hpb.out k hlt
          have HE : Hid (prI v r a gs k = v.length * gvI v a gs k - R) := by unfold Hid prI; rw [HR.out]
          have hpe := HE.out
          rw [hpe] at p3 p4
          rw [hgv] at p1 p2 p3 p4 HE
          clear hpe
          have cS := hLB.c1
          have cF := hO.free x
          have cX := hO.at (j := x) (by omega)
          have Hgv := Lib.hid hgv
          have HO := Lib.hid hO
          have HLB := Lib.hid hLB
          have HBk := Lib.hid hBk
          have HPx : Hid (∀ u, u = prI v r a gs k → ∀ i, i < k + 1 → iget (P.set x u) (itm a i) = prI v r a gs i) := by
            intro u hu i hi
            rw [iget_set (by omega)]
            by_cases e : i = k
            · subst e; rw [hitx, if_pos rfl]; exact hu
            · have : x ≠ itm a i := fun e2 => e ((isA_per Ha.out).inj i k (by omega) hlt (by rw [hitx, e2]))
              rw [if_neg this]
              exact hP.out i (by omega)
          generalize bid v k x = y1 at *
          generalize iget gs k = y2 at *
          have hin4 : in64 ((v.length : Int) * (y1 - y2) - R) := ⟨by omega, by omega⟩
          clear hgv hO hLB hBk hP
          go_wp2_with fail
          go_still_tail 21, (by kernel_rfl)
          go_wp2_with fail
          go_roundw
          case rel => exact ⟨k + 1, by omega, by go_num, ⟨P.set x (v.length * (y1 - y2) - R), by simp [hPl], HPx.out _ HE.out.symm, (HO.out.set x hin4).1.drew1⟩, (HLB.out.ne (by omega)).drew ⟨1, rfl⟩, (HBk.out.setCell (p := ⟨g, x, none⟩) (by simp only; omega) _).drew⟩
          case measure => simp [intOf]; omega
        · have hk1 : ¬ (k : Int) < v.length := by omega
          obtain rfl : k = v.length := by omega
          have hPL : P = leaseL v r a gs := leaseL_of Ha.out hPl hP.out
          subst hPL
          obtain ⟨W2, rfl⟩ : ∃ W, W = wr := ⟨_, rfl⟩
          have hLl := leaseL_len v r a gs
          obtain ⟨L, hL⟩ : ∃ L, leaseL v r a gs = L := ⟨_, rfl⟩
          rw [hL] at hO Hlb hLl
          have HLL := Lib.hid hL
          have hg1 := gcdL_pos L h0
          have hg2 := gcdL_le L h0
          obtain ⟨G, hG⟩ : ∃ G, gcdL v.length L = G := ⟨_, rfl⟩
          rw [hG] at hg1 hg2
          have HG := Lib.hid hG
          have HLl := Lib.hid hLl
          have HC : Hid (∀ (W : World) (b dd : Nat), Ints W (some ⟨g, 0, none⟩) v.length L → W.cell? ⟨b, 0, none⟩ = some (.int .i64 (dd : Int)) → dd ∣ v.length → 0 < dd → dd ≤ 60 → Calls Try.prog 42 #[.slice (some ⟨g, 0, none⟩) v.length v.length, .func (.func 43) #[] #[.pointer (some ⟨b, 0, none⟩)]] W fun e w' => e = .returned (.bool (!decide (Comm v.length L dd))) ∧ w' = W) := by
            intro W b dd hI hc hdv hd0 hd60
            have h := containsFunc1_any 43 (.pointer (some ⟨b, 0, none⟩)) (oddB L dd) (fun W' => W' = W) lease1_call (some ⟨g, 0, none⟩) v.length L W rfl (fun W' hW' => by rw [hW']; exact hI) (fun j W' hj hW' => by
              subst hW'
              have hb := Hlb.out j (by omega)
              exact lease1_any _ b dd _ hd0 ⟨by omega, by omega⟩ hd60 hc)
            rw [odd_any hdv, hLl] at h
            exact h
          have hSz := hLB.lt
          obtain ⟨B2, hB2'⟩ : ∃ B, W2.heap.size = B := ⟨_, rfl⟩
          have HB2 := Lib.hid hB2'
          have hSB : S < B2 := by omega
          have HO := Lib.hid hO
          have HLB := Lib.hid hLB
          have HBk := Lib.hid hBk
          clear hL hG hLl hO hLB hBk hP hPl hB2' hRb Hfact Hrb Hpb HR
          go_wp2_with fail
          go_loopw [14] (fun t wr => ∃ b dd : Nat, t = .pointer (some ⟨b, 0, none⟩) ∧ B2 ≤ b ∧ b < wr.heap.size ∧ wr.cell? ⟨b, 0, none⟩ = some (.int .i64 (dd : Int)) ∧ wr.frozen? ⟨b, 0, none⟩ = false ∧ G ≤ dd ∧ dd ≤ v.length ∧ Below B2 W2 wr) (fun t wr => dOf t wr)
          case atStart =>
            exact ⟨W2.heap.size, v.length, rfl, by have := HB2.out; omega, by simp, World.cell?_alloc_at _ _ _ _ rfl, World.frozen?_alloc_at _ _ _ _ rfl, hg2, Nat.le_refl _, (Below.refl _ _).alloc (by have := HB2.out; omega) _⟩
          case round =>
            obtain ⟨b, dd, rfl, hb1, hb2, hbc, hbf, hd1, hd2, hBd⟩ := hrel
            have hLBd := HLB.out.below hBd hSB
            have hOd := HO.out.below hBd (Nat.le_of_eq HB2.out)
            have l1 := hLBd.c1
            have HdO := Lib.hid (dOf_eq hbc)
            by_cases hlt : 1 < dd
            · have hlt1 : (1 : Int) < dd := by omega
              have hd0 : (0 : Int) < dd := by omega
              have hn0 : (0 : Int) ≤ v.length := by omega
              by_cases hdv : v.length % dd = 0
              · have hdv1 : ((v.length : Int) % (dd : Int) == 0) = true := by rw [beq_iff_eq]; omega
                have hdvd := Nat.dvd_of_mod_eq_zero hdv
                have Hcall := Lib.hid (HC.out wr b dd hOd.ints hbc hdvd (by omega) (by omega))
                have Hdvd := Lib.hid hdvd
                clear hdvd
                cases hcm : decide (Comm v.length L dd) with
                | false =>
                  have hne : dd ≠ G := by
                    intro e
                    rw [decide_eq_false_iff_not] at hcm
                    exact hcm (by rw [e, ← HG.out]; exact comm_gcd _ _)
                  rw [hcm] at Hcall
                  clear hcm
                  go_wp2_with fail
                  refine Hcall.out.mono ?_
                  rintro e w' ⟨rfl, rfl⟩
                  go_wp2_with fail
                  exact ⟨⟨_, dd - 1, rfl, by have := hBd.size; have := HB2.out; omega, by simp, (World.cell?_alloc_at _ _ _ _ rfl).trans (by simp; omega), World.frozen?_alloc_at _ _ _ _ rfl, by omega, by omega, hBd.alloc (by have := hBd.size; have := HB2.out; omega) _⟩, by
                    rw [HdO.out, dOf_eq (d := dd - 1) ((World.cell?_alloc_at _ _ _ _ rfl).trans (by simp; omega))]; omega⟩
                | true =>
                  rw [hcm] at Hcall
                  have hdg : dd = G := by
                    rw [decide_eq_true_iff] at hcm
                    rw [← HG.out]
                    exact comm_gcd_eq h0 hcm (by rw [HG.out]; exact hd1)
                  clear hcm
                  subst hdg
                  have HN : Hid ((v.length : Int) / (dd : Int) = lowN v.length L) := by unfold Hid lowN; rw [HG.out]; simp
                  have Hda : Hid (divTo L dd v.length = lowL v.length L) := by
                    have := divTo_all L v.length
                    rw [HG.out, HLl.out] at this
                    exact this
                  have hO0 : Own wr B0 (some ⟨g, 0, none⟩) v.length (divTo L dd 0) := by rw [divTo_zero]; exact hOd
                  have HLs := Lib.hid (hLBd.set2 (y := (v.length : Int) / dd))
                  have HOs := Lib.hid (hO0.setCell_ne (u := .int .i64 ((v.length : Int) / dd)) (S := S) (j := 2) (by intro e; simp [blk] at e; omega))
                  have HBs := Lib.hid ((HBk.out.trans (hBd.mono (by have := HB2.out; omega))).setCell (p := ⟨S, 2, none⟩) (by simp only; omega) (.int .i64 ((v.length : Int) / dd)))
                  have Hbs := Lib.hid ((World.cell?_setCell_other wr _ _ (.int .i64 ((v.length : Int) / dd)) (ne_blk (j := 2) (k := 0) (show S ≠ b by omega))).trans hbc)
                  have l2 := hLBd.c2
                  have lf := hLBd.f2
                  have hq1 : (0 : Int) ≤ (v.length : Int) / dd := Int.ediv_nonneg (by omega) (by omega)
                  have hq2 : (v.length : Int) / dd ≤ 6 := Int.le_trans (Int.ediv_le_self _ (by omega)) (by omega)
                  have hgb : g ≠ b := by omega
                  clear hO0 hLBd hOd HO HLB hBd
                  go_wp2_with fail
                  refine Hcall.out.mono ?_
                  rintro e w' ⟨rfl, rfl⟩
                  go_wp2_with fail
                  clear l1 l2 lf hbc hbf
                  have l1 := HLs.out.c1
                  go_wp2_with fail
                  go_loopw [101] (fun t wr => ∃ j : Nat, j ≤ v.length ∧ t = .int .i64 j ∧ LB wr S (.slice q v.length d) (some ⟨g, 0, none⟩) v.length v.length ((v.length : Int) / dd) ∧ Own wr B0 (some ⟨g, 0, none⟩) v.length (divTo L dd j) ∧ wr.cell? ⟨b, 0, none⟩ = some (.int .i64 (dd : Int)) ∧ Below B0 W0 wr) (fun t _ => v.length - (intOf t).toNat)
                  case atStart => exact ⟨0, by omega, rfl, HLs.out, HOs.out, Hbs.out, HBs.out⟩
                  case round =>
                    obtain ⟨j, hj, rfl, hLj, hOj, hcj, hBj⟩ := hrel
                    by_cases hjl : j < v.length
                    · have hj1 : (j : Int) < v.length := by omega
                      have hjr : j < L.length := by rw [HLl.out]; exact hjl
                      have hcx := hOj.at (j := j) (by rw [divTo_len]; exact hjr)
                      rw [divTo_get hjr, if_neg (Nat.lt_irrefl j)] at hcx
                      have hfj := hOj.free j
                      have hrb := Hlb.out j hjl
                      have hbt := tdiv_bound (x := iget L j) (d := dd) (M := 150000000) (by omega) hrb.1 hrb.2
                      have Hst := Lib.hid (divTo_succ (g := dd) hjr)
                      obtain ⟨y, hy⟩ : ∃ y, iget L j = y := ⟨_, rfl⟩
                      rw [hy] at hcx hrb hbt Hst
                      have hy64 : in64 (y.tdiv dd) := ⟨by omega, by omega⟩
                      have HL5 := Lib.hid (hLj.ne (g := g) (k := j) (u := .int .i64 (y.tdiv dd)) (by omega))
                      have HO5 := Lib.hid (hOj.set j hy64).1
                      have Hc5 := Lib.hid ((World.cell?_setCell_other wr _ _ (.int .i64 (y.tdiv dd)) (ne_blk (j := j) (k := 0) hgb)).trans hcj)
                      have HB5 := Lib.hid (hBj.setCell (p := ⟨g, j, none⟩) (by simp only; omega) (.int .i64 (y.tdiv dd)))
                      have c1 := hLj.c1
                      have hdn : (dd : Int) ≠ 0 := by omega
                      have hdw : IntKind.i64.wrap (y.tdiv dd) = y.tdiv dd := IntWalk.i64_in _ (by omega)
                      clear hy hLj hOj hBj
                      go_wp2_with fail
                      go_region
                      all_goals
                        go_wp2_with fail
                        go_roundw
                        case rel => exact ⟨j + 1, by omega, by go_num, HL5.out.drew ⟨1, rfl⟩, by rw [Hst.out]; exact HO5.out.drew1, Hc5.out, HB5.out.drew⟩
                        case measure => simp [intOf]; omega
                    · have hj1 : ¬ (j : Int) < v.length := by omega
                      obtain rfl : j = v.length := by omega
                      rw [Hda.out] at hOj
                      have HLe := Lib.hid hLj
                      have HOe := Lib.hid hOj
                      have HBe := Lib.hid hBj
                      clear hLj hOj hBj hcj
                      have h3e := H3.out.below HBe.out (by omega)
                      have H3e := Lib.hid h3e
                      have c0 := HLe.out.c0
                      have c1 := HLe.out.c1
                      have c2 := HLe.out.c2
                      obtain ⟨⟨x0, t0⟩, ⟨x1, t1⟩, ⟨x2, t2⟩, u0, u1, u2⟩ := h3e
                      go_wp2_with fail
                      clear c0 c1 c2 t0 t1 t2 u0 u1 u2
                      obtain ⟨k0, k1, k2⟩ := H3e.out.set (.slice q v.length d) (.slice (some ⟨g, 0, none⟩) v.length v.length) (.int .i64 ((v.length : Int) / dd))
                      refine bodyPost_ret (v := .agg #[.slice q v.length d, .slice (some ⟨g, 0, none⟩) v.length v.length, .int .i64 ((v.length : Int) / dd)]) (by simp [results, Try.results23, go_sem, k0, k1, k2]) rfl ?_
                      refine ⟨some ⟨g, 0, none⟩, v.length, by rw [HLL.out, HN.out], ?_, ?_⟩
                      · rw [HLL.out]
                        exact ((((HOe.out.setCell_far (j := 0) _ (by omega)).setCell_far (j := 1) _ (by omega)).setCell_far (j := 2) _ (by omega))).lower (by omega)
                      · exact (((hB.trans (HBe.out.mono (by omega))).setCell (p := ⟨w.heap.size + 1, 0, none⟩) (by simp only; omega) _).setCell (p := ⟨w.heap.size + 1, 1, none⟩) (by simp only; omega) _).setCell (p := ⟨w.heap.size + 1, 2, none⟩) (by simp only; omega) _
              · have hdv1 : ((v.length : Int) % (dd : Int) == 0) = false := by rw [beq_eq_false_iff_ne]; omega
                have hne : dd ≠ G := by
                  intro e
                  exact hdv (Nat.mod_eq_zero_of_dvd (by rw [e, ← HG.out]; exact (comm_gcd _ _).1))
                go_wp2_with fail
                exact ⟨⟨_, dd - 1, rfl, by have := hBd.size; have := HB2.out; omega, by simp, (World.cell?_alloc_at _ _ _ _ rfl).trans (by simp; omega), World.frozen?_alloc_at _ _ _ _ rfl, by omega, by omega, hBd.alloc (by have := hBd.size; have := HB2.out; omega) _⟩, by
                  rw [HdO.out, dOf_eq (d := dd - 1) ((World.cell?_alloc_at _ _ _ _ rfl).trans (by simp; omega))]; omega⟩
            · have hlt1 : ¬ (1 : Int) < dd := by omega
              obtain ⟨m1, m2⟩ := low_one (n := v.length) (l := L) (by rw [HG.out]; omega)
              have HN : Hid ((v.length : Int) = lowN v.length L) := m2.symm
              have HLe := Lib.hid hLBd
              have HOe := Lib.hid (m1.symm ▸ hOd : Own wr B0 (some ⟨g, 0, none⟩) v.length (lowL v.length L))
              have HBe := Lib.hid (HBk.out.trans (hBd.mono (by have := HB2.out; omega)))
              clear m1 m2 hLBd hOd
              have h3e := H3.out.below HBe.out (by omega)
              have H3e := Lib.hid h3e
              have c0 := HLe.out.c0
              have c1 := HLe.out.c1
              have c2 := HLe.out.c2
              obtain ⟨⟨x0, t0⟩, ⟨x1, t1⟩, ⟨x2, t2⟩, u0, u1, u2⟩ := h3e
              go_wp2_with fail
              clear c0 c1 c2 t0 t1 t2 u0 u1 u2
              obtain ⟨k0, k1, k2⟩ := H3e.out.set (.slice q v.length d) (.slice (some ⟨g, 0, none⟩) v.length v.length) (.int .i64 (v.length))
              refine bodyPost_ret (v := .agg #[.slice q v.length d, .slice (some ⟨g, 0, none⟩) v.length v.length, .int .i64 (v.length)]) (by simp [results, Try.results23, go_sem, k0, k1, k2]) rfl ?_
              refine ⟨some ⟨g, 0, none⟩, v.length, by rw [HLL.out, HN.out], ?_, ?_⟩
              · rw [HLL.out]
                exact ((((HOe.out.setCell_far (j := 0) _ (by omega)).setCell_far (j := 1) _ (by omega)).setCell_far (j := 2) _ (by omega))).lower (by omega)
              · exact (((hB.trans (HBe.out.mono (by omega))).setCell (p := ⟨w.heap.size + 1, 0, none⟩) (by simp only; omega) _).setCell (p := ⟨w.heap.size + 1, 1, none⟩) (by simp only; omega) _).setCell (p := ⟨w.heap.size + 1, 2, none⟩) (by simp only; omega) _
end Go.Proofs.Ytmcncflieoolmaa

/- The walk of slices.Min at a list that is not empty. -/
namespace Go.Proofs.Ytmcncflieoolmaa
set_option linter.unusedVariables false
set_option linter.unusedSimpArgs false
open Go.ChangeShapes Go.WideShapes Go.ChangeAt Go.RowKit Go.Deep

def lowTo (xs : List Int) : Nat → Int
  | 0 => iget xs 0
  | k + 1 => min (lowTo xs k) (iget xs k)
theorem lowTo_one (xs : List Int) : lowTo xs 1 = iget xs 0 := by simp [lowTo]
theorem lowTo_le (xs : List Int) : ∀ k j, j < k → lowTo xs k ≤ iget xs j
  | k + 1, j, h => by
    rw [lowTo]
    by_cases e : j = k
    · subst e; omega
    · have := lowTo_le xs k j (by omega); omega
theorem lowTo_mem (xs : List Int) : ∀ k, 1 ≤ k → ∃ j, j < k ∧ lowTo xs k = iget xs j
  | k + 1, _ => by
    by_cases h0 : k = 0
    · subst h0; exact ⟨0, by omega, lowTo_one xs⟩
    · obtain ⟨j, hj, he⟩ := lowTo_mem xs k (by omega)
      rw [lowTo]
      by_cases h : lowTo xs k ≤ iget xs k
      · exact ⟨j, by omega, by omega⟩
      · exact ⟨k, by omega, by omega⟩
set_option maxHeartbeats 800000 in
theorem sMin_any (p : Option Addr) (c : Nat) (xs : List Int) (w : World) (hx : Ints w p c xs) (h0 : 0 < xs.length) :
    Calls Try.prog 35 #[.slice p xs.length c] w fun e w' => e = .returned (.int .i64 (lowTo xs xs.length)) ∧ w' = w := by
  have hl1 := hx.length_le
  obtain ⟨b, o, rfl, _, hc0⟩ := hx.get h0
  rw [Nat.add_zero] at hc0
  have hd : decide ((xs.length : Int) < 1) = false := by rw [decide_eq_false_iff_not]; omega
  have h01 : (0 : Int) < xs.length := by omega
  have H1 := Lib.hid (lowTo_one xs)
  go_enter Try.func35, Try.ntmps35
  go_wp2_with fail
  go_loop [3, 4] (fun s t => ∃ k : Nat, 1 ≤ k ∧ k ≤ xs.length ∧ t = .int .i64 k ∧ s = .int .i64 (lowTo xs k)) (fun _ t => xs.length - (intOf t).toNat)
  case atStart => exact ⟨1, Nat.le_refl _, h0, rfl, by rw [H1.out]⟩
  case round =>
    obtain ⟨k, hk0, hk, rfl, rfl⟩ := hrel
    by_cases hlt : k < xs.length
    · have hk1 : (k : Int) < xs.length := by omega
      have hc := hx.at hlt
      have HS : Hid (lowTo xs (k + 1) = min (lowTo xs k) (iget xs k)) := rfl
      generalize lowTo xs k = y at *
      generalize iget xs k = z at *
      by_cases hyz : y ≤ z
      · have hm : min y z = y := by omega
        rw [hm] at HS
        go_wp2_with fail
        go_round
        case rel => exact ⟨k + 1, by omega, by omega, by go_num, by rw [HS.out] <;> first | rfl | (congr 1; omega)⟩
        case measure => (simp [intOf] <;> omega)
      · have hm : min y z = z := by omega
        rw [hm] at HS
        go_wp2_with fail
        go_round
        case rel => exact ⟨k + 1, by omega, by omega, by go_num, by rw [HS.out] <;> first | rfl | (congr 1; omega)⟩
        case measure => (simp [intOf] <;> omega)
    · have hk1 : ¬ (k : Int) < xs.length := by omega
      obtain rfl : k = xs.length := by omega
      go_wp2_with fail
      go_ret
      exact ⟨rfl, rfl⟩
end Go.Proofs.Ytmcncflieoolmaa

/- The walk of slices.Max at a list that is not empty. -/
namespace Go.Proofs.Ytmcncflieoolmaa
set_option linter.unusedVariables false
set_option linter.unusedSimpArgs false
open Go.ChangeShapes Go.WideShapes Go.ChangeAt Go.RowKit Go.Deep

def highTo (xs : List Int) : Nat → Int
  | 0 => iget xs 0
  | k + 1 => max (highTo xs k) (iget xs k)
theorem highTo_one (xs : List Int) : highTo xs 1 = iget xs 0 := by simp [highTo]
theorem highTo_ge (xs : List Int) : ∀ k j, j < k → iget xs j ≤ highTo xs k
  | k + 1, j, h => by
    rw [highTo]
    by_cases e : j = k
    · subst e; omega
    · have := highTo_ge xs k j (by omega); omega
theorem highTo_mem (xs : List Int) : ∀ k, 1 ≤ k → ∃ j, j < k ∧ highTo xs k = iget xs j
  | k + 1, _ => by
    by_cases h0 : k = 0
    · subst h0; exact ⟨0, by omega, highTo_one xs⟩
    · obtain ⟨j, hj, he⟩ := highTo_mem xs k (by omega)
      rw [highTo]
      by_cases h : iget xs k ≤ highTo xs k
      · exact ⟨j, by omega, by omega⟩
      · exact ⟨k, by omega, by omega⟩
set_option maxHeartbeats 800000 in
theorem sMax_any (p : Option Addr) (c : Nat) (xs : List Int) (w : World) (hx : Ints w p c xs) (h0 : 0 < xs.length) :
    Calls Try.prog 22 #[.slice p xs.length c] w fun e w' => e = .returned (.int .i64 (highTo xs xs.length)) ∧ w' = w := by
  have hl1 := hx.length_le
  obtain ⟨b, o, rfl, _, hc0⟩ := hx.get h0
  rw [Nat.add_zero] at hc0
  have hd : decide ((xs.length : Int) < 1) = false := by rw [decide_eq_false_iff_not]; omega
  have h01 : (0 : Int) < xs.length := by omega
  have H1 := Lib.hid (highTo_one xs)
  go_enter Try.func22, Try.ntmps22
  go_wp2_with fail
  go_loop [3, 4] (fun s t => ∃ k : Nat, 1 ≤ k ∧ k ≤ xs.length ∧ t = .int .i64 k ∧ s = .int .i64 (highTo xs k)) (fun _ t => xs.length - (intOf t).toNat)
  case atStart => exact ⟨1, Nat.le_refl _, h0, rfl, by rw [H1.out]⟩
  case round =>
    obtain ⟨k, hk0, hk, rfl, rfl⟩ := hrel
    by_cases hlt : k < xs.length
    · have hk1 : (k : Int) < xs.length := by omega
      have hc := hx.at hlt
      have HS : Hid (highTo xs (k + 1) = max (highTo xs k) (iget xs k)) := rfl
      generalize highTo xs k = y at *
      generalize iget xs k = z at *
      by_cases hyz : y ≤ z
      · have hm : max y z = z := by omega
        rw [hm] at HS
        go_wp2_with fail
        go_round
        case rel => exact ⟨k + 1, by omega, by omega, by go_num, by rw [HS.out] <;> first | rfl | (congr 1; omega)⟩
        case measure => (simp [intOf] <;> omega)
      · have hm : max y z = y := by omega
        rw [hm] at HS
        go_wp2_with fail
        go_round
        case rel => exact ⟨k + 1, by omega, by omega, by go_num, by rw [HS.out] <;> first | rfl | (congr 1; omega)⟩
        case measure => (simp [intOf] <;> omega)
    · have hk1 : ¬ (k : Int) < xs.length := by omega
      obtain rfl : k = xs.length := by omega
      go_wp2_with fail
      go_ret
      exact ⟨rfl, rfl⟩
end Go.Proofs.Ytmcncflieoolmaa
