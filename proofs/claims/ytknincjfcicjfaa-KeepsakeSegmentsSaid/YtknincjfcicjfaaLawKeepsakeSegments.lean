/- The walk of the law KeepsakeSegments: for every number and markers it returns true, and changes nothing that was there.  (Printed by wip/genksegs.py.) -/
import Derived.Test.YtknincjfcicjfaaAlive29
import Derived.Test.YtknincjfcicjfaaKeepK
import Derived.BigQuiet
namespace Go.Proofs.Ytknincjfcicjfaa
set_option linter.unusedVariables false
set_option linter.unusedSimpArgs false
open Go.ChangeShapes Go.WideShapes Go.ChangeAt Go.RowKit Go.Deep

theorem wp_drew2 {P : Program} {s : Code} {Q : Exit → Act → World → Prop} {a : Act} {wq w : World} (hw : ∃ n, w = wq.drewN n) (h : ∀ ws, (∃ n, ws = wq.drewN n) → s.wp P Q a ws) : s.wp P Q a w := h w hw
set_option maxHeartbeats 4000000 in
set_option maxRecDepth 100000 in
theorem keepsakeSegments_early (m : Int) (p : Option Addr) (c : Nat) (v : List (List Int)) (w : World) (hm64 : in64 m) (hx : Mat w p c v) (hN : ¬ Marks m v) :
    Calls Try.prog 6 #[.int .i64 m, .slice p v.length c] w fun e w' => e = .returned (.bool true) ∧ Below w.heap.size w w' := by
  have h0 : chkM m v ≠ 0 := fun h => hN (chkM_zero.1 h)
  have hC := fun W h1 => ref29Check_any m p c v W hm64 (h1 : Mat W p c v)
  obtain ⟨k, hk⟩ : ∃ k, chkM m v = k := ⟨_, rfl⟩
  rw [hk] at hC h0
  have hd : (k != 0) = true := by rw [bne_iff_ne]; exact h0
  have HC := Lib.hid hC
  clear hC hN h0 hk
  go_enter Try.func6, Try.ntmps6
  go_wp2_with fail
  refine (alive29_any _).mono ?_
  rintro e w1 ⟨rfl, hb⟩
  go_wp2_with fail
  refine (HC.out _ (hx.below hb (Nat.le_refl _))).mono ?_
  rintro e w2 ⟨rfl, n, rfl⟩
  go_wp2_with fail
  go_ret
  exact ⟨rfl, hb.drewN' _⟩
set_option maxHeartbeats 4000000 in
set_option maxRecDepth 100000 in
theorem keepsakeSegments_main (m : Int) (p : Option Addr) (c : Nat) (v : List (List Int)) (w : World) (hm64 : in64 m) (hx : Mat w p c v) (hM : Marks m v) :
    Calls Try.prog 6 #[.int .i64 m, .slice p v.length c] w fun e w' => e = .returned (.bool true) ∧ Below w.heap.size w w' := by
  obtain ⟨M, rfl⟩ : ∃ M : Nat, m = M := ⟨m.toNat, by have := hM.1; omega⟩
  have hC := fun W h1 => ref29Check_any (M : Int) p c v W hm64 (h1 : Mat W p c v)
  have hGv := fun W h1 => keepGive_any (M : Int) p c v W hm64 (h1 : Mat W p c v)
  have hRd := fun W h1 => keepRoundsTop_any (M : Int) p c v W hm64 (h1 : Mat W p c v)
  rw [chkM_zero.2 hM] at hC hGv hRd
  have e1 : rndsL (M : Int) v = rndL (M : Int) v := by unfold rndsL; rw [if_pos hM]
  rw [e1] at hRd
  have hga : (givL (M : Int) v).length = M := by rw [givL_pos hM, givTo_len]; exact Int.toNat_natCast M
  have hrl := rndL_len (M : Int) v
  have hA := rndL_isA (M : Int) v
  have hiff := fun r k (hr : r < v.length) (hk : k < M) => giv_iff hM hr (show k < ((M : Nat) : Int).toNat by rw [Int.toNat_natCast]; exact hk)
  have hseg := fun r (hr : r < v.length) => sg_eq hM hr
  have hlat := fun r s (hr : r < s) (hs : s < v.length) => later (m := (M : Int)) hr hs
  have hag := fun r (hr : r < v.length) => agR_at (m := (M : Int)) hr
  have hend := left_given hM v.length (Nat.le_refl _)
  rw [← givL_pos hM, Int.toNat_natCast] at hend
  have hg0 : gvnC (M : Int) v 0 = 0 := rfl
  obtain ⟨a, haL⟩ : ∃ a, givL (M : Int) v = a := ⟨_, rfl⟩
  obtain ⟨l, hlL⟩ : ∃ l, rndL (M : Int) v = l := ⟨_, rfl⟩
  rw [haL] at hGv hga hend
  rw [hlL] at hRd hrl hA
  simp only [haL, hlL] at hiff hag
  have hO := fun W q d (h : Ints W q d l) => order29_any q d l v.length W hx.length_le h
  rw [kAB_true hA] at hO
  have hm1 := hM.1
  have hm2 := hM.2.1
  have hv0 := hM.2.2.1
  have hv6 := hM.2.2.2.1
  have hrow : ∀ i, i < v.length → (rget v i).length + 1 = v.length := fun i hi => (hM.2.2.2.2 i hi).1
  have hkey : ∀ i r, i < v.length → r + 1 < v.length → iget (rget v i) r = keyR (M : Int) v r i := fun i r hi hr => by
    unfold keyR
    rw [if_pos hr, Int.toNat_natCast]
  have Hrow := Lib.hid hrow
  have Hkey := Lib.hid hkey
  have HC := Lib.hid hC
  have HGv := Lib.hid hGv
  have HRd := Lib.hid hRd
  have Hga := Lib.hid hga
  have Hrl := Lib.hid hrl
  have Hiff := Lib.hid hiff
  have Hseg := Lib.hid hseg
  have Hlat := Lib.hid hlat
  have Hag := Lib.hid hag
  have Hend := Lib.hid hend
  have HO := Lib.hid hO
  have HA := Lib.hid hA
  have Hg0 := Lib.hid hg0
  have Hgs : Hid (∀ r, gvnC (M : Int) v (r + 1) = gvnC (M : Int) v r + ((sgB (M : Int) v r : Int) - (sgA (M : Int) v r : Int))) := fun r => gvnC_succ (M : Int) v r
  have hgb : Hid (∀ r, r ≤ v.length → 0 ≤ gvnC (M : Int) v r ∧ gvnC (M : Int) v r ≤ 30 * r) := by
    intro r
    induction r with
    | zero => intro _; exact ⟨Int.le_refl _, Int.le_refl _⟩
    | succ r ih =>
      intro hr
      obtain ⟨_, _, h1, h2⟩ := sg_eq hM (r := r) (by omega)
      have := ih (by omega)
      rw [gvnC_succ]; omega
  have hB : Below w.heap.size w w := Below.refl _ _
  obtain ⟨hm3, hm4⟩ := hm64
  clear hC hGv hRd e1 hga hrl hA hiff hseg hlat hag hend hg0 haL hlL hO hM hrow hkey
  go_enter Try.func6, Try.ntmps6
  go_wp2_with fail
  refine (alive29_any _).mono ?_
  rintro e w1 ⟨rfl, hb⟩
  replace hx := hx.below hb (Nat.le_refl _)
  replace hB := hB.trans (hb.mono hB.size)
  clear hb
  go_wp2_with fail
  refine (HC.out _ hx).mono ?_
  rintro e w3 ⟨rfl, n3, hw3⟩
  have hb : Below w1.heap.size w1 w3 := by rw [hw3]; exact below_drewN _ _ _
  replace hx := hx.below hb (Nat.le_refl _)
  replace hB := hB.trans (hb.mono hB.size)
  clear hb hw3
  go_wp2_with fail
  refine (HGv.out _ hx).mono ?_
  rintro e w4 ⟨pa, ca, rfl, oa, hb⟩
  rw [Hga.out]
  replace hx := hx.below hb (Nat.le_refl _)
  replace hB := hB.trans (hb.mono hB.size)
  have ia := oa.ints
  clear hb oa
  go_wp2_with fail
  refine (HRd.out _ hx).mono ?_
  rintro e w5 ⟨pl, cl, rfl, ol, hb⟩
  replace hx := hx.below hb (Nat.le_refl _)
  replace ia := ia.below hb (Nat.le_refl _)
  replace hB := hB.trans (hb.mono hB.size)
  have il := ol.ints
  clear hb ol
  have hlv := hx.length_le
  go_wp2_with fail
  refine (HO.out _ _ _ il).mono ?_
  rintro e w6 ⟨rfl, rfl⟩
  rw [Hrl.out]
  go_wp2_with fail
  go_loopw [10, 11] (fun s t wr => ∃ r : Nat, r ≤ v.length ∧ s = .int .i64 (gvnC (M : Int) v r) ∧ t = .int .i64 r ∧ ∃ N, wr = w6.drewN N) (fun _ t _ => v.length - (intOf t).toNat)
  case atStart => exact ⟨0, Nat.zero_le _, by rw [Hg0.out], rfl, 0, rfl⟩
  case round =>
    obtain ⟨r, hr, rfl, rfl, N, rfl⟩ := hrel
    have hgr := hgb.out r hr
    by_cases hlt : r < v.length
    · have hr1 : (r : Int) < v.length := by omega
      obtain ⟨e1, e2⟩ := Hag.out r hlt
      obtain ⟨s1, s2, s3, s4⟩ := Hseg.out r hlt
      have hgs := Hgs.out r
      have hgr2 := hgb.out (r + 1) (by omega)
      have HI := Lib.hid (fun k hk => Hiff.out r k hlt hk)
      have hrw := Hrow.out _ e2
      obtain ⟨bl, ol, rfl, _, hcl⟩ := (il.drewN N).get (j := r) (by rw [Hrl.out]; exact hlt)
      obtain ⟨bv, ov, rfl, _, q, d, hcr, hir⟩ := (hx.drewN N).get e2
      have hS := segment_any (M : Int) q d (rget v (agR (M : Int) v r)) r _ hir (by omega)
      rw [s1, s2] at hS
      rw [e1] at hcl
      have HE1 := Lib.hid e1
      obtain ⟨A, hA⟩ : ∃ z, sgA (M : Int) v r = z := ⟨_, rfl⟩
      obtain ⟨B, hBB⟩ : ∃ z, sgB (M : Int) v r = z := ⟨_, rfl⟩
      rw [hA, hBB] at hS hgs HI
      rw [hA] at s3
      rw [hBB] at s3 s4
      obtain ⟨G, hG⟩ : ∃ z, gvnC (M : Int) v r = z := ⟨_, rfl⟩
      rw [hG] at hgr hgs ⊢
      rw [hgs] at hgr2
      have HGs := Lib.hid hgs
      have HS := Lib.hid hS
      have hd1 : decide ((B : Int) ≤ A) = false := by rw [decide_eq_false_iff_not]; omega
      have hd2 : decide (B ≤ A) = false := by rw [decide_eq_false_iff_not]; omega
      have hml : (agR (M : Int) v r : Int) < v.length := by omega
      obtain ⟨ag, hagr⟩ : ∃ z, agR (M : Int) v r = z := ⟨_, rfl⟩
      have HS' : Hid (Calls Try.prog 27 #[.int .i64 (M : Int), .slice q (rget v ag).length d, .int .i64 (r : Int)] (w6.drewN N) fun e w' => e = .returned (.tuple #[.int .i64 (A : Int), .int .i64 (B : Int)]) ∧ w' = w6.drewN N) := by rw [← hagr]; exact HS.out
      rw [hagr] at hcl hcr hml e2 hir hrw HE1
      have HAg := Lib.hid hagr
      have Hrw := Lib.hid hrw
      clear hS HS hgs hG hA hBB s1 s2 e1 hagr hrw
      obtain ⟨wo, hwo⟩ : ∃ W : World, w6.drewN N = W := ⟨_, rfl⟩
      rw [hwo] at hcl hcr hir HS' ⊢
      have ha' := ia.drewN N
      have hl' := il.drewN N
      have hx' := hx.drewN N
      rw [hwo] at ha' hl' hx'
      have HWo := Lib.hid hwo
      clear hwo
      go_wp2_with fail
      refine HS'.out.mono ?_
      rintro e w7 ⟨rfl, rfl⟩
      go_wp2_with fail
      go_loopw [14] (fun s wk => ∃ k : Nat, k ≤ M ∧ s = .int .i64 k ∧ ∃ N, wk = w7.drewN N) (fun s _ => M - (intOf s).toNat)
      case atStart => exact ⟨0, Nat.zero_le _, rfl, 0, rfl⟩
      case round =>
        obtain ⟨k, hk, rfl, N2, rfl⟩ := hrel
        by_cases hlt2 : k < M
        · have hk1 : (k : Int) < (M : Int) := by omega
          have hI := HI.out k hlt2
          rw [HE1.out] at hI
          obtain ⟨ba, oa, rfl, _, hca⟩ := ha'.get (j := k) (by rw [Hga.out]; exact hlt2)
          obtain ⟨z, hz⟩ : ∃ z, iget a k = z := ⟨_, rfl⟩
          rw [hz] at hca hI
          by_cases h1 : A ≤ k
          · have f1 : decide ((A : Int) ≤ k) = true := by rw [decide_eq_true_iff]; omega
            have f1' : decide (A ≤ k) = true := decide_eq_true h1
            by_cases h2 : k < B
            · have f2 : decide ((k : Int) < B) = true := by rw [decide_eq_true_iff]; omega
              have f2' : decide (k < B) = true := decide_eq_true h2
              have f3 : (z == (ag : Int)) = true := by rw [beq_iff_eq]; exact hI.2 ⟨h1, h2⟩
              clear hI hz
              go_wp2_with fail
              go_region
              go_wp2_with fail
              go_roundw
              case rel => exact ⟨k + 1, by omega, by go_num, _, rfl⟩
              case measure => (simp [intOf] <;> omega)
            · have f2 : decide ((k : Int) < B) = false := by rw [decide_eq_false_iff_not]; omega
              have f2' : decide (k < B) = false := decide_eq_false h2
              have f3 : (z == (ag : Int)) = false := by rw [beq_eq_false_iff_ne]; exact fun e => h2 (hI.1 e).2
              clear hI hz
              go_wp2_with fail
              go_region
              go_wp2_with fail
              go_roundw
              case rel => exact ⟨k + 1, by omega, by go_num, _, rfl⟩
              case measure => (simp [intOf] <;> omega)
          · have f1 : decide ((A : Int) ≤ k) = false := by rw [decide_eq_false_iff_not]; omega
            have f1' : decide (A ≤ k) = false := decide_eq_false h1
            have f3 : (z == (ag : Int)) = false := by rw [beq_eq_false_iff_ne]; exact fun e => h1 (hI.1 e).1
            clear hI hz
            go_wp2_with fail
            go_region
            go_wp2_with fail
            go_roundw
            case rel => exact ⟨k + 1, by omega, by go_num, _, rfl⟩
            case measure => (simp [intOf] <;> omega)
        · have hk1 : ¬ (k : Int) < (M : Int) := by omega
          have hl2 := hl'.drewN N2
          have hx2 := hx'.drewN N2
          obtain ⟨w8, hw8⟩ : ∃ W : World, w7.drewN N2 = W := ⟨_, rfl⟩
          have HW8 := Lib.hid hw8
          rw [hw8] at hl2 hx2 ⊢
          have hw : G + ((B : Int) - A) ≤ 1000 := by omega
          clear hw8
          go_wp2_with fail
          go_loopw [15] (fun s wk => ∃ s' : Nat, r + 1 ≤ s' ∧ s' ≤ v.length ∧ s = .int .i64 s' ∧ ∃ N, wk = w8.drewN N) (fun s _ => v.length - (intOf s).toNat)
          case atStart => exact ⟨r + 1, Nat.le_refl _, by omega, by go_num, 0, rfl⟩
          case round =>
            obtain ⟨s', hs1, hs2, rfl, N3, rfl⟩ := hrel
            by_cases hlt3 : s' < v.length
            · have hs3 : (s' : Int) < v.length := by omega
              have hr2 : (r : Int) + 1 < v.length := by omega
              obtain ⟨g1, g2⟩ := Hag.out s' hlt3
              obtain ⟨c1, c2⟩ := Hlat.out r s' (by omega) hlt3
              rw [HAg.out] at c1 c2
              have kx := Hkey.out ag r e2 (by omega)
              have ky := Hkey.out _ r g2 (by omega)
              rw [← kx, ← ky] at c1 c2
              have hrs := Hrow.out _ g2
              have hrw := Hrw.out
              have hcs := hl2.at (j := s') (by rw [Hrl.out]; exact hlt3)
              have hcl2 := hl2.at (j := r) (by rw [Hrl.out]; exact hlt)
              have hlb : bl < w8.heap.size := (hl2.plain _ rfl (by have := hl2.le; have := Hrl.out; omega)).2
              rw [g1] at hcs
              rw [HE1.out] at hcl2
              obtain ⟨q1, d1, hcr1, hir1⟩ := hx2.at e2
              obtain ⟨q2, d2, hcr2, hir2⟩ := hx2.at g2
              obtain ⟨ags, hags⟩ : ∃ z, agR (M : Int) v s' = z := ⟨_, rfl⟩
              rw [hags] at hcs hcr2 hir2 g2 c1 c2 hrs
              obtain ⟨b1, o1, rfl, _, hx1c⟩ := hir1.get (j := r) (by omega)
              obtain ⟨b2, o2, rfl, _, hx2c⟩ := hir2.get (j := r) (by omega)
              obtain ⟨x, hxx⟩ : ∃ z, iget (rget v ag) r = z := ⟨_, rfl⟩
              obtain ⟨y, hyy⟩ : ∃ z, iget (rget v ags) r = z := ⟨_, rfl⟩
              rw [hxx] at hx1c c1 c2
              rw [hyy] at hx2c c1 c2
              have t1 : (ags : Int) < v.length := by omega
              have t2 : (r : Int) < (rget v ag).length := by omega
              have t3 : (r : Int) < (rget v ags).length := by omega
              have f1 : decide (y < x) = false := by rw [decide_eq_false_iff_not]; omega
              by_cases e : x = y
              · have f2 : (x == y) = true := by rw [beq_iff_eq]; exact e
                have h9 := c2 e
                have f3 : decide ((ags : Int) < ag) = false := by rw [decide_eq_false_iff_not]; omega
                have f3' : decide (ags < ag) = false := by rw [decide_eq_false_iff_not]; omega
                clear e c2 kx ky hags hxx hyy g1 hrw hrs c1
                go_wp2_with fail
                go_region
                go_wp2_with fail
                refine wp_drew2 (wq := w8) ⟨_, rfl⟩ fun ws hws => ?_
                have hbs : Below w8.heap.size w8 ws := by obtain ⟨n, rfl⟩ := hws; exact below_drewN _ _ _
                have hcl3 := (hbs.cell (p := ⟨_, _, none⟩) hlb).trans hcl2
                have hcs3 := (hbs.cell (p := ⟨_, _, none⟩) hlb).trans hcs
                have Hws := Lib.hid hws
                clear hws hbs hcl2 hcs
                go_quiet (fail)
                go_wp2_with fail
                go_roundw
                case rel => exact ⟨s' + 1, by omega, by omega, by go_num, drew_drewN _ Hws.out⟩
                case measure => (simp [intOf] <;> omega)
              · have f2 : (x == y) = false := by rw [beq_eq_false_iff_ne]; exact e
                clear e c2 kx ky hags hxx hyy g1 hrw hrs c1
                go_wp2_with fail
                go_region
                go_wp2_with fail
                refine wp_drew2 (wq := w8) ⟨_, rfl⟩ fun ws hws => ?_
                have hbs : Below w8.heap.size w8 ws := by obtain ⟨n, rfl⟩ := hws; exact below_drewN _ _ _
                have hcl3 := (hbs.cell (p := ⟨_, _, none⟩) hlb).trans hcl2
                have hcs3 := (hbs.cell (p := ⟨_, _, none⟩) hlb).trans hcs
                have Hws := Lib.hid hws
                clear hws hbs hcl2 hcs
                go_quiet (fail)
                go_wp2_with fail
                go_roundw
                case rel => exact ⟨s' + 1, by omega, by omega, by go_num, drew_drewN _ Hws.out⟩
                case measure => (simp [intOf] <;> omega)
            · have hs3 : ¬ (s' : Int) < v.length := by omega
              go_wp2_with fail
              go_roundw
              case rel => exact ⟨r + 1, by omega, by rw [HGs.out], by go_num, N + N2 + N3, by rw [← HW8.out, ← HWo.out, World.drewN_drewN, World.drewN_drewN, Nat.add_assoc]⟩
              case measure => (simp [intOf] <;> omega)
    · have hr1 : ¬ (r : Int) < v.length := by omega
      obtain rfl : r = v.length := by omega
      have ha' := ia.drewN N
      have hb' := hB.drewN' N
      obtain ⟨wo, hwo⟩ : ∃ W : World, w6.drewN N = W := ⟨_, rfl⟩
      rw [hwo] at ha' hb' ⊢
      have Hls := Lib.hid (fun k => lftC_succ a k)
      have Hlb := Lib.hid (fun k => lftC_bd a k)
      have Hl0 : Hid (lftC a 0 = 0) := rfl
      obtain ⟨G, hG⟩ : ∃ z, gvnC (M : Int) v v.length = z := ⟨_, rfl⟩
      have hE := Hend.out
      rw [hG] at hE hgr ⊢
      have HE := Lib.hid hE
      clear hwo hG hE
      go_wp2_with fail
      go_loop [18, 19] (fun s t => ∃ k : Nat, k ≤ M ∧ s = .int .i64 (lftC a k) ∧ t = .int .i64 k) (fun _ t => M - (intOf t).toNat)
      case atStart => exact ⟨0, Nat.zero_le _, by rw [Hl0.out], rfl⟩
      case round =>
        obtain ⟨k, hk, rfl, rfl⟩ := hrel
        have b1 := Hlb.out k
        by_cases hlt2 : k < M
        · have hk1 : (k : Int) < (M : Int) := by omega
          obtain ⟨ba, oa, rfl, _, hca⟩ := ha'.get (j := k) (by rw [Hga.out]; exact hlt2)
          have es := Hls.out k
          obtain ⟨z, hz⟩ : ∃ z, iget a k = z := ⟨_, rfl⟩
          obtain ⟨L, hL⟩ : ∃ z, lftC a k = z := ⟨_, rfl⟩
          rw [hz] at hca es
          rw [hL] at es b1 ⊢
          have Es := Lib.hid es
          clear es hz hL
          by_cases h0 : z < 0
          · have d0 : decide (z < 0) = true := decide_eq_true h0
            have Gs : Hid (lftC a (k + 1) = L + 1) := by unfold Hid; rw [Es.out, if_pos h0]
            clear h0
            go_wp2_with fail
            go_round
            case rel => exact ⟨k + 1, by omega, by rw [Gs.out], by go_num⟩
            case measure => (simp [intOf] <;> omega)
          · have d0 : decide (z < 0) = false := decide_eq_false h0
            have Gs : Hid (lftC a (k + 1) = L) := by unfold Hid; rw [Es.out, if_neg h0]; omega
            clear h0
            go_wp2_with fail
            go_round
            case rel => exact ⟨k + 1, by omega, by rw [Gs.out], by go_num⟩
            case measure => (simp [intOf] <;> omega)
        · have hk1 : ¬ (k : Int) < (M : Int) := by omega
          obtain rfl : M = k := by omega
          have hE := HE.out
          obtain ⟨L, hL⟩ : ∃ z, lftC a M = z := ⟨_, rfl⟩
          rw [hL] at hE b1 ⊢
          have f1 : (L + G == (M : Int)) = true := by rw [beq_iff_eq]; exact hE
          clear hL hE
          go_wp2_with fail
          go_ret
          exact ⟨rfl, hb'⟩

theorem keepsakeSegments_walk (m : Int) (p : Option Addr) (c : Nat) (v : List (List Int)) (w : World) (hm64 : in64 m) (hx : Mat w p c v) : Calls Try.prog 6 #[.int .i64 m, .slice p v.length c] w fun e w' => e = .returned (.bool true) ∧ Below w.heap.size w w' := by
  by_cases hM : Marks m v
  · exact keepsakeSegments_main m p c v w hm64 hx hM
  · exact keepsakeSegments_early m p c v w hm64 hx hM
end Go.Proofs.Ytknincjfcicjfaa
