/- The walk of chores.circle: the circle of best bundles. -/
import Derived.Test.YtiohehofnlmenaaCircQ
import Derived.Test.YtiohehofnlmenaaConcat
import Derived.Test.YtiohehofnlmenaaCutI
namespace Go.Proofs.Ytiohehofnlmenaa
set_option linter.unusedVariables false
set_option linter.unusedSimpArgs false
open Go.ChangeShapes Go.WideShapes Go.ChangeAt Go.RowKit Go.Deep

theorem enter_circle1 (args : Array Value) (W : World) : (callFunc 61 args).run Try.prog W = .ok (.enter 61 args) W := by kernel_rfl
theorem circle1_any (x : Int) (w : World) : Calls Try.prog 61 #[.int .i64 x] w fun e w' => e = .returned (.bool true) ∧ w' = w := by
  go_enter Try.func61, Try.ntmps61
  go_wp2_with fail
  go_ret
  exact ⟨rfl, rfl⟩
def lenV : Value → Nat | .slice _ n _ => n | _ => 0
theorem bestRow_any (p : Option Addr) (c n : Nat) (v : List (List Int)) (y : Nat) (w : World) (hn : (rget v y).length = n) (hv : v.length = n) (h0 : 0 < n) (hI : Ints w p c (rget v y)) :
    Calls Try.prog 48 #[.slice p n c, .func (.func 61) #[] #[]] w fun e w' => e = .returned (.int .i64 (bestF v y : Nat)) ∧ w' = w := by
  subst hv
  refine Calls.mono ?_ (fun e w' h => h)
  have := least0_any 61 allP (fun W => W = w) enter_circle1 p c (rget v y) w rfl (Lib.hid (fun W h => h ▸ hI)) (fun j W hj hR => by
    subst hR; exact circle1_any j W)
  rw [hn] at this
  refine this.mono ?_
  rintro e w' ⟨rfl, rfl⟩
  exact ⟨by rw [bestF_eq h0], rfl⟩

/-- 'slices.Concat(s[a:], s[:a])'. -/
theorem concat2_as (g dz a : Nat) (xs : List Int) (w : World) (ha : a < xs.length) (hI : Ints w (some ⟨g, 0, none⟩) dz xs) (hn : xs.length ≤ 1000) :
    Calls Try.prog 64 #[.slice (some ⟨w.heap.size, 0, none⟩) 2 2] (w.alloc (.cells #[.slice (some ⟨g, a, none⟩) (xs.length - a) (dz - a), .slice (some ⟨g, 0, none⟩) a dz] 25)).drew fun e w' =>
      ∃ p c zs, Hid (zs = xs.drop a ++ xs.take a) ∧ e = .returned (.slice p (zs : List Int).length c) ∧ Own w' w.heap.size p c zs ∧ Below w.heap.size w w' := by
  have hle := hI.le
  have h1 := hI.cutPost a (by omega)
  have h2 := hI.cutPre a
  have hm := mat_two w _ _ _ _ _ _ h1 h2
  rw [List.length_drop, List.length_take, Nat.min_eq_left (by omega), Nat.zero_add] at hm
  have hcat : catN [xs.drop a, xs.take a] 2 = xs.drop a ++ xs.take a := by simp [catN, rget]
  have hC := concat_any _ _ [xs.drop a, xs.take a] _ (hm.drewN 1) (by show (catN [xs.drop a, xs.take a] 2).length ≤ 100000; rw [hcat]; simp; omega)
  have hb : Below w.heap.size w (w.alloc (.cells #[.slice (some ⟨g, a, none⟩) (xs.length - a) (dz - a), .slice (some ⟨g, 0, none⟩) a dz] 25)).drew := ((Below.refl _ w).alloc (Nat.le_refl _) _).drew
  refine hC.mono ?_
  rintro e w' ⟨p, c, rfl, hO, hb2⟩
  have e2 : catN [xs.drop a, xs.take a] [xs.drop a, xs.take a].length = xs.drop a ++ xs.take a := hcat
  rw [e2] at hO ⊢
  exact ⟨p, c, _, rfl, rfl, hO.lower hb.size, hb.trans (hb2.mono hb.size)⟩

set_option maxHeartbeats 4000000 in
set_option maxRecDepth 100000 in
theorem circle_any (p : Option Addr) (c : Nat) (v : List (List Int)) (w : World) (hx : Mat w p c v) (h0 : 0 < v.length) (h6 : v.length ≤ 6) (hsq : ∀ i, i < v.length → (rget v i).length = v.length) :
    Calls Try.prog 43 #[.slice p v.length c] w (Gives w (topL (bestF v) v.length)) := by
  have hl1 := hx.length_le
  have hbl : ∀ y, y < v.length → bestF v y < v.length := fun y _ => bestF_lt h0
  have Hbl := Lib.hid hbl
  have Hsq := Lib.hid hsq
  have Hit := Lib.hid (fun k => itN_lt hbl k 0 h0)
  clear hbl hsq
  obtain ⟨L, hL6, hper⟩ : ∃ L, L ≤ v.length ∧ Per (bestF v) (itN (bestF v) v.length 0) L := by
    obtain ⟨M, h1, h2, h3⟩ := it_back Hbl.out h0
    obtain ⟨L, hL, hP⟩ := per_ex h1 h3
    exact ⟨L, by omega, hP⟩
  obtain ⟨a, haL, ha, htop⟩ := orb_least hper rfl
  have Hper := Lib.hid hper
  have Htop := Lib.hid htop
  have Ha := Lib.hid ha
  have h1L := hper.1
  clear hper htop ha
  have HR := Lib.hid (fun y q d W (hy : y < v.length) (hI : Ints W q d (rget v y)) => bestRow_any q d v.length v y W (Hsq.out y hy) rfl h0 hI)
  have Hst : Hid (∀ k, itN (bestF v) (k + 1) 0 = bestF v (itN (bestF v) k 0)) := fun k => rfl
  have Hz0 : Hid (itN (bestF v) 0 0 = 0) := rfl
  go_enter Try.func43, Try.ntmps43
  go_wp2_with fail
  go_loop [4, 9] (fun s t => ∃ k : Nat, k ≤ v.length ∧ t = .int .i64 k ∧ s = .int .i64 (itN (bestF v) k 0 : Nat)) (fun _ t => v.length - (intOf t).toNat)
  case atStart => exact ⟨0, Nat.zero_le _, rfl, by rw [Hz0.out]; rfl⟩
  case round =>
    obtain ⟨k, hk, rfl, rfl⟩ := hrel
    by_cases hlt : k < v.length
    · have hk1 : (k : Int) < v.length := by omega
      have hy := Hit.out k
      have HS := Lib.hid (Hst.out k)
      obtain ⟨y, ey⟩ : ∃ y, itN (bestF v) k 0 = y := ⟨_, rfl⟩
      rw [ey] at hy HS
      rw [ey]
      clear ey
      have hy1 : (y : Int) < v.length := by omega
      obtain ⟨b, o, rfl, _, q, d, hc, hi⟩ := hx.get hy
      rw [Hsq.out y hy] at hc
      have HC := Lib.hid (HR.out y q d w hy hi)
      go_wp2_with fail
      refine HC.out.mono ?_
      rintro e w' ⟨rfl, rfl⟩
      go_wp2_with fail
      go_round
      case rel => exact ⟨k + 1, by omega, by go_num, by rw [HS.out]⟩
      case measure => (simp [intOf] <;> omega)
    · have hk1 : ¬ (k : Int) < v.length := by omega
      obtain rfl : k = v.length := by omega
      have hzlt := Hit.out v.length
      obtain ⟨z, ez⟩ : ∃ z, itN (bestF v) v.length 0 = z := ⟨_, rfl⟩
      rw [ez] at hzlt Hper Htop Ha ⊢
      clear ez
      have Hz1 := Lib.hid (fun k => itN_lt Hbl.out k z hzlt)
      have Hhas := Lib.hid (fun k (h : k ≤ L) => orb_has Hper.out h)
      have Hos : Hid (∀ k, orb (bestF v) z (k + 1) = orb (bestF v) z k ++ [(itN (bestF v) k z : Int)]) := fun k => orb_succ
      have Hst2 : Hid (∀ k, itN (bestF v) (k + 1) z = bestF v (itN (bestF v) k z)) := fun k => rfl
      have Hz2 : Hid (itN (bestF v) 0 z = z) := rfl
      have Hol := Lib.hid (fun k => orb_len (bestF v) z k)
      have ho0 : orb (bestF v) z 0 = [] := rfl
      have Ho0 := Lib.hid ho0
      clear ho0
      go_wp2_with fail
      go_loopw [4, 5] (fun s t wr => ∃ k : Nat, k ≤ L ∧ s = .int .i64 (itN (bestF v) k z : Nat) ∧ (∃ zs qz dz, Hid (zs = orb (bestF v) z k) ∧ t = .slice qz (zs : List Int).length dz ∧ Own wr w.heap.size qz dz zs) ∧ Below w.heap.size w wr) (fun _ t _ => L - lenV t)
      case atStart => exact ⟨0, Nat.zero_le _, by rw [Hz2.out], ⟨[], none, 0, Ho0.out.symm, rfl, Own.ofNil _ _⟩, Below.refl _ _⟩
      case round =>
        obtain ⟨k, hk, rfl, ⟨zs, qz, dz, hz, rfl, hO⟩, hbr⟩ := hrel
        have hzl : zs.length = k := by rw [hz.out]; exact Hol.out k
        have hC := contains_any qz dz zs (itN (bestF v) k z : Int) wr hO.ints
        rw [show hasB zs (itN (bestF v) k z : Int) = decide (k = L) by rw [hz.out]; exact Hhas.out k hk] at hC
        by_cases hlt : k < L
        · rw [show decide (k = L) = false by rw [decide_eq_false_iff_not]; omega] at hC
          have hy := Hz1.out k
          have HS := Lib.hid (Hst2.out k)
          have HO := Lib.hid (Hos.out k)
          obtain ⟨y, ey⟩ : ∃ y, itN (bestF v) k z = y := ⟨_, rfl⟩
          rw [ey] at hy HS hC HO
          rw [ey]
          have hy1 : (y : Int) < v.length := by omega
          have hyi : in64 (y : Int) := ⟨by omega, by omega⟩
          have hsz2 := hbr.size
          have Hzl := Lib.hid hzl
          have hz9 : zs.length ≤ 900000 := by omega
          have HC := Lib.hid hC
          clear ey hzl hC
          go_wp2_with fail
          refine HC.out.mono ?_
          rintro e w' ⟨rfl, rfl⟩
          go_wp2_with (at_builtin; refine wpList_app1 rfl (.tmp 22) (.tmp 24) rfl w.heap.size _ _ zs (y : Int) rfl rfl rfl hO hyi hz9 hsz2 ?_; intro p3 c3 w3 u3 hu3 hO3 hg3 hf3; have hbw := hbr.grown hg3 hsz2 (fun k' e => (hO.lt k' e).1); obtain ⟨b, o, rfl, _, q, d, hc, hi⟩ := (hx.below hbw (Nat.le_refl _)).get hy; rw [Hsq.out y hy] at hc; have HC2 := Lib.hid (HR.out y q d w3 hy hi))
          refine HC2.out.mono ?_
          rintro e w' ⟨rfl, rfl⟩
          go_wp2_with fail
          go_roundw
          case rel => exact ⟨k + 1, by omega, by rw [HS.out], ⟨u3, _, _, by unfold Hid; rw [hu3.out, hz.out, HO.out], rfl, hO3⟩, hbw⟩
          case measure => have e3 : u3.length = k + 1 := by rw [hu3.out, List.length_append, Hzl.out]; rfl
                          have e4 := Hzl.out
                          simp only [lenV]; omega
        · obtain rfl : k = L := by omega
          rw [show decide (k = k) = true by simp] at hC
          obtain rfl := hz.out
          have Hzl := Lib.hid hzl
          have HC := Lib.hid hC
          have hsz2 := hbr.size
          have hin := hO.ints
          have hpos : 0 < (orb (bestF v) z k).length := by rw [Hol.out]; exact h1L
          obtain ⟨g, rfl, hgB, hgl, _, _⟩ := hO.get hpos
          clear hzl hC
          go_wp2_with fail
          refine HC.out.mono ?_
          rintro e w' ⟨rfl, rfl⟩
          by_cases hL1 : k = 1
          · have hb : decide (((orb (bestF v) z k).length : Int) = 1) = true := by rw [decide_eq_true_iff, Hol.out]; omega
            have hb2 : (((orb (bestF v) z k).length : Int) == 1) = true := by rw [beq_iff_eq, Hol.out]; omega
            have HT : Hid (topL (bestF v) v.length = []) := by unfold Hid; rw [Htop.out, if_pos hL1]
            clear hL1
            go_wp2_with fail
            go_ret
            rw [HT.out]
            exact ⟨none, 0, rfl, Own.ofNil _ _, hbr⟩
          · have hb : decide (((orb (bestF v) z k).length : Int) = 1) = false := by rw [decide_eq_false_iff_not, Hol.out]; omega
            have hb2 : (((orb (bestF v) z k).length : Int) == 1) = false := by rw [beq_eq_false_iff_ne, Hol.out]; omega
            have HT : Hid (topL (bestF v) v.length = (orb (bestF v) z k).drop a ++ (orb (bestF v) z k).take a) := by unfold Hid; rw [Htop.out, if_neg hL1]
            have HM := Lib.hid (sMin_any _ dz _ _ hin hpos)
            have HI := sIndex_any _ dz _ (lowTo (orb (bestF v) z k) (orb (bestF v) z k).length) _ hin
            rw [Ha.out] at HI
            have HI := Lib.hid HI
            clear hL1
            go_wp2_with fail
            refine HM.out.mono ?_
            rintro e w' ⟨rfl, rfl⟩
            go_wp2_with fail
            refine HI.out.mono ?_
            rintro e w' ⟨rfl, rfl⟩
            have hle := hin.le
            have hsl1 := run_post g (orb (bestF v) z k).length dz a (by have := Hol.out k; omega) (by have := Hol.out k; omega)
            have hsl2 := run_pre (some ⟨g, 0, none⟩) (orb (bestF v) z k).length dz a (by have := Hol.out k; omega)
            go_wp2_with fail
            have HC2 := Lib.hid (concat2_as g dz a (orb (bestF v) z k) _ (by rw [Hol.out]; exact haL) hin (by rw [Hol.out]; omega))
            go_region_with (go_at_call 64; refine HC2.out.mono ?_; rintro e w3 ⟨p3, c3, zs3, hz3, rfl, hO3, hb3⟩)
            go_wp2_with fail
            go_ret
            rw [HT.out, ← hz3.out]
            exact ⟨p3, c3, rfl, hO3.lower hsz2, hbr.trans (hb3.mono hsz2)⟩
end Go.Proofs.Ytiohehofnlmenaa
