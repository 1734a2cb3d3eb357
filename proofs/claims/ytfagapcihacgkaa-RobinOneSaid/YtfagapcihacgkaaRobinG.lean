/- The walks of robin.Rounds, Snake and of the reference's round, Rounds, Snake; no condition but sizes. -/
import Derived.Test.YtfagapcihacgkaaRobinF
import Derived.Test.YtfagapcihacgkaaRefB
namespace Go.Proofs.Ytfagapcihacgkaa
set_option linter.unusedSimpArgs false
open Go.ChangeShapes Go.WideShapes Go.ChangeAt Go.RowKit Go.Deep
set_option linter.unusedVariables false

set_option maxHeartbeats 800000 in
theorem robinRounds_any (p : Option Addr) (c : Nat) (f : List Int) (many : Int) (w : World) (hx : Ints w p c f) (hl : f.length ≤ 1000000) :
    Calls Try.prog 20 #[.slice p f.length c, .int .i64 many] w (Gives2 w (rndL f false many) (rndE f many)) := by
  go_enter Try.func20, Try.ntmps20
  go_wp2_with fail
  refine (robinSome_any p c f many false w hx hl).mono ?_
  rintro e w' ⟨q, d, rfl, hO, hb⟩
  go_wp2_with fail
  go_ret2
  exact ⟨q, d, rfl, hO, hb⟩
set_option maxHeartbeats 800000 in
theorem robinSnake_any (p : Option Addr) (c : Nat) (f : List Int) (many : Int) (w : World) (hx : Ints w p c f) (hl : f.length ≤ 1000000) :
    Calls Try.prog 22 #[.slice p f.length c, .int .i64 many] w (Gives2 w (rndL f true many) (rndE f many)) := by
  go_enter Try.func22, Try.ntmps22
  go_wp2_with fail
  refine (robinSome_any p c f many true w hx hl).mono ?_
  rintro e w' ⟨q, d, rfl, hO, hb⟩
  go_wp2_with fail
  go_ret2
  exact ⟨q, d, rfl, hO, hb⟩

theorem seqI_false (f : List Int) (t : Nat) : seqI f false t = iget f (t % f.length) := by unfold seqI; simp
/-- The snake's index, as the reference reckons it. -/
def snk (n t : Nat) : Nat := if n ≤ t % (2 * n) then 2 * n - 1 - t % (2 * n) else t % (2 * n)
theorem snk_eq {n : Nat} (t : Nat) (hn : 1 ≤ n) : snk n t = if (t / n) % 2 = 1 then n - 1 - t % n else t % n := by
  unfold snk
  have h1 : t % (2 * n) = t % n + n * (t / n % 2) := by rw [Nat.mul_comm 2 n, Nat.mod_mul]
  have h2 := Nat.mod_lt t (show n > 0 by omega)
  have h3 := Nat.mod_lt (t / n) (show 2 > 0 by omega)
  rw [h1]
  by_cases h : t / n % 2 = 1
  · rw [h, if_pos rfl, Nat.mul_one, if_pos (by omega)]; omega
  · have h0 : t / n % 2 = 0 := by omega
    rw [h0, Nat.mul_zero, if_neg (by omega), if_neg (by omega)]; rfl
theorem seqI_true {f : List Int} (t : Nat) (hf : 1 ≤ f.length) : seqI f true t = iget f (snk f.length t) := by
  rw [snk_eq t hf]; unfold seqI; simp
theorem snk_lt {n : Nat} (t : Nat) (hn : 1 ≤ n) : snk n t < n := by
  rw [snk_eq t hn]
  have h2 := Nat.mod_lt t (show n > 0 by omega)
  split <;> omega

set_option maxHeartbeats 1600000 in
theorem ref18round_any (p : Option Addr) (c : Nat) (f : List Int) (many : Int) (w : World) (hx : Ints w p c f) :
    Calls Try.prog 41 #[.slice p f.length c, .int .i64 many] w fun e w' => e = .returned (.int .i64 (rndE f many)) ∧ w' = w := by
  have hlen := hx.length_le
  by_cases h6 : 6 < f.length
  · have hd : decide (6 < (f.length : Int)) = true := by simp; omega
    have HE := Lib.hid (rndE_many (m := many) h6)
    go_enter Try.func41, Try.ntmps41
    go_wp2_with fail
    go_ret
    exact ⟨ret_int HE.out.symm, rfl⟩
  have hd : decide (6 < (f.length : Int)) = false := by simp; omega
  by_cases h0 : f.length = 0
  · have hd1 : ((f.length : Int) == 0) = true := by rw [beq_iff_eq]; omega
    have HE : Hid (rndE f many = 8) := rndE_bad h6 (.inl h0)
    clear h0
    go_enter Try.func41, Try.ntmps41
    go_wp2_with fail
    go_ret
    exact ⟨ret_int HE.out.symm, rfl⟩
  have hd1 : ((f.length : Int) == 0) = false := by rw [beq_eq_false_iff_ne]; omega
  by_cases hA : IsA f f.length
  · have hab := isAB_true hA
    have hno : ¬ (f.length = 0 ∨ ¬ IsA f f.length) := fun h => by
      rcases h with h | h
      · exact h0 h
      · exact h hA
    by_cases hm0 : many < 0
    · have hd2 : decide (many < 0) = true := by simpa using hm0
      have HE : Hid (rndE f many = 2) := rndE_arg h6 hno (.inl hm0)
      clear hno hA h0
      go_enter Try.func41, Try.ntmps41
      go_wp2_with fail
      refine (assigned_any p c f f.length w hlen hx).mono ?_
      rintro e w' ⟨rfl, rfl⟩
      go_wp2_with fail
      go_ret
      exact ⟨ret_int HE.out.symm, rfl⟩
    have hd2 : decide (many < 0) = false := by simpa using hm0
    by_cases hm6 : 60 < many
    · have hd3 : decide (60 < many) = true := by simpa using hm6
      have HE : Hid (rndE f many = 2) := rndE_arg h6 hno (.inr hm6)
      clear hno hA h0
      go_enter Try.func41, Try.ntmps41
      go_wp2_with fail
      refine (assigned_any p c f f.length w hlen hx).mono ?_
      rintro e w' ⟨rfl, rfl⟩
      go_wp2_with fail
      go_ret
      exact ⟨ret_int HE.out.symm, rfl⟩
    have hd3 : decide (60 < many) = false := by simpa using hm6
    have HE : Hid (rndE f many = 0) := rndE_ok h6 hno (by omega)
    clear hno hA h0
    go_enter Try.func41, Try.ntmps41
    go_wp2_with fail
    refine (assigned_any p c f f.length w hlen hx).mono ?_
    rintro e w' ⟨rfl, rfl⟩
    go_wp2_with fail
    go_ret
    exact ⟨ret_int HE.out.symm, rfl⟩
  · have hab := isAB_false hA
    have HE : Hid (rndE f many = 8) := rndE_bad h6 (.inr hA)
    clear hA h0
    go_enter Try.func41, Try.ntmps41
    go_wp2_with fail
    refine (assigned_any p c f f.length w hlen hx).mono ?_
    rintro e w' ⟨rfl, rfl⟩
    go_wp2_with fail
    go_ret
    exact ⟨ret_int HE.out.symm, rfl⟩
theorem rndE_zero {f : List Int} {many : Int} (h : rndE f many = 0) : 1 ≤ f.length ∧ f.length ≤ 6 ∧ IsA f f.length ∧ 0 ≤ many ∧ many ≤ 60 := by
  by_cases h6 : 6 < f.length
  · rw [rndE_many h6] at h; cases h
  · by_cases h2 : f.length = 0 ∨ ¬ IsA f f.length
    · rw [rndE_bad h6 h2] at h; cases h
    · by_cases h3 : many < 0 ∨ 60 < many
      · rw [rndE_arg h6 h2 h3] at h; cases h
      · exact ⟨by omega, by omega, Classical.not_not.1 fun h => h2 (.inr h), by omega, by omega⟩

set_option maxHeartbeats 2000000 in
set_option maxRecDepth 100000 in
theorem ref18Rounds_any (p : Option Addr) (c : Nat) (f : List Int) (many : Int) (w : World) (hx : Ints w p c f) :
    Calls Try.prog 21 #[.slice p f.length c, .int .i64 many] w (Gives2 w (rndL f false many) (rndE f many)) := by
  by_cases hC : rndE f many = 0
  · have hcz : (rndE f many != 0) = false := by rw [hC]; rfl
    obtain ⟨h1, h6, _, hm0, hm6⟩ := rndE_zero hC
    obtain ⟨M, rfl⟩ : ∃ M : Nat, many = M := ⟨many.toNat, by omega⟩
    have HL : Hid (rndL f false M = seqL f false M) := by unfold Hid rndL; rw [if_pos hC, Int.toNat_natCast]
    have HC := Lib.hid hC
    clear hC
    go_enter Try.func21, Try.ntmps21
    go_wp2_with fail
    refine (ref18round_any p c f M w hx).mono ?_
    rintro e w' ⟨rfl, rfl⟩
    go_wp2_with fail
    go_loopw [6, 7] (fun s i wr => ∃ t : Nat, t ≤ M ∧ i = .int .i64 t ∧ (∃ zs q d, Hid (zs = seqL f false t) ∧ s = .slice q (zs : List Int).length d ∧ Own wr w'.heap.size q d zs) ∧ Below w'.heap.size w' wr) (fun _ i _ => M - (intOf i).toNat)
    case atStart => exact ⟨0, by omega, rfl, ⟨[], none, 0, rfl, rfl, Own.ofNil _ _⟩, Below.refl _ _⟩
    case round =>
      obtain ⟨t, ht, rfl, ⟨zs, q, d, hzz, rfl, hZ⟩, hb⟩ := hrel
      by_cases htM : t < M
      · have ht1 : (t : Int) < M := by omega
        have hxr := hx.below hb (Nat.le_refl _)
        have hmod := Nat.mod_lt t (show f.length > 0 by omega)
        obtain ⟨b, o, rfl, _, hc⟩ := hxr.get hmod
        have hS : Hid (seqL f false (t + 1) = zs ++ [iget f (t % f.length)]) := by unfold Hid; rw [seqL_succ, ← hzz.out, seqI_false]
        obtain ⟨K, hK⟩ : ∃ K, t % f.length = K := ⟨_, rfl⟩
        have hq : (t : Int) % (f.length : Int) = (K : Int) := by rw [← hK]; simp
        rw [hK] at hc hS hmod
        have hK1 : (K : Int) < f.length := by omega
        have hf0 : (1 : Int) ≤ f.length := by omega
        have hy64 := hx.rng K hmod
        have hzl : zs.length ≤ 900000 := by rw [hzz.out, seqL_len]; omega
        have hsz := hb.size
        clear hK
        go_wp2_with (at_builtin; refine wpList_app1 rfl (.tmp 20) (.tmp 28) rfl w'.heap.size _ _ zs (iget f K) rfl rfl rfl hZ hy64 hzl hsz ?_; intro p2 c2 w2 r2 hr2 hO2 hg2 hf2)
        go_roundw
        case rel => exact ⟨t + 1, by omega, by go_num, ⟨r2, p2, c2, by unfold Hid; rw [hr2.out, hS.out], rfl, hO2⟩, below_grown hb hg2 hsz hZ.lt (Nat.le_refl _)⟩
        case measure => simp [intOf]; omega
      · have ht1 : ¬ (t : Int) < M := by omega
        obtain rfl : t = M := by omega
        obtain rfl := hzz.out
        go_wp2_with fail
        go_ret2
        rw [HL.out, HC.out]
        exact ⟨q, d, rfl, hZ, hb⟩
  · have hcz : (rndE f many != 0) = true := by rw [bne_iff_ne]; exact hC
    have HL : Hid (rndL f false many = []) := rndL_bad hC
    clear hC
    go_enter Try.func21, Try.ntmps21
    go_wp2_with fail
    refine (ref18round_any p c f many w hx).mono ?_
    rintro e w' ⟨rfl, rfl⟩
    go_wp2_with fail
    refine (ref18round_any p c f many w' hx).mono ?_
    rintro e w' ⟨rfl, rfl⟩
    go_wp2_with fail
    go_ret2
    rw [HL.out]
    exact ⟨none, 0, rfl, Own.ofNil _ _, Below.refl _ _⟩

set_option maxHeartbeats 4000000 in
set_option maxRecDepth 100000 in
theorem ref18Snake_any (p : Option Addr) (c : Nat) (f : List Int) (many : Int) (w : World) (hx : Ints w p c f) :
    Calls Try.prog 23 #[.slice p f.length c, .int .i64 many] w (Gives2 w (rndL f true many) (rndE f many)) := by
  by_cases hC : rndE f many = 0
  · have hcz : (rndE f many != 0) = false := by rw [hC]; rfl
    obtain ⟨h1, h6, _, hm0, hm6⟩ := rndE_zero hC
    obtain ⟨M, rfl⟩ : ∃ M : Nat, many = M := ⟨many.toNat, by omega⟩
    have HL : Hid (rndL f true M = seqL f true M) := by unfold Hid rndL; rw [if_pos hC, Int.toNat_natCast]
    have HC := Lib.hid hC
    clear hC
    go_enter Try.func23, Try.ntmps23
    go_wp2_with fail
    refine (ref18round_any p c f M w hx).mono ?_
    rintro e w' ⟨rfl, rfl⟩
    go_wp2_with fail
    go_loopw [7, 8] (fun s i wr => ∃ t : Nat, t ≤ M ∧ i = .int .i64 t ∧ (∃ zs q d, Hid (zs = seqL f true t) ∧ s = .slice q (zs : List Int).length d ∧ Own wr w'.heap.size q d zs) ∧ Below w'.heap.size w' wr) (fun _ i _ => M - (intOf i).toNat)
    case atStart => exact ⟨0, by omega, rfl, ⟨[], none, 0, rfl, rfl, Own.ofNil _ _⟩, Below.refl _ _⟩
    case round =>
      obtain ⟨t, ht, rfl, ⟨zs, q, d, hzz, rfl, hZ⟩, hb⟩ := hrel
      by_cases htM : t < M
      · have ht1 : (t : Int) < M := by omega
        have hxr := hx.below hb (Nat.le_refl _)
        have hsl := snk_lt t h1
        obtain ⟨b, o, rfl, _, hc⟩ := hxr.get hsl
        have hS : Hid (seqL f true (t + 1) = zs ++ [iget f (snk f.length t)]) := by unfold Hid; rw [seqL_succ, ← hzz.out, seqI_true t h1]
        have hmod := Nat.mod_lt t (show 2 * f.length > 0 by omega)
        have hq : (t : Int) % (2 * (f.length : Int)) = ((t % (2 * f.length) : Nat) : Int) := by simp
        have hsd : snk f.length t = if f.length ≤ t % (2 * f.length) then 2 * f.length - 1 - t % (2 * f.length) else t % (2 * f.length) := rfl
        have hf0 : (1 : Int) ≤ f.length := by omega
        have hy64 := hx.rng _ hsl
        have hzl : zs.length ≤ 900000 := by rw [hzz.out, seqL_len]; omega
        have hsz := hb.size
        obtain ⟨R, hR⟩ : ∃ R, t % (2 * f.length) = R := ⟨_, rfl⟩
        obtain ⟨K, hK⟩ : ∃ K, snk f.length t = K := ⟨_, rfl⟩
        rw [hR] at hq hsd hmod
        rw [hK] at hc hS hsl hy64 hsd
        clear hR hK
        by_cases hge : f.length ≤ R
        · have hd : decide ((f.length : Int) ≤ R) = true := by simp; omega
          rw [if_pos hge] at hsd
          have hk2 : 2 * (f.length : Int) - 1 - (R : Int) = (K : Int) := by omega
          have hK1 : (K : Int) < f.length := by omega
          clear hge hsd
          go_wp2_with (at_builtin; refine wpList_app1 rfl (.tmp 36) (.tmp 41) rfl w'.heap.size _ _ zs (iget f K) rfl rfl rfl hZ hy64 hzl hsz ?_; intro p2 c2 w2 r2 hr2 hO2 hg2 hf2)
          go_roundw
          case rel => exact ⟨t + 1, by omega, by go_num, ⟨r2, p2, c2, by unfold Hid; rw [hr2.out, hS.out], rfl, hO2⟩, below_grown hb hg2 hsz hZ.lt (Nat.le_refl _)⟩
          case measure => simp [intOf]; omega
        · have hd : decide ((f.length : Int) ≤ R) = false := by simp; omega
          rw [if_neg hge] at hsd
          subst hsd
          have hK1 : (K : Int) < f.length := by omega
          clear hge
          go_wp2_with (at_builtin; refine wpList_app1 rfl (.tmp 36) (.tmp 41) rfl w'.heap.size _ _ zs (iget f K) rfl rfl rfl hZ hy64 hzl hsz ?_; intro p2 c2 w2 r2 hr2 hO2 hg2 hf2)
          go_roundw
          case rel => exact ⟨t + 1, by omega, by go_num, ⟨r2, p2, c2, by unfold Hid; rw [hr2.out, hS.out], rfl, hO2⟩, below_grown hb hg2 hsz hZ.lt (Nat.le_refl _)⟩
          case measure => simp [intOf]; omega
      · have ht1 : ¬ (t : Int) < M := by omega
        obtain rfl : t = M := by omega
        obtain rfl := hzz.out
        go_wp2_with fail
        go_ret2
        rw [HL.out, HC.out]
        exact ⟨q, d, rfl, hZ, hb⟩
  · have hcz : (rndE f many != 0) = true := by rw [bne_iff_ne]; exact hC
    have HL : Hid (rndL f true many = []) := rndL_bad hC
    clear hC
    go_enter Try.func23, Try.ntmps23
    go_wp2_with fail
    refine (ref18round_any p c f many w hx).mono ?_
    rintro e w' ⟨rfl, rfl⟩
    go_wp2_with fail
    refine (ref18round_any p c f many w' hx).mono ?_
    rintro e w' ⟨rfl, rfl⟩
    go_wp2_with fail
    go_ret2
    rw [HL.out]
    exact ⟨none, 0, rfl, Own.ofNil _ _, Below.refl _ _⟩
end Go.Proofs.Ytfagapcihacgkaa
