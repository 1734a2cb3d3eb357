/- The walk of the reference's Lowest: prices without what they have in common; a positive denominator, small numbers. -/
import Derived.Test.YtojldecldemfaaaRoomC
import Derived.Test.YtojldecldemfaaaLowP
namespace Go.Proofs.Ytojldecldemfaaa
set_option linter.unusedVariables false
set_option linter.unusedSimpArgs false
open Go.ChangeShapes Go.WideShapes Go.ChangeAt Go.RowKit Go.Deep

theorem take_snocI {l : List Int} {k : Nat} (h : k < l.length) : l.take (k + 1) = l.take k ++ [iget l k] := by rw [List.take_succ_eq_append_getElem h, iget_of h]
theorem comm_gcd_eq {n d : Nat} {l : List Int} (hn : 0 < n) (h : Comm n l d) (hd : gcdL n l ≤ d) : d = gcdL n l := Nat.le_antisymm (comm_le hn h) hd
theorem comm_snoc {n d k : Nat} {l : List Int} (h : k < l.length) : Comm n (l.take (k + 1)) d ↔ Comm n (l.take k) d ∧ d ∣ (iget l k).natAbs := by
  rw [take_snocI h]
  unfold Comm
  constructor
  · rintro ⟨h1, h2⟩
    exact ⟨⟨h1, fun x hx => h2 x (List.mem_append_left _ hx)⟩, h2 _ (by simp)⟩
  · rintro ⟨⟨h1, h2⟩, h3⟩
    refine ⟨h1, fun x hx => ?_⟩
    rcases List.mem_append.1 hx with hx | hx
    · exact h2 x hx
    · simp at hx; subst hx; exact h3
instance (n : Nat) (l : List Int) (d : Nat) : Decidable (Comm n l d) := by unfold Comm; infer_instance
def commB (n : Nat) (l : List Int) (d : Nat) : Bool := decide (Comm n l d)
theorem comm_start (n d : Nat) (l : List Int) : ((n : Int) % (d : Int) == 0) = commB n (l.take 0) d := by
  unfold commB
  rw [Bool.eq_iff_iff, beq_iff_eq, decide_eq_true_iff, List.take_zero]
  unfold Comm
  constructor
  · intro h
    exact ⟨Nat.dvd_of_mod_eq_zero (by omega), fun x hx => by cases hx⟩
  · rintro ⟨h, _⟩
    have := Nat.mod_eq_zero_of_dvd h
    omega
theorem comm_next {n d k : Nat} {l : List Int} (h : k < l.length) (ht : commB n (l.take k) d = true) : ((iget l k).tmod d == 0) = commB n (l.take (k + 1)) d := by
  unfold commB at *
  rw [Bool.eq_iff_iff, beq_iff_eq, decide_eq_true_iff, comm_snoc h, tmod_zero]
  exact ⟨fun h => ⟨by simpa using ht, h⟩, fun h => h.2⟩
theorem tdiv_bound {x : Int} {d : Nat} {M : Int} (hM : 0 ≤ M) (h1 : -M ≤ x) (h2 : x ≤ M) : -M ≤ x.tdiv d ∧ x.tdiv d ≤ M := by
  have h := Int.natAbs_tdiv_le_natAbs x d
  omega

set_option maxHeartbeats 4000000 in
set_option maxRecDepth 100000 in
theorem lowest_any (base : Nat) (p : Option Addr) (c n : Nat) (l : List Int) (w : World) (hbase : base ≤ w.heap.size) (hOl : Own w base p c l) (hn : 0 < n) (hn60 : n ≤ 60) (hl : l.length ≤ 60) (hb : ∀ j, j < l.length → -1000000000 ≤ iget l j ∧ iget l j ≤ 1000000000) :
    Calls Try.prog 45 #[.slice p l.length c, .int .i64 n] w fun e w' => ∃ q d, e = .returned (.tuple #[.slice q l.length d, .int .i64 (lowN n l)]) ∧ Own w' base q d (lowL n l) ∧ Below w.heap.size w w' := by
  have hx := hOl.ints
  have HOl := Lib.hid hOl
  clear hOl
  have hg1 := gcdL_pos l hn
  have hg2 := gcdL_le l hn
  obtain ⟨g, hg⟩ : ∃ g, gcdL n l = g := ⟨_, rfl⟩
  rw [hg] at hg1 hg2
  have Hg := Lib.hid hg
  have Hb := Lib.hid hb
  clear hg hb
  go_enter Try.func45, Try.ntmps45
  go_wp2_with fail
  go_loop [6] (fun t => ∃ d : Nat, g ≤ d ∧ d ≤ n ∧ t = .int .i64 d) (fun t => (intOf t).toNat)
  case atStart => exact ⟨n, hg2, Nat.le_refl _, rfl⟩
  case round =>
    obtain ⟨d, hd1, hd2, rfl⟩ := hrel
    by_cases hlt : 1 < d
    · have hlt1 : (1 : Int) < d := by omega
      have hn0 : (0 : Int) ≤ n := by omega
      have hnd : (n % d = 0) ↔ d ∣ n := ⟨Nat.dvd_of_mod_eq_zero, Nat.mod_eq_zero_of_dvd⟩
      have Hnd := Lib.hid hnd
      clear hnd
      go_wp2_with fail
      go_loop [7, 8] (fun b t => ∃ k : Nat, k ≤ l.length ∧ t = .int .i64 k ∧ b = .bool (commB n (l.take k) d)) (fun _ t => l.length - (intOf t).toNat)
      case atStart => exact ⟨0, Nat.zero_le _, rfl, congrArg Value.bool (comm_start n d l)⟩
      case round =>
        obtain ⟨k, hk, rfl, rfl⟩ := hrel
        by_cases hkl : k < l.length
        · obtain ⟨b0, o0, rfl, _, hc⟩ := hx.get hkl
          have hk1 : (k : Int) < l.length := by omega
          have Hsn := Lib.hid (comm_snoc (n := n) (d := d) hkl)
          have hbd := Hb.out k hkl
          cases hcm : commB n (l.take k) d with
          | false =>
            have Hcm := Lib.hid hcm
            clear hcm
            go_wp2_with fail
            go_round
            case rel => exact ⟨k + 1, by omega, by go_num, by
              congr 1
              symm
              unfold commB
              rw [decide_eq_false_iff_not, Hsn.out]
              intro h
              have := Hcm.out
              simp [commB] at this
              exact this h.1⟩
            case measure => simp [intOf]; omega
          | true =>
            have Hcm := Lib.hid hcm
            clear hcm
            have Hnx := Lib.hid (comm_next hkl Hcm.out)
            go_wp2_with fail
            go_round
            case rel => exact ⟨k + 1, by omega, by go_num, congrArg Value.bool Hnx.out⟩
            case measure => simp [intOf]; omega
        · have hk1 : ¬ (k : Int) < l.length := by omega
          obtain rfl : k = l.length := by omega
          have htk : commB n (l.take l.length) d = commB n l d := by rw [List.take_length]
          rw [htk]
          clear htk
          cases hcm : commB n l d with
          | false =>
            have hne : d ≠ g := by
              intro e
              have hc := comm_gcd n l
              rw [Hg.out, ← e] at hc
              simp [commB, hc] at hcm
            clear hcm
            go_wp2_with fail
            go_round
            case rel => exact ⟨d - 1, by omega, by omega, by congr 1; omega⟩
            case measure => simp [intOf]; omega
          | true =>
            have hdg : d = g := by
              have hc : Comm n l d := by simpa [commB] using hcm
              rw [← Hg.out]
              exact comm_gcd_eq hn hc (by rw [Hg.out]; exact hd1)
            have HN : Hid ((n : Int) / d = lowN n l) := by unfold Hid lowN; rw [Hg.out, ← hdg]; simp
            have HL : Hid (l.map (fun x => x.tdiv d) = lowL n l) := by unfold Hid lowL; rw [Hg.out, ← hdg]
            have hd0 : (0 : Int) < d := by omega
            have hq1 : (0 : Int) ≤ (n : Int) / d := Int.ediv_nonneg (by omega) (by omega)
            have hq2 : (n : Int) / d ≤ 60 := Int.le_trans (Int.ediv_le_self _ (by omega)) (by omega)
            clear hcm hdg hd1 hg1 hg2
            go_wp2_with fail
            go_loopw [9, 10] (fun s i wr => ∃ m : Nat, m ≤ l.length ∧ i = .int .i64 m ∧ (∃ zs q d', Hid (zs = (l.take m).map (fun x => x.tdiv d)) ∧ s = .slice q (zs : List Int).length d' ∧ Own wr w.heap.size q d' zs) ∧ Below w.heap.size w wr) (fun _ i _ => l.length - (intOf i).toNat)
            case atStart => exact ⟨0, by omega, rfl, ⟨[], none, 0, rfl, rfl, Own.ofNil _ _⟩, Below.refl _ _⟩
            case round =>
              obtain ⟨m, hm, rfl, ⟨zs, q, d', hz, rfl, hO⟩, hB⟩ := hrel
              by_cases hml : m < l.length
              · obtain ⟨b0, o0, rfl, _, hc⟩ := (hx.below hB (Nat.le_refl _)).get hml
                have hm1 : (m : Int) < l.length := by omega
                have hbd := Hb.out m hml
                have hbt := tdiv_bound (x := iget l m) (d := d) (M := 1000000000) (by omega) hbd.1 hbd.2
                have hsz := hB.size
                have hzl : zs.length ≤ 900000 := by rw [hz.out, List.length_map, List.length_take]; omega
                have Hsn : Hid ((l.take (m + 1)).map (fun x => x.tdiv d) = (l.take m).map (fun x => x.tdiv d) ++ [(iget l m).tdiv d]) := by unfold Hid; rw [take_snocI hml, List.map_append]; rfl
                obtain ⟨y, hy⟩ : ∃ y, iget l m = y := ⟨_, rfl⟩
                rw [hy] at hc hbd hbt Hsn
                clear hy
                have hy64 : in64 (y.tdiv d) := ⟨by omega, by omega⟩
                go_wp2_with (at_builtin; refine wpList_app1 rfl (.tmp 43) (.tmp 50) rfl w.heap.size _ _ zs (y.tdiv d) rfl rfl rfl hO hy64 hzl hsz ?_; intro p3 c3 w3 ys hys hO3 hg3 hf3)
                go_roundw
                case rel => exact ⟨m + 1, by omega, by go_num, ⟨ys, _, _, by unfold Hid; rw [hys.out, Hsn.out, hz.out], rfl, hO3⟩, hB.grown hg3 hsz (fun k' e => (hO.lt k' e).1)⟩
                case measure => simp [intOf]; omega
              · have hm1 : ¬ (m : Int) < l.length := by omega
                obtain rfl : m = l.length := by omega
                have hzl : zs = lowL n l := by rw [hz.out, List.take_length]; exact HL.out
                subst hzl
                have hll := lowL_length n l
                have Hll := Lib.hid hll
                clear hll hz
                have HO := Lib.hid hO
                have HB := Lib.hid hB
                clear hO hB
                go_wp2_with fail
                go_quiet (fail)
                go_wp2_with fail
                go_ret2
                rw [HN.out, Hll.out]
                exact ⟨q, d', rfl, (HO.out.lower hbase).drewN _, HB.out.drewN' _⟩
    · have hlt1 : ¬ (1 : Int) < d := by omega
      obtain rfl : d = 1 := by omega
      have hg1 : g = 1 := by omega
      obtain ⟨h1, h2⟩ := low_one (n := n) (l := l) (by rw [Hg.out]; exact hg1)
      have H1 := Lib.hid h1
      have H2 := Lib.hid h2
      clear h1 h2 hg1
      go_wp2_with fail
      go_ret2
      rw [H1.out, H2.out]
      exact ⟨p, c, rfl, HOl.out, Below.refl _ _⟩
end Go.Proofs.Ytojldecldemfaaa
