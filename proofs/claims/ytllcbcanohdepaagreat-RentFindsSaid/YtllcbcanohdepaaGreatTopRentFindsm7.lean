/- The walks of the reference's functions Next and Most; valid bids of at most 6 agents. -/
import Derived.Test.YtllcbcanohdepaaGreatTopRentFindsm4
import Derived.Test.YtllcbcanohdepaaGreatTopRentFindsm6
import Derived.Test.YtllcbcanohdepaaGreatTopRentFindsm2
import Derived.Deep.LoopGhost
import Derived.Test.YtllcbcanohdepaaGreatTopRentFindsm3
import Derived.Deep.RegionHeld3
import Derived.Deep.RegionWith
/- The walks of the reference's functions Next and Most; valid bids of at most 6 agents. -/
namespace Go.Proofs.YtllcbcanohdepaaGreat
set_option linter.unusedVariables false
set_option linter.unusedSimpArgs false
open Go.ChangeShapes Go.WideShapes Go.ChangeAt Go.RowKit Go.Deep

/-- What Next leaves: the next list in the same row; or there was none. -/
def NextP (w : World) (base : Nat) (p : Option Addr) (c n : Nat) (l : List Int) (e : Ending) (w' : World) : Prop :=
  ∃ l', Own w' base p c l' ∧ w.grownBy w' (blk p) ∧ l'.length = l.length ∧ Digits n l' ∧
    ((e = .returned (.bool true) ∧ numA n 0 l' = numA n 0 l + 1) ∨ (e = .returned (.bool false) ∧ numA n 0 l + 1 = n ^ l.length))

theorem set_snoc {A : List Int} {d x : Int} {Z : List Int} : (A ++ d :: Z).set A.length x = A ++ x :: Z := by
  rw [List.set_append_right _ _ (Nat.le_refl _)]; simp
theorem iget_snoc {A : List Int} {d : Int} {Z : List Int} : iget (A ++ d :: Z) A.length = d := by rw [iget_append, if_neg (by omega), Nat.sub_self]; rfl
theorem split_at' {l : List Int} {m : Nat} (h : m + 1 ≤ l.length) : l.take (m + 1) = l.take m ++ [iget l m] := by rw [List.take_succ_eq_append_getElem (by omega), iget_of]
theorem digits_append {n : Nat} {a b : List Int} : Digits n (a ++ b) ↔ Digits n a ∧ Digits n b := by
  constructor
  · intro h
    refine ⟨fun j hj => ?_, fun j hj => ?_⟩
    · have := h j (by rw [List.length_append]; omega); rwa [iget_append, if_pos hj] at this
    · have := h (a.length + j) (by rw [List.length_append]; omega)
      rwa [iget_append, if_neg (by omega), Nat.add_sub_cancel_left] at this
  · rintro ⟨h1, h2⟩ j hj
    rw [List.length_append] at hj
    rw [iget_append]
    split
    · exact h1 j ‹_›
    · exact h2 _ (by omega)
theorem digits_cons {n : Nat} {x : Int} {l : List Int} : Digits n (x :: l) ↔ (0 ≤ x ∧ x < n) ∧ Digits n l := by
  constructor
  · intro h
    have h0 := h 0 (by simp)
    rw [iget_cons_zero] at h0
    exact ⟨h0, h.tail⟩
  · rintro ⟨h1, h2⟩ j hj
    cases j with
    | zero => rw [iget_cons_zero]; exact h1
    | succ j => rw [iget_cons_succ]; exact h2 j (by simpa using hj)
theorem digits_zeros {n : Nat} (m : Nat) (hn : 0 < n) : Digits n (List.replicate m 0) := fun j hj => by
  simp at hj; simp [iget, List.getD, hj]; omega

/-- A round of Next: the digit that stands next is a digit; it is the greatest, and what was done so far is one step longer; or it grows, and all is done. -/
theorem step_facts {n : Nat} {l cur : List Int} {m : Nat} (hn0 : 0 < n) (hd : Digits n l) (hm : m < l.length)
    (h : cur = l.take ((m : Int) + 1).toNat ++ List.replicate (l.length - ((m : Int) + 1).toNat) 0 ∧ l = l.take ((m : Int) + 1).toNat ++ List.replicate (l.length - ((m : Int) + 1).toNat) ((n : Int) - 1)) :
    0 ≤ iget cur m ∧ iget cur m < n ∧
    ((iget cur m + 1 < n → (cur.set m (iget cur m + 1)).length = l.length ∧ Digits n (cur.set m (iget cur m + 1)) ∧ numA n 0 (cur.set m (iget cur m + 1)) = numA n 0 l + 1) ∧
     (¬ iget cur m + 1 < n → (cur.set m (iget cur m + 1)).set m 0 = l.take m ++ List.replicate (l.length - m) 0 ∧ l = l.take m ++ List.replicate (l.length - m) ((n : Int) - 1))) := by
  have e : ((m : Int) + 1).toNat = m + 1 := by omega
  rw [e] at h
  have hsp := split_at' (l := l) (m := m) (by omega)
  rw [hsp, List.append_assoc, List.append_assoc, List.singleton_append, List.singleton_append] at h
  have hlen : (l.take m).length = m := by simp; omega
  generalize hA : l.take m = A at *
  generalize hdd : iget l m = d at *
  have hdm := hd m hm
  rw [hdd] at hdm
  obtain ⟨h1, h2⟩ := h
  obtain ⟨k, hk⟩ : ∃ k, l.length = m + 1 + k := ⟨l.length - (m + 1), by omega⟩
  have hk1 : l.length - (m + 1) = k := by omega
  have hk2 : l.length - m = k + 1 := by omega
  rw [hk1] at h1 h2
  rw [hk2]
  subst hlen
  have hi : iget cur A.length = d := by rw [h1]; exact iget_snoc
  rw [hi]
  refine ⟨hdm.1, hdm.2, fun hlt => ?_, fun hnl => ?_⟩
  · have e1 : cur.set A.length (d + 1) = A ++ (d + 1) :: List.replicate k 0 := by rw [h1]; exact set_snoc
    rw [e1]
    refine ⟨by simp; omega, ?_, ?_⟩
    · rw [digits_append, digits_cons]
      refine ⟨?_, ⟨by omega, hlt⟩, digits_zeros k hn0⟩
      rw [h2] at hd
      exact (digits_append.1 hd).1
    · rw [num_next hn0 A d k hdm.1, ← h2]
  · have e1 : (cur.set A.length (d + 1)).set A.length 0 = A ++ 0 :: List.replicate k 0 := by rw [List.set_set, h1]; exact set_snoc
    rw [e1]
    have hd' : d = (n : Int) - 1 := by omega
    exact ⟨by rw [List.replicate_succ], by rw [List.replicate_succ]; rw [hd'] at h2; exact h2⟩

set_option maxHeartbeats 800000 in
theorem next_any (base : Nat) (p : Option Addr) (c n : Nat) (l : List Int) (w : World) (hn0 : 0 < n) (hn : n ≤ 1000000) (ho : Own w base p c l) (hlen : l.length ≤ 1000000) (hd : Digits n l) :
    Calls Tryz.prog 40 #[.slice p l.length c, .int .i64 n] w (NextP w base p c n l) := by
  go_enter Tryz.func40, Tryz.ntmps40
  go_wp2
  go_loopg [5] (l.length) (fun g i wr => ∃ (x : Int) (cur : List Int), g = (x + 1).toNat ∧ -1 ≤ x ∧ x < l.length ∧ i = .int .i64 x ∧ Own wr base p c cur ∧ w.grownBy wr (blk p) ∧
    Hid (cur = l.take (x + 1).toNat ++ List.replicate (l.length - (x + 1).toNat) 0 ∧ l = l.take (x + 1).toNat ++ List.replicate (l.length - (x + 1).toNat) ((n : Int) - 1)))
  case atStart =>
    refine ⟨(l.length : Int) - 1, l, by omega, by omega, by omega, rfl, ho, World.grownBy.refl _ _, ?_⟩
    have : ((l.length : Int) - 1 + 1).toNat = l.length := by omega
    rw [this]
    exact ⟨by simp, by simp⟩
  case round =>
    obtain ⟨x, cur, rfl, hx1, hx2, rfl, hc, hg, hH⟩ := hrel
    have hcl : cur.length = l.length := by
      have := congrArg List.length hH.out.1
      simp at this; omega
    by_cases hx0 : 0 ≤ x
    · obtain ⟨m, rfl⟩ := Int.eq_ofNat_of_zero_le hx0
      have hm : m < l.length := by omega
      obtain ⟨g, rfl, hg1, hg2, hcell, hfree⟩ := hc.get (j := m) (by omega)
      have hst := step_facts hn0 hd hm hH.out
      have hm1 : (m : Int) < l.length := by omega
      have Hst := Lib.hid hst
      have hd0 := hst.1
      have hd1 := hst.2.1
      have Hcl := Lib.hid hcl
      clear hst hcl
      obtain ⟨y, hy⟩ : ∃ y, iget cur m = y := ⟨_, rfl⟩
      rw [hy] at hd0 hd1 hcell Hst
      clear hy
      have hin : in64 (y + 1) := ⟨by omega, by omega⟩
      obtain ⟨hs1, hs2⟩ := hc.set m hin
      have hcell2 := hs1.at (j := m) (by rw [List.length_set, Hcl.out]; exact hm)
      have hfree2 := hs1.free m
      rw [iget_set (by rw [Hcl.out]; exact hm), if_pos rfl] at hcell2
      have hg3 : w.grownBy (wr.setCell ⟨g, m, none⟩ (.int .i64 (y + 1))) (some g) := grown_trans hg hs2
      obtain ⟨hs3, hs4⟩ := hs1.set m in64_zero
      have hg4 := grown_trans hg3 hs4
      go_wp2
      · have hlt : y + 1 < (n : Int) := by assumption
        go_ret
        obtain ⟨e1, e2, e3⟩ := Hst.out.2.2.1 hlt
        exact ⟨_, hs1, hg3, e1, e2, .inl ⟨rfl, e3⟩⟩
      · have hlt : (n : Int) ≤ y + 1 := by assumption
        go_roundg (m : Nat)
        case rel => exact ⟨(m : Int) - 1, _, by omega, by omega, by omega, rfl, hs3, hg4, by
          have := Hst.out.2.2.2 (by omega)
          have e : ((m : Int) - 1 + 1).toNat = m := by omega
          rw [e]; exact this⟩
        case measure => omega
    · obtain rfl : x = -1 := by omega
      go_wp2
      go_ret
      have h1 := hH.out
      simp at h1
      refine ⟨cur, hc, hg, hcl, ?_, .inr ⟨rfl, ?_⟩⟩
      · rw [h1.1]; exact digits_zeros _ hn0
      · have := num_last hn0 l.length
        rw [← h1.2] at this
        exact this
theorem fits_of {v : List (List Int)} {a : List Int} (hv : Bids v) (ha : IsA a v.length) : Fits v a :=
  ⟨by rw [ha.1]; exact hv.2.1, by rw [ha.1]; exact Nat.le_refl _, fun i hi => by
    rw [ha.1] at hi
    rw [(hv.2.2 i hi).1]; exact isA_lt ha i hi, fun i hi => by
    rw [ha.1] at hi
    exact (hv.2.2 i hi).2 _ (isA_lt ha i hi).2⟩

/-- What holds whenever Most's loop begins a round. -/
def MostRel (v : List (List Int)) (w : World) (g : Nat) (t5 t6 : Value) (wr : World) : Prop :=
  ∃ (b : Bool) (cur bst : List Int) (pb : Option Addr) (cb : Nat), t6 = .bool b ∧ t5 = .slice pb bst.length cb ∧ Own wr w.heap.size (some ⟨w.heap.size, 0, none⟩) v.length cur ∧ Own wr (w.heap.size + 1) pb cb bst ∧
    Below w.heap.size w wr ∧ cur.length = v.length ∧ Digits v.length cur ∧ MostInv v b cur bst ∧ g = (if b = true then v.length ^ v.length - numA v.length 0 cur else 0)

theorem worth_len {p q : Option Addr} {c d m : Nat} {v : List (List Int)} {a : List Int} {w : World} (hm : a.length = m) (hx : Mat w p c v) (hy : Ints w q d a) (hf : Fits v a) :
    Calls Tryz.prog 42 #[.slice p v.length c, .slice q m d] w fun e w' => e = .returned (.int .i64 (worthI v a)) ∧ ∃ n, w' = w.drewN n := by subst hm; exact worth_any p q c d v a w hx hy hf
theorem assigned_len {p : Option Addr} {c m : Nat} {a : List Int} {n : Nat} {w : World} (hm : a.length = m) (hn : n ≤ 9223372036854775807) (hx : Ints w p c a) :
    Calls Tryz.prog 41 #[.slice p m c, .int .i64 n] w fun e w' => e = .returned (.bool (isAB a n)) ∧ w' = w := by subst hm; exact assigned_any p c a n w hn hx
theorem next_len {base : Nat} {p : Option Addr} {c n m : Nat} {l : List Int} {w : World} (hm : l.length = m) (hn0 : 0 < n) (hn : n ≤ 1000000) (ho : Own w base p c l) (hlen : l.length ≤ 1000000) (hd : Digits n l) :
    Calls Tryz.prog 40 #[.slice p m c, .int .i64 n] w (NextP w base p c n l) := by subst hm; exact next_any base p c n l w hn0 hn ho hlen hd

/-- The copy that Most takes leaves its list as it is. -/
theorem most_copy {w wr w2 : World} {n : Nat} {cur : List Int} (hb : Below w.heap.size w wr) (hlt : w.heap.size + 1 ≤ wr.heap.size) (hO : Own wr w.heap.size (some ⟨w.heap.size, 0, none⟩) n cur)
    (hg : (wr.alloc (.cells #[] 3)).grownBy w2 (blk (some ⟨wr.heap.size, 0, none⟩))) : Own w2 w.heap.size (some ⟨w.heap.size, 0, none⟩) n cur ∧ Below w.heap.size w w2 := by
  have hb1 : Below wr.heap.size wr w2 := by
    refine ((Below.refl _ _).alloc (Nat.le_refl _) _).grown hg (by simp) ?_
    intro b hbb
    simp [blk] at hbb; omega
  exact ⟨hO.below hb1 (Nat.le_refl _), hb.trans (hb1.mono (by omega))⟩
/-- The end of a round of Most: Next has been called. -/
theorem most_round {v : List (List Int)} {w wr w2 : World} {cur bst : List Int} {pb : Option Addr} {cb : Nat} {e : Ending} (h0 : 0 < v.length)
    (hB : Own wr (w.heap.size + 1) pb cb bst) (hb : Below w.heap.size w wr) (hcl : cur.length = v.length) (hdg : Digits v.length cur)
    (hM : FirstMax (fun x => IsA x v.length ∧ numA v.length 0 x ≤ numA v.length 0 cur) (worthI v) bst)
    (hN : NextP wr w.heap.size (some ⟨w.heap.size, 0, none⟩) v.length v.length cur e w2) :
    ∃ b', e = .returned (.bool b') ∧ ∃ g', MostRel v w g' (.slice pb bst.length cb) (.bool b') w2 ∧ g' < v.length ^ v.length - numA v.length 0 cur := by
  obtain ⟨l', hO, hg, hl, hd, hr⟩ := hN
  have hlt := numA_lt cur hdg
  rw [hcl] at hlt
  have hB2 : Own w2 (w.heap.size + 1) pb cb bst := hB.keptBy hg (fun k hk e => by
    have := (hB.lt k hk).1
    simp [blk] at e; omega)
  have hb2 : Below w.heap.size w w2 := hb.grown hg hb.size (fun k e => by simp [blk] at e; omega)
  rcases hr with ⟨rfl, hn⟩ | ⟨rfl, hn⟩
  · exact ⟨true, rfl, _, ⟨true, l', bst, pb, cb, rfl, rfl, hO, hB2, hb2, by omega, hd, most_go hM hn, rfl⟩, by simp; omega⟩
  · exact ⟨false, rfl, _, ⟨false, l', bst, pb, cb, rfl, rfl, hO, hB2, hb2, by omega, hd, most_stop hM (by rw [← hcl]; rw [hcl] at hn ⊢; exact hn), rfl⟩, by simp; omega⟩

set_option maxHeartbeats 1600000 in
theorem most_any (p : Option Addr) (c : Nat) (v : List (List Int)) (w : World) (hx : Mat w p c v) (hv : Bids v) :
    Calls Tryz.prog 21 #[.slice p v.length c] w (Gives w (bestA v)) := by
  have h0 := hv.1
  have h6 := hv.2.1
  have HV := Lib.hid hv
  clear hv
  go_enter Tryz.func21, Tryz.ntmps21
  go_wp2_with (at_make; refine wpList_mk rfl (.tmp 9) (.tmp 9) rfl w.heap.size v.length rfl rfl (by omega) (Nat.le_refl _) ?_; intro w1 hO1 hg1 hs1)
  go_loopg [5, 6] (v.length ^ v.length) (fun g t5 t6 wr => MostRel v w g t5 t6 wr)
  case atStart =>
    have hz : numA v.length 0 (List.replicate v.length 0) = 0 := by rw [num_zeros, Nat.zero_mul]
    exact ⟨true, _, [], none, 0, rfl, rfl, hO1, Own.ofNil _ _, (Below.refl _ _).grown hg1 (Nat.le_refl _) (fun _ e => by cases e), by simp, digits_zeros _ h0, most_start v hz, by simp [hz]⟩
  case round =>
    obtain ⟨b, cur, bst, pb, cb, rfl, rfl, hO, hB, hb, hcl, hdg, hM, rfl⟩ := hrel
    cases b with
    | false =>
      have e := bestA_eq (most_end h0 hM)
      have E := Lib.hid e
      clear e
      go_wp2
      go_ret
      rw [E.out]
      exact ⟨pb, cb, rfl, hB.lower (by omega), hb⟩
    | true =>
      have hx := hx.below hb (Nat.le_refl _)
      have hlt : w.heap.size + 1 ≤ wr.heap.size := (hO.lt _ rfl).2
      have Hcl := Lib.hid hcl
      have Hup := Lib.hid (most_upto h0 hcl hdg hM)
      have HM := Lib.hid hM
      clear hcl hM
      by_cases hA : IsA cur v.length
      · have hAb := isAB_true hA
        have HA := Lib.hid hA
        clear hA
        by_cases hb0 : bst.length = 0
        · have hz : ((bst.length : Int) == 0) = true := by rw [beq_iff_eq]; omega
          have HS : Hid (MostStep v cur bst = cur) := if_pos ⟨HA.out, .inl hb0⟩
          have Hb0 := Lib.hid hb0
          clear hb0
          go_wp2_with fail
          refine (assigned_len Hcl.out (by omega) hO.ints).mono ?_
          rintro e w' ⟨rfl, rfl⟩
          go_wp2_with (at_builtin; refine wpList_app rfl (.tmp 32) (.tmp 33) rfl (w.heap.size + 1) _ _ _ _ [] cur rfl (by rw [Hcl.out]; rfl) (Own.made _ _ hlt) (hO.alloc _).ints (by rw [Hcl.out]; simp; omega) (by simp; omega) ?_; intro p2 c2 w2 zs hz2 hO2 hg2 hf2)
          obtain rfl : zs = cur := hz2.out
          obtain ⟨hO', hb'⟩ := most_copy hb hlt hO hg2
          refine (next_len Hcl.out h0 (by omega) hO' (by rw [Hcl.out]; omega) hdg).mono ?_
          intro e w3 hN
          have hM2 := Hup.out
          rw [HS.out] at hM2
          obtain ⟨b', rfl, g', hR, hlt'⟩ := most_round h0 hO2 hb' Hcl.out hdg hM2 hN
          clear hN hM2
          go_wp2
          go_roundg g'
          case rel => exact hR
          case measure => exact hlt'
        · have hz : ((bst.length : Int) == 0) = false := by rw [beq_eq_false_iff_ne]; omega
          have hBA : Hid (IsA bst v.length) := by
            rcases HM.out with ⟨e, _⟩ | ⟨h, _⟩
            · rw [e] at hb0; simp at hb0
            · exact h.1
          have hl1 := hx.length_le
          go_wp2_with fail
          refine (assigned_len Hcl.out (by omega) hO.ints).mono ?_
          rintro e w' ⟨rfl, rfl⟩
          go_wp2_with fail
          refine (worth_len Hcl.out hx hO.ints (fits_of HV.out HA.out)).mono ?_
          rintro e w' ⟨rfl, hw1⟩
          have hx1 := hx.drew hw1
          have hB1 := hB.drew hw1
          have hO1 := hO.drew hw1
          go_wp2_with fail
          refine (worth_any _ _ _ _ _ _ _ hx1 hB1.ints (fits_of HV.out hBA.out)).mono ?_
          rintro e w'' ⟨rfl, hw2⟩
          have hw := drew_trans hw1 hw2
          have hB2 := hB.drew hw
          have hO2 := hO.drew hw
          have hb2 := hb.drewP hw
          have hlt2 : w.heap.size + 1 ≤ w''.heap.size := by obtain ⟨n, rfl⟩ := hw; exact hlt
          clear hx1 hB1 hO1 hw1 hw2 hw
          have Hb0 := Lib.hid hb0
          clear hb0
          go_wp2_with (at_builtin; refine wpList_app rfl (.tmp 32) (.tmp 33) rfl (w.heap.size + 1) _ _ _ _ [] cur rfl (by rw [Hcl.out]; rfl) (Own.made _ _ hlt2) (hO2.alloc _).ints (by rw [Hcl.out]; simp; omega) (by simp; omega) ?_; intro p2 c2 w2 zs hz2 hO3 hg2 hf2)
          · have hgt : worthI v bst < worthI v cur := by assumption
            have HS : Hid (MostStep v cur bst = cur) := if_pos ⟨HA.out, .inr hgt⟩
            obtain rfl : zs = cur := hz2.out
            obtain ⟨hO', hb'⟩ := most_copy hb2 hlt2 hO2 hg2
            refine (next_len Hcl.out h0 (by omega) hO' (by rw [Hcl.out]; omega) hdg).mono ?_
            intro e w3 hN
            have hM2 := Hup.out
            rw [HS.out] at hM2
            obtain ⟨b', rfl, g', hR, hlt'⟩ := most_round h0 hO3 hb' Hcl.out hdg hM2 hN
            clear hN hM2
            go_wp2
            go_roundg g'
            case rel => exact hR
            case measure => exact hlt'
          · have hgt : worthI v cur ≤ worthI v bst := by assumption
            have HS : Hid (MostStep v cur bst = bst) := if_neg (fun h => by rcases h.2 with h | h; exact Hb0.out h; omega)
            refine (next_len Hcl.out h0 (by omega) hO2 (by rw [Hcl.out]; omega) hdg).mono ?_
            intro e w3 hN
            have hM2 := Hup.out
            rw [HS.out] at hM2
            obtain ⟨b', rfl, g', hR, hlt'⟩ := most_round h0 hB2 hb2 Hcl.out hdg hM2 hN
            clear hN hM2
            go_wp2
            go_roundg g'
            case rel => exact hR
            case measure => exact hlt'
      · have hAb := isAB_false hA
        have HS : Hid (MostStep v cur bst = bst) := if_neg (fun h => hA h.1)
        clear hA
        go_wp2_with fail
        refine (assigned_len Hcl.out (by omega) hO.ints).mono ?_
        rintro e w' ⟨rfl, rfl⟩
        go_wp2_with fail
        refine (next_len Hcl.out h0 (by omega) hO (by rw [Hcl.out]; omega) hdg).mono ?_
        intro e w3 hN
        have hM2 := Hup.out
        rw [HS.out] at hM2
        obtain ⟨b', rfl, g', hR, hlt'⟩ := most_round h0 hB hb Hcl.out hdg hM2 hN
        clear hN hM2
        go_wp2
        go_roundg g'
        case rel => exact hR
        case measure => exact hlt'
end Go.Proofs.YtllcbcanohdepaaGreat

/- The walks of the reference's functions Link and Least; valid bids and an assignment. -/
namespace Go.Proofs.YtllcbcanohdepaaGreat
set_option linter.unusedVariables false
set_option linter.unusedSimpArgs false
open Go.ChangeShapes Go.WideShapes Go.ChangeAt Go.RowKit Go.Deep

/-- The weights of an assignment's links. -/
noncomputable def wl (v : List (List Int)) (a : List Int) : Nat → Nat → Int := wt (bid v) v.length (itm a)
theorem wl_bound {v : List (List Int)} {a : List Int} (hv : Bids v) (ha : IsA a v.length) {x y : Nat} (hx : x < v.length) (hy : y < v.length) : -1000000 ≤ wl v a x y ∧ wl v a x y ≤ 1000000 := by
  have h1 := (isA_per ha).inv_spec hx
  have h2 := ((hv.2.2 _ h1.1).2 x hx)
  have h3 := ((hv.2.2 _ h1.1).2 y hy)
  unfold wl wt bid; omega

/-- The owner of an item: it has it; none before it does; what it bids more is the link's weight. -/
theorem link_owner {v : List (List Int)} {a : List Int} (hv : Bids v) (ha : IsA a v.length) {x : Nat} (hx : x < v.length) :
    iget a (inv v.length (itm a) x) = x ∧ (∀ k, k ≤ inv v.length (itm a) x → k ≠ inv v.length (itm a) x → iget a k ≠ (x : Int)) ∧ ∀ j, wl v a x j = iget (rget v (inv v.length (itm a) x)) j - iget (rget v (inv v.length (itm a) x)) x := by
  obtain ⟨o1, o2⟩ := (isA_per ha).inv_spec hx
  have h1 : iget a (inv v.length (itm a) x) = x := by have := isA_lt ha _ o1; simp only [itm] at o2; omega
  exact ⟨h1, fun k hk hne e => hne (isA_inj ha (by omega) o1 (by rw [e, h1])), fun j => rfl⟩

set_option maxHeartbeats 4000000 in
set_option maxRecDepth 100000 in
theorem link_any (w0 : World) (p q : Option Addr) (c d : Nat) (v : List (List Int)) (a : List Int) (ps : Option Addr) (cs : Nat) (hx : Mat w0 p c v) (hy : Ints w0 q d a) (hv : Bids v) (ha : IsA a v.length) :
    ∀ (f : Nat) (sb : List Bool) (x y : Nat) (w : World), f ≤ v.length → sb.length = v.length → x < v.length → y < v.length → bget sb x = false → bget sb y = false → sb.count false ≤ f →
    Below w0.heap.size w0 w → OwnB w w0.heap.size ps cs sb →
    Calls Tryz.prog 73 #[.slice p v.length c, .slice q v.length d, .int .i64 x, .int .i64 y, .slice ps v.length cs] w fun e w' => e = .returned (.int .i64 (lnk (wl v a) v.length f sb x y)) ∧ ∃ n, w' = w.drewN n := by
  intro f
  induction f with
  | zero => intro sb x y w _ hl hx _ h1 _ hc; have := count_pos (sb := sb) (x := x) (by omega) h1; omega
  | succ f ih =>
    intro sb x y w hf hl hxn hyn h1 h2 hc hb hO
    by_cases e : x = y
    · subst e
      have hb : ((x : Int) == x) = true := by simp
      have HL : Hid (lnk (wl v a) v.length (f + 1) sb x x = 0) := by simp [lnk, Hid]
      go_enter Tryz.func73, Tryz.ntmps73
      go_wp2_with fail
      go_ret
      exact ⟨ret_int HL.out.symm, drew_refl _⟩
    · have hb0 : ((x : Int) == y) = false := by rw [beq_eq_false_iff_ne]; omega
      have h6 := hv.2.1
      have hxw := hx.below hb (Nat.le_refl _)
      have hyw := hy.below hb (Nat.le_refl _)
      obtain ⟨o1, o2⟩ := (isA_per ha).inv_spec hxn
      have hx7 := link_owner hv ha hxn
      obtain ⟨ow, how⟩ : ∃ ow, inv v.length (itm a) x = ow := ⟨_, rfl⟩
      rw [how] at o1 o2 hx7
      clear how
      obtain ⟨ho1, ho2, ho3⟩ := hx7
      have Hir := Lib.hid ih
      have Hwl := Lib.hid ho3
      have Hne := Lib.hid ho2
      clear ih ho3 ho2 o2
      obtain ⟨g, rfl, hg1, hg2, hcx, hfx⟩ := hO.get (j := x) (by omega)
      rw [h1] at hcx
      obtain ⟨hO1, hgr⟩ := hO.set x true
      have hb1 : Below w0.heap.size w0 (w.setCell ⟨g, x, none⟩ (.bool true)) := hb.setCell (p := ⟨g, x, none⟩) hg1 _
      have hback := setCell_back (u := .bool true) hcx
      have Hback := Lib.hid hback
      have Hcx := Lib.hid hcx
      clear hback
      have HL : Hid (lnk (wl v a) v.length (f + 1) sb x y = (scan (fun j => wl v a x j + lnk (wl v a) v.length f (sb.set x true) j y) (sb.set x true) v.length).1) := by simp [lnk, Hid, e]
      have Hsb : Hid (sb.length = v.length) := hl
      have Hc : Hid ((sb.set x true).count false ≤ f) := by have := count_set_false (by omega) h1; unfold Hid; omega
      have Hyb : Hid (bget (sb.set x true) y = false) := by unfold Hid; rw [bget_set (by omega), if_neg e]; exact h2
      clear hl h1 h2 hc
      go_enter Tryz.func73, Tryz.ntmps73
      go_wp2_with fail
      -- the owner is sought
      go_loop [11] (fun t => ∃ k : Nat, k ≤ ow ∧ t = .int .i64 k) (fun t => ow - (intOf t).toNat)
      case atStart => exact ⟨0, Nat.zero_le _, rfl⟩
      case round =>
        obtain ⟨k, hk, rfl⟩ := hrel
        have hkn : k < a.length := by rw [ha.1]; omega
        obtain ⟨b, o, rfl, _, hcell⟩ := hyw.get hkn
        have hk1 : (k : Int) < v.length := by omega
        by_cases hko : k = ow
        · subst hko
          have hne : (iget a k != (x : Int)) = false := by rw [ho1]; simp
          rw [ho1] at hcell
          have hxn1 : (x : Int) < v.length := by omega
          go_wp2_with fail
          -- the other items are gone through
          obtain ⟨w1, hw1⟩ : ∃ w1, w1 = w.setCell ⟨g, x, none⟩ (.bool true) := ⟨_, rfl⟩
          rw [← hw1] at hO1 hb1 hgr ⊢
          have Hw1 := Lib.hid hw1
          clear hw1
          have hxw1 := hx.below hb1 (Nat.le_refl _)
          go_loopw [12, 13, 14] (fun t12 t13 t14 wr => ∃ j : Nat, j ≤ v.length ∧ t14 = .int .i64 j ∧ (∃ m fd, t12 = .int .i64 m ∧ t13 = .bool fd ∧ Hid ((m, fd) = scan (fun j => wl v a x j + lnk (wl v a) v.length f (sb.set x true) j y) (sb.set x true) j)) ∧ ∃ n, wr = w1.drewN n) (fun _ _ t14 _ => v.length - (intOf t14).toNat)
          case atStart => exact ⟨0, Nat.zero_le _, rfl, ⟨0, false, rfl, rfl, rfl⟩, drew_refl _⟩
          case round =>
            obtain ⟨j, hj, rfl, ⟨m, fd, rfl, rfl, hm⟩, hw⟩ := hrel
            have hxr := hxw1.drew hw
            have hOr := hO1.drew hw
            have hbr := hb1.drewP hw
            have Hw := Lib.hid hw
            clear hw
            by_cases hjn : j < v.length
            · have hj1 : (j : Int) < v.length := by omega
              obtain ⟨g', hge, _, _, hcj, _⟩ := hOr.get (j := j) (by rw [List.length_set, Hsb.out]; exact hjn)
              obtain rfl : g' = g := by cases hge; rfl
              by_cases hbj : bget (sb.set x true) j = true
              · have HS : Hid (scan (fun j => wl v a x j + lnk (wl v a) v.length f (sb.set x true) j y) (sb.set x true) (j + 1) = (m, fd)) := by unfold Hid; simp only [scan]; rw [if_pos hbj]; exact hm.out.symm
                rw [hbj] at hcj
                clear hbj
                go_wp2_with fail
                go_roundw
                case rel => exact ⟨j + 1, by omega, by go_num, ⟨m, fd, rfl, rfl, HS.out.symm⟩, Hw.out⟩
                case measure => simp [intOf]; omega
              · have hbj' : bget (sb.set x true) j = false := by simpa using hbj
                have HS := Lib.hid (show scan (fun j => wl v a x j + lnk (wl v a) v.length f (sb.set x true) j y) (sb.set x true) (j + 1) = if fd = false ∨ m < wl v a x j + lnk (wl v a) v.length f (sb.set x true) j y then (wl v a x j + lnk (wl v a) v.length f (sb.set x true) j y, true) else (m, fd) by
                  simp only [scan]; rw [if_neg hbj, ← hm.out])
                have hcall : ∀ N, Calls Tryz.prog 73 #[.slice p v.length c, .slice (some ⟨b, o, none⟩) v.length d, .int .i64 j, .int .i64 y, .slice (some ⟨g', 0, none⟩) v.length cs] (wr.drewN N) fun e w' => e = .returned (.int .i64 (lnk (wl v a) v.length f (sb.set x true) j y)) ∧ ∃ n, w' = (wr.drewN N).drewN n := fun N =>
                  Hir.out (sb.set x true) j y (wr.drewN N) (by omega) (by rw [List.length_set]; exact Hsb.out) hjn hyn hbj' Hyb.out Hc.out (hbr.drewP ⟨N, rfl⟩) (hOr.drewN N)
                have hb1' := lnk_bound (w := wl v a) (n := v.length) (M := 1000000) (by omega) (fun x y hx hy => wl_bound hv ha hx hy) f (sb.set x true) j y hjn
                have hb2' := scan_bound (g := fun j => wl v a x j + lnk (wl v a) v.length f (sb.set x true) j y) (sb := sb.set x true) (M := 8000000) (by omega) (k := j) (fun i hi => by
                  have h1 := lnk_bound (w := wl v a) (n := v.length) (M := 1000000) (by omega) (fun x y hx hy => wl_bound hv ha hx hy) f (sb.set x true) i y (by omega)
                  have h2 := wl_bound hv ha hxn (y := i) (by omega)
                  omega)
                rw [← hm.out] at hb2'
                have hwj := wl_bound hv ha hxn hjn
                obtain ⟨b2, o2, rfl, _, q1, d1, hc2, hi⟩ := hxr.get (j := k) o1
                have hrl := (hv.2.2 k o1).1
                obtain ⟨b3, o3, rfl, _, hc3⟩ := hi.get (j := j) (by omega)
                have hc4 := hi.at (j := x) (by omega)
                have hr1 := (hv.2.2 k o1).2 j hjn
                have hr2 := (hv.2.2 k o1).2 x hxn
                rw [Hwl.out j] at HS hwj
                have hk5 : (j : Int) < (rget v k).length := by omega
                have hk6 : (x : Int) < (rget v k).length := by omega
                have Hcall := Lib.hid hcall
                clear hcall hrl hm
                obtain ⟨R, hR⟩ : ∃ R, lnk (wl v a) v.length f (sb.set x true) j y = R := ⟨_, rfl⟩
                rw [hR] at HS hb1' Hcall
                clear hR
                obtain ⟨y1, hy1⟩ : ∃ y1, iget (rget v k) j = y1 := ⟨_, rfl⟩
                rw [hy1] at HS hwj hc3 hr1
                clear hy1
                obtain ⟨y2, hy2⟩ : ∃ y2, iget (rget v k) x = y2 := ⟨_, rfl⟩
                rw [hy2] at HS hwj hc4 hr2
                clear hy2
                rw [hbj'] at hcj
                go_wp2_with fail
                go_quiet ((go_at_call 73; exact Calls.quiet_of (Hcall.out _)))
                cases fd with
                | false =>
                  go_wp2_with fail
                  go_roundw
                  case rel => exact ⟨j + 1, by omega, by go_num, ⟨_, true, rfl, rfl, by rw [HS.out, if_pos (.inl rfl)]; rfl⟩, drew_drewN _ Hw.out⟩
                  case measure => simp [intOf]; omega
                | true =>
                  go_wp2_with fail
                  · have hgt : m < y1 - y2 + R := by assumption
                    go_roundw
                    case rel => exact ⟨j + 1, by omega, by go_num, ⟨_, true, rfl, rfl, by rw [HS.out, if_pos (.inr hgt)]; rfl⟩, drew_drewN _ Hw.out⟩
                    case measure => simp [intOf]; omega
                  · have hgt : y1 - y2 + R ≤ m := by assumption
                    go_roundw
                    case rel => exact ⟨j + 1, by omega, by go_num, ⟨m, true, rfl, rfl, by rw [HS.out, if_neg (fun h => h.elim (fun e => by cases e) (fun h => by omega))]; rfl⟩, drew_drewN _ Hw.out⟩
                    case measure => simp [intOf]; omega
            · have hj1 : ¬ (j : Int) < v.length := by omega
              obtain rfl : j = v.length := by omega
              obtain ⟨g', hge, _, _, hcx2, hfx2⟩ := hOr.get (j := x) (by rw [List.length_set, Hsb.out]; exact hxn)
              obtain rfl : g' = g := by cases hge; rfl
              go_wp2_with fail
              go_ret
              refine ⟨ret_int ?_, ?_⟩
              · rw [HL.out, ← hm.out]
              · obtain ⟨N, rfl⟩ := Hw.out
                refine ⟨N, ?_⟩
                have h1 := Hback.out
                rw [← Hw1.out] at h1
                rw [show (w1.drewN N).setCell ⟨g', x, none⟩ (.bool false) = (w1.setCell ⟨g', x, none⟩ (.bool false)).drewN N from rfl, h1]
        · have hne : (iget a k != (x : Int)) = true := by rw [bne_iff_ne]; exact Hne.out k (by omega) hko
          go_wp2_with fail
          go_round
          case rel => exact ⟨k + 1, by omega, by go_num⟩
          case measure => simp [intOf]; omega
end Go.Proofs.YtllcbcanohdepaaGreat

/- The walk of the reference's function Least; valid bids and an assignment. -/
namespace Go.Proofs.YtllcbcanohdepaaGreat
set_option linter.unusedVariables false
set_option linter.unusedSimpArgs false
open Go.ChangeShapes Go.WideShapes Go.ChangeAt Go.RowKit Go.Deep

/-- The least prices, in a list. -/
noncomputable def leastL (v : List (List Int)) (a : List Int) : List Int := (List.range v.length).map fun j => leastP (wl v a) v.length j
/-- What Least has after k items. -/
noncomputable def leastTo (v : List (List Int)) (a : List Int) (k : Nat) : List Int := (List.range v.length).map fun j => if j < k then leastP (wl v a) v.length j else 0
/-- .. and in the middle of item k, after m others. -/
noncomputable def leastMid (v : List (List Int)) (a : List Int) (k m : Nat) : List Int := (leastTo v a k).set k (maxTo (fun i => lnkS (wl v a) v.length i k) m)
theorem leastTo_length (v : List (List Int)) (a : List Int) (k : Nat) : (leastTo v a k).length = v.length := by simp [leastTo]
theorem leastMid_length (v : List (List Int)) (a : List Int) (k m : Nat) : (leastMid v a k m).length = v.length := by simp [leastMid, leastTo]
theorem leastMid_zero {v : List (List Int)} {a : List Int} {k : Nat} (hk : k < v.length) : leastMid v a k 0 = leastTo v a k := by
  unfold leastMid maxTo
  apply List.ext_getElem
  · simp
  · intro i h1 h2
    rw [List.getElem_set]
    split
    · rename_i e; subst e; simp [leastTo]
    · rfl
theorem leastMid_end {v : List (List Int)} {a : List Int} {k : Nat} (hk : k < v.length) : leastMid v a k v.length = leastTo v a (k + 1) := by
  unfold leastMid
  apply List.ext_getElem
  · simp [leastTo]
  · intro i h1 h2
    rw [List.getElem_set]
    split
    · rename_i e; subst e; simp [leastTo, leastP]
    · rename_i e
      simp only [leastTo, List.getElem_map, List.getElem_range]
      by_cases e2 : i < k
      · rw [if_pos e2, if_pos (by omega)]
      · rw [if_neg e2, if_neg (by omega)]
theorem leastMid_succ {v : List (List Int)} {a : List Int} {k m : Nat} (hk : k < v.length) : leastMid v a k (m + 1) = (leastMid v a k m).set k (max (maxTo (fun i => lnkS (wl v a) v.length i k) m) (lnkS (wl v a) v.length m k)) := by
  unfold leastMid
  rw [List.set_set]; rfl
theorem leastMid_get {v : List (List Int)} {a : List Int} {k m : Nat} (hk : k < v.length) : iget (leastMid v a k m) k = maxTo (fun i => lnkS (wl v a) v.length i k) m := by
  unfold leastMid; rw [iget_set (by rw [leastTo_length]; exact hk), if_pos rfl]
theorem leastTo_zero (v : List (List Int)) (a : List Int) : leastTo v a 0 = List.replicate v.length 0 := by
  apply List.ext_getElem
  · simp [leastTo]
  · intro i h1 h2; simp [leastTo]
theorem leastTo_all (v : List (List Int)) (a : List Int) : leastTo v a v.length = leastL v a := by
  unfold leastTo leastL
  refine List.map_congr_left fun j hj => ?_
  rw [if_pos (List.mem_range.1 hj)]

theorem lnkS_bound {v : List (List Int)} {a : List Int} (hv : Bids v) (ha : IsA a v.length) {x : Nat} (y : Nat) (hx : x < v.length) : -6000000 ≤ lnkS (wl v a) v.length x y ∧ lnkS (wl v a) v.length x y ≤ 6000000 := by
  have h := lnk_bound (w := wl v a) (n := v.length) (M := 1000000) (by omega) (fun x y hx hy => wl_bound hv ha hx hy) v.length (List.replicate v.length false) x y hx
  have h6 := hv.2.1
  unfold lnkS; omega
theorem maxTo_bound {f : Nat → Int} {M : Int} (hM : 0 ≤ M) {n : Nat} (h : ∀ i, i < n → f i ≤ M) : 0 ≤ maxTo f n ∧ maxTo f n ≤ M := by
  refine ⟨(maxTo_ge f n).1, ?_⟩
  rcases maxTo_eq f n with e | ⟨i, hi, e⟩
  · omega
  · have := h i hi; omega

theorem link0_any {w0 wr : World} {p q : Option Addr} {c d : Nat} {v : List (List Int)} {a : List Int} {x y : Nat} (hx : Mat w0 p c v) (hy : Ints w0 q d a) (hv : Bids v) (ha : IsA a v.length) (hxn : x < v.length) (hyn : y < v.length)
    (hb : Below w0.heap.size w0 wr) : Calls Tryz.prog 73 #[.slice p v.length c, .slice q v.length d, .int .i64 x, .int .i64 y, .slice (some ⟨wr.heap.size, 0, none⟩) v.length v.length] (wr.alloc (.cells (boolCells v.length) 4)).drew
      fun e w' => e = .returned (.int .i64 (lnkS (wl v a) v.length x y)) ∧ ∃ n, w' = (wr.alloc (.cells (boolCells v.length) 4)).drewN n := by
  have h6 := hv.2.1
  refine (link_any w0 p q c d v a _ _ hx hy hv ha v.length (List.replicate v.length false) x y _ (Nat.le_refl _) (by simp) hxn hyn (bget_replicate _ _) (bget_replicate _ _) (by simp) ((hb.alloc hb.size _).drew) ((ownB_cells wr w0.heap.size v.length (by omega) hb.size).drewN 1)).mono ?_
  rintro e w' ⟨he, n, hn⟩
  exact ⟨he, 1 + n, by rw [hn, World.drewN_drew]⟩

end Go.Proofs.YtllcbcanohdepaaGreat
