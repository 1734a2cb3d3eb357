/- The walks of the reference's functions that only read: Great, Same, SameLists, Check, Assigned, Worth, Priced, Content; the slices read as lists. -/
import Derived.Test.YtiohehofnlmenaaTopChoresRunsm1
import Derived.Test.YtiohehofnlmenaaTopChoresRunsm3
import Derived.Test.YtiohehofnlmenaaTopChoresRunsm2
import Derived.BigQuiet
/- The walks of the reference's functions that only read: Great, Same, SameLists, Check, Assigned, Worth, Priced, Content; the slices read as lists. -/
namespace Go.Proofs.Ytiohehofnlmenaa
set_option linter.unusedVariables false
set_option linter.unusedSimpArgs false
open Go.ChangeShapes Go.WideShapes Go.ChangeAt Go.RowKit Go.Deep

def sameB (xs ys : List Int) : Bool := decide (xs = ys)
theorem sameB_true {xs ys : List Int} (h : xs = ys) : sameB xs ys = true := by simp [sameB, h]
theorem take_ext {xs ys : List Int} (h : ∀ j, j < xs.length → iget xs j = iget ys j) (hl : xs.length = ys.length) : xs = ys := by
  apply List.ext_getElem hl
  intro i h1 h2
  have := h i h1
  rwa [iget_of h1, iget_of h2] at this

theorem snoc_all {P : Nat → Prop} {k : Nat} (h : ∀ j, j < k → P j) (hk : P k) : ∀ j, j < k + 1 → P j := fun j hj => by
  by_cases e : j = k
  · exact e ▸ hk
  · exact h j (by omega)

set_option maxHeartbeats 400000 in
theorem same_any (p q : Option Addr) (c d : Nat) (xs ys : List Int) (w : World) (hx : Ints w p c xs) (hy : Ints w q d ys) :
    Calls Try.prog 16 #[.slice p xs.length c, .slice q ys.length d] w fun e w' => e = .returned (.bool (sameB xs ys)) ∧ ∃ n, w' = w.drewN n := by
  by_cases hl : xs.length = ys.length
  · have hb : ((xs.length : Int) != ys.length) = false := by simp [hl]
    have Hl := Lib.hid hl
    clear hl
    go_enter Try.func16, Try.ntmps16
    go_wp2
    go_loopw [5] (fun i wr => ∃ k : Nat, k ≤ xs.length ∧ i = .int .i64 k ∧ (Hid (∀ j, j < k → iget xs j = iget ys j)) ∧ ∃ n, wr = w.drewN n) (fun i _ => xs.length - (intOf i).toNat)
    case atStart => exact ⟨0, Nat.zero_le _, rfl, fun j hj => by omega, 0, rfl⟩
    case round =>
      obtain ⟨k, hk, rfl, ht, n, rfl⟩ := hrel
      by_cases hlt : k < xs.length
      · obtain ⟨b, o, rfl, _, hc⟩ := hx.get hlt
        have hlt' : k < ys.length := by rw [← Hl.out]; exact hlt
        obtain ⟨b', o', rfl, _, hc'⟩ := hy.get hlt'
        have hk1 : (k : Int) < xs.length := by omega
        have hk2 : (k : Int) < ys.length := by omega
        have hl1 := hx.length_le
        go_wp2
        go_quiet (fail)
        go_wp2
        · have hne : (iget xs k != iget ys k) = true := by assumption
          go_ret
          refine ⟨ret_bool ?_, drew_drewN _ ⟨_, rfl⟩⟩
          simp only [sameB]
          symm
          rw [decide_eq_false_iff_not]
          rintro rfl
          simp at hne
        · have he : (iget xs k != iget ys k) = false := by assumption
          go_roundw
          case rel => exact ⟨k + 1, by omega, by go_num, snoc_all ht.out (by simpa using he), _, rfl⟩
          case measure => simp [intOf]; omega
      · have hk1 : ¬ (k : Int) < xs.length := by omega
        go_wp2
        go_ret
        refine ⟨ret_bool ?_, _, rfl⟩
        rw [sameB_true]
        exact take_ext (fun j hj => ht.out j (by omega)) Hl.out
  · have hb : ((xs.length : Int) != ys.length) = true := by simp; omega
    have Hl := Lib.hid hl
    clear hl
    go_enter Try.func16, Try.ntmps16
    go_wp2
    go_ret
    refine ⟨ret_bool ?_, 0, rfl⟩
    simp only [sameB]
    symm
    rw [decide_eq_false_iff_not]
    rintro rfl
    exact Hl.out rfl

def sameLB (u v : List (List Int)) : Bool := decide (u = v)
theorem rows_ext {u v : List (List Int)} (h : ∀ j, j < u.length → rget u j = rget v j) (hl : u.length = v.length) : u = v := by
  apply List.ext_getElem hl
  intro i h1 h2
  have := h i h1
  rwa [rget_of h1, rget_of h2] at this
theorem sameB_eq {xs ys : List Int} (h : sameB xs ys = true) : xs = ys := by simpa [sameB] using h

set_option maxHeartbeats 400000 in
theorem sameLists_any (p q : Option Addr) (c d : Nat) (u v : List (List Int)) (w : World) (hx : Mat w p c u) (hy : Mat w q d v) :
    Calls Try.prog 22 #[.slice p u.length c, .slice q v.length d] w fun e w' => e = .returned (.bool (sameLB u v)) ∧ ∃ n, w' = w.drewN n := by
  by_cases hl : u.length = v.length
  · have hb : ((u.length : Int) != v.length) = false := by simp [hl]
    have Hl := Lib.hid hl
    clear hl
    go_enter Try.func22, Try.ntmps22
    go_wp2
    go_loopw [5] (fun i wr => ∃ k : Nat, k ≤ u.length ∧ i = .int .i64 k ∧ (Hid (∀ j, j < k → rget u j = rget v j)) ∧ ∃ n, wr = w.drewN n) (fun i _ => u.length - (intOf i).toNat)
    case atStart => exact ⟨0, Nat.zero_le _, rfl, fun j hj => by omega, drew_refl w⟩
    case round =>
      obtain ⟨k, hk, rfl, ht, hw⟩ := hrel
      have hx := hx.drew hw
      have hy := hy.drew hw
      have Hw := Lib.hid hw
      clear hw
      by_cases hlt : k < u.length
      · obtain ⟨b, o, rfl, _, q1, d1, hc, hi⟩ := hx.get hlt
        have hlt' : k < v.length := by rw [← Hl.out]; exact hlt
        obtain ⟨b', o', rfl, _, q2, d2, hc', hi'⟩ := hy.get hlt'
        have hk1 : (k : Int) < u.length := by omega
        have hk2 : (k : Int) < v.length := by omega
        have hl1 := hx.length_le
        go_wp2_with fail
        go_quiet ((go_at_call 16; exact Calls.quiet_of (same_any _ _ _ _ _ _ _ (hi.drewN _) (hi'.drewN _))))
        go_wp2_with fail
        · have hne : (!sameB (rget u k) (rget v k)) = true := by assumption
          go_ret
          refine ⟨ret_bool ?_, drew_drewN _ Hw.out⟩
          simp only [sameLB]
          symm
          rw [decide_eq_false_iff_not]
          rintro rfl
          simp [sameB] at hne
        · have he : (!sameB (rget u k) (rget v k)) = false := by assumption
          go_roundw
          case rel => exact ⟨k + 1, by omega, by go_num, snoc_all ht.out (sameB_eq (by simpa using he)), drew_drewN _ Hw.out⟩
          case measure => simp [intOf]; omega
      · have hk1 : ¬ (k : Int) < u.length := by omega
        go_wp2
        go_ret
        refine ⟨ret_bool ?_, Hw.out⟩
        simp only [sameLB]
        symm
        rw [decide_eq_true_iff]
        exact rows_ext (fun j hj => ht.out j (by omega)) Hl.out
  · have hb : ((u.length : Int) != v.length) = true := by simp; omega
    have Hl := Lib.hid hl
    clear hl
    go_enter Try.func22, Try.ntmps22
    go_wp2
    go_ret
    refine ⟨ret_bool ?_, 0, rfl⟩
    simp only [sameLB]
    symm
    rw [decide_eq_false_iff_not]
    rintro rfl
    exact Hl.out rfl

end Go.Proofs.Ytiohehofnlmenaa

/- Equal lists compared by the reference: true; no condition. -/
namespace Go.Proofs.Ytiohehofnlmenaa
set_option linter.unusedVariables false
open Go.ChangeShapes Go.WideShapes Go.ChangeAt Go.RowKit Go.Deep
theorem drew_below {w w' : World} (h : ∃ n, w' = w.drewN n) : Below w.heap.size w w' := by obtain ⟨n, rfl⟩ := h; exact below_drewN _ _ _
theorem app_below {w w' : World} (hg : (w.alloc (.cells #[] 3)).grownBy w' (some w.heap.size)) : Below w.heap.size w w' :=
  ((Below.refl w.heap.size w).alloc (Nat.le_refl _) _).grown hg (by simp) (fun k e => by cases e; exact Nat.le_refl _)
/-- Equal lists, laid twice. -/
theorem eqI_true {p q : Option Addr} {c d : Nat} {xs : List Int} {w : World} (hx : Ints w p c xs) (hy : Ints w q d xs) :
    Calls Try.prog 16 #[.slice p xs.length c, .slice q xs.length d] w fun e w' => e = .returned (.bool true) ∧ ∃ n, w' = w.drewN n := by
  refine (same_any p q c d xs xs w hx hy).mono ?_
  rintro e w' ⟨he, hw⟩
  exact ⟨by rw [he, sameB_true rfl], hw⟩
theorem eqM_true {p q : Option Addr} {c d : Nat} {v : List (List Int)} {w : World} (hx : Mat w p c v) (hy : Mat w q d v) :
    Calls Try.prog 22 #[.slice p v.length c, .slice q v.length d] w fun e w' => e = .returned (.bool true) ∧ ∃ n, w' = w.drewN n := by
  refine (sameLists_any p q c d v v w hx hy).mono ?_
  rintro e w' ⟨he, hw⟩
  exact ⟨by rw [he]; simp [sameLB], hw⟩
end Go.Proofs.Ytiohehofnlmenaa

/- The walks of the reference's Ordered and Passed; their plain words. -/
namespace Go.Proofs.Ytiohehofnlmenaa
set_option linter.unusedVariables false
set_option linter.unusedSimpArgs false
open Go.ChangeShapes Go.WideShapes Go.ChangeAt Go.RowKit Go.Deep

/-- Entry n of a list is below M and new. -/
def NewAt (o : List Int) (M : Int) (n : Nat) : Prop := 0 ≤ iget o n ∧ iget o n < M ∧ ∀ m, m < n → iget o m ≠ iget o n
def OrdP (o : List Int) (M : Int) : Prop := ∀ n, n < o.length → NewAt o M n
instance (o : List Int) (M : Int) (n : Nat) : Decidable (NewAt o M n) := by unfold NewAt; infer_instance
instance (o : List Int) (M : Int) : Decidable (OrdP o M) := by unfold OrdP; infer_instance
def ordB (o : List Int) (M : Int) : Bool := decide (OrdP o M)
theorem ordB_false {o : List Int} {M : Int} {n : Nat} (hn : n < o.length) (h : ¬ NewAt o M n) : ordB o M = false := by
  unfold ordB; rw [decide_eq_false_iff_not]; exact fun h2 => h (h2 n hn)

set_option maxHeartbeats 4000000 in
theorem ordered_any (p : Option Addr) (c : Nat) (o : List Int) (M : Int) (w : World) (hx : Ints w p c o) :
    Calls Try.prog 32 #[.slice p o.length c, .int .i64 M] w fun e w' => e = .returned (.bool (ordB o M)) ∧ ∃ n, w' = w.drewN n := by
  have hl1 := hx.length_le
  go_enter Try.func32, Try.ntmps32
  go_wp2_with fail
  go_loopw [5] (fun t wr => ∃ n : Nat, n ≤ o.length ∧ t = .int .i64 n ∧ Hid (∀ j, j < n → NewAt o M j) ∧ ∃ N, wr = w.drewN N) (fun t _ => o.length - (intOf t).toNat)
  case atStart => exact ⟨0, Nat.zero_le _, rfl, (fun j hj => absurd hj (Nat.not_lt_zero j)), drew_refl _⟩
  case round =>
    obtain ⟨n, hn, rfl, ht, hw⟩ := hrel
    by_cases hlt : n < o.length
    · have hn1 : (n : Int) < o.length := by omega
      obtain ⟨b, o', rfl, _, hc⟩ := (hx.drew hw).get hlt
      have Hw := Lib.hid hw
      have HNew : Hid (NewAt o M n ↔ 0 ≤ iget o n ∧ iget o n < M ∧ ∀ m, m < n → iget o m ≠ iget o n) := Iff.rfl
      obtain ⟨x, ex⟩ : ∃ x, iget o n = x := ⟨_, rfl⟩
      rw [ex] at hc HNew
      have Ex := Lib.hid ex
      clear hw ex
      by_cases h0 : x < 0
      · have hd : decide (x < 0) = true := by simpa using h0
        have HF : Hid (ordB o M = false) := ordB_false hlt (fun h => by have := (HNew.out.1 h).1; omega)
        clear h0
        go_wp2_with fail
        go_ret
        exact ⟨ret_bool HF.out.symm, Hw.out⟩
      · have hd : decide (x < 0) = false := by simpa using h0
        by_cases hM : M ≤ x
        · have hd2 : decide (M ≤ x) = true := by simpa using hM
          have HF : Hid (ordB o M = false) := ordB_false hlt (fun h => by have := (HNew.out.1 h).2.1; omega)
          clear h0 hM
          go_wp2_with fail
          go_ret
          exact ⟨ret_bool HF.out.symm, Hw.out⟩
        · have hd2 : decide (M ≤ x) = false := by simpa using hM
          have H0 := Lib.hid h0
          have HM := Lib.hid hM
          clear h0 hM
          go_wp2_with fail
          go_loopw [6] (fun t wr => ∃ m : Nat, m ≤ n ∧ t = .int .i64 m ∧ Hid (∀ j, j < m → iget o j ≠ x) ∧ ∃ N, wr = w.drewN N) (fun t _ => n - (intOf t).toNat)
          case atStart => exact ⟨0, Nat.zero_le _, rfl, (fun j hj => absurd hj (Nat.not_lt_zero j)), Hw.out⟩
          case round =>
            clear hc
            obtain ⟨m, hm, rfl, ht2, hw⟩ := hrel
            by_cases hlt2 : m < n
            · have hm1 : (m : Int) < n := by omega
              have hm2 : (m : Int) < o.length := by omega
              have hc := (hx.drew hw).at hlt
              have hc2 := (hx.drew hw).at (j := m) (by omega)
              have Hw := Lib.hid hw
              rw [Ex.out] at hc
              obtain ⟨y, ey⟩ : ∃ y, iget o m = y := ⟨_, rfl⟩
              rw [ey] at hc2
              have Ey := Lib.hid ey
              clear hw ey
              by_cases he : y = x
              · have hb : (y == x) = true := by simpa using he
                have HF : Hid (ordB o M = false) := ordB_false hlt (fun h => (HNew.out.1 h).2.2 m (by omega) (by rw [Ey.out]; exact he))
                clear he
                go_wp2_with fail
                go_quiet (fail)
                go_wp2_with fail
                go_ret
                exact ⟨ret_bool HF.out.symm, drew_drewN _ Hw.out⟩
              · have hb : (y == x) = false := by simpa using he
                have HN : Hid (iget o m ≠ x) := by unfold Hid; rw [Ey.out]; exact he
                clear he
                go_wp2_with fail
                go_quiet (fail)
                go_wp2_with fail
                go_roundw
                case rel => exact ⟨m + 1, by omega, by go_num, snoc_all' ht2.out HN.out, drew_drewN _ Hw.out⟩
                case measure => (simp [intOf] <;> omega)
            · have hm1 : ¬ (m : Int) < n := by omega
              have HN : Hid (NewAt o M n) := HNew.out.2 ⟨by have := H0.out; omega, by have := HM.out; omega, fun j hj => ht2.out j (by omega)⟩
              have Hw := Lib.hid hw
              clear hw
              go_wp2_with fail
              go_roundw
              case rel => exact ⟨n + 1, by omega, by go_num, snoc_all' ht.out HN.out, Hw.out⟩
              case measure => (simp [intOf] <;> omega)
    · have hn1 : ¬ (n : Int) < o.length := by omega
      have Hw := Lib.hid hw
      clear hw
      go_wp2_with fail
      go_ret
      refine ⟨ret_bool ?_, Hw.out⟩
      unfold ordB
      exact (decide_eq_true (fun j hj => ht.out j (by omega))).symm

/-- Where the bundle x goes along a circle, after its first m. -/
def lastP (l : List Int) (x : Int) : Nat → Int
  | 0 => x
  | m + 1 => if x = iget l ((m + 1) % l.length) then iget l m else lastP l x m
def passL (a l : List Int) : List Int := a.map fun x => lastP l x l.length
def outTo (a l : List Int) (k : Nat) : List Int := (List.range a.length).map fun (j : Nat) => if j < k then lastP l (iget a j) l.length else iget a j
theorem outTo_len (a l : List Int) (k : Nat) : (outTo a l k).length = a.length := by simp [outTo]
theorem outTo_get {a l : List Int} {k j : Nat} (h : j < a.length) : iget (outTo a l k) j = if j < k then lastP l (iget a j) l.length else iget a j := by simp [outTo, iget, h]
theorem outTo_zero (a l : List Int) : outTo a l 0 = a := by
  apply ext_iget (outTo_len a l 0)
  intro k hk
  rw [outTo_len] at hk
  rw [outTo_get hk]; simp
theorem outTo_full (a l : List Int) : outTo a l a.length = passL a l := by
  apply ext_iget
  · simp [outTo, passL]
  · intro k hk
    rw [outTo_len] at hk
    rw [outTo_get hk, if_pos hk]
    simp [passL, iget, hk]
theorem outTo_set {a l : List Int} {k : Nat} (h : k < a.length) : (outTo a l k).set k (lastP l (iget a k) l.length) = outTo a l (k + 1) := by
  apply ext_iget
  · simp [outTo]
  · intro j hj
    rw [List.length_set, outTo_len] at hj
    rw [iget_set (by rw [outTo_len]; exact h), outTo_get hj, outTo_get hj]
    by_cases e : k = j
    · subst e; simp
    · rw [if_neg e]
      by_cases e2 : j < k
      · rw [if_pos e2, if_pos (by omega)]
      · rw [if_neg e2, if_neg (by omega)]
theorem outTo_self {a l : List Int} {k : Nat} (h : k < a.length) : (outTo a l k).set k (iget a k) = outTo a l k := by
  apply ext_iget
  · simp [outTo]
  · intro j hj
    rw [List.length_set, outTo_len] at hj
    rw [iget_set (by rw [outTo_len]; exact h)]
    by_cases e : k = j
    · subst e; rw [if_pos rfl, outTo_get hj, if_neg (by omega)]
    · rw [if_neg e]

set_option maxHeartbeats 4000000 in
set_option maxRecDepth 100000 in
theorem passed_any (p q : Option Addr) (c d : Nat) (a l : List Int) (w : World) (hx : Ints w p c a) (hy : Ints w q d l) (hl : a.length ≤ 1000) (hl2 : l.length ≤ 1000) :
    Calls Try.prog 34 #[.slice p a.length c, .slice q l.length d] w (Gives w (passL a l)) := by
  have Hlen := Lib.hid (fun k => outTo_len a l k)
  go_enter Try.func34, Try.ntmps34
  go_wp2_with (at_builtin; refine wpList_app rfl (.tmp 8) (.tmp 9) rfl w.heap.size _ _ _ _ [] a rfl rfl (Own.made _ _ (Nat.le_refl _)) (hx.below ((Below.refl _ _).alloc (Nat.le_refl _) _) (Nat.le_refl _)) (by simp; omega) (by simp) ?_; intro p2 c2 w2 zs hz hO hg hf)
  obtain rfl : zs = a := hz.out
  clear hz hf
  have hB : Below w.heap.size w w2 := app_below hg
  have hO0 : Hid (Own w2 w.heap.size p2 c2 (outTo zs l 0)) := by unfold Hid; rw [outTo_zero]; exact hO
  have Hst := Lib.hid (fun k h => outTo_set (a := zs) (l := l) (k := k) h)
  have Hself := Lib.hid (fun k h => outTo_self (a := zs) (l := l) (k := k) h)
  have Hful := Lib.hid (outTo_full zs l)
  have Hlp : Hid (∀ x m, lastP l x (m + 1) = if x = iget l ((m + 1) % l.length) then iget l m else lastP l x m) := fun _ _ => rfl
  have Hlp0 : Hid (∀ x, lastP l x 0 = x) := fun _ => rfl
  clear hg hO
  go_wp2_with fail
  go_loopw [6] (fun t wr => ∃ k : Nat, k ≤ zs.length ∧ t = .int .i64 k ∧ Own wr w.heap.size p2 c2 (outTo zs l k) ∧ Below w.heap.size w wr) (fun t _ => zs.length - (intOf t).toNat)
  case atStart => exact ⟨0, Nat.zero_le _, rfl, hO0.out, hB⟩
  case round =>
    clear hO0 hB
    obtain ⟨k, hk, rfl, hO, hbr⟩ := hrel
    by_cases hlt : k < zs.length
    · have hk1 : (k : Int) < zs.length := by omega
      have hO1 : Hid (Own wr w.heap.size p2 c2 ((outTo zs l k).set k (lastP l (iget zs k) 0))) := by unfold Hid; rw [Hlp0.out, Hself.out k hlt]; exact hO
      have HS := Hst.out k hlt
      obtain ⟨x, ex⟩ : ∃ x, iget zs k = x := ⟨_, rfl⟩
      rw [ex] at hO1 HS
      have HS := Lib.hid HS
      have Ex := Lib.hid ex
      clear ex hO
      go_wp2_with fail
      go_loopw [7] (fun t wk => ∃ m : Nat, m ≤ l.length ∧ t = .int .i64 m ∧ Own wk w.heap.size p2 c2 ((outTo zs l k).set k (lastP l x m)) ∧ Below w.heap.size w wk) (fun t _ => l.length - (intOf t).toNat)
      case atStart => exact ⟨0, Nat.zero_le _, rfl, hO1.out, hbr⟩
      case round =>
        clear hO1 hbr
        obtain ⟨m, hm, rfl, hO, hbr⟩ := hrel
        by_cases hlt2 : m < l.length
        · have hm1 : (m : Int) < l.length := by omega
          obtain ⟨b1, o1, rfl, _, hc1⟩ := (hx.below hbr (Nat.le_refl _)).get hlt
          rw [Ex.out] at hc1
          obtain ⟨i, hi⟩ : ∃ i, (m + 1) % l.length = i := ⟨_, rfl⟩
          have hil : i < l.length := by rw [← hi]; exact Nat.mod_lt _ (by omega)
          have hmod : ((m : Int) + 1) % (l.length : Int) = (i : Int) := by rw [← hi]; simp [Int.natCast_emod]
          have hmod2 : ((m : Int) + 1).tmod (l.length : Int) = (i : Int) := by rw [Int.tmod_eq_emod_of_nonneg (by omega), hmod]
          have hi1 : (i : Int) < l.length := by omega
          have hi0 : (0 : Int) ≤ i := by omega
          have hl0 : ((l.length : Int) == 0) = false := by rw [beq_eq_false_iff_ne]; omega
          obtain ⟨b2, o2, rfl, _, hc2⟩ := (hy.below hbr (Nat.le_refl _)).get hil
          have hc3 := (hy.below hbr (Nat.le_refl _)).at hlt2
          have hr3 := hy.rng m hlt2
          have HL := Hlp.out x m
          rw [hi] at HL
          obtain ⟨y, ey⟩ : ∃ y, iget l i = y := ⟨_, rfl⟩
          obtain ⟨z, ez⟩ : ∃ z, iget l m = z := ⟨_, rfl⟩
          rw [ey] at hc2 HL
          rw [ez] at hc3 hr3 HL
          have HL := Lib.hid HL
          clear ey ez hi
          by_cases he : x = y
          · have hb : (x == y) = true := by simpa using he
            have HL2 : Hid (lastP l x (m + 1) = z) := by unfold Hid; rw [HL.out, if_pos he]
            obtain ⟨g, rfl, _, _, hcA, hfA⟩ := hO.get (j := k) (by rw [List.length_set, Hlen.out]; exact hlt)
            have hgw := (hO.lt g rfl).1
            have HO := Lib.hid hO
            have Hr3 := Lib.hid hr3
            clear he HL hO
            go_wp2_with fail
            go_quiet (fail)
            go_wp2_with fail
            go_roundw
            case rel =>
              have h5 := ((HO.out.drewN nq).set k Hr3.out).1
              rw [List.set_set] at h5
              exact ⟨m + 1, by omega, by go_num, by rw [HL2.out]; exact h5, (hbr.drewN' _).setCell (p := ⟨g, k, none⟩) hgw _⟩
            case measure => (simp [intOf] <;> omega)
          · have hb : (x == y) = false := by simpa using he
            have HL2 : Hid (lastP l x (m + 1) = lastP l x m) := by unfold Hid; rw [HL.out, if_neg he]
            have HO := Lib.hid hO
            clear he HL hO
            go_wp2_with fail
            go_quiet (fail)
            go_wp2_with fail
            go_roundw
            case rel => exact ⟨m + 1, by omega, by go_num, by rw [HL2.out]; exact HO.out.drewN _, hbr.drewN' _⟩
            case measure => (simp [intOf] <;> omega)
        · have hm1 : ¬ (m : Int) < l.length := by omega
          obtain rfl : m = l.length := by omega
          rw [HS.out] at hO
          go_wp2_with fail
          go_roundw
          case rel => exact ⟨k + 1, by omega, by go_num, hO, hbr⟩
          case measure => (simp [intOf] <;> omega)
    · have hk1 : ¬ (k : Int) < zs.length := by omega
      obtain rfl : k = zs.length := by omega
      rw [Hful.out] at hO
      have Hpl : Hid ((passL zs l).length = zs.length) := by unfold Hid passL; simp
      go_wp2_with fail
      go_ret
      exact ⟨p2, c2, by rw [Hpl.out]; rfl, hO, hbr⟩
end Go.Proofs.Ytiohehofnlmenaa

/- Picking in turns: the first best good that is left; plain, no program. -/
namespace Go.Proofs.Ytiohehofnlmenaa
set_option linter.unusedVariables false
set_option linter.unusedSimpArgs false

/-- The first best of the first k goods that are free, for one who values them as r says, or -1. -/
def pickTo (r a : List Int) : Nat → Int
  | 0 => -1
  | k + 1 => if iget a k < 0 ∧ (pickTo r a k < 0 ∨ iget r (pickTo r a k).toNat < iget r k) then (k : Int) else pickTo r a k
def pick (r a : List Int) : Int := pickTo r a a.length
theorem pickTo_yes {r a : List Int} {k : Nat} (h : iget a k < 0) (h2 : pickTo r a k < 0 ∨ iget r (pickTo r a k).toNat < iget r k) : pickTo r a (k + 1) = k := by
  rw [pickTo, if_pos ⟨h, h2⟩]
theorem pickTo_no {r a : List Int} {k : Nat} (h : ¬ (iget a k < 0 ∧ (pickTo r a k < 0 ∨ iget r (pickTo r a k).toNat < iget r k))) : pickTo r a (k + 1) = pickTo r a k := by
  rw [pickTo, if_neg h]
theorem pickTo_range (r a : List Int) (k : Nat) : -1 ≤ pickTo r a k ∧ pickTo r a k < k := by
  induction k with
  | zero => simp [pickTo]
  | succ k ih => rw [pickTo]; split <;> omega
theorem pickTo_none {r a : List Int} {k : Nat} : pickTo r a k < 0 ↔ ∀ j, j < k → ¬ iget a j < 0 := by
  induction k with
  | zero => simp [pickTo]
  | succ k ih =>
    rw [pickTo]
    split
    · rename_i h
      constructor
      · intro h2; omega
      · intro h2; exact absurd h.1 (h2 k (by omega))
    · rename_i h
      constructor
      · intro h2 j hj
        by_cases e : j = k
        · subst e; intro h3; exact h ⟨h3, .inl h2⟩
        · exact ih.1 h2 j (by omega)
      · intro h2; exact ih.2 fun j hj => h2 j (by omega)
/-- One takes x rather than y. -/
def BetterP (r : List Int) (x y : Nat) : Prop := iget r y < iget r x ∨ (iget r x = iget r y ∧ x < y)
instance (r : List Int) (x y : Nat) : Decidable (BetterP r x y) := by unfold BetterP; infer_instance
def betterB (r : List Int) (x y : Nat) : Bool := decide (BetterP r x y)
theorem pickTo_best {r a : List Int} {k : Nat} (h : 0 ≤ pickTo r a k) : iget a (pickTo r a k).toNat < 0 ∧ ∀ y, y < k → iget a y < 0 → y ≠ (pickTo r a k).toNat → BetterP r (pickTo r a k).toNat y := by
  induction k with
  | zero => simp [pickTo] at h
  | succ k ih =>
    by_cases hc : iget a k < 0 ∧ (pickTo r a k < 0 ∨ iget r (pickTo r a k).toNat < iget r k)
    · rw [pickTo_yes hc.1 hc.2]
      refine ⟨by simpa using hc.1, fun y hy hya hne => ?_⟩
      simp only [Int.toNat_natCast] at hne ⊢
      have hy' : y < k := by omega
      rcases hc.2 with h2 | h2
      · exact absurd hya (pickTo_none.1 h2 y hy')
      · by_cases e : y = (pickTo r a k).toNat
        · left; rw [e]; exact h2
        · have hp : 0 ≤ pickTo r a k := by
            rcases Int.lt_or_le (pickTo r a k) 0 with h3 | h3
            · exact absurd hya (pickTo_none.1 h3 y hy')
            · exact h3
          have := (ih hp).2 y hy' hya e
          rcases this with h4 | h4
          · left; omega
          · left; omega
    · rw [pickTo_no hc] at h ⊢
      obtain ⟨h1, h2⟩ := ih h
      refine ⟨h1, fun y hy hya hne => ?_⟩
      by_cases e : y = k
      · subst e
        have hr := pickTo_range r a y
        have : ¬ iget r (pickTo r a y).toNat < iget r y := fun h3 => hc ⟨hya, .inr h3⟩
        by_cases e2 : iget r (pickTo r a y).toNat = iget r y
        · right; exact ⟨e2, by omega⟩
        · left; omega
      · exact h2 y (by omega) hya hne
/-- Good x is free, and of the first m goods each other one that is free is worse. -/
def WinTo (r a : List Int) (x m : Nat) : Prop := iget a x < 0 ∧ ∀ y, y < m → 0 ≤ iget a y ∨ x = y ∨ BetterP r x y
instance (r a : List Int) (x m : Nat) : Decidable (WinTo r a x m) := by unfold WinTo; infer_instance
def winB (r a : List Int) (x m : Nat) : Bool := decide (WinTo r a x m)
theorem winB_zero (r a : List Int) (x : Nat) : winB r a x 0 = decide (iget a x < 0) := by
  unfold winB WinTo; exact dec_congr ⟨fun h => h.1, fun h => ⟨h, fun y hy => by omega⟩⟩
theorem winTo_succ (r a : List Int) (x m : Nat) : WinTo r a x (m + 1) ↔ WinTo r a x m ∧ (0 ≤ iget a m ∨ x = m ∨ BetterP r x m) := by
  constructor
  · rintro ⟨h1, h2⟩
    exact ⟨⟨h1, fun y hy => h2 y (by omega)⟩, h2 m (by omega)⟩
  · rintro ⟨⟨h1, h2⟩, h3⟩
    refine ⟨h1, fun y hy => ?_⟩
    by_cases e : y = m
    · subst e; exact h3
    · exact h2 y (by omega)
theorem winB_succ (r a : List Int) (x m : Nat) : winB r a x (m + 1) = (winB r a x m && (decide (0 ≤ iget a m) || (decide (x = m) || betterB r x m))) := by
  unfold winB betterB
  rw [Bool.eq_iff_iff, Bool.and_eq_true, Bool.or_eq_true, Bool.or_eq_true, decide_eq_true_iff, decide_eq_true_iff, decide_eq_true_iff, decide_eq_true_iff, decide_eq_true_iff]
  exact winTo_succ r a x m
theorem win_pick {r a : List Int} {x : Nat} (hx : x < a.length) : WinTo r a x a.length ↔ pick r a = x := by
  unfold pick
  constructor
  · rintro ⟨h1, h2⟩
    have hp : 0 ≤ pickTo r a a.length := by
      rcases Int.lt_or_le (pickTo r a a.length) 0 with h3 | h3
      · exact absurd h1 (pickTo_none.1 h3 x hx)
      · exact h3
    have hr := pickTo_range r a a.length
    obtain ⟨h3, h4⟩ := pickTo_best hp
    by_cases e : x = (pickTo r a a.length).toNat
    · omega
    · have h5 := h4 x hx h1 e
      rcases h2 (pickTo r a a.length).toNat (by omega) with h6 | h6 | h6
      · omega
      · exact absurd h6 e
      · rcases h5 with h5 | h5 <;> rcases h6 with h6 | h6 <;> omega
  · intro h
    obtain ⟨h1, h2⟩ := pickTo_best (r := r) (a := a) (k := a.length) (by omega)
    rw [h, Int.toNat_natCast] at h1 h2
    refine ⟨h1, fun y hy => ?_⟩
    by_cases hy0 : iget a y < 0
    · by_cases e : x = y
      · exact .inr (.inl e)
      · exact .inr (.inr (h2 y hy hy0 (fun e2 => e e2.symm)))
    · left; omega
/-- The last winner of the first k goods. -/
def refPick (r a : List Int) : Nat → Int
  | 0 => -1
  | k + 1 => if winB r a k a.length = true then (k : Int) else refPick r a k
theorem refPick_eq {r a : List Int} {k : Nat} (hk : k ≤ a.length) : refPick r a k = if pick r a < k then pick r a else -1 := by
  have hr := pickTo_range r a a.length
  induction k with
  | zero =>
    rw [refPick]
    split
    · unfold pick at *; omega
    · rfl
  | succ k ih =>
    rw [refPick, ih (by omega)]
    have := win_pick (r := r) (a := a) (x := k) (by omega)
    by_cases e : pick r a = k
    · rw [if_pos (by unfold winB; rw [decide_eq_true_iff]; exact this.2 e), if_pos (by omega), e]
    · rw [if_neg (by unfold winB; rw [decide_eq_true_iff]; exact fun h => e (this.1 h))]
      split
      · rw [if_pos (by omega)]
      · rw [if_neg (by omega)]
theorem refPick_full (r a : List Int) : refPick r a a.length = pick r a := by
  rw [refPick_eq (Nat.le_refl _)]; exact if_pos (pickTo_range r a a.length).2

/-- Who owns what after one turn; after k turns; what was taken. -/
def stepA (v : List (List Int)) (a : List Int) (i : Int) : List Int := if 0 ≤ pick (rget v i.toNat) a then a.set (pick (rget v i.toNat) a).toNat i else a
def pkA (v : List (List Int)) (ts : List Int) : Nat → List Int
  | 0 => List.replicate (wid v) (-1)
  | k + 1 => stepA v (pkA v ts k) (iget ts k)
def pkT (v : List (List Int)) (ts : List Int) : Nat → List Int
  | 0 => []
  | k + 1 => pkT v ts k ++ [pick (rget v (iget ts k).toNat) (pkA v ts k)]
theorem stepA_len (v : List (List Int)) (a : List Int) (i : Int) : (stepA v a i).length = a.length := by unfold stepA; split <;> simp
theorem pkA_len (v : List (List Int)) (ts : List Int) (k : Nat) : (pkA v ts k).length = wid v := by
  induction k with
  | zero => simp [pkA]
  | succ k ih => rw [pkA, stepA_len, ih]
theorem pkT_len (v : List (List Int)) (ts : List Int) (k : Nat) : (pkT v ts k).length = k := by
  induction k with
  | zero => rfl
  | succ k ih => rw [pkT, List.length_append, ih]; rfl
def pickE (v : List (List Int)) (ts : List Int) : Int := if chkG v = 0 then chkT v.length ts else chkG v
def pickL (v : List (List Int)) (ts : List Int) : List Int := if pickE v ts = 0 then pkA v ts ts.length else []
def pickT (v : List (List Int)) (ts : List Int) : List Int := if pickE v ts = 0 then pkT v ts ts.length else []
theorem pickE_bad {v : List (List Int)} {ts : List Int} (h : ¬ chkG v = 0) : pickE v ts = chkG v := if_neg h
theorem pickE_ok {v : List (List Int)} {ts : List Int} (h : chkG v = 0) : pickE v ts = chkT v.length ts := if_pos h

/-- No two turns of the same agent in one round. -/
def BalTo (n : Nat) (ts : List Int) (m : Nat) : Prop := ∀ s, s < m → ∀ t, t < s → ¬ (iget ts s = iget ts t ∧ s / n = t / n)
instance (n : Nat) (ts : List Int) (m : Nat) : Decidable (BalTo n ts m) := by unfold BalTo; infer_instance
def balB (n : Int) (ts : List Int) : Bool := decide (chkT n ts = 0 ∧ BalTo n.toNat ts ts.length)
end Go.Proofs.Ytiohehofnlmenaa
