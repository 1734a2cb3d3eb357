/- The walks of goods.within, Valid and Values, and of the reference's Valid and Worth, for every goods and allocation; no condition. -/
import Derived.Test.YtiohehofnlmenaaTopChoresRunsm3
import Derived.Test.YtiohehofnlmenaaTopChoresRunsm2
import Derived.StillTailTactics
import Derived.Deep.RegionHeld3
import Derived.Test.YtiohehofnlmenaaTopChoresRunsm1
/- The walks of goods.within, Valid and Values, and of the reference's Valid and Worth, for every goods and allocation; no condition. -/
namespace Go.Proofs.Ytiohehofnlmenaa
set_option linter.unusedVariables false
set_option linter.unusedSimpArgs false
open Go.ChangeShapes Go.WideShapes Go.ChangeAt Go.RowKit Go.Deep

/-- A predicate that holds two variables of its own, at the numbers of a list. -/
def Asks2 (K : Nat) (u u2 : Value) (xs : List Int) (P : Nat → Bool) (R : World → Prop) : Prop :=
  ∀ j W, j < xs.length → R W → Calls Try.prog K #[.int .i64 (iget xs j), u, u2] W fun e w' => e = .returned (.bool (P j)) ∧ R w'
set_option maxHeartbeats 800000 in
theorem indexFunc2_any (K : Nat) (u u2 : Value) (P : Nat → Bool) (R : World → Prop) (hcf : ∀ args W, (callFunc K args).run Try.prog W = .ok (.enter K args) W) (p : Option Addr) (c : Nat) (xs : List Int) (w : World) (hR : R w) (hI : Hid (∀ W, R W → Ints W p c xs)) (hf : Asks2 K u u2 xs P R) :
    Calls Try.prog 78 #[.slice p xs.length c, .func (.func K) #[] #[u, u2]] w fun e w' => e = .returned (.int .i64 (firstN P xs.length)) ∧ R w' := by
  have hl1 := (hI.out _ hR).length_le
  have Hf := Lib.hid hf
  clear hf
  go_enter Try.func78, Try.ntmps78
  go_wp2_with fail
  go_loopw [8] (fun t wr => ∃ k : Nat, k ≤ xs.length ∧ t = .int .i64 k ∧ Hid (∀ j, j < k → P j = false) ∧ R wr) (fun t _ => xs.length - (intOf t).toNat)
  case atStart => exact ⟨0, Nat.zero_le _, rfl, (fun j hj => absurd hj (Nat.not_lt_zero j)), hR⟩
  case round =>
    obtain ⟨k, hk, rfl, ht, hRr⟩ := hrel
    have hx := hI.out _ hRr
    by_cases hlt : k < xs.length
    · obtain ⟨b, o, rfl, _, hc⟩ := hx.get hlt
      have hk1 : (k : Int) < xs.length := by omega
      go_wp2_with fail
      refine (Hf.out k _ hlt hRr).mono ?_
      rintro e w' ⟨rfl, hR'⟩
      cases hP : P k with
      | true =>
        have HP := Lib.hid hP
        clear hP
        go_wp2_with fail
        go_ret
        exact ⟨ret_int (firstN_of hlt HP.out ht.out).symm, hR'⟩
      | false =>
        have HP := Lib.hid hP
        clear hP
        go_wp2_with fail
        go_roundw
        case rel => exact ⟨k + 1, by omega, by go_num, snoc_all' ht.out HP.out, hR'⟩
        case measure => simp [intOf]; omega
    · have hk1 : ¬ (k : Int) < xs.length := by omega
      go_wp2_with fail
      go_ret
      exact ⟨ret_int (firstN_none (fun j hj => ht.out j (by omega))).symm, hRr⟩
set_option maxHeartbeats 400000 in
theorem containsFunc2_any (K : Nat) (u u2 : Value) (P : Nat → Bool) (R : World → Prop) (hcf : ∀ args W, (callFunc K args).run Try.prog W = .ok (.enter K args) W) (p : Option Addr) (c : Nat) (xs : List Int) (w : World) (hR : R w) (hI : Hid (∀ W, R W → Ints W p c xs)) (hf : Asks2 K u u2 xs P R) :
    Calls Try.prog 69 #[.slice p xs.length c, .func (.func K) #[] #[u, u2]] w fun e w' => e = .returned (.bool (anyN P xs.length)) ∧ R w' := by
  have HA := Lib.hid (firstN_any P xs.length)
  have Hf := Lib.hid hf
  clear hf
  go_enter Try.func69, Try.ntmps69
  go_wp2_with fail
  refine (indexFunc2_any K u u2 P R hcf p c xs w hR hI Hf.out).mono ?_
  rintro e w' ⟨rfl, hR'⟩
  go_wp2_with fail
  go_ret
  exact ⟨ret_bool HA.out, hR'⟩
def outP (lo hi : Int) (xs : List Int) (j : Nat) : Bool := decide (iget xs j < lo ∨ hi ≤ iget xs j)
theorem enter_within1 (args : Array Value) (W : World) : (callFunc 81 args).run Try.prog W = .ok (.enter 81 args) W := by kernel_rfl
set_option maxHeartbeats 400000 in
theorem within1_any (x lo hi : Int) (B B2 : Nat) (w : World) (hx : in64 x) (hc : w.cell? ⟨B, 0, none⟩ = some (.int .i64 lo)) (hc2 : w.cell? ⟨B2, 0, none⟩ = some (.int .i64 hi)) :
    Calls Try.prog 81 #[.int .i64 x, .pointer (some ⟨B, 0, none⟩), .pointer (some ⟨B2, 0, none⟩)] w fun e w' => e = .returned (.bool (decide (x < lo ∨ hi ≤ x))) ∧ w' = w := by
  obtain ⟨h1, h2⟩ := hx
  by_cases hlow : x < lo
  · have hd : decide (x < lo) = true := by simpa using hlow
    go_enter Try.func81, Try.ntmps81
    go_wp2_with fail
    go_ret
    exact ⟨ret_bool (by simp [hlow]), rfl⟩
  · have hd : decide (x < lo) = false := by simpa using hlow
    go_enter Try.func81, Try.ntmps81
    go_wp2_with fail
    go_ret
    exact ⟨ret_bool (by first | rfl | (rw [Bool.eq_iff_iff]; simp only [decide_eq_true_iff]; omega)), rfl⟩
def withinB (lo hi : Int) (xs : List Int) : Bool := !(anyN (outP lo hi xs) xs.length)
theorem withinB_true {lo hi : Int} {xs : List Int} : withinB lo hi xs = true ↔ ∀ j, j < xs.length → lo ≤ iget xs j ∧ iget xs j < hi := by
  unfold withinB
  constructor
  · intro h j hj
    have h' : anyN (outP lo hi xs) xs.length = false := by simpa using h
    have := anyN_false.1 h' j hj
    simp [outP] at this
    omega
  · intro h
    have : anyN (outP lo hi xs) xs.length = false := anyN_false.2 fun j hj => by
      have := h j hj
      simp [outP]; omega
    simp [this]
set_option maxHeartbeats 800000 in
theorem within_any (lo hi : Int) (p : Option Addr) (c : Nat) (xs : List Int) (w : World) (hx : Ints w p c xs) :
    Calls Try.prog 72 #[.int .i64 lo, .int .i64 hi, .slice p xs.length c] w fun e w' => e = .returned (.bool (withinB lo hi xs)) ∧ Below w.heap.size w w' := by
  obtain ⟨W0, hW0⟩ : ∃ W0, w.alloc (.cells #[.int .i64 lo] 3) = W0 := ⟨_, rfl⟩
  have hB : Below w.heap.size w W0 := below_alloc hW0
  have bX : BoxV W0 w.heap.size [.int .i64 lo] := BoxV.new rfl hW0
  obtain ⟨W1, hW1⟩ : ∃ W1, W0.alloc (.cells #[.int .i64 hi] 3) = W1 := ⟨_, rfl⟩
  have hB1 : Below W0.heap.size W0 W1 := below_alloc hW1
  have bY : BoxV W1 W0.heap.size [.int .i64 hi] := BoxV.new rfl hW1
  have x0 := (bX.below hB1).cell 0 _ rfl
  have y0 := bY.cell 0 _ rfl
  have hx := (hx.below hB (Nat.le_refl _)).below hB1 (Nat.le_refl _)
  have hB2 : Below w.heap.size w W1 := hB.trans (hB1.mono hB.size)
  have HW0 := Lib.hid hW0
  have HW1 := Lib.hid hW1
  have HV : Hid (W0.heap.size = w.heap.size + 1) := by unfold Hid; rw [← hW0]; simp
  clear hW0 hW1
  have hl1 := hx.length_le
  go_enter Try.func72, Try.ntmps72
  go_wp2_with fail
  rw [HW0.out, HW1.out]
  rw [HV.out] at y0
  refine (containsFunc2_any 81 (.pointer (some ⟨w.heap.size, 0, none⟩)) (.pointer (some ⟨w.heap.size + 1, 0, none⟩)) (outP lo hi xs) (fun W => W = W1) enter_within1 p c xs W1 rfl (fun W hW => by rw [hW]; exact hx)
    (fun j W hj hW => by subst hW; exact within1_any _ lo hi _ _ _ (hx.rng j hj) x0 y0)).mono ?_
  rintro e w' ⟨rfl, rfl⟩
  cases hany : anyN (outP lo hi xs) xs.length with
  | true =>
    have H : Hid (withinB lo hi xs = false) := by unfold Hid withinB; rw [hany]; rfl
    clear hany
    go_wp2_with fail
    go_ret
    exact ⟨ret_bool H.out.symm, hB2⟩
  | false =>
    have H : Hid (withinB lo hi xs = true) := by unfold Hid withinB; rw [hany]; rfl
    clear hany
    go_wp2_with fail
    go_ret
    exact ⟨ret_bool H.out.symm, hB2⟩

set_option maxHeartbeats 1600000 in
theorem goodsValid_any (p : Option Addr) (c : Nat) (v : List (List Int)) (q : Option Addr) (d : Nat) (a : List Int) (w : World) (hx : Mat w p c v) (hi : Ints w q d a) :
    Calls Try.prog 60 #[.agg #[.slice p v.length c], .slice q a.length d] w fun e w' => e = .returned (.int .i64 (chkA v a)) ∧ Below w.heap.size w w' := by
  obtain ⟨W0, hW0⟩ : ∃ W0, w.alloc (.cells #[.slice p v.length c] 24) = W0 := ⟨_, rfl⟩
  have hB : Below w.heap.size w W0 := below_alloc hW0
  have bX : BoxV W0 w.heap.size [.slice p v.length c] := BoxV.new rfl hW0
  have hx := hx.below hB (Nat.le_refl _)
  have hi := hi.below hB (Nat.le_refl _)
  have x0 := bX.cell 0 _ rfl
  have HW0 := Lib.hid hW0
  clear hW0
  have hl1 := hx.length_le
  have hl2 := hi.length_le
  go_enter Try.func60, Try.ntmps60
  go_wp2_with fail
  rw [HW0.out]
  refine (goodsCheck_any p c v _ hx).mono ?_
  rintro e w1 ⟨rfl, hb1⟩
  have hx := hx.below hb1 (Nat.le_refl _)
  have hi := hi.below hb1 (Nat.le_refl _)
  have x0 := (bX.below hb1).cell 0 _ rfl
  have hB := hB.trans (hb1.mono hB.size)
  by_cases hF : chkG v = 0
  · rw [hF]
    have hg := chkG_zero.1 hF
    have h0 : 0 < v.length := hg.1
    obtain ⟨b, o, rfl, _, q0, d0, hc0, hi0⟩ := hx.get h0
    rw [Nat.add_zero] at hc0
    have h01 : (0 : Int) < v.length := by omega
    by_cases hl : a.length = (rget v 0).length
    · have hlb : ((a.length : Int) != ((rget v 0).length : Int)) = false := by rw [hl]; simp
      have Hg := Lib.hid hg
      have Hl := Lib.hid hl
      have HF := Lib.hid hF
      clear hg hl hF
      go_wp2_with fail
      refine (within_any (-1) v.length q d a _ hi).mono ?_
      rintro e w2 ⟨rfl, hb2⟩
      have hB := hB.trans (hb2.mono hB.size)
      cases hw : withinB (-1) v.length a with
      | true =>
        have H : Hid (chkA v a = 0) := chkA_ok Hg.out ⟨Hl.out, fun j hj => withinB_true.1 hw j hj⟩
        clear hw
        go_wp2_with fail
        go_ret
        exact ⟨ret_int H.out.symm, hB⟩
      | false =>
        have H : Hid (chkA v a = 8) := chkA_bad HF.out fun h => by rw [withinB_true.2 h.2] at hw; cases hw
        clear hw
        go_wp2_with fail
        go_ret
        exact ⟨ret_int H.out.symm, hB⟩
    · have hlb : ((a.length : Int) != ((rget v 0).length : Int)) = true := by rw [bne_iff_ne]; omega
      have H : Hid (chkA v a = 8) := chkA_bad hF fun h => hl h.1
      clear hl hF hg
      go_wp2_with fail
      go_ret
      exact ⟨ret_int H.out.symm, hB⟩
  · have hz : (chkG v != 0) = true := by rw [bne_iff_ne]; exact hF
    have H := Lib.hid (chkA_err (a := a) hF)
    clear hF
    go_wp2_with fail
    go_ret
    exact ⟨ret_int H.out.symm, hB⟩

set_option maxHeartbeats 1600000 in
theorem ref16Valid_any (p : Option Addr) (c : Nat) (v : List (List Int)) (q : Option Addr) (d : Nat) (a : List Int) (w : World) (hx : Mat w p c v) (hi : Ints w q d a) :
    Calls Try.prog 31 #[.agg #[.slice p v.length c], .slice q a.length d] w fun e w' => e = .returned (.int .i64 (chkA v a)) ∧ Below w.heap.size w w' := by
  obtain ⟨W0, hW0⟩ : ∃ W0, w.alloc (.cells #[.slice p v.length c] 24) = W0 := ⟨_, rfl⟩
  have hB : Below w.heap.size w W0 := below_alloc hW0
  have bX : BoxV W0 w.heap.size [.slice p v.length c] := BoxV.new rfl hW0
  have hx := hx.below hB (Nat.le_refl _)
  have hi := hi.below hB (Nat.le_refl _)
  have x0 := bX.cell 0 _ rfl
  have HW0 := Lib.hid hW0
  clear hW0
  have hl1 := hx.length_le
  have hl2 := hi.length_le
  go_enter Try.func31, Try.ntmps31
  go_wp2_with fail
  rw [HW0.out]
  refine (ref16Check_any p c v _ hx).mono ?_
  rintro e w1 ⟨rfl, hb1⟩
  have hx := hx.below hb1 (Nat.le_refl _)
  have hi := hi.below hb1 (Nat.le_refl _)
  have bX := bX.below hb1
  have x0 := bX.cell 0 _ rfl
  have hB := hB.trans (hb1.mono hB.size)
  by_cases hF : chkG v = 0
  · rw [hF]
    have hg := chkG_zero.1 hF
    have h0 : 0 < v.length := hg.1
    obtain ⟨b, o, rfl, _, q0, d0, hc0, hi0⟩ := hx.get h0
    rw [Nat.add_zero] at hc0
    have h01 : (0 : Int) < v.length := by omega
    by_cases hl : a.length = (rget v 0).length
    · have hlb : ((a.length : Int) != ((rget v 0).length : Int)) = false := by rw [hl]; simp
      have Hg := Lib.hid hg
      have Hl := Lib.hid hl
      have HF := Lib.hid hF
      clear hg hl hF
      go_wp2_with fail
      clear hc0 hi0
      go_loopw [5] (fun t wr => ∃ k : Nat, k ≤ a.length ∧ t = .int .i64 k ∧ Hid (∀ j, j < k → -1 ≤ iget a j ∧ iget a j < v.length) ∧ ∃ n, wr = w1.drewN n) (fun t _ => a.length - (intOf t).toNat)
      case atStart => exact ⟨0, Nat.zero_le _, rfl, (fun j hj => absurd hj (Nat.not_lt_zero j)), drew_refl _⟩
      case round =>
        obtain ⟨k, hk, rfl, ht, hw⟩ := hrel
        have hi := hi.drew hw
        have x0 : wr.cell? ⟨w.heap.size, 0, none⟩ = some (.slice (some ⟨b, o, none⟩) v.length c) := by obtain ⟨n, rfl⟩ := hw; exact x0
        have Hw := Lib.hid hw
        clear hw
        by_cases hlt : k < a.length
        · obtain ⟨b2, o2, rfl, _, hc2⟩ := hi.get hlt
          have hk1 : (k : Int) < a.length := by omega
          by_cases hlow : iget a k < -1
          · have hdl : decide (iget a k < -1) = true := by simpa using hlow
            have H : Hid (chkA v a = 8) := chkA_bad HF.out fun h => by have := (h.2 k hlt).1; omega
            clear hlow
            go_wp2_with fail
            go_quiet (fail)
            go_wp2_with fail
            go_ret
            exact ⟨ret_int H.out.symm, (hB.drewP Hw.out).drewN' _⟩
          · have hdl : decide (iget a k < -1) = false := by simpa using hlow
            by_cases hhi : (v.length : Int) ≤ iget a k
            · have hdh : decide ((v.length : Int) ≤ iget a k) = true := by simpa using hhi
              have H : Hid (chkA v a = 8) := chkA_bad HF.out fun h => by have := (h.2 k hlt).2; omega
              clear hlow hhi
              go_wp2_with fail
              go_quiet (fail)
              go_wp2_with fail
              go_ret
              exact ⟨ret_int H.out.symm, (hB.drewP Hw.out).drewN' _⟩
            · have hdh : decide ((v.length : Int) ≤ iget a k) = false := by simpa using hhi
              have HP : Hid (-1 ≤ iget a k ∧ iget a k < v.length) := show _ ∧ _ by omega
              clear hlow hhi
              go_wp2_with fail
              go_quiet (fail)
              go_wp2_with fail
              go_roundw
              case rel => exact ⟨k + 1, by omega, by go_num, snoc_all' ht.out HP.out, drew_drewN _ Hw.out⟩
              case measure => simp [intOf]; omega
        · have hk1 : ¬ (k : Int) < a.length := by omega
          have H : Hid (chkA v a = 0) := chkA_ok Hg.out ⟨Hl.out, fun j hj => ht.out j (by omega)⟩
          go_wp2_with fail
          go_ret
          exact ⟨ret_int H.out.symm, hB.drewP Hw.out⟩
    · have hlb : ((a.length : Int) != ((rget v 0).length : Int)) = true := by rw [bne_iff_ne]; omega
      have H : Hid (chkA v a = 8) := chkA_bad hF fun h => hl h.1
      clear hl hF hg
      go_wp2_with fail
      go_ret
      exact ⟨ret_int H.out.symm, hB⟩
  · have hz : (chkG v != 0) = true := by rw [bne_iff_ne]; exact hF
    have H := Lib.hid (chkA_err (a := a) hF)
    clear hF
    go_wp2_with fail
    refine (ref16Check_any p c v _ hx).mono ?_
    rintro e w2 ⟨rfl, hb2⟩
    go_wp2_with fail
    go_ret
    exact ⟨ret_int H.out.symm, hB.trans (hb2.mono hB.size)⟩
end Go.Proofs.Ytiohehofnlmenaa

/- The walks of goods.Values and of the reference's Worth, for every goods and allocation; no condition. -/
namespace Go.Proofs.Ytiohehofnlmenaa
set_option linter.unusedVariables false
set_option linter.unusedSimpArgs false
open Go.ChangeShapes Go.WideShapes Go.ChangeAt Go.RowKit Go.Deep

/-- A table, and an error. -/
def GivesV (w : World) (v : List (List Int)) (k : Int) (e : Ending) (w' : World) : Prop :=
  ∃ p c, e = .returned (.tuple #[.slice p v.length c, .int .i64 k]) ∧ Mat w' p c v ∧ Below w.heap.size w w'
theorem wpList_appRowN {w : World} {ops : Array Oper} {rest : List Oper} {o : Oper} {a : Act} {K : Exit → Act → World → Prop} (hgd : o.guard = none) (s x : Operand)
    (ho : o.op = .call { callee := .builtin .append, args := #[s, x], argTypes := #[22, 22] })
    (base : Nat) (p : Option Addr) (c : Nat) (v : List (List Int)) (Q : Nat → Option Addr) (D : Nat → Nat) (q : Option Addr) (d n : Nat) (r : List Int) (hn : r.length = n)
    (hs : a.eval s = .slice p v.length c) {B : Nat} (hx : a.eval x = .slice (some ⟨B, 0, none⟩) 1 1) (hB : w.heap.size = B) (hown : TMat w base p c v Q D) (hr : Ints w q d r) (hsep : 0 < r.length → ∀ k, blk q = some k → blk p ≠ some k)
    (hsz : v.length ≤ 900000) (hbase : base ≤ w.heap.size)
    (h : ∀ p' c' w' u, Hid (u = v ++ [r]) → TMat w' base p' c' u (fun j => if j < v.length then Q j else q) (fun j => if j < v.length then D j else d) → w.grownBy w' (blk p) → Fresh w p p' →
      wpList Try.prog ops K rest (a.put o.dst (.slice p' u.length c')) w') :
    wpList Try.prog ops K (o :: rest) a (w.alloc (.cells #[.slice q n d] 25)) := by
  subst hn
  exact wpList_appRow hgd s x ho base p c v Q D q d r hs hx hB hown hr hsep hsz hbase h

set_option maxHeartbeats 8000000 in
set_option maxRecDepth 100000 in
theorem goodsValues_any (p : Option Addr) (c : Nat) (v : List (List Int)) (q : Option Addr) (d : Nat) (a : List Int) (w : World) (hx : Mat w p c v) (hi : Ints w q d a) :
    Calls Try.prog 40 #[.agg #[.slice p v.length c], .slice q a.length d] w (GivesV w (valsL v a) (chkA v a)) := by
  obtain ⟨W0, hW0⟩ : ∃ W0, w.alloc (.cells #[.slice p v.length c] 24) = W0 := ⟨_, rfl⟩
  have hB : Below w.heap.size w W0 := below_alloc hW0
  have bX : BoxV W0 w.heap.size [.slice p v.length c] := BoxV.new rfl hW0
  have hx := hx.below hB (Nat.le_refl _)
  have hi := hi.below hB (Nat.le_refl _)
  have x0 := bX.cell 0 _ rfl
  have HW0 := Lib.hid hW0
  clear hW0
  have hl1 := hx.length_le
  have hl2 := hi.length_le
  go_enter Try.func40, Try.ntmps40
  go_wp2_with fail
  rw [HW0.out]
  refine (goodsValid_any p c v q d a _ hx hi).mono ?_
  rintro e w1 ⟨rfl, hb1⟩
  have hx := hx.below hb1 (Nat.le_refl _)
  have hi := hi.below hb1 (Nat.le_refl _)
  have bX := bX.below hb1
  have x0 := bX.cell 0 _ rfl
  have hB := hB.trans (hb1.mono hB.size)
  by_cases hF : chkA v a = 0
  · have HL := Lib.hid (valsL_ok hF)
    have HF := Lib.hid hF
    rw [hF]
    obtain ⟨hg, ha⟩ := chkA_zero.1 hF
    have h0 : 0 < v.length := hg.1
    have h6 := hg.2.1
    obtain ⟨b, o, rfl, _, q0, d0, hc0, hi0⟩ := hx.get h0
    clear hc0 hi0
    obtain ⟨B1, hB1⟩ : ∃ B1, w1.heap.size = B1 := ⟨_, rfl⟩
    have Hg := Lib.hid hg
    have Ha := Lib.hid ha
    have HB1 := Lib.hid hB1
    have HB := Lib.hid hB
    clear hg ha hF hb1 hB hB1
    go_wp2_with fail
    go_loopw [7, 22] (fun s t wr => ∃ k : Nat, k ≤ v.length ∧ t = .int .i64 k ∧ (∃ u p' c' Q D, Hid (u = (valsG v a).take k) ∧ s = .slice p' (u : List (List Int)).length c' ∧ TMat wr B1 p' c' u Q D) ∧ Below B1 w1 wr) (fun _ t _ => v.length - (intOf t).toNat)
    case atStart => exact ⟨0, Nat.zero_le _, rfl, ⟨[], none, 0, fun _ => none, fun _ => 0, rfl, rfl, TMat.ofNil _ _⟩, Below.refl _ _⟩
    case round =>
      obtain ⟨k, hk, rfl, ⟨u, p', c', Q, D, hu, rfl, hT⟩, hbr⟩ := hrel
      have x0 := (bX.below (by rw [HB1.out]; exact hbr)).cell 0 _ rfl
      by_cases hlt : k < v.length
      · have hk1 : (k : Int) < v.length := by omega
        obtain ⟨qk, dk, hc, hik⟩ := (hx.below hbr (Nat.le_of_eq HB1.out)).at hlt
        have hir := hi.below hbr (Nat.le_of_eq HB1.out)
        obtain ⟨B2, hB2⟩ : ∃ B2, wr.heap.size = B2 := ⟨_, rfl⟩
        have hszo : B1 ≤ B2 := by have := hbr.size; have := HB1.out; omega
        have HB2 := Lib.hid hB2
        have hx0 : w.heap.size < B2 := by have := bX.lt; have := HB1.out; omega
        have hkl := Lib.hid ((Hg.out.2.2.2 k hlt).1.trans Ha.out.1.symm)
        clear hB2
        go_wp2_with (at_make; refine wpList_mk rfl (.tmp 28) (.tmp 28) rfl B2 v.length rfl rfl (by omega) (Nat.le_of_eq HB2.out.symm) ?_; intro w2 hO2 hg2 hs2)
        have hb2 : Below B2 wr w2 := Below.grown (Below.refl B2 wr) hg2 (Nat.le_of_eq HB2.out.symm) (fun k e => (by cases e))
        have hik2 := hik.below hb2 (Nat.le_of_eq HB2.out)
        have hir2 := hir.below hb2 (Nat.le_of_eq HB2.out)
        rw [HB2.out] at hO2 ⊢
        go_loopw [32] (fun t wj => ∃ m : Nat, m ≤ a.length ∧ t = .int .i64 m ∧ Own wj B2 (some ⟨B2, 0, none⟩) v.length (rowUp v a k m) ∧ Below B2 wr wj) (fun t _ => a.length - (intOf t).toNat)
        case atStart => exact ⟨0, Nat.zero_le _, rfl, by rw [rowUp_zero]; exact hO2, hb2⟩
        case round =>
          obtain ⟨m, hm, rfl, hO, hbj⟩ := hrel
          by_cases hml : m < a.length
          · have hm1 : (m : Int) < a.length := by omega
            have hm2 : (m : Int) < (rget v k).length := by have := hkl.out; omega
            obtain ⟨b2, o2, rfl, _, hc2⟩ := (hir.below hbj (Nat.le_of_eq HB2.out)).get hml
            obtain ⟨b3, o3, rfl, _, hc3⟩ := (hik.below hbj (Nat.le_of_eq HB2.out)).get (j := m) (by omega)
            have hr2 := (Hg.out.2.2.2 k hlt).2 m (by omega)
            have hal := Ha.out.2 m hml
            by_cases hneg : iget a m < 0
            · have hd : decide (0 ≤ iget a m) = false := by simpa using hneg
              have Hst := Lib.hid (rowUp_none (v := v) (i := k) hneg)
              have HO := Lib.hid hO
              clear hneg hO
              go_wp2_with fail
              go_roundw
              case rel => exact ⟨m + 1, by omega, by go_num, by rw [Hst.out]; exact HO.out, hbj⟩
              case measure => simp [intOf]; omega
            · have hd : decide (0 ≤ iget a m) = true := by simpa using hneg
              obtain ⟨x, hxx⟩ : ∃ x : Nat, iget a m = (x : Int) := ⟨(iget a m).toNat, by omega⟩
              have hxl : x < v.length := by omega
              have hx1 : (x : Int) < v.length := by omega
              have Hst := Lib.hid (rowUp_set (v := v) (i := k) hxx hxl)
              have hc4 := hO.at (j := x) (by rw [rowUp_len]; exact hxl)
              have hr1 := worthUp_in Hg.out hlt (x : Int) m (by have := Ha.out.1; omega) (a := a)
              rw [← rowUp_get hxl] at hr1
              have hfz := hO.free x
              rw [hxx] at hc2 hd
              have hmm : m ≤ 10 := by have := Ha.out.1; have := Hg.out.2.2.1; omega
              obtain ⟨y1, e1⟩ : ∃ y, iget (rowUp v a k m) x = y := ⟨_, rfl⟩
              obtain ⟨y2, e2⟩ : ∃ y, iget (rget v k) m = y := ⟨_, rfl⟩
              rw [e1] at hc4 hr1 Hst
              rw [e2] at hc3 hr2 Hst
              clear e1 e2 hxx hal hneg
              have hin : in64 (y1 + y2) := ⟨by omega, by omega⟩
              have HO := Lib.hid hO
              clear hO
              go_wp2_with fail
              go_still_tail 10, (by kernel_rfl)
              go_wp2_with fail
              go_roundw
              case rel => exact ⟨m + 1, by omega, by go_num, by rw [Hst.out]; exact (HO.out.set x hin).1.drew1, (hbj.setCell (p := ⟨B2, x, none⟩) (Nat.le_refl _) _).drew⟩
              case measure => simp [intOf]; omega
          · have hm1 : ¬ (m : Int) < a.length := by omega
            obtain rfl : m = a.length := by omega
            have hw2 : rowUp v a k a.length = worthRow v a k := rfl
            rw [hw2] at hO
            have hul : u.length ≤ 900000 := by rw [hu.out, List.length_take, valsG_len]; omega
            have hszj := hbj.size
            rw [HB2.out] at hszj
            have hT2 := hT.below hbj (Nat.le_of_eq HB2.out)
            have hsep : 0 < (worthRow v a k).length → ∀ k', blk (some ⟨B2, 0, none⟩) = some k' → blk p' ≠ some k' := fun _ k' e1 e2 => by
              have h1 := (hT.lt k' e2).2
              have h2 := HB2.out
              simp [blk] at e1
              omega
            have Hsep := Lib.hid hsep
            clear hsep
            go_wp2_with (at_builtin; refine wpList_appRowN rfl (.tmp 50) (.tmp 52) rfl B1 _ _ u Q D (some ⟨B2, 0, none⟩) v.length v.length (worthRow v a k) (worthRow_len v a k) rfl rfl rfl hT2 hO.ints Hsep.out hul (by omega) ?_; intro p3 c3 w3 u3 hu3 hT3 hg3 hf3)
            go_roundw
            case rel => exact ⟨k + 1, by omega, by go_num, ⟨u3, _, _, _, _, by unfold Hid; rw [hu3.out, hu.out, valsG_take hlt], rfl, hT3⟩, (hbr.trans (hbj.mono hszo)).grown hg3 (by omega) (fun k' e => (hT2.lt k' e).1)⟩
            case measure => simp [intOf]; omega
      · have hk1 : ¬ (k : Int) < v.length := by omega
        obtain rfl : k = v.length := by omega
        have hul : u = valsG v a := by rw [hu.out, List.take_of_length_le (by rw [valsG_len]; exact Nat.le_refl _)]
        subst hul
        go_wp2_with fail
        go_ret2
        rw [HL.out, HF.out]
        exact ⟨_, _, rfl, hT.mat, HB.out.trans (hbr.mono (by have := HB.out.size; have := HB1.out; omega))⟩
  · have HL := Lib.hid (valsL_err hF)
    have hz : (chkA v a != 0) = true := by rw [bne_iff_ne]; exact hF
    clear hF
    go_wp2_with fail
    go_ret2
    rw [HL.out]
    exact ⟨none, 0, rfl, Mat.ofNil _, hB⟩

set_option maxHeartbeats 4000000 in
theorem worth_any (p : Option Addr) (c : Nat) (v : List (List Int)) (q : Option Addr) (d : Nat) (a : List Int) (i : Nat) (x : Int) (w : World) (hx : Mat w p c v) (hi : Ints w q d a) (hg : Gds v) (ha : AlcOk v a) (hiv : i < v.length) :
    Calls Try.prog 42 #[.agg #[.slice p v.length c], .slice q a.length d, .int .i64 i, .int .i64 x] w fun e w' => e = .returned (.int .i64 (worth v a i x)) ∧ Below w.heap.size w w' := by
  obtain ⟨W0, hW0⟩ : ∃ W0, w.alloc (.cells #[.slice p v.length c] 24) = W0 := ⟨_, rfl⟩
  have hB : Below w.heap.size w W0 := below_alloc hW0
  have bX : BoxV W0 w.heap.size [.slice p v.length c] := BoxV.new rfl hW0
  have hx := hx.below hB (Nat.le_refl _)
  have hi := hi.below hB (Nat.le_refl _)
  have x0 := bX.cell 0 _ rfl
  have HW0 := Lib.hid hW0
  clear hW0
  have hl1 := hx.length_le
  have hl2 := hi.length_le
  have h10 : a.length ≤ 10 := by have := ha.1; have := hg.2.2.1; omega
  have hrl := Lib.hid ((hg.2.2.2 i hiv).1.trans ha.1.symm)
  obtain ⟨b, o, rfl, _, q0, d0, hc0, hi0⟩ := hx.get hiv
  have hi1 : (i : Int) < v.length := by omega
  have Hg := Lib.hid hg
  have Ha := Lib.hid ha
  clear hg ha
  go_enter Try.func42, Try.ntmps42
  go_wp2_with fail
  rw [HW0.out]
  go_loop [9, 10] (fun s t => ∃ k : Nat, k ≤ a.length ∧ t = .int .i64 k ∧ s = .int .i64 (worthUp v a i x k)) (fun _ t => a.length - (intOf t).toNat)
  case atStart => exact ⟨0, Nat.zero_le _, rfl, rfl⟩
  case round =>
    obtain ⟨k, hk, rfl, rfl⟩ := hrel
    by_cases hlt : k < a.length
    · have hk1 : (k : Int) < a.length := by omega
      obtain ⟨b2, o2, rfl, _, hc2⟩ := hi.get hlt
      obtain ⟨b3, o3, rfl, _, hc3⟩ := hi0.get (j := k) (by have := hrl.out; omega)
      have hk2 : (k : Int) < (rget v i).length := by have := hrl.out; omega
      have hr1 := worthUp_in Hg.out hiv x k (by have := Ha.out.1; omega) (a := a)
      have hr2 := (Hg.out.2.2.2 i hiv).2 k (by omega)
      by_cases he : iget a k = x
      · have hb : (iget a k == x) = true := by simpa using he
        have Hst := Lib.hid (worthUp_eq (v := v) (i := i) he)
        clear he
        generalize worthUp v a i x k = y at *
        go_wp2_with fail
        go_round
        case rel => exact ⟨k + 1, by omega, by go_num, by rw [Hst.out]⟩
        case measure => simp [intOf]; omega
      · have hb : (iget a k == x) = false := by simpa using he
        have Hst := Lib.hid (worthUp_ne (v := v) (i := i) he)
        clear he
        go_wp2_with fail
        go_round
        case rel => exact ⟨k + 1, by omega, by go_num, by rw [Hst.out]⟩
        case measure => simp [intOf]; omega
    · have hk1 : ¬ (k : Int) < a.length := by omega
      obtain rfl : k = a.length := by omega
      go_wp2_with fail
      go_ret
      exact ⟨rfl, hB⟩
end Go.Proofs.Ytiohehofnlmenaa

/- The walk of the reference's Favourite, for valid chores and allocations. -/
namespace Go.Proofs.Ytiohehofnlmenaa
set_option linter.unusedVariables false
set_option linter.unusedSimpArgs false
open Go.ChangeShapes Go.WideShapes Go.ChangeAt Go.RowKit Go.Deep

def allP (_ : Nat) : Bool := true
/-- Whose bundle is best for i, the first of several. -/
def favI (v : List (List Int)) (a : List Int) (i : Nat) : Int := leastTo (worthRow v a i) allP v.length
theorem leastTo_one {xs : List Int} : leastTo xs allP 1 = 0 := by simp [leastTo, allP]
theorem leastTo_nonneg {xs : List Int} : ∀ k, 1 ≤ k → 0 ≤ leastTo xs allP k
  | k + 1, _ => by
    by_cases h : k = 0
    · subst h; rw [leastTo_one]; omega
    · have := leastTo_nonneg (xs := xs) k (by omega)
      rw [leastTo]; split <;> omega
theorem leastTo_step {xs : List Int} {k m : Nat} (hm : leastTo xs allP k = (m : Int)) : leastTo xs allP (k + 1) = if iget xs k < iget xs m then (k : Int) else (m : Int) := by
  rw [leastTo, hm, Int.toNat_natCast]
  by_cases h : iget xs k < iget xs m
  · rw [if_pos ⟨rfl, .inr h⟩, if_pos h]
  · rw [if_neg (by rintro ⟨_, h1 | h1⟩; omega; exact h h1), if_neg h]

set_option maxHeartbeats 4000000 in
set_option maxRecDepth 100000 in
theorem favourite_any (p : Option Addr) (c : Nat) (v : List (List Int)) (q : Option Addr) (d : Nat) (a : List Int) (i : Nat) (w : World) (hx : Mat w p c v) (hi : Ints w q d a) (hg : Gds v) (ha : AlcOk v a) (hiv : i < v.length) :
    Calls Try.prog 65 #[.agg #[.slice p v.length c], .slice q a.length d, .int .i64 i] w fun e w' => e = .returned (.int .i64 (favI v a i)) ∧ Below w.heap.size w w' := by
  obtain ⟨W0, hW0⟩ : ∃ W0, w.alloc (.cells #[.slice p v.length c] 24) = W0 := ⟨_, rfl⟩
  have hB : Below w.heap.size w W0 := below_alloc hW0
  have bX : BoxV W0 w.heap.size [.slice p v.length c] := BoxV.new rfl hW0
  have hx := hx.below hB (Nat.le_refl _)
  have hi := hi.below hB (Nat.le_refl _)
  have x0 := bX.cell 0 _ rfl
  have HW0 := Lib.hid hW0
  clear hW0
  have hl1 := hx.length_le
  have hl2 := hi.length_le
  have hn1 := hg.1
  have CW := Lib.hid (fun (y : Int) W hX hI => worth_any p c v q d a i y W hX hI hg ha hiv)
  have Hrow := Lib.hid (fun k (h : k < v.length) => (worthRow_get (v := v) (a := a) (i := i) h))
  have H1 := Lib.hid (leastTo_one (xs := worthRow v a i))
  have Hst := Lib.hid (fun k m h => leastTo_step (xs := worthRow v a i) (k := k) (m := m) h)
  have Hnn := Lib.hid (fun k h => leastTo_nonneg (xs := worthRow v a i) k h)
  have Hrg := Lib.hid (fun k => leastTo_range (worthRow v a i) allP k)
  have HF : Hid (favI v a i = leastTo (worthRow v a i) allP v.length) := rfl
  clear hg ha
  go_enter Try.func65, Try.ntmps65
  go_wp2_with fail
  rw [HW0.out]
  go_loopw [7, 8] (fun s t wr => ∃ k : Nat, 1 ≤ k ∧ k ≤ v.length ∧ t = .int .i64 k ∧ s = .int .i64 (leastTo (worthRow v a i) allP k) ∧ Below W0.heap.size W0 wr) (fun _ t _ => v.length - (intOf t).toNat)
  case atStart => exact ⟨1, Nat.le_refl _, hn1, rfl, by rw [H1.out], Below.refl _ _⟩
  case round =>
    clear x0
    obtain ⟨k, hk0, hk, rfl, rfl, hbr⟩ := hrel
    have bXr := bX.below hbr
    have x0 := bXr.cell 0 _ rfl
    by_cases hlt : k < v.length
    · have hk1 : (k : Int) < v.length := by omega
      have hxr := hx.below hbr (Nat.le_refl _)
      have hir := hi.below hbr (Nat.le_refl _)
      obtain ⟨m, em⟩ : ∃ m : Nat, leastTo (worthRow v a i) allP k = m := ⟨(leastTo (worthRow v a i) allP k).toNat, by have := Hnn.out k hk0; omega⟩
      have hmv : m < v.length := by have := (Hrg.out k).2; omega
      have hS := Hst.out k m em
      rw [Hrow.out k hlt, Hrow.out m hmv] at hS
      rw [em]
      have C1 := Lib.hid (fun W (h : Below wr.heap.size wr W) => CW.out (k : Int) W (hxr.below h (Nat.le_refl _)) (hir.below h (Nat.le_refl _)))
      have C2 := Lib.hid (fun W (h : Below wr.heap.size wr W) => CW.out (m : Int) W (hxr.below h (Nat.le_refl _)) (hir.below h (Nat.le_refl _)))
      have HS := Lib.hid hS
      have hlX := bXr.lt
      have Hmk : Hid (∀ W, Below wr.heap.size wr W → (W.cell? ⟨w.heap.size, 0, none⟩ = some (Value.slice p v.length c) ∧ Below wr.heap.size wr W)) := fun W hG => ⟨(hG.cell (p := ⟨w.heap.size, 0, none⟩) hlX).trans x0, hG⟩
      obtain ⟨Y, eY⟩ : ∃ y, worth v a i (k : Int) = y := ⟨_, rfl⟩
      obtain ⟨Z, eZ⟩ : ∃ y, worth v a i (m : Int) = y := ⟨_, rfl⟩
      rw [eY] at C1 HS
      rw [eZ] at C2 HS
      clear hS em eY eZ hxr hir
      cases hd : decide (Y < Z) with
      | true =>
        have HR : Hid (leastTo (worthRow v a i) allP (k + 1) = k) := by unfold Hid; rw [HS.out, if_pos (of_decide_eq_true hd)]
        go_wp2_with fail
        go_region_held3 (fun W => W.cell? ⟨w.heap.size, 0, none⟩ = some (Value.slice p v.length c) ∧ Below wr.heap.size wr W)
          (first | assumption | exact Hmk.out _ hG | exact Hmk.out _ (below_drewN wr.heap.size wr 1) | exact Hmk.out _ (Below.refl _ _))
          (first
            | (go_at_call_of 42 (Value.int .i64 (k : Int)); refine (C1.out _ (by go_split_ands; assumption)).mono ?_; rintro e wC ⟨rfl, hbC⟩; have hG : Below wr.heap.size wr wC := Below.trans (by go_split_ands; assumption) (hbC.mono (Below.size (B := wr.heap.size) (w := wr) (by go_split_ands; assumption))))
            | (go_at_call_of 42 (Value.int .i64 (m : Int)); refine (C2.out _ (by go_split_ands; assumption)).mono ?_; rintro e wC ⟨rfl, hbC⟩; have hG : Below wr.heap.size wr wC := Below.trans (by go_split_ands; assumption) (hbC.mono (Below.size (B := wr.heap.size) (w := wr) (by go_split_ands; assumption)))))
        go_wp2_with fail
        go_roundw
        case rel => exact ⟨k + 1, by omega, by omega, by go_num, by rw [HR.out], hbr.trans (hG.mono hbr.size)⟩
        case measure => (simp [intOf] <;> omega)
      | false =>
        have HR : Hid (leastTo (worthRow v a i) allP (k + 1) = m) := by unfold Hid; rw [HS.out, if_neg (of_decide_eq_false hd)]
        go_wp2_with fail
        go_region_held3 (fun W => W.cell? ⟨w.heap.size, 0, none⟩ = some (Value.slice p v.length c) ∧ Below wr.heap.size wr W)
          (first | assumption | exact Hmk.out _ hG | exact Hmk.out _ (below_drewN wr.heap.size wr 1) | exact Hmk.out _ (Below.refl _ _))
          (first
            | (go_at_call_of 42 (Value.int .i64 (k : Int)); refine (C1.out _ (by go_split_ands; assumption)).mono ?_; rintro e wC ⟨rfl, hbC⟩; have hG : Below wr.heap.size wr wC := Below.trans (by go_split_ands; assumption) (hbC.mono (Below.size (B := wr.heap.size) (w := wr) (by go_split_ands; assumption))))
            | (go_at_call_of 42 (Value.int .i64 (m : Int)); refine (C2.out _ (by go_split_ands; assumption)).mono ?_; rintro e wC ⟨rfl, hbC⟩; have hG : Below wr.heap.size wr wC := Below.trans (by go_split_ands; assumption) (hbC.mono (Below.size (B := wr.heap.size) (w := wr) (by go_split_ands; assumption)))))
        go_wp2_with fail
        go_roundw
        case rel => exact ⟨k + 1, by omega, by omega, by go_num, by rw [HR.out], hbr.trans (hG.mono hbr.size)⟩
        case measure => (simp [intOf] <;> omega)
    · have hk1 : ¬ (k : Int) < v.length := by omega
      obtain rfl : k = v.length := by omega
      go_wp2_with fail
      go_ret
      exact ⟨ret_int HF.out.symm, hB.trans (hbr.mono hB.size)⟩
end Go.Proofs.Ytiohehofnlmenaa

/- The walk of slices.Min at a list that is not empty. -/
namespace Go.Proofs.Ytiohehofnlmenaa
set_option linter.unusedVariables false
set_option linter.unusedSimpArgs false
open Go.ChangeShapes Go.WideShapes Go.ChangeAt Go.RowKit Go.Deep

def lowTo (xs : List Int) : Nat → Int
  | 0 => iget xs 0
  | k + 1 => min (lowTo xs k) (iget xs k)
theorem lowTo_one (xs : List Int) : lowTo xs 1 = iget xs 0 := by simp [lowTo]
theorem lowTo_le (xs : List Int) : ∀ k j, j < k → lowTo xs k ≤ iget xs j
  | k + 1, j, h => by
    rw [lowTo]
    by_cases e : j = k
    · subst e; omega
    · have := lowTo_le xs k j (by omega); omega
theorem lowTo_mem (xs : List Int) : ∀ k, 1 ≤ k → ∃ j, j < k ∧ lowTo xs k = iget xs j
  | k + 1, _ => by
    by_cases h0 : k = 0
    · subst h0; exact ⟨0, by omega, lowTo_one xs⟩
    · obtain ⟨j, hj, he⟩ := lowTo_mem xs k (by omega)
      rw [lowTo]
      by_cases h : lowTo xs k ≤ iget xs k
      · exact ⟨j, by omega, by omega⟩
      · exact ⟨k, by omega, by omega⟩
set_option maxHeartbeats 800000 in
theorem sMin_any (p : Option Addr) (c : Nat) (xs : List Int) (w : World) (hx : Ints w p c xs) (h0 : 0 < xs.length) :
    Calls Try.prog 63 #[.slice p xs.length c] w fun e w' => e = .returned (.int .i64 (lowTo xs xs.length)) ∧ w' = w := by
  have hl1 := hx.length_le
  obtain ⟨b, o, rfl, _, hc0⟩ := hx.get h0
  rw [Nat.add_zero] at hc0
  have hd : decide ((xs.length : Int) < 1) = false := by rw [decide_eq_false_iff_not]; omega
  have h01 : (0 : Int) < xs.length := by omega
  have H1 := Lib.hid (lowTo_one xs)
  go_enter Try.func63, Try.ntmps63
  go_wp2_with fail
  go_loop [3, 4] (fun s t => ∃ k : Nat, 1 ≤ k ∧ k ≤ xs.length ∧ t = .int .i64 k ∧ s = .int .i64 (lowTo xs k)) (fun _ t => xs.length - (intOf t).toNat)
  case atStart => exact ⟨1, Nat.le_refl _, h0, rfl, by rw [H1.out]⟩
  case round =>
    obtain ⟨k, hk0, hk, rfl, rfl⟩ := hrel
    by_cases hlt : k < xs.length
    · have hk1 : (k : Int) < xs.length := by omega
      have hc := hx.at hlt
      have HS : Hid (lowTo xs (k + 1) = min (lowTo xs k) (iget xs k)) := rfl
      generalize lowTo xs k = y at *
      generalize iget xs k = z at *
      by_cases hyz : y ≤ z
      · have hm : min y z = y := by omega
        rw [hm] at HS
        go_wp2_with fail
        go_round
        case rel => exact ⟨k + 1, by omega, by omega, by go_num, by rw [HS.out] <;> first | rfl | (congr 1; omega)⟩
        case measure => (simp [intOf] <;> omega)
      · have hm : min y z = z := by omega
        rw [hm] at HS
        go_wp2_with fail
        go_round
        case rel => exact ⟨k + 1, by omega, by omega, by go_num, by rw [HS.out] <;> first | rfl | (congr 1; omega)⟩
        case measure => (simp [intOf] <;> omega)
    · have hk1 : ¬ (k : Int) < xs.length := by omega
      obtain rfl : k = xs.length := by omega
      go_wp2_with fail
      go_ret
      exact ⟨rfl, rfl⟩
end Go.Proofs.Ytiohehofnlmenaa
