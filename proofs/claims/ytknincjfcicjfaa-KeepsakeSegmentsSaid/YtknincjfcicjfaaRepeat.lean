/- slices.Repeat of one number: what it hands back; no condition but the size. -/
import Derived.Test.YtknincjfcicjfaaOwnMat
import Derived.Test.YtknincjfcicjfaaMul
import Derived.Laws.CopyOwn
import Derived.Deep.RegionLaw
import Derived.Deep.DeepMust
import Derived.Maps.RangeWalk
namespace Go.Proofs.Ytknincjfcicjfaa
set_option linter.unusedVariables false
set_option linter.unusedSimpArgs false
open Go.ChangeShapes Go.WideShapes Go.ChangeAt Go.RowKit Go.Deep

/-- Block g holds just these numbers. -/
def RowAt (w : World) (g : Nat) (xs : List Int) : Prop := w.heap[g]? = some (.cells (xs.map (Value.int .i64)).toArray 3 (0, 0))
theorem own_rowAt {w : World} {base g : Nat} {xs : List Int} (h : Own w base (some ⟨g, 0, none⟩) xs.length xs) : RowAt w g xs := by
  rcases h.row.2 with ⟨h1, _⟩ | ⟨g', cap, cur, h1, h2, h3, h4, h5, h6, h7⟩
  · simp at h1
  · simp only [Value.slice.injEq, Option.some.injEq, Addr.mk.injEq, and_true, true_and] at h1
    obtain ⟨rfl, rfl⟩ := h1
    unfold RowAt
    rw [h3]
    have : cur.toList = xs.map (Value.int .i64) := by
      rw [← h7, List.take_of_length_le]
      simp [h6]
    rw [← this]
theorem rowAt_own {w : World} {base g : Nat} {xs : List Int} (h : RowAt w g xs) (hb : base ≤ g) (hl : xs.length ≤ 1000000) (hr : ∀ j, j < xs.length → in64 (iget xs j)) : Own w base (some ⟨g, 0, none⟩) xs.length xs :=
  ⟨⟨by simp, .inr ⟨g, xs.length, _, rfl, hb, h, Nat.le_refl _, by simp [maxLen]; omega, by simp, by rw [List.take_of_length_le (by simp)]⟩⟩, hr⟩
theorem RowAt.cell {w : World} {g : Nat} {xs : List Int} (h : RowAt w g xs) {j : Nat} (hj : j < xs.length) : w.cell? ⟨g, j, none⟩ = some (.int .i64 (iget xs j)) := by
  unfold RowAt at h
  simp only [World.cell?, h]
  simp [hj, iget]
theorem RowAt.lt {w : World} {g : Nat} {xs : List Int} (h : RowAt w g xs) : g < w.heap.size := (Array.getElem?_eq_some_iff.1 h).1
theorem rowAt_splice {w : World} {g off : Nat} {cur cs : List Int} (h : Hid (w.heap[g]? = some (.cells (splice (cur.map (Value.int .i64)) off (cs.map (Value.int .i64))).toArray 3 (0, 0)))) : RowAt w g (splice cur off cs) := by
  have e : splice (cur.map (Value.int .i64)) off (cs.map (Value.int .i64)) = (splice cur off cs).map (Value.int .i64) := by simp [splice]
  have := h.out
  rw [e] at this
  exact this

/-- The row while it is filled. -/
def fillR (x : Int) (n k : Nat) : List Int := List.replicate k x ++ List.replicate (n - k) 0
theorem fillR_len {x : Int} {n k : Nat} (h : k ≤ n) : (fillR x n k).length = n := by simp [fillR]; omega
theorem fillR_get {x : Int} {n k j : Nat} (h : j < k) (hk : k ≤ n) : iget (fillR x n k) j = x := by
  unfold fillR
  rw [iget_append]
  simp [h, iget]
theorem fillR_step {x : Int} {n k : Nat} (hk : k ≤ n) (m : Nat) (hm : k + m ≤ n) : splice (fillR x n k) k (List.replicate m x) = fillR x n (k + m) := by
  unfold splice fillR
  rw [List.take_append_of_le_length (by simp), List.take_of_length_le (by simp)]
  rw [List.drop_append, List.drop_eq_nil_of_le (by simp), List.nil_append, List.length_replicate, List.length_replicate, List.drop_replicate, ← List.append_assoc, List.replicate_append_replicate]
  congr 2
  omega
theorem fillR_full {x : Int} {n : Nat} : fillR x n n = List.replicate n x := by simp [fillR]
theorem fillR_zero {x : Int} {n : Nat} : fillR x n 0 = List.replicate n 0 := by simp [fillR]

theorem mul1_any (n : Nat) (hn : n ≤ 1000) (w : World) : Calls Try.prog 47 #[.int .u64 1, .int .u64 n] w fun e w' => e = .returned (.tuple #[.int .u64 0, .int .u64 n]) ∧ w' = w := by
  refine (Try.bits_Mul 1 n (by omega) (by omega) w).mono ?_
  rintro e w' ⟨rfl, rfl⟩
  rw [Nat.one_mul, Nat.div_eq_of_lt (by omega), Nat.mod_eq_of_lt (by omega)]
  exact ⟨rfl, rfl⟩
theorem made_row {w w1 : World} {n : Nat} {x : Int} (hO : Own w1 w.heap.size (some ⟨w.heap.size, 0, none⟩) n (List.replicate n 0)) : RowAt w1 w.heap.size (fillR x n 0) := by
  rw [fillR_zero]
  have : Own w1 w.heap.size (some ⟨w.heap.size, 0, none⟩) (List.replicate n (0 : Int)).length (List.replicate n 0) := by simpa using hO
  exact own_rowAt this
theorem made_below {w w1 : World} (hg : w.grownBy w1 none) : Below w.heap.size w w1 := below_grown (p := none) (base := w.heap.size) (Below.refl _ _) hg (Nat.le_refl _) (fun _ h => by cases h) (Nat.le_refl _)
theorem src_one {w w1 : World} {b o : Nat} {x : Int} (hb : b < w.heap.size) (hc : w.cell? ⟨b, o, none⟩ = some (.int .i64 x)) (h : Below w.heap.size w w1) : ∀ (j : Nat) (u : Value), ([x].map (Value.int .i64))[j]? = some u → w1.cell? ((⟨b, o, none⟩ : Addr).add j) = some u := by
  intro j u hu
  have hj : j = 0 := by
    have := (List.getElem?_eq_some_iff.1 hu).1
    simpa using this
  subst hj
  simp at hu; subst hu
  rw [add_plain]
  exact (h.cell (p := ⟨b, o, none⟩) hb).trans hc
theorem fill_cs {x : Int} {n k m : Nat} {w : World} {g : Nat} (h : RowAt w g (fillR x n k)) (hk : k ≤ n) (hm : m ≤ k) : ∀ (j : Nat) (u : Value), ((List.replicate m x).map (Value.int .i64))[j]? = some u → w.cell? ((⟨g, 0, none⟩ : Addr).add j) = some u := by
  intro j u hu
  rw [List.getElem?_map, List.getElem?_replicate] at hu
  split at hu
  · rename_i hj
    simp at hu; subst hu
    rw [add_plain, Nat.zero_add, h.cell (by rw [fillR_len hk]; omega), fillR_get (by omega) hk]
  · simp at hu
set_option maxHeartbeats 4000000 in
set_option maxRecDepth 100000 in
theorem repeat1_any (p : Option Addr) (c : Nat) (x : Int) (n : Nat) (w : World) (hx : Ints w p c [x]) (hn : n ≤ 1000) (hx64 : in64 x) :
    Calls Try.prog 31 #[.slice p 1 c, .int .i64 n] w fun e w' => ∃ g c', e = .returned (.slice (some ⟨g, 0, none⟩) n c') ∧ Own w' w.heap.size (some ⟨g, 0, none⟩) c' (List.replicate n x) ∧ Below w.heap.size w w' := by
  obtain ⟨b, o, rfl, hb, hc⟩ := hx.get (j := 0) (by simp)
  have hsz : (Try.prog.info? 3).map (·.size) = some 1 := by kernel_rfl
  have hnn : ¬ (n : Int) < 0 := by omega
  have hd : decide (9223372036854775807 < (n : Int)) = false := by simp; omega
  have hrep : ∀ j, j < (List.replicate n x).length → in64 (iget (List.replicate n x) j) := fun j hj => by
    have : iget (List.replicate n x) j = x := by simp at hj; simp [iget, hj]
    rw [this]; exact hx64
  have Hrep := Lib.hid hrep
  have Hsz := Lib.hid hsz
  clear hrep hsz
  go_enter Try.func31, Try.ntmps31
  go_wp2_with fail
  refine (mul1_any n hn w).mono ?_
  rintro e w' ⟨rfl, rfl⟩
  by_cases h0 : n < 1
  · have h00 : n = 0 := by omega
    have h0' : Hid (0 = Nat.min 1 n) := by unfold Hid; rw [h00]; rfl
    have HE : Hid (List.replicate n x = []) := by unfold Hid; rw [h00]; rfl
    have hle : ¬ (0 : Int) < n := by omega
    clear h00
    go_wp2_with (first
      | (at_make; refine wpList_mk rfl (.tmp 29) (.tmp 29) rfl w'.heap.size n rfl rfl (by omega) (Nat.le_refl _) ?_; intro w1 hO hg1 hs1; have hrow := Lib.hid (made_row (x := x) hO); have hbel := made_below hg1)
      | ((with_reducible show wpList _ _ _ (⟨some 33, _, _, _, _, _⟩ :: _) _ _); go_must (refine wpList_copy_splice rfl (.tmp 31) (.tmp 32) 23 23 rfl 3 Try.underlying23 Hsz.out (some ⟨w'.heap.size, 0, none⟩) (some ⟨b, o, none⟩) n n 1 c rfl rfl w'.heap.size 0 ((fillR x n 0).map (Value.int .i64)) 3 hrow.out [] h0'.out (fun h => absurd h (by simp)) (by simp) (by simp) w'.heap.size w' hbel (Nat.le_refl _) ?_); intro w2 hw2 hb2))
    go_loopw [8] (fun t wr => t = .int .i64 0 ∧ wr = w2) (fun t _ => 0)
    case atStart => exact ⟨rfl, rfl⟩
    case round =>
      obtain ⟨rfl, rfl⟩ := hrel
      go_wp2_with fail
      go_ret
      have hr := rowAt_splice (cs := []) hw2
      have e : splice (fillR x n 0) 0 [] = List.replicate n x := by
        have : n = 0 := by omega
        subst this; rfl
      rw [e] at hr
      exact ⟨w'.heap.size, n, by rfl, by have := rowAt_own hr (Nat.le_refl _) (by simp; omega) Hrep.out; simpa using this, hb2⟩
  · have h1 : Hid (([x].map (Value.int .i64)).length = Nat.min 1 n) := by
      show 1 = min 1 n
      omega
    have hc' : w'.cell? ⟨b, o, none⟩ = some (.int .i64 x) := hc
    go_wp2_with (first
      | (at_make; refine wpList_mk rfl (.tmp 29) (.tmp 29) rfl w'.heap.size n rfl rfl (by omega) (Nat.le_refl _) ?_; intro w1 hO hg1 hs1; have hrow := Lib.hid (made_row (x := x) hO); have hbel := made_below hg1; have hsrc := Lib.hid (src_one hb hc' hbel))
      | ((with_reducible show wpList _ _ _ (⟨some 33, _, _, _, _, _⟩ :: _) _ _); go_must (refine wpList_copy_splice rfl (.tmp 31) (.tmp 32) 23 23 rfl 3 Try.underlying23 Hsz.out (some ⟨w'.heap.size, 0, none⟩) (some ⟨b, o, none⟩) n n 1 c rfl rfl w'.heap.size 0 ((fillR x n 0).map (Value.int .i64)) 3 hrow.out ([x].map (Value.int .i64)) h1.out (fun _ => ⟨rfl, _, rfl, hsrc.out⟩) (by simp [fillR_len]; omega) (by simp [Value.oneCell']) w'.heap.size w' hbel (Nat.le_refl _) ?_); intro w2 hw2 hb2))
    have hr2 : Hid (RowAt w2 w'.heap.size (fillR x n 1)) := by
      have hr := rowAt_splice (cs := [x]) hw2
      have e : splice (fillR x n 0) 0 [x] = fillR x n 1 := fillR_step (Nat.zero_le _) 1 (by omega)
      rw [e] at hr
      exact hr
    clear hw2 hrow hsrc
    go_loopw [8] (fun t wr => ∃ k : Nat, 1 ≤ k ∧ k ≤ n ∧ t = .int .i64 k ∧ Hid (RowAt wr w'.heap.size (fillR x n k)) ∧ Below w'.heap.size w' wr) (fun t _ => n - (intOf t).toNat)
    case atStart => exact ⟨1, by omega, by omega, by rfl, hr2, hb2⟩
    case round =>
      obtain ⟨k, hk1, hk, rfl, hr, hbr⟩ := hrel
      by_cases hlt : k < n
      · have hlt1 : (k : Int) < n := by omega
        obtain ⟨m, hm1, hm2, hm⟩ : ∃ m : Nat, m ≤ k ∧ k + m ≤ n ∧ (m = min k (n - k)) := ⟨min k (n - k), by omega, by omega, rfl⟩
        have Hm := Lib.hid hm
        have hmp : 0 < m := by omega
        have Hm2 : Hid (((List.replicate m x).map (Value.int .i64)).length = Nat.min k (n - k)) := by unfold Hid; rw [List.length_map, List.length_replicate, hm]
        have hrd : Hid (RowAt wr.drew w'.heap.size (fillR x n k)) := hr
        have hcs := Lib.hid (fill_cs hrd.out hk hm1)
        have hbd : Below w'.heap.size w' wr.drew := hbr.drew
        have hk0 : (0 : Int) ≤ k := by omega
        clear hm
        have hk3 : (k : Int) ≤ n := by omega
        have Hfit : Hid (k + ((List.replicate m x).map (Value.int .i64)).length ≤ ((fillR x n k).map (Value.int .i64)).length) := by
          unfold Hid; rw [List.length_map, List.length_map, List.length_replicate, fillR_len hk]; exact hm2
        have Hone : Hid (∀ v ∈ (List.replicate m x).map (Value.int .i64), v.oneCell' = true) := by unfold Hid; simp [Value.oneCell']
        go_wp2_with fail
        have hne : ¬ n = k := by omega
        have hwr : IntKind.i64.wrap ((k : Int) + (m : Int)) = (k : Int) + (m : Int) := IntWalk.i64_in _ (by omega)
        have hne2 : ¬ (n : Int) = k := by omega
        go_region_law ((refine step_copy_splice rfl (.tmp 41) (.tmp 44) 23 23 rfl 3 Try.underlying23 Hsz.out (some ⟨w'.heap.size, k, none⟩) (some ⟨w'.heap.size, 0, none⟩) (n - k) (n - k) k n (by go_simp) (by go_simp) w'.heap.size k ((fillR x n k).map (Value.int .i64)) 3 hrd.out ((List.replicate m x).map (Value.int .i64)) Hm2.out (fun _ => ⟨rfl, _, rfl, hcs.out⟩) Hfit.out Hone.out w'.heap.size w' hbd (Nat.le_refl _) ?_; intro w4 hw4 hb4))
        go_simp
        go_wp2_with fail
        have hr4 : RowAt w4 w'.heap.size (fillR x n (k + m)) := by
          have hr := rowAt_splice hw4
          rwa [fillR_step hk m hm2] at hr
        go_roundw
        case rel => exact ⟨k + m, by omega, hm2, by go_num, hr4, hb4⟩
        case measure => simp [intOf]; omega
      · have hlt1 : ¬ (k : Int) < n := by omega
        obtain rfl : k = n := by omega
        go_wp2_with fail
        go_ret
        have hr := hr.out
        rw [fillR_full] at hr
        exact ⟨w'.heap.size, k, by rfl, by have := rowAt_own hr (Nat.le_refl _) (by simp; omega) Hrep.out; simpa using this, hbr⟩
end Go.Proofs.Ytknincjfcicjfaa
