/- slices.Chunk over a list of ints: the rounds that it gives; no condition but that n is 1 or more. -/
import Derived.Test.YtfagapcihacgkaaIdx
import Derived.RangeFuncFrom
import Derived.RangeFuncBox
import Derived.RangeFuncLeaves
import Derived.OwnWalkIn
import Derived.TacticsInMore
import Derived.LoopNIn
import Derived.LoopIn
import Derived.Sort.QuietIn
import Derived.Maps.RangeWalk
import Derived.Shelf.Abstract
namespace Go.Proofs.Ytfagapcihacgkaa
set_option linter.unusedSimpArgs false
open Go.ChangeShapes Go.WideShapes Go.ChangeAt Go.RowKit Go.Deep
set_option linter.unusedVariables false
attribute [local go_sem] Oper.semAt_some

/-- Where round k begins. -/
def cst (n k : Nat) : Nat := k * n
theorem cst_zero (n : Nat) : cst n 0 = 0 := by simp [cst]
theorem cst_succ (n k : Nat) : cst n (k + 1) = cst n k + n := by simp [cst, Nat.succ_mul]
theorem cst_le {n k L : Nat} (hn : 1 ≤ n) (h : cst n k < L) : k < L := by
  unfold cst at h
  exact Nat.lt_of_le_of_lt (Nat.le_mul_of_pos_right k hn) h
/-- Round k of a list. -/
def ck (ts : List Int) (n k : Nat) : List Int := (ts.drop (cst n k)).take n
theorem ck_len (ts : List Int) (n k : Nat) : (ck ts n k).length = min n (ts.length - cst n k) := by simp [ck]
theorem ck_get {ts : List Int} {n k j : Nat} (hj : j < (ck ts n k).length) : iget (ck ts n k) j = iget ts (cst n k + j) := by
  rw [ck_len] at hj
  simp only [ck, iget, List.getD]
  rw [List.getElem?_take, if_pos (by omega), List.getElem?_drop]
/-- A part of a list that lies in memory. -/
theorem Ints.part {w : World} {b o c : Nat} {xs : List Int} (h : Ints w (some ⟨b, o, none⟩) c xs) (i e : Nat) (hi : i < xs.length) (ys : List Int) (hl : ys.length ≤ e) (he : i + e ≤ c) (h2 : i + ys.length ≤ xs.length) (hy : ∀ j, j < ys.length → iget ys j = iget xs (i + j)) :
    Ints w (some ⟨b, o + i, none⟩) e ys := by
  refine ⟨hl, by have := h.max; omega, fun h => (by cases h), ?_, ?_, ?_⟩
  · rintro a ⟨⟩ _
    exact ⟨rfl, (h.plain _ rfl (by have := h.le; omega)).2⟩
  · rintro b' o' ⟨⟩ j hj
    rw [hy j hj, Nat.add_assoc]
    exact h.at (by omega)
  · intro j hj
    rw [hy j hj]; exact h.rng _ (by omega)

/-- How a round's slice lies. -/
def ckV (b o n L k : Nat) : Value := .slice (some ⟨b, o + cst n k, none⟩) (min n (L - cst n k)) (min n (L - cst n k))
def AllCk (n L : Nat) (ys : List Nat) : Prop := ∃ k, ys = List.range k ∧ L ≤ cst n k ∧ ∀ j, j < k → cst n j < L

set_option maxRecDepth 100000 in
set_option maxHeartbeats 4000000 in
theorem chunk1_in (n : Nat) (hn : 1 ≤ n) (l Bs Bn n₀ b o cap m L : Nat) (p : Option Addr) (hp : 0 < L → p = some ⟨b, o, none⟩) (hm1 : 1 ≤ m) (hm2 : m ≤ 1000) (hL : L ≤ 1000000) (hcap : L ≤ cap) (hcap2 : cap ≤ 9223372036854775807) (J Jx : List Nat → World → Prop) (hJd : ∀ s A n, J s A → J s (A.drewN n))
    (hY : ∀ pre x W, J pre W → pre.length < L → YieldAt Fence.wide (n - 1) Try.prog l #[ckV b o m L x] W fun e W' =>
      (e = .returned (.bool true) ∧ J (pre ++ [x]) W' ∧ Below n₀ W W') ∨ (e = .returned (.bool false) ∧ Jx (pre ++ [x]) W'))
    (W : World) (hBs : W.cell? ⟨Bs, 0, none⟩ = some (.slice p L cap)) (hBn : W.cell? ⟨Bn, 0, none⟩ = some (.int .i64 m)) (hs0 : Bs < n₀) (hn0 : Bn < n₀) (h0 : J [] W) :
    CallsIn Fence.wide n Try.prog 49 #[.func (.yield l) #[] #[], .pointer (some ⟨Bs, 0, none⟩), .pointer (some ⟨Bn, 0, none⟩)] W fun e W' => (∃ v, e = .returned v) ∧
      ((∃ ys, AllCk m L ys ∧ J ys W') ∨ (∃ pre, (∃ k, pre = List.range k) ∧ Jx pre W')) := by
  have Hp := Lib.hid hp
  clear hp
  refine callsIn_of_wp Try.func49 rfl trivial ?_ rfl
  simp only [Try.ntmps49, List.size_toArray, List.length_cons, List.length_nil, Nat.reduceAdd, Nat.reduceSub, Array.replicate_succ, Array.replicate_zero, List.push_toArray, List.append_toArray, List.nil_append, List.cons_append]
  gi_wp2
  gi_loopw [4] (fun i wr => ∃ k : Nat, i = .int .i64 (cst m k : Nat) ∧ Hid (∀ j, j < k → cst m j < L) ∧ J (List.range k) wr ∧ Below n₀ W wr)
    (fun i _ => L - (intOf i).toNat)
  case atStart => exact ⟨0, by rw [cst_zero]; rfl, fun j hj => by omega, h0, Below.refl _ _⟩
  case round =>
    obtain ⟨k, rfl, hjs, hJs, hnx⟩ := hrel
    have hcs : wr.cell? ⟨Bs, 0, none⟩ = some (.slice p L cap) := (hnx.cell (p := ⟨Bs, 0, none⟩) hs0).trans hBs
    have hcn : wr.cell? ⟨Bn, 0, none⟩ = some (.int .i64 m) := (hnx.cell (p := ⟨Bn, 0, none⟩) hn0).trans hBn
    by_cases hlt : cst m k < L
    · obtain rfl := Hp.out (by omega)
      have hlti : ((cst m k : Nat) : Int) < L := by omega
      have hkL := cst_le hm1 hlt
      have Hnext := Lib.hid (cst_succ m k)
      have hV : Hid (ckV b o m L k = .slice (some ⟨b, o + cst m k, none⟩) (min m (L - cst m k)) (min m (L - cst m k))) := rfl
      obtain ⟨i, hi⟩ : ∃ i, cst m k = i := ⟨_, rfl⟩
      have Hi := Lib.hid hi
      rw [hi] at hlt hlti hV Hnext ⊢
      clear hi
      have hi0 : (0 : Int) ≤ i := by omega
      have hi1 : (i : Int) ≤ L := by omega
      have hne : ¬ cap = i := by omega
      have hJ' := Lib.hid (fun nq => hY _ k (wr.drewN nq) (hJd _ _ nq hJs) (by rw [List.length_range]; exact hkL))
      obtain ⟨E, hE⟩ : ∃ E, min m (L - i) = E := ⟨_, rfl⟩
      have he : ((i : Int) + (E : Int)).toNat - i = E := by omega
      have hE1 : 1 ≤ E := by omega
      have hE2 : i + E ≤ L := by omega
      have hEm : E ≤ m := by omega
      have hlast : Hid (E = m ∨ i + E = L) := show _ ∨ _ by omega
      rw [hE] at hV
      rcases Nat.lt_or_ge (L - i) m with hmin | hmin
      · have hLi : L - i = E := by omega
        have hmin2 : ¬ (m : Int) ≤ (E : Int) := by omega
        have hmin3 : (E : Int) ≤ (m : Int) := by omega
        have HLi := Lib.hid hLi
        clear hE hmin
        gi_wp2
        gi_quiet (fail)
        obtain ⟨fn, tmps, assign, body, hy, hR⟩ := hJ'.out nq
        rw [hV.out] at hy
        gi_wp2
        refine hR.mono ?_
        rintro e W3 (⟨rfl, hJ3, hk3⟩ | ⟨rfl, hJx3⟩)
        · have hcn3 : W3.cell? ⟨Bn, 0, none⟩ = some (.int .i64 m) := (hk3.cell (p := ⟨Bn, 0, none⟩) hn0).trans hcn
          gi_wp2
          go_roundw
          case rel => exact ⟨k + 1, by rw [Hnext.out]; go_num, snoc_all' hjs.out (by rw [Hi.out]; exact hlt), by rw [List.range_succ]; exact hJ3, (hnx.drewN' nq).trans hk3⟩
          case measure => simp [intOf]; omega
        · gi_wp2
          refine bodyPost_ret (results_none rfl _ _ _) rfl ?_
          exact ⟨⟨_, rfl⟩, .inr ⟨_, ⟨k + 1, by rw [List.range_succ]⟩, hJx3⟩⟩
      · obtain rfl : E = m := by omega
        have hmin2 : (E : Int) ≤ ((L - i : Nat) : Int) := by omega
        clear hE hmin
        gi_wp2
        gi_quiet (fail)
        obtain ⟨fn, tmps, assign, body, hy, hR⟩ := hJ'.out nq
        rw [hV.out] at hy
        gi_wp2
        refine hR.mono ?_
        rintro e W3 (⟨rfl, hJ3, hk3⟩ | ⟨rfl, hJx3⟩)
        · have hcn3 : W3.cell? ⟨Bn, 0, none⟩ = some (.int .i64 E) := (hk3.cell (p := ⟨Bn, 0, none⟩) hn0).trans hcn
          gi_wp2
          go_roundw
          case rel => exact ⟨k + 1, by rw [Hnext.out]; go_num, snoc_all' hjs.out (by rw [Hi.out]; exact hlt), by rw [List.range_succ]; exact hJ3, (hnx.drewN' nq).trans hk3⟩
          case measure => simp [intOf]; omega
        · gi_wp2
          refine bodyPost_ret (results_none rfl _ _ _) rfl ?_
          exact ⟨⟨_, rfl⟩, .inr ⟨_, ⟨k + 1, by rw [List.range_succ]⟩, hJx3⟩⟩
    · have hlti : ¬ ((cst m k : Nat) : Int) < L := by omega
      gi_wp2
      go_end0
      exact ⟨⟨_, rfl⟩, .inl ⟨_, ⟨k, rfl, by omega, hjs.out⟩, hJs⟩⟩
theorem chunk_stops (n : Nat) (hn : 1 ≤ n) (Bs Bn n₀ b o cap m L : Nat) (p : Option Addr) (hp : 0 < L → p = some ⟨b, o, none⟩) (hm1 : 1 ≤ m) (hm2 : m ≤ 1000) (hL : L ≤ 1000000) (hcap : L ≤ cap) (hcap2 : cap ≤ 9223372036854775807) (w : World) (hBs : Bs < w.heap.size) (hBn : Bn < w.heap.size) (hn₀ : w.heap.size = n₀)
    (hc : w.cell? ⟨Bs, 0, none⟩ = some (.slice p L cap)) (hcn : w.cell? ⟨Bn, 0, none⟩ = some (.int .i64 m)) :
    SeqStopsK Fence.wide n Try.prog 49 #[.pointer (some ⟨Bs, 0, none⟩), .pointer (some ⟨Bn, 0, none⟩)] (fun x : Nat => #[ckV b o m L x]) (Below n₀) (AllCk m L) (fun pre => ∃ k, pre = List.range k) L w := fun l J Jx W hW hJ _ hY h0 =>
  chunk1_in n hn l Bs Bn n₀ b o cap m L p hp hm1 hm2 hL hcap hcap2 J Jx (fun s A N h => hJ s A _ none h (grownBy_of_below (below_drewN A.heap.size A N) (Nat.le_refl _) none) (fun _ h => by cases h)) hY W
    ((hW.cell (p := ⟨Bs, 0, none⟩) hBs).trans hc) ((hW.cell (p := ⟨Bn, 0, none⟩) hBn).trans hcn) (by omega) (by omega) h0

set_option maxHeartbeats 1000000 in
theorem chunk_any (a : Option Addr) (len cap m : Nat) (hm : 1 ≤ m) (w : World) :
    Calls Try.prog 36 #[.slice a len cap, .int .i64 m] w fun e w' => e = .returned (.func (.func 49) #[] #[.pointer (some ⟨w.heap.size, 0, none⟩), .pointer (some ⟨w.heap.size + 1, 0, none⟩)]) ∧ w' = (w.alloc (.cells #[.slice a len cap] 25)).alloc (.cells #[.int .i64 m] 3) := by
  have h1 : ¬ (m : Int) < 1 := by omega
  go_enter Try.func36, Try.ntmps36
  go_wp2
  go_ret
  exact ⟨rfl, rfl⟩
end Go.Proofs.Ytfagapcihacgkaa
