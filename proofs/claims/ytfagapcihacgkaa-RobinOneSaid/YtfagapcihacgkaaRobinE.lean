/- The iterator of rounds of turns (robin.turns): what it gives until it is stopped; no condition but sizes. -/
import Derived.Test.YtfagapcihacgkaaEnds
import Derived.Test.YtfagapcihacgkaaChunk
namespace Go.Proofs.Ytfagapcihacgkaa
set_option linter.unusedSimpArgs false
open Go.ChangeShapes Go.WideShapes Go.ChangeAt Go.RowKit Go.Deep
set_option linter.unusedVariables false
attribute [local go_sem] Oper.semAt_some

/-- Turn t of rounds of a first round (b: each second one the other way round). -/
def seqI (f : List Int) (b : Bool) (t : Nat) : Int := iget f (if b = true ∧ (t / f.length) % 2 = 1 then f.length - 1 - t % f.length else t % f.length)
def seqL (f : List Int) (b : Bool) (m : Nat) : List Int := (List.range m).map (seqI f b)
theorem seqL_len (f : List Int) (b : Bool) (m : Nat) : (seqL f b m).length = m := by simp [seqL]
theorem seqL_succ (f : List Int) (b : Bool) (m : Nat) : seqL f b (m + 1) = seqL f b m ++ [seqI f b m] := by simp [seqL, List.range_succ]
theorem seq_at {f : List Int} {b : Bool} {r k : Nat} (hk : k < f.length) : seqI f b (cst f.length r + k) = iget f (if b = true ∧ r % 2 = 1 then f.length - 1 - k else k) := by
  unfold seqI cst
  have e1 : (r * f.length + k) / f.length = r := by rw [Nat.add_comm, Nat.add_mul_div_right _ _ (by omega), Nat.div_eq_of_lt hk, Nat.zero_add]
  have e2 : (r * f.length + k) % f.length = k := by rw [Nat.add_comm, Nat.add_mul_mod_self_right, Nat.mod_eq_of_lt hk]
  rw [e1, e2]

set_option maxRecDepth 100000 in
set_option maxHeartbeats 8000000 in
theorem turns1_ends (n : Nat) (hn : 1 ≤ n) (Bs Bb O n₀ : Nat) (p : Option Addr) (hOs : O < Bs) (hOb : O < Bb) (hbO : ∀ b o, p = some ⟨b, o, none⟩ → b < O) (c : Nat) (f : List Int) (b : Bool) (N : Nat) (hL1 : 1 ≤ f.length) (hL : f.length ≤ 1000) (hN : N ≤ 1000) (w : World) (hBs : Bs < w.heap.size) (hBb : Bb < w.heap.size) (hn₀ : w.heap.size = n₀)
    (hc : w.cell? ⟨Bs, 0, none⟩ = some (.slice p f.length c)) (hcb : w.cell? ⟨Bb, 0, none⟩ = some (.bool b)) (hI : Ints w p c f) :
    SeqEnds n 62 #[.pointer (some ⟨Bs, 0, none⟩), .pointer (some ⟨Bb, 0, none⟩)] (fun x : Int => #[.int .i64 x]) (Keeps O n₀) (fun pre => pre = seqL f b pre.length) N w := by
  intro l J Jx W hW _ _ hJN hY h0
  have hI0 := hI.below hW (Nat.le_refl _)
  have hc0 := (hW.cell (p := ⟨Bs, 0, none⟩) hBs).trans hc
  have hb0 := (hW.cell (p := ⟨Bb, 0, none⟩) hBb).trans hcb
  have hsW := hW.size
  obtain ⟨bp, o, rfl, hbl, _⟩ := hI.get (j := 0) (by omega)
  have HY := Lib.hid hY
  have HN := Lib.hid (fun (m : Nat) (W1 : World) (h : J (seqL f b m) W1) => (by have := hJN _ _ h; rwa [seqL_len] at this : m ≤ N))
  have h00 : J (seqL f b (cst f.length 0)) W := by rw [cst_zero]; exact h0
  have hs0 : Bs < n₀ := by omega
  have hb1 : Bb < n₀ := by omega
  have hbn : bp < n₀ := by omega
  have hlen := hI.length_le
  have hneS : Bs ≠ O := by omega
  have hneB : Bb ≠ O := by omega
  have hneP : bp ≠ O := by have := hbO bp o rfl; omega
  clear hbO
  clear hY hJN h0 hc hcb hW hI hn₀ hBs hBb hbl hsW
  refine callsIn_of_wp Try.func62 rfl trivial ?_ rfl
  simp only [Try.ntmps62, List.size_toArray, List.length_cons, List.length_nil, Nat.reduceAdd, Nat.reduceSub, Array.replicate_succ, Array.replicate_zero, List.push_toArray, List.append_toArray, List.nil_append, List.cons_append]
  gi_wp2
  gi_loopw [4] (fun t wr => ∃ r : Nat, t = .int .i64 r ∧ J (seqL f b (cst f.length r)) wr ∧ Keeps O n₀ W wr) (fun t _ => N + 1 - (intOf t).toNat)
  case atStart => exact ⟨0, rfl, h00, Keeps.refl _ _ _⟩
  case round =>
    obtain ⟨r, rfl, hJr, hbr⟩ := hrel
    have hrN : r ≤ N := Nat.le_trans (Nat.le_mul_of_pos_right r hL1) (HN.out _ _ hJr)
    have hcs : wr.cell? ⟨Bs, 0, none⟩ = some (.slice (some ⟨bp, o, none⟩) f.length c) := (hbr.cell hs0 hneS).trans hc0
    have Hnext := Lib.hid (cst_succ f.length r)
    obtain ⟨wo, rfl⟩ : ∃ wo : World, wo = wr := ⟨_, rfl⟩
    gi_wp2
    gi_loopw [10] (fun t wr => ∃ k : Nat, k ≤ f.length ∧ t = .int .i64 k ∧ J (seqL f b (cst f.length r + k)) wr ∧ Keeps O n₀ W wr) (fun t _ => f.length - (intOf t).toNat)
    case atStart => exact ⟨0, by omega, rfl, hJr, hbr⟩
    case round =>
      clear hJr hbr hcs
      obtain ⟨k, hk, rfl, hJk, hbk⟩ := hrel
      have hcs : wr.cell? ⟨Bs, 0, none⟩ = some (.slice (some ⟨bp, o, none⟩) f.length c) := (hbk.cell hs0 hneS).trans hc0
      have hcb : wr.cell? ⟨Bb, 0, none⟩ = some (.bool b) := (hbk.cell hb1 hneB).trans hb0
      by_cases hkL : k < f.length
      · have hk1 : (k : Int) < f.length := by omega
        have hr0 : (0 : Int) ≤ r := by omega
        have hcell : ∀ j, j < f.length → wr.cell? ⟨bp, o + j, none⟩ = some (.int .i64 (iget f j)) := fun j hj => (hbk.cell hbn hneP).trans (hI0.at hj)
        by_cases hflip : b = true ∧ r % 2 = 1
        · have hx : Hid (seqL f b (cst f.length r + (k + 1)) = seqL f b (cst f.length r + k) ++ [iget f (f.length - 1 - k)]) := by
            unfold Hid; rw [← Nat.add_assoc, seqL_succ, seq_at hkL, if_pos hflip]
          obtain ⟨fn, tmps, assign, body, hy, hR⟩ := HY.out _ (iget f (f.length - 1 - k)) wr hJk
          have hci := hcell (f.length - 1 - k) (by omega)
          obtain ⟨rfl, hodd⟩ := hflip
          have hd : (((r : Int) % 2) == 1) = true := by rw [beq_iff_eq]; omega
          have hj1 : (0 : Int) ≤ (f.length : Int) - 1 - k := by omega
          have hj2 : (f.length : Int) - 1 - k < f.length := by omega
          clear hcell hodd
          gi_wp2
          refine hR.mono ?_
          rintro e W3 (⟨rfl, hJ3, hk3⟩ | ⟨rfl, hJx3⟩)
          · gi_wp2
            go_roundw
            case rel => exact ⟨k + 1, by omega, by go_num, by rw [hx.out]; exact hJ3, hbk.trans hk3⟩
            case measure => simp [intOf]; omega
          · gi_wp2
            refine bodyPost_ret (results_none rfl _ _ _) rfl ?_
            exact ⟨⟨_, rfl⟩, _, by rw [← hx.out, seqL_len], hJx3⟩
        · have hx : Hid (seqL f b (cst f.length r + (k + 1)) = seqL f b (cst f.length r + k) ++ [iget f k]) := by
            unfold Hid; rw [← Nat.add_assoc, seqL_succ, seq_at hkL, if_neg hflip]
          obtain ⟨fn, tmps, assign, body, hy, hR⟩ := HY.out _ (iget f k) wr hJk
          have hci := hcell k hkL
          clear hcell
          cases b with
          | false =>
            clear hflip
            gi_wp2
            refine hR.mono ?_
            rintro e W3 (⟨rfl, hJ3, hk3⟩ | ⟨rfl, hJx3⟩)
            · gi_wp2
              go_roundw
              case rel => exact ⟨k + 1, by omega, by go_num, by rw [hx.out]; exact hJ3, hbk.trans hk3⟩
              case measure => simp [intOf]; omega
            · gi_wp2
              refine bodyPost_ret (results_none rfl _ _ _) rfl ?_
              exact ⟨⟨_, rfl⟩, _, by rw [← hx.out, seqL_len], hJx3⟩
          | true =>
            have hd : (((r : Int) % 2) == 1) = false := by rw [beq_eq_false_iff_ne]; intro h; exact hflip ⟨rfl, by omega⟩
            clear hflip
            gi_wp2
            refine hR.mono ?_
            rintro e W3 (⟨rfl, hJ3, hk3⟩ | ⟨rfl, hJx3⟩)
            · gi_wp2
              go_roundw
              case rel => exact ⟨k + 1, by omega, by go_num, by rw [hx.out]; exact hJ3, hbk.trans hk3⟩
              case measure => simp [intOf]; omega
            · gi_wp2
              refine bodyPost_ret (results_none rfl _ _ _) rfl ?_
              exact ⟨⟨_, rfl⟩, _, by rw [← hx.out, seqL_len], hJx3⟩
      · have hk1 : ¬ (k : Int) < f.length := by omega
        obtain rfl : k = f.length := by omega
        gi_wp2
        go_roundw
        case rel => exact ⟨r + 1, by go_num, by rw [Hnext.out]; exact hJk, hbk⟩
        case measure => simp [intOf]; omega

set_option maxHeartbeats 1000000 in
theorem turns_any (a : Option Addr) (len cap : Nat) (b : Bool) (w : World) :
    Calls Try.prog 54 #[.slice a len cap, .bool b] w fun e w' => e = .returned (.func (.func 62) #[] #[.pointer (some ⟨w.heap.size, 0, none⟩), .pointer (some ⟨w.heap.size + 1, 0, none⟩)]) ∧ w' = (w.alloc (.cells #[.slice a len cap] 25)).alloc (.cells #[.bool b] 4) := by
  go_enter Try.func54, Try.ntmps54
  go_wp2
  go_ret
  exact ⟨rfl, rfl⟩
end Go.Proofs.Ytfagapcihacgkaa
