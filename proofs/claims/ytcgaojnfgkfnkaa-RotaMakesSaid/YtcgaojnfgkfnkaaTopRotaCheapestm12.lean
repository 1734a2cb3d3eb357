/- The iterator over the weeks that follow counts (rota.followed): what it gives until it is stopped, for counts of at most 400. -/
import Derived.Test.YtcgaojnfgkfnkaaTopRotaCheapestm8
import Derived.Test.YtcgaojnfgkfnkaaTopRotaCheapestm9
import Derived.Test.YtcgaojnfgkfnkaaTopRotaCheapestm11
import Derived.Test.YtcgaojnfgkfnkaaTopRotaCheapestm4
import Derived.Test.YtcgaojnfgkfnkaaTopRotaCheapestm5
/- The iterator over the weeks that follow counts (rota.followed): what it gives until it is stopped, for counts of at most 400. -/
namespace Go.Proofs.Ytcgaojnfgkfnkaa
set_option linter.unusedSimpArgs false
open Go.ChangeShapes Go.WideShapes Go.ChangeAt Go.RowKit Go.Deep
set_option linter.unusedVariables false
attribute [local go_sem] Oper.semAt_some

/-- A table is what its cells are. -/
theorem Mat.entry {w : World} {p : Option Addr} {c : Nat} {v v' : List (List Int)} (h : Mat w p c v) (h' : Mat w p c v') {i k : Nat} (hi : i < v.length) (hi' : i < v'.length) (hk : k < (rget v i).length) : iget (rget v i) k = iget (rget v' i) k := by
  obtain ⟨b, o, rfl, _, q, d, hc, hI⟩ := h.get hi
  obtain ⟨b', o', e, _, q', d', hc', hI'⟩ := h'.get hi'
  cases e
  rw [hc] at hc'
  simp only [Option.some.injEq, Value.slice.injEq] at hc'
  obtain ⟨rfl, e2, rfl⟩ := hc'
  obtain ⟨b2, o2, rfl, _, h1⟩ := hI.get hk
  have h2 := hI'.at (j := k) (by rw [← e2]; exact hk)
  rw [h1] at h2
  simpa using h2
/-- Counts grow. -/
theorem cntN_row {v : List (List Int)} (hr : ∀ i, i < v.length → (rget v i).length = v.length) : ∀ t i, i < v.length → (rget (cntN v t) i).length = v.length
  | 0, i, hi => hr i hi
  | t + 1, i, hi => by
    show (rget (addW (cntN v t) (weekA (cntN v t))) i).length = _
    rw [addW_row (by rw [cntN_len]; exact hi), List.length_set]
    exact cntN_row hr t i hi
theorem cntN_step {v : List (List Int)} (hr : ∀ i, i < v.length → (rget v i).length = v.length) {t : Nat} (hA : IsA (weekA (cntN v t)) v.length) {i k : Nat} (hi : i < v.length) :
    iget (rget (cntN v (t + 1)) i) k = iget (rget (cntN v t) i) k + (if itm (weekA (cntN v t)) i = k then 1 else 0) := by
  show iget (rget (addW (cntN v t) (weekA (cntN v t))) i) k = _
  exact addW_at (by rw [cntN_len]; exact hi) (by rw [cntN_row hr t i hi]; exact (isA_lt hA i hi).2)
theorem cntN_mono {v : List (List Int)} (hr : ∀ i, i < v.length → (rget v i).length = v.length) (t : Nat) : ∀ d, (∀ s, s < t + d → IsA (weekA (cntN v s)) v.length) → ∀ i k, i < v.length → iget (rget (cntN v t) i) k ≤ iget (rget (cntN v (t + d)) i) k
  | 0, _, i, k, _ => Int.le_refl _
  | d + 1, hA, i, k, hi => by
    have ih := cntN_mono hr t d (fun s hs => hA s (by omega)) i k hi
    have h2 := cntN_step hr (t := t + d) (hA _ (by omega)) (k := k) hi
    rw [← Nat.add_assoc, h2]
    split <;> omega
theorem cntN_lt {v : List (List Int)} (hr : ∀ i, i < v.length → (rget v i).length = v.length) (hl : 1 ≤ v.length) {t t' : Nat} (h : t < t') (hA : ∀ s, s < t' → IsA (weekA (cntN v s)) v.length) : ∃ k, k < v.length ∧ iget (rget (cntN v t) 0) k < iget (rget (cntN v t') 0) k := by
  have h1 := cntN_step hr (hA t h) (k := itm (weekA (cntN v t)) 0) (i := 0) (by omega)
  rw [if_pos rfl] at h1
  have h2 := cntN_mono hr (t + 1) (t' - (t + 1)) (fun s hs => hA s (by omega)) 0 (itm (weekA (cntN v t)) 0) (by omega)
  rw [show t + 1 + (t' - (t + 1)) = t' by omega] at h2
  exact ⟨_, (isA_lt (hA t h) 0 (by omega)).2, by omega⟩
theorem Held.kp {O b0 B : Nat} {w w' : World} {q : Option Addr} {d : Nat} {v : List (List Int)} (h : Held w b0 B q d v) (hk : KpO O w w') (hO : O < b0) (ho : ∀ k, outB O w = some k → k < b0 ∨ B ≤ k) : Held w' b0 B q d v := by
  obtain ⟨Q, D, h, hw⟩ := h
  have key : ∀ k, b0 ≤ k → k < B → k < w.heap.size → IsCells w k → w'.heap[k]? = w.heap[k]? := fun k h1 h2 h3 h4 => hk.same k h3 h4 (by omega) fun e => by
    rcases ho k e with h5 | h5 <;> omega
  refine ⟨Q, D, h.move (fun k e => ?_) (fun j hj k e => ?_), hw⟩
  · obtain ⟨h1, h2⟩ := h.tmat.lt k e
    obtain ⟨_, o, h3, h4⟩ := row_cells h.top (by rw [ownBlock_slice]; exact e)
    exact key k h1 (hw.1 k e) h2 ⟨o, h3, h4⟩
  · obtain ⟨h1, h2⟩ := (h.rows j hj).lt k e
    obtain ⟨_, o, h3, h4⟩ := row_cells (h.rows j hj).row (by rw [ownBlock_slice]; exact e)
    exact key k h1 (hw.2 j hj k e) h2 ⟨o, h3, h4⟩
/-- How many weeks were added, read off the memory. -/
noncomputable def wkT (b0 B : Nat) (q : Option Addr) (d : Nat) (v : List (List Int)) (W : World) : Nat := Classical.epsilon fun t => Held W b0 B q d (cntN v t) ∧ ∀ s, s < t → IsA (weekA (cntN v s)) v.length
theorem wkT_of {b0 B : Nat} {q : Option Addr} {d : Nat} {v : List (List Int)} {W : World} {t : Nat} (hr : ∀ i, i < v.length → (rget v i).length = v.length) (hl : 1 ≤ v.length) (h : Held W b0 B q d (cntN v t)) (hA : ∀ s, s < t → IsA (weekA (cntN v s)) v.length) : wkT b0 B q d v W = t := by
  obtain ⟨h', hA'⟩ := Classical.epsilon_spec (p := fun t => Held W b0 B q d (cntN v t) ∧ ∀ s, s < t → IsA (weekA (cntN v s)) v.length) ⟨t, h, hA⟩
  have e : ∀ a b, Held W b0 B q d (cntN v a) → Held W b0 B q d (cntN v b) → a < b → (∀ s, s < b → IsA (weekA (cntN v s)) v.length) → False := fun a b ha hb hab hs => by
    obtain ⟨k, hk, hlt⟩ := cntN_lt hr hl hab hs
    have := ha.mat.entry hb.mat (i := 0) (k := k) (by rw [cntN_len]; omega) (by rw [cntN_len]; omega) (by rw [cntN_row hr a 0 (by omega)]; exact hk)
    omega
  show wkT b0 B q d v W = t
  rcases Nat.lt_trichotomy (wkT b0 B q d v W) t with h1 | h1 | h1
  · exact (e _ _ h' h h1 hA).elim
  · exact h1
  · exact (e _ _ h h' h1 hA').elim
theorem enter_followed1 (args : Array Value) (W : World) : (callFunc 50 args).run Try.prog W = .ok (.enter 50 args) W := rfl

set_option maxRecDepth 100000 in
set_option maxHeartbeats 16000000 in
theorem followed1_ends (n : Nat) (hn : 1 ≤ n) (Bc O N : Nat) (p : Option Addr) (c : Nat) (v : List (List Int)) (w : World) (hBc : Bc < w.heap.size) (hO : O < w.heap.size) (hc : w.cell? ⟨Bc, 0, none⟩ = some (.slice p v.length c)) (hx : Mat w p c v) (hv : CntM 400 v) (hl : 1 ≤ v.length) (hN : N ≤ 450) (hout : outB O w = none) :
    SeqEndsW n 50 #[.pointer (some ⟨Bc, 0, none⟩)] O (fun pre => pre.map (·.2) = folL v pre.length) N w := by
  intro l J Jx W hW hSt hJN hY h0
  have hc0 := (hW.cell (p := ⟨Bc, 0, none⟩) hBc).trans hc
  have hx0 := hx.below hW (Nat.le_refl _)
  have ho0 : outB O W = none := by rw [outB_same (hW.block O hO)]; exact hout
  have hOW : O < W.heap.size := Nat.lt_of_lt_of_le hO hW.size
  have HsW := Lib.hid hW.size
  have Hlen := Lib.hid hv.len
  have CC := Lib.hid (copied_any p c v W hx0 (by have := hv.len; omega) (fun j hj => by rw [hv.row j hj]; have := hv.len; omega))
  have Hv := Lib.hid hv
  have HSt := Lib.hid hSt
  have HJN := Lib.hid hJN
  have HY := Lib.hid hY
  have H0 := Lib.hid h0
  have Ho0 := Lib.hid ho0
  have HN := Lib.hid hN
  have hl12 := hv.len
  clear hx hc hx0 hv hSt hJN hY h0 ho0 hW hN hout
  refine callsIn_of_wp Try.func50 rfl trivial ?_ rfl
  simp only [Try.ntmps50, List.size_toArray, List.length_cons, List.length_nil, Nat.reduceAdd, Nat.reduceSub, Array.replicate_succ, Array.replicate_zero, List.push_toArray, List.append_toArray, List.nil_append, List.cons_append]
  gi_wp2
  refine ⟨trivial, (callsIn_wide.2 CC.out).mono ?_⟩
  rintro e w1 ⟨q, d, Q, D, rfl, hD, hb1⟩
  have hH1 : Held w1 W.heap.size w1.heap.size q d (cntN v 0) := Held.of hD
  have hs1 := hb1.size
  have hJ1 : J [] w1 := HSt.out.below H0.out hb1
  have ho1 : outB O w1 = none := by rw [outB_same (hb1.block O hOW)]; exact Ho0.out
  clear hD hb1 CC hc0
  gi_wp2
  gi_loopw [5] (fun x wr => ∃ (t : Nat) (pre : List (Nat × List Int)), Hid (pre.length = t ∧ pre.map (·.2) = folL v t ∧ ∀ x ∈ pre, w1.heap.size ≤ x.1) ∧ J pre wr ∧ Hid (CntM (400 + (t : Int)) (cntN v t)) ∧ Hid (∀ s, s < t → IsA (weekA (cntN v s)) v.length) ∧ Held wr W.heap.size w1.heap.size q d (cntN v t) ∧ Hid (∀ k, outB O wr = some k → (k < W.heap.size ∨ w1.heap.size ≤ k) ∧ k < wr.heap.size) ∧ Hid (w1.heap.size ≤ wr.heap.size)) (fun _ wk => N + 1 - wkT W.heap.size w1.heap.size q d v wk)
  case atStart => exact ⟨0, [], ⟨rfl, by simp [folL], fun x h => by cases h⟩, hJ1, (by simpa [cntN, Hid] using Hv.out), (fun s h => absurd h (Nat.not_lt_zero s)), hH1, (fun k e => by rw [ho1] at e; cases e), Nat.le_refl _⟩
  case round =>
    clear hH1 hJ1 ho1
    obtain ⟨t, pre, hpre, hJ, hCM, hAs, hH, hOb, hsz⟩ := hrel
    have htN : t ≤ N := by rw [← hpre.out.1]; exact HJN.out _ _ hJ
    have HT := Lib.hid (wkT_of Hv.out.row hl hH hAs.out)
    have CN0 := next_any q d (cntN v t) wr hH.mat (hCM.out.counts (by have := HN.out; omega))
    have Hsucc : Hid (folL v (t + 1) = folL v t ++ [weekA (cntN v t)] ∧ cntN v (t + 1) = addW (cntN v t) (weekA (cntN v t))) := ⟨folL_succ v t, rfl⟩
    rw [cntN_len] at CN0
    have CN := Lib.hid CN0
    have HAd := Lib.hid (fun (g : Nat) (a : List Int) (w3 : World) (h3 : Held w3 W.heap.size w1.heap.size q d (cntN v t)) (hg : w1.heap.size ≤ g) (ha : IsA a v.length) (hI : Ints w3 (some ⟨g, 0, none⟩) v.length a) => (by
      have := add_any W.heap.size w1.heap.size q d (cntN v t) (400 + t) a (some ⟨g, 0, none⟩) v.length w3 h3 hCM.out (by have := HN.out; omega) (by rw [cntN_len]; exact ha) (fun W' h => h.ints hg hI)
      rwa [cntN_len] at this : Calls Try.prog 43 #[.slice q v.length d, .slice (some ⟨g, 0, none⟩) v.length v.length] w3 (Adds W.heap.size w1.heap.size q d (cntN v t) a w3)))
    have HCv := Lib.hid (cntN_len v t)
    clear CN0
    gi_wp2
    refine ⟨trivial, (callsIn_wide.2 CN.out).mono ?_⟩
    unfold GivesW
    rintro e w3 ⟨g, he, hIs, hI3, hb3, hg3⟩
    rw [HCv.out] at he hI3
    subst he
    obtain ⟨A, eA⟩ : ∃ A, weekA (cntN v t) = A := ⟨_, rfl⟩
    rw [eA] at hIs hI3 Hsucc
    have hA : IsA A v.length := by have := hIs.1; rwa [HCv.out] at this
    have hg1 : w1.heap.size ≤ g := Nat.le_trans hsz.out hg3
    have hH3 := hH.below (hb3.mono hsz.out)
    have hJ3 := HSt.out.below hJ hb3
    have hOb3 : outB O w3 = outB O wr := outB_same (hb3.block O (by have := hsz.out; omega))
    have CA := Lib.hid (HAd.out g A w3 hH3 hg1 hA hI3)
    have HA := Lib.hid hA
    have HIs := Lib.hid hIs
    have EA := Lib.hid eA
    clear CN HAd hH hJ hA hIs eA
    gi_wp2
    refine ⟨trivial, (callsIn_wide.2 CA.out).mono ?_⟩
    rintro e w4 ⟨⟨x4, rfl⟩, hH4, hO4⟩
    have hs34 := hO4.1.size
    have hOb4 : outB O w4 = outB O wr := (outB_same (hO4.1.block O hOW)).trans hOb3
    have hJ4 : J pre w4 := by
      refine HSt.out pre w3 w4 hJ3 hs34 ⟨hO4.1.os, hO4.1.tape, hO4.1.output⟩ fun k hk hq => ?_
      rcases hq with h1 | ⟨_, h1 | h1⟩
      · exact hO4.1.block k h1
      · rw [hOb3] at h1
        rcases (hOb.out k h1).1 with h2 | h2
        · exact hO4.1.block k h2
        · exact hO4.2 k h2
      · obtain ⟨x, hx, rfl⟩ := List.mem_map.1 h1
        exact hO4.2 _ (hpre.out.2.2 x hx)
    have hI4 : Ints w4 (some ⟨g, 0, none⟩) v.length A := hO4.ints hg1 hI3
    have hAl := HA.out.1
    have hok : OkX w.heap.size O (g, A) w4 := by
      refine ⟨?_, ?_, ?_, ?_⟩
      · show w.heap.size ≤ g
        have := HsW.out; omega
      · show Ints w4 (some ⟨g, 0, none⟩) A.length A
        rw [hAl]; exact hI4
      · show 0 < A.length
        omega
      · show outB O w4 ≠ some g
        rw [hOb4]; intro e
        have := (hOb.out g e).2; omega
    have hY4 := HY.out pre (g, A) w4 hJ4 hok
    unfold encX at hY4
    simp only [hAl] at hY4
    obtain ⟨fn, tmps, assign, body, hy, hR⟩ := hY4
    have HR := Lib.hid hR
    have Hs4 : Hid (w1.heap.size ≤ w4.heap.size) := Nat.le_trans (Nat.le_trans hsz.out hb3.size) hs34
    have hOb5 : Hid (∀ k, outB O w4 = some k → (k < W.heap.size ∨ w1.heap.size ≤ k) ∧ k < w4.heap.size) := fun k e => by
      rw [hOb4] at e
      have h1 := hOb.out k e
      exact ⟨h1.1, by have := hb3.size; omega⟩
    have hCM5 : Hid (CntM (400 + ((t + 1 : Nat) : Int)) (cntN v (t + 1))) := by
      unfold Hid; rw [Hsucc.out.2]
      exact (hCM.out.addW (by rw [HCv.out]; exact HA.out)).mono (by omega)
    have hAs5 : Hid (∀ s, s < t + 1 → IsA (weekA (cntN v s)) v.length) := fun s hs => by
      by_cases e : s = t
      · subst e; rw [EA.out]; exact HA.out
      · exact hAs.out s (by omega)
    have hH5 : Held w4 W.heap.size w1.heap.size q d (cntN v (t + 1)) := by rw [Hsucc.out.2]; exact hH4
    have hpre5 : Hid ((pre ++ [(g, A)]).length = t + 1 ∧ (pre ++ [(g, A)]).map (·.2) = folL v (t + 1) ∧ ∀ x ∈ pre ++ [(g, A)], w1.heap.size ≤ x.1) := by
      refine ⟨by rw [List.length_append, hpre.out.1]; rfl, by rw [List.map_append, hpre.out.2.1, Hsucc.out.1]; rfl, fun x hx => ?_⟩
      rcases List.mem_append.1 hx with h | h
      · exact hpre.out.2.2 x h
      · rw [List.mem_singleton] at h; subst h; exact hg1
    clear hR hok hI4 hAl hJ4 hJ3 hI3 hH4 hO4 hH3 hb3 hOb3 hOb4 hCM hAs hpre hOb hsz CA hg3
    gi_wp2
    refine HR.out.mono ?_
    rintro e W5 (⟨rfl, hJ5, hk5⟩ | ⟨rfl, hJx5⟩)
    · have hH6 := hH5.kp hk5 hOW (fun k e => (hOb5.out k e).1)
      have HT5 := Lib.hid (wkT_of Hv.out.row hl hH6 hAs5.out)
      have hOb6 : Hid (∀ k, outB O W5 = some k → (k < W.heap.size ∨ w1.heap.size ≤ k) ∧ k < W5.heap.size) := fun k e => by
        refine ⟨?_, hk5.lt (fun k e => (hOb5.out k e).2) k e⟩
        rcases hk5.fresh k e with h1 | h1
        · exact (hOb5.out k h1).1
        · exact .inr (Nat.le_trans Hs4.out h1)
      have hs6 : Hid (w1.heap.size ≤ W5.heap.size) := Nat.le_trans Hs4.out hk5.size
      clear hH5 hOb5 hk5
      gi_wp2
      go_roundw
      case rel => first | exact ⟨t + 1, _, hpre5, hJ5, hCM5, hAs5, hH6, hOb6, hs6⟩ | trace_state
      case measure => first | (rw [HT.out, HT5.out]; omega) | trace_state
    · clear hH5 hOb5
      gi_wp2
      refine bodyPost_ret (results_none rfl _ _ _) rfl ?_
      exact ⟨⟨_, rfl⟩, _, by rw [hpre5.out.2.1, hpre5.out.1], hJx5⟩
end Go.Proofs.Ytcgaojnfgkfnkaa

/- The reference's table of costs over sets of shifts, and the week read off it: the first of the least cost; at most 7 agents; plain, no program. -/
namespace Go.Proofs.Ytcgaojnfgkfnkaa
set_option linter.unusedVariables false
set_option linter.unusedSimpArgs false

/-- Whether the shift k is in the set s: 1 or 0. -/
def bt (s k : Nat) : Nat := s / 2 ^ k % 2
theorem bt_le (s k : Nat) : bt s k ≤ 1 := by unfold bt; omega
theorem bt_all : ∀ s, s < 128 → ∀ k, k < 7 → bt s k = 1 → 2 ^ k ≤ s ∧ ∀ j, j < 7 → bt (s - 2 ^ k) j = if j = k then 0 else bt s j := by decide +kernel
theorem bt_zero : ∀ s, s < 128 → (∀ k, k < 7 → bt s k = 0) → s = 0 := by decide +kernel
theorem bt_full : ∀ n, n < 8 → ∀ k, k < 7 → bt (2 ^ n - 1) k = if k < n then 1 else 0 := by decide +kernel
/-- How many shifts are in a set. -/
def pcN : Nat → Nat → Nat
  | 0, _ => 0
  | n + 1, s => pcN n s + bt s n
theorem pow_128 {n : Nat} (h : n ≤ 7) : 2 ^ n ≤ 128 := Nat.pow_le_pow_right (by omega) h
theorem pcN_sub {s k : Nat} (hs : s < 128) (hk : k < 7) (hb : bt s k = 1) : ∀ n, n ≤ 7 → pcN n (s - 2 ^ k) + (if k < n then 1 else 0) = pcN n s
  | 0, _ => by simp [pcN]
  | n + 1, h => by
    have h1 := pcN_sub hs hk hb n (by omega)
    have h2 := (bt_all s hs k hk hb).2 n (by omega)
    simp only [pcN]
    rw [h2]
    by_cases e : n = k
    · subst e; rw [if_pos rfl, hb, if_pos (by omega)]; rw [if_neg (by omega)] at h1; omega
    · rw [if_neg e]
      by_cases e2 : k < n
      · rw [if_pos e2] at h1; rw [if_pos (by omega)]; omega
      · rw [if_neg e2] at h1; rw [if_neg (by omega)]; omega
theorem pcN_full {n : Nat} (h : n ≤ 7) : ∀ m, m ≤ n → pcN m (2 ^ n - 1) = m
  | 0, _ => rfl
  | m + 1, hm => by
    simp only [pcN]
    rw [pcN_full h m (by omega), bt_full n (by omega) m (by omega), if_pos (by omega)]
/-- A table of costs: the last agents, as many as the set has shifts, have just these. -/
structure Tab (n : Nat) (c : Nat → Nat → Int) (T : Nat → Int) : Prop where
  zero : T 0 = 0
  le : ∀ s, 0 < s → s < 2 ^ n → ∀ k, k < n → bt s k = 1 → T s ≤ T (s - 2 ^ k) + c (n - pcN n s) k
  at' : ∀ s, 0 < s → s < 2 ^ n → ∃ k, k < n ∧ bt s k = 1 ∧ T s = T (s - 2 ^ k) + c (n - pcN n s) k
theorem bt_none : ∀ n, n < 8 → ∀ s, s < 2 ^ n → (∀ k, k < n → bt s k = 0) → s = 0 := by decide +kernel
/-- The table up to s. -/
structure TabTo (n : Nat) (c : Nat → Nat → Int) (T : Nat → Int) (m : Nat) : Prop where
  zero : T 0 = 0
  le : ∀ s, 0 < s → s < m → ∀ k, k < n → bt s k = 1 → T s ≤ T (s - 2 ^ k) + c (n - pcN n s) k
  at' : ∀ s, 0 < s → s < m → ∃ k, k < n ∧ bt s k = 1 ∧ T s = T (s - 2 ^ k) + c (n - pcN n s) k
  bd : ∀ s, s < m → 0 ≤ T s ∧ T s ≤ 1000 * s
theorem TabTo.one (n : Nat) (c : Nat → Nat → Int) : TabTo n c (fun _ => 0) 1 := ⟨rfl, fun s _ _ => by omega, fun s _ _ => by omega, fun s h => by simp; omega⟩
theorem TabTo.tab {n : Nat} {c : Nat → Nat → Int} {T : Nat → Int} (h : TabTo n c T (2 ^ n)) : Tab n c T := ⟨h.zero, h.le, h.at'⟩
/-- The least cost so far. -/
def BestP (n : Nat) (c : Nat → Nat → Int) (T : Nat → Int) (s k : Nat) (b : Int) : Prop :=
  (b = -1 ∧ ∀ j, j < k → bt s j = 0) ∨ (0 ≤ b ∧ (∃ j, j < k ∧ bt s j = 1 ∧ b = T (s - 2 ^ j) + c (n - pcN n s) j) ∧ ∀ j, j < k → bt s j = 1 → b ≤ T (s - 2 ^ j) + c (n - pcN n s) j)
theorem BestP.zero (n : Nat) (c : Nat → Nat → Int) (T : Nat → Int) (s : Nat) : BestP n c T s 0 (-1) := .inl ⟨rfl, fun j h => by omega⟩
theorem BestP.no {n : Nat} {c : Nat → Nat → Int} {T : Nat → Int} {s k : Nat} {b : Int} (h : BestP n c T s k b) (hb : bt s k = 0) : BestP n c T s (k + 1) b := by
  rcases h with ⟨h1, h2⟩ | ⟨h1, ⟨j, h2, h3, h4⟩, h5⟩
  · exact .inl ⟨h1, fun j hj => by
      by_cases e : j = k
      · rw [e]; exact hb
      · exact h2 j (by omega)⟩
  · exact .inr ⟨h1, ⟨j, by omega, h3, h4⟩, fun i hi h6 => by
      by_cases e : i = k
      · rw [e, hb] at h6; omega
      · exact h5 i (by omega) h6⟩
theorem BestP.take {n : Nat} {c : Nat → Nat → Int} {T : Nat → Int} {s k : Nat} {b x : Int} (h : BestP n c T s k b) (hb : bt s k = 1) (hx : x = T (s - 2 ^ k) + c (n - pcN n s) k) (h0 : 0 ≤ x) (hlt : b < 0 ∨ x < b) : BestP n c T s (k + 1) x := by
  refine .inr ⟨h0, ⟨k, by omega, hb, hx⟩, fun j hj h1 => ?_⟩
  by_cases e : j = k
  · rw [e, ← hx]; exact Int.le_refl _
  · rcases h with ⟨_, h2⟩ | ⟨h3, _, h5⟩
    · rw [h2 j (by omega)] at h1; omega
    · have := h5 j (by omega) h1
      omega
theorem BestP.keep {n : Nat} {c : Nat → Nat → Int} {T : Nat → Int} {s k : Nat} {b x : Int} (h : BestP n c T s k b) (hx : x = T (s - 2 ^ k) + c (n - pcN n s) k) (h0 : ¬ b < 0) (hlt : ¬ x < b) : BestP n c T s (k + 1) b := by
  rcases h with ⟨h1, _⟩ | ⟨h1, ⟨j, h2, h3, h4⟩, h5⟩
  · omega
  · exact .inr ⟨h1, ⟨j, by omega, h3, h4⟩, fun i hi h6 => by
      by_cases e : i = k
      · rw [e, ← hx]; omega
      · exact h5 i (by omega) h6⟩
theorem TabTo.next {n : Nat} {c : Nat → Nat → Int} {T : Nat → Int} {s : Nat} {b : Int} (h : TabTo n c T s) (h7 : n ≤ 7) (hs : 0 < s) (hsn : s < 2 ^ n) (hc : ∀ a k, a < n → k < n → 0 ≤ c a k ∧ c a k ≤ 1000) (hb : BestP n c T s n b) : 0 ≤ b ∧ TabTo n c (updf T s b) (s + 1) := by
  have h128 := pow_128 h7
  rcases hb with ⟨_, h2⟩ | ⟨h1, ⟨j, h2, h3, h4⟩, h5⟩
  · have := bt_none n (by omega) s hsn h2; omega
  · have hsub : ∀ s', 0 < s' → s' ≤ s → ∀ k, k < n → bt s' k = 1 → s' - 2 ^ k < s' := fun s' h0 hl k hk hb => by
      have h6 := (bt_all s' (by omega) k (by omega) hb).1
      have : 0 < 2 ^ k := Nat.pow_pos (by omega)
      omega
    refine ⟨h1, ⟨by rw [updf_ne (by omega)]; exact h.zero, fun s' h6 h7' k hk hb => ?_, fun s' h6 h7' => ?_, fun s' h6 => ?_⟩⟩
    · have h8 := hsub s' h6 (by omega) k hk hb
      rw [updf_ne (j := s' - 2 ^ k) (by omega)]
      by_cases e : s' = s
      · subst e; rw [updf_at]; exact h5 k hk hb
      · rw [updf_ne e]; exact h.le s' h6 (by omega) k hk hb
    · by_cases e : s' = s
      · subst e
        have h8 := hsub s' h6 (by omega) j h2 h3
        refine ⟨j, h2, h3, ?_⟩
        rw [updf_ne (j := s' - 2 ^ j) (by omega)]
        rw [updf_at]; exact h4
      · obtain ⟨k, k1, k2, k3⟩ := h.at' s' h6 (by omega)
        have h8 := hsub s' h6 (by omega) k k1 k2
        exact ⟨k, k1, k2, by rw [updf_ne (j := s' - 2 ^ k) (by omega), updf_ne e]; exact k3⟩
    · by_cases e : s' = s
      · subst e
        rw [updf_at]
        have h8 := hsub s' hs (by omega) j h2 h3
        have h9 := h.bd (s' - 2 ^ j) (by omega)
        have h10 := pcN_sub (by omega) (by omega) h3 n h7
        rw [if_pos h2] at h10
        have h11 := hc (n - pcN n s') j (by omega) h2
        omega
      · rw [updf_ne e]; exact h.bd s' (by omega)
/-- The shifts that are left for the agents from i on. -/
def left (n : Nat) (x : List Int) : Nat → Nat
  | 0 => 2 ^ n - 1
  | i + 1 => left n x i - 2 ^ itm x i
theorem left_spec {n : Nat} {x : List Int} (h7 : n ≤ 7) (hx : IsA x n) : ∀ i, i ≤ n → left n x i < 2 ^ n ∧ pcN n (left n x i) = n - i ∧ ∀ k, k < n → bt (left n x i) k = if ∃ j, j < i ∧ itm x j = k then 0 else 1
  | 0, _ => by
    refine ⟨by show 2 ^ n - 1 < 2 ^ n; have : 0 < 2 ^ n := Nat.pow_pos (by omega); omega, by show pcN n (2 ^ n - 1) = n - 0; rw [pcN_full h7 n (Nat.le_refl _)]; omega, fun k hk => ?_⟩
    show bt (2 ^ n - 1) k = _
    rw [bt_full n (by omega) k (by omega), if_pos hk, if_neg]
    rintro ⟨j, h, _⟩; omega
  | i + 1, hi => by
    obtain ⟨h1, h2, h3⟩ := left_spec h7 hx i (by omega)
    have hp := isA_per hx
    have hki := hp.lt i (by omega)
    have hb : bt (left n x i) (itm x i) = 1 := by
      rw [h3 _ hki, if_neg]
      rintro ⟨j, hj, e⟩
      have := hp.inj j i (by omega) (by omega) e
      omega
    have h128 := pow_128 h7
    obtain ⟨b1, b2⟩ := bt_all (left n x i) (by omega) (itm x i) (by omega) hb
    have h4 := pcN_sub (by omega) (by omega) hb n h7
    rw [if_pos hki] at h4
    refine ⟨Nat.lt_of_le_of_lt (Nat.sub_le _ _) h1, by show pcN n (left n x i - 2 ^ itm x i) = n - (i + 1); omega, fun k hk => ?_⟩
    show bt (left n x i - 2 ^ itm x i) k = _
    rw [b2 k (by omega), h3 k hk]
    by_cases e : k = itm x i
    · rw [if_pos e, if_pos ⟨i, by omega, e.symm⟩]
    · rw [if_neg e]
      have e2 : (∃ j, j < i + 1 ∧ itm x j = k) ↔ ∃ j, j < i ∧ itm x j = k := by
        constructor
        · rintro ⟨j, hj, ej⟩
          by_cases e3 : j = i
          · rw [e3] at ej; exact absurd ej.symm e
          · exact ⟨j, by omega, ej⟩
        · rintro ⟨j, hj, ej⟩; exact ⟨j, by omega, ej⟩
      simp only [e2]
theorem left_bit {n : Nat} {x : List Int} (h7 : n ≤ 7) (hx : IsA x n) {i : Nat} (hi : i < n) : bt (left n x i) (itm x i) = 1 ∧ 0 < left n x i := by
  have hp := isA_per hx
  have hb : bt (left n x i) (itm x i) = 1 := by
    rw [(left_spec h7 hx i (by omega)).2.2 _ (hp.lt i hi), if_neg]
    rintro ⟨j, hj, e⟩
    have := hp.inj j i (by omega) hi e
    omega
  refine ⟨hb, Nat.pos_of_ne_zero fun e => ?_⟩
  rw [e] at hb
  unfold bt at hb
  rw [Nat.zero_div] at hb
  omega
theorem left_end {n : Nat} {x : List Int} (h7 : n ≤ 7) (hx : IsA x n) : left n x n = 0 := by
  obtain ⟨h1, h2, h3⟩ := left_spec h7 hx n (Nat.le_refl _)
  have h128 := pow_128 h7
  have key : ∀ n, n < 8 → ∀ s, s < 2 ^ n → (∀ k, k < n → bt s k = 0) → s = 0 := by decide +kernel
  refine key n (by omega) _ h1 fun k hk => ?_
  rw [h3 k hk, if_pos]
  obtain ⟨j, hj, e⟩ := (isA_per hx).surj hk
  exact ⟨j, hj, e⟩
/-- What the agents from i on cost. -/
def sufI (c : Nat → Nat → Int) (n : Nat) (x : List Int) (i : Nat) : Int := sumTo (fun j => c j (itm x j)) n - sumTo (fun j => c j (itm x j)) i
theorem sufI_step (c : Nat → Nat → Int) (n : Nat) (x : List Int) (i : Nat) : sufI c n x i = c i (itm x i) + sufI c n x (i + 1) := by simp only [sufI, sumTo]; omega
theorem Tab.low {n : Nat} {c : Nat → Nat → Int} {T : Nat → Int} (h : Tab n c T) (h7 : n ≤ 7) {x : List Int} (hx : IsA x n) : ∀ m, m ≤ n → T (left n x (n - m)) ≤ sufI c n x (n - m)
  | 0, _ => by rw [Nat.sub_zero, left_end h7 hx, h.zero]; unfold sufI; omega
  | m + 1, hm => by
    have ih := Tab.low h h7 hx m (by omega)
    have hi : n - (m + 1) < n := by omega
    obtain ⟨b1, b2⟩ := left_bit h7 hx hi
    obtain ⟨l1, l2, _⟩ := left_spec h7 hx (n - (m + 1)) (by omega)
    have h1 := h.le _ b2 l1 _ ((isA_per hx).lt _ hi) b1
    rw [l2, show n - (n - (n - (m + 1))) = n - (m + 1) by omega] at h1
    have e : left n x (n - (m + 1)) - 2 ^ itm x (n - (m + 1)) = left n x (n - m) := by
      rw [show n - m = n - (m + 1) + 1 by omega]; rfl
    rw [e] at h1
    rw [sufI_step, show n - (m + 1) + 1 = n - m by omega]
    omega
/-- A week that takes, agent by agent, the first shift along which the table is met. -/
structure Greedy (n : Nat) (c : Nat → Nat → Int) (T : Nat → Int) (a : List Int) : Prop where
  isA : IsA a n
  met : ∀ i, i < n → T (left n a i) = T (left n a i - 2 ^ itm a i) + c i (itm a i)
  first : ∀ i, i < n → ∀ k, k < itm a i → bt (left n a i) k = 1 → T (left n a i) ≠ T (left n a i - 2 ^ k) + c i k
theorem Greedy.suf {n : Nat} {c : Nat → Nat → Int} {T : Nat → Int} {a : List Int} (h : Greedy n c T a) (hT : Tab n c T) (h7 : n ≤ 7) : ∀ m, m ≤ n → T (left n a (n - m)) = sufI c n a (n - m)
  | 0, _ => by rw [Nat.sub_zero, left_end h7 h.isA, hT.zero]; unfold sufI; omega
  | m + 1, hm => by
    have ih := Greedy.suf h hT h7 m (by omega)
    have h1 := h.met (n - (m + 1)) (by omega)
    have e : left n a (n - (m + 1)) - 2 ^ itm a (n - (m + 1)) = left n a (n - m) := by
      rw [show n - m = n - (m + 1) + 1 by omega]; rfl
    rw [e] at h1
    rw [sufI_step, show n - (m + 1) + 1 = n - m by omega]
    omega
theorem left_congr {n : Nat} {a x : List Int} : ∀ i, (∀ j, j < i → itm x j = itm a j) → left n x i = left n a i
  | 0, _ => rfl
  | i + 1, h => by
    show left n x i - 2 ^ itm x i = left n a i - 2 ^ itm a i
    rw [left_congr i (fun j hj => h j (by omega)), h i (by omega)]
theorem Greedy.week {c : List (List Int)} {T : Nat → Int} {a : List Int} (h : Greedy c.length (bid c) T a) (hT : Tab c.length (bid c) T) (h7 : c.length ≤ 7) : IsWeek c a := by
  have cost : ∀ x, IsA x c.length → worthI c x = sufI (bid c) c.length x 0 := fun x hx => by
    rw [worth_val (v := c) hx.1]; unfold sufI val; simp [sumTo]
  have full : ∀ x, left c.length x 0 = 2 ^ c.length - 1 := fun _ => rfl
  have ea := h.suf hT h7 c.length (Nat.le_refl _)
  rw [Nat.sub_self, full] at ea
  refine ⟨h.isA, .inr ⟨h.isA, fun x hx => ?_⟩⟩
  simp only []
  rw [cost x hx, cost a h.isA, ← ea]
  have lx := hT.low h7 hx c.length (Nat.le_refl _)
  rw [Nat.sub_self, full] at lx
  by_cases e : sufI (bid c) c.length x 0 = T (2 ^ c.length - 1)
  · refine .inr ⟨by rw [e], ?_⟩
    by_cases ex : ∀ j, j < c.length → itm x j = itm a j
    · refine .inl (List.ext_getElem (by rw [hx.1, h.isA.1]) fun j h3 h4 => ?_)
      have hj : j < c.length := by rw [← h.isA.1]; exact h4
      have := ex j hj
      have g1 := (isA_lt hx j hj).1
      have g2 := (isA_lt h.isA j hj).1
      unfold itm at this
      rw [← iget_of h3, ← iget_of h4]
      omega
    · -- the first place where they part
      obtain ⟨i, hi, hne, hag⟩ : ∃ i, i < c.length ∧ itm x i ≠ itm a i ∧ ∀ j, j < i → itm x j = itm a j := by
        have hex : ∃ i, i < c.length ∧ itm x i ≠ itm a i := by
          apply Classical.byContradiction
          intro hc
          exact ex fun j hj => Classical.byContradiction fun hn => hc ⟨j, hj, hn⟩
        have : ∀ m i, i < m → i < c.length → itm x i ≠ itm a i → ∃ i, i < c.length ∧ itm x i ≠ itm a i ∧ ∀ j, j < i → itm x j = itm a j := by
          intro m
          induction m with
          | zero => intro i h; omega
          | succ m ih =>
            intro i h h1 h2
            by_cases h3 : ∃ j, j < i ∧ itm x j ≠ itm a j
            · obtain ⟨j, h4, h5⟩ := h3
              exact ih j (by omega) (by omega) h5
            · exact ⟨i, h1, h2, fun j hj => Classical.byContradiction fun hn => h3 ⟨j, hj, hn⟩⟩
        obtain ⟨i, h1, h2⟩ := hex
        exact this (i + 1) i (by omega) h1 h2
      have hl := left_congr (n := c.length) i hag
      have pre : sumTo (fun j => bid c j (itm x j)) i = sumTo (fun j => bid c j (itm a j)) i := sumTo_congr fun j hj => by rw [hag j hj]
      have sa := h.suf hT h7 (c.length - i) (by omega)
      have sx := hT.low h7 hx (c.length - (i + 1)) (by omega)
      rw [show c.length - (c.length - i) = i by omega] at sa
      rw [show c.length - (c.length - (i + 1)) = i + 1 by omega] at sx
      have st := sufI_step (bid c) c.length x i
      have e1 : left c.length x (i + 1) = left c.length a i - 2 ^ itm x i := by
        show left c.length x i - 2 ^ itm x i = _; rw [hl]
      rw [e1] at sx
      obtain ⟨b1, b2⟩ := left_bit h7 hx hi
      rw [hl] at b1 b2
      obtain ⟨l1, l2, _⟩ := left_spec h7 h.isA i (by omega)
      have le := hT.le _ b2 l1 _ ((isA_per hx).lt _ hi) b1
      rw [l2, show c.length - (c.length - i) = i by omega] at le
      have tot : sufI (bid c) c.length x i = T (left c.length a i) := by
        rw [sa]; unfold sufI at e ea ⊢; simp only [sumTo] at e ea; omega
      refine .inr ⟨i, by rw [h.isA.1]; exact hi, fun j hj => ?_, ?_⟩
      · have := hag j hj
        have g1 := (isA_lt hx j (by omega)).1
        have g2 := (isA_lt h.isA j (by omega)).1
        unfold itm at this
        omega
      · have hlt : itm a i < itm x i := by
          apply Classical.byContradiction
          intro hn
          exact h.first i hi (itm x i) (by omega) b1 (by omega)
        have g1 := (isA_lt hx i hi).1
        have g2 := (isA_lt h.isA i hi).1
        unfold itm at hlt
        omega
  · exact .inl (by omega)
end Go.Proofs.Ytcgaojnfgkfnkaa

/- The reference's week while it is read off the table; plain, no program. -/
namespace Go.Proofs.Ytcgaojnfgkfnkaa
set_option linter.unusedVariables false
set_option linter.unusedSimpArgs false

theorem itm_snoc_lt {x : List Int} {k : Int} {j : Nat} (h : j < x.length) : itm (x ++ [k]) j = itm x j := by unfold itm; rw [iget_append, if_pos h]
theorem iget_snoc_lt {x : List Int} {k : Int} {j : Nat} (h : j < x.length) : iget (x ++ [k]) j = iget x j := by rw [iget_append, if_pos h]
theorem iget_snoc (x : List Int) (k : Int) : iget (x ++ [k]) x.length = k := by rw [iget_append, if_neg (by omega), Nat.sub_self]; rfl
theorem itm_snoc (x : List Int) (k : Nat) : itm (x ++ [(k : Int)]) x.length = k := by unfold itm; rw [iget_snoc]; simp
theorem pcN_zero : ∀ n, pcN n 0 = 0
  | 0 => rfl
  | n + 1 => by simp only [pcN]; rw [pcN_zero n]; simp [bt]
theorem left_snoc {n : Nat} {x : List Int} {k : Int} : ∀ i, i ≤ x.length → left n (x ++ [k]) i = left n x i := fun i hi => left_congr i fun j hj => itm_snoc_lt (by omega)
structure Wk (n : Nat) (c : Nat → Nat → Int) (T : Nat → Int) (x : List Int) (i s : Nat) : Prop where
  len : x.length = i
  le : i ≤ n
  eqs : s = left n x i
  lt : s < 2 ^ n
  pc : pcN n s = n - i
  bit : ∀ k, k < n → bt s k = if ∃ j, j < i ∧ itm x j = k then 0 else 1
  rng : ∀ j, j < i → 0 ≤ iget x j ∧ itm x j < n
  inj : ∀ j j', j < i → j' < i → itm x j = itm x j' → j = j'
  met : ∀ j, j < i → T (left n x j) = T (left n x j - 2 ^ itm x j) + c j (itm x j)
  first : ∀ j, j < i → ∀ k, k < itm x j → bt (left n x j) k = 1 → T (left n x j) ≠ T (left n x j - 2 ^ k) + c j k
theorem Wk.zero {n : Nat} {c : Nat → Nat → Int} {T : Nat → Int} (h7 : n ≤ 7) : Wk n c T [] 0 (2 ^ n - 1) := by
  have h0 : 0 < 2 ^ n := Nat.pow_pos (by omega)
  refine ⟨rfl, by omega, rfl, by omega, by rw [pcN_full h7 n (Nat.le_refl _), Nat.sub_zero], fun k hk => ?_, fun j h => absurd h (Nat.not_lt_zero j), fun j j' h => absurd h (Nat.not_lt_zero j), fun j h => absurd h (Nat.not_lt_zero j), fun j h => absurd h (Nat.not_lt_zero j)⟩
  rw [bt_full n (by omega) k (by omega), if_pos hk, if_neg]
  rintro ⟨j, h, _⟩; omega
theorem Wk.next {n : Nat} {c : Nat → Nat → Int} {T : Nat → Int} {x : List Int} {i s k : Nat} (h : Wk n c T x i s) (h7 : n ≤ 7) (hi : i < n) (hk : k < n) (hb : bt s k = 1) (hm : T s = T (s - 2 ^ k) + c i k) (hf : ∀ j, j < k → bt s j = 1 → T s ≠ T (s - 2 ^ j) + c i j) :
    Wk n c T (x ++ [(k : Int)]) (i + 1) (s - 2 ^ k) := by
  obtain rfl := h.len
  have h128 := pow_128 h7
  have hlt := h.lt
  obtain ⟨b1, b2⟩ := bt_all s (by omega) k (by omega) hb
  have h4 := pcN_sub (by omega) (by omega) hb n h7
  rw [if_pos hk, h.pc] at h4
  have ek := itm_snoc x k
  have hs := h.eqs
  have hnew : ¬ ∃ j, j < x.length ∧ itm x j = k := fun he => by
    have := h.bit k hk
    rw [if_pos he] at this; omega
  refine ⟨by simp, by omega, ?_, Nat.lt_of_le_of_lt (Nat.sub_le _ _) hlt, by omega, fun q hq => ?_, fun j hj => ?_, fun j j' hj hj' e => ?_, fun j hj => ?_, fun j hj q hq hb' => ?_⟩
  · show s - 2 ^ k = left n (x ++ [(k : Int)]) x.length - 2 ^ itm (x ++ [(k : Int)]) x.length
    rw [ek, left_snoc _ (Nat.le_refl _), ← hs]
  · rw [b2 q (by omega), h.bit q hq]
    by_cases e : q = k
    · rw [if_pos e, if_pos ⟨x.length, by omega, by rw [ek, e]⟩]
    · rw [if_neg e]
      have e2 : (∃ j, j < x.length + 1 ∧ itm (x ++ [(k : Int)]) j = q) ↔ ∃ j, j < x.length ∧ itm x j = q := by
        constructor
        · rintro ⟨j, hj, ej⟩
          by_cases e3 : j = x.length
          · rw [e3, ek] at ej; exact absurd ej.symm e
          · exact ⟨j, by omega, by rw [← ej, itm_snoc_lt (by omega)]⟩
        · rintro ⟨j, hj, ej⟩; exact ⟨j, by omega, by rw [itm_snoc_lt hj]; exact ej⟩
      simp only [e2]
  · by_cases e : j = x.length
    · rw [e, ek, iget_snoc]; omega
    · rw [iget_snoc_lt (by omega), itm_snoc_lt (by omega)]; exact h.rng j (by omega)
  · by_cases e1 : j = x.length
    · by_cases e2 : j' = x.length
      · omega
      · rw [e1, ek, itm_snoc_lt (by omega)] at e
        exact absurd ⟨j', by omega, e.symm⟩ hnew
    · by_cases e2 : j' = x.length
      · rw [e2, ek, itm_snoc_lt (by omega)] at e
        exact absurd ⟨j, by omega, e⟩ hnew
      · rw [itm_snoc_lt (by omega), itm_snoc_lt (by omega)] at e
        exact h.inj j j' (by omega) (by omega) e
  · by_cases e : j = x.length
    · rw [e, ek, left_snoc _ (Nat.le_refl _), ← hs]; exact hm
    · rw [itm_snoc_lt (by omega), left_snoc _ (by omega)]; exact h.met j (by omega)
  · by_cases e : j = x.length
    · rw [e, ek] at hq
      rw [e, left_snoc _ (Nat.le_refl _), ← hs] at hb' ⊢
      exact hf q hq hb'
    · rw [itm_snoc_lt (by omega)] at hq
      rw [left_snoc _ (by omega)] at hb' ⊢
      exact h.first j (by omega) q hq hb'
theorem Wk.has {n : Nat} {c : Nat → Nat → Int} {T : Nat → Int} {x : List Int} {i s : Nat} (h : Wk n c T x i s) (hT : Tab n c T) (hi : i < n) : ∃ k, k < n ∧ bt s k = 1 ∧ T s = T (s - 2 ^ k) + c i k := by
  have h0 : 0 < s := Nat.pos_of_ne_zero fun e => by
    have := h.pc
    rw [e, pcN_zero] at this; omega
  obtain ⟨k, h1, h2, h3⟩ := hT.at' s h0 h.lt
  rw [h.pc, show n - (n - i) = i by omega] at h3
  exact ⟨k, h1, h2, h3⟩
theorem Wk.greedy {n : Nat} {c : Nat → Nat → Int} {T : Nat → Int} {x : List Int} {s : Nat} (h : Wk n c T x n s) : Greedy n c T x :=
  ⟨isA_of h.len (fun r hr => (h.rng r hr).1) ⟨fun r hr => (h.rng r hr).2, fun r q hr hq e => h.inj r q hr hq e⟩, h.met, h.first⟩
end Go.Proofs.Ytcgaojnfgkfnkaa
