/- RotaTurns: for every input the law returns true, and each argument reads as it read before; no condition. -/
import Derived.Test.YtcgaojnfgkfnkaaTopRotaAddsm1
import Derived.Test.YtcgaojnfgkfnkaaTopRotaFairm4
import Derived.Test.YtcgaojnfgkfnkaaTopRotaAddsm3
import Derived.Test.YtcgaojnfgkfnkaaTopRotaAddsm2
import Derived.Test.YtcgaojnfgkfnkaaTopRotaCheapestm14
import Derived.ChangeOld
namespace Go.Proofs.Ytcgaojnfgkfnkaa
set_option linter.unusedVariables false
set_option linter.unusedSimpArgs false

theorem mod_inj {N c j j' : Nat} (h1 : 1 ≤ N) (h12 : N ≤ 12) (hj : j < N) (hj' : j' < N) (e : (c + j) % N = (c + j') % N) : j = j' := by
  have : N = 1 ∨ N = 2 ∨ N = 3 ∨ N = 4 ∨ N = 5 ∨ N = 6 ∨ N = 7 ∨ N = 8 ∨ N = 9 ∨ N = 10 ∨ N = 11 ∨ N = 12 := by omega
  rcases this with rfl | rfl | rfl | rfl | rfl | rfl | rfl | rfl | rfl | rfl | rfl | rfl <;> omega
def trnR (N t : Nat) : List Int := (List.range N).map (trnF N t)
theorem trnR_len (N t : Nat) : (trnR N t).length = N := by simp [trnR]
theorem trnR_get {N t i : Nat} (hi : i < N) : iget (trnR N t) i = trnF N t i := by simp [trnR, iget, hi]
theorem trnR_itm {N t i : Nat} (hi : i < N) : itm (trnR N t) i = (t + i) % N := by
  unfold itm
  rw [trnR_get hi]
  unfold trnF
  rw [Int.toNat_natCast, Nat.add_mod_mod, Nat.add_comm]
theorem trnR_isA {N t : Nat} (h1 : 1 ≤ N) (h12 : N ≤ 12) : IsA (trnR N t) N := by
  refine isA_of (trnR_len _ _) (fun i hi => by rw [trnR_get hi]; exact (trnF_lt h1).1) ⟨fun i hi => ?_, fun i j hi hj e => ?_⟩
  · rw [trnR_itm hi]; exact Nat.mod_lt _ (by omega)
  · rw [trnR_itm hi, trnR_itm hj] at e
    exact mod_inj h1 h12 hi hj e
theorem trn_ok {N t : Nat} (h1 : 1 ≤ N) (h12 : N ≤ 12) : trnE N t = 0 ∧ trnL N t = trnR N t := by
  have hb : ¬ ((N : Int) < 1 ∨ 12 < (N : Int) ∨ (t : Int) < 0) := by omega
  exact ⟨trnE_ok hb, trnL_ok hb⟩
/-- The weeks one after the other. -/
def trnM (N t m : Nat) : List (List Int) := (List.range m).map fun j => trnR N (t + j)
theorem trnM_len (N t m : Nat) : (trnM N t m).length = m := by simp [trnM]
theorem trnM_get {N t m j : Nat} (hj : j < m) : rget (trnM N t m) j = trnR N (t + j) := by simp [trnM, rget, hj]
theorem trnM_succ (N t m : Nat) : trnM N t (m + 1) = trnM N t m ++ [trnR N (t + m)] := by simp [trnM, List.range_succ]
theorem addA_at {v r : List (List Int)} {i k : Nat} (hi : i < v.length) (hr : ∀ i, i < v.length → (rget v i).length = v.length) : ∀ m, (∀ t, t < m → IsA (rget r t) v.length) →
    (∀ j, j < v.length → (rget (addA v r m) j).length = v.length) ∧ iget (rget (addA v r m) i) k = iget (rget v i) k + sumTo (fun t => if itm (rget r t) i = k then 1 else 0) m
  | 0, _ => ⟨hr, by show _ = _ + (0 : Int); rw [Int.add_zero]; rfl⟩
  | m + 1, hw => by
    obtain ⟨ih1, ih2⟩ := addA_at (k := k) hi hr m (fun t ht => hw t (by omega))
    have hA := hw m (by omega)
    refine ⟨fun j hj => ?_, ?_⟩
    · show (rget (addW (addA v r m) (rget r m)) j).length = _
      rw [addW_row (by rw [addA_len]; exact hj), List.length_set]; exact ih1 j hj
    · show iget (rget (addW (addA v r m) (rget r m)) i) k = _
      rw [addW_at (by rw [addA_len]; exact hi) (by rw [ih1 i hi]; exact (isA_lt hA i hi).2), ih2, sumTo_s]
      omega
theorem addA_col {v r : List (List Int)} {k : Nat} (hk : k < v.length) (hr : ∀ i, i < v.length → (rget v i).length = v.length) (m : Nat) (hw : ∀ t, t < m → IsA (rget r t) v.length) : colS (addA v r m) k = colS v k + m := by
  unfold colS
  rw [addA_len, sumTo_congr (fun i hi => (addA_at (k := k) hi hr m hw).2), sumTo_add, sumTo_swap (fun i t => if itm (rget r t) i = k then (1 : Int) else 0)]
  rw [sumTo_congr (f := fun t => sumTo (fun i => if itm (rget r t) i = k then (1 : Int) else 0) v.length) (g := fun _ => 1) (fun t ht => by
    rw [(isA_per (hw t ht)).sum (fun x => if x = k then (1 : Int) else 0), sumTo_congr (f := fun x => if x = k then (1 : Int) else 0) (g := fun x => if k = x then (1 : Int) else 0) (fun x _ => by
      by_cases e : x = k
      · rw [if_pos e, if_pos e.symm]
      · rw [if_neg e, if_neg (fun h => e h.symm)]), sumTo_one, if_pos hk]), sumTo_const]
  omega
/-- n turning weeks give each agent each shift once. -/
theorem turn_once {N T i k : Nat} (h1 : 1 ≤ N) (h12 : N ≤ 12) (hi : i < N) (hk : k < N) : iget (rget (addA (zeroL N) (trnM N T N) N) i) k = 1 := by
  have h := (addA_at (v := zeroL N) (r := trnM N T N) (i := i) (k := k) (by rw [zeroL_len]; exact hi) (fun i hi => by rw [zeroL_len] at hi ⊢; rw [zeroL_get hi, List.length_replicate]) N (fun t ht => by rw [zeroL_len, trnM_get ht]; exact trnR_isA h1 h12)).2
  rw [h, zeroL_at hi]
  have hp : Per N (fun j => (T + i + j) % N) := ⟨fun j hj => Nat.mod_lt _ (by omega), fun j j' hj hj' e => mod_inj h1 h12 hj hj' e⟩
  rw [sumTo_congr (g := fun j => if (T + i + j) % N = k then (1 : Int) else 0) (fun t ht => by rw [trnM_get ht, trnR_itm hi, show T + t + i = T + i + t by omega]), hp.sum (fun x => if x = k then (1 : Int) else 0),
    sumTo_congr (f := fun x => if x = k then (1 : Int) else 0) (g := fun x => if k = x then (1 : Int) else 0) (fun x _ => by
      by_cases e : x = k
      · rw [if_pos e, if_pos e.symm]
      · rw [if_neg e, if_neg (fun h => e h.symm)]), sumTo_one, if_pos hk]
  rfl
theorem swRow_len (x : List Int) (a b : Nat) : (swRow x a b).length = x.length := by simp [swRow]
theorem swRow_get {x : List Int} {a b : Nat} (ha : a < x.length) (hb : b < x.length) (j : Nat) : iget (swRow x a b) j = iget x (if j = b then a else if j = a then b else j) := by
  unfold swRow
  rw [iget_set (by rw [List.length_set]; exact hb)]
  by_cases e : b = j
  · rw [if_pos e, if_pos e.symm]
  · rw [if_neg e, if_neg (fun h => e h.symm), iget_set ha]
    by_cases e2 : a = j
    · rw [if_pos e2, if_pos e2.symm]
    · rw [if_neg e2, if_neg (fun h => e2 h.symm)]
theorem swRow_twice {x : List Int} {a b : Nat} (ha : a < x.length) (hb : b < x.length) : swRow (swRow x a b) a b = x := by
  apply List.ext_getElem
  · rw [swRow_len, swRow_len]
  · intro j h1 h2
    rw [← iget_of h1, ← iget_of h2, swRow_get (by rw [swRow_len]; exact ha) (by rw [swRow_len]; exact hb), swRow_get ha hb]
    congr 1
    by_cases e : j = b
    · rw [if_pos e]
      by_cases e3 : a = b
      · rw [if_pos e3]; omega
      · rw [if_neg e3, if_pos rfl]; omega
    · rw [if_neg e]
      by_cases e2 : j = a
      · rw [if_pos e2, if_pos rfl]; omega
      · rw [if_neg e2, if_neg e, if_neg e2]
theorem swRow_isA {x : List Int} {n a b : Nat} (h : IsA x n) (ha : a < n) (hb : b < n) : IsA (swRow x a b) n := by
  have hxa : a < x.length := by rw [h.1]; exact ha
  have hxb : b < x.length := by rw [h.1]; exact hb
  have hσ : ∀ j, j < n → (if j = b then a else if j = a then b else j) < n := fun j hj => by
    split
    · exact ha
    · split
      · exact hb
      · exact hj
  have hitm : ∀ j, itm (swRow x a b) j = itm x (if j = b then a else if j = a then b else j) := fun j => by unfold itm; rw [swRow_get hxa hxb]
  refine isA_of (by rw [swRow_len, h.1]) (fun i hi => by rw [swRow_get hxa hxb]; exact (isA_lt h _ (hσ i hi)).1) ⟨fun i hi => ?_, fun i j hi hj e => ?_⟩
  · rw [hitm]; exact (isA_lt h _ (hσ i hi)).2
  · rw [hitm, hitm] at e
    have e2 := (isA_per h).inj _ _ (hσ i hi) (hσ j hj) e
    split at e2 <;> split at e2 <;> (try split at e2) <;> (try split at e2) <;> omega
/-- All that the law asks of a rota of turning weeks. -/
structure TurnsOk (N T A B : Nat) : Prop where
  wk : ∀ t, t < N → IsA (rget (trnM N T N) t) N
  r0 : (rget (trnM N T N) 0).length = N
  wks : WksR (trnM N T N) (trnM N T N).length
theorem wksR_trn {N T : Nat} (h1 : 1 ≤ N) (h12 : N ≤ 12) : WksR (trnM N T N) (trnM N T N).length := fun t ht => by
  rw [trnM_len] at ht
  rw [trnM_get ht, trnM_get (j := 0) (by omega), trnR_len]
  exact isWk_true.2 ⟨h1, h12, trnR_isA h1 h12⟩
theorem trn0_len {N T : Nat} (h1 : 1 ≤ N) : (rget (trnM N T N) 0).length = N := by rw [trnM_get (by omega), trnR_len]
theorem addE_trn {N : Nat} {r : List (List Int)} (h1 : 1 ≤ N) (h12 : N ≤ 12) (hl : r.length = N) (hw : ∀ t, t < N → IsA (rget r t) N) : addE (zeroL N) r = 0 ∧ addR (zeroL N) r = addA (zeroL N) r N := by
  have hC := zeroL_chk h1 h12
  have hwk : WksTo (zeroL N) r r.length := fun t ht => by
    rw [hl] at ht
    rw [zeroL_len]; exact isWk_true.2 ⟨h1, h12, hw t ht⟩
  have hcnt := addA_cnt ((zeroL_cnt h12).mono (by omega)) r.length hwk
  have hno : ¬ OverP (addA (zeroL N) r r.length) := by
    rintro ⟨i, k, hi, hk, h⟩
    rw [addA_len, zeroL_len] at hi hk
    have h2 := (addA_at (v := zeroL N) (r := r) (i := i) (k := k) (by rw [zeroL_len]; exact hi) (fun i hi => by rw [zeroL_len] at hi ⊢; rw [zeroL_get hi, List.length_replicate]) r.length (fun t ht => by rw [zeroL_len]; rw [hl] at ht; exact hw t ht)).2
    rw [zeroL_at hi] at h2
    have h3 : sumTo (fun t => if itm (rget r t) i = k then (1 : Int) else 0) r.length ≤ sumTo (fun _ => 1) r.length := sumTo_le fun t ht => by split <;> omega
    rw [sumTo_const] at h3
    omega
  have hE := addE_ok hC (by rw [hl]; omega) hwk hno
  exact ⟨hE, by rw [addR_ok hE, hl]⟩
theorem swIn_trn {N T : Nat} (h1 : 1 ≤ N) {a b : Int} : SwIn (trnM N T N) 0 a b ↔ (0 ≤ a ∧ 0 ≤ b ∧ a < N ∧ b < N) := by
  unfold SwIn
  rw [trnM_len, trn0_len h1]
  constructor
  · rintro ⟨_, _, h3, h4, h5, h6⟩; exact ⟨h3, h4, h5, h6⟩
  · rintro ⟨h3, h4, h5, h6⟩; exact ⟨by omega, by omega, h3, h4, h5, h6⟩
/-- The exchange, and the exchange again. -/
theorem sw_trn {N T A B : Nat} (h1 : 1 ≤ N) (h12 : N ≤ 12) (hA : A < N) (hB : B < N) :
    swE (trnM N T N) 0 A B = 0 ∧ swR (trnM N T N) 0 A B = swA (trnM N T N) 0 A B ∧ (∀ t, t < N → IsA (rget (swA (trnM N T N) 0 A B) t) N) ∧ swE (swA (trnM N T N) 0 A B) 0 A B = 0 ∧ swR (swA (trnM N T N) 0 A B) 0 A B = trnM N T N := by
  have hl : (trnM N T N).length = N := trnM_len _ _ _
  have h0 : (0 : Nat) < (trnM N T N).length := by omega
  have e1 : swE (trnM N T N) ((0 : Nat) : Int) A B = 0 := swE_ok (by omega) (wksR_trn h1 h12) ((swIn_trn h1).2 ⟨by omega, by omega, by omega, by omega⟩)
  have hget : ∀ t, rget (swA (trnM N T N) 0 A B) t = if 0 = t then swRow (rget (trnM N T N) 0) A B else rget (trnM N T N) t := fun t => by
    unfold swA; rw [rget_set h0]
  have hw : ∀ t, t < N → IsA (rget (swA (trnM N T N) 0 A B) t) N := fun t ht => by
    rw [hget]
    split
    · rw [trnM_get (by omega)]; exact swRow_isA (trnR_isA h1 h12) hA hB
    · rw [trnM_get ht]; exact trnR_isA h1 h12
  have hl0 : (rget (swA (trnM N T N) 0 A B) 0).length = N := (hw 0 (by omega)).1
  have hwR : WksR (swA (trnM N T N) 0 A B) (swA (trnM N T N) 0 A B).length := fun t ht => by
    rw [swA_len, hl] at ht
    rw [hl0]; exact isWk_true.2 ⟨h1, h12, hw t ht⟩
  have e2 : swE (swA (trnM N T N) 0 A B) ((0 : Nat) : Int) A B = 0 := swE_ok (by rw [swA_len]; omega) hwR ⟨by omega, by rw [swA_len]; omega, by omega, by omega, by rw [hl0]; omega, by rw [hl0]; omega⟩
  refine ⟨e1, swR_ok e1, hw, e2, ?_⟩
  have e3 := swR_ok e2
  refine Eq.trans e3 ?_
  unfold swA
  rw [rget_set h0, if_pos rfl, List.set_set, swRow_twice (by rw [trn0_len h1]; exact hA) (by rw [trn0_len h1]; exact hB)]
  apply List.ext_getElem
  · simp
  · intro j h1' h2'
    rw [List.getElem_set]
    split
    · rename_i e; subst e; exact rget_of h0
    · rfl
end Go.Proofs.Ytcgaojnfgkfnkaa

/- The walk of RotaTurns: turning weeks give each agent each shift once, and exchanges; no condition. -/
namespace Go.Proofs.Ytcgaojnfgkfnkaa
set_option linter.unusedVariables false
set_option linter.unusedSimpArgs false
open Go.ChangeShapes Go.WideShapes Go.ChangeAt Go.RowKit Go.Deep

set_option maxHeartbeats 32000000 in
set_option maxRecDepth 100000 in
theorem rotaTurns_walk (n t a b : Int) (w : World) (_ : in64 n) (_ : in64 t) (_ : in64 a) (_ : in64 b) :
    Calls Try.prog 8 #[.int .i64 n, .int .i64 t, .int .i64 a, .int .i64 b] w fun e w' => e = .returned (.bool true) ∧ Below w.heap.size w w' := by
  go_enter Try.func8, Try.ntmps8
  go_wp2_with fail
  refine (alive32_any _).mono ?_
  rintro e w1 ⟨rfl, hbw⟩
  by_cases hn1 : n < 1
  · have hd1 : decide (n < 1) = true := by simpa using hn1
    clear hn1
    go_wp2_with fail
    go_ret
    exact ⟨rfl, hbw⟩
  have hd1 : decide (n < 1) = false := by simpa using hn1
  by_cases hn12 : 12 < n
  · have hd2 : decide (12 < n) = true := by simpa using hn12
    clear hn1 hn12
    go_wp2_with fail
    go_ret
    exact ⟨rfl, hbw⟩
  have hd2 : decide (12 < n) = false := by simpa using hn12
  by_cases ht0 : t < 0
  · have hd3 : decide (t < 0) = true := by simpa using ht0
    clear hn1 hn12 ht0
    go_wp2_with fail
    go_ret
    exact ⟨rfl, hbw⟩
  have hd3 : decide (t < 0) = false := by simpa using ht0
  by_cases htb : 1000000 < t
  · have hd4 : decide (1000000 < t) = true := by simpa using htb
    clear hn1 hn12 ht0 htb
    go_wp2_with fail
    go_ret
    exact ⟨rfl, hbw⟩
  have hd4 : decide (1000000 < t) = false := by simpa using htb
  obtain ⟨N, rfl⟩ : ∃ N : Nat, n = N := ⟨n.toNat, by omega⟩
  obtain ⟨T, rfl⟩ : ∃ T : Nat, t = T := ⟨t.toNat, by omega⟩
  have h1 : 1 ≤ N := by omega
  have h12 : N ≤ 12 := by omega
  have hT : T ≤ 1000000 := by omega
  have CT : Hid (∀ (W : World) (s : Nat), Calls Try.prog 20 #[.int .i64 (N : Int), .int .i64 (s : Int)] W (GivesI W (trnR N s) 0)) := fun W s => by
    have h := turning_any (N : Int) (s : Int) W
    rwa [(trn_ok h1 h12).1, (trn_ok h1 h12).2] at h
  have Hs1 := Lib.hid hbw.size
  clear hn1 hn12 ht0 htb
  go_wp2_with fail
  go_loopw [10, 11] (fun oo kk wk => ∃ i : Nat, i ≤ N ∧ kk = .int .i64 i ∧ (∃ u p' c' Q D, Hid (u = trnM N T i) ∧ oo = .slice p' (u : List (List Int)).length c' ∧ TMat wk w1.heap.size p' c' u Q D) ∧ Below w1.heap.size w1 wk) (fun _ kk _ => N - (intOf kk).toNat)
  case atStart => exact ⟨0, by omega, rfl, ⟨[], none, 0, fun _ => none, fun _ => 0, rfl, rfl, TMat.ofNil _ _⟩, Below.refl _ _⟩
  case round =>
    obtain ⟨i, hi, rfl, ⟨u, p', c', Q, D, hu, rfl, hTm⟩, hB⟩ := hrel
    by_cases hli : i < N
    · have hi1 : (i : Int) < N := by omega
      have hw : IntKind.i64.wrap ((T : Int) + i) = ((T + i : Nat) : Int) := by rw [show (T : Int) + i = ((T + i : Nat) : Int) by omega]; exact IntWalk.i64_in _ (by omega)
      have Hsucc := Lib.hid (trnM_succ N T i)
      have CTi := CT.out wr (T + i)
      obtain ⟨s, es⟩ : ∃ s, T + i = s := ⟨_, rfl⟩
      rw [es] at hw CTi Hsucc
      obtain ⟨R, eR⟩ : ∃ R, trnR N s = R := ⟨_, rfl⟩
      rw [eR] at CTi Hsucc
      have CTh := Lib.hid CTi
      have hul : u.length ≤ 900000 := by rw [hu.out, trnM_len]; omega
      clear CTi es eR
      go_wp2_with fail
      refine CTh.out.mono ?_
      rintro e w3 ⟨p3, c3, rfl, hI3, hfr, hb3⟩
      have hsz := hB.size
      have hT3 := hTm.below hb3 (Nat.le_refl _)
      have hsz3 : w1.heap.size ≤ w3.heap.size := Nat.le_trans hsz hb3.size
      have hB3 := hB.trans (hb3.mono hsz)
      have hsep : 0 < R.length → ∀ k, blk p3 = some k → blk p' ≠ some k := fun _ k hk e => by
        have h1 := hfr k hk
        have h2 := (hTm.lt k e).2
        omega
      clear hb3 hTm hB CTh hfr
      go_wp2_with (at_builtin; refine wpList_appRow rfl (.tmp 62) (.tmp 64) rfl w1.heap.size _ _ u Q D p3 c3 R rfl rfl rfl hT3 hI3 hsep hul hsz3 ?_; intro p4 c4 w4 u4 hu4 hT4 hg4 hf4)
      have hB4 : Below w1.heap.size w1 w4 := hB3.grown hg4 hsz3 (fun k e => (hT3.lt k e).1)
      go_roundw
      case rel => exact ⟨i + 1, by omega, by go_num, ⟨_, _, _, _, _, by rw [Hsucc.out, ← hu.out]; exact hu4, rfl, hT4⟩, hB4⟩
      case measure => simp [intOf]; omega
    · have hi1 : ¬ (i : Int) < N := by omega
      obtain rfl : i = N := by omega
      have hM0 := hTm.mat
      have hS : St w wr wr.heap.size [] := ⟨rfl, hbw.trans (hB.mono Hs1.out), fun _ h => by cases h⟩
      have hul := Lib.hid (show u.length = i by rw [hu.out, trnM_len])
      have HU := Lib.hid hu.out
      replace hS := hS.addM rfl hM0
      have CZ : Hid (∀ W, Calls Try.prog 30 #[.int .i64 (i : Int)] W (GivesD W (zeroL i))) := fun W => zeros_any i W (by omega)
      have hE1 := addE_trn (r := trnM i T i) h1 h12 (trnM_len _ _ _) (fun t ht => by rw [trnM_get ht]; exact trnR_isA h1 h12)
      rw [← HU.out] at hE1
      have hD1l := Lib.hid (show (addA (zeroL i) u i).length = i by rw [addA_len, zeroL_len])
      have hD1r : Hid (∀ j, j < i → (rget (addA (zeroL i) u i) j).length = i) := fun j hj => by
        have := (addA_at (v := zeroL i) (r := u) (i := 0) (k := 0) (by rw [zeroL_len]; omega) (fun i hi => by rw [zeroL_len] at hi ⊢; rw [zeroL_get hi, List.length_replicate]) i (fun t ht => by rw [zeroL_len, HU.out, trnM_get ht]; exact trnR_isA h1 h12)).1 j (by rw [zeroL_len]; exact hj)
        rwa [zeroL_len] at this
      have hD1e : Hid (∀ j k, j < i → k < i → iget (rget (addA (zeroL i) u i) j) k = 1) := fun j k hj hk => by rw [HU.out]; exact turn_once h1 h12 hj hk
      obtain ⟨Z0, eZ0⟩ : ∃ Z, zeroL i = Z := ⟨_, rfl⟩
      obtain ⟨D1, eD1⟩ : ∃ Z, addA (zeroL i) u i = Z := ⟨_, rfl⟩
      have CA1 : Hid (∀ W q d q' d', Mat W q d Z0 → Mat W q' d' u → Calls Try.prog 25 #[.slice q Z0.length d, .slice q' u.length d'] W (GivesMt W D1 0)) := fun W q d q' d' hM hM' => by
        have h := add32_any q q' d d' Z0 u W hM hM'
        rw [← eZ0] at h ⊢
        rwa [hE1.1, hE1.2, eD1] at h
      rw [eD1] at hD1l hD1r hD1e
      rw [eZ0] at CZ
      have EZ0 := Lib.hid eZ0
      have hq1 : ((D1.length : Int) != (i : Int)) = false := by simp [hD1l.out]
      clear hTm hM0 hB hu hE1 eZ0 eD1 CT
      go_wp2_with fail
      refine (CZ.out _).mono ?_
      rintro e w2 ⟨qz, dz, Qz, Dz, rfl, hDz, hb⟩
      replace hS := hS.step hb
      replace hS := hS.addM rfl hDz.mat
      clear hb hDz
      go_wp2_with fail
      refine (CA1.out _ _ _ _ _ (hS.matAt 0 rfl) (hS.matAt 1 rfl)).mono ?_
      rintro e w3 ⟨q3, d3, rfl, hM, hb⟩
      replace hS := hS.step hb
      replace hS := hS.addM rfl hM
      clear hb CA1
      go_wp2_with fail
      go_loop [16] (fun ii => ∃ j : Nat, j ≤ i ∧ ii = .int .i64 j) (fun ii => i - (intOf ii).toNat)
      case atStart => exact ⟨0, by omega, rfl⟩
      case round =>
        obtain ⟨j, hj, rfl⟩ := hrel
        by_cases hlj : j < i
        · have hj1 : (j : Int) < i := by omega
          go_wp2_with fail
          go_loop [17] (fun kk => ∃ k : Nat, k ≤ i ∧ kk = .int .i64 k) (fun kk => i - (intOf kk).toNat)
          case atStart => exact ⟨0, by omega, rfl⟩
          case round =>
            obtain ⟨k, hk, rfl⟩ := hrel
            by_cases hlk : k < i
            · have hk1 : (k : Int) < i := by omega
              obtain ⟨b2, o2, rfl, _, q2, d2, hc, hI⟩ := hM.get (j := j) (by rw [hD1l.out]; exact hlj)
              have hrl := hD1r.out j hlj
              obtain ⟨b3, o3, rfl, _, ck⟩ := hI.get (j := k) (by rw [hrl]; exact hlk)
              rw [hrl] at hc
              rw [hD1e.out j k hlj hlk] at ck
              have hjD : (j : Int) < D1.length := by rw [hD1l.out]; exact hj1
              have hq0 : ((i : Int) != (i : Int)) = false := by simp
              clear hI hrl
              go_wp2_with fail
              go_round
              case rel => exact ⟨k + 1, by omega, by go_num⟩
              case measure => simp [intOf]; omega
            · have hk1 : ¬ (k : Int) < i := by omega
              obtain rfl : k = i := by omega
              go_wp2_with fail
              go_round
              case rel => exact ⟨j + 1, by omega, by go_num⟩
              case measure => simp [intOf]; omega
        · have hj1 : ¬ (j : Int) < i := by omega
          obtain rfl : j = i := by omega
          clear hM hD1r hD1e hD1l hq1
          have hr0 : (rget u 0).length ≤ 1000000 := by rw [HU.out, trn0_len h1]; omega
          by_cases hin : ¬ (0 ≤ a ∧ 0 ≤ b ∧ a < j ∧ b < j)
          · have hE := swE_arg (r := trnM j T j) (m := 0) (a := a) (b := b) (by rw [trnM_len]; omega) (wksR_trn h1 h12) (fun h => hin ((swIn_trn h1).1 h))
            have hR := swR_bad (r := trnM j T j) (m := 0) (a := a) (b := b) (by rw [hE]; omega)
            have CS := swap32_any p' c' u 0 a b w3 (hS.matAt 2 rfl) hr0
            rw [HU.out, hE, hR, ← HU.out] at CS
            have CSh := Lib.hid CS
            clear CS hE hR
            go_wp2_with fail
            refine CSh.out.mono ?_
            rintro e w4 ⟨q4, d4, rfl, hM4, hb⟩
            replace hS := hS.step hb
            clear hM4 hb CSh
            by_cases ha0 : a < 0
            · have hd5 : decide (a < 0) = true := by simpa using ha0
              clear ha0 hin
              go_wp2_with fail
              go_ret
              exact ⟨rfl, hS.bel⟩
            have hd5 : decide (a < 0) = false := by simpa using ha0
            by_cases hb0 : b < 0
            · have hd6 : decide (b < 0) = true := by simpa using hb0
              clear ha0 hb0 hin
              go_wp2_with fail
              go_ret
              exact ⟨rfl, hS.bel⟩
            have hd6 : decide (b < 0) = false := by simpa using hb0
            by_cases haN : (j : Int) ≤ a
            · have hd7 : decide ((j : Int) ≤ a) = true := by simpa using haN
              clear ha0 hb0 haN hin
              go_wp2_with fail
              go_ret
              exact ⟨rfl, hS.bel⟩
            have hd7 : decide ((j : Int) ≤ a) = false := by simpa using haN
            have hbN : (j : Int) ≤ b := by omega
            have hd8 : decide ((j : Int) ≤ b) = true := by simpa using hbN
            clear ha0 hb0 haN hbN hin
            go_wp2_with fail
            go_ret
            exact ⟨rfl, hS.bel⟩
          · replace hin : 0 ≤ a ∧ 0 ≤ b ∧ a < j ∧ b < j := Classical.not_not.1 hin
            obtain ⟨A, rfl⟩ : ∃ A : Nat, a = A := ⟨a.toNat, by omega⟩
            obtain ⟨B, rfl⟩ : ∃ B : Nat, b = B := ⟨b.toNat, by omega⟩
            have hA : A < j := by omega
            have hB : B < j := by omega
            obtain ⟨s1, s2, s3, s4, s5⟩ := sw_trn (N := j) (T := T) h1 h12 hA hB
            have CS := swap32_any p' c' u 0 A B w3 (hS.matAt 2 rfl) hr0
            rw [HU.out, s1, s2, ← HU.out] at CS
            have hsl := swA_len (trnM j T j) 0 A B
            rw [trnM_len] at hsl
            have hs0 : (rget (swA (trnM j T j) 0 A B) 0).length ≤ 1000000 := by rw [(s3 0 (by omega)).1]; omega
            have hE2 := addE_trn (r := swA (trnM j T j) 0 A B) h1 h12 hsl s3
            have hD2l := Lib.hid (show (addA (zeroL j) (swA (trnM j T j) 0 A B) j).length = j by rw [addA_len, zeroL_len])
            have hzr : ∀ i, i < (zeroL j).length → (rget (zeroL j) i).length = (zeroL j).length := fun i hi => by rw [zeroL_len] at hi ⊢; rw [zeroL_get hi, List.length_replicate]
            have hD2r : Hid (∀ i, i < j → (rget (addA (zeroL j) (swA (trnM j T j) 0 A B) j) i).length = j) := fun i hi => by
              have := (addA_at (v := zeroL j) (r := swA (trnM j T j) 0 A B) (i := 0) (k := 0) (by rw [zeroL_len]; omega) hzr j (fun t ht => by rw [zeroL_len]; exact s3 t ht)).1 i (by rw [zeroL_len]; exact hi)
              rwa [zeroL_len] at this
            have hcnt := addA_cnt (v := zeroL j) (r := swA (trnM j T j) 0 A B) ((zeroL_cnt h12).mono (by omega)) j (fun t ht => by rw [zeroL_len]; exact isWk_true.2 ⟨h1, h12, s3 t ht⟩)
            have hD2b : Hid (∀ i k, i < j → k < j → 0 ≤ iget (rget (addA (zeroL j) (swA (trnM j T j) 0 A B) j) i) k ∧ iget (rget (addA (zeroL j) (swA (trnM j T j) 0 A B) j) i) k ≤ 412) := fun i k hi hk => by
              have := hcnt.cb i k (by rw [addA_len, zeroL_len]; exact hi) (by rw [addA_len, zeroL_len]; exact hk)
              omega
            have hD2c : Hid (∀ k, k < j → sumTo (fun i => iget (rget (addA (zeroL j) (swA (trnM j T j) 0 A B) j) i) k) j = j) := fun k hk => by
              have h := addA_col (v := zeroL j) (r := swA (trnM j T j) 0 A B) (k := k) (by rw [zeroL_len]; exact hk) hzr j (fun t ht => by rw [zeroL_len]; exact s3 t ht)
              have hz : colS (zeroL j) k = 0 := by
                unfold colS
                rw [sumTo_congr (g := fun _ => 0) (fun i hi => zeroL_at (by rw [zeroL_len] at hi; exact hi)), sumTo_const]; omega
              rw [hz] at h
              unfold colS at h
              rw [addA_len, zeroL_len] at h
              rw [h]; omega
            obtain ⟨S, eS⟩ : ∃ S, swA (trnM j T j) 0 A B = S := ⟨_, rfl⟩
            obtain ⟨D2, eD2⟩ : ∃ D, addA (zeroL j) S j = D := ⟨_, rfl⟩
            rw [HU.out, eS, ← HU.out] at CS
            rw [eS] at s4 s5 hs0 hE2 hD2l hD2r hD2b hD2c
            rw [eD2] at hE2 hD2l hD2r hD2b hD2c
            have CS2 : Hid (∀ W q d, Mat W q d S → Calls Try.prog 27 #[.slice q S.length d, .int .i64 0, .int .i64 (A : Int), .int .i64 (B : Int)] W (GivesMt W u 0)) := fun W q d hM => by
              have h := swap32_any q d S 0 A B W hM hs0
              rw [s4, s5] at h
              rw [HU.out]; exact h
            have CA2 : Hid (∀ W q d q' d', Mat W q d Z0 → Mat W q' d' S → Calls Try.prog 25 #[.slice q Z0.length d, .slice q' S.length d'] W (GivesMt W D2 0)) := fun W q d q' d' hM hM' => by
              have h := add32_any q q' d d' Z0 S W hM hM'
              rw [← EZ0.out] at h ⊢
              rwa [hE2.1, hE2.2] at h
            have CSh := Lib.hid CS
            have hd5 : decide ((A : Int) < 0) = false := by simp
            have hd6 : decide ((B : Int) < 0) = false := by simp
            have hd7 : decide ((j : Int) ≤ A) = false := by rw [decide_eq_false_iff_not]; omega
            have hd8 : decide ((j : Int) ≤ B) = false := by rw [decide_eq_false_iff_not]; omega
            have hd7n : decide (j ≤ A) = false := by rw [decide_eq_false_iff_not]; omega
            have hd8n : decide (j ≤ B) = false := by rw [decide_eq_false_iff_not]; omega
            have hq2 : ((D2.length : Int) != (j : Int)) = false := by simp [hD2l.out]
            clear s1 s2 s3 s4 s5 CS hsl hs0 hE2 hzr hcnt eS eD2 hin hr0
            go_wp2_with fail
            refine CSh.out.mono ?_
            rintro e w4 ⟨q4, d4, rfl, hM4, hb⟩
            replace hS := hS.step hb
            replace hS := hS.addM rfl hM4
            clear hM4 hb CSh
            go_wp2_with fail
            refine (CS2.out _ _ _ (hS.matAt 0 rfl)).mono ?_
            rintro e w5 ⟨q5, d5, rfl, hM5, hb⟩
            replace hS := hS.step hb
            replace hS := hS.addM rfl hM5
            clear hM5 hb CS2
            go_wp2_with fail
            refine (CZ.out _).mono ?_
            rintro e w6 ⟨q6, d6, Q6, D6, rfl, hD6, hb⟩
            replace hS := hS.step hb
            replace hS := hS.addM rfl hD6.mat
            clear hD6 hb
            go_wp2_with fail
            refine (CA2.out _ _ _ _ _ (hS.matAt 0 rfl) (hS.matAt 2 rfl)).mono ?_
            rintro e w7 ⟨q7, d7, rfl, hM7, hb⟩
            replace hS := hS.step hb
            replace hS := hS.addM rfl hM7
            clear hb CA2 hM7
            go_wp2_with fail
            refine (same32_t (v := u) (hS.matAt 6 rfl) (hS.matAt 2 rfl)).mono ?_
            rintro e w8 ⟨rfl, hw8⟩
            replace hS := hS.drew hw8
            clear hw8
            have hM := hS.matAt 0 rfl
            have hbel := hS.bel
            clear hS
            go_wp2_with fail
            go_loop [24] (fun kk => ∃ k : Nat, k ≤ j ∧ kk = .int .i64 k) (fun kk => j - (intOf kk).toNat)
            case atStart => exact ⟨0, by omega, rfl⟩
            case round =>
              obtain ⟨k, hk, rfl⟩ := hrel
              by_cases hlk : k < j
              · have hk1 : (k : Int) < j := by omega
                have hcol := Lib.hid (hD2c.out k hlk)
                go_wp2_with fail
                go_loop [25, 26] (fun ss ii => ∃ i : Nat, i ≤ j ∧ ii = .int .i64 i ∧ ss = .int .i64 (sumTo (fun i => iget (rget D2 i) k) i)) (fun _ ii => j - (intOf ii).toNat)
                case atStart => exact ⟨0, by omega, rfl, rfl⟩
                case round =>
                  obtain ⟨i, hi, rfl, rfl⟩ := hrel
                  by_cases hli : i < j
                  · have hi1 : (i : Int) < j := by omega
                    obtain ⟨b2, o2, rfl, _, q2, d2, hc, hI⟩ := hM.get (j := i) (by rw [hD2l.out]; exact hli)
                    have hrl := hD2r.out i hli
                    obtain ⟨b3, o3, rfl, _, ck⟩ := hI.get (j := k) (by rw [hrl]; exact hlk)
                    rw [hrl] at hc
                    have hbd := sumTo_bound (f := fun i => iget (rget D2 i) k) (m := 412) (n := j) (fun i hi => hD2b.out i k hi hlk) i hi
                    have hx := hD2b.out i k hli hlk
                    have hSt := Lib.hid (sumTo_s (fun i => iget (rget D2 i) k) i)
                    obtain ⟨X, eX⟩ : ∃ X, sumTo (fun i => iget (rget D2 i) k) i = X := ⟨_, rfl⟩
                    obtain ⟨Y, eY⟩ : ∃ Y, iget (rget D2 i) k = Y := ⟨_, rfl⟩
                    have hSt2 : Hid (sumTo (fun i => iget (rget D2 i) k) (i + 1) = X + Y) := by unfold Hid; rw [hSt.out, eX, eY]
                    rw [eX] at hbd
                    rw [eY] at ck hx
                    rw [eX]
                    have hw : IntKind.i64.wrap (X + Y) = X + Y := IntWalk.i64_in _ (by omega)
                    have hiD : (i : Int) < D2.length := by rw [hD2l.out]; exact hi1
                    have hq0 : ((j : Int) != (j : Int)) = false := by simp
                    clear hI hrl hbd hx hSt eX eY
                    go_wp2_with fail
                    go_round
                    case rel => exact ⟨i + 1, by omega, by go_num, by rw [hSt2.out]⟩
                    case measure => simp [intOf]; omega
                  · have hi1 : ¬ (i : Int) < j := by omega
                    obtain rfl : i = j := by omega
                    rw [hcol.out]
                    have hq0 : ((i : Int) != (i : Int)) = false := by simp
                    go_wp2_with fail
                    go_round
                    case rel => exact ⟨k + 1, by omega, by go_num⟩
                    case measure => simp [intOf]; omega
              · have hk1 : ¬ (k : Int) < j := by omega
                go_wp2_with fail
                go_ret
                exact ⟨rfl, hbel⟩
end Go.Proofs.Ytcgaojnfgkfnkaa

/- RotaTurns: for every input the law returns true, and each argument reads as it read before; no condition. -/
namespace Go.Proofs.Ytcgaojnfgkfnkaa.RotaTurnsTop
open Go.ChangeShapes Go.WideShapes Go.ChangeAt Go.RowKit Go.Deep
set_option linter.unusedVariables false

set_option maxRecDepth 100000 in
theorem lifted (os : Os) (started : os.Started) (H : Type) (enc : TypeId × Value → H) :
    ReturnsInHanded {} Try.checked os 8 .any (Rows.rotaTurnsSpec.pre6 enc Try.prog Try.f8 Rows.rotaTurnsRow.domain false) (Rows.rotaTurnsSpec.post enc Try.prog Try.f8 false true false false) := by
  refine returnsInHanded_of_change (C := Try.checked) own started (by kernel_rfl) Try.func8
    (ChangeSpec.witness6 (enc := enc) (C := Try.checked) false ⟨#[], #[.int .i64 0, .int .i64 0, .int .i64 0, .int .i64 0], []⟩ 8 (by kernel_rfl) (by kernel_rfl) (by kernel_rfl) (by kernel_rfl)) ?_
  intro W base args ds gs before hval0 hW hcnd _
  have hval : ∀ (j : Nat) t v, Try.f8.params[j]? = some t → args[j]? = some v → Value.okWide Try.prog W .any base t v := hval0
  have hW' := hW
  obtain ⟨p, q, hA0, hV, rfl, hfz, hnd⟩ := hW
  have hA : DataW.TrodAll enc Try.prog W 0 (fun _ => true) true Try.f8.params.toList args.toList ds p := hA0
  rw [Try.params8] at hA hval
  obtain ⟨v0, vs0, d0, ds0, p0, q0, hargs, rfl, rfl, h0, r0⟩ := trodAll_cons hA
  obtain ⟨v1, vs1, d1, ds1, p1, q1, rfl, rfl, rfl, h1, r1⟩ := trodAll_cons r0
  obtain ⟨v2, vs2, d2, ds2, p2, q2, rfl, rfl, rfl, h2, r2⟩ := trodAll_cons r1
  obtain ⟨v3, vs3, d3, ds3, p3, q3, rfl, rfl, rfl, h3, r3⟩ := trodAll_cons r2
  obtain ⟨rfl, rfl, rfl⟩ := trodAll_nil r3
  obtain rfl : args = #[v0, v1, v2, v3] := by cases args; simp_all
  obtain ⟨rfl, rfl⟩ := trodVars_none hV
  have k0 := h0
  have lt0 : ∀ x ∈ p0, x.block < W.heap.size := by obtain ⟨m, hm⟩ := k0; exact DataW.trod_lt m _ _ _ hm
  obtain ⟨x0, rfl, w0⟩ := open_intV (hval 0 3 v0 rfl rfl) h0
  have k1 := h1
  have lt1 : ∀ x ∈ p1, x.block < W.heap.size := by obtain ⟨m, hm⟩ := k1; exact DataW.trod_lt m _ _ _ hm
  obtain ⟨x1, rfl, w1⟩ := open_intV (hval 1 3 v1 rfl rfl) h1
  have k2 := h2
  have lt2 : ∀ x ∈ p2, x.block < W.heap.size := by obtain ⟨m, hm⟩ := k2; exact DataW.trod_lt m _ _ _ hm
  obtain ⟨x2, rfl, w2⟩ := open_intV (hval 2 3 v2 rfl rfl) h2
  have k3 := h3
  have lt3 : ∀ x ∈ p3, x.block < W.heap.size := by obtain ⟨m, hm⟩ := k3; exact DataW.trod_lt m _ _ _ hm
  obtain ⟨x3, rfl, w3⟩ := open_intV (hval 3 3 v3 rfl rfl) h3
  clear hA0 hval0
  refine (rotaTurns_walk x0 x1 x2 x3 W w0 w1 w2 w3).mono fun e W' ⟨he, bel⟩ => ?_
  subst he
  exact ⟨_, rfl, _, _, _, [], _, [], hW', trodAll_mk1 (shut_bool Try.underlying4 _), (trodAll_cons_mk (Below.trod laidOut (by kernel_rfl) (of_decide_eq_true (by kernel_rfl)) k0 bel lt0) (trodAll_cons_mk (Below.trod laidOut (by kernel_rfl) (of_decide_eq_true (by kernel_rfl)) k1 bel lt1) (trodAll_cons_mk (Below.trod laidOut (by kernel_rfl) (of_decide_eq_true (by kernel_rfl)) k2 bel lt2) (trodAll_cons_mk (Below.trod laidOut (by kernel_rfl) (of_decide_eq_true (by kernel_rfl)) k3 bel lt3) trodAll_mk0)))), rfl, bel.frame _, fun h => by cases h⟩

theorem over : Rows.rotaTurnsRow.holds Try.pinned (OpenSpec.ofChange Rows.rotaTurnsSpec) :=
  OpenClaim.holds_of_wide 8 Try.f8 rfl rfl rfl rfl rfl rfl rfl ⟨rfl, rfl, rfl, rfl, rfl⟩ rfl rfl rfl rfl rfl (by kernel_rfl) Try.func8 (by kernel_rfl)
    (of_decide_eq_true (by kernel_rfl)) (by unfold Func.isWrapper; first | (rw [if_pos (by decide +kernel)]; kernel_rfl) | (rw [if_neg (by decide +kernel)]; exact ⟨rfl, rfl⟩))
    (fun os started H enc _ => lifted os started H enc)
end Go.Proofs.Ytcgaojnfgkfnkaa.RotaTurnsTop
namespace Go.Proofs.Ytcgaojnfgkfnkaa
/-- The statement. -/
theorem rotaTurns_holds : Rows.RotaTurnsSaid := RotaTurnsTop.over
#print axioms rotaTurns_holds
end Go.Proofs.Ytcgaojnfgkfnkaa
