/- Giving by markers gives each agent one of its own segments, in plain words; no program. -/
import Derived.Test.YtknincjfcicjfaaKeepG
import Derived.Test.YtknincjfcicjfaaKeepD
namespace Go.Proofs.Ytknincjfcicjfaa
set_option linter.unusedVariables false
set_option linter.unusedSimpArgs false

/-- The agent of round r. -/
def agR (m : Int) (v : List (List Int)) (r : Nat) : Nat := (iget (rndL m v) r).toNat
theorem rnd_prefix (m : Int) (v : List (List Int)) : ∀ n r, r < n → iget (rnd m v n) r = lstK (keyR m v r) (leftN v.length (rnd m v r))
  | n + 1, r, h => by
    rw [rnd, iget_append, rnd_len]
    by_cases e : r < n
    · rw [if_pos e]; exact rnd_prefix m v n r e
    · rw [if_neg e]
      have : r = n := by omega
      subst this
      rw [Nat.sub_self]; rfl
theorem rnd_pre_mem (m : Int) (v : List (List Int)) : ∀ n r, r ≤ n → ∀ x ∈ rnd m v r, ∃ q, q < r ∧ iget (rnd m v n) q = x
  | n, 0, _, x, hx => by cases hx
  | n, r + 1, h, x, hx => by
    rw [rnd] at hx
    rcases List.mem_append.1 hx with hx | hx
    · obtain ⟨q, h1, h2⟩ := rnd_pre_mem m v n r (by omega) x hx
      exact ⟨q, by omega, h2⟩
    · simp at hx
      exact ⟨r, by omega, by rw [rnd_prefix m v n r (by omega), hx]⟩
theorem rndL_nodup (m : Int) (v : List (List Int)) {r s : Nat} (hr : r < v.length) (hs : s < v.length) (h : iget (rndL m v) r = iget (rndL m v) s) : r = s := by
  have hn := (rnd_spec m v v.length (Nat.le_refl _)).1
  have l1 : r < (rndL m v).length := by rw [rndL_len]; exact hr
  have l2 : s < (rndL m v).length := by rw [rndL_len]; exact hs
  rw [iget_of l1, iget_of l2] at h
  exact (List.getElem_inj hn).1 h
theorem agR_at {m : Int} {v : List (List Int)} {r : Nat} (h : r < v.length) : iget (rndL m v) r = (agR m v r : Nat) ∧ agR m v r < v.length := by
  obtain ⟨i, h1, h2⟩ := rndL_at (m := m) h
  unfold agR
  rw [h1]
  exact ⟨by simp, by simpa using h2⟩
/-- The order of the rounds has each agent once. -/
theorem rndL_isA (m : Int) (v : List (List Int)) : IsA (rndL m v) v.length := by
  refine isA_of_all (fun k hk => ?_) (rndL_len m v)
  obtain ⟨hn, hb⟩ := rnd_spec m v v.length (Nat.le_refl _)
  refine Classical.byContradiction fun hc => ?_
  have hl := nodup_sub_len (m := ((List.range v.length).map fun (k : Nat) => (k : Int)).erase (k : Int)) hn (fun x hx => by
    have hx2 := hb x hx
    refine (List.mem_erase_of_ne (fun e => hc (by rw [← e]; exact hx))).2 ?_
    exact List.mem_map.2 ⟨x.toNat, List.mem_range.2 (by omega), by omega⟩)
  rw [List.length_erase_of_mem (List.mem_map.2 ⟨k, List.mem_range.2 hk, rfl⟩)] at hl
  simp [rnd_len] at hl
  omega
theorem lst_fold (key : Int → Int) : ∀ (l : List Int) (b : Int), 0 ≤ b → (∀ x ∈ l, b < x) → l.Pairwise (· < ·) →
    (key (l.foldl (fun b x => if b < 0 ∨ key x < key b then x else b) b) ≤ key b ∧ (key (l.foldl (fun b x => if b < 0 ∨ key x < key b then x else b) b) = key b → l.foldl (fun b x => if b < 0 ∨ key x < key b then x else b) b = b)) ∧
    ∀ x ∈ l, key (l.foldl (fun b x => if b < 0 ∨ key x < key b then x else b) b) ≤ key x ∧ (key (l.foldl (fun b x => if b < 0 ∨ key x < key b then x else b) b) = key x → l.foldl (fun b x => if b < 0 ∨ key x < key b then x else b) b ≤ x)
  | [], b, _, _, _ => ⟨⟨Int.le_refl _, fun _ => rfl⟩, fun _ h => by cases h⟩
  | a :: l, b, hb, hl, hp => by
    rw [List.pairwise_cons] at hp
    have hba := hl a (List.mem_cons_self ..)
    simp only [List.foldl_cons]
    by_cases c : key a < key b
    · rw [if_pos (.inr c)]
      obtain ⟨⟨h1, h2⟩, h3⟩ := lst_fold key l a (by omega) (fun x hx => hp.1 x hx) hp.2
      refine ⟨⟨by omega, fun h => by omega⟩, fun x hx => ?_⟩
      rcases List.mem_cons.1 hx with rfl | hx
      · exact ⟨h1, fun h => by rw [h2 h]; exact Int.le_refl _⟩
      · exact h3 x hx
    · rw [if_neg (by omega)]
      obtain ⟨⟨h1, h2⟩, h3⟩ := lst_fold key l b hb (fun x hx => hl x (List.mem_cons_of_mem _ hx)) hp.2
      refine ⟨⟨h1, h2⟩, fun x hx => ?_⟩
      rcases List.mem_cons.1 hx with rfl | hx
      · exact ⟨by omega, fun h => by rw [h2 (by omega)]; omega⟩
      · exact h3 x hx
/-- The one that lstK takes has the least key; of these it is the first. -/
theorem lstK_least (key : Int → Int) {l : List Int} (h0 : ∀ x ∈ l, 0 ≤ x) (hp : l.Pairwise (· < ·)) : ∀ x ∈ l, key (lstK key l) ≤ key x ∧ (key (lstK key l) = key x → lstK key l ≤ x) := by
  cases l with
  | nil => intro x hx; cases hx
  | cons a l =>
    rw [List.pairwise_cons] at hp
    have e : lstK key (a :: l) = l.foldl (fun b x => if b < 0 ∨ key x < key b then x else b) a := by simp [lstK]
    rw [e]
    obtain ⟨⟨h1, h2⟩, h3⟩ := lst_fold key l a (h0 a (List.mem_cons_self ..)) hp.1 hp.2
    intro x hx
    rcases List.mem_cons.1 hx with rfl | hx
    · exact ⟨h1, fun h => by rw [h2 h]; exact Int.le_refl _⟩
    · exact h3 x hx
theorem leftN_sorted (n : Nat) (out : List Int) : (leftN n out).Pairwise (· < ·) := by
  unfold leftN
  refine List.Pairwise.filter _ ?_
  refine List.Pairwise.map _ (fun a b h => ?_) List.pairwise_lt_range
  omega
/-- No agent of a later round has an earlier marker. -/
theorem later {m : Int} {v : List (List Int)} {r s : Nat} (hr : r < s) (hs : s < v.length) :
    keyR m v r (agR m v r : Nat) ≤ keyR m v r (agR m v s : Nat) ∧ (keyR m v r (agR m v r : Nat) = keyR m v r (agR m v s : Nat) → agR m v r ≤ agR m v s) := by
  obtain ⟨e1, l1⟩ := agR_at (m := m) (v := v) (r := r) (by omega)
  obtain ⟨e2, l2⟩ := agR_at (m := m) (v := v) hs
  have h1 : iget (rndL m v) r = lstK (keyR m v r) (leftN v.length (rnd m v r)) := rnd_prefix m v v.length r (by omega)
  have hmem : ((agR m v s : Nat) : Int) ∈ leftN v.length (rnd m v r) := by
    rw [leftN_mem]
    refine ⟨by omega, by omega, fun hm => ?_⟩
    obtain ⟨q, hq, hq2⟩ := rnd_pre_mem m v v.length r (by omega) _ hm
    have := rndL_nodup m v (r := q) (s := s) (by omega) hs (by rw [e2]; exact hq2)
    omega
  obtain ⟨h2, h3⟩ := lstK_least (keyR m v r) (fun x hx => (leftN_mem.1 hx).1) (leftN_sorted v.length (rnd m v r)) _ hmem
  rw [← h1, e1] at h2 h3
  exact ⟨h2, fun h => by have := h3 h; omega⟩
/-- Begin and end of round r. -/
def sgA (m : Int) (v : List (List Int)) (r : Nat) : Nat := segA m (rget v (agR m v r)) r
def sgB (m : Int) (v : List (List Int)) (r : Nat) : Nat := segA m (rget v (agR m v r)) (r + 1)
theorem sg_eq {m : Int} {v : List (List Int)} (hM : Marks m v) {r : Nat} (hr : r < v.length) :
    iget (cutL m (rget v (agR m v r))) r = (sgA m v r : Nat) ∧ iget (cutL m (rget v (agR m v r))) (r + 1) = (sgB m v r : Nat) ∧ sgA m v r < sgB m v r ∧ (sgB m v r : Int) ≤ m := by
  have hl := (agR_at (m := m) hr).2
  have hRow := hM.2.2.2.2 _ hl
  have hlen := hRow.1
  have h1 := seg_bd hRow hM.1 r (by omega)
  have h2 := seg_bd hRow hM.1 (r + 1) (by omega)
  have h3 := seg_lt hRow hM.1 r (by omega)
  unfold sgA sgB segA
  exact ⟨by omega, by omega, by omega, by omega⟩
theorem cut_mono {m : Int} {n : Nat} {l : List Int} (h : MkRow m n l) (h1 : 1 ≤ m) : ∀ s r, r ≤ s → s ≤ l.length + 1 → iget (cutL m l) r ≤ iget (cutL m l) s
  | 0, r, hr, _ => by have : r = 0 := by omega
                      rw [this]; exact Int.le_refl _
  | s + 1, r, hr, hs => by
    by_cases e : r = s + 1
    · rw [e]; exact Int.le_refl _
    · have := cut_mono h h1 s r (by omega) (by omega)
      have := seg_lt h h1 s (by omega)
      omega
/-- The segments lie one behind the other. -/
theorem sg_order {m : Int} {v : List (List Int)} (hM : Marks m v) {r s : Nat} (hr : r < s) (hs : s < v.length) : sgB m v r ≤ sgA m v s := by
  obtain ⟨a1, a2, _, _⟩ := sg_eq hM (r := r) (by omega)
  obtain ⟨b1, b2, _, _⟩ := sg_eq hM hs
  have hl1 := (agR_at (m := m) (v := v) (r := r) (by omega)).2
  have hl2 := (agR_at (m := m) hs).2
  have hk1 := cutL_key hM hl1 (r := r) (by omega)
  have hk2 := cutL_key hM hl2 (r := r) (by omega)
  have h1 := (later (m := m) hr hs).1
  have hlen := (hM.2.2.2.2 _ hl2).1
  have h2 := cut_mono (hM.2.2.2.2 _ hl2) hM.1 s (r + 1) (by omega) (by omega)
  omega
theorem givTo_get {m : Int} {v : List (List Int)} (hM : Marks m v) : ∀ r, r ≤ v.length → ∀ k, k < m.toNat →
    (∀ s, s < r → sgA m v s ≤ k → k < sgB m v s → iget (givTo m v r) k = (agR m v s : Nat)) ∧ ((∀ s, s < r → ¬ (sgA m v s ≤ k ∧ k < sgB m v s)) → iget (givTo m v r) k = -1)
  | 0, _, k, hk => ⟨fun s hs => absurd hs (Nat.not_lt_zero s), fun _ => by simp [givTo, iget, hk]⟩
  | r + 1, hr, k, hk => by
    obtain ⟨i1, i2⟩ := givTo_get hM r (by omega) k hk
    obtain ⟨e1, _⟩ := agR_at (m := m) (v := v) (r := r) (by omega)
    have hg : iget (givTo m v (r + 1)) k = if sgA m v r ≤ k ∧ k < sgB m v r then (agR m v r : Int) else iget (givTo m v r) k := by
      rw [givTo, paint_get (by rw [givTo_len]; exact hk), e1]
      rfl
    rw [hg]
    refine ⟨fun s hs h1 h2 => ?_, fun h => ?_⟩
    · by_cases e : s = r
      · subst e; rw [if_pos ⟨h1, h2⟩]
      · have := sg_order hM (r := s) (s := r) (by omega) (by omega)
        rw [if_neg (by omega)]
        exact i1 s (by omega) h1 h2
    · rw [if_neg (h r (by omega))]
      exact i2 fun s hs => h s (by omega)
/-- Who has item k. -/
theorem giv_iff {m : Int} {v : List (List Int)} (hM : Marks m v) {r k : Nat} (hr : r < v.length) (hk : k < m.toNat) : iget (givL m v) k = iget (rndL m v) r ↔ sgA m v r ≤ k ∧ k < sgB m v r := by
  rw [givL_pos hM]
  obtain ⟨h1, h2⟩ := givTo_get hM v.length (Nat.le_refl _) k hk
  obtain ⟨e1, _⟩ := agR_at (m := m) hr
  constructor
  · intro h
    by_cases hex : ∃ s, s < v.length ∧ sgA m v s ≤ k ∧ k < sgB m v s
    · obtain ⟨s, hs, h3, h4⟩ := hex
      rw [h1 s hs h3 h4] at h
      have := rndL_nodup m v (r := s) (s := r) hs hr (by rw [(agR_at (m := m) hs).1]; exact h)
      subst this
      exact ⟨h3, h4⟩
    · rw [h2 (fun s hs hc => hex ⟨s, hs, hc⟩), e1] at h
      omega
  · rintro ⟨h3, h4⟩
    rw [h1 r hr h3 h4, e1]
/-- How many of the first k items are left. -/
def lftC (a : List Int) (k : Nat) : Int := sumTo (fun q => if iget a q < 0 then 1 else 0) k
theorem lftC_succ (a : List Int) (k : Nat) : lftC a (k + 1) = lftC a k + if iget a k < 0 then 1 else 0 := rfl
theorem lftC_bd (a : List Int) : ∀ k, 0 ≤ lftC a k ∧ lftC a k ≤ k
  | 0 => ⟨Int.le_refl _, by simp [lftC, sumTo]⟩
  | k + 1 => by
    have := lftC_bd a k
    rw [lftC_succ]
    by_cases e : iget a k < 0
    · rw [if_pos e]; omega
    · rw [if_neg e]; omega
/-- How many items the first r rounds gave. -/
def gvnC (m : Int) (v : List (List Int)) (r : Nat) : Int := sumTo (fun s => (sgB m v s : Int) - (sgA m v s : Int)) r
theorem gvnC_succ (m : Int) (v : List (List Int)) (r : Nat) : gvnC m v (r + 1) = gvnC m v r + ((sgB m v r : Int) - (sgA m v r : Int)) := rfl
theorem sumTo_ind (a b : Nat) (h : a ≤ b) : ∀ n, sumTo (fun q => if a ≤ q ∧ q < b then 1 else 0) n = (min n b : Nat) - (min n a : Nat)
  | 0 => by simp [sumTo]
  | n + 1 => by
    rw [sumTo, sumTo_ind a b h n]
    by_cases c : a ≤ n ∧ n < b
    · rw [if_pos c]; omega
    · rw [if_neg c]; omega
theorem left_given {m : Int} {v : List (List Int)} (hM : Marks m v) : ∀ r, r ≤ v.length → lftC (givTo m v r) m.toNat + gvnC m v r = m
  | 0, _ => by
    have : ∀ n, n ≤ m.toNat → lftC (givTo m v 0) n = n := by
      intro n
      induction n with
      | zero => intro _; rfl
      | succ n ih =>
        intro hn
        rw [lftC_succ, ih (by omega), if_pos]
        · omega
        · rw [(givTo_get hM 0 (by omega) n (by omega)).2 (fun s hs => absurd hs (Nat.not_lt_zero s))]; decide
    rw [this _ (Nat.le_refl _)]
    have := hM.1
    show _ + 0 = m
    omega
  | r + 1, hr => by
    have ih := left_given hM r (by omega)
    obtain ⟨_, _, hlt, hle⟩ := sg_eq hM (r := r) (by omega)
    rw [gvnC_succ]
    have hs := sumTo_ind (sgA m v r) (sgB m v r) (by omega) m.toNat
    have hadd : lftC (givTo m v r) m.toNat = lftC (givTo m v (r + 1)) m.toNat + sumTo (fun q => if sgA m v r ≤ q ∧ q < sgB m v r then 1 else 0) m.toNat := by
      unfold lftC
      rw [← sumTo_add]
      refine sumTo_congr fun q hq => ?_
      obtain ⟨i1, i2⟩ := givTo_get hM r (by omega) q hq
      obtain ⟨j1, j2⟩ := givTo_get hM (r + 1) hr q hq
      by_cases c : sgA m v r ≤ q ∧ q < sgB m v r
      · rw [if_pos c, j1 r (by omega) c.1 c.2, i2 (fun s hs hc => by have := sg_order hM (r := s) (s := r) hs (by omega); omega)]
        rw [if_pos (by decide), if_neg (by omega)]; rfl
      · rw [if_neg c]
        by_cases hex : ∃ s, s < r ∧ sgA m v s ≤ q ∧ q < sgB m v s
        · obtain ⟨s, hs1, hs2, hs3⟩ := hex
          rw [i1 s hs1 hs2 hs3, j1 s (by omega) hs2 hs3]; omega
        · rw [i2 (fun s hs hc => hex ⟨s, hs, hc⟩), j2 (fun s hs hc => by
            by_cases e : s = r
            · subst e; exact c hc
            · exact hex ⟨s, by omega, hc⟩)]; rfl
    omega
end Go.Proofs.Ytknincjfcicjfaa
