/- The adjusted division of goods between two agents (plain): what the program finds. -/
import Derived.Test.YtmcncflieoolmaaGreatTopTopGoodsm30
import Derived.Test.YtmcncflieoolmaaGreatTopTopGoodsm24
import Derived.Test.YtmcncflieoolmaaGreatTopTopGoodsm25
import Derived.Test.YtmcncflieoolmaaGreatTopTopGoodsm7
import Derived.BigQuiet
import Derived.BigRegion
import Derived.IntWalk
import Derived.StillTailTactics
/- The adjusted division of goods between two agents (plain): what the program finds. -/
namespace Go.Proofs.YtmcncflieoolmaaGreat
set_option linter.unusedVariables false
set_option linter.unusedSimpArgs false

/-- What is known of a division that the program finds. -/
structure DivOk (v : List (List Int)) (A : List Int) (s pn pd : Int) : Prop where
  len : A.length = wid v
  two : ∀ k, k < wid v → iget A k = 0 ∨ iget A k = 1
  den : 0 < pd ∧ pd ≤ 2000
  num : 0 ≤ pn ∧ pn < pd
  no : s = -1 → pn = 0 ∧ pd = 1
  yes : s ≠ -1 → 0 ≤ s ∧ s < wid v ∧ iget A s.toNat = 0 ∧ 0 < pn ∧ Nat.gcd pn.natAbs pd.natAbs = 1
  eq : sv0 v A s pn pd (wid v) = sv1 v A s pn pd (wid v)
  top : ∀ C : List Int, C.length = wid v → (∀ k, k < wid v → iget C k = 0 ∨ iget C k = 1) → ¬ (sv0 v A s pn pd (wid v) < worth v C 0 0 * pd ∧ sv1 v A s pn pd (wid v) < worth v C 1 1 * pd)
theorem sv0_whole {v : List (List Int)} {A : List Int} : ∀ m, sv0 v A (-1) 0 1 m = worthUp v A 0 0 m
  | 0 => rfl
  | m + 1 => by
    simp only [sv0, worthUp]
    rw [sv0_whole m, if_neg (by omega), Int.mul_one]
theorem sv1_whole {v : List (List Int)} {A : List Int} : ∀ m, sv1 v A (-1) 0 1 m = worthUp v A 1 1 m
  | 0 => rfl
  | m + 1 => by
    simp only [sv1, worthUp]
    rw [sv1_whole m, if_neg (by omega), Int.mul_one]
theorem sv0_split {v : List (List Int)} {A : List Int} {g : Nat} {pn pd : Int} (hg : iget A g = 0) : ∀ m, sv0 v A (g : Int) pn pd m = worthUp v A 0 0 m * pd + (if g < m then iget (rget v 0) g * (pn - pd) else 0)
  | 0 => by simp [sv0, worthUp]
  | m + 1 => by
    simp only [sv0, worthUp]
    rw [sv0_split hg m, Int.add_mul]
    by_cases e : g = m
    · subst e
      rw [if_pos rfl, if_neg (Nat.lt_irrefl g), if_pos (Nat.lt_succ_self g), if_pos hg, Int.mul_sub]
      omega
    · rw [if_neg (by omega : ¬ (g : Int) = (m : Int))]
      by_cases e2 : g < m
      · rw [if_pos e2, if_pos (by omega : g < m + 1)]
        split
        · omega
        · rw [Int.zero_mul]; try omega
      · rw [if_neg e2, if_neg (by omega : ¬ g < m + 1)]
        split
        · omega
        · rw [Int.zero_mul]; try omega
theorem sv1_split {v : List (List Int)} {A : List Int} {g : Nat} {pn pd : Int} (hg : iget A g = 0) : ∀ m, sv1 v A (g : Int) pn pd m = worthUp v A 1 1 m * pd + (if g < m then iget (rget v 1) g * (pd - pn) else 0)
  | 0 => by simp [sv1, worthUp]
  | m + 1 => by
    simp only [sv1, worthUp]
    rw [sv1_split hg m, Int.add_mul]
    by_cases e : g = m
    · subst e
      rw [if_pos rfl, if_neg (Nat.lt_irrefl g), if_pos (Nat.lt_succ_self g), if_neg (by omega : ¬ iget A g = 1), Int.zero_mul]
      try omega
    · rw [if_neg (by omega : ¬ (g : Int) = (m : Int))]
      by_cases e2 : g < m
      · rw [if_pos e2, if_pos (by omega : g < m + 1)]
        split
        · omega
        · rw [Int.zero_mul]; try omega
      · rw [if_neg e2, if_neg (by omega : ¬ g < m + 1)]
        split
        · omega
        · rw [Int.zero_mul]; try omega

/-- The weights of the good at place u. -/
theorem div_supp {v : List (List Int)} {L A : List Int} (hg : Gds v) (h2 : v.length = 2) (hL : OrdS v L) {u : Nat} (hu : u < L.length) {s : Int} (hs : ∀ k : Nat, s = (k : Int) → k = (iget L u).toNat)
    (h1 : ∀ k : Nat, k < wid v → s ≠ (k : Int) → (∃ w, w ≤ u ∧ iget L w = (k : Int)) → iget A k = 1 - (rcA v : Int)) (h3 : ∀ k : Nat, k < wid v → s ≠ (k : Int) → (¬ ∃ w, w ≤ u ∧ iget L w = (k : Int)) → iget A k = iget (owA v) k) :
    SuppA v A s (iget (rget v 1) (iget L u).toNat) (iget (rget v 0) (iget L u).toNat) := by
  obtain ⟨g, eg⟩ : ∃ g, (iget L u).toNat = g := ⟨_, rfl⟩
  have mu := hL.mem u hu
  rw [eg] at mu hs ⊢
  have hgm : g < wid v := by omega
  have hv0 := hg.2.2.2 0 (by omega)
  have hv1 := hg.2.2.2 1 (by omega)
  have og := owA_get hgm
  have g0 := (hv0.2 g (by rw [hv0.1]; exact hgm)).1
  have g1 := (hv1.2 g (by rw [hv1.1]; exact hgm)).1
  intro k hk
  have ok := owA_get hk
  have k0 := (hv0.2 k (by rw [hv0.1]; exact hk)).1
  have k1 := (hv1.2 k (by rw [hv1.1]; exact hk)).1
  refine ⟨fun e => by rw [hs k e]; exact Int.mul_comm _ _, ?_⟩
  by_cases e : s = (k : Int)
  · exact ⟨fun h => absurd e h, fun h => absurd e h⟩
  · by_cases hp : ∃ w, w ≤ u ∧ iget L w = (k : Int)
    · have hA := h1 k hk e hp
      obtain ⟨w, hw1, hw2⟩ := hp
      have hle := OrdS.le hg h2 hL u hw1 hu
      rw [eg, hw2, Int.toNat_natCast] at hle
      rcases rcA_two v with er | er
      · simp only [er, Nat.sub_zero, Int.sub_zero, Int.natCast_zero] at hA hle
        exact ⟨fun _ h => by rw [hA] at h; exact absurd h (by omega), fun _ _ => by rw [Int.mul_comm]; exact hle⟩
      · simp only [er, Nat.sub_self, Int.natCast_one] at hA hle
        exact ⟨fun _ _ => by rw [Int.mul_comm]; exact hle, fun _ h => by rw [hA] at h; exact absurd h (by omega)⟩
    · have hA := h3 k hk e hp
      have hr : iget (owA v) k = (rcA v : Int) → iget (rget v (rcA v)) g * iget (rget v (1 - rcA v)) k ≤ iget (rget v (rcA v)) k * iget (rget v (1 - rcA v)) g := fun ho => by
        by_cases hz : 0 < iget (rget v (1 - rcA v)) k
        · obtain ⟨w, hw1, hw2⟩ := hL.all k hk ho hz
          have hle := OrdS.le hg h2 hL (s := u) w (by
            apply Classical.byContradiction
            intro hh
            exact hp ⟨w, by omega, hw2⟩) hw1
          rw [eg, hw2, Int.toNat_natCast] at hle
          exact hle
        · have hz0 : iget (rget v (1 - rcA v)) k = 0 := by
            rcases rcA_two v with er | er
            · simp only [er, Nat.sub_zero] at hz ⊢; omega
            · simp only [er, Nat.sub_self] at hz ⊢; omega
          rw [hz0, Int.mul_zero]
          refine Int.mul_nonneg ?_ (Int.le_of_lt mu.2.2.2)
          rcases rcA_two v with er | er
          · rw [er]; exact k0
          · rw [er]; exact k1
      rcases rcA_two v with er | er
      · simp only [er, Nat.sub_zero, Int.natCast_zero] at hr mu
        rw [hA]
        refine ⟨fun _ h => by rw [Int.mul_comm (iget (rget v 1) g)]; exact hr h, fun _ h => ?_⟩
        rw [ok] at h
        rw [mu.2.2.1] at og
        have hlt : iget (rget v 0) k < iget (rget v 1) k := by
          apply Classical.byContradiction; intro hh; rw [if_neg hh] at h; omega
        have hge : ¬ iget (rget v 0) g < iget (rget v 1) g := by
          intro hh; rw [if_pos hh] at og; omega
        exact Int.mul_le_mul (by omega) (by omega) k0 g0
      · simp only [er, Nat.sub_self, Int.natCast_one] at hr mu
        rw [hA]
        refine ⟨fun _ h => ?_, fun _ h => by have := hr h; rw [Int.mul_comm (iget (rget v 0) g)]; exact this⟩
        rw [ok] at h
        rw [mu.2.2.1] at og
        have hlt : ¬ iget (rget v 0) k < iget (rget v 1) k := by
          intro hh; rw [if_pos hh] at h; omega
        have hge : iget (rget v 0) g < iget (rget v 1) g := by
          apply Classical.byContradiction; intro hh; rw [if_neg hh] at og; omega
        exact Int.mul_le_mul (by omega) (by omega) k1 g1
/-- A good in the order is worth something for both. -/
theorem div_pos {v : List (List Int)} {L : List Int} (hg : Gds v) (h2 : v.length = 2) (hL : OrdS v L) {u : Nat} (hu : u < L.length) : 0 < iget (rget v 1) (iget L u).toNat ∧ 0 < iget (rget v 0) (iget L u).toNat := by
  have mu := hL.mem u hu
  have og := owA_get (v := v) (j := (iget L u).toNat) (by omega)
  rcases rcA_two v with er | er
  · simp only [er, Nat.sub_zero, Int.natCast_zero] at mu
    rw [mu.2.2.1] at og
    have : ¬ iget (rget v 0) (iget L u).toNat < iget (rget v 1) (iget L u).toNat := by
      intro hh; rw [if_pos hh] at og; omega
    omega
  · simp only [er, Nat.sub_self, Int.natCast_one] at mu
    rw [mu.2.2.1] at og
    have : iget (rget v 0) (iget L u).toNat < iget (rget v 1) (iget L u).toNat := by
      apply Classical.byContradiction; intro hh; rw [if_neg hh] at og; omega
    omega
theorem div_stop {v : List (List Int)} {L : List Int} (hg : Gds v) (h2 : v.length = 2) (hL : OrdS v L) {t : Nat} (ht : t ≤ L.length) (hm : moreA v (mvA v L t) = 0) : DivOk v (mvA v L t) (-1) 0 1 := by
  have hlen := mvA_len v L t
  have htwo := fun k (hk : k < wid v) => mvA_two hL ht hk
  have heq : worthUp v (mvA v L t) 0 0 (wid v) = worthUp v (mvA v L t) 1 1 (wid v) := by
    unfold moreA worth at hm
    rw [hlen] at hm
    rcases rcA_two v with er | er
    · rw [er] at hm
      have : worthUp v (mvA v L t) 0 0 (wid v) - worthUp v (mvA v L t) 1 1 (wid v) = 0 := hm
      omega
    · rw [er] at hm
      have : worthUp v (mvA v L t) 1 1 (wid v) - worthUp v (mvA v L t) 0 0 (wid v) = 0 := hm
      omega
  refine ⟨hlen, htwo, by omega, by omega, fun _ => ⟨rfl, rfl⟩, fun h => absurd rfl h, by rw [sv0_whole, sv1_whole]; exact heq, fun C hCl hC => ?_⟩
  cases t with
  | zero =>
    refine supp_no (al := 1) (be := 1) (by omega) (by omega) (by omega) (by omega) htwo hC (fun k hk => ?_) hCl
    have ok := owA_get hk
    refine ⟨fun e => by omega, fun _ h => ?_, fun _ h => ?_⟩
    · have : ¬ iget (rget v 0) k < iget (rget v 1) k := by
        intro hh; rw [if_pos hh] at ok
        have : iget (owA v) k = 0 := h
        omega
      omega
    · have : iget (rget v 0) k < iget (rget v 1) k := by
        apply Classical.byContradiction; intro hh; rw [if_neg hh] at ok
        have : iget (owA v) k = 1 := h
        omega
      omega
  | succ u =>
    have hp := div_pos hg h2 hL (u := u) (by omega)
    refine supp_no (by omega) (Int.le_of_lt hp.1) (Int.le_of_lt hp.2) (by omega) htwo hC (div_supp hg h2 hL (u := u) (by omega) (fun k e => by omega) (fun k hk _ ⟨w, h1, h3⟩ => mvA_in hL (u + 1) ht k hk ⟨w, by omega, h3⟩) (fun k hk _ hno => mvA_out hL (u + 1) ht k hk (fun ⟨w, h1, h3⟩ => hno ⟨w, by omega, h3⟩))) hCl
theorem rat_parts {P x : Nat} (hP : 0 < P) (hx : P < x) : ∃ g : Nat, 0 < g ∧ rN (P : Int) x * (g : Int) = P ∧ rD (P : Int) x * (g : Int) = x ∧ 0 < rN (P : Int) x ∧ rN (P : Int) x < rD (P : Int) x ∧ rD (P : Int) x ≤ x ∧ Nat.gcd (rN (P : Int) x).natAbs (rD (P : Int) x).natAbs = 1 := by
  have hgp := rG_pos (x := (P : Int)) (d := x) (by omega)
  have e1 : rG (P : Int) x = Nat.gcd P x := by unfold rG; rw [Int.natAbs_natCast]
  have hd1 : Nat.gcd P x ∣ P := Nat.gcd_dvd_left _ _
  have hd2 : Nat.gcd P x ∣ x := Nat.gcd_dvd_right _ _
  rw [e1] at hgp
  have n1 : rN (P : Int) x = ((P / Nat.gcd P x : Nat) : Int) := by
    unfold rN
    rw [e1, Int.natAbs_natCast]
    have : decide ((P : Int) < 0) = false := by simp
    rw [this]; rfl
  have n2 : rD (P : Int) x = ((x / Nat.gcd P x : Nat) : Int) := by unfold rD; rw [e1]
  have m1 : P / Nat.gcd P x * Nat.gcd P x = P := Nat.div_mul_cancel hd1
  have m2 : x / Nat.gcd P x * Nat.gcd P x = x := Nat.div_mul_cancel hd2
  have c := Nat.coprime_div_gcd_div_gcd hgp
  obtain ⟨g, eg⟩ : ∃ g, Nat.gcd P x = g := ⟨_, rfl⟩
  rw [eg] at n1 n2 m1 m2 hgp c
  obtain ⟨a, ea⟩ : ∃ a, P / g = a := ⟨_, rfl⟩
  obtain ⟨b, eb⟩ : ∃ b, x / g = b := ⟨_, rfl⟩
  rw [ea] at n1 m1 c
  rw [eb] at n2 m2 c
  rw [n1, n2]
  refine ⟨g, hgp, by rw [← m1]; simp, by rw [← m2]; simp, ?_, ?_, ?_, by rw [Int.natAbs_natCast, Int.natAbs_natCast]; exact c⟩
  · have : 0 < a := by
      apply Nat.pos_of_ne_zero; intro h; subst h; omega
    omega
  · have : a < b := Nat.lt_of_mul_lt_mul_right (a := g) (by omega)
    omega
  · have : b * 1 ≤ b * g := Nat.mul_le_mul_left b hgp
    omega
set_option maxHeartbeats 800000 in
theorem div_split {v : List (List Int)} {L : List Int} (hg : Gds v) (h2 : v.length = 2) (hL : OrdS v L) {t : Nat} (ht : t < L.length) {x P : Nat} (hm : 0 < moreA v (mvA v L t)) (hx : iget (rget v (rcA v)) (iget L t).toNat + iget (rget v (1 - rcA v)) (iget L t).toNat = x) (hlt : moreA v (mvA v L t) < x)
    (hP : (P : Int) = if rcA v = 1 then moreA v (mvA v L t) else x - moreA v (mvA v L t)) : DivOk v ((mvA v L t).set (iget L t).toNat 0) (iget L t) (rN (P : Int) x) (rD (P : Int) x) := by
  obtain ⟨A, eA⟩ : ∃ A, mvA v L t = A := ⟨_, rfl⟩
  have hlen := mvA_len v L t
  have htwo := fun k (hk : k < wid v) => mvA_two hL (Nat.le_of_lt ht) hk
  have hat := mvA_at hL ht
  have mu := hL.mem t ht
  have hin := fun k hk => mvA_in hL t (Nat.le_of_lt ht) k hk
  have hout := fun k hk => mvA_out hL t (Nat.le_of_lt ht) k hk
  have hpos := div_pos hg h2 hL ht
  have hsup := fun (B : List Int) h1 h3 => div_supp (A := B) hg h2 hL ht (s := iget L t) (fun k e => by rw [e]; rfl) h1 h3
  rw [eA] at hlen htwo hat hin hout hm hlt hP ⊢
  have hv0 := hg.2.2.2 0 (by omega)
  have hv1 := hg.2.2.2 1 (by omega)
  obtain ⟨g, eg⟩ : ∃ g : Nat, iget L t = (g : Int) := ⟨(iget L t).toNat, by omega⟩
  have eg2 : (iget L t).toNat = g := by rw [eg]; rfl
  rw [eg2] at hat mu hx hpos hsup ⊢
  rw [eg] at mu hsup ⊢
  have hgm : g < wid v := by omega
  have hgl : g < A.length := by omega
  have b0 := hv0.2 g (by rw [hv0.1]; exact hgm)
  have b1 := hv1.2 g (by rw [hv1.1]; exact hgm)
  have hP0 : 0 < P := by split at hP <;> omega
  have hPx : P < x := by split at hP <;> omega
  have hx2 : x ≤ 2000 := by
    rcases rcA_two v with er | er
    · simp only [er, Nat.sub_zero] at hx; omega
    · simp only [er, Nat.sub_self] at hx; omega
  obtain ⟨d, hd0, r1, r2, r3, r4, r5, r6⟩ := rat_parts hP0 hPx
  obtain ⟨pn, en⟩ : ∃ pn, rN (P : Int) x = pn := ⟨_, rfl⟩
  obtain ⟨pd, ed⟩ : ∃ pd, rD (P : Int) x = pd := ⟨_, rfl⟩
  rw [en] at r1 r3 r4 r6 ⊢
  rw [ed] at r2 r4 r5 r6 ⊢
  have hs0 : iget (A.set g 0) g = 0 := by rw [iget_set hgl, if_pos rfl]
  have hne : ∀ k, g ≠ k → iget (A.set g 0) k = iget A k := fun k h => by rw [iget_set hgl, if_neg h]
  have htwo2 : ∀ k, k < wid v → iget (A.set g 0) k = 0 ∨ iget (A.set g 0) k = 1 := fun k hk => by
    by_cases e : g = k
    · subst e; exact .inl hs0
    · rw [hne k e]; exact htwo k hk
  refine ⟨by rw [List.length_set]; exact hlen, htwo2, ⟨by omega, by omega⟩, ⟨by omega, r4⟩, fun h => by omega, fun _ => ⟨by omega, by omega, by rw [Int.toNat_natCast]; exact hs0, r3, r6⟩, ?_, fun C hCl hC => ?_⟩
  · rw [sv0_split hs0, sv1_split hs0, if_pos hgm, if_pos hgm]
    rw [worthUp_setN hgl, worthUp_setN hgl, if_pos hgm, if_pos hgm]
    unfold moreA worth at hP
    rw [hlen] at hP
    rcases rcA_two v with er | er
    · simp only [er, Nat.sub_zero, Int.natCast_zero] at hat hx hP
      have hP' : (P : Int) = x - (worthUp v A 0 0 (wid v) - worthUp v A 1 1 (wid v)) := by rw [if_neg (by omega)] at hP; exact hP
      rw [hat]
      obtain ⟨R, eR⟩ : ∃ R, worthUp v A 0 0 (wid v) = R := ⟨_, rfl⟩
      obtain ⟨Q, eQ⟩ : ∃ Q, worthUp v A 1 1 (wid v) = Q := ⟨_, rfl⟩
      rw [eR, eQ] at hP' ⊢
      obtain ⟨p, ep⟩ : ∃ p, iget (rget v 0) g = p := ⟨_, rfl⟩
      obtain ⟨q, eq⟩ : ∃ q, iget (rget v 1) g = q := ⟨_, rfl⟩
      rw [ep, eq] at hx ⊢
      -- pn / pd = (x - (R - Q)) / x
      have k1 : pn * x = P * pd := by rw [← r1, ← r2, Int.mul_assoc pn, Int.mul_comm (d : Int) pd]
      have k2 : pn * (p + q) = (p + q - (R - Q)) * pd := by rw [hx]; rw [hP'] at k1; exact k1
      rw [if_pos (rfl : (0 : Int) = 0), if_neg (by omega : ¬ (0 : Int) = 1)]
      simp only [Int.mul_add, Int.sub_mul, Int.add_mul, Int.mul_sub] at k2 ⊢
      rw [Int.mul_comm pn p, Int.mul_comm pn q] at k2
      simp only [Int.sub_self, Int.zero_mul, Int.add_zero, Int.sub_zero]
      omega
    · simp only [er, Nat.sub_self, Int.natCast_one] at hat hx hP
      have hP' : (P : Int) = worthUp v A 1 1 (wid v) - worthUp v A 0 0 (wid v) := by rw [if_pos trivial] at hP; exact hP
      rw [hat]
      obtain ⟨R, eR⟩ : ∃ R, worthUp v A 1 1 (wid v) = R := ⟨_, rfl⟩
      obtain ⟨Q, eQ⟩ : ∃ Q, worthUp v A 0 0 (wid v) = Q := ⟨_, rfl⟩
      rw [eR, eQ] at hP' ⊢
      obtain ⟨p, ep⟩ : ∃ p, iget (rget v 0) g = p := ⟨_, rfl⟩
      obtain ⟨q, eq⟩ : ∃ q, iget (rget v 1) g = q := ⟨_, rfl⟩
      rw [ep, eq] at hx ⊢
      have k1 : pn * x = P * pd := by rw [← r1, ← r2, Int.mul_assoc pn, Int.mul_comm (d : Int) pd]
      have k2 : pn * (q + p) = (R - Q) * pd := by rw [hx]; rw [hP'] at k1; exact k1
      rw [if_pos (rfl : (0 : Int) = 0), if_neg (by omega : ¬ (1 : Int) = 0), if_neg (by omega : ¬ (0 : Int) = 1), if_pos (rfl : (1 : Int) = 1)]
      simp only [Int.mul_add, Int.sub_mul, Int.add_mul, Int.mul_sub] at k2 ⊢
      rw [Int.mul_comm pn p, Int.mul_comm pn q] at k2
      simp only [Int.zero_mul, Int.add_zero, Int.sub_zero, Int.zero_sub]
      omega
  · refine supp_no (by omega) (Int.le_of_lt hpos.1) (Int.le_of_lt hpos.2) (by omega) htwo2 hC (hsup _ (fun k hk hk2 ⟨w, h1, h3⟩ => ?_) (fun k hk hk2 hno => ?_)) hCl
    · rw [hne k (by omega)]
      refine hin k hk ⟨w, ?_, h3⟩
      by_cases e : w = t
      · subst e; omega
      · omega
    · rw [hne k (by omega)]
      exact hout k hk (fun ⟨w, h1, h3⟩ => hno ⟨w, by omega, h3⟩)
/-- All that the poorer one wants has passed over. -/
theorem div_end {v : List (List Int)} {L : List Int} (hg : Gds v) (h2 : v.length = 2) (hL : OrdS v L) (hall : allG v 0 = allG v 1) : moreA v (mvA v L L.length) ≤ 0 := by
  have hlen := mvA_len v L L.length
  obtain ⟨A, eA⟩ : ∃ A, mvA v L L.length = A := ⟨_, rfl⟩
  have hin := fun k hk => mvA_in hL L.length (Nat.le_refl _) k hk
  have hout := fun k hk => mvA_out hL L.length (Nat.le_refl _) k hk
  rw [eA] at hlen hin hout ⊢
  have hr := rcA_two v
  have hrl : rcA v < v.length := by omega
  have hrl1 : 1 - rcA v < v.length := by omega
  have hv0 := hg.2.2.2 _ hrl
  have hv1 := hg.2.2.2 _ hrl1
  have a1 : ∀ m, m ≤ wid v → worthUp v A (rcA v) (rcA v : Int) m ≤ sumUp (rget v (rcA v)) m := by
    intro m
    induction m with
    | zero => intro _; exact Int.le_refl _
    | succ m ih =>
      intro hm
      have := ih (by omega)
      have := (hv0.2 m (by rw [hv0.1]; omega)).1
      simp only [worthUp, sumUp]
      split <;> omega
  have a2 : ∀ m, m ≤ wid v → sumUp (rget v (1 - rcA v)) m ≤ worthUp v A (1 - rcA v) (1 - (rcA v : Int)) m := by
    intro m
    induction m with
    | zero => intro _; exact Int.le_refl _
    | succ m ih =>
      intro hm
      have i1 := ih (by omega)
      have i2 := (hv1.2 m (by rw [hv1.1]; omega)).1
      simp only [worthUp, sumUp]
      by_cases hp : ∃ s, s < L.length ∧ iget L s = (m : Int)
      · rw [if_pos (hin m (by omega) hp)]; omega
      · have ho := hout m (by omega) hp
        rcases owA_two (v := v) (k := m) (by omega) with h | h
        · by_cases e : rcA v = 0
          · have hz : ¬ 0 < iget (rget v (1 - rcA v)) m := fun hz => hp (hL.all m (by omega) (by rw [h, e]; rfl) hz)
            split <;> omega
          · rw [if_pos (by rw [ho, h]; omega)]; omega
        · by_cases e : rcA v = 1
          · have hz : ¬ 0 < iget (rget v (1 - rcA v)) m := fun hz => hp (hL.all m (by omega) (by rw [h, e]; rfl) hz)
            split <;> omega
          · rw [if_pos (by rw [ho, h]; omega)]; omega
  have b1 := a1 (wid v) (Nat.le_refl _)
  have b2 := a2 (wid v) (Nat.le_refl _)
  have e : sumUp (rget v (rcA v)) (wid v) = sumUp (rget v (1 - rcA v)) (wid v) := by
    unfold allG at hall
    rw [(hg.2.2.2 0 (by omega)).1, (hg.2.2.2 1 (by omega)).1] at hall
    rcases hr with er | er
    · rw [er]; exact hall
    · rw [er]; exact hall.symm
  unfold moreA worth
  rw [hlen]
  omega
end Go.Proofs.YtmcncflieoolmaaGreat

/- The walks of adjust.Divide's comparison and of slices.SortStableFunc with it, for at most 19 numbers. -/
namespace Go.Proofs.YtmcncflieoolmaaGreat
set_option linter.unusedVariables false
set_option linter.unusedSimpArgs false
open Go.ChangeShapes Go.WideShapes Go.ChangeAt Go.RowKit Go.Deep

/-- What the comparison answers. -/
def cmpA (own oth : List Int) (x y : Int) : Int := cmp3 (iget own x.toNat * iget oth y.toNat) (iget own y.toNat * iget oth x.toNat)
def SmlI (xs : List Int) : Prop := ∀ j, j < xs.length → 0 ≤ iget xs j ∧ iget xs j ≤ 1000
set_option maxHeartbeats 4000000 in
set_option maxRecDepth 100000 in
theorem divCmp_any (S T : Nat) (p q : Option Addr) (c d : Nat) (own oth : List Int) (a b : Nat) (w : World) (h1 : w.cell? ⟨S, 0, none⟩ = some (.slice p own.length c)) (h2 : w.cell? ⟨T, 0, none⟩ = some (.slice q oth.length d)) (ho : Ints w p c own) (ht : Ints w q d oth)
    (so : SmlI own) (st : SmlI oth) (ha : a < own.length) (hb : b < own.length) (ha' : a < oth.length) (hb' : b < oth.length) :
    Calls Tryz.prog 53 #[.int .i64 (a : Int), .int .i64 (b : Int), .pointer (some ⟨S, 0, none⟩), .pointer (some ⟨T, 0, none⟩)] w fun e w' => e = .returned (.int .i64 (cmpA own oth a b)) ∧ ∃ n, w' = w.drewN n := by
  obtain ⟨b1, o1, e1, _, c1⟩ := ho.get ha
  obtain ⟨b2, o2, e2, _, c2⟩ := ho.get hb
  obtain ⟨b3, o3, e3, _, c3⟩ := ht.get ha'
  obtain ⟨b4, o4, e4, _, c4⟩ := ht.get hb'
  have hl1 := ho.length_le
  have hl2 := ht.length_le
  subst e1
  cases e2
  subst e3
  cases e4
  have s1 := so a ha
  have s2 := so b hb
  have s3 := st a ha'
  have s4 := st b hb'
  have HE : Hid (cmpA own oth a b = cmp3 (iget own a * iget oth b) (iget own b * iget oth a)) := rfl
  obtain ⟨x1, y1⟩ : ∃ y, iget own a = y := ⟨_, rfl⟩
  obtain ⟨x2, y2⟩ : ∃ y, iget own b = y := ⟨_, rfl⟩
  obtain ⟨x3, y3⟩ : ∃ y, iget oth a = y := ⟨_, rfl⟩
  obtain ⟨x4, y4⟩ : ∃ y, iget oth b = y := ⟨_, rfl⟩
  rw [y1] at s1 c1 HE
  rw [y2] at s2 c2 HE
  rw [y3] at s3 c3 HE
  rw [y4] at s4 c4 HE
  have m1 : 0 ≤ x1 * x4 ∧ x1 * x4 ≤ 1000000 := ⟨Int.mul_nonneg s1.1 s4.1, by have := Int.mul_le_mul s1.2 s4.2 s4.1 (by omega : (0 : Int) ≤ 1000); omega⟩
  have m2 : 0 ≤ x2 * x3 ∧ x2 * x3 ≤ 1000000 := ⟨Int.mul_nonneg s2.1 s3.1, by have := Int.mul_le_mul s2.2 s3.2 s3.1 (by omega : (0 : Int) ≤ 1000); omega⟩
  have w1 : IntKind.i64.wrap (x1 * x4) = x1 * x4 := IntWalk.i64_in _ (by omega)
  have w2 : IntKind.i64.wrap (x2 * x3) = x2 * x3 := IntWalk.i64_in _ (by omega)
  have a1 : (a : Int) < own.length := by omega
  have a2 : (b : Int) < own.length := by omega
  have a3 : (a : Int) < oth.length := by omega
  have a4 : (b : Int) < oth.length := by omega
  clear y1 y2 y3 y4 s1 s2 s3 s4 m1 m2 so st
  rw [HE.out]
  go_enter Tryz.func53, Tryz.ntmps53
  go_wp2_with fail
  go_quiet ((go_at_call 54; exact Calls.quiet_of_same (compare_any _ _ _)))
  go_wp2_with fail
  go_ret
  exact ⟨rfl, _, rfl⟩

theorem swap_perm {L : List Int} {i j : Nat} (hi : i < L.length) (hj : j < L.length) : ((L.set i (iget L j)).set j (iget L i)).Perm L := by
  have h := Array.swap_perm (xs := L.toArray) (i := i) (j := j) (by simpa using hi) (by simpa using hj)
  rw [Array.perm_iff_toList_perm] at h
  have e : (L.toArray.swap i j (by simpa using hi) (by simpa using hj)).toList = (L.set i (iget L j)).set j (iget L i) := by
    rw [Array.toList_swap]
    simp [iget, List.getD, hi, hj]
  rw [e] at h
  exact h
end Go.Proofs.YtmcncflieoolmaaGreat

/- The walks of slices.insertionSortCmpFunc and SortStableFunc with the comparison of adjust.Divide, for at most 19 numbers. -/
namespace Go.Proofs.YtmcncflieoolmaaGreat
set_option linter.unusedVariables false
set_option linter.unusedSimpArgs false
open Go.ChangeShapes Go.WideShapes Go.ChangeAt Go.RowKit Go.Deep

/-- The comparison may be asked in every world that keeps what W0 holds below base. -/
def CmpW (W0 : World) (base S T m : Nat) (own oth : List Int) : Prop := ∀ (W : World) (a b : Nat), Below base W0 W → a < m → b < m → Calls Tryz.prog 53 #[.int .i64 (a : Int), .int .i64 (b : Int), .pointer (some ⟨S, 0, none⟩), .pointer (some ⟨T, 0, none⟩)] W fun e w' => e = .returned (.int .i64 (cmpA own oth a b)) ∧ ∃ n, w' = W.drewN n
/-- The pairs of neighbours up to place i are in order, but for the pair that ends at j. -/
def InsI (own oth : List Int) (M : List Int) (i j : Nat) : Prop := (∀ t, t + 1 ≤ i → t + 1 ≠ j → ¬ cmpA own oth (iget M (t + 1)) (iget M t) < 0) ∧ (0 < j → j < i → ¬ cmpA own oth (iget M (j + 1)) (iget M (j - 1)) < 0)
def SrtI (own oth : List Int) (M : List Int) (i : Nat) : Prop := ∀ t, t + 1 < i → ¬ cmpA own oth (iget M (t + 1)) (iget M t) < 0
theorem InsI.swap {own oth M : List Int} {i j : Nat} (hi : i < M.length) (hj : j + 1 ≤ i) (h : InsI own oth M i (j + 1)) (hlt : cmpA own oth (iget M (j + 1)) (iget M j) < 0) : InsI own oth ((M.set (j + 1) (iget M j)).set j (iget M (j + 1))) i j := by
  have hg : ∀ x, iget ((M.set (j + 1) (iget M j)).set j (iget M (j + 1))) x = if j = x then iget M (j + 1) else if j + 1 = x then iget M j else iget M x := fun x => by
    rw [iget_set (by rw [List.length_set]; omega), iget_set (by omega)]
  obtain ⟨h1, h2⟩ := h
  refine ⟨fun t ht hne => ?_, fun h0 hji => ?_⟩
  · rw [hg, hg]
    by_cases e : j = t
    · subst e
      rw [if_neg (by omega : ¬ j = j + 1), if_pos rfl, if_pos rfl]
      intro hh
      -- y < x and x < y cannot be
      unfold cmpA cmp3 at hlt hh
      split at hlt <;> split at hh <;> (try split at hlt) <;> (try split at hh) <;> omega
    · rw [if_neg (by omega : ¬ j = t + 1)]
      by_cases e2 : j + 1 = t
      · subst e2
        rw [if_neg (by omega : ¬ j + 1 = j + 1 + 1), if_neg (by omega : ¬ j = j + 1), if_pos rfl]
        have := h2 (by omega) (by omega)
        exact this
      · rw [if_neg (by omega : ¬ j + 1 = t + 1), if_neg e, if_neg e2]
        exact h1 t ht (by omega)
  · rw [hg, hg, if_neg (by omega : ¬ j = j + 1), if_pos rfl, if_neg (by omega : ¬ j = j - 1), if_neg (by omega : ¬ j + 1 = j - 1)]
    have := h1 (j - 1) (by omega) (by omega)
    rw [show j - 1 + 1 = j by omega] at this
    exact this

set_option maxHeartbeats 8000000 in
set_option maxRecDepth 100000 in
theorem insSort_any (W0 : World) (base S T m n : Nat) (own oth : List Int) (hf : CmpW W0 base S T m own oth) (p : Option Addr) (c : Nat) (L : List Int) (w : World) (hB : Below base W0 w) (hO : Own w base p c L) (hok : ∀ j, j < L.length → 0 ≤ iget L j ∧ iget L j < m) (hn : Hid (L.length = n)) (hn9 : n ≤ 19) :
    Calls Tryz.prog 118 #[.slice p n c, .int .i64 0, .int .i64 (n : Int), .func (.func 53) #[] #[.pointer (some ⟨S, 0, none⟩), .pointer (some ⟨T, 0, none⟩)]] w fun e w' => (∃ x, e = .returned x) ∧ ∃ M, M.Perm L ∧ SrtI own oth M M.length ∧ Own w' base p c M ∧ Below base W0 w' := by
  have Hf := Lib.hid hf
  have Hok := Lib.hid hok
  clear hf hok
  go_enter Tryz.func118, Tryz.ntmps118
  go_wp2_with fail
  go_loopw [8] (fun s wr => ∃ (i : Nat) (M : List Int), s = .int .i64 (i : Int) ∧ 1 ≤ i ∧ (i ≤ n ∨ i = 1) ∧ Hid (M.length = n ∧ M.Perm L ∧ SrtI own oth M i) ∧ Own wr base p c M ∧ Below base W0 wr) (fun s _ => n + 1 - (intOf s).toNat)
  case atStart => exact ⟨1, L, by go_num, Nat.le_refl _, .inr rfl, ⟨hn.out, List.Perm.refl _, fun t ht => by omega⟩, hO, hB⟩
  case round =>
    obtain ⟨i, M, rfl, hi1, hin, HM, hOr, hBr⟩ := hrel
    by_cases hlt : i < n
    · have hk1 : (i : Int) < (n : Int) := by omega
      have HOr := Lib.hid hOr
      have HBr := Lib.hid hBr
      clear hOr hBr
      go_wp2_with fail
      go_loopw [9] (fun s wr2 => ∃ (j : Nat) (N : List Int), s = .int .i64 (j : Int) ∧ j ≤ i ∧ Hid (N.length = n ∧ N.Perm L ∧ InsI own oth N i j) ∧ Own wr2 base p c N ∧ Below base W0 wr2) (fun s _ => (intOf s).toNat)
      case atStart => exact ⟨i, M, rfl, Nat.le_refl _, ⟨HM.out.1, HM.out.2.1, fun t ht hne => HM.out.2.2 t (by omega), fun h1 h2 => by omega⟩, HOr.out, HBr.out⟩
      case round =>
        obtain ⟨j, N, rfl, hj, HN, hO2, hB2⟩ := hrel
        by_cases hj0 : j = 0
        · have hd : decide ((0 : Int) < (j : Int)) = false := by rw [decide_eq_false_iff_not]; omega
          have hd' : ¬ (0 : Int) < (j : Int) := by omega
          have hdn : decide (0 < j) = false := by rw [decide_eq_false_iff_not]; omega
          have hdn' : ¬ 0 < j := by omega
          have HJ := Lib.hid hj0
          have HO2 := Lib.hid hO2
          have HB2 := Lib.hid hB2
          clear hj0 hO2 hB2
          go_wp2_with fail
          go_quiet (fail)
          go_wp2_with fail
          go_roundw
          case rel =>
            refine ⟨i + 1, N, by go_num, by omega, by omega, ⟨HN.out.1, HN.out.2.1, fun t ht => HN.out.2.2.1 t (by omega) (by have := HJ.out; omega)⟩, (by first | exact HO2.out.drew1 | exact HO2.out.drewN _), (by first | exact HB2.out.drew | exact HB2.out.drewP ⟨_, rfl⟩)⟩
          case measure => simp [intOf]; omega
        · obtain ⟨jp, rfl⟩ : ∃ jp, j = jp + 1 := ⟨j - 1, by omega⟩
          have hlN : N.length = n := HN.out.1
          obtain ⟨g, rfl, hg1, hg2, cj, fj⟩ := hO2.get (j := jp + 1) (by omega)
          have cp := hO2.at (j := jp) (by omega)
          have fp := hO2.free jp
          have hxj := Hok.out
          have mj : 0 ≤ iget N (jp + 1) ∧ iget N (jp + 1) < m := by
            have := HN.out.2.1.mem_iff (a := iget N (jp + 1))
            have h1 : iget N (jp + 1) ∈ N := by
              have : jp + 1 < N.length := by omega
              simp [iget, List.getD, this]
            obtain ⟨t, ht, e⟩ := List.mem_iff_getElem.1 (this.1 h1)
            have h3 := hxj t ht
            have e2 : iget L t = iget N (jp + 1) := by rw [← e]; simp [iget, List.getD, ht]
            rw [e2] at h3
            exact h3
          have mp : 0 ≤ iget N jp ∧ iget N jp < m := by
            have := HN.out.2.1.mem_iff (a := iget N jp)
            have h1 : iget N jp ∈ N := by
              have : jp < N.length := by omega
              simp [iget, List.getD, this]
            obtain ⟨t, ht, e⟩ := List.mem_iff_getElem.1 (this.1 h1)
            have h3 := hxj t ht
            have e2 : iget L t = iget N jp := by rw [← e]; simp [iget, List.getD, ht]
            rw [e2] at h3
            exact h3
          clear hxj hlN
          obtain ⟨xj, ej⟩ : ∃ x : Nat, iget N (jp + 1) = (x : Int) := ⟨(iget N (jp + 1)).toNat, by omega⟩
          obtain ⟨xp, ep⟩ : ∃ x : Nat, iget N jp = (x : Int) := ⟨(iget N jp).toNat, by omega⟩
          have i1 : in64 (xj : Int) := by rw [← ej]; exact hO2.rng _ (by rw [HN.out.1]; omega)
          have i2 : in64 (xp : Int) := by rw [← ep]; exact hO2.rng _ (by rw [HN.out.1]; omega)
          have HI2 := Lib.hid (And.intro i1 i2)
          rw [ej] at cj mj
          rw [ep] at cp mp
          have hwp : IntKind.i64.wrap (jp : Int) = (jp : Int) := IntWalk.i64_in _ (by omega)
          have jz : (jp : Int) + 1 < (n : Int) := by omega
          have jz1 : (jp : Int) < (n : Int) := by omega
          have hd : decide ((0 : Int) < (jp : Int) + 1) = true := by rw [decide_eq_true_iff]; omega
          have hjaz' : (0 : Int) < (jp : Int) + 1 := by omega
          have p0 : (0 : Int) ≤ (jp : Int) + 1 := by omega
          have e0 : ((jp : Int) + 1).toNat = jp + 1 := by omega
          have hc := fun k => Hf.out (wr.drewN k) xj xp (hB2.drewP ⟨k, rfl⟩) (by omega) (by omega)
          have HO2 := Lib.hid hO2
          have HB2 := Lib.hid hB2
          have HG := Lib.hid (And.intro hg1 hg2)
          have EJ := Lib.hid ej
          have EP := Lib.hid ep
          clear hO2 hB2 mj mp hg1 hg2 ej ep i1 i2
          by_cases hlv : cmpA own oth (xj : Int) (xp : Int) < 0
          · have HLV := Lib.hid hlv
            have hdv : decide (cmpA own oth (xj : Int) (xp : Int) < 0) = true := by rw [decide_eq_true_iff]; exact hlv
            clear hlv
            go_wp2_with fail
            go_quiet ((go_at_call 53; exact Calls.quiet_of (hc _)))
            go_wp2_with fail
            have hw2 : ∃ n, wr.drewN nq = wr.drewN n := ⟨_, rfl⟩
            have cj2 : (wr.drewN nq).cell? ⟨g, jp + 1, none⟩ = some (.int .i64 (xj : Int)) := cj
            have cp2 : (wr.drewN nq).cell? ⟨g, jp, none⟩ = some (.int .i64 (xp : Int)) := cp
            have fj2 : (wr.drewN nq).frozen? ⟨g, jp + 1, none⟩ = false := fj
            have fp2 : (wr.drewN nq).frozen? ⟨g, jp, none⟩ = false := fp
            have HW2 : Hid (Own (wr.drewN nq) base (some ⟨g, 0, none⟩) c N ∧ Below base W0 (wr.drewN nq)) := ⟨HO2.out.drewN _, HB2.out.drewP ⟨_, rfl⟩⟩
            clear cj cp fj fp hc hw2
            generalize wr.drewN nq = wq2 at cj2 cp2 fj2 fp2 HW2 ⊢
            obtain ⟨j1, hj1⟩ : ∃ j1, j1 = jp + 1 := ⟨_, rfl⟩
            rw [← hj1] at cj2 fj2 e0
            have J1 : Hid (j1 = jp + 1) := hj1
            clear hj1
            go_big_region
            all_goals
              go_wp2_with fail
              go_roundw
              case rel =>
                refine ⟨jp, (N.set (jp + 1) (iget N jp)).set jp (iget N (jp + 1)), by first | rfl | go_num | (congr 1; omega), by omega, ⟨by rw [List.length_set, List.length_set]; exact HN.out.1, (swap_perm (by rw [HN.out.1]; omega) (by rw [HN.out.1]; omega)).trans HN.out.2.1, InsI.swap (by rw [HN.out.1]; omega) hj HN.out.2.2 (by rw [EJ.out, EP.out]; exact HLV.out)⟩, ?_, ?_⟩
                · rw [J1.out, EJ.out, EP.out]
                  first
                    | exact ((HW2.out.1.set (jp + 1) HI2.out.2).1.set jp HI2.out.1).1.drew1
                    | (rw [List.set_comm _ _ (by omega)]; exact ((HW2.out.1.set jp HI2.out.1).1.set (jp + 1) HI2.out.2).1.drew1)
                · have hg := HG.out.1
                  first
                    | exact ((HW2.out.2.setCell (by exact hg) _).setCell (by exact hg) _).drew
              case measure => (simp [intOf] <;> omega)
          · have HLV := Lib.hid hlv
            have hdv : decide (cmpA own oth (xj : Int) (xp : Int) < 0) = false := by rw [decide_eq_false_iff_not]; exact hlv
            clear hlv
            go_wp2_with fail
            go_quiet ((go_at_call 53; exact Calls.quiet_of (hc _)))
            go_wp2_with fail
            go_roundw
            case rel =>
              refine ⟨i + 1, N, by go_num, by omega, by omega, ⟨HN.out.1, HN.out.2.1, fun t ht => ?_⟩, (by first | exact HO2.out.drew1 | exact HO2.out.drewN _), (by first | exact HB2.out.drew | exact HB2.out.drewP ⟨_, rfl⟩)⟩
              by_cases e : t = jp
              · subst e; rw [EJ.out, EP.out]; have := HLV.out; omega
              · exact HN.out.2.2.1 t (by omega) (by omega)
            case measure => simp [intOf]; omega
    · have hk1 : ¬ (i : Int) < (n : Int) := by omega
      have HOr := Lib.hid hOr
      have HBr := Lib.hid hBr
      clear hOr hBr
      go_wp2_with fail
      go_end0
      refine ⟨⟨_, rfl⟩, M, HM.out.2.1, ?_, HOr.out, HBr.out⟩
      intro t ht
      exact HM.out.2.2 t (by have := HM.out.1; omega)
set_option maxHeartbeats 1600000 in
set_option maxRecDepth 100000 in
theorem stable_any (W0 : World) (base S T m n : Nat) (own oth : List Int) (hf : CmpW W0 base S T m own oth) (p : Option Addr) (c : Nat) (L : List Int) (w : World) (hB : Below base W0 w) (hO : Own w base p c L) (hok : ∀ j, j < L.length → 0 ≤ iget L j ∧ iget L j < m) (hn : Hid (L.length = n)) (hn9 : n ≤ 19) :
    Calls Tryz.prog 93 #[.slice p n c, .int .i64 (n : Int), .func (.func 53) #[] #[.pointer (some ⟨S, 0, none⟩), .pointer (some ⟨T, 0, none⟩)]] w fun e w' => (∃ x, e = .returned x) ∧ ∃ M, M.Perm L ∧ SrtI own oth M M.length ∧ Own w' base p c M ∧ Below base W0 w' := by
  have HI := Lib.hid (insSort_any W0 base S T m n own oth hf p c L w hB hO hok hn hn9)
  have h1 : ¬ (20 : Int) ≤ (n : Int) := by omega
  have h2 : ¬ (20 : Int) < (n : Int) := by omega
  have h1d : decide ((20 : Int) ≤ (n : Int)) = false := by rw [decide_eq_false_iff_not]; exact h1
  have h2d : decide ((20 : Int) < (n : Int)) = false := by rw [decide_eq_false_iff_not]; exact h2
  clear hf hok hB hO
  go_enter Tryz.func93, Tryz.ntmps93
  go_wp2_with fail
  go_loopw [8, 7] (fun s t wr => s = .int .i64 20 ∧ t = .int .i64 0 ∧ wr = w) (fun s _ _ => 0)
  case atStart => exact ⟨rfl, rfl, rfl⟩
  case round =>
    obtain ⟨rfl, rfl, rfl⟩ := hrel
    go_wp2_with fail
    refine HI.out.mono ?_
    rintro e w' ⟨⟨x, rfl⟩, hr⟩
    have HR := Lib.hid hr
    clear hr
    go_wp2_with fail
    go_loopw [6] (fun s wr => s = .int .i64 20 ∧ wr = w') (fun s _ => 0)
    case atStart => exact ⟨rfl, rfl⟩
    case round =>
      obtain ⟨rfl, rfl⟩ := hrel
      go_wp2_with fail
      go_end0
      exact ⟨⟨_, rfl⟩, HR.out⟩
set_option maxHeartbeats 1600000 in
set_option maxRecDepth 100000 in
theorem sortStable_any (W0 : World) (base S T m n : Nat) (own oth : List Int) (hf : CmpW W0 base S T m own oth) (p : Option Addr) (c : Nat) (L : List Int) (w : World) (hB : Below base W0 w) (hO : Own w base p c L) (hok : ∀ j, j < L.length → 0 ≤ iget L j ∧ iget L j < m) (hn : Hid (L.length = n)) (hn9 : n ≤ 19) :
    Calls Tryz.prog 52 #[.slice p n c, .func (.func 53) #[] #[.pointer (some ⟨S, 0, none⟩), .pointer (some ⟨T, 0, none⟩)]] w fun e w' => (∃ x, e = .returned x) ∧ ∃ M, M.Perm L ∧ SrtI own oth M M.length ∧ Own w' base p c M ∧ Below base W0 w' := by
  have HI := Lib.hid (stable_any W0 base S T m n own oth hf p c L w hB hO hok hn hn9)
  clear hf hok hB hO
  go_enter Tryz.func52, Tryz.ntmps52
  go_wp2_with fail
  refine HI.out.mono ?_
  rintro e w' ⟨⟨x, rfl⟩, hr⟩
  have HR := Lib.hid hr
  clear hr
  go_wp2_with fail
  go_end0
  exact ⟨⟨_, rfl⟩, HR.out⟩
end Go.Proofs.YtmcncflieoolmaaGreat
