/- Fractions in lowest terms: what they are worth, sums; plain, no program. -/
import Derived.Test.YtojldecldemfaaaTopRoomFreem10
import Derived.Test.YtojldecldemfaaaTopRoomFreem15
import Derived.Deep.RegionHeld3
import Derived.Test.YtojldecldemfaaaTopRoomFreem1
import Derived.Orders
import Derived.WalkKit
namespace Go.Proofs.Ytojldecldemfaaa
set_option linter.unusedVariables false
set_option linter.unusedSimpArgs false

theorem sgn_abs (x : Int) : sgn (decide (x < 0)) x.natAbs = x := by
  unfold sgn; split <;> rename_i h <;> simp at h <;> omega
theorem sgn_natAbs (m : Bool) (a : Nat) : (sgn m a).natAbs = a := by unfold sgn; split <;> simp
theorem rN_mul {x : Int} {d : Nat} (hd : 0 < d) : rN x d * (rG x d : Nat) = x := by
  have h := Nat.div_mul_cancel (Nat.gcd_dvd_left x.natAbs d)
  have h' : x.natAbs / rG x d * rG x d = x.natAbs := h
  unfold rN sgn
  split
  · rename_i hx
    rw [decide_eq_true_iff] at hx
    rw [Int.neg_mul, ← Int.natCast_mul, h']; omega
  · rename_i hx
    rw [decide_eq_true_iff] at hx
    rw [← Int.natCast_mul, h']; omega
theorem rD_mul {x : Int} {d : Nat} : rD x d * (rG x d : Nat) = d := by
  have h := Nat.div_mul_cancel (Nat.gcd_dvd_right x.natAbs d)
  unfold rD
  rw [← Int.natCast_mul]
  exact congrArg _ h
theorem rD_pos {x : Int} {d : Nat} (hd : 0 < d) : 0 < d / rG x d := Nat.div_pos (rG_le hd) (rG_pos hd)
theorem rD_le {x : Int} {d : Nat} : d / rG x d ≤ d := Nat.div_le_self _ _
theorem rN_le {x : Int} {d : Nat} : (rN x d).natAbs ≤ x.natAbs := by
  unfold rN; rw [sgn_natAbs]; exact Nat.div_le_self _ _
theorem rN_bd {x : Int} {d : Nat} {M : Int} (h1 : -M ≤ x) (h2 : x ≤ M) : -M ≤ rN x d ∧ rN x d ≤ M := by
  have := rN_le (x := x) (d := d); omega
theorem rat_cop {x : Int} {d : Nat} (hd : 0 < d) : Nat.gcd (rN x d).natAbs (d / rG x d) = 1 := by
  unfold rN
  rw [sgn_natAbs]
  exact Nat.coprime_iff_gcd_eq_one.1 (Nat.coprime_div_gcd_div_gcd (Nat.gcd_pos_of_pos_right _ hd))
/-- A fraction in lowest terms is one fraction. -/
theorem rat_scale {x : Int} {d k : Nat} (hd : 0 < d) (hk : 0 < k) : rN (k * x) (k * d) = rN x d ∧ rD (k * x) (k * d) = rD x d := by
  have hg : rG (k * x) (k * d) = k * rG x d := by
    unfold rG; rw [Int.natAbs_mul, Int.natAbs_natCast, Nat.gcd_mul_left]
  have hs : decide ((k : Int) * x < 0) = decide (x < 0) := by
    rw [Bool.eq_iff_iff, decide_eq_true_iff, decide_eq_true_iff]
    constructor
    · intro h
      rcases Int.lt_or_le x 0 with h1 | h1
      · exact h1
      · have := Int.mul_nonneg (show (0 : Int) ≤ k by omega) h1; omega
    · intro h; exact Int.mul_neg_of_pos_of_neg (by omega) h
  unfold rN rD
  rw [hg, hs, Int.natAbs_mul, Int.natAbs_natCast, Nat.mul_div_mul_left _ _ hk, Nat.mul_div_mul_left _ _ hk]
  exact ⟨rfl, rfl⟩
theorem rat_eq {x y : Int} {d e : Nat} (hd : 0 < d) (he : 0 < e) (h : x * e = y * d) : rN x d = rN y e ∧ rD x d = rD y e := by
  obtain ⟨h1, h2⟩ := rat_scale (x := x) hd he
  obtain ⟨h3, h4⟩ := rat_scale (x := y) he hd
  have e1 : (e : Int) * x = d * y := by rw [Int.mul_comm, h, Int.mul_comm]
  rw [e1, Nat.mul_comm] at h1 h2
  exact ⟨h1.symm.trans h3, h2.symm.trans h4⟩
/-- What is in lowest terms is its own lowest terms. -/
theorem rat_self {a : Int} {b : Nat} (h : Nat.gcd a.natAbs b = 1) : rN a b = a ∧ rD a b = b := by
  have hg : rG a b = 1 := h
  unfold rN rD
  rw [hg, Nat.div_one, Nat.div_one, sgn_abs]
  exact ⟨rfl, rfl⟩
theorem rat_less {x y : Int} {d e : Nat} (hd : 0 < d) (he : 0 < e) : decide (rN x d * rD y e < rN y e * rD x d) = decide (x * e < y * d) := by
  have h1 := rN_mul (x := x) hd
  have h2 := rN_mul (x := y) he
  have h3 := rD_mul (x := x) (d := d)
  have h4 := rD_mul (x := y) (d := e)
  have g1 : (0 : Int) < (rG x d : Nat) := by have := rG_pos (x := x) hd; omega
  have g2 : (0 : Int) < (rG y e : Nat) := by have := rG_pos (x := y) he; omega
  obtain ⟨G1, e1⟩ : ∃ G : Int, ((rG x d : Nat) : Int) = G := ⟨_, rfl⟩
  obtain ⟨G2, e2⟩ : ∃ G : Int, ((rG y e : Nat) : Int) = G := ⟨_, rfl⟩
  rw [e1] at h1 h3 g1
  rw [e2] at h2 h4 g2
  obtain ⟨a, ha⟩ : ∃ a, rN x d = a := ⟨_, rfl⟩
  obtain ⟨b, hb⟩ : ∃ a, rD x d = a := ⟨_, rfl⟩
  obtain ⟨a', ha'⟩ : ∃ a, rN y e = a := ⟨_, rfl⟩
  obtain ⟨b', hb'⟩ : ∃ a, rD y e = a := ⟨_, rfl⟩
  rw [ha] at h1 ⊢
  rw [hb] at h3 ⊢
  rw [ha'] at h2 ⊢
  rw [hb'] at h4 ⊢
  have l : x * e = (G1 * G2) * (a * b') := by
    rw [← h1, ← h4]; simp only [Int.mul_comm, Int.mul_left_comm, Int.mul_assoc]
  have r : y * d = (G1 * G2) * (a' * b) := by
    rw [← h2, ← h3]; simp only [Int.mul_comm, Int.mul_left_comm, Int.mul_assoc]
  rw [l, r, Bool.eq_iff_iff, decide_eq_true_iff, decide_eq_true_iff]
  have hp : 0 < G1 * G2 := Int.mul_pos g1 g2
  exact ⟨fun h => Int.mul_lt_mul_of_pos_left h hp, fun h => Int.lt_of_mul_lt_mul_left h (Int.le_of_lt hp)⟩

/-- The sum, as both texts find it. -/
def adG (b e : Nat) : Nat := Nat.gcd b e
def adT (a c : Int) (b e : Nat) : Int := a * ((e / adG b e : Nat) : Int) + c * ((b / adG b e : Nat) : Int)
def adH (a c : Int) (b e : Nat) : Nat := Nat.gcd ((adT a c b e).natAbs % adG b e) (adG b e)
theorem ad_cop {p q r s : Nat} (h1 : Nat.gcd p r = 1) (h2 : Nat.gcd s r = 1) : Nat.Coprime (p * s) r := Nat.Coprime.mul_left h1 h2
theorem cop_add {a c : Int} {d' : Nat} {m : Nat} (h1 : Nat.Coprime a.natAbs m) (h2 : Nat.Coprime d' m) (h3 : (m : Int) ∣ c) : Nat.Coprime (a * (d' : Int) + c).natAbs m := by
  have h : Nat.Coprime (a * (d' : Int)).natAbs m := by
    rw [Int.natAbs_mul, Int.natAbs_natCast]; exact Nat.Coprime.mul_left h1 h2
  rw [Nat.coprime_iff_gcd_eq_one] at h ⊢
  refine Nat.eq_one_of_dvd_one ?_
  rw [← h]
  refine Nat.dvd_gcd ?_ (Nat.gcd_dvd_right _ _)
  have k1 : ((Nat.gcd (a * (d' : Int) + c).natAbs m : Nat) : Int) ∣ a * (d' : Int) + c := Int.ofNat_dvd_left.2 (Nat.gcd_dvd_left _ _)
  have k2 : ((Nat.gcd (a * (d' : Int) + c).natAbs m : Nat) : Int) ∣ c := Int.dvd_trans (Int.ofNat_dvd.2 (Nat.gcd_dvd_right _ _)) h3
  have k3 := Int.dvd_sub k1 k2
  rw [Int.add_sub_cancel] at k3
  exact Int.ofNat_dvd_left.1 k3
theorem ad_sum {a c : Int} {b e : Nat} (hb : 0 < b) (he : 0 < e) (h1 : Nat.gcd a.natAbs b = 1) (h2 : Nat.gcd c.natAbs e = 1) :
    rN (a * e + c * b) (b * e) = sgn (decide (adT a c b e < 0)) ((adT a c b e).natAbs / adH a c b e) ∧ rD (a * e + c * b) (b * e) = ((b / adG b e * (e / adH a c b e) : Nat) : Int) := by
  have hg : 0 < adG b e := Nat.gcd_pos_of_pos_left _ hb
  have hbd : adG b e ∣ b := Nat.gcd_dvd_left _ _
  have hed : adG b e ∣ e := Nat.gcd_dvd_right _ _
  have hcop : Nat.Coprime (b / adG b e) (e / adG b e) := Nat.coprime_div_gcd_div_gcd hg
  have hT : adT a c b e = a * ((e / adG b e : Nat) : Int) + c * ((b / adG b e : Nat) : Int) := rfl
  have hH : adH a c b e = Nat.gcd ((adT a c b e).natAbs % adG b e) (adG b e) := rfl
  obtain ⟨g, eg⟩ : ∃ g, adG b e = g := ⟨_, rfl⟩
  obtain ⟨t, et⟩ : ∃ t, adT a c b e = t := ⟨_, rfl⟩
  obtain ⟨h, eh⟩ : ∃ t, adH a c b e = t := ⟨_, rfl⟩
  rw [eg] at hg hbd hed hcop hT hH ⊢
  rw [et] at hT hH ⊢
  rw [eh] at hH ⊢
  obtain ⟨b', rfl⟩ := hbd
  obtain ⟨e', rfl⟩ := hed
  clear eg et eh
  rw [Nat.mul_div_cancel_left _ hg, Nat.mul_div_cancel_left _ hg] at hcop hT
  rw [Nat.mul_div_cancel_left _ hg]
  have hb' : 0 < b' := Nat.pos_of_mul_pos_left hb |> fun _ => by
    rcases Nat.eq_zero_or_pos b' with h | h
    · subst h; simp at hb
    · exact h
  have he' : 0 < e' := by
    rcases Nat.eq_zero_or_pos e' with h | h
    · subst h; simp at he
    · exact h
  -- t over b' e' g
  have k1 : a * ((g * e' : Nat) : Int) + c * ((g * b' : Nat) : Int) = (g : Int) * t := by
    rw [hT]; push_cast; rw [Int.mul_add]; simp only [Int.mul_comm, Int.mul_left_comm, Int.mul_assoc]
  have k2 : g * b' * (g * e') = g * (b' * e' * g) := by simp only [Nat.mul_comm, Nat.mul_left_comm, Nat.mul_assoc]
  have hp : 0 < b' * e' * g := Nat.mul_pos (Nat.mul_pos hb' he') hg
  obtain ⟨s1, s2⟩ := rat_scale (x := t) hp hg
  rw [k1, k2, s1, s2]
  -- what t has in common with b' e' g it has in common with g
  have c1 : Nat.Coprime t.natAbs b' := by
    rw [hT]
    exact cop_add (Nat.Coprime.coprime_mul_left_right h1) (Nat.Coprime.symm hcop) (Int.dvd_mul_left _ _)
  have c2 : Nat.Coprime t.natAbs e' := by
    rw [hT, Int.add_comm]
    exact cop_add (Nat.Coprime.coprime_mul_left_right h2) hcop (Int.dvd_mul_left _ _)
  have hG : rG t (b' * e' * g) = h := by
    unfold rG
    rw [Nat.Coprime.gcd_mul_left_cancel_right g (Nat.Coprime.mul_right c1 c2).symm, Nat.gcd_comm, Nat.gcd_rec, ← hH]
  have hh : 0 < h := hH ▸ Nat.gcd_pos_of_pos_right _ hg
  have hhg : h ∣ g := hH ▸ Nat.gcd_dvd_right _ _
  unfold rN rD
  rw [hG]
  refine ⟨rfl, ?_⟩
  clear hG hH
  obtain ⟨q, rfl⟩ := hhg
  rw [show b' * e' * (h * q) = h * (b' * (q * e')) by simp only [Nat.mul_comm, Nat.mul_left_comm, Nat.mul_assoc], Nat.mul_div_cancel_left _ hh, Nat.mul_assoc h, Nat.mul_div_cancel_left _ hh]
end Go.Proofs.Ytojldecldemfaaa

/- The ranges of prices: prices by the links from a room at either end are without envy, and no price without envy lies beyond; plain, no program. -/
namespace Go.Proofs.Ytojldecldemfaaa
set_option linter.unusedVariables false
set_option linter.unusedSimpArgs false

noncomputable def gLk (v : List (List Int)) (j k : Nat) : Int := bid (linkL v (bestA v)) j k
theorem gLk_eq {v : List (List Int)} {j k : Nat} (hj : j < v.length) (hk : k < v.length) : gLk v j k = lnkS (wl v (bestA v)) v.length j k := tab_bid _ hj hk
theorem gLk_self {v : List (List Int)} {j : Nat} (hj : j < v.length) : gLk v j j = 0 := by
  rw [gLk_eq hj hj]; exact (lnkS_clo _ _).self hj
theorem gLk_tri {v : List (List Int)} (h0 : 0 < v.length) {x y z : Nat} (hx : x < v.length) (hy : y < v.length) (hz : z < v.length) : gLk v x y + gLk v y z ≤ gLk v x z := by
  rw [gLk_eq hx hy, gLk_eq hy hz, gLk_eq hx hz]
  exact (lnkS_clo _ _).tri (noGain_best (bestA_best h0) h0) hx hy hz
theorem gLk_one {v : List (List Int)} (h0 : 0 < v.length) {x y : Nat} (hx : x < v.length) (hy : y < v.length) : wl v (bestA v) x y ≤ gLk v x y := by
  rw [gLk_eq hx hy]
  have h1 := (lnkS_clo (wl v (bestA v)) v.length).step (noGain_best (bestA_best h0) h0) hx hx hy
  rw [(lnkS_clo (wl v (bestA v)) v.length).self hx] at h1
  omega
/-- The prices with the room j at its least, at its greatest price, times the number of rooms. -/
noncomputable def xLo (v : List (List Int)) (r : Int) (j k : Nat) : Int := lowI v r j v.length - v.length * gLk v k j
noncomputable def yHi (v : List (List Int)) (r : Int) (j k : Nat) : Int := highI v r j v.length + v.length * gLk v j k
theorem xLo_ef {v : List (List Int)} (h0 : 0 < v.length) (r : Int) {j : Nat} (hj : j < v.length) : EF v (bestA v) (xLo v r j) v.length := by
  rw [ef_pot (bestA_best h0).1]
  intro y z hy hz
  have h1 := gLk_one h0 hy hz
  have h2 := gLk_tri h0 hy hz hj
  have h3 := Int.mul_le_mul_of_nonneg_left (show wl v (bestA v) y z + gLk v z j ≤ gLk v y j by omega) (show (0 : Int) ≤ v.length by omega)
  rw [Int.mul_add, Int.mul_comm _ (wl v (bestA v) y z)] at h3
  unfold xLo
  omega
theorem yHi_ef {v : List (List Int)} (h0 : 0 < v.length) (r : Int) {j : Nat} (hj : j < v.length) : EF v (bestA v) (yHi v r j) v.length := by
  rw [ef_pot (bestA_best h0).1]
  intro y z hy hz
  have h1 := gLk_one h0 hy hz
  have h2 := gLk_tri h0 hj hy hz
  have h3 := Int.mul_le_mul_of_nonneg_left (show gLk v j y + wl v (bestA v) y z ≤ gLk v j z by omega) (show (0 : Int) ≤ v.length by omega)
  rw [Int.mul_add, Int.mul_comm _ (wl v (bestA v) y z)] at h3
  unfold yHi
  omega
theorem xLo_sum (v : List (List Int)) (r : Int) (j : Nat) : sumTo (xLo v r j) v.length = v.length * r := by
  have e : sumTo (xLo v r j) v.length = sumTo (fun k => lowI v r j v.length - v.length * gLk v k j) v.length := rfl
  have h : lowI v r j v.length = r + sumTo (fun k => gLk v k j) v.length := rfl
  rw [e, sumTo_sub, sumTo_const, sumTo_mul, h, Int.add_mul, Int.mul_comm r, Int.mul_comm (sumTo (fun k => gLk v k j) v.length)]
  omega
theorem yHi_sum (v : List (List Int)) (r : Int) (j : Nat) : sumTo (yHi v r j) v.length = v.length * r := by
  have e : sumTo (yHi v r j) v.length = sumTo (fun k => highI v r j v.length + v.length * gLk v j k) v.length := rfl
  have h : highI v r j v.length = r - sumTo (gLk v j) v.length := rfl
  rw [e, sumTo_add, sumTo_const, sumTo_mul, h, Int.sub_mul, Int.mul_comm r, Int.mul_comm (sumTo (gLk v j) v.length)]
  omega
theorem nG_bd {v : List (List Int)} (hv : Bids v) {x y : Nat} (hx : x < v.length) (hy : y < v.length) : -36000000 ≤ (v.length : Int) * gLk v x y ∧ (v.length : Int) * gLk v x y ≤ 36000000 := by
  have h := linkL_bd hv hx hy
  have h' : -6000000 ≤ gLk v x y ∧ gLk v x y ≤ 6000000 := h
  have h6 := hv.2.1
  generalize v.length = n at *
  have : n = 0 ∨ n = 1 ∨ n = 2 ∨ n = 3 ∨ n = 4 ∨ n = 5 ∨ n = 6 := by omega
  rcases this with rfl | rfl | rfl | rfl | rfl | rfl | rfl <;> omega
theorem xLo_bd {v : List (List Int)} (hv : Bids v) {r : Int} (hr1 : 0 ≤ r) (hr2 : r ≤ 10000000) {j k : Nat} (hj : j < v.length) (hk : k < v.length) : -200000000 ≤ xLo v r j k ∧ xLo v r j k ≤ 200000000 := by
  have h1 := lowI_bd hv hr1 hr2 hj (Nat.le_refl _)
  have h2 := nG_bd hv hk hj
  unfold xLo; omega
theorem yHi_bd {v : List (List Int)} (hv : Bids v) {r : Int} (hr1 : 0 ≤ r) (hr2 : r ≤ 10000000) {j k : Nat} (hj : j < v.length) (hk : k < v.length) : -200000000 ≤ yHi v r j k ∧ yHi v r j k ≤ 200000000 := by
  have h1 := highI_bd hv hr1 hr2 hj (Nat.le_refl _)
  have h2 := nG_bd hv hj hk
  unfold yHi; omega
/-- Prices without envy that add up to the rent keep to the range. -/
theorem range_of {v : List (List Int)} (h0 : 0 < v.length) {al : List Int} (hA : IsA al v.length) {p : Nat → Int} {d r : Int} (hd : 0 < d) (h : EF v al p d) (hs : sumTo p v.length = r * d) {j : Nat} (hj : j < v.length) :
    lowI v r j v.length * d ≤ p j * v.length ∧ p j * v.length ≤ highI v r j v.length * d := by
  have hb := bestA_best h0
  have hl := (pot_link (lnkS_clo (wl v (bestA v)) v.length) (wl_self v (bestA v)) (Int.le_of_lt hd)).1 ((ef_pot hb.1).1 (ef_best hb h0 hA hd h).2)
  have e1 : lowI v r j v.length = r + sumTo (fun k => gLk v k j) v.length := rfl
  have e2 : highI v r j v.length = r - sumTo (gLk v j) v.length := rfl
  have s1 : sumTo (fun k => d * gLk v k j) v.length ≤ sumTo (fun k => p j - p k) v.length := sumTo_le fun k hk => by
    rw [gLk_eq hk hj, Int.mul_comm]; exact hl k j hk hj
  have s2 : sumTo (fun k => d * gLk v j k) v.length ≤ sumTo (fun k => p k - p j) v.length := sumTo_le fun k hk => by
    rw [gLk_eq hj hk, Int.mul_comm]; exact hl j k hj hk
  rw [sumTo_mul, sumTo_sub, sumTo_const, hs] at s1
  rw [sumTo_mul, sumTo_sub, sumTo_const, hs] at s2
  rw [e1, e2, Int.add_mul, Int.sub_mul, Int.mul_comm (sumTo (fun k => gLk v k j) v.length), Int.mul_comm (sumTo (gLk v j) v.length)]
  constructor <;> omega
end Go.Proofs.Ytojldecldemfaaa

/- The walk of the laws' even, for prices without envy that add up to the rent: it is true. -/
namespace Go.Proofs.Ytojldecldemfaaa
set_option linter.unusedVariables false
set_option linter.unusedSimpArgs false
open Go.ChangeShapes Go.WideShapes Go.ChangeAt Go.RowKit Go.Deep

theorem sumTo_small {f : Nat → Int} {n : Nat} (hn : n ≤ 6) (h : ∀ i, i < n → -600000000 ≤ f i ∧ f i ≤ 600000000) : ∀ k, k ≤ n → -3600000000 ≤ sumTo f k ∧ sumTo f k ≤ 3600000000 := by
  have : ∀ k, k ≤ n → -(600000000 * (k : Int)) ≤ sumTo f k ∧ sumTo f k ≤ 600000000 * k := by
    intro k
    induction k with
    | zero => intro _; simp [sumTo]
    | succ k ih =>
      intro hk
      have h1 := ih (by omega)
      have h2 := h k (by omega)
      simp only [sumTo]
      omega
  intro k hk
  have := this k hk
  omega
theorem lz_small' {x z : Int} (h1 : 0 ≤ x) (h2 : x ≤ 10000000) (h3 : 1 ≤ z) (h4 : z ≤ 60) : 0 ≤ x * z ∧ x * z ≤ 600000000 := by
  have a := Int.mul_le_mul_of_nonneg_right h2 (show 0 ≤ z by omega)
  have b := Int.mul_nonneg h1 (show 0 ≤ z by omega)
  omega
set_option maxHeartbeats 8000000 in
set_option maxRecDepth 100000 in
theorem lawEven_ok (p q s : Option Addr) (c d f : Nat) (v : List (List Int)) (r : Int) (al ps : List Int) (z : Int) (w : World) (hx : Mat w p c v) (hy : Ints w q d al) (hz : Ints w s f ps) (hg : Good v al ps z) (hef : EF v al (iget ps) z) (hsum : sumTo (iget ps) v.length = r * z) (hr1 : 0 ≤ r) (hr2 : r ≤ 10000000) :
    Calls Try.prog 36 #[.agg #[.slice p v.length c, .int .i64 r], .agg #[.slice q al.length d, .slice s ps.length f, .int .i64 z]] w fun e w' => e = .returned (.bool true) ∧ Below w.heap.size w w' := by
  obtain ⟨Wx, hWx⟩ : ∃ W, w.alloc (.cells #[.slice p v.length c, .int .i64 r] 24) = W := ⟨_, rfl⟩
  obtain ⟨W0, hW0⟩ : ∃ W, Wx.alloc (.cells #[.slice q al.length d, .slice s ps.length f, .int .i64 z] 28) = W := ⟨_, rfl⟩
  have hB1 := below_alloc hWx
  have hB2 := below_alloc hW0
  have bX : BoxV W0 w.heap.size [.slice p v.length c, .int .i64 r] := (BoxV.new rfl hWx).below hB2
  have hs : Wx.heap.size = w.heap.size + 1 := by rw [← hWx]; simp
  have bL : BoxV W0 (w.heap.size + 1) [.slice q al.length d, .slice s ps.length f, .int .i64 z] := BoxV.new hs hW0
  have hB : Below w.heap.size w W0 := hB1.trans (hB2.mono hB1.size)
  have mX := hx.below hB (Nat.le_refl _)
  have mA := hy.below hB (Nat.le_refl _)
  have mP := hz.below hB (Nat.le_refl _)
  have HWx := Lib.hid hWx
  have HW0 := Lib.hid hW0
  clear hWx hW0 hB1 hB2 hs hx hy hz
  have hvl := mX.length_le
  have hpl := mP.length_le
  have Hpl := Lib.hid hg.plen
  have h6 := hg.six
  have hpr := hg.price
  have hsb := fun k (hk : k ≤ v.length) => sumTo_small h6 hpr k hk
  have HG := Lib.hid hg
  have HE := Lib.hid hef
  have HS := Lib.hid hsum
  have Hsb := Lib.hid hsb
  have hz1 := hg.z1
  have hz2 := hg.z2
  have hrz := lz_small' hr1 hr2 hz1 hz2
  clear hg hef hsum hsb hpr
  go_enter Try.func36, Try.ntmps36
  go_wp2_with fail
  rw [HWx.out, HW0.out]
  go_loopw [5, 6] (fun s t wr => ∃ m : Nat, m ≤ v.length ∧ t = .int .i64 m ∧ s = .int .i64 (sumTo (iget ps) m) ∧ Below W0.heap.size W0 wr) (fun _ t _ => v.length - (intOf t).toNat)
  case atStart => exact ⟨0, Nat.zero_le _, rfl, rfl, Below.refl _ _⟩
  case round =>
    obtain ⟨m, hm, rfl, rfl, hBm⟩ := hrel
    have bXr := bX.below hBm
    have bLr := bL.below hBm
    have mXr := mX.below hBm (Nat.le_refl _)
    have mAr := mA.below hBm (Nat.le_refl _)
    have mPr := mP.below hBm (Nat.le_refl _)
    have x0 := bXr.cell 0 _ rfl
    have x1 := bXr.cell 1 _ rfl
    have l0 := bLr.cell 0 _ rfl
    have l1 := bLr.cell 1 _ rfl
    have l2 := bLr.cell 2 _ rfl
    have hsm := Hsb.out m hm
    by_cases hmv : m < v.length
    · have hmP : (m : Int) < ps.length := by rw [Hpl.out]; omega
      obtain ⟨bp, op, rfl, _, hcp⟩ := mPr.get (j := m) (by rw [Hpl.out]; exact hmv)
      have hpm := HG.out.price m hmv
      have Hnx : Hid (sumTo (iget ps) (m + 1) = sumTo (iget ps) m + iget ps m) := rfl
      obtain ⟨SM, hSM⟩ : ∃ x, sumTo (iget ps) m = x := ⟨_, rfl⟩
      obtain ⟨PM, hPM⟩ : ∃ x, iget ps m = x := ⟨_, rfl⟩
      rw [hSM] at hsm Hnx ⊢
      rw [hPM] at hpm hcp Hnx
      clear hSM hPM
      go_wp2_with fail
      clear x0 x1 l0 l1 l2
      go_loopw [7] (fun t wk => ∃ k : Nat, k ≤ v.length ∧ t = .int .i64 k ∧ Below W0.heap.size W0 wk) (fun t _ => v.length - (intOf t).toNat)
      case atStart => exact ⟨0, Nat.zero_le _, rfl, hBm⟩
      case round =>
        clear bXr bLr mXr mAr mPr hcp hBm
        obtain ⟨k, hk, rfl, hBm⟩ := hrel
        have bXr := bX.below hBm
        have bLr := bL.below hBm
        have mXr := mX.below hBm (Nat.le_refl _)
        have mAr := mA.below hBm (Nat.le_refl _)
        have mPr := mP.below hBm (Nat.le_refl _)
        have x0 := bXr.cell 0 _ rfl
        by_cases hkv : k < v.length
        · have hkv1 : (k : Int) < v.length := by omega
          have hg := HG.out
          have hkA : k < al.length := by rw [hg.alen]; exact hkv
          obtain ⟨i1, i2⟩ := hg.itm k hkv
          obtain ⟨j1, hj1⟩ : ∃ j1 : Nat, iget al k = (j1 : Int) := ⟨(iget al k).toNat, by omega⟩
          have hit1 : itm al k = j1 := by simp [itm, hj1]
          rw [hit1] at i2
          obtain ⟨b, o, rfl, hlA, hc⟩ := mAr.get hkA
          rw [hj1] at hc
          have x1 := bXr.cell 1 _ rfl
          have l0 := bLr.cell 0 _ rfl
          have l1 := bLr.cell 1 _ rfl
          have l2 := bLr.cell 2 _ rfl
          have hkA1 : (k : Int) < al.length := by omega
          have HGj0 := Lib.hid (fun W (h : Below wr.heap.size wr W) => refGain_ok p (some ⟨b, o, none⟩) (some ⟨bp, op, none⟩) c d f v r al ps z k m W (mXr.below h (Nat.le_refl _)) (mPr.below h (Nat.le_refl _)) hg hkv hmv)
          have HGj1 := Lib.hid (fun W (h : Below wr.heap.size wr W) => refGain_ok p (some ⟨b, o, none⟩) (some ⟨bp, op, none⟩) c d f v r al ps z k j1 W (mXr.below h (Nat.le_refl _)) (mPr.below h (Nat.le_refl _)) hg hkv i2)
          have Hmk : Hid (∀ W, Below wr.heap.size wr W → (W.cell? ⟨w.heap.size, 0, none⟩ = some (Value.slice p v.length c) ∧ W.cell? ⟨w.heap.size, 1, none⟩ = some (Value.int .i64 r) ∧ W.cell? ⟨w.heap.size + 1, 0, none⟩ = some (Value.slice (some ⟨b, o, none⟩) al.length d) ∧ W.cell? ⟨w.heap.size + 1, 1, none⟩ = some (Value.slice (some ⟨bp, op, none⟩) ps.length f) ∧ W.cell? ⟨w.heap.size + 1, 2, none⟩ = some (Value.int .i64 z) ∧ W.cell? ⟨b, o + k, none⟩ = some (Value.int .i64 j1) ∧ Below wr.heap.size wr W)) := fun W hG =>
            ⟨(hG.cell (p := ⟨w.heap.size, 0, none⟩) bXr.lt).trans x0, (hG.cell (p := ⟨w.heap.size, 1, none⟩) bXr.lt).trans x1, (hG.cell (p := ⟨w.heap.size + 1, 0, none⟩) bLr.lt).trans l0, (hG.cell (p := ⟨w.heap.size + 1, 1, none⟩) bLr.lt).trans l1, (hG.cell (p := ⟨w.heap.size + 1, 2, none⟩) bLr.lt).trans l2, (hG.cell (p := ⟨b, o + k, none⟩) hlA).trans hc, hG⟩
          have hle : gainI v ps z k m ≤ gainI v ps z k j1 := by
            have := HE.out k hkv m hmv
            rw [hit1] at this
            exact this
          obtain ⟨G1, hG1⟩ : ∃ G1, gainI v ps z k m = G1 := ⟨_, rfl⟩
          obtain ⟨G0, hG0⟩ : ∃ G0, gainI v ps z k j1 = G0 := ⟨_, rfl⟩
          rw [hG1] at hle HGj0
          rw [hG0] at hle HGj1
          have hd : decide (G0 < G1) = false := by simp; omega
          have hsz := hBm.size
          clear hG1 hG0 hg hit1 hj1 mXr mAr mPr i1 i2 hle hlA
          go_wp2_with fail
          go_region_held3 (fun W => W.cell? ⟨w.heap.size, 0, none⟩ = some (Value.slice p v.length c) ∧ W.cell? ⟨w.heap.size, 1, none⟩ = some (Value.int .i64 r) ∧ W.cell? ⟨w.heap.size + 1, 0, none⟩ = some (Value.slice (some ⟨b, o, none⟩) al.length d) ∧ W.cell? ⟨w.heap.size + 1, 1, none⟩ = some (Value.slice (some ⟨bp, op, none⟩) ps.length f) ∧ W.cell? ⟨w.heap.size + 1, 2, none⟩ = some (Value.int .i64 z) ∧ W.cell? ⟨b, o + k, none⟩ = some (Value.int .i64 j1) ∧ Below wr.heap.size wr W)
            (first | assumption | exact Hmk.out _ hG | exact Hmk.out _ (below_drewN wr.heap.size wr 1) | exact Hmk.out _ (Below.refl _ _))
            (first
              | (go_at_call_of 51 (Value.int .i64 (m : Int)); refine (HGj0.out _ (by go_split_ands; assumption)).mono ?_; rintro e wC ⟨rfl, hbC⟩; have hG : Below wr.heap.size wr wC := Below.trans (by go_split_ands; assumption) (hbC.mono (Below.size (B := wr.heap.size) (w := wr) (by go_split_ands; assumption))))
              | (go_at_call_of 51 (Value.int .i64 (j1 : Int)); refine (HGj1.out _ (by go_split_ands; assumption)).mono ?_; rintro e wC ⟨rfl, hbC⟩; have hG : Below wr.heap.size wr wC := Below.trans (by go_split_ands; assumption) (hbC.mono (Below.size (B := wr.heap.size) (w := wr) (by go_split_ands; assumption)))))
          go_wp2_with fail
          go_roundw
          case rel => exact ⟨k + 1, by omega, by go_num, hBm.trans (hG.mono hsz)⟩
          case measure => simp [intOf]; omega
        · have hkv1 : ¬ (k : Int) < v.length := by omega
          obtain rfl : k = v.length := by omega
          go_wp2_with fail
          go_roundw
          case rel => exact ⟨m + 1, by omega, by go_num, by rw [Hnx.out], hBm⟩
          case measure => simp [intOf]; omega
    · have hmP : ¬ (m : Int) < ps.length := by rw [Hpl.out]; omega
      obtain rfl : m = v.length := by omega
      rw [HS.out] at hsm ⊢
      go_wp2_with fail
      go_ret
      exact ⟨ret_bool (by simp), hB.trans (hBm.mono hB.size)⟩
end Go.Proofs.Ytojldecldemfaaa

/- A region that draws its order and has no guards, walked operation by operation under one invariant, whatever order is drawn; no condition but that operations wait for earlier ones alone. -/
namespace Go.Proofs.Ytojldecldemfaaa
set_option linter.unusedVariables false
set_option linter.unusedSimpArgs false
open Go.ChangeShapes Go.WideShapes Go.ChangeAt Go.RowKit Go.Deep

def upd (us : Nat → Value) (i : Nat) (v : Value) : Nat → Value := fun k => if k = i then v else us k
/-- What an operation waits for. -/
def onL (o : Oper) : List Nat := (o.after.toList.filter fun e => Region.binds .any e).map (·.on)
def backB (ops : Array Oper) : Bool := (List.range ops.size).all fun i => match ops[i]? with
  | some o => o.guard.isNone && (onL o).all (fun k => decide (k < i))
  | none => true
/-- The operations' numbers and the slots that they fill. -/
def slotL : Nat → List Oper → List (Nat × Nat)
  | _, [] => []
  | i, o :: l => match o.dst with
    | some d => (i, d) :: slotL (i + 1) l
    | none => slotL (i + 1) l
def putL : List (Nat × Nat) → Array Value → (Nat → Value) → Array Value
  | [], t, _ => t
  | (i, d) :: l, t, us => (putL l t us).setIfInBounds d (us i)
theorem upd_same (us : Nat → Value) (i : Nat) (v : Value) : upd us i v i = v := by simp [upd]
theorem upd_ne {us : Nat → Value} {i k : Nat} {v : Value} (h : k ≠ i) : upd us i v k = us k := by simp [upd, h]
theorem putL_off : ∀ (l : List (Nat × Nat)) (t : Array Value) (us : Nat → Value) (i : Nat) (v : Value), (∀ d, (i, d) ∉ l) → putL l t (upd us i v) = putL l t us
  | [], _, _, _, _, _ => rfl
  | (j, d) :: l, t, us, i, v, h => by
    have hj : j ≠ i := fun e => h d (by simp [e])
    rw [putL, putL, upd_ne hj, putL_off l t us i v fun d' hd => h d' (List.mem_cons_of_mem _ hd)]
theorem putL_put : ∀ (l : List (Nat × Nat)) (t : Array Value) (us : Nat → Value) (i d : Nat) (v : Value), (l.map (·.1)).Nodup → (l.map (·.2)).Nodup → (i, d) ∈ l → (putL l t us).setIfInBounds d v = putL l t (upd us i v)
  | [], _, _, _, _, _, _, _, h => by cases h
  | (j, e) :: l, t, us, i, d, v, h1, h2, h => by
    rw [List.map_cons, List.nodup_cons] at h1 h2
    rcases List.mem_cons.1 h with e1 | h3
    · cases e1
      rw [putL, putL, upd_same, Array.setIfInBounds_setIfInBounds, putL_off l t us j v fun d' hd => h1.1 (List.mem_map.2 ⟨_, hd, rfl⟩)]
    · have hji : j ≠ i := fun e1 => h1.1 (e1 ▸ List.mem_map.2 ⟨_, h3, rfl⟩)
      have hde : e ≠ d := fun e1 => h2.1 (e1 ▸ List.mem_map.2 ⟨_, h3, rfl⟩)
      rw [putL, putL, upd_ne hji, Array.setIfInBounds_comm _ _ hde, putL_put l t us i d v h1.2 h2.2 h3]
theorem putL_self : ∀ (l : List (Nat × Nat)) (t : Array Value) (us : Nat → Value), (∀ i d, (i, d) ∈ l → ∀ h : d < t.size, us i = t[d]) → putL l t us = t
  | [], _, _, _ => rfl
  | (j, e) :: l, t, us, h => by
    rw [putL, putL_self l t us fun i d hd => h i d (List.mem_cons_of_mem _ hd)]
    apply Array.ext
    · simp
    · intro k h1 h2
      rw [Array.getElem_setIfInBounds h2]
      split
      · rename_i he; subst he; exact h j e (by simp) h2
      · rfl
theorem slotL_mem : ∀ (l : List Oper) (b i : Nat) (o : Oper) (d : Nat), l[i]? = some o → o.dst = some d → (b + i, d) ∈ slotL b l
  | [], _, _, _, _, h, _ => by simp at h
  | x :: l, b, 0, o, d, h, hd => by
    simp at h; subst h
    simp [slotL, hd]
  | x :: l, b, i + 1, o, d, h, hd => by
    have := slotL_mem l (b + 1) i o d (by simpa using h) hd
    rw [show b + (i + 1) = b + 1 + i by omega]
    unfold slotL
    split
    · exact List.mem_cons_of_mem _ this
    · exact this
theorem slotL_idx : ∀ (l : List Oper) (b i d : Nat), (i, d) ∈ slotL b l → b ≤ i ∧ ∃ o, l[i - b]? = some o ∧ o.dst = some d
  | [], _, _, _, h => by cases h
  | x :: l, b, i, d, h => by
    unfold slotL at h
    split at h
    · rename_i d' hd
      rcases List.mem_cons.1 h with e | h
      · cases e; exact ⟨Nat.le_refl _, x, by simp, hd⟩
      · obtain ⟨h1, o, h2, h3⟩ := slotL_idx l (b + 1) i d h
        exact ⟨by omega, o, by rw [show i - b = (i - (b + 1)) + 1 by omega]; simpa using h2, h3⟩
    · obtain ⟨h1, o, h2, h3⟩ := slotL_idx l (b + 1) i d h
      exact ⟨by omega, o, by rw [show i - b = (i - (b + 1)) + 1 by omega]; simpa using h2, h3⟩
theorem slotL_nodup : ∀ (l : List Oper) (b : Nat), ((slotL b l).map (·.1)).Nodup
  | [], _ => List.nodup_nil
  | x :: l, b => by
    unfold slotL
    split
    · rename_i d hd
      rw [List.map_cons, List.nodup_cons]
      refine ⟨fun h => ?_, slotL_nodup l (b + 1)⟩
      obtain ⟨⟨i, d'⟩, h1, h2⟩ := List.mem_map.1 h
      have := (slotL_idx l (b + 1) i d' h1).1
      simp only at h2
      omega
    · exact slotL_nodup l (b + 1)
/-- The frame, with the values us in the slots that the operations fill. -/
def actL (ops : Array Oper) (a : Act) (us : Nat → Value) : Act := { a with tmps := putL (slotL 0 ops.toList) a.tmps us }

section
variable {P : Program} {ops : Array Oper} {Q : Exit → Act → World → Prop}
theorem back_spec (hb : backB ops = true) {i : Nat} {o : Oper} (h : ops[i]? = some o) : o.guard = none ∧ ∀ e ∈ o.after, Region.binds .any e = true → e.on < i := by
  have hlt : i < ops.size := (Array.getElem?_eq_some_iff.1 h).1
  have := List.all_eq_true.1 hb i (List.mem_range.2 hlt)
  simp only [h, Bool.and_eq_true, Option.isNone_iff_eq_none] at this
  refine ⟨this.1, fun e he hbi => ?_⟩
  have h2 := List.all_eq_true.1 this.2 e.on (List.mem_map.2 ⟨e, List.mem_filter.2 ⟨by simpa using he, hbi⟩, rfl⟩)
  simpa using h2
theorem all_listed (hb : backB ops = true) {listed : Array Bool} (hs : listed.size = ops.size) (hr : Region.ready .any ops listed = []) : ∀ k, k < ops.size → listed.getD k false = true := by
  intro k
  induction k using Nat.strongRecOn with
  | _ k ih =>
    intro hk
    cases hl : listed.getD k false with
    | true => rfl
    | false =>
      have hm : k ∈ Region.ready .any ops listed := by
        rw [mem_ready]
        have hks : k < listed.size := by omega
        refine ⟨by simp [hks] at hl ⊢; exact hl, ops[k], by simp [hk], fun e he hbi => ?_⟩
        have := (back_spec hb (i := k) (o := ops[k]) (by simp [hk])).2 e he hbi
        exact ih e.on this (by omega)
      rw [hr] at hm; cases hm
theorem wanted_none {o : Oper} {y : Nat → Option Bool} (h : o.guard = none) : Region.wanted o y = true := by simp [Region.wanted, h]
theorem wpAny_inv (hb : backB ops = true) (hn : ((slotL 0 ops.toList).map (·.2)).Nodup) (a : Act) (J : (Nat → Value) → (Nat → Prop) → World → Prop)
    (hstep : ∀ us D w i o A, A = actL ops a us → ops[i]? = some o → J us D w → ¬ D i → (∀ k ∈ onL o, D k) → ∀ K : Act → World → Prop, (∀ v w', J (upd us i v) (fun k => k = i ∨ D k) w' → K (A.put o.dst v) w') → o.wp P A w K Q)
    (hend : ∀ us D w, J us D w → (∀ k, k < ops.size → D k) → Q .normal (actL ops a us) w) :
    ∀ (fuel : Nat) (listed : Array Bool) (us : Nat → Value) (w : World), listed.size = ops.size → listed.toList.count false ≤ fuel → J us (fun k => listed.getD k false = true) w → wpAny P .any ops Q fuel listed (actL ops a us) w := by
  have hput : ∀ us i o v, ops[i]? = some o → (actL ops a us).put o.dst v = actL ops a (upd us i v) := fun us i o v h => by
    have hl : ops.toList[i]? = some o := by simpa using h
    cases hd : o.dst with
    | none =>
      have hoff : putL (slotL 0 ops.toList) a.tmps (upd us i v) = putL (slotL 0 ops.toList) a.tmps us := putL_off _ _ _ _ _ fun d hm => by
        obtain ⟨_, o', h1, h2⟩ := slotL_idx _ _ _ _ hm
        rw [Nat.sub_zero, hl] at h1
        cases h1
        rw [hd] at h2; cases h2
      simp only [Act.put, actL, hoff]
    | some d =>
      have hm := slotL_mem ops.toList 0 i o d hl hd
      rw [Nat.zero_add] at hm
      have := putL_put _ a.tmps us i d v (slotL_nodup _ _) hn hm
      simp only [Act.put, actL, this]
  intro fuel
  induction fuel with
  | zero =>
    intro listed us w hs hc hJ
    have hall : ∀ k, k < ops.size → listed.getD k false = true := fun k hk => by
      cases hl : listed.getD k false with
      | true => rfl
      | false =>
        have hks : k < listed.size := by omega
        have h1 : listed[k] = false := by simpa [hks] using hl
        have := List.count_pos_iff.2 (show false ∈ listed.toList by rw [← h1]; simp)
        omega
    refine ⟨?_, hend us _ w hJ hall⟩
    rw [List.eq_nil_iff_forall_not_mem]
    intro k hk
    obtain ⟨h1, o, h2, _⟩ := mem_ready.1 hk
    have hlt : k < ops.size := (Array.getElem?_eq_some_iff.1 h2).1
    have h3 := hall k hlt
    have hks : k < listed.size := by omega
    simp [hks] at h1 h3
    rw [h1] at h3; cases h3
  | succ fuel ih =>
    intro listed us w hs hc hJ
    refine ⟨fun hr => hend us _ w hJ (all_listed hb hs hr), fun i hi => ?_⟩
    obtain ⟨h1, o, h2, h3⟩ := mem_ready.1 hi
    have hlt : i < ops.size := (Array.getElem?_eq_some_iff.1 h2).1
    have his : i < listed.size := by omega
    have h1' : listed[i] = false := by simpa [his] using h1
    have hon : ∀ k ∈ onL o, listed.getD k false = true := fun k hk => by
      obtain ⟨e, he, rfl⟩ := List.mem_map.1 hk
      obtain ⟨he1, he2⟩ := List.mem_filter.1 he
      exact h3 e (by simpa using he1) he2
    unfold wpOp
    simp only [h2, wanted_none (back_spec hb h2).1, if_true]
    refine .inl (hstep us _ w i o _ rfl h2 hJ (by simp [his, h1']) hon _ fun v w' hJ' => ?_)
    rw [hput us i o v h2]
    refine ih _ _ _ (by simp [hs]) ?_ ?_
    · rw [Array.toList_setIfInBounds, List.count_set (by simpa using his)]
      have := List.count_pos_iff.2 (show false ∈ listed.toList by rw [← h1']; simp)
      rw [if_pos (by simp [h1']), if_neg (by simp)]
      omega
    · have e : (fun k => (listed.setIfInBounds i true).getD k false = true) = fun k => k = i ∨ listed.getD k false = true := funext fun k => propext (by
        by_cases hk : k = i
        · subst hk; simp [his]
        · simp [Array.getD_eq_getD_getElem?, Array.getElem?_setIfInBounds_ne (Ne.symm hk), hk])
      rw [e]; exact hJ'
/-- A region that draws its order, under an invariant. -/
theorem wp_region_inv {id : Nat} (hm : P.follows .mixedOrders = true) (hb : backB ops = true) (hn : ((slotL 0 ops.toList).map (·.2)).Nodup) (a : Act) (w : World) (J : (Nat → Value) → (Nat → Prop) → World → Prop)
    (h0 : ∀ us, J us (fun _ => False) w.drew)
    (hstep : ∀ us D w i o A, A = actL ops a us → ops[i]? = some o → J us D w → ¬ D i → (∀ k ∈ onL o, D k) → ∀ K : Act → World → Prop, (∀ v w', J (upd us i v) (fun k => k = i ∨ D k) w' → K (A.put o.dst v) w') → o.wp P A w K Q)
    (hend : ∀ us D w, J us D w → (∀ k, k < ops.size → D k) → Q .normal (actL ops a us) w) : (Code.region id ops true).wp P Q a w := by
  refine wp_region_any hm ?_
  obtain ⟨us, hus⟩ : ∃ us : Nat → Value, ∀ i d, (i, d) ∈ slotL 0 ops.toList → ∀ h : d < a.tmps.size, us i = a.tmps[d] := by
    refine ⟨fun i => match ops[i]? with | some o => (match o.dst with | some d => a.tmps.getD d undef | none => undef) | none => undef, fun i d hm h => ?_⟩
    obtain ⟨_, o, h1, h2⟩ := slotL_idx _ _ _ _ hm
    rw [Nat.sub_zero] at h1
    have h1' : ops[i]? = some o := by simpa using h1
    simp [h1', h2, h]
  have ea : actL ops a us = a := by unfold actL; rw [putL_self _ _ _ hus]
  rw [← ea]
  refine wpAny_inv hb hn a J hstep hend _ _ us _ (by simp) (by simp) ?_
  have e : (fun k => (Array.replicate ops.size false).getD k false = true) = fun _ => False := funext fun k => propext (by
    simp [Array.getD_eq_getD_getElem?, Array.getElem?_replicate]; split <;> rfl)
  rw [e]; exact h0 us
end
section
variable {P : Program} {Q : Exit → Act → World → Prop} {K : Act → World → Prop} {o : Oper} {a : Act} {w w' : World}
theorem wp_val {v : Value} (h : (execOp a.eval o).run P w = .ok (.value v) w') (hk : K (a.put o.dst v) w') : o.wp P a w K Q := by
  unfold Oper.wp; rw [h]; exact hk
theorem wp_skip (h : (execOp a.eval o).run P w = .ok .skip w') (hk : K (a.put o.dst undef) w') : o.wp P a w K Q := by
  unfold Oper.wp; rw [h]; exact hk
theorem wp_enter {f : FuncId} {args : Array Value} (h : (execOp a.eval o).run P w = .ok (.enter f args) w') (hc : Calls P f args w' fun e w2 => ∃ u, e = .returned u ∧ K (a.put o.dst u) w2) : o.wp P a w K Q := by
  unfold Oper.wp; rw [h]
  refine Calls.mono hc fun e w2 ⟨u, he, hk⟩ => ?_
  subst he; exact hk
end
end Go.Proofs.Ytojldecldemfaaa
