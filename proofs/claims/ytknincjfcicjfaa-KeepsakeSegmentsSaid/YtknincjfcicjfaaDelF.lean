/- The walks of slices.DeleteFunc at a row of ints of the caller's own, and of slices.MinFunc, for a function that holds variables. -/
import Derived.Test.YtknincjfcicjfaaIdx
import Derived.Test.YtknincjfcicjfaaCutI
import Derived.Test.YtknincjfcicjfaaKeepP
import Derived.Lib.SliceRun
namespace Go.Proofs.Ytknincjfcicjfaa
set_option linter.unusedVariables false
set_option linter.unusedSimpArgs false
open Go.ChangeShapes Go.WideShapes Go.ChangeAt Go.RowKit Go.Deep

theorem Own.takeS {w : World} {base : Nat} {p : Option Addr} {c : Nat} {xs : List Int} (h : Own w base p c xs) {k : Nat} (hk : k ≤ xs.length) (hp : p ≠ none) : Own w base p c (xs.take k) := by
  have hl : (xs.take k).length = k := by rw [List.length_take]; omega
  refine ⟨⟨by simp, ?_⟩, fun j hj => ?_⟩
  · rcases h.row.2 with ⟨h1, _⟩ | ⟨g, cap, cur, h1, h2, h3, h4, h5, h6, h7⟩
    · simp only [Value.slice.injEq] at h1
      exact absurd h1.1 hp
    · simp only [Value.slice.injEq] at h1
      obtain ⟨rfl, _, rfl⟩ := h1
      refine .inr ⟨g, c, cur, rfl, h2, h3, by omega, h5, h6, ?_⟩
      rw [List.map_take, ← h7, List.take_take, hl]
      congr 1
      omega
  · rw [hl] at hj
    rw [iget_take hj]
    exact h.rng j (by omega)
theorem iget_set_ne {xs : List Int} {j k : Nat} {x : Int} (h : j ≠ k) : iget (xs.set j x) k = iget xs k := by
  simp only [iget, List.getD, List.getElem?_set, if_neg h]
theorem own_zeros {base g c : Nat} : ∀ (m o : Nat) (w : World) (ys : List Int), Own w base (some ⟨g, 0, none⟩) c ys →
    ∃ zs, Own (w.setCells g o (List.replicate m (.int .i64 0))) base (some ⟨g, 0, none⟩) c zs ∧ zs.length = ys.length ∧ (∀ t, t < o → iget zs t = iget ys t) ∧ w.grownBy (w.setCells g o (List.replicate m (.int .i64 0))) (some g)
  | 0, o, w, ys, h => ⟨ys, h, rfl, fun _ _ => rfl, World.grownBy.refl w _⟩
  | m + 1, o, w, ys, h => by
    obtain ⟨h1, h2⟩ := h.set o in64_zero
    obtain ⟨zs, h3, h4, h5, h6⟩ := own_zeros m (o + 1) _ _ h1
    refine ⟨zs, h3, by rw [h4, List.length_set], fun t ht => ?_, ?_⟩
    · rw [h5 t (by omega), iget_set_ne (by omega)]
    · exact grown_trans h2 h6
theorem take_set_snoc {ys : List Int} {i : Nat} {x : Int} (h : i < ys.length) : (ys.set i x).take (i + 1) = ys.take i ++ [x] := by
  rw [List.take_succ_eq_append_getElem (by simpa using h)]
  have : (ys.set i x).take i = ys.take i := by
    rw [List.take_set, List.set_eq_of_length_le (by rw [List.length_take]; omega)]
  rw [this]; simp
theorem take_set_lt {ys : List Int} {i k : Nat} {x : Int} (h : i ≤ k) : (ys.set k x).take i = ys.take i := by
  rw [List.take_set, List.set_eq_of_length_le]
  rw [List.length_take]; omega
theorem filter_take_snoc (f : Int → Bool) (xs : List Int) {j : Nat} (h : j < xs.length) : (xs.take (j + 1)).filter f = (xs.take j).filter f ++ if f (iget xs j) = true then [iget xs j] else [] := by
  rw [List.take_succ_eq_append_getElem h, List.filter_append, iget_of h]
  congr 1
  by_cases e : f xs[j] = true <;> simp [List.filter_cons, e]

/-- What DeleteFunc hands back. -/
def GivesDel (base g c : Nat) (w : World) (R : World → Prop) (zs : List Int) (e : Ending) (w' : World) : Prop :=
  e = .returned (.slice (some ⟨g, 0, none⟩) zs.length c) ∧ Own w' base (some ⟨g, 0, none⟩) c zs ∧ w.grownBy w' (some g) ∧ R w'
theorem keep_all {P : Int → Bool} {xs : List Int} (h : ∀ j, j < xs.length → P (iget xs j) = false) : xs.filter (fun x => !P x) = xs := by
  rw [List.filter_eq_self]
  intro x hx
  obtain ⟨j, hj, rfl⟩ := List.getElem_of_mem hx
  have := h j hj
  rw [iget_of hj] at this
  simp [this]
theorem keep_pre {P : Int → Bool} {xs : List Int} {k : Nat} (hk : k < xs.length) (h : ∀ j, j < k → P (iget xs j) = false) (hP : P (iget xs k) = true) : (xs.take (k + 1)).filter (fun x => !P x) = xs.take k := by
  rw [filter_take_snoc _ _ hk]
  simp only [hP, Bool.not_true, Bool.false_eq_true, if_false, List.append_nil]
  refine keep_all fun j hj => ?_
  rw [List.length_take] at hj
  rw [iget_take (by omega)]
  exact h j (by omega)
set_option maxHeartbeats 4000000 in
set_option maxRecDepth 100000 in
theorem del1_any (K : Nat) (u : Value) (P : Int → Bool) (R : World → Prop) (hcf : ∀ args W, (callFunc K args).run Try.prog W = .ok (.enter K args) W) (base g c : Nat) (xs : List Int) (w : World) (hO : Own w base (some ⟨g, 0, none⟩) c xs) (hR : R w)
    (hset : Hid (∀ W W' : World, R W → W.grownBy W' (some g) → R W')) (hf : ∀ x W, in64 x → R W → Calls Try.prog K #[.int .i64 x, u] W fun e w' => e = .returned (.bool (P x)) ∧ w' = W) (hlen : xs.length ≤ 100000) :
    Calls Try.prog 45 #[.slice (some ⟨g, 0, none⟩) xs.length c, .func (.func K) #[] #[u]] w (GivesDel base g c w R (xs.filter fun x => !P x)) := by
  have hIF := indexFunc1_any K u (fun j => P (iget xs j)) (fun W => W = w) hcf (some ⟨g, 0, none⟩) c xs w rfl (Lib.hid (fun W h => h ▸ hO.ints)) (fun j W hj h => by
    subst h; exact hf _ _ (hO.rng j hj) hR)
  have hshape := hO.shape
  have hc1 : xs.length ≤ c ∧ c ≤ 9223372036854775807 := by
    rcases hO.shape with ⟨h, _⟩ | ⟨g', h, _, _, h1, h2⟩
    · cases h
    · exact ⟨h1, h2⟩
  obtain ⟨hc1, hc2⟩ := hc1
  have Hf := Lib.hid hf
  clear hf hshape
  cases hA : anyN (fun j => P (iget xs j)) xs.length with
  | false =>
    have hall := anyN_false.1 hA
    rw [firstN_none hall] at hIF
    have HI := Lib.hid hIF
    have HK := Lib.hid (keep_all hall)
    have HR := Lib.hid hR
    clear hA hall hIF hR
    go_enter Try.func45, Try.ntmps45
    go_wp2_with fail
    refine HI.out.mono ?_
    rintro e w' ⟨rfl, rfl⟩
    go_wp2_with fail
    go_ret
    rw [HK.out]
    exact ⟨rfl, hO, World.grownBy.refl _ _, HR.out⟩
  | true =>
    obtain ⟨k0, e1, hk0, hP, hb⟩ := firstN_lt hA
    rw [e1] at hIF
    have HI := Lib.hid hIF
    have HK := Lib.hid (keep_pre hk0 hb hP)
    have HR := Lib.hid hR
    have Hsn := Lib.hid (fun j (h : j < xs.length) => filter_take_snoc (fun x => !P x) xs h)
    have hne1 : ((k0 : Int) == -1) = false := by rw [beq_eq_false_iff_ne]; omega
    clear hA e1 hIF hR hP hb
    go_enter Try.func45, Try.ntmps45
    go_wp2_with fail
    refine HI.out.mono ?_
    rintro e w' ⟨rfl, rfl⟩
    go_wp2_with fail
    go_loopw [5, 6] (fun s t wr => ∃ (i j : Nat) (ys : List Int), s = .int .i64 i ∧ t = .int .i64 j ∧ i < j ∧ j ≤ xs.length ∧ Own wr base (some ⟨g, 0, none⟩) c ys ∧ Hid (ys.length = xs.length) ∧ Hid (ys.take i = (xs.take j).filter fun x => !P x) ∧ Hid (∀ t, j ≤ t → t < xs.length → iget ys t = iget xs t) ∧ w'.grownBy wr (some g) ∧ R wr) (fun _ t _ => xs.length - (intOf t).toNat)
    case atStart => exact ⟨k0, k0 + 1, xs, rfl, by go_num, by omega, by omega, hO, Lib.hid rfl, by unfold Hid; exact HK.out.symm, Lib.hid (fun _ _ _ => rfl), World.grownBy.refl _ _, HR.out⟩
    case round =>
      clear hO
      obtain ⟨i, j, ys, rfl, rfl, hij, hjn, hO, hyl, htk, hhi, hg, hRr⟩ := hrel
      by_cases hlt : j < xs.length
      · have hj1 : (j : Int) < xs.length := by omega
        have hi1 : (i : Int) < xs.length := by omega
        have hjy : j < ys.length := by rw [hyl.out]; exact hlt
        have hiy : i < ys.length := by omega
        have hcj := hO.at hjy
        have hcI := hO.at hiy
        have hfi := hO.free i
        have hrj := hO.rng j hjy
        rw [hhi.out j (Nat.le_refl _) hlt] at hcj hrj
        have HS := Lib.hid (Hsn.out j hlt)
        have HF := Hf.out (iget xs j) wr hrj hRr
        obtain ⟨x, hx⟩ : ∃ x, iget xs j = x := ⟨_, rfl⟩
        rw [hx] at hcj hrj HS HF
        have HF := Lib.hid HF
        have Hx := Lib.hid hx
        have Hrj := Lib.hid hrj
        clear hx hrj
        have Hset := Lib.hid (hO.set i Hrj.out)
        cases hq : P x with
        | true =>
          rw [hq] at HF
          have HE : Hid ((xs.take (j + 1)).filter (fun x => !P x) = (xs.take j).filter fun x => !P x) := by unfold Hid; rw [HS.out, hq]; simp
          clear hq
          go_wp2_with fail
          refine HF.out.mono ?_
          rintro e w2 ⟨rfl, rfl⟩
          go_wp2_with fail
          go_roundw
          case rel => exact ⟨i, j + 1, ys, rfl, by go_num, by omega, by omega, hO, hyl, by unfold Hid; rw [HE.out]; exact htk.out, Lib.hid (fun t h1 h2 => hhi.out t (by omega) h2), hg, hRr⟩
          case measure => (simp [intOf] <;> omega)
        | false =>
          rw [hq] at HF
          have HE : Hid ((xs.take (j + 1)).filter (fun x => !P x) = ((xs.take j).filter fun x => !P x) ++ [x]) := by unfold Hid; rw [HS.out, hq]; simp
          clear hq
          go_wp2_with fail
          refine HF.out.mono ?_
          rintro e w2 ⟨rfl, rfl⟩
          go_wp2_with fail
          go_roundw
          case rel => exact ⟨i + 1, j + 1, ys.set i x, by go_num, by go_num, by omega, by omega, Hset.out.1, by unfold Hid; rw [List.length_set]; exact hyl.out,
            by unfold Hid; rw [HE.out, ← htk.out]; exact take_set_snoc hiy, Lib.hid (fun t h1 h2 => (iget_set_ne (by omega)).trans (hhi.out t (by omega) h2)), grown_trans hg Hset.out.2, hset.out _ _ hRr Hset.out.2⟩
          case measure => (simp [intOf] <;> omega)
      · have hj1 : ¬ (j : Int) < xs.length := by omega
        have hiy : i < ys.length := by rw [hyl.out]; omega
        have hi1 : i ≤ xs.length := by omega
        have hcl : ∀ ty, (Builtin.clear_ #[23] ty #[.slice (some ⟨g, i, none⟩) (xs.length - i) (c - i)]).run Try.prog wr = .ok (.tuple #[]) (wr.setCells g i (List.replicate (xs.length - i) (.int .i64 0))) :=
          fun ty => Lib.run_clear_slice wr 23 3 ty (.int .i64 0) Try.underlying23 (fun w => by kernel_rfl) rfl rfl g i _ _ (by omega) (fun t ht => by rw [hO.at (j := i + t) (by rw [hyl.out]; omega)]; rfl) (fun t _ => hO.free (i + t))
        obtain ⟨zs, z1, z2, z3, z4⟩ := own_zeros (xs.length - i) i wr ys hO
        have hzl : zs.length = xs.length := by rw [z2]; exact hyl.out
        have e2 : zs.take i = xs.filter fun x => !P x := by
          have : zs.take i = ys.take i := by
            apply List.ext_getElem
            · simp [z2]
            · intro t h1 h2
              rw [List.length_take] at h1
              have h3 := z3 t (by omega)
              rw [iget_of (by omega), iget_of (by omega)] at h3
              simpa using h3
          rw [this, htk.out, List.take_of_length_le (by omega)]
        have e3 : (xs.filter fun x => !P x).length = i := by rw [← e2, List.length_take]; omega
        have E3 := Lib.hid e3
        have hOz := z1.takeS (k := i) (by omega) (by simp)
        rw [e2] at hOz
        have HO := Lib.hid hOz
        have HG := Lib.hid (grown_trans hg z4)
        have HRz := Lib.hid (hset.out _ _ hRr z4)
        have hsl1 := run_post g xs.length c i (by omega) hi1
        have hsl2 := run_pre (some ⟨g, 0, none⟩) xs.length c i (by omega)
        clear e2 e3 hzl z1 z2 z3 z4 hOz hO hg
        go_wp2_with (simp only [hcl])
        go_ret
        unfold GivesDel
        rw [E3.out]
        exact ⟨rfl, HO.out, HG.out, HRz.out⟩
set_option maxHeartbeats 2000000 in
set_option maxRecDepth 100000 in
theorem minFunc3_any (K : Nat) (u1 u2 u3 : Value) (key : Int → Int) (R : World → Prop) (hcf : ∀ args W, (callFunc K args).run Try.prog W = .ok (.enter K args) W) (p : Option Addr) (c : Nat) (xs : List Int) (w : World) (hR : R w) (hI : Hid (∀ W, R W → Ints W p c xs)) (h0 : 0 < xs.length) (hn : ∀ x ∈ xs, 0 ≤ x)
    (hf : ∀ x y W, x ∈ xs → y ∈ xs → R W → Calls Try.prog K #[.int .i64 x, .int .i64 y, u1, u2, u3] W fun e w' => e = .returned (.int .i64 (key x - key y)) ∧ R w') :
    Calls Try.prog 43 #[.slice p xs.length c, .func (.func K) #[] #[u1, u2, u3]] w fun e w' => e = .returned (.int .i64 (lstK key xs)) ∧ R w' := by
  have hl1 := (hI.out _ hR).length_le
  have hd : decide ((xs.length : Int) < 1) = false := by rw [decide_eq_false_iff_not]; omega
  have hpos : (0 : Int) < xs.length := by omega
  obtain ⟨b, o, rfl, _, hc0⟩ := (hI.out _ hR).get h0
  rw [Nat.add_zero] at hc0
  have e1 : xs.take 1 = [iget xs 0] := by
    have := List.take_succ_eq_append_getElem h0
    rw [this, iget_of h0]; simp
  have E1 : Hid (iget xs 0 = lstK key (xs.take 1)) := by unfold Hid; rw [e1]; simp [lstK]
  have Hst : Hid (∀ k, k < xs.length → lstK key (xs.take (k + 1)) = if lstK key (xs.take k) < 0 ∨ key (iget xs k) < key (lstK key (xs.take k)) then iget xs k else lstK key (xs.take k)) := fun k hk => by
    rw [List.take_succ_eq_append_getElem hk, iget_of hk]; exact lstK_snoc _ _ _
  have Hm : Hid (∀ k, 1 ≤ k → k ≤ xs.length → lstK key (xs.take k) ∈ xs) := fun k h1 h2 =>
    List.mem_of_mem_take (lstK_mem (fun x hx => hn x (List.mem_of_mem_take hx)) (by intro e; have := congrArg List.length e; rw [List.length_take, List.length_nil] at this; omega))
  have Hn := Lib.hid hn
  have Hf := Lib.hid hf
  have Hful : Hid (lstK key (xs.take xs.length) = lstK key xs) := by unfold Hid; rw [List.take_length]
  clear hf hn e1
  go_enter Try.func43, Try.ntmps43
  go_wp2_with fail
  go_loopw [5, 6] (fun s t wr => ∃ k : Nat, 1 ≤ k ∧ k ≤ xs.length ∧ t = .int .i64 k ∧ s = .int .i64 (lstK key (xs.take k)) ∧ R wr) (fun _ t _ => xs.length - (intOf t).toNat)
  case atStart => exact ⟨1, by omega, by omega, rfl, by rw [E1.out], hR⟩
  case round =>
    clear hc0
    obtain ⟨k, hk0, hk, rfl, rfl, hRr⟩ := hrel
    by_cases hlt : k < xs.length
    · have hk1 : (k : Int) < xs.length := by omega
      have hc := (hI.out _ hRr).at hlt
      have hm1 := Hm.out k hk0 hk
      have HS := Hst.out k hlt
      have hmx : iget xs k ∈ xs := iget_mem hlt
      obtain ⟨y, hy⟩ : ∃ y, lstK key (xs.take k) = y := ⟨_, rfl⟩
      obtain ⟨x, hx⟩ : ∃ x, iget xs k = x := ⟨_, rfl⟩
      rw [hy] at hm1 HS
      rw [hx] at hmx HS hc
      rw [hy]
      have hy0 := Hn.out y hm1
      have HC := Hf.out x y wr hmx hm1 hRr
      have HS2 : Hid (lstK key (xs.take (k + 1)) = if key x - key y < 0 then x else y) := by
        unfold Hid; rw [HS]
        by_cases e : key x < key y
        · rw [if_pos (.inr e), if_pos (by omega)]
        · rw [if_neg (by omega), if_neg (by omega)]
      obtain ⟨z, hz⟩ : ∃ z, key x - key y = z := ⟨_, rfl⟩
      rw [hz] at HC HS2
      have HC := Lib.hid HC
      clear HS hy hx hz
      by_cases hzn : z < 0
      · have hdz : decide (z < 0) = true := by simpa using hzn
        have HS3 : Hid (lstK key (xs.take (k + 1)) = x) := by unfold Hid; rw [HS2.out, if_pos hzn]
        clear hzn
        go_wp2_with fail
        refine HC.out.mono ?_
        rintro e w2 ⟨rfl, hR2⟩
        have hc2 := (hI.out _ hR2).at hlt
        have hc3 : w2.cell? ⟨b, o + k, none⟩ = some (.int .i64 x) := hc2.trans (by rw [← (hI.out _ hRr).at hlt]; exact hc)
        clear hc2
        go_wp2_with fail
        go_roundw
        case rel => exact ⟨k + 1, by omega, by omega, by go_num, by rw [HS3.out], hR2⟩
        case measure => (simp [intOf] <;> omega)
      · have hdz : decide (z < 0) = false := by simpa using hzn
        have HS3 : Hid (lstK key (xs.take (k + 1)) = y) := by unfold Hid; rw [HS2.out, if_neg hzn]
        clear hzn
        go_wp2_with fail
        refine HC.out.mono ?_
        rintro e w2 ⟨rfl, hR2⟩
        go_wp2_with fail
        go_roundw
        case rel => exact ⟨k + 1, by omega, by omega, by go_num, by rw [HS3.out], hR2⟩
        case measure => (simp [intOf] <;> omega)
    · have hk1 : ¬ (k : Int) < xs.length := by omega
      obtain rfl : k = xs.length := by omega
      go_wp2_with fail
      go_ret
      exact ⟨ret_int rfl, hRr⟩
end Go.Proofs.Ytknincjfcicjfaa
