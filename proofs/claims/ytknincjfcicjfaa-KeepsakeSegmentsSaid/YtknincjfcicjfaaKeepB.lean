/- The walks of keepsake.cuts and of the functions that rounds hands to MinFunc and DeleteFunc.  (Printed by wip/genkeepb.py.) -/
import Derived.Test.YtknincjfcicjfaaKeepA
import Derived.Test.YtknincjfcicjfaaDelF
import Derived.Test.YtknincjfcicjfaaConcat
import Derived.Test.YtknincjfcicjfaaSt
import Derived.Deep.RegionHeld3
namespace Go.Proofs.Ytknincjfcicjfaa
set_option linter.unusedVariables false
set_option linter.unusedSimpArgs false
open Go.ChangeShapes Go.WideShapes Go.ChangeAt Go.RowKit Go.Deep

/-- What holds of the worlds of a region may be more than what was asked. -/
theorem held_more {P : Program} {ops : Array Oper} {Q : Exit → Act → World → Prop} {md : Region.Mode} {S S' : World → Prop} (h : ∀ w, S' w → S w) : ∀ (fuel : Nat) (listed : Array Bool) (a : Act) (w : World), wpAnyH P md ops Q S' fuel listed a w → wpAnyH P md ops Q S fuel listed a w
  | 0, _, _, _, H => H
  | fuel + 1, _, _, _, H => ⟨H.1, fun i hi => wpOp_mono (fun a' w' h' => ⟨h _ h'.1, held_more h fuel _ a' w' h'.2⟩) (H.2 i hi)⟩

/-- An agent's markers, with both ends of the row. -/
def cutL (m : Int) (l : List Int) : List Int := 0 :: (l ++ [m])
theorem cutL_len (m : Int) (l : List Int) : (cutL m l).length = l.length + 2 := by simp [cutL]
theorem cutL_at {m : Int} {l : List Int} {k : Nat} (h : k ≤ l.length) : iget (cutL m l) (k + 1) = if k < l.length then iget l k else m := by
  unfold cutL
  have : iget (0 :: (l ++ [m])) (k + 1) = iget (l ++ [m]) k := by simp [iget]
  rw [this, iget_append]
  by_cases e : k < l.length
  · rw [if_pos e, if_pos e]
  · rw [if_neg e, if_neg e]
    have : k - l.length = 0 := by omega
    rw [this]; rfl
theorem cutL_key {m : Int} {v : List (List Int)} (h : Marks m v) {i r : Nat} (hi : i < v.length) (hr : r < v.length) : iget (cutL m (rget v i)) (r + 1) = keyR m v r i := by
  have h1 := (h.2.2.2.2 i hi).1
  rw [cutL_at (by omega)]
  unfold keyR
  rw [Int.toNat_natCast]
  by_cases e : r + 1 < v.length
  · rw [if_pos e, if_pos (by omega)]
  · rw [if_neg e, if_neg (by omega)]
theorem keyR_bd {m : Int} {v : List (List Int)} (h : Marks m v) {i r : Nat} (hi : i < v.length) (hr : r < v.length) : 0 ≤ keyR m v r i ∧ keyR m v r i ≤ 30 := by
  have h1 := h.2.2.2.2 i hi
  have hm1 := h.1
  have hm2 := h.2.1
  unfold keyR
  rw [Int.toNat_natCast]
  by_cases e : r + 1 < v.length
  · rw [if_pos e]
    have := h1.2 r (by have := h1.1; omega)
    exact ⟨by have := this.1; omega, by have := this.2.1; omega⟩
  · rw [if_neg e]; omega

/-- What cuts hands back. -/
def GivesC (w : World) (xs : List Int) (e : Ending) (w' : World) : Prop := ∃ p c zs, Hid ((zs : List Int) = xs) ∧ e = .returned (.slice p zs.length c) ∧ Own w' w.heap.size p c zs ∧ Below w.heap.size w w'
theorem St.lit1 {w0 w : World} {B : Nat} {l : List Item} (h : St w0 w B l) {x : Int} (hx : in64 x) : St w0 (w.alloc (.cells #[.int .i64 x] 3)) (B + 1) (.ints (some ⟨B, 0, none⟩) 1 1 [x] :: l) :=
  (h.bump _).add _ ⟨rfl, by rw [← h.size]; exact ints_lit w [x] (by simp) (by simpa using hx)⟩
set_option maxHeartbeats 1000000 in
set_option maxRecDepth 100000 in
theorem cuts_any (m : Int) (q : Option Addr) (d : Nat) (l : List Int) (w : World) (hm : in64 m) (hi : Ints w q d l) (hl : l.length ≤ 1000) :
    Calls Try.prog 32 #[.int .i64 m, .slice q l.length d] w (GivesC w (cutL m l)) := by
  have hS := St.start w
  replace hS := hS.addI rfl hi
  replace hS := hS.lit1 in64_zero
  replace hS := hS.lit1 hm
  replace hS := hS.litM (ks := [1, 2, 0]) (.cons rfl (.cons rfl (.cons rfl .nil))) 3
  have hcat : catN [[0], l, [m]] [[0], l, [m]].length = cutL m l := by simp [catN, rget, cutL]
  have hC := concat_any _ _ [[0], l, [m]] _ (hS.matAt 0 rfl) (by rw [hcat, cutL_len]; omega)
  rw [hcat] at hC
  have HC := Lib.hid hC
  have HB := Lib.hid hS.bel
  clear hC hcat hS hi
  go_enter Try.func32, Try.ntmps32
  go_wp2_with fail
  refine HC.out.mono ?_
  rintro e w' ⟨p2, c2, rfl, hO, hb⟩
  go_wp2_with fail
  go_ret
  exact ⟨p2, c2, _, rfl, rfl, hO.lower HB.out.size, HB.out.trans (hb.mono HB.out.size)⟩

theorem enter_rounds1 (args : Array Value) (W : World) : (callFunc 44 args).run Try.prog W = .ok (.enter 44 args) W := by kernel_rfl
theorem enter_rounds2 (args : Array Value) (W : World) : (callFunc 46 args).run Try.prog W = .ok (.enter 46 args) W := by kernel_rfl
theorem rounds2_any (x y : Int) (B : Nat) (W : World) (h : W.cell? ⟨B, 0, none⟩ = some (.int .i64 y)) :
    Calls Try.prog 46 #[.int .i64 x, .pointer (some ⟨B, 0, none⟩)] W fun e w' => e = .returned (.bool (decide (x = y))) ∧ w' = W := by
  go_enter Try.func46, Try.ntmps46
  go_wp2_with fail
  go_ret
  exact ⟨rfl, rfl⟩
set_option maxHeartbeats 4000000 in
set_option maxRecDepth 100000 in
theorem rounds1_any (m : Int) (r : Nat) (c : Nat) (v : List (List Int)) (bv ov : Nat) (i j : Nat) (B2 B3 B4 : Nat) (w : World) (hM : Marks m v) (hr : r < v.length) (hi : i < v.length) (hj : j < v.length) (hx : Mat w (some ⟨bv, ov, none⟩) c v)
    (h2 : w.cell? ⟨B2, 0, none⟩ = some (.int .i64 m)) (h3 : w.cell? ⟨B3, 0, none⟩ = some (.slice (some ⟨bv, ov, none⟩) v.length c)) (h4 : w.cell? ⟨B4, 0, none⟩ = some (.int .i64 (r : Int))) (l2 : B2 < w.heap.size) (l3 : B3 < w.heap.size) (l4 : B4 < w.heap.size) :
    Calls Try.prog 44 #[.int .i64 (i : Int), .int .i64 (j : Int), .pointer (some ⟨B2, 0, none⟩), .pointer (some ⟨B3, 0, none⟩), .pointer (some ⟨B4, 0, none⟩)] w fun e w' => e = .returned (.int .i64 (keyR m v r i - keyR m v r j)) ∧ Below w.heap.size w w' := by
  have hm64 : in64 m := by have := hM.1; have := hM.2.1; exact ⟨by omega, by omega⟩
  have hv6 : v.length ≤ 6 := hM.2.2.2.1
  obtain ⟨qi, di, hci, hIi⟩ := hx.at hi
  obtain ⟨qj, dj, hcj, hIj⟩ := hx.at hj
  have lv : bv < w.heap.size := (hx.plain _ rfl (by have := hx.le; omega)).2
  have hli : (rget v i).length ≤ 1000 := by have := (hM.2.2.2.2 i hi).1; omega
  have hlj : (rget v j).length ≤ 1000 := by have := (hM.2.2.2.2 j hj).1; omega
  have HC : Hid (∀ (q : Option Addr) (d k : Nat) (W : World), k < v.length → Ints W q d (rget v k) → Calls Try.prog 32 #[.int .i64 m, .slice q (rget v k).length d] W fun e w' => ∃ g n cc, e = .returned (.slice (some ⟨g, 0, none⟩) n cc) ∧ (r : Int) + 1 < n ∧ g < w'.heap.size ∧ w'.cell? ⟨g, r + 1, none⟩ = some (.int .i64 (keyR m v r k)) ∧ Below W.heap.size W w') := by
    intro q d k W hk hI
    refine (cuts_any m q d _ W hm64 hI (by have := (hM.2.2.2.2 k hk).1; omega)).mono ?_
    rintro e w' ⟨p2, c2, zs, hz, rfl, hO, hb⟩
    have hlen : r + 1 < zs.length := by rw [hz.out, cutL_len]; have := (hM.2.2.2.2 k hk).1; omega
    obtain ⟨g, rfl, hg, hgl, hc, _⟩ := hO.get hlen
    rw [hz.out, cutL_key hM hk hr] at hc
    exact ⟨g, zs.length, c2, rfl, by omega, hgl, hc, hb⟩
  obtain ⟨x, hxx⟩ : ∃ x, keyR m v r i = x := ⟨_, rfl⟩
  obtain ⟨y, hyy⟩ : ∃ y, keyR m v r j = y := ⟨_, rfl⟩
  have bx := keyR_bd hM hi hr
  have by' := keyR_bd hM hj hr
  have Ci := fun q d W hI => HC.out q d i W hi hI
  have Cj := fun q d W hI => HC.out q d j W hj hI
  rw [hxx] at bx Ci ⊢
  rw [hyy] at by' Cj ⊢
  have Ci := Lib.hid Ci
  have Cj := Lib.hid Cj
  clear HC hxx hyy
  have hwr : IntKind.i64.wrap ((r : Int) + 1) = (r : Int) + 1 := IntWalk.i64_in _ (by omega)
  have hwx : IntKind.i64.wrap (x - y) = x - y := IntWalk.i64_in _ (by omega)
  have hr0 : (0 : Int) ≤ (r : Int) + 1 := by omega
  have hrn : ((r : Int) + 1).toNat = r + 1 := by omega
  have hi1 : (i : Int) < v.length := by omega
  have hj1 : (j : Int) < v.length := by omega
  have HS : Hid (∀ W, Below w.heap.size w W → (fun W => W.cell? ⟨B2, 0, none⟩ = some (Value.int .i64 m) ∧ W.cell? ⟨B3, 0, none⟩ = some (Value.slice (some ⟨bv, ov, none⟩) v.length c) ∧ W.cell? ⟨B4, 0, none⟩ = some (Value.int .i64 (r : Int)) ∧ W.cell? ⟨bv, ov + i, none⟩ = some (Value.slice qi (rget v i).length di) ∧ W.cell? ⟨bv, ov + j, none⟩ = some (Value.slice qj (rget v j).length dj) ∧ Below w.heap.size w W) W) := fun W hB =>
    ⟨(hB.cell (p := ⟨B2, 0, none⟩) l2).trans h2, (hB.cell (p := ⟨B3, 0, none⟩) l3).trans h3, (hB.cell (p := ⟨B4, 0, none⟩) l4).trans h4, (hB.cell (p := ⟨bv, ov + i, none⟩) lv).trans hci, (hB.cell (p := ⟨bv, ov + j, none⟩) lv).trans hcj, hB⟩
  clear h2 h3 h4 l2 l3 l4 hci hcj hm64 hM hv6 hli hlj
  have hIi := Lib.hid hIi
  have hIj := Lib.hid hIj
  go_enter Try.func44, Try.ntmps44
  go_wp2_with fail
  refine wp_region_held_drew (S := (fun W => W.cell? ⟨B2, 0, none⟩ = some (Value.int .i64 m) ∧ W.cell? ⟨B3, 0, none⟩ = some (Value.slice (some ⟨bv, ov, none⟩) v.length c) ∧ W.cell? ⟨B4, 0, none⟩ = some (Value.int .i64 (r : Int)) ∧ W.cell? ⟨bv, ov + i, none⟩ = some (Value.slice qi (rget v i).length di) ∧ W.cell? ⟨bv, ov + j, none⟩ = some (Value.slice qj (rget v j).length dj) ∧ Below w.heap.size w W)) (by kernel_rfl) (HS.out _ (Below.refl _ _).drew) (fun hS => ?_)
  refine wpAnyH_take (i := 0) (v := ?_) rfl (by kernel_rfl) (by kernel_rfl) (by kernel_rfl) (fun _ _ _ h => h) (Or.inl ⟨by rfl, ?_⟩) hS ?_
  rotate_left
  · intro wz hSw; (try dsimp only at hSw); go_simp; try with_reducible rfl
  try simp only [Act.put, List.setIfInBounds_toArray, List.set_cons_zero, List.set_cons_succ]
  refine wpAnyH_take (i := 1) (v := ?_) rfl (by kernel_rfl) (by kernel_rfl) (by kernel_rfl) (fun _ _ _ h => h) (Or.inl ⟨by rfl, ?_⟩) hS ?_
  rotate_left
  · intro wz hSw; (try dsimp only at hSw); go_simp; try with_reducible rfl
  try simp only [Act.put, List.setIfInBounds_toArray, List.set_cons_zero, List.set_cons_succ]
  refine wpAnyH_take (i := 2) (v := ?_) rfl (by kernel_rfl) (by kernel_rfl) (by kernel_rfl) (fun _ _ _ h => h) (Or.inl ⟨by rfl, ?_⟩) hS ?_
  rotate_left
  · intro wz hSw; (try dsimp only at hSw); go_simp; try with_reducible rfl
  try simp only [Act.put, List.setIfInBounds_toArray, List.set_cons_zero, List.set_cons_succ]
  refine wpAnyH_take (i := 3) (v := ?_) rfl (by kernel_rfl) (by kernel_rfl) (by kernel_rfl) (fun _ _ _ h => h) (Or.inl ⟨by rfl, ?_⟩) hS ?_
  rotate_left
  · intro wz hSw; (try dsimp only at hSw); go_simp; try with_reducible rfl
  try simp only [Act.put, List.setIfInBounds_toArray, List.set_cons_zero, List.set_cons_succ]
  refine wpAnyH_take (i := 4) (v := ?_) rfl (by kernel_rfl) (by kernel_rfl) (by kernel_rfl) (fun _ _ _ h => h) (Or.inl ⟨by rfl, ?_⟩) hS ?_
  rotate_left
  · intro wz hSw; (try dsimp only at hSw); go_simp; try with_reducible rfl
  try simp only [Act.put, List.setIfInBounds_toArray, List.set_cons_zero, List.set_cons_succ]
  refine wpAnyH_take (i := 6) (v := ?_) rfl (by kernel_rfl) (by kernel_rfl) (by kernel_rfl) (fun _ _ _ h => h) (Or.inl ⟨by rfl, ?_⟩) hS ?_
  rotate_left
  · intro wz hSw; (try dsimp only at hSw); go_simp; try with_reducible rfl
  try simp only [Act.put, List.setIfInBounds_toArray, List.set_cons_zero, List.set_cons_succ]
  refine wpAnyH_take (i := 7) (v := ?_) rfl (by kernel_rfl) (by kernel_rfl) (by kernel_rfl) (fun _ _ _ h => h) (Or.inl ⟨by rfl, ?_⟩) hS ?_
  rotate_left
  · intro wz hSw; (try dsimp only at hSw); go_simp; try with_reducible rfl
  try simp only [Act.put, List.setIfInBounds_toArray, List.set_cons_zero, List.set_cons_succ]
  refine wpAnyH_take (i := 10) (v := ?_) rfl (by kernel_rfl) (by kernel_rfl) (by kernel_rfl) (fun _ _ _ h => h) (Or.inl ⟨by rfl, ?_⟩) hS ?_
  rotate_left
  · intro wz hSw; (try dsimp only at hSw); go_simp; try with_reducible rfl
  try simp only [Act.put, List.setIfInBounds_toArray, List.set_cons_zero, List.set_cons_succ]
  refine wpAnyH_take (i := 11) (v := ?_) rfl (by kernel_rfl) (by kernel_rfl) (by kernel_rfl) (fun _ _ _ h => h) (Or.inl ⟨by rfl, ?_⟩) hS ?_
  rotate_left
  · intro wz hSw; (try dsimp only at hSw); go_simp; try with_reducible rfl
  try simp only [Act.put, List.setIfInBounds_toArray, List.set_cons_zero, List.set_cons_succ]
  refine wpAnyH_take (i := 12) (v := ?_) rfl (by kernel_rfl) (by kernel_rfl) (by kernel_rfl) (fun _ _ _ h => h) (Or.inl ⟨by rfl, ?_⟩) hS ?_
  rotate_left
  · intro wz hSw; (try dsimp only at hSw); go_simp; try with_reducible rfl
  try simp only [Act.put, List.setIfInBounds_toArray, List.set_cons_zero, List.set_cons_succ]
  refine wpAnyH_take (i := 13) (v := ?_) rfl (by kernel_rfl) (by kernel_rfl) (by kernel_rfl) (fun _ _ _ h => h) (Or.inl ⟨by rfl, ?_⟩) hS ?_
  rotate_left
  · intro wz hSw; (try dsimp only at hSw); go_simp; try with_reducible rfl
  try simp only [Act.put, List.setIfInBounds_toArray, List.set_cons_zero, List.set_cons_succ]
  refine wpAnyH_take (i := 14) (v := ?_) rfl (by kernel_rfl) (by kernel_rfl) (by kernel_rfl) (fun _ _ _ h => h) (Or.inl ⟨by rfl, ?_⟩) hS ?_
  rotate_left
  · intro wz hSw; (try dsimp only at hSw); go_simp; try with_reducible rfl
  try simp only [Act.put, List.setIfInBounds_toArray, List.set_cons_zero, List.set_cons_succ]
  refine wpAnyH_take (i := 16) (v := ?_) rfl (by kernel_rfl) (by kernel_rfl) (by kernel_rfl) (fun _ _ _ h => h) (Or.inl ⟨by rfl, ?_⟩) hS ?_
  rotate_left
  · intro wz hSw; (try dsimp only at hSw); go_simp; try with_reducible rfl
  try simp only [Act.put, List.setIfInBounds_toArray, List.set_cons_zero, List.set_cons_succ]
  refine wpAnyH_take (i := 17) (v := ?_) rfl (by kernel_rfl) (by kernel_rfl) (by kernel_rfl) (fun _ _ _ h => h) (Or.inl ⟨by rfl, ?_⟩) hS ?_
  rotate_left
  · intro wz hSw; (try dsimp only at hSw); go_simp; try with_reducible rfl
  try simp only [Act.put, List.setIfInBounds_toArray, List.set_cons_zero, List.set_cons_succ]
  refine wpAnyH_ready (rs := [5]) (by kernel_rfl) (by simp) ?_
  refine AllReadyH.cons rfl (fun K hK => ?_) AllReadyH.nil
  go_simp
  refine (Ci.out _ _ _ (hIi.out.below hS.2.2.2.2.2 (Nat.le_refl _))).mono ?_
  rintro e wa ⟨ga, na, ca, rfl, hna, hga, hca, hba⟩
  refine hK.out _ _ (HS.out _ (hS.2.2.2.2.2.trans (hba.mono hS.2.2.2.2.2.size))) (fun hS2 => ?_)
  clear hK K
  have HS2 : Hid (∀ W, Below wa.heap.size wa W → (fun W => W.cell? ⟨B2, 0, none⟩ = some (Value.int .i64 m) ∧ W.cell? ⟨B3, 0, none⟩ = some (Value.slice (some ⟨bv, ov, none⟩) v.length c) ∧ W.cell? ⟨B4, 0, none⟩ = some (Value.int .i64 (r : Int)) ∧ W.cell? ⟨bv, ov + i, none⟩ = some (Value.slice qi (rget v i).length di) ∧ W.cell? ⟨bv, ov + j, none⟩ = some (Value.slice qj (rget v j).length dj) ∧ Below w.heap.size w W) W ∧ W.cell? ⟨ga, r + 1, none⟩ = some (Value.int .i64 x)) := fun W hB => ⟨HS.out W (hS2.2.2.2.2.2.trans (hB.mono hS2.2.2.2.2.2.size)), (hB.cell (p := ⟨ga, r + 1, none⟩) hga).trans hca⟩
  have hS3 := HS2.out wa (Below.refl _ _)
  try simp only [Act.put, List.setIfInBounds_toArray, List.set_cons_zero, List.set_cons_succ]
  refine held_more (S' := fun W => (fun W => W.cell? ⟨B2, 0, none⟩ = some (Value.int .i64 m) ∧ W.cell? ⟨B3, 0, none⟩ = some (Value.slice (some ⟨bv, ov, none⟩) v.length c) ∧ W.cell? ⟨B4, 0, none⟩ = some (Value.int .i64 (r : Int)) ∧ W.cell? ⟨bv, ov + i, none⟩ = some (Value.slice qi (rget v i).length di) ∧ W.cell? ⟨bv, ov + j, none⟩ = some (Value.slice qj (rget v j).length dj) ∧ Below w.heap.size w W) W ∧ W.cell? ⟨ga, r + 1, none⟩ = some (Value.int .i64 x)) (fun W h => h.1) _ _ _ _ ?_
  clear hS hca
  have hS := hS3
  clear hS3
  refine wpAnyH_take (i := 8) (v := ?_) rfl (by kernel_rfl) (by kernel_rfl) (by kernel_rfl) (fun _ _ _ h => h) (Or.inl ⟨by rfl, ?_⟩) hS ?_
  rotate_left
  · intro wz hSw; (try dsimp only at hSw); go_simp; try with_reducible rfl
  try simp only [Act.put, List.setIfInBounds_toArray, List.set_cons_zero, List.set_cons_succ]
  refine wpAnyH_take (i := 9) (v := ?_) rfl (by kernel_rfl) (by kernel_rfl) (by kernel_rfl) (fun _ _ _ h => h) (Or.inl ⟨by rfl, ?_⟩) hS ?_
  rotate_left
  · intro wz hSw; (try dsimp only at hSw); go_simp; try with_reducible rfl
  try simp only [Act.put, List.setIfInBounds_toArray, List.set_cons_zero, List.set_cons_succ]
  refine wpAnyH_ready (rs := [15]) (by kernel_rfl) (by simp) ?_
  refine AllReadyH.cons rfl (fun K hK => ?_) AllReadyH.nil
  go_simp
  refine (Cj.out _ _ _ (hIj.out.below hS2.2.2.2.2.2 (Nat.le_refl _))).mono ?_
  rintro e wb ⟨gb, nb, cb, rfl, hnb, hgb, hcb, hbb⟩
  refine hK.out _ _ (HS2.out _ hbb) (fun hS4 => ?_)
  clear hK K
  have HS3 : Hid (∀ W, Below wb.heap.size wb W → (fun W => W.cell? ⟨B2, 0, none⟩ = some (Value.int .i64 m) ∧ W.cell? ⟨B3, 0, none⟩ = some (Value.slice (some ⟨bv, ov, none⟩) v.length c) ∧ W.cell? ⟨B4, 0, none⟩ = some (Value.int .i64 (r : Int)) ∧ W.cell? ⟨bv, ov + i, none⟩ = some (Value.slice qi (rget v i).length di) ∧ W.cell? ⟨bv, ov + j, none⟩ = some (Value.slice qj (rget v j).length dj) ∧ Below w.heap.size w W) W ∧ W.cell? ⟨gb, r + 1, none⟩ = some (Value.int .i64 y)) := fun W hB => ⟨HS.out W (hS4.1.2.2.2.2.2.trans (hB.mono hS4.1.2.2.2.2.2.size)), (hB.cell (p := ⟨gb, r + 1, none⟩) hgb).trans hcb⟩
  try simp only [Act.put, List.setIfInBounds_toArray, List.set_cons_zero, List.set_cons_succ]
  refine held_more (S' := fun W => Below wb.heap.size wb W ∧ W.cell? ⟨gb, r + 1, none⟩ = some (Value.int .i64 y)) (fun W h => HS2.out _ (hbb.trans (h.1.mono hbb.size))) _ _ _ _ ?_
  have hBf : Below w.heap.size w wb := hS4.1.2.2.2.2.2
  clear hS
  have hS : Below wb.heap.size wb wb ∧ wb.cell? ⟨gb, r + 1, none⟩ = some (Value.int .i64 y) := ⟨Below.refl _ _, hcb⟩
  clear hS2 hS4 hcb
  refine wpAnyH_take (i := 18) (v := ?_) rfl (by kernel_rfl) (by kernel_rfl) (by kernel_rfl) (fun _ _ _ h => h) (Or.inl ⟨by rfl, ?_⟩) hS ?_
  rotate_left
  · intro wz hSw; (try dsimp only at hSw); go_simp; try with_reducible rfl
  try simp only [Act.put, List.setIfInBounds_toArray, List.set_cons_zero, List.set_cons_succ]
  refine wpAnyH_take (i := 19) (v := ?_) rfl (by kernel_rfl) (by kernel_rfl) (by kernel_rfl) (fun _ _ _ h => h) (Or.inl ⟨by rfl, ?_⟩) hS ?_
  rotate_left
  · intro wz hSw; (try dsimp only at hSw); go_simp; try with_reducible rfl
  try simp only [Act.put, List.setIfInBounds_toArray, List.set_cons_zero, List.set_cons_succ]
  refine wpAnyH_take (i := 20) (v := ?_) rfl (by kernel_rfl) (by kernel_rfl) (by kernel_rfl) (fun _ _ _ h => h) (Or.inl ⟨by rfl, ?_⟩) hS ?_
  rotate_left
  · intro wz hSw; (try dsimp only at hSw); go_simp; try with_reducible rfl
  try simp only [Act.put, List.setIfInBounds_toArray, List.set_cons_zero, List.set_cons_succ]
  refine wpAnyH_take (i := 21) (v := ?_) rfl (by kernel_rfl) (by kernel_rfl) (by kernel_rfl) (fun _ _ _ h => h) (Or.inl ⟨by rfl, ?_⟩) hS ?_
  rotate_left
  · intro wz hSw; (try dsimp only at hSw); go_simp; try with_reducible rfl
  try simp only [Act.put, List.setIfInBounds_toArray, List.set_cons_zero, List.set_cons_succ]
  refine wpAnyH_done (by kernel_rfl) ?_ _
  go_wp2_with fail
  go_ret
  exact ⟨rfl, hBf⟩
end Go.Proofs.Ytknincjfcicjfaa
