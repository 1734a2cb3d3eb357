/- Room's functions at given flats and leases, for examples; links that can be reckoned; no condition but what each says. -/
import Derived.Test.YtojldecldemfaaaTopRoomRentsm15
import Derived.Test.YtojldecldemfaaaTopRoomRentsm20
import Derived.Test.YtojldecldemfaaaTopRoomRentsm16
import Derived.Test.YtojldecldemfaaaTopRoomRentsm6
import Derived.Deep.RegionHeld3
import Derived.BigQuiet
import Derived.Test.YtojldecldemfaaaTopRoomRentsm17
/- Room's functions at given flats and leases, for examples; links that can be reckoned; no condition but what each says. -/
namespace Go.Proofs.Ytojldecldemfaaa
set_option linter.unusedVariables false
set_option linter.unusedSimpArgs false
open Go.ChangeShapes Go.WideShapes Go.ChangeAt Go.RowKit Go.Deep

/-- Who has room j. -/
def owC (a : List Int) (j : Nat) : Nat := (firstC (fun i => decide (itm a i = j)) a.length)
where
  firstC (P : Nat → Bool) (n : Nat) : Nat := ((List.range n).find? P).getD 0
theorem owC_of {a : List Int} {n : Nat} (h : IsA a n) {i : Nat} (hi : i < n) : owC a (itm a i) = i := by
  unfold owC owC.firstC
  cases hf : (List.range a.length).find? (fun k => decide (itm a k = itm a i)) with
  | none =>
    have := List.find?_eq_none.1 hf i (List.mem_range.2 (by rw [h.1]; exact hi))
    simp at this
  | some k =>
    have h1 := List.find?_some hf
    have h2 := List.mem_range.1 (List.mem_of_find?_eq_some hf)
    rw [decide_eq_true_iff] at h1
    exact (isA_per h).inj k i (by rw [← h.1]; exact h2) hi h1
def wlC (v : List (List Int)) (a : List Int) (j k : Nat) : Int := bid v (owC a j) k - bid v (owC a j) j
theorem wlC_eq {v : List (List Int)} {a : List Int} (h : IsA a v.length) {j : Nat} (hj : j < v.length) (k : Nat) : wl v a j k = wlC v a j k := by
  obtain ⟨i, hi, rfl⟩ := (isA_per h).surj hj
  rw [wl_of h hi]
  unfold wlC
  rw [owC_of h hi]
def linkC (v : List (List Int)) (a : List Int) : List (List Int) := fwB v.length ((List.range v.length).map fun j => (List.range v.length).map fun k => wlC v a j k) v.length
theorem linkC_eq {v : List (List Int)} {a : List Int} (hb : IsBest v a) (h0 : 0 < v.length) : linkL v a = linkC v a := by
  rw [← fw_links hb h0]
  unfold linkC link0
  congr 1
  refine List.map_congr_left fun j hj => List.map_congr_left fun k _ => wlC_eq hb.1 (List.mem_range.1 hj) k
/-- What can be reckoned of the even lease and the ranges, the best assignment being known. -/
def rawC (v : List (List Int)) (a : List Int) (r : Int) : List Int := (List.range v.length).map fun j => iget (bfR v a v.length) j * v.length + (r - sumTo (iget (bfR v a v.length)) v.length)
theorem rawC_eq {v : List (List Int)} {a : List Int} (hb : IsBest v a) (h0 : 0 < v.length) (r : Int) : rawP v r = rawC v a r := by
  unfold rawP restI rawC
  rw [bestA_eq hb, bfR_least hb h0]
theorem even_e {v : List (List Int)} {a ps : List Int} {r z : Int} (hb : IsBest v a) (h0 : 0 < v.length) (hc : chkR v r = 0) (h1 : lowL v.length (rawC v a r) = ps) (h2 : lowN v.length (rawC v a r) = z) : evenX v r = a ∧ evenY v r = ps ∧ evenZ v r = z := by
  unfold evenX evenY evenZ
  rw [if_pos hc, if_pos hc, if_pos hc, bestA_eq hb, rawC_eq hb h0, h1, h2]
  exact ⟨rfl, rfl, rfl⟩
theorem links_e {v D : List (List Int)} {a : List Int} {r : Int} (hb : IsBest v a) (h0 : 0 < v.length) (hc : chkR v r = 0) (h1 : linkC v a = D) : linksL v r = D := by
  unfold linksL
  rw [if_pos hc, bestA_eq hb, linkC_eq hb h0, h1]
theorem range_e {v : List (List Int)} {a : List Int} {r : Int} {j : Nat} (hb : IsBest v a) (h0 : 0 < v.length) (hc : chkR v r = 0) (hj : j < v.length) {x y p q : Int}
    (h1 : rN (r + sumTo (fun i => bid (linkC v a) i j) v.length) v.length = x) (h2 : rD (r + sumTo (fun i => bid (linkC v a) i j) v.length) v.length = y)
    (h3 : rN (r - sumTo (fun i => bid (linkC v a) j i) v.length) v.length = p) (h4 : rD (r - sumTo (fun i => bid (linkC v a) j i) v.length) v.length = q) :
    rngLo v r j = .agg #[.int .i64 x, .int .i64 y] ∧ rngHi v r j = .agg #[.int .i64 p, .int .i64 q] ∧ rngE v r j = 0 := by
  obtain ⟨e1, e2, e3⟩ := rng_in (v := v) (r := r) hc hj
  rw [e1, e2, e3]
  unfold ratV lowI highI
  rw [bestA_eq hb, linkC_eq hb h0, h1, h2, h3, h4]
  exact ⟨rfl, rfl, rfl⟩

theorem roomCheck_e {p : Option Addr} {c n : Nat} {v : List (List Int)} {r e : Int} {w : World} (h : chkR v r = e) (hx : Mat w p c v) (hv : v.length = n := by rfl) :
    Calls Try.prog 17 #[.agg #[.slice p n c, .int .i64 r]] w fun e' w' => e' = .returned (.int .i64 e) ∧ Below w.heap.size w w' := by
  subst hv h; exact roomCheck_any p c v r w hx
theorem roomEven_e {p : Option Addr} {c n na np : Nat} {v : List (List Int)} {r z e : Int} {a ps : List Int} {w : World} (h : evenX v r = a ∧ evenY v r = ps ∧ evenZ v r = z) (he : chkR v r = e) (hx : Mat w p c v) (hv : v.length = n := by rfl) (h1 : a.length = na := by rfl) (h2 : ps.length = np := by rfl) :
    Calls Try.prog 11 #[.agg #[.slice p n c, .int .i64 r]] w fun e' w' => ∃ q d s f, e' = .returned (.tuple #[.agg #[.slice q na d, .slice s np f, .int .i64 z], .int .i64 e]) ∧ Ints w' q d a ∧ Ints w' s f ps ∧ Below w.heap.size w w' := by
  obtain ⟨rfl, rfl, rfl⟩ := h
  subst hv h1 h2 he
  exact roomEven_any p c v r w hx
theorem roomLinks_e {p : Option Addr} {c n m : Nat} {v D : List (List Int)} {r e : Int} {w : World} (h : linksL v r = D) (he : chkR v r = e) (hx : Mat w p c v) (hv : v.length = n := by rfl) (h1 : D.length = m := by rfl) :
    Calls Try.prog 13 #[.agg #[.slice p n c, .int .i64 r]] w fun e' w' => ∃ q d, e' = .returned (.tuple #[.slice q m d, .int .i64 e]) ∧ Mat w' q d D ∧ Below w.heap.size w w' := by
  subst hv h he h1
  refine (roomLinks_any p c v r w hx).mono ?_
  rintro e w' ⟨q, d, Q, D, h1, h2, h3⟩
  exact ⟨q, d, h1, h2.mat, h3⟩
theorem roomRange_e {p : Option Addr} {c n : Nat} {v : List (List Int)} {r j e : Int} {x y p' q' : Int} {w : World} (h : rngLo v r j = .agg #[.int .i64 x, .int .i64 y] ∧ rngHi v r j = .agg #[.int .i64 p', .int .i64 q'] ∧ rngE v r j = e) (hx : Mat w p c v) (hv : v.length = n := by rfl) (hj : in64B j = true := by decide) :
    Calls Try.prog 15 #[.agg #[.slice p n c, .int .i64 r], .int .i64 j] w fun e' w' => e' = .returned (.tuple #[.agg #[.int .i64 x, .int .i64 y], .agg #[.int .i64 p', .int .i64 q'], .int .i64 e]) ∧ Below w.heap.size w w' := by
  subst hv
  have hj2 : in64 j := by simp [in64B] at hj; exact hj
  refine (roomRange_any p c v r j w hx hj2).mono ?_
  rintro e w' ⟨h1, h2⟩
  rw [h.1, h.2.1, h.2.2] at h1
  exact ⟨h1, h2⟩
theorem roomValid_e {p q s : Option Addr} {c d f n m k : Nat} {v : List (List Int)} {r z e : Int} {al ps : List Int} {w : World} (h : vldR v r al ps z = e) (hx : Mat w p c v) (hy : Ints w q d al) (hz : Ints w s f ps) (hv : v.length = n := by rfl) (h1 : al.length = m := by rfl) (h2 : ps.length = k := by rfl) (hl : m ≤ 1000000 := by decide) :
    Calls Try.prog 25 #[.agg #[.slice p n c, .int .i64 r], .agg #[.slice q m d, .slice s k f, .int .i64 z]] w fun e' w' => e' = .returned (.int .i64 e) ∧ Below w.heap.size w w' := by
  subst hv h1 h2 h
  exact roomValid_any p q s c d f v r al ps z w hx hy hz hl
theorem roomGains_e {p q s : Option Addr} {c d f n m k ng : Nat} {v : List (List Int)} {r z e : Int} {al ps gs : List Int} {w : World} (h : vldR v r al ps z = e) (hg : gnsL v r al ps z = gs) (hx : Mat w p c v) (hy : Ints w q d al) (hz : Ints w s f ps) (hv : v.length = n := by rfl) (h1 : al.length = m := by rfl) (h2 : ps.length = k := by rfl) (hl : m ≤ 1000000 := by decide) (h3 : gs.length = ng := by rfl) :
    Calls Try.prog 21 #[.agg #[.slice p n c, .int .i64 r], .agg #[.slice q m d, .slice s k f, .int .i64 z]] w fun e' w' => ∃ q' d', e' = .returned (.tuple #[.slice q' ng d', .int .i64 e]) ∧ Ints w' q' d' gs ∧ Below w.heap.size w w' := by
  subst hv h1 h2 h hg h3
  refine (roomGains_any p q s c d f v r al ps z w hx hy hz hl).mono ?_
  rintro e w' ⟨q', d', h1, h2, h3⟩
  exact ⟨q', d', h1, h2.ints, h3⟩
theorem roomEnvies_e {p q s : Option Addr} {c d f n m k ng : Nat} {v : List (List Int)} {r z e : Int} {al ps : List Int} {gs : List (Nat × Nat)} {w : World} (h : vldR v r al ps z = e) (hg : envsL v r al ps z = gs) (hx : Mat w p c v) (hy : Ints w q d al) (hz : Ints w s f ps) (hv : v.length = n := by rfl) (h1 : al.length = m := by rfl) (h2 : ps.length = k := by rfl) (hl : m ≤ 1000000 := by decide) (h3 : gs.length = ng := by rfl) :
    Calls Try.prog 23 #[.agg #[.slice p n c, .int .i64 r], .agg #[.slice q m d, .slice s k f, .int .i64 z]] w fun e' w' => ∃ q' d', e' = .returned (.tuple #[.slice q' ng d', .int .i64 e]) ∧ OwnP w' w.heap.size q' d' gs ∧ Below w.heap.size w w' := by
  subst hv h1 h2 h hg h3
  exact roomEnvies_any p q s c d f v r al ps z w hx hy hz hl

/-- A literal row of pairs. -/
theorem ownP_lit (w : World) (xs : List (Nat × Nat)) (hsz : xs.length ≤ 1000000) :
    OwnP (w.alloc (.cells (cellsP xs).toArray 91)) w.heap.size (some ⟨w.heap.size, 0, none⟩) xs.length xs := by
  have hl : (cellsP xs).length = xs.length * 2 := by
    clear hsz
    induction xs with
    | nil => rfl
    | cons x xs ih => simp only [cellsP, List.flatMap_cons, List.length_append, List.length_cons, List.length_nil] at ih ⊢; omega
  refine ⟨?_⟩
  have := World.ownsRow_lit (e := 91) (size := 2) (base := w.heap.size) w (cellsP xs).toArray xs.length (Nat.le_refl _) (by simp [maxLen]; omega) (by simp [hl])
  simpa using this
set_option maxHeartbeats 800000 in
theorem given14_any (w : World) : Calls Try.prog 29 #[] w fun e w' => ∃ p c, e = .returned (.agg #[.slice p 2 c, .int .i64 5]) ∧ Mat w' p c [[5, 3], [4, 1]] ∧ Below w.heap.size w w' := by
  go_enter Try.func29, Try.ntmps29
  have hS := (((((St.start w).bump (.cells #[.slice (some ⟨w.heap.size + 1 + 1 + 1, 0, none⟩) 2 2, .int .i64 5] 24)).lit [5, 3] 2).lit [4, 1] 2).litM (ks := [1, 0]) (.cons rfl (.cons rfl .nil)) 2)
  go_wp2
  exact bodyPost_ret (v := .agg #[.slice (some ⟨w.heap.size + 1 + 1 + 1, 0, none⟩) 2 2, .int .i64 5]) (by simp [results, Try.results29, go_sem]) rfl ⟨_, _, rfl, hS.matAt 0 rfl, hS.bel⟩
set_option maxHeartbeats 800000 in
theorem other14_any (w : World) : Calls Try.prog 54 #[] w fun e w' => ∃ p c q d, e = .returned (.agg #[.slice p 2 c, .slice q 2 d, .int .i64 1]) ∧ Ints w' p c [0, 1] ∧ Ints w' q d [3, 2] ∧ Below w.heap.size w w' := by
  go_enter Try.func54, Try.ntmps54
  have hS := (((St.start w).bump (.cells #[.slice (some ⟨w.heap.size + 1, 0, none⟩) 2 2, .slice (some ⟨w.heap.size + 1 + 1, 0, none⟩) 2 2, .int .i64 1] 28)).lit [0, 1] 2).lit [3, 2] 2
  go_wp2
  exact bodyPost_ret (v := .agg #[.slice (some ⟨w.heap.size + 1, 0, none⟩) 2 2, .slice (some ⟨w.heap.size + 1 + 1, 0, none⟩) 2 2, .int .i64 1]) (by simp [results, Try.results54, go_sem]) rfl ⟨_, _, _, _, rfl, hS.intsAt 1 rfl, hS.intsAt 0 rfl, hS.bel⟩
/-- The chapter's flat. -/
def GV14 : List (List Int) := [[5, 3], [4, 1]]
theorem gv14_best : IsBest GV14 [1, 0] := isBest_of_chk (by decide +kernel)
theorem gv14_chk : chkR GV14 5 = 0 := by decide +kernel
theorem gv14_even : evenX GV14 5 = [1, 0] ∧ evenY GV14 5 = [7, 3] ∧ evenZ GV14 5 = 2 := even_e gv14_best (by decide) gv14_chk (by decide +kernel) (by decide +kernel)
theorem gv14_links : linksL GV14 5 = [[0, -3], [2, 0]] := links_e gv14_best (by decide) gv14_chk (by decide +kernel)
theorem gv14_range : rngLo GV14 5 (0 : Nat) = .agg #[.int .i64 7, .int .i64 2] ∧ rngHi GV14 5 (0 : Nat) = .agg #[.int .i64 4, .int .i64 1] ∧ rngE GV14 5 (0 : Nat) = 0 :=
  range_e gv14_best (by decide) gv14_chk (by decide) (by decide +kernel) (by decide +kernel) (by decide +kernel) (by decide +kernel)
end Go.Proofs.Ytojldecldemfaaa

/- The walk of alive (room): the chapter's examples hold; no condition.  (Printed by wip/genalive14.py.) -/
namespace Go.Proofs.Ytojldecldemfaaa
set_option linter.unusedVariables false
set_option linter.unusedSimpArgs false
open Go.ChangeShapes Go.WideShapes Go.ChangeAt Go.RowKit Go.Deep

set_option maxHeartbeats 8000000 in
set_option maxRecDepth 100000 in
theorem alive14_any (w : World) : Calls Try.prog 30 #[] w fun e w' => e = .returned (.bool true) ∧ Below w.heap.size w w' := by
  go_enter Try.func30, Try.ntmps30
  have hS := St.start w
  go_wp2_with fail
  refine (given14_any _).mono ?_
  rintro e w1 ⟨p1, c1, rfl, hM, hb⟩
  replace hS := hS.step hb
  replace hS := hS.addM rfl hM
  clear hb hM
  go_wp2_with fail
  refine (roomEven_e gv14_even gv14_chk (hS.matAt 0 rfl)).mono ?_
  rintro e w2 ⟨pa, ca, pp, cp, rfl, hA, hP, hb⟩
  replace hS := hS.step hb
  replace hS := hS.addI rfl hA
  replace hS := hS.addI rfl hP
  clear hb hA hP
  replace hS := hS.box [.slice pa 2 ca, .slice pp 2 cp, .int .i64 2] 28
  obtain ⟨W1, hW1⟩ : ∃ W, w2.alloc (.cells #[.slice pa 2 ca, .slice pp 2 cp, .int .i64 2] 28) = W := ⟨_, rfl⟩
  have hS1 : St w W1 W1.heap.size _ := hW1 ▸ (hS.step (below_drewN _ _ 0))
  clear hS
  have HW1 := Lib.hid hW1
  clear hW1
  have iA := hS1.intsAt 2 rfl
  have iP := hS1.intsAt 1 rfl
  have kl_0 := hS1.boxAt 0 0 rfl rfl
  have kl_1 := hS1.boxAt 0 1 rfl rfl
  have kl_2 := hS1.boxAt 0 2 rfl rfl
  have ll := hS1.boxLt 0 rfl
  have HG := Lib.hid (fun W q d (h : Below W1.heap.size W1 W) (hm : Mat W q d [[5, 3], [4, 1]]) => roomGains_e (r := 5) (z := 2) (e := 0) (gs := [3, 1]) (by decide +kernel) (by decide +kernel) hm (iA.below h (Nat.le_refl _)) (iP.below h (Nat.le_refl _)))
  go_upto_region 2 with (fail)
  rw [HW1.out]
  obtain ⟨S, hSz⟩ : ∃ S, w2.heap.size = S := ⟨_, rfl⟩
  rw [hSz] at kl_0 kl_1 kl_2 ll
  have Hmk : Hid (∀ W, Below W1.heap.size W1 W → (W.cell? ⟨S, 0, none⟩ = some (.slice pa 2 ca) ∧ W.cell? ⟨S, 1, none⟩ = some (.slice pp 2 cp) ∧ W.cell? ⟨S, 2, none⟩ = some (.int .i64 2) ∧ Below W1.heap.size W1 W)) := fun W hG => ⟨(hG.cell (p := ⟨S, 0, none⟩) ll).trans kl_0, (hG.cell (p := ⟨S, 1, none⟩) ll).trans kl_1, (hG.cell (p := ⟨S, 2, none⟩) ll).trans kl_2, hG⟩
  go_region_held3 (fun W => W.cell? ⟨S, 0, none⟩ = some (.slice pa 2 ca) ∧ W.cell? ⟨S, 1, none⟩ = some (.slice pp 2 cp) ∧ W.cell? ⟨S, 2, none⟩ = some (.int .i64 2) ∧ Below W1.heap.size W1 W)
    (first | assumption | exact Hmk.out _ hGc | exact Hmk.out _ hGb | exact Hmk.out _ (below_drewN W1.heap.size W1 1) | exact Hmk.out _ (Below.refl _ _))
    (first
      | (go_at_call 29; refine (given14_any _).mono ?_; rintro e w3 ⟨pg, cg, rfl, hMg, hbg⟩; have hGb : Below W1.heap.size W1 w3 := Below.trans (by go_split_ands; assumption) (hbg.mono (Below.size (B := W1.heap.size) (w := W1) (by go_split_ands; assumption))))
      | (go_at_call 21; refine (HG.out _ _ _ hGb hMg).mono ?_; rintro e w4 ⟨pq, cq, rfl, hGs, hb4⟩; have hGc : Below W1.heap.size W1 w4 := hGb.trans (hb4.mono hGb.size)))
  have hS := hS1.step hGc
  replace hS := hS.addI rfl hGs
  clear hS1 hGc hGb hGs hMg hbg hb4 kl_0 kl_1 kl_2 ll iA iP HG Hmk
  go_wp2_with fail
  refine (given14_any _).mono ?_
  rintro e w5 ⟨p5, c5, rfl, hM, hb⟩
  replace hS := hS.step hb
  replace hS := hS.addM rfl hM
  clear hb hM
  go_wp2_with fail
  refine (roomLinks_e gv14_links gv14_chk (hS.matAt 0 rfl)).mono ?_
  rintro e w6 ⟨pk, ck, rfl, hM, hb⟩
  replace hS := hS.step hb
  replace hS := hS.addM rfl hM
  clear hb hM
  go_wp2_with fail
  refine (given14_any _).mono ?_
  rintro e w7 ⟨p7, c7, rfl, hM, hb⟩
  replace hS := hS.step hb
  replace hS := hS.addM rfl hM
  clear hb hM
  go_wp2_with fail
  refine (roomRange_e gv14_range (hS.matAt 0 rfl)).mono ?_
  rintro e w8 ⟨rfl, hb⟩
  replace hS := hS.step hb
  clear hb 
  replace hS := hS.box [.int .i64 7, .int .i64 2] 40
  replace hS := hS.box [.int .i64 4, .int .i64 1] 40
  go_wp2_with fail
  refine (given14_any _).mono ?_
  rintro e w9 ⟨p9, c9, rfl, hM, hb⟩
  replace hS := hS.step hb
  replace hS := hS.addM rfl hM
  clear hb hM
  go_wp2_with fail
  refine (other14_any _).mono ?_
  rintro e wa ⟨po, co, qo, d0, rfl, hA, hP, hb⟩
  replace hS := hS.step hb
  replace hS := hS.addI rfl hA
  replace hS := hS.addI rfl hP
  clear hb hA hP
  go_wp2_with fail
  refine (roomGains_e (e := 0) (gs := [2, -1]) (by decide +kernel) (by decide +kernel) (hS.matAt 2 rfl) (hS.intsAt 1 rfl) (hS.intsAt 0 rfl)).mono ?_
  rintro e wb ⟨pb, cb, rfl, hA, hb⟩
  replace hS := hS.step hb
  replace hS := hS.addI rfl hA
  clear hb hA
  go_wp2_with fail
  refine (given14_any _).mono ?_
  rintro e wc ⟨pc, cc, rfl, hM, hb⟩
  replace hS := hS.step hb
  replace hS := hS.addM rfl hM
  clear hb hM
  go_wp2_with fail
  refine (other14_any _).mono ?_
  rintro e wd ⟨pd, cd, qd, dd, rfl, hA, hP, hb⟩
  replace hS := hS.step hb
  replace hS := hS.addI rfl hA
  replace hS := hS.addI rfl hP
  clear hb hA hP
  go_wp2_with fail
  refine (roomEnvies_e (e := 0) (gs := [(1, 0)]) (by decide +kernel) (by decide +kernel) (hS.matAt 2 rfl) (hS.intsAt 1 rfl) (hS.intsAt 0 rfl)).mono ?_
  rintro e we ⟨pe, ce, rfl, oX, hb⟩
  replace hS := hS.step hb
  clear hb 
  have kl_0 := hS.boxAt 13 0 rfl rfl
  have kl_1 := hS.boxAt 13 1 rfl rfl
  have kl_2 := hS.boxAt 13 2 rfl rfl
  have ll := hS.boxLt 13 rfl
  rw [hSz] at kl_0 kl_1 kl_2 ll
  replace oX := oX.alloc (.cells (([1, 0] : List Int).map (Value.int .i64)).toArray 3)
  replace hS := hS.lit [1, 0] 2
  replace oX := oX.alloc (.cells (([7, 3] : List Int).map (Value.int .i64)).toArray 3)
  replace hS := hS.lit [7, 3] 2
  go_wp2_with fail
  skip
  refine (sameLease_true rfl rfl rfl rfl rfl rfl rfl (hS.intsAt 17 rfl) (hS.intsAt 16 rfl) (hS.intsAt 1 rfl) (hS.intsAt 0 rfl)).mono ?_
  rintro e wf ⟨rfl, hb⟩
  replace oX := oX.below hb (Nat.le_refl _)
  replace hS := hS.step hb
  clear hb 
  clear kl_0 kl_1 kl_2 ll
  replace oX := oX.alloc (.cells (([3, 1] : List Int).map (Value.int .i64)).toArray 3)
  replace hS := hS.lit [3, 1] 2
  go_wp2_with fail
  refine (sameI_true rfl rfl rfl (hS.intsAt 15 rfl) (hS.intsAt 0 rfl)).mono ?_
  rintro e wg ⟨rfl, hw⟩
  replace oX := oX.drew hw
  replace hS := hS.drew hw
  clear hw 
  replace oX := oX.alloc (.cells (([0, -3] : List Int).map (Value.int .i64)).toArray 3)
  replace hS := hS.lit [0, -3] 2
  replace oX := oX.alloc (.cells (([2, 0] : List Int).map (Value.int .i64)).toArray 3)
  replace hS := hS.lit [2, 0] 2
  replace oX := oX.alloc (.cells #[.slice (some ⟨wg.heap.size, 0, none⟩) 2 2, .slice (some ⟨wg.heap.size + 1, 0, none⟩) 2 2] 26)
  replace hS := hS.litM (ks := [1, 0]) (.cons rfl (.cons rfl .nil)) 2
  go_wp2_with fail
  refine (sameM_true rfl rfl rfl (hS.matAt 16 rfl) (hS.matAt 0 rfl)).mono ?_
  rintro e wh ⟨rfl, hw⟩
  replace oX := oX.drew hw
  replace hS := hS.drew hw
  clear hw 
  have klo_0 := hS.boxAt 14 0 rfl rfl
  have klo_1 := hS.boxAt 14 1 rfl rfl
  have llo := hS.boxLt 14 rfl
  have khi_0 := hS.boxAt 13 0 rfl rfl
  have khi_1 := hS.boxAt 13 1 rfl rfl
  have lhi := hS.boxLt 13 rfl
  replace oX := oX.alloc (.cells (([2, -1] : List Int).map (Value.int .i64)).toArray 3)
  replace hS := hS.lit [2, -1] 2
  go_wp2_with fail
  refine (sameI_true rfl rfl rfl (hS.intsAt 10 rfl) (hS.intsAt 0 rfl)).mono ?_
  rintro e wi ⟨rfl, hw⟩
  replace oX := oX.drew hw
  replace hS := hS.drew hw
  clear hw 
  clear klo_0 klo_1 llo khi_0 khi_1 lhi
  have hL := ownP_lit wi [(1, 0)] (by decide)
  have hbL : Below wi.heap.size wi (wi.alloc (.cells (cellsP [(1, 0)]).toArray 91)) := (Below.refl _ _).alloc (Nat.le_refl _) _
  replace oX := oX.below hbL (Nat.le_refl _)
  replace hS := hS.step hbL
  go_wp2_with fail
  refine (samePairs_any _ _ _ _ _ _ [(1, 0)] _ oX hL).mono ?_
  rintro e wj ⟨rfl, hw⟩
  replace hS := hS.drew hw
  clear hw hbL
  go_wp2_with fail
  go_ret
  exact ⟨rfl, hS.bel⟩
end Go.Proofs.Ytojldecldemfaaa

/- The invariant of a region that reckons a pair by a call and puts it into a block of its own; no condition. -/
namespace Go.Proofs.Ytojldecldemfaaa
set_option linter.unusedVariables false
set_option linter.unusedSimpArgs false
open Go.ChangeShapes Go.WideShapes Go.ChangeAt Go.RowKit Go.Deep

structure OneJ (B : World) (ai si : Nat) (val : Nat → Value) (X Y : Value) (us : Nat → Value) (D : Nat → Prop) (W : World) : Prop where
  val : ∀ k, k ≠ ai → k ≠ si → D k → us k = val k
  bel : Below B.heap.size B W
  blk : D ai → ∃ (g : Nat) (x y : Value), us ai = .pointer (some ⟨g, 0, none⟩) ∧ B.heap.size ≤ g ∧ g < W.heap.size ∧ Two W g x y ∧ (D si → x = X ∧ y = Y)
  o : D si → D ai
section
variable {B : World} {ai si : Nat} {val : Nat → Value} {X Y : Value} {us : Nat → Value} {D : Nat → Prop} {W W' : World}
theorem OneJ.start (us : Nat → Value) : OneJ B ai si val X Y us (fun _ => False) B.drew :=
  ⟨fun k _ _ h => h.elim, below_drewN _ _ 1, fun h => h.elim, fun h => h⟩
theorem OneJ.pure (h : OneJ B ai si val X Y us D W) {i : Nat} (h1 : i ≠ ai) (h2 : i ≠ si) (hb : Below W.heap.size W W') : OneJ B ai si val X Y (upd us i (val i)) (fun k => k = i ∨ D k) W' := by
  refine ⟨fun k k1 k2 hd => ?_, h.bel.trans (hb.mono h.bel.size), fun hd => ?_, fun hd => .inr (h.o (or_ne hd (Ne.symm h2)))⟩
  · by_cases e : k = i
    · subst e; rw [upd_same]
    · rw [upd_ne e]; exact h.val k k1 k2 (or_ne hd e)
  · rw [upd_ne (Ne.symm h1)]
    obtain ⟨g, x, y, q1, q2, q3, q4, q5⟩ := h.blk (or_ne hd (Ne.symm h1))
    exact ⟨g, x, y, q1, q2, Nat.lt_of_lt_of_le q3 hb.size, q4.below hb q3, fun hd => q5 (or_ne hd (Ne.symm h2))⟩
theorem OneJ.alloc (h : OneJ B ai si val X Y us D W) (hD : ¬ D ai) (e : ai ≠ si) (x y : Value) (T : TypeId) : OneJ B ai si val X Y (upd us ai (.pointer (some ⟨W.heap.size, 0, none⟩))) (fun k => k = ai ∨ D k) (W.alloc (.cells #[x, y] T)) := by
  have hb : Below W.heap.size W (W.alloc (.cells #[x, y] T)) := (Below.refl _ _).alloc (Nat.le_refl _) _
  refine ⟨fun k k1 k2 hd => ?_, h.bel.trans (hb.mono h.bel.size), fun hd => ?_, fun hd => .inl rfl⟩
  · rw [upd_ne k1]; exact h.val k k1 k2 (or_ne hd k1)
  · rw [upd_same]
    exact ⟨_, x, y, rfl, h.bel.size, by simp, Two.new rfl rfl, fun hd => (hD (h.o (or_ne hd (Ne.symm e)))).elim⟩
theorem OneJ.store (h : OneJ B ai si val X Y us D W) (hD : D ai) (e : ai ≠ si) {g : Nat} (hg : us ai = .pointer (some ⟨g, 0, none⟩)) (u : Value) : OneJ B ai si val X Y (upd us si u) (fun k => k = si ∨ D k) ((W.setCell ⟨g, 0, none⟩ X).setCell ⟨g, 1, none⟩ Y) := by
  obtain ⟨g', x, y, h1, h2, h3, h4, h5⟩ := h.blk hD
  rw [hg] at h1
  obtain rfl := ptr_inj h1
  refine ⟨fun k k1 k2 hd => ?_, (h.bel.setCell (p := ⟨g, 0, none⟩) h2 _).setCell (p := ⟨g, 1, none⟩) h2 _, fun hd => ?_, fun hd => .inr hD⟩
  · rw [upd_ne k2]; exact h.val k k1 k2 (or_ne hd k2)
  · rw [upd_ne e]
    exact ⟨g, X, Y, hg, h2, by simpa [World.setCell] using h3, h4.put, fun _ => ⟨rfl, rfl⟩⟩
end
end Go.Proofs.Ytojldecldemfaaa
