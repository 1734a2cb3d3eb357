/- The walk of the law RoomFinds: for every flat and room it returns true, and changes nothing that was there. -/
import Derived.Test.YtojldecldemfaaaRoomF
import Derived.Test.YtojldecldemfaaaRoomH
import Derived.Test.YtojldecldemfaaaTwin
import Derived.Deep.DeepCutAuto
import Derived.Deep.RegionHeld3
namespace Go.Proofs.Ytojldecldemfaaa
set_option linter.unusedVariables false
set_option linter.unusedSimpArgs false
open Go.ChangeShapes Go.WideShapes Go.ChangeAt Go.RowKit Go.Deep

noncomputable def rl0 (v : List (List Int)) (r j : Int) : Int := if InR v r j then rN (lowI v r j.toNat v.length) v.length else 0
noncomputable def rl1 (v : List (List Int)) (r j : Int) : Int := if InR v r j then rD (lowI v r j.toNat v.length) v.length else 0
noncomputable def rh0 (v : List (List Int)) (r j : Int) : Int := if InR v r j then rN (highI v r j.toNat v.length) v.length else 0
noncomputable def rh1 (v : List (List Int)) (r j : Int) : Int := if InR v r j then rD (highI v r j.toNat v.length) v.length else 0
theorem rngLo_eq (v : List (List Int)) (r j : Int) : rngLo v r j = .agg #[.int .i64 (rl0 v r j), .int .i64 (rl1 v r j)] := by
  unfold rngLo rl0 rl1 ratV zeroR
  by_cases h : InR v r j
  · simp only [if_pos h]
  · simp only [if_neg h]
theorem rngHi_eq (v : List (List Int)) (r j : Int) : rngHi v r j = .agg #[.int .i64 (rh0 v r j), .int .i64 (rh1 v r j)] := by
  unfold rngHi rh0 rh1 ratV zeroR
  by_cases h : InR v r j
  · simp only [if_pos h]
  · simp only [if_neg h]
theorem roomRange_e (p : Option Addr) (c : Nat) (v : List (List Int)) (r j : Int) (w : World) (hx : Mat w p c v) (hj64 : in64 j) :
    Calls Try.prog 15 #[.agg #[.slice p v.length c, .int .i64 r], .int .i64 j] w fun e w' => e = .returned (.tuple #[.agg #[.int .i64 (rl0 v r j), .int .i64 (rl1 v r j)], .agg #[.int .i64 (rh0 v r j), .int .i64 (rh1 v r j)], .int .i64 (rngE v r j)]) ∧ Below w.heap.size w w' := by
  rw [← rngLo_eq, ← rngHi_eq]; exact roomRange_any p c v r j w hx hj64
theorem refRange_e (p : Option Addr) (c : Nat) (v : List (List Int)) (r j : Int) (w : World) (hx : Mat w p c v) (hj64 : in64 j) :
    Calls Try.prog 16 #[.agg #[.slice p v.length c, .int .i64 r], .int .i64 j] w fun e w' => e = .returned (.tuple #[.agg #[.int .i64 (rl0 v r j), .int .i64 (rl1 v r j)], .agg #[.int .i64 (rh0 v r j), .int .i64 (rh1 v r j)], .int .i64 (rngE v r j)]) ∧ Below w.heap.size w w' := by
  rw [← rngLo_eq, ← rngHi_eq]; exact refRange_any p c v r j w hx hj64

/-- A block whose first cells are known. -/
structure BoxV (w : World) (S : Nat) (vs : List Value) : Prop where
  lt : S < w.heap.size
  cell : ∀ (k : Nat) (v : Value), vs[k]? = some v → w.cell? ⟨S, k, none⟩ = some v
theorem BoxV.below {w w' : World} {S : Nat} {vs : List Value} (h : BoxV w S vs) (hb : Below w.heap.size w w') : BoxV w' S vs :=
  ⟨Nat.lt_of_lt_of_le h.lt hb.size, fun k v hk => (hb.cell (p := ⟨S, k, none⟩) h.lt).trans (h.cell k v hk)⟩
theorem BoxV.new {w w' : World} {S : Nat} {vs : List Value} {t : TypeId} (hS : w.heap.size = S) (hw : w.alloc (.cells vs.toArray t) = w') : BoxV w' S vs := by
  subst hS hw
  exact ⟨by simp, fun k v hk => (World.cell?_alloc_at _ _ _ _ rfl).trans (by simpa using hk)⟩
theorem boxV_put {w : World} {S : Nat} {x y u v : Value} (h0 : w.cell? ⟨S, 0, none⟩ = some x) (h1 : w.cell? ⟨S, 1, none⟩ = some y) (hS : S < w.heap.size) : BoxV ((w.setCell ⟨S, 0, none⟩ u).setCell ⟨S, 1, none⟩ v) S [u, v] := by
  obtain ⟨k0, k1⟩ := Two.set (x := u) (y := v) h0 h1
  refine ⟨by simpa [World.setCell] using hS, fun k z hk => ?_⟩
  match k, hk with
  | 0, hk => simp at hk; subst hk; exact k0
  | 1, hk => simp at hk; subst hk; exact k1
theorem DMat.farSet {w : World} {base S j : Nat} {p : Option Addr} {c : Nat} {v : List (List Int)} {Q : Nat → Option Addr} {D : Nat → Nat} {u : Value} (h : DMat w base p c v Q D) (hS : S < base) : DMat (w.setCell ⟨S, j, none⟩ u) base p c v Q D :=
  h.above (fun k hk => Below.heap_setCell w ⟨S, j, none⟩ _ k (fun e => by simp only at e; omega))
theorem below_alloc {w w' : World} {o : Obj} (hw : w.alloc o = w') : Below w.heap.size w w' := by subst hw; exact (Below.refl _ _).alloc (Nat.le_refl _) _

set_option maxHeartbeats 8000000 in
set_option maxRecDepth 100000 in
theorem roomFinds_walk (p : Option Addr) (c : Nat) (v : List (List Int)) (r j : Int) (w : World) (hx : Mat w p c v) (hr64 : in64 r) (hj64 : in64 j) :
    Calls Try.prog 3 #[.agg #[.slice p v.length c, .int .i64 r], .int .i64 j] w fun e w' => e = .returned (.bool true) ∧ Below w.heap.size w w' := by
  obtain ⟨W0, hW0⟩ : ∃ W0, w.alloc (.cells #[.slice p v.length c, .int .i64 r] 24) = W0 := ⟨_, rfl⟩
  have hB : Below w.heap.size w W0 := below_alloc hW0
  have bX : BoxV W0 w.heap.size [.slice p v.length c, .int .i64 r] := BoxV.new rfl hW0
  have mX := hx.below hB (Nat.le_refl _)
  have HW0 := Lib.hid hW0
  clear hW0 hx
  by_cases hG : GreatP v
  · have hg : greatL v [] [] = true := greatL_true (.inl hG)
    go_enter Try.func3, Try.ntmps3
    go_wp2_with fail
    rw [HW0.out]
    refine (greatR_any p none none c 0 0 v r [] [] 0 W0 mX).mono ?_
    rintro e w1 ⟨rfl, hb⟩
    rw [hg]
    go_wp2_with fail
    go_ret
    exact ⟨rfl, hB.trans (hb.mono hB.size)⟩
  · have hg : greatL v [] [] = false := greatL_false (fun h => by
      rcases h with h | h | h
      · exact hG h
      · simp at h
      · simp at h)
    have h20 : v.length ≤ 900000 := by
      have : ¬ 20 < v.length := fun h => hG (.inr (.inr h))
      omega
    have hrows : ∀ i, i < v.length → (rget v i).length ≤ 900000 := fun i hi => by
      have : ¬ 50 < (rget v i).length := fun h => hG (.inl ⟨i, hi, by
        have : ¬ 20 < v.length := fun h => hG (.inr (.inr h))
        omega, h⟩)
      omega
    have Hrows := Lib.hid hrows
    have Hj := Lib.hid hj64
    clear hG hrows hj64
    go_enter Try.func3, Try.ntmps3
    go_wp2_with fail
    rw [HW0.out]
    refine (greatR_any p none none c 0 0 v r [] [] 0 W0 mX).mono ?_
    rintro e w1 ⟨rfl, hb⟩
    rw [hg]
    replace mX := mX.below hb (Nat.le_refl _)
    replace bX := bX.below hb
    replace hB := hB.trans (hb.mono hB.size)
    clear hb
    have x0 := bX.cell 0 _ rfl
    have x1 := bX.cell 1 _ rfl
    have hXl := bX.lt
    go_upto_region 3 with (fail)
    go_cut [5] (fun t5 wx => ∃ S p1 c1, t5 = .pointer (some ⟨S, 0, none⟩) ∧ BoxV wx S [.slice p1 v.length c1, .int .i64 r] ∧ Mat wx p1 c1 v ∧ Below w1.heap.size w1 wx)
    case first =>
      have Hx1 := Lib.hid x1
      have hBd : Below w1.heap.size w1 w1.drew := below_drewN w1.heap.size w1 1
      have hBa : Below w1.heap.size w1 (w1.alloc (.cells #[.slice none 0 0, .int .i64 0] 24)).drew := ((Below.refl _ w1).alloc (Nat.le_refl _) _).drew
      have mXd := mX.below hBd (Nat.le_refl _)
      have mXa := mX.below hBa (Nat.le_refl _)
      have hXl' : w.heap.size < (w1.alloc (.cells #[.slice none 0 0, .int .i64 0] 24)).drew.heap.size := Nat.lt_of_lt_of_le hXl hBa.size
      have Hxa : Hid ((w1.alloc (.cells #[.slice none 0 0, .int .i64 0] 24)).drew.cell? ⟨w.heap.size, 1, none⟩ = some (.int .i64 r)) := (hBa.cell (p := ⟨w.heap.size, 1, none⟩) hXl).trans x1
      have Hxz : Hid (Two (w1.alloc (.cells #[.slice none 0 0, .int .i64 0] 24)).drew w1.heap.size (.slice none 0 0) (.int .i64 0)) := (Two.new (w := w1) rfl rfl).below (B := w1.heap.size + 1) (below_drewN _ _ 1) (Nat.lt_succ_self _)
      have hsa : w1.heap.size < (w1.alloc (.cells #[.slice none 0 0, .int .i64 0] 24)).drew.heap.size := by show _ < (w1.alloc _).heap.size; simp
      go_region_with (first
        | (go_at_call 10; (with_reducible refine (twin_any p c v w1.drew mXd h20 Hrows.out).mono ?_); rintro e w2 ⟨p1, c1, Q, D, rfl, hD, hb⟩; have x1' := (hb.cell (p := ⟨w.heap.size, 1, none⟩) hXl).trans Hx1.out; have hXl2 := Nat.lt_of_lt_of_le hXl hb.size)
        | (go_at_call 10; (with_reducible refine (twin_any p c v (w1.alloc (.cells #[.slice none 0 0, .int .i64 0] 24)).drew mXa h20 Hrows.out).mono ?_); rintro e w2 ⟨p1, c1, Q, D, rfl, hD, hb⟩; have x1' := (hb.cell (p := ⟨w.heap.size, 1, none⟩) hXl').trans Hxa.out; have hXl2 := Nat.lt_of_lt_of_le hXl' hb.size; have hT := Lib.hid (Hxz.out.below hb hsa); obtain ⟨q0, q1, g0, g1⟩ := hT.out))
      all_goals
        go_wp2_with fail
        go_meet
        first
          | (have _t := hT; exact ⟨w1.heap.size, p1, c1, rfl, boxV_put q0 q1 (Nat.lt_of_lt_of_le hsa hb.size), ((hD.farSet hsa).farSet hsa).mat, ((hBa.trans (hb.mono (Nat.le_of_lt hsa))).setCell (p := ⟨w1.heap.size, 0, none⟩) (Nat.le_refl _) _).setCell (p := ⟨w1.heap.size, 1, none⟩) (Nat.le_refl _) _⟩)
          | exact ⟨w2.heap.size, p1, c1, rfl, BoxV.new rfl rfl, hD.mat.below (below_alloc rfl) (Nat.le_refl _), hBd.trans (hb.alloc hb.size _)⟩
    case rest =>
      obtain ⟨S, p1, c1, rfl, bO, mO, hb⟩ := hcut
      replace mX := mX.below hb (Nat.le_refl _)
      replace bX := bX.below hb
      replace hB := hB.trans (hb.mono hB.size)
      clear hb x0 x1 hXl
      have x0 := bX.cell 0 _ rfl
      have x1 := bX.cell 1 _ rfl
      have o0 := bO.cell 0 _ rfl
      have o1 := bO.cell 1 _ rfl
      have hXl := bX.lt
      have hOl := bO.lt
      go_wp2_with fail
      refine (roomEven_any p1 c1 v r _ mO).mono ?_
      rintro e wA ⟨pa, ca, qa, da, rfl, iA, iP, hb⟩
      clear x0 x1 o0 o1 hXl hOl
      replace mX := mX.below hb (Nat.le_refl _)
      replace bX := bX.below hb
      replace mO := mO.below hb (Nat.le_refl _)
      replace bO := bO.below hb
      replace hB := hB.trans (hb.mono hB.size)
      clear hb
      obtain ⟨X, hX⟩ : ∃ q, evenX v r = q := ⟨_, rfl⟩
      obtain ⟨Y, hY⟩ : ∃ q, evenY v r = q := ⟨_, rfl⟩
      obtain ⟨Z, hZ⟩ : ∃ q, evenZ v r = q := ⟨_, rfl⟩
      rw [hX] at iA ⊢
      rw [hY] at iP ⊢
      rw [hZ]
      have HX := Lib.hid hX
      have HY := Lib.hid hY
      have HZ := Lib.hid hZ
      clear hX hY hZ
      have x0 := bX.cell 0 _ rfl
      have x1 := bX.cell 1 _ rfl
      have o0 := bO.cell 0 _ rfl
      have o1 := bO.cell 1 _ rfl
      have hXl := bX.lt
      have hOl := bO.lt
      go_wp2_with fail
      obtain ⟨WA, hWA⟩ : ∃ q, wA.alloc (.cells #[.slice pa X.length ca, .slice qa Y.length da, .int .i64 Z] 28) = q := ⟨_, rfl⟩
      rw [hWA]
      clear x0 x1 o0 o1 hXl hOl
      have hb := below_alloc hWA
      replace mX := mX.below hb (Nat.le_refl _)
      replace bX := bX.below hb
      replace mO := mO.below hb (Nat.le_refl _)
      replace bO := bO.below hb
      replace iA := iA.below hb (Nat.le_refl _)
      replace iP := iP.below hb (Nat.le_refl _)
      replace hB := hB.trans (hb.mono hB.size)
      clear hb
      have bA : BoxV WA wA.heap.size [.slice pa X.length ca, .slice qa Y.length da, .int .i64 Z] := BoxV.new rfl hWA
      clear hWA
      have x0 := bX.cell 0 _ rfl
      have x1 := bX.cell 1 _ rfl
      have o0 := bO.cell 0 _ rfl
      have o1 := bO.cell 1 _ rfl
      have hXl := bX.lt
      have hOl := bO.lt
      have hE : Calls Try.prog 12 #[.agg #[.slice p v.length c, .int .i64 r]] WA (GivesLease WA X Y Z (chkR v r)) := by rw [← HX.out, ← HY.out, ← HZ.out]; exact refEven_any p c v r WA mX
      refine hE.mono ?_
      clear hE
      rintro e wB ⟨pb, cb, qb, db, rfl, jA, jP, hb⟩
      clear x0 x1 o0 o1 hXl hOl
      replace mX := mX.below hb (Nat.le_refl _)
      replace bX := bX.below hb
      replace mO := mO.below hb (Nat.le_refl _)
      replace bO := bO.below hb
      replace iA := iA.below hb (Nat.le_refl _)
      replace iP := iP.below hb (Nat.le_refl _)
      replace bA := bA.below hb
      replace hB := hB.trans (hb.mono hB.size)
      clear hb
      have x0 := bX.cell 0 _ rfl
      have x1 := bX.cell 1 _ rfl
      have o0 := bO.cell 0 _ rfl
      have o1 := bO.cell 1 _ rfl
      have hXl := bX.lt
      have hOl := bO.lt
      go_wp2_with fail
      obtain ⟨WB, hWB⟩ : ∃ q, wB.alloc (.cells #[.slice pb X.length cb, .slice qb Y.length db, .int .i64 Z] 28) = q := ⟨_, rfl⟩
      rw [hWB]
      clear x0 x1 o0 o1 hXl hOl
      have hb := below_alloc hWB
      replace mX := mX.below hb (Nat.le_refl _)
      replace bX := bX.below hb
      replace mO := mO.below hb (Nat.le_refl _)
      replace bO := bO.below hb
      replace iA := iA.below hb (Nat.le_refl _)
      replace iP := iP.below hb (Nat.le_refl _)
      replace bA := bA.below hb
      replace jA := jA.below hb (Nat.le_refl _)
      replace jP := jP.below hb (Nat.le_refl _)
      replace hB := hB.trans (hb.mono hB.size)
      clear hb
      have bB : BoxV WB wB.heap.size [.slice pb X.length cb, .slice qb Y.length db, .int .i64 Z] := BoxV.new rfl hWB
      clear hWB
      have x0 := bX.cell 0 _ rfl
      have x1 := bX.cell 1 _ rfl
      have o0 := bO.cell 0 _ rfl
      have o1 := bO.cell 1 _ rfl
      have hXl := bX.lt
      have hOl := bO.lt
      refine (roomLinks_any p1 c1 v r _ mO).mono ?_
      rintro e wK ⟨pk, ck, Qk, Dk, rfl, dK, hb⟩
      clear x0 x1 o0 o1 hXl hOl
      have mK := dK.mat
      clear dK
      replace mX := mX.below hb (Nat.le_refl _)
      replace bX := bX.below hb
      replace mO := mO.below hb (Nat.le_refl _)
      replace bO := bO.below hb
      replace iA := iA.below hb (Nat.le_refl _)
      replace iP := iP.below hb (Nat.le_refl _)
      replace bA := bA.below hb
      replace jA := jA.below hb (Nat.le_refl _)
      replace jP := jP.below hb (Nat.le_refl _)
      replace bB := bB.below hb
      replace hB := hB.trans (hb.mono hB.size)
      clear hb
      obtain ⟨K, hK⟩ : ∃ q, linksL v r = q := ⟨_, rfl⟩
      rw [hK] at mK ⊢
      have HK := Lib.hid hK
      clear hK
      have x0 := bX.cell 0 _ rfl
      have x1 := bX.cell 1 _ rfl
      have o0 := bO.cell 0 _ rfl
      have o1 := bO.cell 1 _ rfl
      have hXl := bX.lt
      have hOl := bO.lt
      go_wp2_with fail
      have hE : Calls Try.prog 14 #[.agg #[.slice p v.length c, .int .i64 r]] wK (GivesD2 wK K (chkR v r)) := by rw [← HK.out]; exact refLinks_any p c v r wK mX
      refine hE.mono ?_
      clear hE
      rintro e wL ⟨pl, cl, Ql, Dl, rfl, dL, hb⟩
      have mL := dL.mat
      clear dL
      clear x0 x1 o0 o1 hXl hOl
      replace mX := mX.below hb (Nat.le_refl _)
      replace bX := bX.below hb
      replace mO := mO.below hb (Nat.le_refl _)
      replace bO := bO.below hb
      replace iA := iA.below hb (Nat.le_refl _)
      replace iP := iP.below hb (Nat.le_refl _)
      replace bA := bA.below hb
      replace jA := jA.below hb (Nat.le_refl _)
      replace jP := jP.below hb (Nat.le_refl _)
      replace bB := bB.below hb
      replace mK := mK.below hb (Nat.le_refl _)
      replace hB := hB.trans (hb.mono hB.size)
      clear hb
      have x0 := bX.cell 0 _ rfl
      have x1 := bX.cell 1 _ rfl
      have o0 := bO.cell 0 _ rfl
      have o1 := bO.cell 1 _ rfl
      have hXl := bX.lt
      have hOl := bO.lt
      go_wp2_with fail
      refine (roomRange_e p1 c1 v r j _ mO Hj.out).mono ?_
      rintro e wR ⟨rfl, hb⟩
      clear x0 x1 o0 o1 hXl hOl
      replace mX := mX.below hb (Nat.le_refl _)
      replace bX := bX.below hb
      replace mO := mO.below hb (Nat.le_refl _)
      replace bO := bO.below hb
      replace iA := iA.below hb (Nat.le_refl _)
      replace iP := iP.below hb (Nat.le_refl _)
      replace bA := bA.below hb
      replace jA := jA.below hb (Nat.le_refl _)
      replace jP := jP.below hb (Nat.le_refl _)
      replace bB := bB.below hb
      replace mK := mK.below hb (Nat.le_refl _)
      replace mL := mL.below hb (Nat.le_refl _)
      replace hB := hB.trans (hb.mono hB.size)
      clear hb
      obtain ⟨n0, hn0⟩ : ∃ q, rl0 v r j = q := ⟨_, rfl⟩
      obtain ⟨n1, hn1⟩ : ∃ q, rl1 v r j = q := ⟨_, rfl⟩
      obtain ⟨n2, hn2⟩ : ∃ q, rh0 v r j = q := ⟨_, rfl⟩
      obtain ⟨n3, hn3⟩ : ∃ q, rh1 v r j = q := ⟨_, rfl⟩
      rw [hn0, hn1, hn2, hn3]
      have N0 := Lib.hid hn0
      have N1 := Lib.hid hn1
      have N2 := Lib.hid hn2
      have N3 := Lib.hid hn3
      clear hn0 hn1 hn2 hn3
      have x0 := bX.cell 0 _ rfl
      have x1 := bX.cell 1 _ rfl
      have o0 := bO.cell 0 _ rfl
      have o1 := bO.cell 1 _ rfl
      have hXl := bX.lt
      have hOl := bO.lt
      go_wp2_with fail
      obtain ⟨WRx, hWRx⟩ : ∃ q, wR.alloc (.cells #[.int .i64 n0, .int .i64 n1] 40) = q := ⟨_, rfl⟩
      obtain ⟨WR, hWR⟩ : ∃ q, WRx.alloc (.cells #[.int .i64 n2, .int .i64 n3] 40) = q := ⟨_, rfl⟩
      rw [hWRx, hWR]
      clear x0 x1 o0 o1 hXl hOl
      have hb := below_alloc hWRx
      replace mX := mX.below hb (Nat.le_refl _)
      replace bX := bX.below hb
      replace mO := mO.below hb (Nat.le_refl _)
      replace bO := bO.below hb
      replace iA := iA.below hb (Nat.le_refl _)
      replace iP := iP.below hb (Nat.le_refl _)
      replace bA := bA.below hb
      replace jA := jA.below hb (Nat.le_refl _)
      replace jP := jP.below hb (Nat.le_refl _)
      replace bB := bB.below hb
      replace mK := mK.below hb (Nat.le_refl _)
      replace mL := mL.below hb (Nat.le_refl _)
      replace hB := hB.trans (hb.mono hB.size)
      clear hb
      have bR : BoxV WRx wR.heap.size [.int .i64 n0, .int .i64 n1] := BoxV.new rfl hWRx
      have hb := below_alloc hWR
      replace mX := mX.below hb (Nat.le_refl _)
      replace bX := bX.below hb
      replace mO := mO.below hb (Nat.le_refl _)
      replace bO := bO.below hb
      replace iA := iA.below hb (Nat.le_refl _)
      replace iP := iP.below hb (Nat.le_refl _)
      replace bA := bA.below hb
      replace jA := jA.below hb (Nat.le_refl _)
      replace jP := jP.below hb (Nat.le_refl _)
      replace bB := bB.below hb
      replace mK := mK.below hb (Nat.le_refl _)
      replace mL := mL.below hb (Nat.le_refl _)
      replace bR := bR.below hb
      replace hB := hB.trans (hb.mono hB.size)
      clear hb
      have bS : BoxV WR (wR.heap.size + 1) [.int .i64 n2, .int .i64 n3] := BoxV.new (by rw [← hWRx]; simp) hWR
      clear hWRx hWR
      have x0 := bX.cell 0 _ rfl
      have x1 := bX.cell 1 _ rfl
      have o0 := bO.cell 0 _ rfl
      have o1 := bO.cell 1 _ rfl
      have hXl := bX.lt
      have hOl := bO.lt
      have hE : Calls Try.prog 16 #[.agg #[.slice p v.length c, .int .i64 r], .int .i64 j] WR fun e w' => e = .returned (.tuple #[.agg #[.int .i64 n0, .int .i64 n1], .agg #[.int .i64 n2, .int .i64 n3], .int .i64 (rngE v r j)]) ∧ Below WR.heap.size WR w' := by rw [← N0.out, ← N1.out, ← N2.out, ← N3.out]; exact refRange_e p c v r j WR mX Hj.out
      refine hE.mono ?_
      clear hE
      rintro e wT ⟨rfl, hb⟩
      clear x0 x1 o0 o1 hXl hOl
      replace mX := mX.below hb (Nat.le_refl _)
      replace bX := bX.below hb
      replace mO := mO.below hb (Nat.le_refl _)
      replace bO := bO.below hb
      replace iA := iA.below hb (Nat.le_refl _)
      replace iP := iP.below hb (Nat.le_refl _)
      replace bA := bA.below hb
      replace jA := jA.below hb (Nat.le_refl _)
      replace jP := jP.below hb (Nat.le_refl _)
      replace bB := bB.below hb
      replace mK := mK.below hb (Nat.le_refl _)
      replace mL := mL.below hb (Nat.le_refl _)
      replace bR := bR.below hb
      replace bS := bS.below hb
      replace hB := hB.trans (hb.mono hB.size)
      clear hb
      have x0 := bX.cell 0 _ rfl
      have x1 := bX.cell 1 _ rfl
      have o0 := bO.cell 0 _ rfl
      have o1 := bO.cell 1 _ rfl
      have hXl := bX.lt
      have hOl := bO.lt
      go_upto_region 10 with (fail)
      obtain ⟨WTx, hWTx⟩ : ∃ q, wT.alloc (.cells #[.int .i64 n0, .int .i64 n1] 40) = q := ⟨_, rfl⟩
      obtain ⟨WT, hWT⟩ : ∃ q, WTx.alloc (.cells #[.int .i64 n2, .int .i64 n3] 40) = q := ⟨_, rfl⟩
      rw [hWTx, hWT]
      clear x0 x1 o0 o1 hXl hOl
      have hb := below_alloc hWTx
      replace mX := mX.below hb (Nat.le_refl _)
      replace bX := bX.below hb
      replace mO := mO.below hb (Nat.le_refl _)
      replace bO := bO.below hb
      replace iA := iA.below hb (Nat.le_refl _)
      replace iP := iP.below hb (Nat.le_refl _)
      replace bA := bA.below hb
      replace jA := jA.below hb (Nat.le_refl _)
      replace jP := jP.below hb (Nat.le_refl _)
      replace bB := bB.below hb
      replace mK := mK.below hb (Nat.le_refl _)
      replace mL := mL.below hb (Nat.le_refl _)
      replace bR := bR.below hb
      replace bS := bS.below hb
      replace hB := hB.trans (hb.mono hB.size)
      clear hb
      have bT : BoxV WTx wT.heap.size [.int .i64 n0, .int .i64 n1] := BoxV.new rfl hWTx
      have hb := below_alloc hWT
      replace mX := mX.below hb (Nat.le_refl _)
      replace bX := bX.below hb
      replace mO := mO.below hb (Nat.le_refl _)
      replace bO := bO.below hb
      replace iA := iA.below hb (Nat.le_refl _)
      replace iP := iP.below hb (Nat.le_refl _)
      replace bA := bA.below hb
      replace jA := jA.below hb (Nat.le_refl _)
      replace jP := jP.below hb (Nat.le_refl _)
      replace bB := bB.below hb
      replace mK := mK.below hb (Nat.le_refl _)
      replace mL := mL.below hb (Nat.le_refl _)
      replace bR := bR.below hb
      replace bS := bS.below hb
      replace bT := bT.below hb
      replace hB := hB.trans (hb.mono hB.size)
      clear hb
      have bU : BoxV WT (wT.heap.size + 1) [.int .i64 n2, .int .i64 n3] := BoxV.new (by rw [← hWTx]; simp) hWT
      clear hWTx hWT
      have k00 := bX.cell 0 _ rfl
      have k01 := bX.cell 1 _ rfl
      have k02 := bO.cell 0 _ rfl
      have k03 := bO.cell 1 _ rfl
      have k04 := bA.cell 0 _ rfl
      have k05 := bA.cell 1 _ rfl
      have k06 := bA.cell 2 _ rfl
      have k07 := bB.cell 0 _ rfl
      have k08 := bB.cell 1 _ rfl
      have k09 := bB.cell 2 _ rfl
      have k10 := bR.cell 0 _ rfl
      have k11 := bR.cell 1 _ rfl
      have k12 := bS.cell 0 _ rfl
      have k13 := bS.cell 1 _ rfl
      have k14 := bT.cell 0 _ rfl
      have k15 := bT.cell 1 _ rfl
      have k16 := bU.cell 0 _ rfl
      have k17 := bU.cell 1 _ rfl
      go_region_held3 (fun W => W.cell? ⟨w.heap.size, 0, none⟩ = some (Value.slice p v.length c) ∧ W.cell? ⟨w.heap.size, 1, none⟩ = some (Value.int .i64 r) ∧ W.cell? ⟨S, 0, none⟩ = some (Value.slice p1 v.length c1) ∧ W.cell? ⟨S, 1, none⟩ = some (Value.int .i64 r) ∧ W.cell? ⟨wA.heap.size, 0, none⟩ = some (Value.slice pa X.length ca) ∧ W.cell? ⟨wA.heap.size, 1, none⟩ = some (Value.slice qa Y.length da) ∧ W.cell? ⟨wA.heap.size, 2, none⟩ = some (Value.int .i64 Z) ∧ W.cell? ⟨wB.heap.size, 0, none⟩ = some (Value.slice pb X.length cb) ∧ W.cell? ⟨wB.heap.size, 1, none⟩ = some (Value.slice qb Y.length db) ∧ W.cell? ⟨wB.heap.size, 2, none⟩ = some (Value.int .i64 Z) ∧ W.cell? ⟨wR.heap.size, 0, none⟩ = some (Value.int .i64 n0) ∧ W.cell? ⟨wR.heap.size, 1, none⟩ = some (Value.int .i64 n1) ∧ W.cell? ⟨wR.heap.size + 1, 0, none⟩ = some (Value.int .i64 n2) ∧ W.cell? ⟨wR.heap.size + 1, 1, none⟩ = some (Value.int .i64 n3) ∧ W.cell? ⟨wT.heap.size, 0, none⟩ = some (Value.int .i64 n0) ∧ W.cell? ⟨wT.heap.size, 1, none⟩ = some (Value.int .i64 n1) ∧ W.cell? ⟨wT.heap.size + 1, 0, none⟩ = some (Value.int .i64 n2) ∧ W.cell? ⟨wT.heap.size + 1, 1, none⟩ = some (Value.int .i64 n3) ∧ Below WT.heap.size WT W)
        (first | assumption | exact ⟨(hG.cell (p := ⟨w.heap.size, 0, none⟩) bX.lt).trans k00, (hG.cell (p := ⟨w.heap.size, 1, none⟩) bX.lt).trans k01, (hG.cell (p := ⟨S, 0, none⟩) bO.lt).trans k02, (hG.cell (p := ⟨S, 1, none⟩) bO.lt).trans k03, (hG.cell (p := ⟨wA.heap.size, 0, none⟩) bA.lt).trans k04, (hG.cell (p := ⟨wA.heap.size, 1, none⟩) bA.lt).trans k05, (hG.cell (p := ⟨wA.heap.size, 2, none⟩) bA.lt).trans k06, (hG.cell (p := ⟨wB.heap.size, 0, none⟩) bB.lt).trans k07, (hG.cell (p := ⟨wB.heap.size, 1, none⟩) bB.lt).trans k08, (hG.cell (p := ⟨wB.heap.size, 2, none⟩) bB.lt).trans k09, (hG.cell (p := ⟨wR.heap.size, 0, none⟩) bR.lt).trans k10, (hG.cell (p := ⟨wR.heap.size, 1, none⟩) bR.lt).trans k11, (hG.cell (p := ⟨wR.heap.size + 1, 0, none⟩) bS.lt).trans k12, (hG.cell (p := ⟨wR.heap.size + 1, 1, none⟩) bS.lt).trans k13, (hG.cell (p := ⟨wT.heap.size, 0, none⟩) bT.lt).trans k14, (hG.cell (p := ⟨wT.heap.size, 1, none⟩) bT.lt).trans k15, (hG.cell (p := ⟨wT.heap.size + 1, 0, none⟩) bU.lt).trans k16, (hG.cell (p := ⟨wT.heap.size + 1, 1, none⟩) bU.lt).trans k17, hG⟩ | exact ⟨k00, k01, k02, k03, k04, k05, k06, k07, k08, k09, k10, k11, k12, k13, k14, k15, k16, k17, below_drewN _ _ 1⟩ | exact ⟨k00, k01, k02, k03, k04, k05, k06, k07, k08, k09, k10, k11, k12, k13, k14, k15, k16, k17, Below.refl _ _⟩)
        (first
          | (go_at_call 17; refine (roomCheck_any p1 c1 v r _ (mO.below (by go_split_ands; assumption) (Nat.le_refl _))).mono ?_; rintro e w' ⟨rfl, hb⟩; have hG : Below WT.heap.size WT w' := Below.trans (by go_split_ands; assumption) (hb.mono (Below.size (B := WT.heap.size) (w := WT) (by go_split_ands; assumption))))
          | (go_at_call 18; refine (refCheckR_any p c v r _ (mX.below (by go_split_ands; assumption) (Nat.le_refl _))).mono ?_; rintro e w' ⟨rfl, hb⟩; have hG : Below WT.heap.size WT w' := Below.trans (by go_split_ands; assumption) (hb.mono (Below.size (B := WT.heap.size) (w := WT) (by go_split_ands; assumption))))
          | (go_at_call 19; refine (sameLease_true (xs := X) (ys := Y) (xs' := X) (ys' := Y) rfl rfl rfl rfl rfl rfl rfl (iA.below (by go_split_ands; assumption) (Nat.le_refl _)) (iP.below (by go_split_ands; assumption) (Nat.le_refl _)) (jA.below (by go_split_ands; assumption) (Nat.le_refl _)) (jP.below (by go_split_ands; assumption) (Nat.le_refl _))).mono ?_; rintro e w' ⟨rfl, hb⟩; have hG : Below WT.heap.size WT w' := Below.trans (by go_split_ands; assumption) (hb.mono (Below.size (B := WT.heap.size) (w := WT) (by go_split_ands; assumption))))
          | (go_at_call_of 20 (Value.slice pk K.length ck); refine (sameM_true (u := K) (v := K) rfl rfl rfl (mK.below (by go_split_ands; assumption) (Nat.le_refl _)) (mL.below (by go_split_ands; assumption) (Nat.le_refl _))).mono ?_; rintro e w' ⟨rfl, hw⟩; have hG : Below WT.heap.size WT w' := Below.drewP (by go_split_ands; assumption) hw)
          | (go_at_call_of 20 (Value.slice p1 v.length c1); refine (sameM_true (u := v) (v := v) rfl rfl rfl (mO.below (by go_split_ands; assumption) (Nat.le_refl _)) (mX.below (by go_split_ands; assumption) (Nat.le_refl _))).mono ?_; rintro e w' ⟨rfl, hw⟩; have hG : Below WT.heap.size WT w' := Below.drewP (by go_split_ands; assumption) hw))
      go_wp2_with fail
      go_ret
      exact ⟨rfl, hB.trans (Below.mono (by assumption) hB.size)⟩
end Go.Proofs.Ytojldecldemfaaa
