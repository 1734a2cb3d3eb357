/- The walks of first and near.One, where each who envies is content up to one good. -/
import Derived.Test.YtfagapcihacgkaaNear
namespace Go.Proofs.Ytfagapcihacgkaa
set_option linter.unusedVariables false
set_option linter.unusedSimpArgs false
open Go.ChangeShapes Go.WideShapes Go.ChangeAt Go.RowKit Go.Deep

/-- Good j is k's, and worth at least m for i. -/
def fgP (v : List (List Int)) (a : List Int) (i k : Nat) (m : Int) (j : Nat) : Bool := decide (iget a j = (k : Int) ∧ m ≤ iget (rget v i) j)
set_option maxHeartbeats 4000000 in
set_option maxRecDepth 100000 in
theorem first_any (i k : Nat) (m : Int) (p : Option Addr) (c : Nat) (v : List (List Int)) (q : Option Addr) (d : Nat) (a : List Int) (w : World) (hx : Mat w p c v) (hi : Ints w q d a) (hiv : i < v.length) (hrl : (rget v i).length = a.length) :
    Calls Try.prog 44 #[.agg #[.int .i64 i, .int .i64 k, .int .i64 m], .agg #[.slice p v.length c], .slice q a.length d, .bool true] w fun e w' => e = .returned (.int .i64 (firstN (fgP v a i k m) a.length)) ∧ Below w.heap.size w w' := by
  obtain ⟨Wx, hWx⟩ : ∃ W, w.alloc (.cells #[.int .i64 (i : Int), .int .i64 (k : Int), .int .i64 m] 78) = W := ⟨_, rfl⟩
  have hBx : Below w.heap.size w Wx := below_alloc hWx
  have bT : BoxV Wx w.heap.size [.int .i64 (i : Int), .int .i64 (k : Int), .int .i64 m] := BoxV.new rfl hWx
  obtain ⟨W0, hW0⟩ : ∃ W, Wx.alloc (.cells #[.slice p v.length c] 24) = W := ⟨_, rfl⟩
  have hB0 : Below Wx.heap.size Wx W0 := below_alloc hW0
  have bX : BoxV W0 Wx.heap.size [.slice p v.length c] := BoxV.new rfl hW0
  have bT := bT.below hB0
  have hB : Below w.heap.size w W0 := hBx.trans (hB0.mono hBx.size)
  have hx := (hx.below hBx (Nat.le_refl _)).below hB0 (Nat.le_refl _)
  have hi := (hi.below hBx (Nat.le_refl _)).below hB0 (Nat.le_refl _)
  have hxs : Wx.heap.size = w.heap.size + 1 := by rw [← hWx]; simp
  rw [hxs] at bX
  have t0 := bT.cell 0 _ rfl
  have t1 := bT.cell 1 _ rfl
  have t2 := bT.cell 2 _ rfl
  have x0 := bX.cell 0 _ rfl
  have HWx := Lib.hid hWx
  have HW0 := Lib.hid hW0
  clear hWx hW0 hBx hB0 hxs
  have hl1 := hx.length_le
  have hl2 := hi.length_le
  have Hrl := Lib.hid hrl
  clear hrl
  obtain ⟨b, o, rfl, _, qi, di, hc0, hr0⟩ := hx.get hiv
  have hiv1 : (i : Int) < v.length := by omega
  go_enter Try.func44, Try.ntmps44
  go_wp2_with fail
  rw [HWx.out, HW0.out]
  go_loopw [13] (fun t wr => ∃ j : Nat, j ≤ a.length ∧ t = .int .i64 j ∧ Hid (∀ s, s < j → fgP v a i k m s = false) ∧ ∃ n, wr = W0.drewN n) (fun t _ => a.length - (intOf t).toNat)
  case atStart => exact ⟨0, Nat.zero_le _, rfl, (fun s hs => absurd hs (Nat.not_lt_zero s)), drew_refl _⟩
  case round =>
    obtain ⟨j, hj, rfl, ht, hw⟩ := hrel
    have hi := hi.drew hw
    have hr0 := hr0.drew hw
    have t0 : wr.cell? ⟨w.heap.size, 0, none⟩ = some (.int .i64 (i : Int)) := by obtain ⟨n, rfl⟩ := hw; exact t0
    have t1 : wr.cell? ⟨w.heap.size, 1, none⟩ = some (.int .i64 (k : Int)) := by obtain ⟨n, rfl⟩ := hw; exact t1
    have t2 : wr.cell? ⟨w.heap.size, 2, none⟩ = some (.int .i64 m) := by obtain ⟨n, rfl⟩ := hw; exact t2
    have x0 : wr.cell? ⟨w.heap.size + 1, 0, none⟩ = some (.slice (some ⟨b, o, none⟩) v.length c) := by obtain ⟨n, rfl⟩ := hw; exact x0
    have hc0 : wr.cell? ⟨b, o + i, none⟩ = some (.slice qi (rget v i).length di) := by obtain ⟨n, rfl⟩ := hw; exact hc0
    have Hw := Lib.hid hw
    clear hw
    by_cases hlt : j < a.length
    · have hj1 : (j : Int) < a.length := by omega
      obtain ⟨b2, o2, rfl, _, hc2⟩ := hi.get hlt
      have hjr : j < (rget v i).length := by rw [Hrl.out]; exact hlt
      have hj2 : (j : Int) < (rget v i).length := by omega
      obtain ⟨b3, o3, rfl, _, hc3⟩ := hr0.get hjr
      have HP : Hid (fgP v a i k m j = decide (iget a j = (k : Int) ∧ m ≤ iget (rget v i) j)) := rfl
      obtain ⟨y, ey⟩ : ∃ y, iget (rget v i) j = y := ⟨_, rfl⟩
      obtain ⟨z, ez⟩ : ∃ z, iget a j = z := ⟨_, rfl⟩
      rw [ey] at hc3 HP
      rw [ez] at hc2 HP
      clear ey ez hjr
      by_cases he : z = (k : Int)
      · have hb : (z == (k : Int)) = true := by simpa using he
        cases hm : decide (m ≤ y) with
        | true =>
          have HR : Hid (fgP v a i k m j = true) := by unfold Hid; rw [HP.out]; simp at hm; simp [he, hm]
          clear he
          go_wp2_with fail
          go_quiet (fail)
          go_wp2_with fail
          go_ret
          exact ⟨ret_int (firstN_of hlt HR.out ht.out).symm, (hB.drewP Hw.out).drewN' _⟩
        | false =>
          have HR : Hid (fgP v a i k m j = false) := by unfold Hid; rw [HP.out]; simp at hm; simp [he]; omega
          clear he
          go_wp2_with fail
          go_quiet (fail)
          go_wp2_with fail
          go_roundw
          case rel => exact ⟨j + 1, by omega, by go_num, snoc_all' ht.out HR.out, drew_drewN _ Hw.out⟩
          case measure => simp [intOf]; omega
      · have hb : (z == (k : Int)) = false := by simpa using he
        have HR : Hid (fgP v a i k m j = false) := by unfold Hid; rw [HP.out]; simp [he]
        clear he
        go_wp2_with fail
        go_quiet (fail)
        go_wp2_with fail
        go_roundw
        case rel => exact ⟨j + 1, by omega, by go_num, snoc_all' ht.out HR.out, drew_drewN _ Hw.out⟩
        case measure => simp [intOf]; omega
    · have hj1 : ¬ (j : Int) < a.length := by omega
      go_wp2_with fail
      go_ret
      exact ⟨ret_int (firstN_none (fun s hs => ht.out s (by omega))).symm, hB.drewP Hw.out⟩

theorem tget_of {xs : List Trip} {j : Nat} (h : j < xs.length) : tget xs j = xs[j] := by simp [tget, h]
/-- Each who envies is content up to one good. -/
def CalmOne (v : List (List Int)) (a : List Int) : Prop := ∀ t ∈ envT v a, anyN (fgP v a t.1 t.2.1 t.2.2) a.length = true
set_option maxHeartbeats 8000000 in
set_option maxRecDepth 100000 in
theorem nearOne_calm (p : Option Addr) (c : Nat) (v : List (List Int)) (q : Option Addr) (d : Nat) (a : List Int) (w : World) (hx : Mat w p c v) (hi : Ints w q d a) (hF : chkA v a = 0) (hC : CalmOne v a) :
    Calls Try.prog 31 #[.agg #[.slice p v.length c], .slice q a.length d] w fun e w' => ∃ pm n cm, e = .returned (.tuple #[.slice pm n cm, .slice none 0 0, .int .i64 0]) ∧ Below w.heap.size w w' := by
  obtain ⟨W0, hW0⟩ : ∃ W0, w.alloc (.cells #[.slice p v.length c] 24) = W0 := ⟨_, rfl⟩
  have hB : Below w.heap.size w W0 := below_alloc hW0
  have bX : BoxV W0 w.heap.size [.slice p v.length c] := BoxV.new rfl hW0
  have hx := hx.below hB (Nat.le_refl _)
  have hi := hi.below hB (Nat.le_refl _)
  have x0 := bX.cell 0 _ rfl
  have HW0 := Lib.hid hW0
  clear hW0
  have hl1 := hx.length_le
  have hl2 := hi.length_le
  obtain ⟨hg, ha⟩ := chkA_zero.1 hF
  have C1 := Lib.hid (fun W hX hI => nearEnvies_any p c v q d a W hX hI hF)
  have h66 : v.length * v.length ≤ 6 * 6 := Nat.mul_le_mul hg.2.1 hg.2.1
  have hTl : (envT v a).length ≤ 36 := by have := prTo_len (gP v a) v.length v.length; unfold envT; rw [List.length_map]; omega
  have hIn : ∀ t ∈ envT v a, t.1 < v.length := fun t ht => by
    unfold envT at ht
    obtain ⟨x, hx, rfl⟩ := List.mem_map.1 ht
    exact (prTo_mem.1 hx).1
  have Hrow := Lib.hid (fun i (h : i < v.length) => ((hg.2.2.2 i h).1.trans ha.1.symm : (rget v i).length = a.length))
  unfold CalmOne at hC
  obtain ⟨T, eT⟩ : ∃ T, envT v a = T := ⟨_, rfl⟩
  rw [eT] at C1 hTl hIn hC
  have HIn := Lib.hid hIn
  have HC := Lib.hid hC
  clear hg ha hF hIn hC eT
  go_enter Try.func31, Try.ntmps31
  go_wp2_with fail
  rw [HW0.out]
  refine (C1.out _ hx hi).mono ?_
  rintro e w1 ⟨pe, ce, rfl, oT, hb1⟩
  replace hx := hx.below hb1 (Nat.le_refl _)
  replace hi := hi.below hb1 (Nat.le_refl _)
  replace bX := bX.below hb1
  replace hB := hB.trans (hb1.mono hB.size)
  clear hb1 C1 x0
  have hcap := oT.cap
  obtain ⟨B, hBB⟩ : ∃ B, w1.heap.size = B := ⟨_, rfl⟩
  have HBB := Lib.hid hBB
  have hwB : w.heap.size ≤ B := by have := hB.size; omega
  have hlX := bX.lt
  rw [hBB] at hlX
  clear hBB
  go_wp2_with fail
  go_loopw [4, 5, 22] (fun s u t wr => ∃ k : Nat, k ≤ T.length ∧ t = .int .i64 k ∧ u = .slice none 0 0 ∧ (∃ zs q d, Hid ((zs : List Trip).length = k) ∧ s = .slice q zs.length d ∧ OwnT 81 wr B q d zs) ∧ Below B w1 wr) (fun _ _ t _ => T.length - (intOf t).toNat)
  case atStart => exact ⟨0, Nat.zero_le _, rfl, rfl, ⟨[], none, 0, rfl, rfl, OwnT.ofNil _ _⟩, Below.refl _ _⟩
  case round =>
    obtain ⟨k, hk, rfl, rfl, ⟨zs, qz, dz, hz, rfl, hO⟩, hbr⟩ := hrel
    by_cases hlt : k < T.length
    · have hk1 : (k : Int) < T.length := by omega
      obtain ⟨ge, rfl, _, _, hc0, hc1, hc2⟩ := (oT.below hbr (Nat.le_of_eq HBB.out)).get hlt
      have hmem : tget T k ∈ T := by rw [tget_of hlt]; exact List.getElem_mem hlt
      have h1 := HIn.out _ hmem
      have h2 := HC.out _ hmem
      obtain ⟨i, ei⟩ : ∃ i, (tget T k).1 = i := ⟨_, rfl⟩
      obtain ⟨j, ej⟩ : ∃ j, (tget T k).2.1 = j := ⟨_, rfl⟩
      obtain ⟨m, em⟩ : ∃ m, (tget T k).2.2 = m := ⟨_, rfl⟩
      rw [ei] at hc0 h1 h2
      rw [ej] at hc1 h2
      rw [em] at hc2 h2
      obtain ⟨x, ex, hxa, _, _⟩ := firstN_lt h2
      have hszB := hbr.size
      rw [HBB.out] at hszB
      obtain ⟨W1, hW1⟩ : ∃ W, wr.alloc (.cells #[.int .i64 (i : Int), .int .i64 (j : Int), .int .i64 m] 78) = W := ⟨_, rfl⟩
      have hb1 : Below wr.heap.size wr W1 := below_alloc hW1
      have bP : BoxV W1 wr.heap.size [.int .i64 (i : Int), .int .i64 (j : Int), .int .i64 m] := BoxV.new rfl hW1
      have p0 := bP.cell 0 _ rfl
      have p1 := bP.cell 1 _ rfl
      have p2 := bP.cell 2 _ rfl
      have hbw : Below B w1 W1 := hbr.trans (hb1.mono hszB)
      have x0 := (bX.below (by rw [HBB.out]; exact hbw)).cell 0 _ rfl
      have CF := first_any i j m p c v q d a W1 (hx.below hbw (Nat.le_of_eq HBB.out)) (hi.below hbw (Nat.le_of_eq HBB.out)) h1 (Hrow.out i h1)
      rw [ex] at CF
      have CF := Lib.hid CF
      have x0' := x0
      rw [← hW1] at x0'
      have HW1 := Lib.hid hW1
      have hszW : B ≤ W1.heap.size := Nat.le_trans hszB hb1.size
      have hzl : zs.length ≤ 900000 := by rw [hz.out]; omega
      have HO1 := Lib.hid (hO.below hb1 (Nat.le_refl _))
      clear ei ej em ex h1 h2 hmem hO hW1 hb1
      go_wp2_with fail
      rw [HW1.out]
      refine CF.out.mono ?_
      rintro e w2 ⟨rfl, hbC⟩
      have bP := bP.below hbC
      have p0 := bP.cell 0 _ rfl
      have p1 := bP.cell 1 _ rfl
      have hO2 := HO1.out.below hbC (Nat.le_refl _)
      have hsz2 : B ≤ w2.heap.size := Nat.le_trans hszW hbC.size
      have hbw2 := hbw.trans (hbC.mono hszW)
      have hx0 : (0 : Int) ≤ (x : Int) := by omega
      go_wp2_with (at_builtin; refine wpList_appT rfl (.tmp 32) (.tmp 39) 58 rfl (by kernel_rfl) (by kernel_rfl) B _ _ zs i j (x : Int) rfl rfl rfl hO2 hzl hsz2 ?_; intro p3 c3 w3 u3 hu3 hO3 hg3 hf3)
      go_roundw
      case rel => exact ⟨k + 1, by omega, by go_num, rfl, ⟨u3, _, _, by unfold Hid; rw [hu3.out, List.length_append, hz.out]; rfl, rfl, hO3⟩, hbw2.grown hg3 hsz2 (fun k' e => (hO2.lt k' e).1)⟩
      case measure => simp [intOf]; omega
    · have hk1 : ¬ (k : Int) < T.length := by omega
      go_wp2_with fail
      go_ret3
      exact ⟨⟨qz, zs.length, dz, rfl⟩, hB.trans (hbr.mono hwB)⟩
end Go.Proofs.Ytfagapcihacgkaa
