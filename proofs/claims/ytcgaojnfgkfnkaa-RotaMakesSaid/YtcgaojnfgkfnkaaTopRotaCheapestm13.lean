/- The walk of the reference's costs: the table over sets of shifts, for at most 7 agents. -/
import Derived.Test.YtcgaojnfgkfnkaaTopRotaCheapestm12
import Derived.Test.YtcgaojnfgkfnkaaTopRotaCheapestm7
import Derived.Test.YtcgaojnfgkfnkaaTopRotaCheapestm2
import Derived.Test.YtcgaojnfgkfnkaaTopRotaCheapestm8
import Derived.ArgAppend
/- The walk of the reference's costs: the table over sets of shifts, for at most 7 agents. -/
namespace Go.Proofs.Ytcgaojnfgkfnkaa
set_option linter.unusedVariables false
set_option linter.unusedSimpArgs false
open Go.ChangeShapes Go.WideShapes Go.ChangeAt Go.RowKit Go.Deep

theorem pcN_le : ∀ n s, pcN n s ≤ n
  | 0, _ => Nat.le_refl _
  | n + 1, s => by have := pcN_le n s; have := bt_le s n; simp only [pcN]; omega
theorem i64_and1 (n : Int) : bits .and .i64 n 1 = n % 2 := by
  have h1 : (BitVec.ofInt 64 1).toNat = 2 ^ 1 - 1 := by decide
  have key : (BitVec.ofInt 64 n &&& BitVec.ofInt 64 1).toNat = (n % ((2 ^ 64 : Nat) : Int)).toNat % 2 ^ 1 := by
    rw [BitVec.toNat_and, BitVec.toNat_ofInt, h1, Nat.and_two_pow_sub_one_eq_mod]
  show IntKind.i64.wrap ((BitVec.ofInt 64 n &&& BitVec.ofInt 64 1).toNat : Nat) = n % 2
  rw [key, IntKind.wrap_i64]
  omega
theorem bt_int (s k : Nat) : bits BinOp.and IntKind.i64 ((s : Int) / 2 ^ k) 1 = ((bt s k : Nat) : Int) := by
  rw [i64_and1]; unfold bt; simp
set_option maxHeartbeats 8000000 in
set_option maxRecDepth 100000 in
theorem costs_any (p : Option Addr) (c : Nat) (v : List (List Int)) (w : World) (hx : Mat w p c v) (hv : CountsP v) (h7 : v.length ≤ 7) :
    Calls Try.prog 49 #[.slice p v.length c] w fun e w' => ∃ g T, e = .returned (.slice (some ⟨g, 0, none⟩) (2 ^ v.length) (2 ^ v.length)) ∧ RowF w' g (2 ^ v.length) (iF T) ∧ (Tab v.length (bid v) T ∧ ∀ s, s < 2 ^ v.length → 0 ≤ T s ∧ T s ≤ 1000 * s) ∧ Below w.heap.size w w' := by
  have hl := hx.length_le
  obtain ⟨N, eN⟩ : ∃ N : Nat, 2 ^ v.length = N := ⟨_, rfl⟩
  have hN : 1 ≤ N ∧ N ≤ 128 := by rw [← eN]; exact ⟨Nat.pow_pos (by omega), pow_128 h7⟩
  have hw0 : wrap64 ((2 : Int) ^ v.length) = (N : Int) := by
    have e : ((2 : Int) ^ v.length) = ((2 ^ v.length : Nat) : Int) := by simp
    have e2 := IntWalk.wrap64_in (N : Int) (by omega)
    rw [e, eN]; exact e2
  have mkI : (Instr.makeSlice 23 (.int .i64 (N : Int)) (.int .i64 (N : Int))).run Try.prog w = .ok (.slice (some ⟨w.heap.size, 0, none⟩) N N) (w.alloc (.cells (zI N) 3)) := run_zI _ (by omega) w
  obtain ⟨W1, hW1⟩ : ∃ W, w.alloc (.cells (zI N) 3) = W := ⟨_, rfl⟩
  have hb1 := below_alloc hW1
  have r1 : RowF W1 w.heap.size N (iF fun _ => 0) := by rw [← hW1]; exact RowF.new fun k hk => zI_get hk
  go_enter Try.func49, Try.ntmps49
  go_wp2_with fail
  clear hW1 mkI
  go_loopw [5] (fun kk wk => ∃ (s : Nat) (T : Nat → Int), 1 ≤ s ∧ s ≤ N ∧ kk = .int .i64 s ∧ Hid (TabTo v.length (bid v) T s) ∧ RowF wk w.heap.size N (iF T) ∧ Below w.heap.size w wk) (fun kk _ => N - (intOf kk).toNat)
  case atStart => exact ⟨1, _, by omega, by omega, rfl, TabTo.one _ _, r1, hb1⟩
  case round =>
    clear r1 hb1
    obtain ⟨s, T, hs1, hsN, rfl, hT, hR, hB⟩ := hrel
    by_cases hs : s < N
    · have hs2 : (s : Int) < N := by omega
      go_wp2_with fail
      go_loopw [6, 7] (fun aa kk wk => ∃ k : Nat, k ≤ v.length ∧ kk = .int .i64 k ∧ aa = .int .i64 (pcN k s : Nat) ∧ wk = wr) (fun _ kk _ => v.length - (intOf kk).toNat)
      case atStart => exact ⟨0, by omega, rfl, rfl, rfl⟩
      case round =>
        obtain ⟨k, hk, rfl, rfl, rfl⟩ := hrel
        by_cases hkl : k < v.length
        · have hk2 : (k : Int) < v.length := by omega
          have hbt := bt_int s k
          have hb1 := bt_le s k
          have hpc : pcN k s ≤ k := pcN_le k s
          have hw : wrap64 ((pcN k s : Int) + (bt s k : Int)) = ((pcN (k + 1) s : Nat) : Int) := by
            have e : (pcN k s : Int) + (bt s k : Int) = ((pcN (k + 1) s : Nat) : Int) := by simp [pcN]
            have e2 := IntWalk.wrap64_in ((pcN (k + 1) s : Nat) : Int) (by simp only [pcN]; omega)
            rw [e]; exact e2
          go_wp2_with fail
          go_roundw
          case rel => exact ⟨k + 1, by omega, by go_num, (by simp [pcN]), (by first | rfl | trivial)⟩
          case measure => simp [intOf]; omega
        · obtain rfl : k = v.length := by omega
          have hk2 : ¬ ((v.length : Nat) : Int) < v.length := by omega
          obtain ⟨pc, epc⟩ : ∃ x, pcN v.length s = x := ⟨_, rfl⟩
          have Epc := Lib.hid epc
          rw [epc]
          clear epc
          go_wp2_with fail
          go_loopw [8, 9] (fun bb kk wk => ∃ (k : Nat) (b : Int), k ≤ v.length ∧ kk = .int .i64 k ∧ bb = .int .i64 b ∧ Hid (BestP v.length (bid v) T s k b) ∧ RowF wk w.heap.size N (iF T) ∧ Below w.heap.size w wk) (fun _ kk _ => v.length - (intOf kk).toNat)
          case atStart => exact ⟨0, -1, by omega, rfl, rfl, BestP.zero _ _ _ _, hR, hB⟩
          case round =>
            clear hR hB
            obtain ⟨k, b, hk, rfl, rfl, hBp, hR, hB⟩ := hrel
            by_cases hkl : k < v.length
            · have hk2 : (k : Int) < v.length := by omega
              have hbt := bt_int s k
              by_cases hb : bt s k = 1
              · have hbt1 : bits BinOp.and IntKind.i64 ((s : Int) / 2 ^ k) 1 = 1 := by rw [hbt, hb]; rfl
                clear hbt
                have hK := (bt_all s (by omega) k (by omega) hb).1
                have hps := pcN_sub (show s < 128 by omega) (show k < 7 by omega) hb v.length h7
                rw [if_pos hkl, Epc.out] at hps
                have hpn : pc ≤ v.length := by rw [← Epc.out]; exact pcN_le _ _
                have hKp : 0 < 2 ^ k := Nat.pow_pos (by omega)
                obtain ⟨K, eK⟩ : ∃ K : Nat, 2 ^ k = K := ⟨_, rfl⟩
                obtain ⟨d, ed⟩ : ∃ d, s - K = d := ⟨_, rfl⟩
                obtain ⟨a, ea⟩ : ∃ a, v.length - pc = a := ⟨_, rfl⟩
                rw [eK] at hK hKp
                have ha : a < v.length := by omega
                have hwd : IntKind.i64.wrap ((s : Int) - K) = d := by rw [show (s : Int) - K = d by omega]; exact IntWalk.i64_in _ (by omega)
                have hwa : IntKind.i64.wrap ((v.length : Int) - pc) = a := by rw [show (v.length : Int) - pc = a by omega]; exact IntWalk.i64_in _ (by omega)
                obtain ⟨bb, oo, rfl, _, qr, dr, hcr, hir⟩ := (hx.below hB (Nat.le_refl _)).get ha
                rw [hv.row a ha] at hcr
                obtain ⟨bq, oq, rfl, _, hcc⟩ := hir.get (j := k) (by rw [hv.row a ha]; exact hkl)
                have hX := hv.cb a k ha hkl
                have cT : wr.cell? ⟨w.heap.size, d, none⟩ = some (.int .i64 (T d)) := hR.cell d (by omega)
                have hTd := hT.out.bd d (by omega)
                have Hx : Hid (T (s - 2 ^ k) + bid v (v.length - pcN v.length s) k = T d + bid v a k) := by unfold Hid; rw [Epc.out, ea, eK, ed]
                obtain ⟨X, eX'⟩ : ∃ X, iget (rget v a) k = X := ⟨_, rfl⟩
                have eX : bid v a k = X := eX'
                obtain ⟨Y, eY⟩ : ∃ Y, T d = Y := ⟨_, rfl⟩
                rw [eX'] at hcc
                rw [eX] at hX Hx
                rw [eY] at cT hTd Hx
                have hws : IntKind.i64.wrap (Y + X) = Y + X := IntWalk.i64_in _ (by omega)
                have hd1 : (d : Int) < N := by omega
                have ha1 : (a : Int) < v.length := by omega
                have h0 : 0 ≤ Y + X := by omega
                have hwK : wrap64 ((2 : Int) ^ k) = (K : Int) := by
                  have e : ((2 : Int) ^ k) = ((2 ^ k : Nat) : Int) := by simp
                  have e2 := IntWalk.wrap64_in (K : Int) (by omega)
                  rw [e, eK]; exact e2
                clear hps hpn hK hKp eK ed ea hir hX hTd eX eX' eY
                go_wp2_with fail
                go_quiet (fail)
                have hR2 : RowF (wr.drewN nq) w.heap.size N (iF T) := hR.below (below_drewN _ _ _) hR.lt
                have hB2 := hB.drewN' nq
                clear hcr hcc cT
                by_cases hb0 : b < 0
                · have hBp2 : Hid (BestP v.length (bid v) T s (k + 1) (Y + X)) := hBp.out.take hb Hx.out.symm h0 (.inl hb0)
                  clear hBp
                  go_wp2_with fail
                  go_roundw
                  case rel => exact ⟨k + 1, Y + X, by omega, by go_num, rfl, hBp2, hR2, hB2⟩
                  case measure => simp [intOf]; omega
                · have hb1 : decide (b < 0) = false := by simpa using hb0
                  by_cases hlt : Y + X < b
                  · have hBp2 : Hid (BestP v.length (bid v) T s (k + 1) (Y + X)) := hBp.out.take hb Hx.out.symm h0 (.inr hlt)
                    clear hBp
                    go_wp2_with fail
                    go_roundw
                    case rel => exact ⟨k + 1, Y + X, by omega, by go_num, rfl, hBp2, hR2, hB2⟩
                    case measure => simp [intOf]; omega
                  · have hBp2 : Hid (BestP v.length (bid v) T s (k + 1) b) := hBp.out.keep Hx.out.symm hb0 hlt
                    clear hBp
                    go_wp2_with fail
                    go_roundw
                    case rel => exact ⟨k + 1, b, by omega, by go_num, rfl, hBp2, hR2, hB2⟩
                    case measure => simp [intOf]; omega
              · have hb' : bt s k = 0 := by have := bt_le s k; omega
                have hbt1 : bits BinOp.and IntKind.i64 ((s : Int) / 2 ^ k) 1 = 0 := by rw [hbt, hb']; rfl
                have hBp2 : Hid (BestP v.length (bid v) T s (k + 1) b) := hBp.out.no hb'
                clear hbt hb hb' hBp
                go_wp2_with fail
                go_roundw
                case rel => exact ⟨k + 1, b, by omega, by go_num, rfl, hBp2, hR, hB⟩
                case measure => simp [intOf]; omega
            · obtain rfl : k = v.length := by omega
              have hk2 : ¬ ((v.length : Nat) : Int) < v.length := by omega
              have cT : wr.cell? ⟨w.heap.size, s, none⟩ = some (.int .i64 (T s)) := hR.cell s hs
              have fT : wr.frozen? ⟨w.heap.size, s, none⟩ = false := hR.live s hs
              obtain ⟨hb0, hT2⟩ := hT.out.next h7 (by omega) (by rw [eN]; exact hs) (fun a k ha hk => hv.cb a k ha hk) hBp.out
              have HT2 := Lib.hid hT2
              have hR2 := hR.set (.int .i64 b) hs
              rw [iF_upd] at hR2
              have hB2 := hB.setCell (p := ⟨w.heap.size, s, none⟩) (Nat.le_refl _) (.int .i64 b)
              clear hT2 hBp hT hR hB
              go_wp2_with fail
              go_roundw
              case rel => exact ⟨s + 1, by omega, by omega, by go_num, _, HT2, hR2⟩
              case measure => simp [intOf]; omega
    · obtain rfl : s = N := by omega
      have hs2 : ¬ ((s : Nat) : Int) < (s : Int) := by omega
      have hTab : Hid (Tab v.length (bid v) T ∧ ∀ k, k < s → 0 ≤ T k ∧ T k ≤ 1000 * k) := ⟨(by have h := hT.out; rw [← eN] at h; exact h.tab), hT.out.bd⟩
      clear hT
      go_wp2_with fail
      go_ret
      exact ⟨w.heap.size, rfl, T, hR, hTab.out, hB⟩
end Go.Proofs.Ytcgaojnfgkfnkaa

/- The walk of the reference's Week: the first week of the least cost, for at most 7 agents. -/
namespace Go.Proofs.Ytcgaojnfgkfnkaa
set_option linter.unusedVariables false
set_option linter.unusedSimpArgs false
open Go.ChangeShapes Go.WideShapes Go.ChangeAt Go.RowKit Go.Deep

set_option maxHeartbeats 8000000 in
set_option maxRecDepth 100000 in
theorem week_any (p : Option Addr) (c : Nat) (v : List (List Int)) (w : World) (hx : Mat w p c v) (hv : CountsP v) (h7 : v.length ≤ 7) :
    Calls Try.prog 35 #[.slice p v.length c] w fun e w' => IsWeek v (weekA v) ∧ Gives w (weekA v) e w' := by
  have hl := hx.length_le
  obtain ⟨N, eN⟩ : ∃ N : Nat, 2 ^ v.length = N := ⟨_, rfl⟩
  have hN : 1 ≤ N ∧ N ≤ 128 := by rw [← eN]; exact ⟨Nat.pow_pos (by omega), pow_128 h7⟩
  have C0 := costs_any p c v w hx hv h7
  rw [eN] at C0
  have CC := Lib.hid C0
  have EN := Lib.hid eN
  have hwN : IntKind.i64.wrap ((N : Int) - 1) = ((N - 1 : Nat) : Int) := by rw [show (N : Int) - 1 = ((N - 1 : Nat) : Int) by omega]; exact IntWalk.i64_in _ (by omega)
  clear C0 eN
  go_enter Try.func35, Try.ntmps35
  go_wp2_with fail
  refine CC.out.mono ?_
  rintro e w1 ⟨g, T, rfl, hR, ⟨hTab, hbd⟩, hb1⟩
  have HTab := Lib.hid hTab
  have Hbd := Lib.hid hbd
  have hx1 := hx.below hb1 (Nat.le_refl _)
  have hg := hR.lt
  have HW0 : Hid (Wk v.length (bid v) T [] 0 (N - 1)) := by unfold Hid; rw [← EN.out]; exact Wk.zero h7
  have Hb1 := Lib.hid hb1
  clear hTab hbd hb1 CC hx
  go_wp2_with fail
  go_loopw [4, 5, 6] (fun ss oo kk wk => ∃ i s : Nat, i ≤ v.length ∧ kk = .int .i64 i ∧ ss = .int .i64 s ∧ (∃ x q d, Hid (Wk v.length (bid v) T x i s) ∧ oo = .slice q (x : List Int).length d ∧ Own wk w1.heap.size q d x) ∧ Below w1.heap.size w1 wk) (fun _ _ kk _ => v.length - (intOf kk).toNat)
  case atStart => exact ⟨0, N - 1, by omega, rfl, rfl, ⟨[], none, 0, HW0, rfl, Own.ofNil _ _⟩, Below.refl _ _⟩
  case round =>
    obtain ⟨i, s, hi, rfl, rfl, ⟨x, q, d, hW, rfl, hO⟩, hb⟩ := hrel
    by_cases hin : i < v.length
    · have hi1 : (i : Int) < v.length := by omega
      have hsN : s < N := by have := hW.out.lt; rw [EN.out] at this; exact this
      have hxl := hW.out.len
      have Hxl := Lib.hid hxl
      have hxl9 : x.length ≤ 900000 := by omega
      clear hxl
      go_wp2_with fail
      go_loopw [4, 5, 7] (fun ss oo kk wk => ∃ k : Nat, k ≤ v.length ∧ kk = .int .i64 k ∧ ss = .int .i64 (s : Int) ∧ oo = .slice q x.length d ∧ Hid (∀ j, j < k → bt s j = 1 → T s ≠ T (s - 2 ^ j) + bid v i j) ∧ Own wk w1.heap.size q d x ∧ Below w1.heap.size w1 wk) (fun _ _ kk _ => v.length - (intOf kk).toNat)
      case atStart => exact ⟨0, by omega, rfl, rfl, rfl, fun j h => absurd h (Nat.not_lt_zero j), hO, hb⟩
      case round =>
        clear hO hb
        obtain ⟨k, hk, rfl, rfl, rfl, hF, hO, hb⟩ := hrel
        by_cases hkl : k < v.length
        · have hk2 : (k : Int) < v.length := by omega
          have hbt := bt_int s k
          by_cases hb1 : bt s k = 1
          · have hbt1 : bits BinOp.and IntKind.i64 ((s : Int) / 2 ^ k) 1 = 1 := by rw [hbt, hb1]; rfl
            clear hbt
            have hK := (bt_all s (by omega) k (by omega) hb1).1
            have hKp : 0 < 2 ^ k := Nat.pow_pos (by omega)
            obtain ⟨K, eK⟩ : ∃ K : Nat, 2 ^ k = K := ⟨_, rfl⟩
            obtain ⟨t, et⟩ : ∃ t, s - K = t := ⟨_, rfl⟩
            rw [eK] at hK hKp
            have hwd : IntKind.i64.wrap ((s : Int) - K) = t := by rw [show (s : Int) - K = t by omega]; exact IntWalk.i64_in _ (by omega)
            obtain ⟨bb, oo, rfl, _, qr, dr, hcr, hir⟩ := (hx1.below hb (Nat.le_refl _)).get hin
            rw [hv.row i hin] at hcr
            obtain ⟨bq, oq, rfl, _, hcc⟩ := hir.get (j := k) (by rw [hv.row i hin]; exact hkl)
            have hX := hv.cb i k hin hkl
            have hRr := hR.below hb hg
            have cS : wr.cell? ⟨g, s, none⟩ = some (.int .i64 (T s)) := hRr.cell s hsN
            have cT : wr.cell? ⟨g, t, none⟩ = some (.int .i64 (T t)) := hRr.cell t (by omega)
            have hTd := Hbd.out t (by omega)
            have Hx : Hid ((T s = T (s - 2 ^ k) + bid v i k) ↔ (T s = T t + bid v i k)) := by unfold Hid; rw [eK, et]
            have Ht : Hid (s - 2 ^ k = t) := by unfold Hid; rw [eK, et]
            obtain ⟨X, eX'⟩ : ∃ X, iget (rget v i) k = X := ⟨_, rfl⟩
            have eX : bid v i k = X := eX'
            obtain ⟨Y, eY⟩ : ∃ Y, T t = Y := ⟨_, rfl⟩
            obtain ⟨Z, eZ⟩ : ∃ Z, T s = Z := ⟨_, rfl⟩
            rw [eX'] at hcc
            have Hx2 : Hid ((T s = T (s - 2 ^ k) + bid v i k) ↔ Z = Y + X) := by unfold Hid; rw [Hx.out, eX, eY, eZ]
            rw [eX] at hX
            rw [eY] at cT hTd
            rw [eZ] at cS
            have hws : IntKind.i64.wrap (Y + X) = Y + X := IntWalk.i64_in _ (by omega)
            have hd1 : (t : Int) < N := by omega
            have hs1 : (s : Int) < N := by omega
            have hk64 : in64 (k : Int) := ⟨by omega, by omega⟩
            have hszr := hb.size
            by_cases hm : Z = Y + X
            · have hq : (Z == Y + X) = true := by simpa using hm
              have HN : Hid (Wk v.length (bid v) T (x ++ [(k : Int)]) (i + 1) t) := by
                unfold Hid; rw [← Ht.out]
                exact hW.out.next h7 hin hkl hb1 (Hx2.out.2 hm) hF.out
              have hwK : wrap64 ((2 : Int) ^ k) = (K : Int) := by
                have e : ((2 : Int) ^ k) = ((2 ^ k : Nat) : Int) := by simp
                have e2 := IntWalk.wrap64_in (K : Int) (by omega)
                rw [e, eK]; exact e2
              clear hK hKp eK et hir hX hTd eX eX' eY eZ Hx Hx2 hRr hm hW hF Ht
              go_wp2_with fail
              go_quiet (fail)
              have hO2 := hO.drewN nq
              have hb2 := hb.drewN' nq
              have hsz2 := hb2.size
              clear hcr hcc cT cS
              go_wp2_with (at_builtin; refine wpList_app1 rfl (.tmp 52) (.tmp 54) rfl w1.heap.size _ _ x (k : Int) rfl rfl rfl hO2 hk64 hxl9 hsz2 ?_; intro p3 c3 w3 u3 hu3 hO3 hg3 hf3)
              have hb3 : Below w1.heap.size w1 w3 := hb2.grown hg3 hsz2 (fun k' e => (hO2.lt k' e).1)
              have HN3 : Hid (Wk v.length (bid v) T u3 (i + 1) t) := by rw [hu3.out]; exact HN
              go_roundw
              case rel => first | exact ⟨i + 1, t, by omega, by go_num, rfl, ⟨u3, _, _, HN3, rfl, hO3⟩, hb3⟩ | exact ⟨i + 1, by omega, by go_num, ⟨u3, _, _, HN3, rfl, hO3⟩, hb3⟩ | exact ⟨i + 1, by omega, by go_num, ⟨u3, HN3, _, _, ⟨rfl, rfl⟩, hO3⟩, hb3⟩
              case measure => simp [intOf]; omega
            · have hq : (Z == Y + X) = false := by rw [beq_eq_false_iff_ne]; exact hm
              have hF2 : Hid (∀ j, j < k + 1 → bt s j = 1 → T s ≠ T (s - 2 ^ j) + bid v i j) := snoc_all' hF.out (fun _ h => hm (Hx2.out.1 h))
              have hwK : wrap64 ((2 : Int) ^ k) = (K : Int) := by
                have e : ((2 : Int) ^ k) = ((2 ^ k : Nat) : Int) := by simp
                have e2 := IntWalk.wrap64_in (K : Int) (by omega)
                rw [e, eK]; exact e2
              clear hK hKp eK et hir hX hTd eX eX' eY eZ Hx Hx2 hRr hm hF Ht
              go_wp2_with fail
              go_quiet (fail)
              have hO2 := hO.drewN nq
              have hb2 := hb.drewN' nq
              clear hcr hcc cT cS
              go_wp2_with fail
              go_roundw
              case rel => first | exact ⟨k + 1, by omega, by go_num, rfl, rfl, hF2, hO2, hb2⟩ | exact ⟨k + 1, by omega, by go_num, trivial, trivial, hF2, hO2, hb2⟩ | exact ⟨k + 1, by omega, by go_num, hF2, hO2, hb2⟩
              case measure => simp [intOf]; omega
          · have hb' : bt s k = 0 := by have := bt_le s k; omega
            have hbt1 : bits BinOp.and IntKind.i64 ((s : Int) / 2 ^ k) 1 = 0 := by rw [hbt, hb']; rfl
            have hF2 : Hid (∀ j, j < k + 1 → bt s j = 1 → T s ≠ T (s - 2 ^ j) + bid v i j) := snoc_all' hF.out (fun h _ => hb1 h)
            clear hbt hb1 hb' hF
            go_wp2_with fail
            go_quiet (fail)
            have hO2 := hO.drewN nq
            have hb2 := hb.drewN' nq
            go_wp2_with fail
            go_roundw
            case rel => first | exact ⟨k + 1, by omega, by go_num, rfl, rfl, hF2, hO2, hb2⟩ | exact ⟨k + 1, by omega, by go_num, trivial, trivial, hF2, hO2, hb2⟩ | exact ⟨k + 1, by omega, by go_num, hF2, hO2, hb2⟩
            case measure => simp [intOf]; omega
        · obtain ⟨k', h1, h2, h3⟩ := hW.out.has HTab.out hin
          exact absurd h3 (hF.out k' (by omega) h2)
    · obtain rfl : i = v.length := by omega
      have hk2 : ¬ ((v.length : Nat) : Int) < v.length := by omega
      have hIs : IsWeek v x := hW.out.greedy.week HTab.out h7
      obtain rfl : weekA v = x := weekA_eq hIs
      have HIs := Lib.hid hIs
      clear hIs hW
      go_wp2_with fail
      go_ret
      exact ⟨HIs.out, q, d, rfl, hO.lower Hb1.out.size, Hb1.out.trans (hb.mono Hb1.out.size)⟩
end Go.Proofs.Ytcgaojnfgkfnkaa

/- The walks of the reference's Twin and Follow. -/
namespace Go.Proofs.Ytcgaojnfgkfnkaa
set_option linter.unusedVariables false
set_option linter.unusedSimpArgs false
open Go.ChangeShapes Go.WideShapes Go.ChangeAt Go.RowKit Go.Deep

theorem take_row32 (v : List (List Int)) {k : Nat} (h : k < v.length) : v.take (k + 1) = v.take k ++ [rget v k] := by
  rw [List.take_succ_eq_append_getElem h, rget_of h]
theorem twin_step32 {w wr w2 : World} {p' p2 : Option Addr} {c' : Nat} {v : List (List Int)} {Q : Nat → Option Addr} {D : Nat → Nat} (hb : Below w.heap.size w wr)
    (hD : DMat wr w.heap.size p' c' v Q D) (hg : (wr.alloc (.cells #[] 3)).grownBy w2 (blk (some ⟨wr.heap.size, 0, none⟩))) (hf : Fresh (wr.alloc (.cells #[] 3)) (some ⟨wr.heap.size, 0, none⟩) p2) :
    DMat w2 w.heap.size p' c' v Q D ∧ (∀ j, j < v.length → ∀ b, blk (Q j) = some b → blk p2 ≠ some b) ∧ Below w.heap.size w w2 := by
  have hsz := hb.size
  have hb1 : Below wr.heap.size wr w2 := by
    refine ((Below.refl _ _).alloc (Nat.le_refl _) _).grown hg (by simp) ?_
    intro b hbb
    simp [blk] at hbb; omega
  refine ⟨hD.below hb1 (Nat.le_refl _), ?_, hb.trans (hb1.mono hsz)⟩
  intro j hj b hbq e
  have h1 := (hD.lt j hj b hbq).2
  rcases hf b e with h2 | h2
  · simp [blk] at h2; omega
  · simp at h2; omega
theorem twin_step33 {w w2 w3 : World} {p' : Option Addr} {c' : Nat} {v : List (List Int)} {Q : Nat → Option Addr} {D : Nat → Nat} (hb : Below w.heap.size w w2)
    (hD : DMat w2 w.heap.size p' c' v Q D) (hg : w2.grownBy w3 (blk p')) (hsz : w.heap.size ≤ w2.heap.size) : Below w.heap.size w w3 :=
  hb.grown hg hsz (fun k hk => (hD.tmat.lt k hk).1)
set_option maxHeartbeats 800000 in
theorem twin32_any (p : Option Addr) (c : Nat) (v : List (List Int)) (w : World) (hx : Mat w p c v) (hlen : v.length ≤ 900000) (hrow : ∀ j, j < v.length → (rget v j).length ≤ 900000) :
    Calls Try.prog 37 #[.slice p v.length c] w (GivesD w v) := by
  go_enter Try.func37, Try.ntmps37
  go_wp2
  go_loopw [3, 4] (fun t i wr => ∃ k : Nat, k ≤ v.length ∧ i = .int .i64 k ∧ (∃ u p' c' Q D, Hid (u = v.take k) ∧ t = .slice p' (u : List (List Int)).length c' ∧ DMat wr w.heap.size p' c' u Q D) ∧ Below w.heap.size w wr) (fun _ i _ => v.length - (intOf i).toNat)
  case atStart => exact ⟨0, by omega, rfl, ⟨[], none, 0, fun _ => none, fun _ => 0, rfl, rfl, DMat.ofNil _ _⟩, Below.refl _ _⟩
  case round =>
    obtain ⟨k, hk, rfl, ⟨u, p', c', Q, D, hu, rfl, hD⟩, hb⟩ := hrel
    have hx := hx.below hb (Nat.le_refl _)
    have hl1 := hx.length_le
    by_cases hlt : k < v.length
    · obtain ⟨b, o, rfl, _, q1, d1, hc, hi⟩ := hx.get hlt
      have hk1 : (k : Int) < v.length := by omega
      have hsz := hb.size
      have hr := hrow k hlt
      go_wp2_with (first
        | (at_builtin; refine wpList_app rfl (.tmp 12) (.tmp 16) rfl w.heap.size _ _ _ _ [] (rget v k) rfl rfl (Own.made _ _ hsz) (hi.below ((Below.refl _ _).alloc (Nat.le_refl _) _) (Nat.le_refl _)) (by simp; omega) (by simp; omega) ?_; intro p2 c2 w2 r2 hr2 hO2 hg2 hf2; obtain rfl : r2 = rget v k := hr2.out; obtain ⟨hD2, hn2, hb2⟩ := twin_step32 hb hD hg2 hf2; have hsz2 := hb2.size)
        | (at_builtin; refine wpList_appOwnRow rfl (.tmp 11) (.tmp 18) rfl w.heap.size _ _ _ Q D _ _ (rget v k) rfl rfl rfl hD2 hO2 hn2 (by have := congrArg List.length hu.out; rw [List.length_take] at this; omega) hsz2 ?_; intro p3 c3 w3 u3 hu3 hD3 hg3 hf3))
      have hb3 := twin_step33 hb2 hD2 hg3 hsz2
      go_wp2
      go_roundw
      case rel => exact ⟨k + 1, by omega, by go_num, ⟨_, _, _, _, _, by rw [take_row32 v hlt, ← hu.out]; exact hu3, rfl, hD3⟩, hb3⟩
      case measure => simp [intOf]; omega
    · have hk1 : ¬ (k : Int) < v.length := by omega
      obtain rfl : k = v.length := by omega
      obtain rfl : u = v := by rw [hu.out, List.take_length]
      go_wp2
      go_ret
      exact ⟨_, _, _, _, rfl, hD, hb⟩

/-- What following says, and gives. -/
noncomputable def folE (v : List (List Int)) (n : Int) : Int := if chk32 v ≠ 0 then chk32 v else if n < 0 ∨ 400 < n then 2 else 0
noncomputable def folR (v : List (List Int)) (n : Int) : List (List Int) := if folE v n = 0 then folL v n.toNat else []
theorem folE_chk {v : List (List Int)} {n : Int} (h : chk32 v ≠ 0) : folE v n = chk32 v := if_pos h
theorem folE_arg {v : List (List Int)} {n : Int} (h : chk32 v = 0) (k : n < 0 ∨ 400 < n) : folE v n = 2 := by unfold folE; rw [if_neg (by rw [h]; simp), if_pos k]
theorem folE_ok {v : List (List Int)} {n : Int} (h : chk32 v = 0) (k : ¬ (n < 0 ∨ 400 < n)) : folE v n = 0 := by unfold folE; rw [if_neg (by rw [h]; simp), if_neg k]
theorem folR_bad {v : List (List Int)} {n : Int} (h : folE v n ≠ 0) : folR v n = [] := if_neg h
theorem folR_ok {v : List (List Int)} {m : Nat} (h : folE v m = 0) : folR v m = folL v m := by unfold folR; rw [if_pos h]; simp
def GivesR (w : World) (v : List (List Int)) (k : Int) (e : Ending) (w' : World) : Prop := ∃ p c Q D, e = .returned (.tuple #[.slice p v.length c, .int .i64 k]) ∧ DMat w' w.heap.size p c v Q D ∧ Below w.heap.size w w'
/-- The counts' bounds while weeks are added. -/
theorem cntM_fol {v : List (List Int)} (h : CntM 400 v) (hw : ∀ t, CountsP (cntN v t) → IsWeek (cntN v t) (weekA (cntN v t))) : ∀ t : Nat, t ≤ 500 → CntM (400 + t) (cntN v t)
  | 0, _ => h
  | t + 1, ht => by
    have ih := cntM_fol h hw t (by omega)
    have h2 := ih.addW (hw t (ih.counts (by omega))).1
    exact h2.mono (by omega)
end Go.Proofs.Ytcgaojnfgkfnkaa

/- The walk of rota.Follow, for every counts and every number of weeks. -/
namespace Go.Proofs.Ytcgaojnfgkfnkaa
set_option linter.unusedSimpArgs false
open Go.ChangeShapes Go.WideShapes Go.ChangeAt Go.RowKit Go.Deep
set_option linter.unusedVariables false
attribute [local go_sem] Oper.semAt_some

/-- 'append(s, x)' inside a fence, s the call's own: where its block lies. -/
theorem wpListIn_app1G {F : Fence} {N : Nat} {P : Program} (w : World) {ops : Array Oper} {rest : List Oper} {o : Oper} {a : Act} {Q : Exit → Act → World → Prop}
    (hgd : o.guard = none) (s x : Operand) (t : TypeId) (hop : o.op = Op.call { callee := Callee.builtin Builtin.append, args := #[s, x], argTypes := #[t, t] })
    (base : Nat) (e : TypeId) (i : TypeInfo) (z : Value) (bytes : Nat) (h1 : P.underlying t = some (.slice e)) (h2 : P.info? e = some i) (h3 : i.zero = some z) (h4 : i.size = 1) (h5 : i.bytes = bytes) (h6 : z.cells.size = 1)
    (p : Option Addr) (n c : Nat) (xs : List Value) (hs : a.eval s = .slice p n c) (hown : w.ownsRow base e 1 (.slice p n c) n xs) (ad : Addr) (u : Value) (hx : a.eval x = .slice (some ad) 1 1)
    (hc : w.cell? (ad.add 0) = some u) (h1c : u.oneCell' = true) (b1 : n + 1 ≤ maxLen) (b2 : (n + 1) * bytes ≤ 140737488355328) (b3 : base ≤ w.heap.size)
    (hK : ∀ p' c' w', w'.ownsRow base e 1 (.slice p' (n + 1) c') (n + 1) (xs ++ [u]) → w.grownBy w' (blk p) → Fresh w p p' → wpListIn F N P ops Q rest (a.put o.dst (.slice p' (n + 1) c')) w') :
    wpListIn F N P ops Q (o :: rest) a w := by
  have hcs : ∀ j v, [u][j]? = some v → w.cell? (ad.add j) = some v := fun j v hv => by
    have hj : j = 0 := by have := (List.getElem?_eq_some_iff.1 hv).1; simpa using this
    subst hj
    simp at hv; subst hv; exact hc
  by_cases hroom : n + 1 ≤ c
  · rcases hown.2 with ⟨h1', h2'⟩ | ⟨g, cap, cur, h1', _⟩
    · simp only [Value.slice.injEq] at h1'
      omega
    · simp only [Value.slice.injEq] at h1'
      obtain ⟨rfl, _, rfl⟩ := h1'
      refine wpListIn_append_fits w hgd s x t hop base e i 1 h1 h2 h4 g n c xs hs hown ad 1 1 [u] hx rfl hcs (by simpa using h1c) hroom ?_
      intro w' h2 h3
      exact hK _ _ w' h2 h3 (Fresh.refl _ _)
  · refine wpListIn_plain hgd fun K hK' => ?_
    have fin : ∀ v' w', w'.ownsRow w.heap.size e 1 v' (n + 1) (xs ++ [u]) → w.grownBy w' none → wpListIn F N P ops Q rest (a.put o.dst v') w' := by
      intro v' w' r1 r2
      obtain ⟨p', c', rfl⟩ := own_value r1
      have hlt := r1.lt
      refine hK p' c' w' ⟨r1.1, ?_⟩ ⟨r2.os, r2.tape, r2.output, r2.size, fun k hk _ => r2.block k hk (by simp)⟩ fun k hk => .inr (hlt k (by rw [ownBlock_slice]; exact hk)).1
      rcases r1.2 with h4 | ⟨g, cap, cur, h4, h5, r⟩
      · exact .inl h4
      · exact .inr ⟨g, cap, cur, h4, Nat.le_trans b3 h5, r⟩
    cases p with
    | some b =>
      obtain ⟨v', w', hrun, r1, r2⟩ := run_append_arg_grows (P := P) w t o.type e i z 1 bytes h1 h2 h3 h4 h5 h6 (by decide) b n c xs hown.1 (by
        intro j v hv
        rcases hown.2 with ⟨h1', h2'⟩ | ⟨g, cap, cur, h1', _⟩
        · simp at h1'
        · simp only [Value.slice.injEq, Option.some.injEq] at h1'
          obtain ⟨rfl, _, _⟩ := h1'
          exact hown.cells (g := g) rfl j v hv) ad 1 1 [u] rfl hcs (by omega) b1 b2
      unfold Oper.wpIn
      refine ⟨?_, ?_⟩
      · simp [Oper.about, hop, resolve, Target.leads, Sem.run_pure]
      · rw [Oper.semAt_plain F _ _ (by rw [hop]; intro c hc'; cases hc')]
        simp [execOp, hop, resolve, invoke, builtin, hs, hx, hrun, Result.andThen]
        exact hK' _ _ (fin v' w' r1 r2)
    | none =>
      obtain ⟨rfl, rfl, hxs⟩ : n = 0 ∧ c = 0 ∧ xs = [] := by
        rcases hown.2 with ⟨h1', h2'⟩ | ⟨g, cap, cur, h1', _⟩
        · simp only [Value.slice.injEq] at h1'
          exact ⟨h2', h1'.2.2, List.eq_nil_of_length_eq_zero (by rw [hown.1]; omega)⟩
        · simp at h1'
      subst hxs
      obtain ⟨v', w', hrun, r1, r2, _⟩ := run_append_own (P := P) w w.heap.size t o.type e i z 1 bytes h1 h2 h3 h4 h5 h6 (by decide) (.slice none 0 0) 0 [] (World.ownsRow_nil w _ e 1) ad 1 1 [u] rfl hcs (by simpa using h1c) b1 b2 (Nat.le_refl _)
      unfold Oper.wpIn
      refine ⟨?_, ?_⟩
      · simp [Oper.about, hop, resolve, Target.leads, Sem.run_pure]
      · rw [Oper.semAt_plain F _ _ (by rw [hop]; intro c hc'; cases hc')]
        simp [execOp, hop, resolve, invoke, builtin, hs, hx, hrun, Result.andThen]
        exact hK' _ _ (fin v' w' r1 r2)

/-- Between two rounds: box O holds a slice of rows of the call's own, from n on; every row reads as it was given. -/
def rowVs (pre : List (Nat × List Int)) : List Value := pre.map fun x => .slice (some ⟨x.1, 0, none⟩) x.2.length x.2.length
def GotF (w2 : World) (O n : Nat) (pre : List (Nat × List Int)) (W : World) : Prop :=
  ∃ p c, OneV W O (.slice p pre.length c) 22 ∧ W.ownsRow n 23 1 (.slice p pre.length c) pre.length (rowVs pre) ∧ (∀ x ∈ pre, n ≤ x.1 ∧ 0 < x.2.length ∧ blk p ≠ some x.1 ∧ Ints W (some ⟨x.1, 0, none⟩) x.2.length x.2) ∧ Keeps O n w2 W ∧ n ≤ W.heap.size
theorem gotF_stab (w2 : World) (O n : Nat) (hO : O < n) : Stab n O (GotF w2 O n) := by
  rintro s A B ⟨p, c, g1, g2, g3, g4, g5⟩ hsz hos hk
  have ho : outB O A = blk p := outB_of g1.cell
  refine ⟨p, c, g1.heap (hk O (by omega) (.inl hO)), ownsRow_move g2 fun k e => ?_, fun x hx => ?_, g4.trans ⟨⟨hos.1, hos.2.1, hos.2.2, hsz, fun k h => hk k (by omega) (.inl (by omega))⟩, fun k h1 h2 => hk k (by omega) (.inl h2)⟩, by omega⟩
  · obtain ⟨h1, o, h2, h3⟩ := row_cells g2 e
    rw [ownBlock_slice] at e
    exact hk k (Array.getElem?_eq_some_iff.1 h2).1 (.inr ⟨⟨o, h2, h3⟩, .inl (by rw [ho]; exact e)⟩)
  · obtain ⟨h1, h2, h3, h4⟩ := g3 x hx
    refine ⟨h1, h2, h3, h4.keep hsz fun ad e hd => ?_⟩
    cases e
    have hc := IsCells.of_cell (h4.at h2)
    obtain ⟨o, h5, h6⟩ := hc
    exact hk x.1 (Array.getElem?_eq_some_iff.1 h5).1 (.inr ⟨⟨o, h5, h6⟩, .inr (List.mem_map.2 ⟨x, hx, rfl⟩)⟩)
/-- A round's store into the box. -/
theorem gotF_stored {w2 W w3 : World} {O n : Nat} {p1 p' : Option Addr} {c1 c' : Nat} {pre : List (Nat × List Int)} {x : Nat × List Int} {vs : Array Value} {t' : TypeId} (hO : O < n)
    (g1 : OneV W O (.slice p1 pre.length c1) 22) (g2 : W.ownsRow n 23 1 (.slice p1 pre.length c1) pre.length (rowVs pre)) (g3 : ∀ x ∈ pre, n ≤ x.1 ∧ 0 < x.2.length ∧ blk p1 ≠ some x.1 ∧ Ints W (some ⟨x.1, 0, none⟩) x.2.length x.2) (g4 : Keeps O n w2 W) (g5 : n ≤ W.heap.size)
    (hx : OkX n O x W)
    (hg3 : (W.alloc (.cells vs t')).grownBy w3 (blk p1)) (hfr : Fresh (W.alloc (.cells vs t')) p1 p') (hown : w3.ownsRow n 23 1 (.slice p' (pre.length + 1) c') (pre.length + 1) (rowVs pre ++ [.slice (some ⟨x.1, 0, none⟩) x.2.length x.2.length])) :
    KeepsOthers W (w3.setCell ⟨O, 0, none⟩ (.slice p' (pre.length + 1) c')) ∧ KpO O W (w3.setCell ⟨O, 0, none⟩ (.slice p' (pre.length + 1) c')) ∧ GotF w2 O n (pre ++ [x]) (w3.setCell ⟨O, 0, none⟩ (.slice p' (pre.length + 1) c')) := by
  have ho : outB O W = blk p1 := outB_of g1.cell
  have hrow : ∀ k, blk p1 = some k → n ≤ k := fun k e => (row_cells g2 (by rw [ownBlock_slice]; exact e)).1
  have hg3' : (W.alloc (.cells vs t')).grownBy w3 (Value.slice p1 pre.length c1).ownBlock := by rw [ownBlock_slice]; exact hg3
  have hK : KeepsOthers W w3 := (KeepsOthers.alloc W _).trans (keepsOthers_own (g2.alloc _) hg3')
  have hka : Keeps O n W (W.alloc (.cells vs t')) := ⟨(Below.refl _ _).alloc (by omega) _, fun k h1 h2 => Below.heap_alloc _ _ _ (by omega)⟩
  have hk3 : Keeps O n W w3 := hka.grown (by simp; omega) hO hg3 hrow
  have hkf : Keeps O n W (w3.setCell ⟨O, 0, none⟩ (.slice p' (pre.length + 1) c')) := hk3.setO
  have h1 : OneV w3 O (.slice p1 pre.length c1) 22 := by
    have ha : OneV (W.alloc (.cells vs t')) O (.slice p1 pre.length c1) 22 := (Below.heap_alloc _ _ _ (by omega)).trans g1
    exact (hg3.block O ha.lt (fun e => by have := hrow O e.symm; omega)).trans ha
  have hs13 : W.heap.size < w3.heap.size := by have := hg3.size; simp at this; omega
  have hsz : n ≤ w3.heap.size := by omega
  have hsf : (w3.setCell ⟨O, 0, none⟩ (.slice p' (pre.length + 1) c')).heap.size = w3.heap.size := size_set _
  have hblk : ∀ k, k < W.heap.size → k ≠ O → blk p1 ≠ some k → (w3.setCell ⟨O, 0, none⟩ (.slice p' (pre.length + 1) c')).heap[k]? = W.heap[k]? := fun k h2 h3 h4 =>
    (heap_set_ne w3 h3).trans ((hg3.block k (by simp; omega) (fun e => h4 e.symm)).trans (Below.heap_alloc _ _ _ h2))
  have hcell : (w3.setCell ⟨O, 0, none⟩ (.slice p' (pre.length + 1) c')).cell? ⟨O, 0, none⟩ = some (.slice p' (pre.length + 1) c') := h1.set.cell
  have ho' : outB O (w3.setCell ⟨O, 0, none⟩ (.slice p' (pre.length + 1) c')) = blk p' := outB_of hcell
  have hlt' : ∀ k, blk p' = some k → n ≤ k ∧ k < w3.heap.size := fun k e => hown.lt k (by rw [ownBlock_slice]; exact e)
  have hints : ∀ y : Nat × List Int, n ≤ y.1 → 0 < y.2.length → blk p1 ≠ some y.1 → Ints W (some ⟨y.1, 0, none⟩) y.2.length y.2 → n ≤ y.1 ∧ 0 < y.2.length ∧ blk p' ≠ some y.1 ∧ Ints (w3.setCell ⟨O, 0, none⟩ (.slice p' (pre.length + 1) c')) (some ⟨y.1, 0, none⟩) y.2.length y.2 := fun y h2 h3 h4 h5 => by
    have hlt : y.1 < W.heap.size := (h5.plain _ rfl h3).2
    refine ⟨h2, h3, fun e => ?_, h5.keep (by rw [hsf]; omega) fun ad e _ => ?_⟩
    · rcases hfr _ e with h6 | h6
      · exact h4 h6
      · simp at h6; omega
    · cases e
      exact hblk y.1 hlt (by omega) h4
  refine ⟨hK.trans (KeepsOthers.setCell _ _ _), ⟨by rw [hsf]; omega, fun k h2 _ h4 h5 => hblk k h2 h4 (by rw [← ho]; exact h5), fun k e => ?_, fun _ k e => ?_⟩, p', c', ?_, ?_, fun y hy => ?_, g4.trans hkf, by rw [hsf]; omega⟩
  · rw [ho'] at e
    rw [ho]
    rcases hfr k e with h6 | h6
    · exact .inl h6
    · exact .inr (by simp at h6; omega)
  · rw [ho'] at e
    rw [hsf]; exact (hlt' k e).2
  · rw [List.length_append]; exact h1.set
  · rw [List.length_append, show rowVs (pre ++ [x]) = rowVs pre ++ [.slice (some ⟨x.1, 0, none⟩) x.2.length x.2.length] by simp [rowVs]]
    refine ownsRow_move hown fun k e => heap_set_ne w3 ?_
    rw [ownBlock_slice] at e
    have := (hlt' k e).1
    omega
  · rcases List.mem_append.1 hy with h | h
    · obtain ⟨a1, a2, a3, a4⟩ := g3 y h
      exact hints y a1 a2 a3 a4
    · rw [List.mem_singleton] at h
      subst h
      exact hints y hx.ge hx.pos (by rw [← ho]; exact hx.ne) hx.ints
theorem boxF_after {W w3 : World} {O n : Nat} {p1 : Option Addr} {c1 m : Nat} {xs : List Value} {vs : Array Value} {t' : TypeId} (hO : O < n)
    (g1 : OneV W O (.slice p1 m c1) 22) (g2 : W.ownsRow n 23 1 (.slice p1 m c1) m xs) (g4 : n ≤ W.heap.size) (hg3 : (W.alloc (.cells vs t')).grownBy w3 (blk p1)) :
    w3.cell? ⟨O, 0, none⟩ = some (.slice p1 m c1) ∧ w3.frozen? ⟨O, 0, none⟩ = false := by
  have ha : OneV (W.alloc (.cells vs t')) O (.slice p1 m c1) 22 := (Below.heap_alloc _ _ _ (by omega)).trans g1
  have h1 : OneV w3 O (.slice p1 m c1) 22 := (hg3.block O ha.lt (fun e => by have := (row_cells g2 (by rw [ownBlock_slice]; exact e.symm)).1; omega)).trans ha
  exact ⟨h1.cell, h1.free⟩
/-- What was given reads as a table. -/
theorem gotF_mat {W : World} {n : Nat} {p : Option Addr} {c : Nat} {pre : List (Nat × List Int)} (g2 : W.ownsRow n 23 1 (.slice p pre.length c) pre.length (rowVs pre)) (g3 : ∀ x ∈ pre, n ≤ x.1 ∧ 0 < x.2.length ∧ blk p ≠ some x.1 ∧ Ints W (some ⟨x.1, 0, none⟩) x.2.length x.2) : Mat W p c (pre.map (·.2)) := by
  rcases g2.2 with ⟨h1, h2⟩ | ⟨g, cap, cur, h1, h2, h3, h4, h5, _, _⟩
  · simp only [Value.slice.injEq] at h1
    obtain ⟨rfl, _, rfl⟩ := h1
    have : pre = [] := List.eq_nil_of_length_eq_zero h2
    subst this
    exact Mat.ofNil W
  · simp only [Value.slice.injEq] at h1
    obtain ⟨rfl, _, rfl⟩ := h1
    refine ⟨by rw [List.length_map]; exact h4, h5, fun h => (by cases h), ?_, ?_⟩
    · rintro a ⟨⟩ _; exact ⟨rfl, (Array.getElem?_eq_some_iff.1 h3).1⟩
    · rintro b o ⟨⟩ j hj
      rw [List.length_map] at hj
      rw [Nat.zero_add]
      have hr : rget (pre.map (·.2)) j = (pre[j]).2 := by simp [rget, hj]
      obtain ⟨_, _, _, h6⟩ := g3 pre[j] (List.getElem_mem hj)
      refine ⟨some ⟨(pre[j]).1, 0, none⟩, (pre[j]).2.length, ?_, by rw [hr]; exact h6⟩
      rw [hr, g2.cellAt j (by omega)]
      simp [rowVs, hj]
/-- A table that can be read, and an error. -/
def GivesMt (w : World) (v : List (List Int)) (k : Int) (e : Ending) (w' : World) : Prop := ∃ p c, e = .returned (.tuple #[.slice p v.length c, .int .i64 k]) ∧ Mat w' p c v ∧ Below w.heap.size w w'
set_option maxHeartbeats 1000000 in
theorem followed_any (a : Option Addr) (len cap : Nat) (w : World) :
    Calls Try.prog 36 #[.slice a len cap] w fun e w' => e = .returned (.func (.func 50) #[] #[.pointer (some ⟨w.heap.size, 0, none⟩)]) ∧ w' = w.alloc (.cells #[.slice a len cap] 22) := by
  go_enter Try.func36, Try.ntmps36
  go_wp2
  go_ret
  exact ⟨rfl, rfl⟩
end Go.Proofs.Ytcgaojnfgkfnkaa
