/- The walk of rota.next: the first of the weeks of the least cost, for counts of at most 1000. -/
import Derived.Test.YtcgaojnfgkfnkaaTopRotaCheapestm9
import Derived.Test.YtcgaojnfgkfnkaaTopRotaCheapestm10
import Derived.Test.YtcgaojnfgkfnkaaTopRotaCheapestm1
import Derived.RangeFuncFrom
import Derived.RangeFuncBox
import Derived.RangeFuncLeaves
import Derived.OwnWalkIn
import Derived.TacticsInMore
import Derived.LoopNIn
import Derived.LoopIn
import Derived.Maps.AppendAt
import Derived.Maps.RangeWalk
import Derived.Shelf.Abstract
/- The walk of rota.next: the first of the weeks of the least cost, for counts of at most 1000. -/
namespace Go.Proofs.Ytcgaojnfgkfnkaa
set_option linter.unusedVariables false
set_option linter.unusedSimpArgs false
open Go.ChangeShapes Go.WideShapes Go.ChangeAt Go.RowKit Go.Deep

/-- The week out of who has each shift. -/
theorem week_of {n : Nat} {c : Nat → Nat → Int} {U V : Nat → Int} {s : Nat → Nat} {A : Nat → Int} (hs : Per n s) (hA : ∀ y, y < n → A (s y) = y) (hsh : ∀ y, y < n → Sharp c U V (s y) y) : ShA n c U V ((List.range n).map A) := by
  have hg : ∀ r, r < n → iget ((List.range n).map A) r = A r := fun r hr => by simp [iget, hr]
  have hr : ∀ r, r < n → ∃ y, y < n ∧ s y = r ∧ A r = y := fun r hr => by
    obtain ⟨y, h1, h2⟩ := hs.surj hr
    exact ⟨y, h1, h2, by rw [← h2]; exact hA y h1⟩
  have hi : ∀ y, y < n → itm ((List.range n).map A) (s y) = y := fun y hy => by
    unfold itm; rw [hg _ (hs.lt y hy), hA y hy]; simp
  refine ⟨isA_of (by simp) (fun r h => ?_) ⟨fun r h => ?_, fun r q h k e => ?_⟩, fun r h => ?_⟩
  · obtain ⟨y, _, _, h3⟩ := hr r h
    rw [hg r h, h3]; omega
  · obtain ⟨y, h1, h2, _⟩ := hr r h
    rw [← h2, hi y h1]; exact h1
  · obtain ⟨y, h1, h2, _⟩ := hr r h
    obtain ⟨z, h3, h4, _⟩ := hr q k
    rw [← h2, hi y h1, ← h4, hi z h3] at e
    rw [← h2, ← h4, e]
  · obtain ⟨y, h1, h2, _⟩ := hr r h
    rw [← h2, hi y h1]; exact hsh y h1
theorem Hp.congr0 {w : World} {l : List Blk} {g m : Nat} {f f' : Nat → Value} (h : Hp w ((g, m, f) :: l)) (e : ∀ k, k < m → f' k = f k) : Hp w ((g, m, f') :: l) := ⟨h.nd, fun x hx => by
  rcases List.mem_cons.1 hx with rfl | hx
  · exact (h.row (g, m, f) (by simp)).congr e
  · exact h.row x (List.mem_cons_of_mem _ hx)⟩
def GivesW (v : List (List Int)) (w : World) (e : Ending) (w' : World) : Prop := ∃ g, e = .returned (.slice (some ⟨g, 0, none⟩) v.length v.length) ∧ IsWeek v (weekA v) ∧ Ints w' (some ⟨g, 0, none⟩) v.length (weekA v) ∧ Below w.heap.size w w' ∧ w.heap.size ≤ g
set_option maxHeartbeats 16000000 in
set_option maxRecDepth 100000 in
theorem next_any (p : Option Addr) (c : Nat) (v : List (List Int)) (w : World) (hx : Mat w p c v) (hv : CountsP v) :
    Calls Try.prog 31 #[.slice p v.length c] w (GivesW v w) := by
  have hn := hv.len
  have hl := hx.length_le
  obtain ⟨W1, hW1⟩ : ∃ W, w.alloc (.cells #[.slice p v.length c] 22) = W := ⟨_, rfl⟩
  have hb1 := below_alloc hW1
  have h1 : Hp W1 [(w.heap.size, 1, fun _ => .slice p v.length c)] := (Hp.nil w).box1 hW1
  have mX := hx.below hb1 (Nat.le_refl _)
  have k0 := (h1.at 0 rfl).cell 0 (by omega)
  have CP := Lib.hid (prove_any p c v W1 mX hv)
  have HX : Hid (∀ W, Below w.heap.size w W → Mat W p c v) := fun W h => hx.below h (Nat.le_refl _)
  have Hv := Lib.hid hv
  clear mX hx
  have mkI : ∀ W, (Instr.makeSlice 23 (.int .i64 (v.length : Int)) (.int .i64 (v.length : Int))).run Try.prog W = .ok (.slice (some ⟨W.heap.size, 0, none⟩) v.length v.length) (W.alloc (.cells (zI v.length) 3)) := fun W => run_zI _ (by omega) W
  have hmf : ∀ (fn : Fn) (first cap : Array Value) (w : World), (Instr.makeFunc fn first cap).run Try.prog w = .ok (.func fn first cap) w := fun _ _ _ _ => rfl
  go_enter Try.func31, Try.ntmps31
  go_wp2_with fail
  refine CP.out.mono ?_
  rintro e w2 ⟨gu, gv, gh, U, V, H, rfl, hSt, hH2, hb2, g1, g2, g3⟩
  have hb12 : Below w.heap.size w w2 := hb1.trans (hb2.mono hb1.size)
  have h1' := h1.below hb2
  have hlt := (h1.at 0 rfl).lt
  obtain ⟨W3, hW3⟩ : ∃ W, w2.alloc (.cells #[.slice (some ⟨gu, 0, none⟩) (v.length + 1) (v.length + 1), .slice (some ⟨gv, 0, none⟩) (v.length + 1) (v.length + 1)] 69) = W := ⟨_, rfl⟩
  obtain ⟨W4, hW4⟩ : ∃ W, W3.alloc (.cells (zI v.length) 3) = W := ⟨_, rfl⟩
  have hb3 := below_alloc hW3
  have hb4 := below_alloc hW4
  have hA3 : Hp W3 [(w.heap.size, 1, fun _ => .slice p v.length c), (w2.heap.size, 2, slF (v.length + 1) gu gv), (gu, v.length + 1, iF U), (gv, v.length + 1, iF V), (gh, v.length + 1, nF H)] := by
    have hz : Hp w2 [(w.heap.size, 1, fun _ => .slice p v.length c), (gu, v.length + 1, iF U), (gv, v.length + 1, iF V), (gh, v.length + 1, nF H)] := hH2.add (h1'.at 0 rfl) (by simp; omega)
    rw [← hW3]
    exact ((hz.below ((Below.refl _ _).alloc (Nat.le_refl _) _)).add (RowF.new fun k hk => by (match k, hk with | 0, _ => rfl | 1, _ => rfl)) (hz.fresh (Nat.le_refl _))).perm (List.Perm.swap _ _ _)
  have hA4 : Hp W4 [(W3.heap.size, v.length, iF fun _ => 0), (w.heap.size, 1, fun _ => .slice p v.length c), (w2.heap.size, 2, slF (v.length + 1) gu gv), (gu, v.length + 1, iF U), (gv, v.length + 1, iF V), (gh, v.length + 1, nF H)] := by
    rw [← hW4]
    exact (hA3.below ((Below.refl _ _).alloc (Nat.le_refl _) _)).add (RowF.new fun k hk => zI_get hk) (hA3.fresh (Nat.le_refl _))
  have hB4 : Below w.heap.size w W4 := (hb12.trans (hb3.mono hb12.size)).trans (hb4.mono (hb12.trans (hb3.mono hb12.size)).size)
  have hgw : w.heap.size ≤ W3.heap.size := by have := hb12.size; have := hb3.size; omega
  clear hb1 hb2 hb12 hb3 hb4 hA3 hH2 h1 h1' CP k0 hlt g1 g2 g3
  have HSt := Lib.hid hSt
  clear hSt
  go_wp2_with fail
  clear hW1 hW3 hW4 mkI hmf
  obtain ⟨gw, egw⟩ : ∃ g, W3.heap.size = g := ⟨_, rfl⟩
  obtain ⟨gb, egb⟩ : ∃ g, w2.heap.size = g := ⟨_, rfl⟩
  rw [egw] at hA4 hgw ⊢
  rw [egb] at hA4 ⊢
  clear egw egb
  have HM : Hid (ModP v.length U V) := ⟨HSt.out.uhi, HSt.out.vlo⟩
  go_loopw [8] (fun kk wk => ∃ (x : Nat) (A : Nat → Int), 1 ≤ x ∧ x ≤ v.length + 1 ∧ kk = .int .i64 x ∧ Hid (∀ y, y < v.length → y + 1 < x → A (H (y + 1) - 1) = y) ∧ Hp wk [(gw, v.length, iF A), (w.heap.size, 1, fun _ => .slice p v.length c), (gb, 2, slF (v.length + 1) gu gv), (gu, v.length + 1, iF U), (gv, v.length + 1, iF V), (gh, v.length + 1, nF H)] ∧ Below w.heap.size w wk) (fun kk _ => v.length + 1 - (intOf kk).toNat)
  case atStart => exact ⟨1, fun _ => 0, by omega, by omega, rfl, fun y _ h => by omega, hA4, hB4⟩
  case round =>
    clear hA4 hB4
    obtain ⟨x, A, hx1, hxn, rfl, hA, hP, hB⟩ := hrel
    by_cases hx : x ≤ v.length
    · have hx2 : (x : Int) ≤ v.length := by omega
      obtain ⟨y, ey⟩ : ∃ y, x - 1 = y := ⟨_, rfl⟩
      have hyx : y + 1 = x := by omega
      obtain ⟨s1, s2, s3⟩ := HSt.out.stop
      obtain ⟨q1, q2⟩ := s2 y (by omega)
      rw [hyx] at q1 q2
      obtain ⟨r, er⟩ : ∃ r, H x = r + 1 := ⟨H x - 1, by omega⟩
      have hr : r < v.length := by omega
      have cH : wr.cell? ⟨gh, x, none⟩ = some (.int .i64 ((r : Int) + 1)) := by
        have := (hP.at 5 rfl).cell x (by omega)
        rw [this]; unfold nF; rw [er]; simp
      have cW : wr.cell? ⟨gw, r, none⟩ = some (.int .i64 (A r)) := (hP.at 0 rfl).cell r hr
      have fW : wr.frozen? ⟨gw, r, none⟩ = false := (hP.at 0 rfl).live r hr
      have hQ := hP.set 0 rfl (.int .i64 (y : Int)) hr
      rw [iF_upd] at hQ
      have hA2 : Hid (∀ z, z < v.length → z + 1 < x + 1 → updf A r (y : Int) (H (z + 1) - 1) = z) := fun z hz h => by
        by_cases e : z = y
        · subst e; rw [hyx, er, Nat.add_sub_cancel, updf_at]
        · rw [updf_ne (fun e2 => e (s1.inj z y hz (by omega) (by show H (z + 1) - 1 = H (y + 1) - 1; rw [hyx, er, e2]; omega)))]
          exact hA.out z hz (by omega)
      have hB2 := hB.setCell (p := ⟨gw, r, none⟩) hgw (.int .i64 (y : Int))
      have hw1 : IntKind.i64.wrap ((r : Int) + 1 - 1) = r := by rw [Int.add_sub_cancel]; exact IntWalk.i64_in _ (by omega)
      have hw2 : IntKind.i64.wrap ((x : Int) - 1) = y := by rw [show (x : Int) - 1 = y by omega]; exact IntWalk.i64_in _ (by omega)
      have hr1 : (r : Int) < v.length := by omega
      have hx3 : (x : Int) < (v.length : Int) + 1 := by omega
      clear s1 s2 s3 q1 q2 er ey hyx hA hP hB
      go_wp2_with fail
      go_roundw
      case rel => exact ⟨x + 1, _, by omega, by omega, by go_num, hA2, hQ, hB2⟩
      case measure => simp [intOf]; omega
    · obtain rfl : x = v.length + 1 := by omega
      have hx2 : ¬ ((v.length + 1 : Nat) : Int) ≤ v.length := by omega
      obtain ⟨s1, s2, s3⟩ := HSt.out.stop
      have hSh := week_of (c := bid v) (U := U) (V := V) s1 (fun y hy => hA.out y hy (by omega)) s3
      have hE : Hp wr (ExL gw w.heap.size gb gu gv p c v.length U V ((List.range v.length).map A)) := Hp.sub (Hp.congr0 hP (fun k hk => by unfold iF; simp [iget, hk])) (List.sublist_append_left [_, _, _, _, _] [_])
      have HSh := Lib.hid hSh
      clear s1 s2 s3 hSh hP hA
      go_wp2_with fail
      go_loopw [37] (fun kk wk => ∃ (i : Nat) (a : List Int), i ≤ v.length ∧ kk = .int .i64 i ∧ Hid (ShA v.length (bid v) U V a) ∧ Hid (Lead v.length (bid v) U V a i) ∧ Hp wk (ExL gw w.heap.size gb gu gv p c v.length U V a) ∧ Below w.heap.size w wk) (fun kk _ => v.length - (intOf kk).toNat)
      case atStart => exact ⟨0, _, by omega, rfl, HSh.out, Lead.zero _ _ _ _ _, hE, hB⟩
      case round =>
        clear hE hB HSh
        obtain ⟨i, a, hin, rfl, hSh, hLd, hE, hB⟩ := hrel
        by_cases hi : i < v.length
        · have hi1 : (i : Int) < v.length := by omega
          obtain ⟨fr, efr⟩ : ∃ f, itm a i = f := ⟨_, rfl⟩
          have hfr : iget a i = (fr : Int) := by have := (isA_lt hSh.out.1 i hi).1; unfold itm at efr; omega
          have hfn : fr < v.length := by rw [← efr]; exact (isA_per hSh.out.1).lt i hi
          have cW : wr.cell? ⟨gw, i, none⟩ = some (.int .i64 (fr : Int)) := by rw [← hfr]; exact (hE.at 0 rfl).cell i hi
          have Efr := Lib.hid efr
          clear efr hfr
          go_wp2_with fail
          go_loopw [44] (fun kk wk => ∃ k : Nat, k ≤ fr ∧ kk = .int .i64 k ∧ Hid (∀ x, ShA v.length (bid v) U V x → (∀ j, j < i → itm x j = itm a j) → k ≤ itm x i) ∧ Hp wk (ExL gw w.heap.size gb gu gv p c v.length U V a) ∧ Below w.heap.size w wk) (fun kk _ => fr - (intOf kk).toNat)
          case atStart => exact ⟨0, by omega, rfl, fun _ _ _ => Nat.zero_le _, hE, hB⟩
          case round =>
            clear hE hB cW
            obtain ⟨k, hkf, rfl, hNo, hE, hB⟩ := hrel
            by_cases hk : k < fr
            · have hk1 : (k : Int) < (fr : Int) := by omega
              have hCS := sharp_any w.heap.size gb gu gv p c v U V i k wr ((hE.at 1 rfl).cell 0 (by omega)) ((hE.at 2 rfl).cell 0 (by omega)) ((hE.at 2 rfl).cell 1 (by omega)) (hE.at 3 rfl) (hE.at 4 rfl) (HX.out _ hB) Hv.out HM.out hi (by omega)
              by_cases hsh : Sharp (bid v) U V i k
              · rw [decide_eq_true hsh] at hCS
                have CS := Lib.hid hCS
                clear hCS
                go_wp2_with fail
                refine CS.out.mono ?_
                rintro e w5 ⟨rfl, n5, rfl⟩
                have hE5 := hE.drewN n5
                have hB5 := hB.drewN' n5
                have CE := Lib.hid (exchange_any gw w.heap.size gb gu gv p c v U V i k w.heap.size w (wr.drewN n5) a HX hgw hB5 hB5.size Hv.out HM.out hi hSh.out (by rw [Efr.out]; exact hk) hsh hE5)
                clear hE hB CS
                go_wp2_with fail
                refine CE.out.mono ?_
                rintro e w6 ⟨r, a1, rfl, hE6, hB6, r1, r2⟩
                have R1 := Lib.hid r1
                have R2 := Lib.hid r2
                clear r1 r2 CE hE5 hB5
                cases r with
                | true =>
                  obtain ⟨t1, t2, t3⟩ := R2.out rfl
                  have hLd2 : Hid (Lead v.length (bid v) U V a1 (i + 1)) := hLd.out.next t2 fun x hx hag => by rw [t3]; exact hNo.out x hx hag
                  have HSh2 := Lib.hid t1
                  clear t1 t2 t3 R1 R2 hSh hLd hNo hsh
                  go_wp2_with fail
                  go_roundw
                  case rel => exact ⟨i + 1, a1, by omega, by go_num, HSh2, hLd2, hE6, hB6⟩
                  case measure => simp [intOf]; omega
                | false =>
                  obtain ⟨t1, t2⟩ := R1.out rfl
                  rw [t1] at hE6
                  have hNo2 : Hid (∀ x, ShA v.length (bid v) U V x → (∀ j, j < i → itm x j = itm a j) → k + 1 ≤ itm x i) := fun x hx hag => by
                    have h1 := hNo.out x hx hag
                    have h2 := t2 x hx hag
                    omega
                  clear t1 t2 R1 R2 hNo hsh
                  go_wp2_with fail
                  go_roundw
                  case rel => exact ⟨k + 1, by omega, by go_num, hNo2, hE6, hB6⟩
                  case measure => simp [intOf]; omega
              · rw [decide_eq_false hsh] at hCS
                have CS := Lib.hid hCS
                have hNo2 : Hid (∀ x, ShA v.length (bid v) U V x → (∀ j, j < i → itm x j = itm a j) → k + 1 ≤ itm x i) := fun x hx hag => by
                  have h1 := hNo.out x hx hag
                  have h2 : itm x i ≠ k := fun e => hsh (e ▸ hx.2 i hi)
                  omega
                clear hCS hNo hsh
                go_wp2_with fail
                refine CS.out.mono ?_
                rintro e w5 ⟨rfl, n5, rfl⟩
                have hE5 := hE.drewN n5
                have hB5 := hB.drewN' n5
                clear hE hB CS
                go_wp2_with fail
                go_roundw
                case rel => exact ⟨k + 1, by omega, by go_num, hNo2, hE5, hB5⟩
                case measure => simp [intOf]; omega
            · obtain rfl : k = fr := by omega
              have hk1 : ¬ ((k : Nat) : Int) < (k : Int) := by omega
              have hLd2 : Hid (Lead v.length (bid v) U V a (i + 1)) := hLd.out.next (fun _ _ => rfl) fun x hx hag => by rw [Efr.out]; exact hNo.out x hx hag
              clear hLd hNo
              go_wp2_with fail
              go_roundw
              case rel => exact ⟨i + 1, a, by omega, by go_num, hSh, hLd2, hE, hB⟩
              case measure => simp [intOf]; omega
        · obtain rfl : i = v.length := by omega
          have hi1 : ¬ ((v.length : Nat) : Int) < v.length := by omega
          have hW : IsWeek v a := isWeek_of HSt.out.feas hSh.out (hLd.out.all hSh.out.1)
          have hWe := weekA_eq hW
          have hl1 := hSh.out.1.1
          have hI : Ints wr (some ⟨gw, 0, none⟩) v.length a := by
            refine ⟨by omega, by omega, (fun h => by cases h), ?_, ?_, fun j hj => ?_⟩
            · rintro x ⟨⟩ _; exact ⟨rfl, (hE.at 0 rfl).lt⟩
            · rintro b o ⟨⟩ j hj; rw [Nat.zero_add]; exact (hE.at 0 rfl).cell j (by omega)
            · have := isA_lt hSh.out.1 j (by omega)
              unfold itm at this
              unfold in64; omega
          have Hres := Lib.hid (And.intro (hWe.symm ▸ hW : IsWeek v (weekA v)) (hWe.symm ▸ hI : Ints wr (some ⟨gw, 0, none⟩) v.length (weekA v)))
          clear hW hWe hI hSh hLd hE hl1
          go_wp2_with fail
          go_ret
          exact ⟨gw, rfl, Hres.out.1, Hres.out.2, hB, hgw⟩
end Go.Proofs.Ytcgaojnfgkfnkaa

/- slices.Values over a list of ints, and slices.AppendSeq and slices.Collect of what it gives: what each call returns; no condition but sizes. -/
namespace Go.Proofs.Ytcgaojnfgkfnkaa
set_option linter.unusedSimpArgs false
open Go.ChangeShapes Go.WideShapes Go.ChangeAt Go.RowKit Go.Deep
set_option linter.unusedVariables false
attribute [local go_sem] Oper.semAt_some

theorem take_iget {zs : List Int} {k : Nat} (h : k < zs.length) : zs.take (k + 1) = zs.take k ++ [iget zs k] := by
  rw [iget_of h, List.take_succ_eq_append_getElem h]

set_option maxRecDepth 100000 in
set_option maxHeartbeats 2000000 in
theorem values1_in (F : Fence) (n : Nat) (h7 : F.fn 59) (hro : F.round = none) (hn : 1 ≤ n) (l Bs n₀ : Nat) (p : Option Addr) (cap : Nat) (zs : List Int) (J Jx : List Int → World → Prop)
    (hY : ∀ pre x W, J pre W → pre.length < zs.length → YieldAt F (n - 1) Try.prog l #[.int .i64 x] W fun e W' =>
      (e = .returned (.bool true) ∧ J (pre ++ [x]) W' ∧ Below n₀ W W') ∨ (e = .returned (.bool false) ∧ Jx (pre ++ [x]) W'))
    (W : World) (hBs : W.cell? ⟨Bs, 0, none⟩ = some (.slice p zs.length cap)) (hI : Ints W p cap zs) (hp : ∀ a, p = some a → 0 < zs.length → a.block < n₀) (h0 : J [] W) :
    CallsIn F n Try.prog 59 #[.func (.yield l) #[] #[], .pointer (some ⟨Bs, 0, none⟩)] W fun e W' => (∃ v, e = .returned v) ∧
      ((∃ ys, ys = zs ∧ J ys W') ∨ (∃ pre, pre <+: zs ∧ Jx pre W')) := by
  refine callsIn_of_wp Try.func59 rfl h7 ?_ hro
  simp only [Try.ntmps59, List.size_toArray, List.length_cons, List.length_nil, Nat.reduceAdd, Nat.reduceSub, Array.replicate_succ, Array.replicate_zero, List.push_toArray, List.append_toArray, List.nil_append, List.cons_append]
  have hlen := hI.length_le
  gi_wp2
  gi_loopw [7] (fun i wr => ∃ k : Nat, k ≤ zs.length ∧ i = .int .i64 k ∧ J (zs.take k) wr ∧ Below n₀ W wr)
    (fun i _ => zs.length - (intOf i).toNat)
  case atStart => exact ⟨0, Nat.zero_le _, rfl, h0, Below.refl _ _⟩
  case round =>
    obtain ⟨k, hk, rfl, hJs, hnx⟩ := hrel
    by_cases hlt : k < zs.length
    · obtain ⟨b, off, rfl, hb, hc⟩ := hI.get hlt
      have hb' : b < n₀ := hp _ rfl (by omega)
      have hcx : wr.cell? ⟨b, off + k, none⟩ = some (.int .i64 (iget zs k)) := (hnx.cell (p := ⟨b, off + k, none⟩) hb').trans hc
      have hlti : (k : Int) < zs.length := by omega
      obtain ⟨fn, tmps, assign, body, hy, hR⟩ := hY _ (iget zs k) wr hJs (by rw [List.length_take]; omega)
      gi_wp2
      refine hR.mono ?_
      rintro e W3 (⟨rfl, hJ3, hk3⟩ | ⟨rfl, hJx3⟩)
      · gi_wp2
        go_roundw
        case rel => exact ⟨k + 1, by omega, by simp, by rw [take_iget hlt]; exact hJ3, hnx.trans hk3⟩
        case measure => simp [intOf]; omega
      · gi_wp2
        refine bodyPost_ret (results_none rfl _ _ _) rfl ?_
        exact ⟨⟨_, rfl⟩, .inr ⟨_, by rw [← take_iget hlt]; exact List.take_prefix _ _, hJx3⟩⟩
    · obtain rfl : k = zs.length := by omega
      gi_wp2
      go_end0
      exact ⟨⟨_, rfl⟩, .inl ⟨_, rfl, by rw [List.take_length] at hJs; exact hJs⟩⟩

set_option maxHeartbeats 1000000 in
theorem values_in (F : Fence) (n : Nat) (h5 : F.fn 54) (hro : F.round = none) (a : Option Addr) (len cap : Nat) (w : World) :
    CallsIn F n Try.prog 54 #[.slice a len cap] w fun e w' => e = .returned (.func (.func 59) #[] #[.pointer (some ⟨w.heap.size, 0, none⟩)]) ∧ w' = w.alloc (.cells #[.slice a len cap] 23) := by
  refine callsIn_of_wp Try.func54 rfl h5 ?_ hro
  simp only [Try.ntmps54, List.size_toArray, List.length_cons, List.length_nil, Nat.reduceAdd, Nat.reduceSub, Array.replicate_succ, Array.replicate_zero, List.push_toArray, List.append_toArray, List.nil_append, List.cons_append]
  gi_wp2
  go_ret
  exact ⟨rfl, rfl⟩

theorem values_stops (F : Fence) (n : Nat) (h7 : F.fn 59) (hro : F.round = none) (hn : 1 ≤ n) (Bs n₀ : Nat) (p : Option Addr) (cap : Nat) (zs : List Int) (w : World) (hBs : Bs < w.heap.size) (hn₀ : w.heap.size = n₀)
    (hc : w.cell? ⟨Bs, 0, none⟩ = some (.slice p zs.length cap)) (hI : Ints w p cap zs) :
    SeqStopsK F n Try.prog 59 #[.pointer (some ⟨Bs, 0, none⟩)] (fun x : Int => #[Value.int .i64 x]) (Below n₀) (fun ys => ys = zs) (fun pre => pre <+: zs) zs.length w := fun l J Jx W hW _ _ hY h0 =>
  values1_in F n h7 hro hn l Bs n₀ p cap zs J Jx hY W ((hW.cell (p := ⟨Bs, 0, none⟩) hBs).trans hc) (hI.below hW (Nat.le_refl _)) (fun a ha h => hn₀ ▸ (hI.plain a ha (by have := hI.le; omega)).2) h0

/-- Between two rounds of AppendSeq: its box holds a row of its own with what has come. -/
def Got (w0 : World) (B : Nat) (pre : List Int) (W : World) : Prop :=
  ∃ p c, W.heap[B]? = some (.cells #[.slice p pre.length c] 23 (0, 0)) ∧ W.ownsRow (B + 1) 3 1 (.slice p pre.length c) pre.length (pre.map (Value.int .i64)) ∧ Below B w0 W

theorem row_cells {W : World} {base e n k : Nat} {v : Value} {xs : List Value} (h : W.ownsRow base e 1 v n xs) (hk : v.ownBlock = some k) : base ≤ k ∧ ∃ o : Obj, W.heap[k]? = some o ∧ o.isCells = true := by
  rcases h.2 with ⟨rfl, _⟩ | ⟨g, cap, cur, rfl, h3, h5, _⟩
  · cases hk
  · cases hk; exact ⟨h3, _, h5, rfl⟩
theorem got_own (w0 : World) (B B' : Nat) (hB : B = w0.heap.size) (hB' : B ≤ B') : OwnFrom B' (Got w0 B) := by
  rintro s W W' row ⟨p, c, h1, h2, h3⟩ hg hr
  have hne : some B ≠ row := fun e => by
    obtain ⟨_, o, ho, hc⟩ := hr B e.symm
    rw [h1] at ho; cases ho; cases hc
  refine ⟨p, c, (hg.block B (Array.getElem?_eq_some_iff.1 h1).1 hne).trans h1, h2.kept hg ?_, h3.grown hg (by rw [hB]; rw [hB] at h3; exact h3.size) (fun k e => by have := (hr k e).1; omega)⟩
  cases hk : (Value.slice p s.length c).ownBlock with
  | none => exact .inl rfl
  | some k =>
    refine .inr fun e => ?_
    obtain ⟨_, o, ho, hc⟩ := hr k e.symm
    obtain ⟨_, o', ho', hc'⟩ := row_cells h2 hk
    rw [ho] at ho'; cases ho'; rw [hc] at hc'; cases hc'
theorem keepsOthers_own {W W' : World} {base e n : Nat} {v : Value} {xs : List Value} (h : W.ownsRow base e 1 v n xs) (hg : W.grownBy W' v.ownBlock) : KeepsOthers W W' :=
  KeepsOthers.of_grownBy hg fun j o e hj => by
    obtain ⟨_, o', ho', hc'⟩ := row_cells h e
    rw [hj] at ho'; cases ho'; exact hc'

theorem box_after {W w3 : World} {B e n : Nat} {v u : Value} {t t' : TypeId} {xs : List Value} {vs : Array Value} (g1 : W.heap[B]? = some (.cells #[v] t (0, 0))) (g2 : W.ownsRow (B + 1) e 1 u n xs)
    (hg3 : (W.alloc (.cells vs t')).grownBy w3 u.ownBlock) :
    w3.heap[B]? = some (.cells #[v] t (0, 0)) ∧ w3.cell? ⟨B, 0, none⟩ = some v ∧ w3.frozen? ⟨B, 0, none⟩ = false := by
  have hB1 : B < W.heap.size := (Array.getElem?_eq_some_iff.1 g1).1
  have hg1' : w3.heap[B]? = some (.cells #[v] t (0, 0)) := by
    refine (hg3.block B (by simp; omega) (fun e => ?_)).trans ((Below.heap_alloc _ _ _ hB1).trans g1)
    have := (row_cells g2 e.symm).1
    omega
  exact ⟨hg1', by simp [World.cell?, hg1'], by simp [World.frozen?, hg1']⟩

/-- A round's store into the box. -/
theorem got_stored {w0 W w3 : World} {B : Nat} {p1 p' : Option Addr} {c1 c' : Nat} {pre : List Int} {x : Int} {vs : Array Value} {t' : TypeId} (hB : B = w0.heap.size)
    (g1 : W.heap[B]? = some (.cells #[.slice p1 pre.length c1] 23 (0, 0))) (g2 : W.ownsRow (B + 1) 3 1 (.slice p1 pre.length c1) pre.length (pre.map (Value.int .i64))) (g3 : Below B w0 W)
    (hg3 : (W.alloc (.cells vs t')).grownBy w3 (Value.slice p1 pre.length c1).ownBlock) (hown : w3.ownsRow (B + 1) 3 1 (.slice p' (pre.length + 1) c') (pre.length + 1) (pre.map (Value.int .i64) ++ [.int .i64 x])) :
    KeepsOthers W (w3.setCell ⟨B, 0, none⟩ (.slice p' (pre.length + 1) c')) ∧ Below B W (w3.setCell ⟨B, 0, none⟩ (.slice p' (pre.length + 1) c')) ∧ Got w0 B (pre ++ [x]) (w3.setCell ⟨B, 0, none⟩ (.slice p' (pre.length + 1) c')) := by
  have hB1 : B < W.heap.size := (Array.getElem?_eq_some_iff.1 g1).1
  obtain ⟨hb, _, _⟩ := box_after g1 g2 hg3
  have hK : KeepsOthers W w3 := (KeepsOthers.alloc W _).trans (keepsOthers_own (g2.alloc _) hg3)
  have hBl : Below B W w3 := ((Below.refl B W).alloc (by omega) _).grown hg3 (by simp; omega) (fun k e => by have := (row_cells g2 e).1; omega)
  have hgs : w3.grownBy (w3.setCell ⟨B, 0, none⟩ (.slice p' (pre.length + 1) c')) (some B) := grownBy_setCell' _ _ _
  have hBs : Below B W (w3.setCell ⟨B, 0, none⟩ (.slice p' (pre.length + 1) c')) := hBl.setCell (p := ⟨B, 0, none⟩) (Nat.le_refl _) _
  refine ⟨hK.trans (KeepsOthers.setCell _ _ _), hBs, p', c', ?_, ?_, g3.trans hBs⟩
  · rw [List.length_append]
    show (w3.heap.modify B _)[B]? = _
    obtain ⟨h1, h2⟩ := Array.getElem?_eq_some_iff.1 hb
    rw [Array.getElem?_eq_getElem (by rw [Array.size_modify]; exact h1), Array.getElem_modify_self, h2]
    rfl
  · rw [List.length_append, List.map_append]
    refine hown.kept hgs ?_
    cases hk : (Value.slice p' (pre.length + 1) c').ownBlock with
    | none => exact .inl rfl
    | some k => exact .inr fun e => by have := (row_cells hown hk).1; cases e; omega

set_option maxRecDepth 100000 in
set_option maxHeartbeats 2000000 in
theorem appendSeq_in (F : Fence) (n : Nat) (h7 : F.fn 59) (h8 : F.fn 60) (hro : F.round = none) (hn : 3 ≤ n) (Bs : Nat) (p : Option Addr) (c : Nat) (zs : List Int) (hz : zs.length ≤ 1000000) (w : World)
    (hBs : Bs < w.heap.size) (hc : w.cell? ⟨Bs, 0, none⟩ = some (.slice p zs.length c)) (hI : Ints w p c zs) :
    CallsIn F n Try.prog 60 #[.slice none 0 0, .func (.func 59) #[] #[.pointer (some ⟨Bs, 0, none⟩)]] w fun e w' => ∃ p' c', e = .returned (.slice p' zs.length c') ∧ Own w' w.heap.size p' c' zs ∧ Below w.heap.size w w' := by
  have h1 : 1 ≤ n := by omega
  obtain ⟨i0, hi, hz0, hz1, hz2⟩ := info_parts infoInt
  refine callsIn_of_wp_marks Try.func60 rfl h8 ?_ hro
  simp only [Try.ntmps60, List.size_toArray, List.length_cons, List.length_nil, Nat.reduceAdd, Nat.reduceSub, Array.replicate_succ, Array.replicate_zero, List.push_toArray, List.append_toArray, List.nil_append, List.cons_append]
  gi_wp2
  obtain ⟨W0, hW0⟩ : ∃ W0, w.alloc (.cells #[.slice none 0 0] 23) = W0 := ⟨_, rfl⟩
  have hs0 : W0.heap.size = w.heap.size + 1 := by rw [← hW0]; simp
  have hv0 : W0.heap[w.heap.size]? = some (.cells #[.slice none 0 0] 23 (0, 0)) := by rw [← hW0]; exact World.alloc_heap_new w _
  have hb0 : Below w.heap.size w W0 := by rw [← hW0]; exact (Below.refl _ w).alloc (Nat.le_refl _) _
  rw [hW0]
  have hgo := got_own w w.heap.size W0.heap.size rfl (by omega)
  refine wpIn_rangeFunc_ownF hro h1 (gf := 59) (lb := #[.pointer (some ⟨Bs, 0, none⟩)]) rfl h7 (enters_of Try.func59 (by kernel_rfl) rfl)
    (values_stops F (n - 1) h7 hro (by omega) Bs w.heap.size p c zs w hBs rfl hc hI) belowK_t (belowK_b (by omega)) hb0 (fun _ => rfl)
    (Got w w.heap.size) (fun _ _ _ => False) hgo (fun _ _ _ _ _ hs _ _ => hs)
    ⟨none, 0, hv0, World.ownsRow_nil _ _ _ _, hb0⟩
    (fun x => { tmps := #[.slice none 0 0, .func (.func 59) #[] #[.pointer (some ⟨Bs, 0, none⟩)], .pointer (some ⟨w.heap.size, 0, none⟩), undef, .slice none 0 0, .int .i64 x, .func (.func 59) #[] #[.pointer (some ⟨Bs, 0, none⟩)], .int .i64 x, undef, undef, undef, undef, undef], defers := [] }) ?assign ?body ?done ?stop
  case assign =>
    intro l x W K hK
    gi_wp2
    exact hK
  case body =>
    rintro l pre x W ⟨p1, c1, g1, g2, g3⟩ hpre
    obtain ⟨hc2, hf2⟩ : W.cell? ⟨w.heap.size, 0, none⟩ = some (.slice p1 pre.length c1) ∧ W.frozen? ⟨w.heap.size, 0, none⟩ = false := by
      simp [World.cell?, World.frozen?, g1]
    have hB1 : w.heap.size < W.heap.size := (Array.getElem?_eq_some_iff.1 g1).1
    have hpl : pre.length + 1 ≤ 1000001 := by omega
    gi_wp2_with (first
      | (gi_at_builtin; refine wpListIn_append_own _ rfl _ _ 23 rfl (w.heap.size + 1) 3 i0 (.int .i64 0) 1 8 Try.underlying23 hi hz0 hz1 hz2 rfl (by decide) _ pre.length _ rfl (g2.alloc _) ⟨W.heap.size, 0, none⟩ 1 1 [.int .i64 x] rfl rfl (cell_one_new _ _ _) (by simp [Value.oneCell']) (by simp [maxLen]; omega) (by omega) (by simp; omega) ?_; intro v' w3 hown' hg3 hnil3; obtain ⟨p', c', rfl⟩ := own_value hown'; obtain ⟨hg1', hc3, hf3⟩ := box_after g1 g2 hg3; go_frame))
    exact got_stored rfl g1 g2 g3 hg3 hown'
  case done =>
    rintro D ys W hD rfl hgot hK
    obtain ⟨p2, c2, e1, e2, e3⟩ := hgo.putObj (.deferred none) hgot hD hK rfl
    obtain ⟨p1, c1, g1, g2, g3⟩ := hgot
    obtain ⟨hc2, hf2⟩ : W.cell? ⟨w.heap.size, 0, none⟩ = some (.slice p1 ys.length c1) ∧ W.frozen? ⟨w.heap.size, 0, none⟩ = false := by
      simp [World.cell?, World.frozen?, g1]
    have he : p1 = p2 ∧ c1 = c2 := by
      have hne : w.heap.size ≠ D := by omega
      rw [World.putObj_heap_other hne, g1] at e1
      simp at e1; exact e1
    obtain ⟨rfl, rfl⟩ := he
    gi_wp2
    refine ⟨by simp, .inl ⟨_, _, rfl, run_takeDeferred hK, ?_⟩⟩
    exact ⟨_, results_tmp rfl _ _ _, p1, c1, rfl, Own.lower ⟨e2, fun j hj => hI.rng j hj⟩ (by omega), e3⟩
  case stop =>
    rintro D c pre W _ _ h _
    exact h.elim

set_option maxHeartbeats 1000000 in
theorem collect_in (F : Fence) (n : Nat) (h6 : F.fn 57) (h7 : F.fn 59) (h8 : F.fn 60) (hro : F.round = none) (hn : 4 ≤ n) (Bs : Nat) (p : Option Addr) (c : Nat) (zs : List Int) (hz : zs.length ≤ 1000000) (w : World)
    (hBs : Bs < w.heap.size) (hc : w.cell? ⟨Bs, 0, none⟩ = some (.slice p zs.length c)) (hI : Ints w p c zs) :
    CallsIn F n Try.prog 57 #[.func (.func 59) #[] #[.pointer (some ⟨Bs, 0, none⟩)]] w fun e w' => ∃ p' c', e = .returned (.slice p' zs.length c') ∧ Own w' w.heap.size p' c' zs ∧ Below w.heap.size w w' := by
  have h1 : 1 ≤ n := by omega
  refine callsIn_of_wp Try.func57 rfl h6 ?_ hro
  simp only [Try.ntmps57, List.size_toArray, List.length_cons, List.length_nil, Nat.reduceAdd, Nat.reduceSub, Array.replicate_succ, Array.replicate_zero, List.push_toArray, List.append_toArray, List.nil_append, List.cons_append]
  gi_wp2_with (gi_at_call 60; refine (appendSeq_in F (n - 1) h7 h8 hro (by omega) Bs p c zs hz _ hBs hc hI).mono ?_; rintro e w' ⟨p', c', rfl, ho, hb⟩)
  go_ret
  exact ⟨p', c', rfl, ho, hb⟩

end Go.Proofs.Ytcgaojnfgkfnkaa
