/- The walk of room.Even, for every flat. -/
import Derived.Test.YtmcncflieoolmaaTopTopRentm12
import Derived.Test.YtmcncflieoolmaaTopTopRentm2
import Derived.Test.YtmcncflieoolmaaTopTopRentm7
import Derived.Test.YtmcncflieoolmaaTopTopRentm9
/- The walk of room.Even, for every flat. -/
namespace Go.Proofs.Ytmcncflieoolmaa
set_option linter.unusedVariables false
set_option linter.unusedSimpArgs false
open Go.ChangeShapes Go.WideShapes Go.ChangeAt Go.RowKit Go.Deep

theorem roomGcd_int (a b : Int) (w : World) (ha0 : 0 ≤ a) (hb0 : 0 ≤ b) (ha : a ≤ 4611686018427387904) (hb : b ≤ 4611686018427387904) :
    Calls Try.prog 20 #[.int .i64 a, .int .i64 b] w fun e w' => e = .returned (.int .i64 (Nat.gcd a.toNat b.natAbs : Nat)) ∧ ∃ n, w' = w.drewN n := by
  have h := roomGcd_any a.toNat b.toNat w (by omega) (by omega)
  rw [show ((a.toNat : Nat) : Int) = a by omega, show ((b.toNat : Nat) : Int) = b by omega] at h
  rw [show b.natAbs = b.toNat by omega]
  exact h
/-- A lease under way, in block S. -/
structure LB (w : World) (S : Nat) (x : Value) (q : Option Addr) (m d : Nat) (z : Int) : Prop where
  c0 : w.cell? ⟨S, 0, none⟩ = some x
  c1 : w.cell? ⟨S, 1, none⟩ = some (.slice q m d)
  c2 : w.cell? ⟨S, 2, none⟩ = some (.int .i64 z)
  f1 : w.frozen? ⟨S, 1, none⟩ = false
  f2 : w.frozen? ⟨S, 2, none⟩ = false
  lt : S < w.heap.size
theorem LB.below {w w' : World} {S B : Nat} {x : Value} {q : Option Addr} {m d : Nat} {z : Int} (h : LB w S x q m d z) (hb : Below B w w') (hS : S < B) : LB w' S x q m d z :=
  have hc : ∀ k, w'.cell? ⟨S, k, none⟩ = w.cell? ⟨S, k, none⟩ := fun k => hb.cell (p := ⟨S, k, none⟩) hS
  have hf : ∀ k, w'.frozen? ⟨S, k, none⟩ = w.frozen? ⟨S, k, none⟩ := fun k => hb.frozen (p := ⟨S, k, none⟩) hS
  ⟨(hc 0).trans h.c0, (hc 1).trans h.c1, (hc 2).trans h.c2, (hf 1).trans h.f1, (hf 2).trans h.f2, Nat.lt_of_lt_of_le h.lt hb.size⟩
theorem LB.set1 {w : World} {S : Nat} {x : Value} {q q' : Option Addr} {m d m' d' : Nat} {z : Int} (h : LB w S x q m d z) : LB (w.setCell ⟨S, 1, none⟩ (.slice q' m' d')) S x q' m' d' z :=
  ⟨cell_other h.c0 (by omega), World.cell?_setCell_same _ _ _ h.c1, cell_other h.c2 (by omega), by rw [World.frozen?_setCell]; exact h.f1, by rw [World.frozen?_setCell]; exact h.f2, by simpa [World.setCell] using h.lt⟩
theorem LB.set2 {w : World} {S : Nat} {x : Value} {q : Option Addr} {m d : Nat} {z y : Int} (h : LB w S x q m d z) : LB (w.setCell ⟨S, 2, none⟩ (.int .i64 y)) S x q m d y :=
  ⟨cell_other h.c0 (by omega), cell_other h.c1 (by omega), World.cell?_setCell_same _ _ _ h.c2, by rw [World.frozen?_setCell]; exact h.f1, by rw [World.frozen?_setCell]; exact h.f2, by simpa [World.setCell] using h.lt⟩
theorem LB.far {w : World} {S g k : Nat} {x u : Value} {q : Option Addr} {m d : Nat} {z : Int} (h : LB w S x q m d z) (hg : S < g) : LB (w.setCell ⟨g, k, none⟩ u) S x q m d z :=
  h.below (B := S + 1) ((Below.refl _ _).setCell (p := ⟨g, k, none⟩) hg _) (Nat.lt_succ_self S)
theorem LB.drew {w w' : World} {S : Nat} {x : Value} {q : Option Addr} {m d : Nat} {z : Int} (h : LB w S x q m d z) (hw : ∃ n, w' = w.drewN n) : LB w' S x q m d z := by
  obtain ⟨n, rfl⟩ := hw
  exact h.below (B := S + 1) (below_drewN _ _ n) (Nat.lt_succ_self S)
/-- The numbers, the first j of them divided. -/
def divTo (l : List Int) (g j : Nat) : List Int := (List.range l.length).map fun i => if i < j then (iget l i).tdiv g else iget l i
theorem divTo_len (l : List Int) (g j : Nat) : (divTo l g j).length = l.length := by simp [divTo]
theorem divTo_get {l : List Int} {g j i : Nat} (h : i < l.length) : iget (divTo l g j) i = if i < j then (iget l i).tdiv g else iget l i := by simp [divTo, iget, h]
theorem divTo_zero (l : List Int) (g : Nat) : divTo l g 0 = l := ints_ext' (fun i hi => by rw [divTo_len] at hi; rw [divTo_get hi]; simp) (divTo_len _ _ _)
theorem divTo_all (l : List Int) (n : Nat) : divTo l (gcdL n l) l.length = lowL n l := ints_ext' (fun i hi => by
  rw [divTo_len] at hi
  rw [divTo_get hi, if_pos hi]
  simp [lowL, iget, hi]) (by rw [divTo_len, lowL_length])
theorem divTo_succ {l : List Int} {g j : Nat} (h : j < l.length) : divTo l g (j + 1) = (divTo l g j).set j ((iget l j).tdiv g) := ints_ext' (fun i hi => by
  rw [divTo_len] at hi
  rw [divTo_get hi, iget_set (by rw [divTo_len]; exact h), divTo_get hi]
  by_cases e : j = i
  · subst e; rw [if_pos rfl, if_pos (by omega)]
  · rw [if_neg e]
    by_cases e2 : i < j
    · rw [if_pos e2, if_pos (by omega)]
    · rw [if_neg e2, if_neg (by omega)]) (by simp [divTo])
/-- What an append to the lease's prices leaves. -/
theorem lb_grow {w w3 : World} {S : Nat} {x : Value} {q : Option Addr} {d : Nat} {zs : List Int} {z : Int} {o : Obj} (h : LB w S x q zs.length d z) (hO : Own w (S + 1) q d zs) (hg : w.grownBy w3 (blk q)) : LB w3 S x q zs.length d z :=
  h.below (B := S + 1) ((Below.refl _ _).grown hg (by have := h.lt; omega) (fun k e => (hO.lt k e).1)) (Nat.lt_succ_self S)
theorem lb_grow' {w w3 : World} {S : Nat} {x : Value} {q : Option Addr} {d : Nat} {zs : List Int} {z : Int} (h : LB w S x q zs.length d z) (hO : Own w (S + 1) q d zs) (hg : w.grownBy w3 (blk q)) : LB w3 S x q zs.length d z :=
  h.below (B := S + 1) ((Below.refl _ _).grown hg (by have := h.lt; omega) (fun k e => (hO.lt k e).1)) (Nat.lt_succ_self S)

set_option maxHeartbeats 8000000 in
set_option maxRecDepth 100000 in
theorem roomEven_any (p : Option Addr) (c : Nat) (v : List (List Int)) (r : Int) (w : World) (hx : Mat w p c v) :
    Calls Try.prog 6 #[.agg #[.slice p v.length c, .int .i64 r]] w (GivesLease w (evenX v r) (evenY v r) (evenZ v r) (chkR v r)) := by
  obtain ⟨W0, hW0⟩ : ∃ W0, (w.alloc (.cells #[.slice p v.length c, .int .i64 r] 24)).alloc (.cells #[.slice none 0 0, .slice none 0 0, .int .i64 0] 29) = W0 := ⟨_, rfl⟩
  have hb0 : Below w.heap.size w W0 := by rw [← hW0]; exact ((Below.refl _ _).alloc (Nat.le_refl _) _).alloc (by simp) _
  have hx1 := hx.below hb0 (Nat.le_refl _)
  have hs0 : W0.heap.size = w.heap.size + 2 := by rw [← hW0]; simp
  have h3 : Three W0 (w.heap.size + 1) := Three.new (by simp) hW0.symm
  have H3 := Lib.hid h3
  clear h3
  have hbx0 : W0.cell? ⟨w.heap.size, 0, none⟩ = some (.slice p v.length c) := by rw [← hW0]; simp
  have hbx1 : W0.cell? ⟨w.heap.size, 1, none⟩ = some (.int .i64 r) := by rw [← hW0]; simp
  have HW0 := Lib.hid hW0
  have Hs0 := Lib.hid hs0
  clear hW0 hs0
  by_cases hF : chkR v r = 0
  · obtain ⟨hv, hr1, hr2⟩ := chkR_zero.1 hF
    have h6 := hv.2.1
    have h0 := hv.1
    have hcz : (chkR v r != 0) = false := by rw [hF]; rfl
    have HX : Hid (evenX v r = bestA v) := by unfold Hid evenX; rw [if_pos hF]
    have HY : Hid (evenY v r = lowL v.length (rawP v r)) := by unfold Hid evenY; rw [if_pos hF]
    have HZ : Hid (evenZ v r = lowN v.length (rawP v r)) := by unfold Hid evenZ; rw [if_pos hF]
    have HF := Lib.hid hF
    have Hv := Lib.hid hv
    clear hF hv
    go_enter Try.func6, Try.ntmps6
    go_wp2_with fail
    rw [HW0.out]
    refine (roomCheck_any p c v r _ hx1).mono ?_
    rintro e w1 ⟨rfl, hb1⟩
    have hx2 := hx1.below hb1 (Nat.le_refl _)
    have hB1 : Below W0.heap.size W0 w1 := hb1
    have hbx := (hB1.cell (p := ⟨w.heap.size, 0, none⟩) (by have := Hs0.out; simp only; omega)).trans hbx0
    clear hb1 hx1
    go_wp2_with fail
    refine (best_okR p c v w1 hx2 Hv.out).mono ?_
    rintro e w2 ⟨pa, ca, rfl, hAo, hb2⟩
    have hx3 := hx2.below hb2 (Nat.le_refl _)
    have hB2 := hB1.trans (hb2.mono hB1.size)
    have hbx := (hB2.cell (p := ⟨w.heap.size, 0, none⟩) (by have := Hs0.out; simp only; omega)).trans hbx0
    clear hb2 hx2
    go_wp2_with fail
    refine (prices_okR p c v w2 hx3 Hv.out).mono ?_
    rintro e w3 ⟨pl, cl, rfl, hLo, hb3⟩
    have hL := hLo.ints
    have hB3 := hB2.trans (hb3.mono hB2.size)
    have hA3 := hAo.below hb3 (Nat.le_refl _)
    have hbase : w.heap.size + 2 ≤ w1.heap.size := by have := hB1.size; have := Hs0.out; omega
    have hbr := (hB3.cell (p := ⟨w.heap.size, 1, none⟩) (by have := Hs0.out; simp only; omega)).trans hbx1
    have Hlen := Lib.hid (least_len v)
    have Hlb : Hid (∀ j, j < v.length → 0 ≤ iget (leastL v (bestA v)) j ∧ iget (leastL v (bestA v)) j ≤ 6000000) := fun j hj => least_get Hv.out hj
    have Hpb : Hid (∀ j, j < v.length → 0 ≤ iget (leastL v (bestA v)) j * v.length ∧ iget (leastL v (bestA v)) j * v.length ≤ 36000000) := fun j hj => prod_bound Hv.out hj
    have Hsb : Hid (∀ k, k ≤ v.length → 0 ≤ sumTo (iget (leastL v (bestA v))) k ∧ sumTo (iget (leastL v (bestA v))) k ≤ 36000000) := fun k hk => sum_bound Hv.out hk
    have Hraw : Hid (∀ j, j < v.length → iget (rawP v r) j = iget (leastL v (bestA v)) j * v.length + (r - sumTo (iget (leastL v (bestA v))) v.length)) := fun j hj => rawP_get hj
    have HXa : Hid ((bestA v).length = v.length) := (bestA_best h0).1.1
    obtain ⟨L, hLL⟩ : ∃ L, leastL v (bestA v) = L := ⟨_, rfl⟩
    rw [hLL] at hL Hlen Hlb Hpb Hsb Hraw
    have hsz3 : w.heap.size + 2 ≤ w3.heap.size := by have := hB3.size; have := Hs0.out; omega
    clear hLL hb3 hB2 hx3 hbx hB1 hLo hAo
    go_wp2_with fail
    go_loop [10, 41] (fun s t => ∃ k : Nat, k ≤ v.length ∧ t = .int .i64 k ∧ s = .int .i64 (r - sumTo (iget L) k)) (fun _ t => v.length - (intOf t).toNat)
    case atStart => exact ⟨0, Nat.zero_le _, rfl, by simp [sumTo]⟩
    case round =>
      obtain ⟨k, hk, rfl, rfl⟩ := hrel
      have hsb := Hsb.out k hk
      by_cases hlt : k < v.length
      · obtain ⟨b, o, rfl, _, hc⟩ := hL.get (j := k) (by rw [Hlen.out]; exact hlt)
        have hk1 : (k : Int) < v.length := by omega
        have hlb := Hlb.out k hlt
        have Hsn : Hid (sumTo (iget L) (k + 1) = sumTo (iget L) k + iget L k) := rfl
        obtain ⟨S, hS⟩ : ∃ S, sumTo (iget L) k = S := ⟨_, rfl⟩
        obtain ⟨y, hy⟩ : ∃ y, iget L k = y := ⟨_, rfl⟩
        rw [hS] at hsb Hsn ⊢
        rw [hy] at hc hlb Hsn
        clear hS hy
        go_wp2_with fail
        go_round
        case rel => exact ⟨k + 1, by omega, by go_num, by rw [Hsn.out]; congr 1; omega⟩
        case measure => simp [intOf]; omega
      · have hk1 : ¬ (k : Int) < v.length := by omega
        obtain rfl : k = v.length := by omega
        obtain ⟨R, hR⟩ : ∃ R, r - sumTo (iget L) v.length = R := ⟨_, rfl⟩
        have hR1 : -36000000 ≤ R := by omega
        have hR2 : R ≤ 10000000 := by omega
        rw [hR] at Hraw ⊢
        clear hR hsb hbr
        go_wp2_with fail
        go_loopw [14, 57] (fun s i wr => ∃ m : Nat, m ≤ v.length ∧ i = .int .i64 m ∧ (∃ zs q d, Hid (zs = (rawP v r).take m) ∧ s = .int .i64 (gcdL v.length zs : Nat) ∧ LB wr w3.heap.size (.slice pa v.length ca) q (zs : List Int).length d v.length ∧ Own wr (w3.heap.size + 1) q d zs) ∧ Below w3.heap.size w3 wr) (fun _ i _ => v.length - (intOf i).toNat)
        case atStart =>
          have hc : ∀ k, (w3.alloc (.cells #[.slice pa v.length ca, .slice none 0 0, .int .i64 v.length] 29)).cell? ⟨w3.heap.size, k, none⟩ = #[.slice pa v.length ca, .slice none 0 0, .int .i64 v.length][k]? := fun k => World.cell?_alloc_at _ _ _ _ rfl
          exact ⟨0, by omega, rfl, ⟨[], none, 0, rfl, by simp [gcdL], ⟨hc 0, hc 1, hc 2, World.frozen?_alloc_at _ _ _ _ rfl, World.frozen?_alloc_at _ _ _ _ rfl, by simp⟩, Own.ofNil _ _⟩, (Below.refl _ _).alloc (Nat.le_refl _) _⟩
        case round =>
          obtain ⟨m, hm, rfl, ⟨zs, q, d, hz, rfl, hLB, hO⟩, hBm⟩ := hrel
          by_cases hml : m < v.length
          · obtain ⟨b, o, rfl, _, hc⟩ := (hL.below hBm (Nat.le_refl _)).get (j := m) (by rw [Hlen.out]; exact hml)
            have hm1 : (m : Int) < v.length := by omega
            have hlb := Hlb.out m hml
            have hpb := Hpb.out m hml
            have hzl : zs.length ≤ 900000 := by rw [hz.out, List.length_take]; omega
            have hrm := Hraw.out m hml
            have Hsn : Hid ((rawP v r).take (m + 1) = (rawP v r).take m ++ [iget (rawP v r) m]) := take_snocI (by rw [rawP_len]; exact hml)
            rw [hrm] at Hsn
            have hgl := gcdL_le zs h0
            have hsz : w3.heap.size + 1 ≤ wr.heap.size := hLB.lt
            clear hrm
            obtain ⟨y, hy⟩ : ∃ y, iget L m = y := ⟨_, rfl⟩
            rw [hy] at hc hlb Hsn hpb
            clear hy
            have hng : -y * (v.length : Int) = -(y * v.length) := Int.neg_mul _ _
            have hy64 : in64 (y * v.length + R) := ⟨by omega, by omega⟩
            have HLB := Lib.hid hLB
            have HO := Lib.hid hO
            have c0 := hLB.c0
            have c1 := hLB.c1
            have c2 := hLB.c2
            have f1 := hLB.f1
            clear hLB hO
            obtain ⟨P, hP⟩ : ∃ P, y * (v.length : Int) = P := ⟨_, rfl⟩
            rw [hP] at hpb hng hy64 Hsn
            have HP := Lib.hid hP
            go_wp2_with (at_builtin; refine wpList_app1 rfl (.tmp 62) (.tmp 69) rfl (w3.heap.size + 1) _ _ zs (P + R) rfl rfl rfl HO.out hy64 hzl hsz ?_; intro p3 c3 w4 ys hys hO3 hg3 hf3; have HL4 := Lib.hid (lb_grow' HLB.out HO.out hg3); have k1 := HL4.out.c1; have k2 := HL4.out.c2; have e1 := HL4.out.f1)
            all_goals
              refine (roomGcd_int _ _ _ (by omega) (by omega) (by omega) (by omega)).mono ?_
              rintro e w5 ⟨rfl, hw⟩
              rw [Int.toNat_natCast]
              have hmx : (max (P + R) (-P - R)).natAbs = (P + R).natAbs := by omega
              first
                | rw [hmx]
                | rw [show (-P - R).natAbs = (P + R).natAbs by omega]
                | skip
              clear hmx
              rw [← gcdL_snoc, ← hys.out]
              have HL5 := Lib.hid (((HL4.out.set1 (q' := p3) (m' := ys.length) (d' := c3))).drew hw)
              have HO5 := Lib.hid ((hO3.setCell_far (j := 1) (.slice p3 ys.length c3) (Nat.lt_succ_self _)).drew hw)
              have HB5 := Lib.hid (((hBm.grown hg3 (by omega) (fun k' e => Nat.le_trans (Nat.le_succ _) (HO.out.lt k' e).1)).setCell (p := ⟨w3.heap.size, 1, none⟩) (Nat.le_refl _) (.slice p3 ys.length c3)).drewP hw)
              clear k1 k2 e1 hO3 hg3 hf3 hw c0 c1 c2 f1
              go_wp2_with fail
              go_roundw
              case rel => exact ⟨m + 1, by omega, by go_num, ⟨ys, p3, c3, by unfold Hid; rw [Hsn.out, ← hz.out]; exact hys.out, rfl, HL5.out, HO5.out⟩, HB5.out⟩
              case measure => simp [intOf]; omega
          · have hm1 : ¬ (m : Int) < v.length := by omega
            obtain rfl : m = v.length := by omega
            have hzr : zs = rawP v r := by rw [hz.out, List.take_of_length_le (by rw [rawP_len]; exact Nat.le_refl _)]
            subst hzr
            have Hrl := Lib.hid (rawP_len v r)
            have Hrb := Lib.hid (raw_bound Hv.out hr1 hr2)
            have hg1 := gcdL_pos (rawP v r) h0
            have hg2 := gcdL_le (rawP v r) h0
            have HN : Hid ((v.length : Int) / (gcdL v.length (rawP v r) : Nat) = lowN v.length (rawP v r)) := by unfold Hid lowN; simp
            have Hda := Lib.hid (divTo_all (rawP v r) v.length)
            rw [Hrl.out] at Hda
            obtain ⟨gq, rfl, _, _, _, _⟩ := hO.get (j := 0) (by rw [Hrl.out]; exact h0)
            rw [← divTo_zero (rawP v r) (gcdL v.length (rawP v r))] at hO
            rw [Hrl.out] at hLB
            obtain ⟨G, hG⟩ : ∃ G, gcdL v.length (rawP v r) = G := ⟨_, rfl⟩
            rw [hG] at hg1 hg2 HN Hda hO ⊢
            have hG0 : (0 : Int) < G := by omega
            have hq1 : (0 : Int) ≤ (v.length : Int) / G := Int.ediv_nonneg (by omega) (by omega)
            have hq2 : (v.length : Int) / G ≤ 6 := Int.le_trans (Int.ediv_le_self _ (by omega)) (by omega)
            have HLB := Lib.hid hLB
            have HO := Lib.hid hO
            have HBm := Lib.hid hBm
            clear hG hz hLB hO hBm
            go_wp2_with fail
            go_loopw [91] (fun t wr => ∃ j : Nat, j ≤ v.length ∧ t = .int .i64 j ∧ LB wr w3.heap.size (.slice pa v.length ca) (some ⟨gq, 0, none⟩) v.length d v.length ∧ Own wr (w3.heap.size + 1) (some ⟨gq, 0, none⟩) d (divTo (rawP v r) G j) ∧ Below w3.heap.size w3 wr) (fun t _ => v.length - (intOf t).toNat)
            case atStart => exact ⟨0, by omega, rfl, HLB.out, HO.out, HBm.out⟩
            case round =>
              obtain ⟨j, hj, rfl, hLB, hO, hBm⟩ := hrel
              by_cases hjl : j < v.length
              · have hj1 : (j : Int) < v.length := by omega
                have hjr : j < (rawP v r).length := by rw [Hrl.out]; exact hjl
                have hcj := hO.at (j := j) (by rw [divTo_len]; exact hjr)
                rw [divTo_get hjr, if_neg (Nat.lt_irrefl j)] at hcj
                have hfj := hO.free j
                have hrb := Hrb.out j hjr
                have hbt := tdiv_bound (x := iget (rawP v r) j) (d := G) (M := 1000000000) (by omega) hrb.1 hrb.2
                have Hst := Lib.hid (divTo_succ (g := G) hjr)
                have hgq := (hO.lt gq rfl).1
                obtain ⟨y, hy⟩ : ∃ y, iget (rawP v r) j = y := ⟨_, rfl⟩
                rw [hy] at hcj hrb hbt Hst
                have hy64 : in64 (y.tdiv G) := ⟨by omega, by omega⟩
                have HL5 := Lib.hid (hLB.far (k := j) (u := .int .i64 (y.tdiv G)) hgq)
                have HO5 := Lib.hid (hO.set j hy64).1
                have HB5 := Lib.hid (hBm.setCell (p := ⟨gq, j, none⟩) (by simp only; omega) (.int .i64 (y.tdiv G)))
                have c1 := hLB.c1
                clear hy hLB hO hBm
                go_wp2_with fail
                go_roundw
                case rel => exact ⟨j + 1, by omega, by go_num, HL5.out, by rw [Hst.out]; exact HO5.out, HB5.out⟩
                case measure => simp [intOf]; omega
              · have hj1 : ¬ (j : Int) < v.length := by omega
                obtain rfl : j = v.length := by omega
                rw [Hda.out] at hO
                have hB5 := hB3.trans (hBm.mono hB3.size)
                have h3 := H3.out.below hB5 (by have := Hs0.out; omega)
                have HBm := Lib.hid hBm
                have HO := Lib.hid hO
                have c0 := hLB.c0
                have c1 := hLB.c1
                have c2 := hLB.c2
                have f2 := hLB.f2
                have hne : w.heap.size + 1 < w3.heap.size := by omega
                have HL6 := Lib.hid (hLB.set2 (y := (v.length : Int) / G))
                have h36 : Three (wr.setCell ⟨w3.heap.size, 2, none⟩ (.int .i64 ((v.length : Int) / G))) (w.heap.size + 1) := h3.below (B := w3.heap.size) ((Below.refl _ _).setCell (p := ⟨w3.heap.size, 2, none⟩) (Nat.le_refl _) _) hne
                have H36 := Lib.hid h36
                clear hBm hO hLB hB5
                obtain ⟨⟨x0, t0⟩, ⟨x1, t1⟩, ⟨x2, t2⟩, u0, u1, u2⟩ := h3
                have HA6 := Lib.hid (hA3.below (HBm.out.setCell (p := ⟨w3.heap.size, 2, none⟩) (Nat.le_refl _) (.int .i64 ((v.length : Int) / G))) (Nat.le_refl _))
                have HO6 := Lib.hid (HO.out.setCell_far (j := 2) (.int .i64 ((v.length : Int) / G)) (Nat.lt_succ_self _))
                have HBw := Lib.hid (hb0.trans ((hB3.trans ((HBm.out.setCell (p := ⟨w3.heap.size, 2, none⟩) (Nat.le_refl _) (.int .i64 ((v.length : Int) / G))).mono hB3.size)).mono hb0.size))
                have Hll := Lib.hid (lowL_length v.length (rawP v r))
                clear hb0 hB3 hA3
                go_wp2_with fail
                obtain ⟨k0, k1, k2⟩ := H36.out.set (.slice pa v.length ca) (.slice (some ⟨gq, 0, none⟩) v.length d) (.int .i64 ((v.length : Int) / G))
                refine bodyPost_ret (v := .tuple #[.agg #[.slice pa v.length ca, .slice (some ⟨gq, 0, none⟩) v.length d, .int .i64 ((v.length : Int) / G)], .int .i64 0]) (by simp [results, Try.results6, go_sem, k0, k1, k2]) rfl ?_
                rw [HX.out, HY.out, HZ.out, HF.out, HN.out]
                refine ⟨pa, ca, some ⟨gq, 0, none⟩, d, by rw [HXa.out, Hll.out, Hrl.out], ?_, ?_, ?_⟩
                · rw [← HN.out]
                  exact (((HA6.out.setCell_far _ (by omega)).setCell_far _ (by omega)).setCell_far _ (by omega)).ints
                · rw [← HN.out]
                  exact (((HO6.out.setCell_far _ (by omega)).setCell_far _ (by omega)).setCell_far _ (by omega)).ints
                · rw [← HN.out]
                  exact ((HBw.out.setCell (p := ⟨w.heap.size + 1, 0, none⟩) (by simp) _).setCell (p := ⟨w.heap.size + 1, 1, none⟩) (by simp) _).setCell (p := ⟨w.heap.size + 1, 2, none⟩) (by simp) _
  · have hcz : (chkR v r != 0) = true := by rw [bne_iff_ne]; exact hF
    have HX : Hid (evenX v r = []) := by unfold Hid evenX; rw [if_neg hF]
    have HY : Hid (evenY v r = []) := by unfold Hid evenY; rw [if_neg hF]
    have HZ : Hid (evenZ v r = 0) := by unfold Hid evenZ; rw [if_neg hF]
    clear hF
    go_enter Try.func6, Try.ntmps6
    go_wp2_with fail
    rw [HW0.out]
    refine (roomCheck_any p c v r _ hx1).mono ?_
    rintro e w1 ⟨rfl, hb1⟩
    have h3 := H3.out.below hb1 (by have := Hs0.out; omega)
    have H3' := Lib.hid h3
    obtain ⟨⟨x0, c0⟩, ⟨x1, c1⟩, ⟨x2, c2⟩, f0, f1, f2⟩ := h3
    have HB := Lib.hid (hb0.trans (hb1.mono hb0.size))
    clear hb0 hb1
    go_wp2_with fail
    obtain ⟨k0, k1, k2⟩ := H3'.out.set (.slice none 0 0) (.slice none 0 0) (.int .i64 0)
    refine bodyPost_ret (v := .tuple #[.agg #[.slice none 0 0, .slice none 0 0, .int .i64 0], .int .i64 (chkR v r)]) (by simp [results, Try.results6, go_sem, k0, k1, k2]) rfl ?_
    rw [HX.out, HY.out, HZ.out]
    exact ⟨none, 0, none, 0, rfl, Ints.ofNil _, Ints.ofNil _, ((HB.out.setCell (p := ⟨w.heap.size + 1, 0, none⟩) (by simp) _).setCell (p := ⟨w.heap.size + 1, 1, none⟩) (by simp) _).setCell (p := ⟨w.heap.size + 1, 2, none⟩) (by simp) _⟩
end Go.Proofs.Ytmcncflieoolmaa

/- Boxes: blocks whose first cells are known, below what comes later; no condition. -/
namespace Go.Proofs.Ytmcncflieoolmaa
set_option linter.unusedVariables false
set_option linter.unusedSimpArgs false
open Go.ChangeShapes Go.WideShapes Go.ChangeAt Go.RowKit Go.Deep

/-- A block whose first cells are known. -/
structure BoxV (w : World) (S : Nat) (vs : List Value) : Prop where
  lt : S < w.heap.size
  cell : ∀ (k : Nat) (v : Value), vs[k]? = some v → w.cell? ⟨S, k, none⟩ = some v
theorem BoxV.below {w w' : World} {S : Nat} {vs : List Value} (h : BoxV w S vs) (hb : Below w.heap.size w w') : BoxV w' S vs :=
  ⟨Nat.lt_of_lt_of_le h.lt hb.size, fun k v hk => (hb.cell (p := ⟨S, k, none⟩) h.lt).trans (h.cell k v hk)⟩
theorem BoxV.new {w w' : World} {S : Nat} {vs : List Value} {t : TypeId} (hS : w.heap.size = S) (hw : w.alloc (.cells vs.toArray t) = w') : BoxV w' S vs := by
  subst hS hw
  exact ⟨by simp, fun k v hk => (World.cell?_alloc_at _ _ _ _ rfl).trans (by simpa using hk)⟩
theorem below_alloc {w w' : World} {o : Obj} (hw : w.alloc o = w') : Below w.heap.size w w' := by subst hw; exact (Below.refl _ _).alloc (Nat.le_refl _) _
end Go.Proofs.Ytmcncflieoolmaa

/- Boxes of two cells that are put anew; what stays of a table beside them; no condition. -/
namespace Go.Proofs.Ytmcncflieoolmaa
set_option linter.unusedVariables false
set_option linter.unusedSimpArgs false
open Go.ChangeShapes Go.WideShapes Go.ChangeAt Go.RowKit Go.Deep

theorem boxV_put {w : World} {S : Nat} {x y u v : Value} (h0 : w.cell? ⟨S, 0, none⟩ = some x) (h1 : w.cell? ⟨S, 1, none⟩ = some y) (hS : S < w.heap.size) : BoxV ((w.setCell ⟨S, 0, none⟩ u).setCell ⟨S, 1, none⟩ v) S [u, v] := by
  obtain ⟨k0, k1⟩ := Two.set (x := u) (y := v) h0 h1
  refine ⟨by simpa [World.setCell] using hS, fun k z hk => ?_⟩
  match k, hk with
  | 0, hk => simp at hk; subst hk; exact k0
  | 1, hk => simp at hk; subst hk; exact k1
theorem DMat.farSet {w : World} {base S j : Nat} {p : Option Addr} {c : Nat} {v : List (List Int)} {Q : Nat → Option Addr} {D : Nat → Nat} {u : Value} (h : DMat w base p c v Q D) (hS : S < base) : DMat (w.setCell ⟨S, j, none⟩ u) base p c v Q D :=
  h.above (fun k hk => Below.heap_setCell w ⟨S, j, none⟩ _ k (fun e => by simp only at e; omega))
end Go.Proofs.Ytmcncflieoolmaa
