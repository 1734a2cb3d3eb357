/- Matrices of the call's own, beside others: what stays, and a store into one number; no condition. -/
import Derived.Test.YtknincjfcicjfaaOwnMat
namespace Go.Proofs.Ytknincjfcicjfaa
open Go.ChangeShapes Go.WideShapes Go.ChangeAt Go.RowKit Go.Deep
set_option linter.unusedVariables false
set_option linter.unusedSimpArgs false

theorem ownsRow_move {w w' : World} {base e n : Nat} {v : Value} {xs : List Value} (h : w.ownsRow base e 1 v n xs) (hk : ∀ k, v.ownBlock = some k → w'.heap[k]? = w.heap[k]?) : w'.ownsRow base e 1 v n xs := by
  refine ⟨h.1, ?_⟩
  rcases h.2 with h1 | ⟨g, cap, cur, rfl, h3, h5, r⟩
  · exact .inl h1
  · exact .inr ⟨g, cap, cur, rfl, h3, (hk g rfl).trans h5, r⟩
theorem Own.move {w w' : World} {base : Nat} {p : Option Addr} {c : Nat} {xs : List Int} (h : Own w base p c xs) (hk : ∀ k, blk p = some k → w'.heap[k]? = w.heap[k]?) : Own w' base p c xs :=
  ⟨ownsRow_move h.row (by rw [ownBlock_slice]; exact hk), h.rng⟩
/-- All its blocks lie below B. -/
def Within (B : Nat) (p : Option Addr) (n : Nat) (Q : Nat → Option Addr) : Prop := (∀ k, blk p = some k → k < B) ∧ ∀ j, j < n → ∀ k, blk (Q j) = some k → k < B
theorem DMat.within {w : World} {base : Nat} {p : Option Addr} {c : Nat} {v : List (List Int)} {Q : Nat → Option Addr} {D : Nat → Nat} (h : DMat w base p c v Q D) : Within w.heap.size p v.length Q :=
  ⟨fun k hk => (h.tmat.lt k hk).2, fun j hj k hk => ((h.rows j hj).lt k hk).2⟩
theorem DMat.move {w w' : World} {base : Nat} {p : Option Addr} {c : Nat} {v : List (List Int)} {Q : Nat → Option Addr} {D : Nat → Nat} (h : DMat w base p c v Q D)
    (h1 : ∀ k, blk p = some k → w'.heap[k]? = w.heap[k]?) (h2 : ∀ j, j < v.length → ∀ k, blk (Q j) = some k → w'.heap[k]? = w.heap[k]?) : DMat w' base p c v Q D :=
  ⟨ownsRow_move h.top (by rw [ownBlock_slice]; exact h1), fun j hj => (h.rows j hj).move (h2 j hj), h.apart⟩
theorem DMat.belowW {w w' : World} {base B : Nat} {p : Option Addr} {c : Nat} {v : List (List Int)} {Q : Nat → Option Addr} {D : Nat → Nat} (h : DMat w base p c v Q D) (hw : Within B p v.length Q) (hb : Below B w w') : DMat w' base p c v Q D :=
  h.move (fun k hk => hb.block k (hw.1 k hk)) (fun j hj k hk => hb.block k (hw.2 j hj k hk))
/-- All its blocks lie from base on: what turns only blocks below base leaves it. -/
theorem DMat.above {w w' : World} {base : Nat} {p : Option Addr} {c : Nat} {v : List (List Int)} {Q : Nat → Option Addr} {D : Nat → Nat} (h : DMat w base p c v Q D) (hk : ∀ k, base ≤ k → w'.heap[k]? = w.heap[k]?) : DMat w' base p c v Q D :=
  h.move (fun k e => hk k (h.tmat.lt k e).1) (fun j hj k e => hk k ((h.rows j hj).lt k e).1)
theorem DMat.setElem {w : World} {base g gt ct : Nat} {v : List (List Int)} {Q : Nat → Option Addr} {D : Nat → Nat} (h : DMat w base (some ⟨gt, 0, none⟩) ct v Q D) {i t : Nat} (hi : i < v.length) (hQ : Q i = some ⟨g, 0, none⟩) {x : Int} (hx : in64 x) :
    DMat (w.setCell ⟨g, t, none⟩ (.int .i64 x)) base (some ⟨gt, 0, none⟩) ct (v.set i ((rget v i).set t x)) Q D := by
  have hr := h.rows i hi
  rw [hQ] at hr
  obtain ⟨h1, h2⟩ := hr.set t hx
  have hgt : gt ≠ g := fun e => by
    have := top_not_row h.top (h.rows i hi)
    rw [hQ] at this
    exact this (by simp [blk, e])
  refine ⟨?_, fun j hj => ?_, fun a b ha hb hne k hk => h.apart a b (by simpa using ha) (by simpa using hb) hne k hk⟩
  · have he : rowsV Q D (v.set i ((rget v i).set t x)) = rowsV Q D v := by
      unfold rowsV
      rw [List.length_set]
      refine List.map_congr_left fun j hj => ?_
      rw [rget_set hi]
      by_cases e : i = j
      · subst e; simp
      · rw [if_neg e]
    rw [he, List.length_set]
    refine ownsRow_move h.top fun k hk => ?_
    rw [ownBlock_slice] at hk
    simp [blk] at hk
    subst hk
    exact Below.heap_setCell w ⟨g, t, none⟩ _ gt (fun e => hgt e)
  · rw [List.length_set] at hj
    rw [rget_set hi]
    by_cases e : i = j
    · subst e
      rw [if_pos rfl, hQ]; exact h1
    · rw [if_neg e]
      refine (h.rows j hj).move fun k hk => ?_
      refine Below.heap_setCell w ⟨g, t, none⟩ _ k (fun ek => ?_)
      simp only at ek
      subst ek
      exact h.apart j i hj hi (fun e2 => e e2.symm) k hk (by rw [hQ]; rfl)
end Go.Proofs.Ytknincjfcicjfaa
