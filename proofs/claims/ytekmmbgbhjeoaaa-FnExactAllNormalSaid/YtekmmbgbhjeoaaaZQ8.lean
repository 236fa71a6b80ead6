/- Squares: both parts of the program take the same for squares. No condition. -/
import Derived.Test.YtekmmbgbhjeoaaaZQ7
set_option linter.unusedVariables false
set_option linter.unusedSimpArgs false
namespace Go.Mi
open Go Go.Sx Go.Pl

/-- a permutation's row, as numbers -/
theorem perm_iff {row : Vector Int 10} {n : Int} (hn : 1 ≤ n ∧ n ≤ 10) (hr : isU8 row) (hlt : ∀ i : Nat, (i : Int) < n → gv row i < n) :
    bitsOf (fun i => (gv row (i : Int)).toNat) n.toNat = 2 ^ n.toNat - 1 ↔ ∀ i : Nat, (i : Int) < n → ∀ j : Nat, j < i → gv row j ≠ gv row i := by
  have hb : ∀ i, i < n.toNat → (gv row (i : Int)).toNat < n.toNat := fun i hi => by
    have := hlt i (by omega)
    have := hr i (by omega) (by omega)
    omega
  rw [bitsOf_full _ _ _ hb]
  constructor
  · intro hs i hi j hj e
    have := surj_inj hb hs j i (by omega) (by omega) (by rw [e])
    omega
  · intro h v hv
    refine inj_surj hb (fun i j hi hj e => ?_) hv
    have b1 := hr i (by omega) (by omega)
    have b2 := hr j (by omega) (by omega)
    have e' : gv row (i : Int) = gv row (j : Int) := by omega
    rcases Nat.lt_trichotomy i j with h3 | h3 | h3
    · exact absurd e' (h j (by omega) i h3)
    · exact h3
    · exact absurd e'.symm (h i (by omega) j h3)
theorem lines_iff (q : S_Square) (ht : isU8s q.Table) (hn : 1 ≤ q.Order ∧ q.Order ≤ 10) : (∀ x, x < 10 → lineOk q x) ↔ Rows q.Table q.Order ∧ Rows (turned q.Table) q.Order := by
  have htt := isU8s_turned ht
  have bits_congr : ∀ (g g' : Nat → Nat) (k : Nat), (∀ i, i < k → g i = g' i) → bitsOf g k = bitsOf g' k := fun g g' k => by
    induction k with
    | zero => intro _; rfl
    | succ k ih => intro h; rw [bitsOf, bitsOf, ih fun i hi => h i (by omega), h k (by omega)]
  have hcolb : ∀ x : Nat, x < 10 → bitsOf (colN q x) q.Order.toNat = bitsOf (fun i => (gv (gv (turned q.Table) (x : Int)) (i : Int)).toNat) q.Order.toNat := fun x hx =>
    bits_congr _ _ _ fun i hi => by
      rw [gv_turned _ (by omega) (by omega) (by omega) (by omega)]; rfl
  constructor
  · intro h
    refine ⟨fun x hx => ⟨fun hxn => ?_, fun hxn => ?_⟩, fun x hx => ⟨fun hxn => ?_, fun hxn => ?_⟩⟩
    · have hl := h x hx
      have hlt : ∀ i : Nat, (i : Int) < q.Order → gv (gv q.Table (x : Int)) i < q.Order := fun i hi => ((hl.1 i (by omega)).2 hxn hi).1
      have hd := (perm_iff hn (ht x (by omega) (by omega)) hlt).1 (hl.2 hxn).1
      exact fun i hi => ⟨fun h2 => (hl.1 i hi).1 (.inr h2), fun h2 => ⟨hlt i h2, hd i h2⟩⟩
    · refine gv_ext fun y h0 h1 => ?_
      have := ((h x hx).1 y.toNat (by omega)).1 (.inl hxn)
      rw [Int.toNat_of_nonneg h0] at this
      rw [this, gv_replicate _ h0 h1]
    · have hl := h x hx
      have hlt : ∀ i : Nat, (i : Int) < q.Order → gv (gv (turned q.Table) (x : Int)) i < q.Order := fun i hi => by
        rw [gv_turned _ (by omega) (by omega) (by omega) (by omega)]; exact ((hl.1 i (by omega)).2 hxn hi).2
      have hd := (perm_iff hn (htt x (by omega) (by omega)) hlt).1 (by rw [← hcolb x hx]; exact (hl.2 hxn).2)
      refine fun i hi => ⟨fun h2 => ?_, fun h2 => ⟨hlt i h2, hd i h2⟩⟩
      rw [gv_turned _ (by omega) (by omega) (by omega) (by omega)]
      exact ((h i hi).1 x hx).1 (.inl h2)
    · refine gv_ext fun y h0 h1 => ?_
      rw [gv_turned _ (by omega) (by omega) h0 h1, gv_replicate _ h0 h1]
      have := ((h y.toNat (by omega)).1 x hx).1 (.inr hxn)
      rw [Int.toNat_of_nonneg h0] at this
      exact this
  · rintro ⟨h1, h2⟩ x hx
    refine ⟨fun y hy => ⟨fun hxy => ?_, fun hxn hyn => ⟨?_, ?_⟩⟩, fun hxn => ⟨?_, ?_⟩⟩
    · by_cases hxn : (x : Int) < q.Order
      · exact ((h1 x hx).1 hxn y hy).1 (hxy.elim (fun h => by omega) id)
      · rw [(h1 x hx).2 (by omega), gv_replicate _ (by omega) (by omega)]
    · exact (((h1 x hx).1 hxn y hy).2 hyn).1
    · have := (((h2 x hx).1 hxn y hy).2 hyn).1
      rwa [gv_turned _ (by omega) (by omega) (by omega) (by omega)] at this
    · exact (perm_iff hn (ht x (by omega) (by omega)) (fun i hi => (((h1 x hx).1 hxn i (by omega)).2 hi).1)).2 fun i hi => (((h1 x hx).1 hxn i (by omega)).2 hi).2
    · rw [hcolb x hx]
      exact (perm_iff hn (htt x (by omega) (by omega)) (fun i hi => (((h2 x hx).1 hxn i (by omega)).2 hi).1)).2 fun i hi => (((h2 x hx).1 hxn i (by omega)).2 hi).2
open Classical in
theorem isSquare_eq (q : S_Square) (ht : isU8s q.Table) : impl_IsSquare q = some (decide (IsSq q)) := by
  rw [isSquare_lines q ht]
  congr 1
  apply decide_eq_decide.2
  exact ⟨fun ⟨h1, h2⟩ => ⟨h1, (lines_iff q ht h1).1 h2⟩, fun ⟨h1, h2⟩ => ⟨h1, (lines_iff q ht h1).2 h2⟩⟩
end Go.Mi
