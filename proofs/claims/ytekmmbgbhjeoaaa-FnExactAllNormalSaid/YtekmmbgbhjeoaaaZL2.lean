/- Loops: the reference. Lists of elements. No condition. -/
import Derived.Test.YtekmmbgbhjeoaaaZL
set_option linter.unusedVariables false
set_option linter.unusedSimpArgs false
namespace Go.Mi
open Go Go.Sx Go.Pl

open Classical in
theorem l01Loop_eq (q : S_Square) (ht : isU8s q.Table) : spec_l01Loop q = some (decide (IsLp q)) := by
  unfold spec_l01Loop
  rw [l01Is_eq q ht]
  by_cases hs : ¬ IsSq q
  · simp [hs, IsLp]
  replace hs := Classical.not_not.1 hs
  have hn := hs.1
  simp only [hs, decide_true, Option.bind_some, if_true]
  have h := run_all (step := spec_l01Loop_L1 q) (fun i => (i : Int)) q.Order.toNat (fun x => gv (gv q.Table 0) x = x ∧ gv (gv q.Table x) 0 = x) (.inl ()) (.inr ())
    (fun i hi hp => by
      have e2 : (0 : Int) ≤ (i : Int) ∧ (i : Int) < 10 := ⟨by omega, by omega⟩
      simp only [spec_l01Loop_L1]
      rw [if_pos (by omega), w8 (by omega) (by omega)]
      simp [e2, hp.1, hp.2]
      exact w64 (by omega) (by omega))
    (fun i hi hp => by
      have e2 : (0 : Int) ≤ (i : Int) ∧ (i : Int) < 10 := ⟨by omega, by omega⟩
      simp only [spec_l01Loop_L1]
      rw [if_pos (by omega), w8 (by omega) (by omega)]
      by_cases h1 : gv (gv q.Table 0) i = i
      · have h2 : ¬ gv (gv q.Table i) 0 = i := fun h => hp ⟨h1, h⟩
        simp [e2, h1, h2]
      · simp [e2, h1])
    (by simp only [spec_l01Loop_L1]; rw [if_neg (by omega)])
  have h' : Lp.run (spec_l01Loop_L1 q) 0 = _ := h
  rw [h']
  by_cases hp : ∀ i : Nat, i < q.Order.toNat → gv (gv q.Table 0) i = i ∧ gv (gv q.Table i) 0 = i
  · have : IsLp q := ⟨hs, fun x hx => hp x (by omega)⟩
    rw [if_pos hp]; simp [this]
  · have : ¬ IsLp q := fun h => hp fun i hi => h.2 i (by omega)
    rw [if_neg hp]; simp [this]

/-- A list of elements in rising order. -/
def IsLst (q : S_Square) (xs : List Int) : Prop := ∀ i : Nat, i < xs.length → (0 ≤ gl xs i ∧ gl xs i ≤ q.Order - 1) ∧ (0 < i → gl xs ((i : Int) - 1) < gl xs i)
end Go.Mi
