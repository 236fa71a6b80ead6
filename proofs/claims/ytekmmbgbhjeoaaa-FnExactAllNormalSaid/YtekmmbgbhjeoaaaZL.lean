/- Loops: both parts of the program take the same for loops. No condition. -/
import Derived.Test.YtekmmbgbhjeoaaaZQ8
set_option linter.unusedVariables false
set_option linter.unusedSimpArgs false
namespace Go.Mi
open Go Go.Sx Go.Pl

/-- the elements of a square of order 'n' -/
def elts (n : Nat) : List Int := (List.range n).map fun (i : Nat) => (i : Int)
theorem elts_len (n : Nat) : (elts n).length = n := by simp [elts]
theorem elts_succ (n : Nat) : elts (n + 1) = elts n ++ [(n : Int)] := by simp [elts, List.range_succ]
theorem elts_gl {n i : Nat} (h : i < n) : gl (elts n) (i : Int) = (i : Int) := by
  rw [gl_nat _ _ (by rw [elts_len]; exact h)]; simp [elts]
theorem elements_eq (q : S_Square) (hn : 1 ≤ q.Order ∧ q.Order ≤ 10) : impl_Square_elements q = some (elts q.Order.toNat) := by
  unfold impl_Square_elements
  have hw : IntKind.u8.wrap q.Order = q.Order := w8 (by omega) (by omega)
  have h := run_for (step := impl_Square_elements_L1 q) (fun i => (elts i, (i : Int))) q.Order.toNat (elts q.Order.toNat)
    (fun i hi => by
      simp only [impl_Square_elements_L1, hw]
      rw [if_pos (by omega), if_pos (by simp [elts_len]; omega), w8 (by omega) (by omega), elts_succ]; rfl)
    (by simp only [impl_Square_elements_L1, hw]; rw [if_neg (by omega)])
  have e0 : (([] : List Int), (0 : Int)) = (fun i : Nat => (elts i, (i : Int))) 0 := rfl
  rw [e0, h]; rfl
/-- A loop: a square with the unit 0. -/
def IsLp (q : S_Square) : Prop := IsSq q ∧ ∀ x : Nat, (x : Int) < q.Order → gv (gv q.Table 0) x = x ∧ gv (gv q.Table x) 0 = x
open Classical in
theorem isLoop_eq (q : S_Square) (ht : isU8s q.Table) : impl_IsLoop q = some (decide (IsLp q)) := by
  unfold impl_IsLoop
  rw [isSquare_eq q ht]
  by_cases hs : ¬ IsSq q
  · simp [hs, IsLp]
  replace hs := Classical.not_not.1 hs
  have hn := hs.1
  simp only [hs, decide_true, Option.bind_some, if_true]
  unfold impl_Square_isUnit
  rw [elements_eq q hn]
  simp only [Option.bind_some]
  have h := run_all (step := impl_Square_isUnit_L1 q 0 (elts q.Order.toNat)) (fun i => (i : Int)) q.Order.toNat (fun x => gv (gv q.Table 0) x = x ∧ gv (gv q.Table x) 0 = x) (.inl ()) (.inr ())
    (fun i hi hp => by
      have e2 : (0 : Int) ≤ (i : Int) ∧ (i : Int) < 10 := ⟨by omega, by omega⟩
      simp only [impl_Square_isUnit_L1, elts_len, elts_gl hi]
      rw [if_pos (by omega), if_pos ⟨by omega, by omega⟩]
      simp [e2, hp.1, hp.2]
      exact w64 (by omega) (by omega))
    (fun i hi hp => by
      have e2 : (0 : Int) ≤ (i : Int) ∧ (i : Int) < 10 := ⟨by omega, by omega⟩
      simp only [impl_Square_isUnit_L1, elts_len, elts_gl hi]
      rw [if_pos (by omega), if_pos ⟨by omega, by omega⟩]
      by_cases h1 : gv (gv q.Table 0) i = i
      · have h2 : ¬ gv (gv q.Table i) 0 = i := fun h => hp ⟨h1, h⟩
        simp [e2, h1, h2]
      · simp [e2, h1])
    (by simp only [impl_Square_isUnit_L1, elts_len]; rw [if_neg (by omega)])
  have h' : Lp.run (impl_Square_isUnit_L1 q 0 (elts q.Order.toNat)) 0 = _ := h
  rw [h']
  by_cases hp : ∀ i : Nat, i < q.Order.toNat → gv (gv q.Table 0) i = i ∧ gv (gv q.Table i) 0 = i
  · have : IsLp q := ⟨hs, fun x hx => hp x (by omega)⟩
    rw [if_pos hp]; simp [this]
  · have : ¬ IsLp q := fun h => hp fun i hi => h.2 i (by omega)
    rw [if_neg hp]; simp [this]
end Go.Mi
