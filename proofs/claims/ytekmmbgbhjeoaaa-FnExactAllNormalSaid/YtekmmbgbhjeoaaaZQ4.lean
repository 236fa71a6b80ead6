/- Squares: the program's own test. No condition. -/
import Derived.Test.YtekmmbgbhjeoaaaZQ3
set_option linter.unusedVariables false
set_option linter.unusedSimpArgs false
namespace Go.Mi
open Go Go.Sx Go.Pl

/-- what the program's test looks at -/
def cellOk (q : S_Square) (x y : Nat) : Prop :=
  ((q.Order ≤ (x : Int) ∨ q.Order ≤ (y : Int)) → gv (gv q.Table x) y = 0) ∧ ((x : Int) < q.Order → (y : Int) < q.Order → gv (gv q.Table x) y < q.Order ∧ gv (gv q.Table y) x < q.Order)
/-- the bits of the values 'g 0 .. g (k - 1)' -/
def bitsOf (g : Nat → Nat) : Nat → Nat
  | 0 => 0
  | k + 1 => bitsOf g k ||| 2 ^ g k
theorem bitsOf_test (g : Nat → Nat) (v : Nat) : ∀ k, (bitsOf g k).testBit v = true ↔ ∃ i, i < k ∧ g i = v
  | 0 => by simp [bitsOf]
  | k + 1 => by
    rw [bitsOf, Nat.testBit_or, Bool.or_eq_true, bitsOf_test g v k, Nat.testBit_two_pow]
    simp only [decide_eq_true_eq]
    constructor
    · rintro (⟨i, h1, h2⟩ | h)
      · exact ⟨i, by omega, h2⟩
      · exact ⟨k, by omega, h⟩
    · rintro ⟨i, h1, h2⟩
      rcases Nat.lt_or_ge i k with h | h
      · exact .inl ⟨i, h, h2⟩
      · exact .inr ((show i = k by omega) ▸ h2)
theorem bitsOf_lt (g : Nat → Nat) (n : Nat) : ∀ k, (∀ i, i < k → g i < n) → bitsOf g k < 2 ^ n
  | 0, _ => Nat.two_pow_pos n
  | k + 1, h => Nat.or_lt_two_pow (bitsOf_lt g n k fun i hi => h i (by omega)) (Nat.pow_lt_pow_right (by omega) (h k (by omega)))
/-- all bits are there exactly if all values are -/
theorem bitsOf_full (g : Nat → Nat) (n k : Nat) (h : ∀ i, i < k → g i < n) : bitsOf g k = 2 ^ n - 1 ↔ ∀ v, v < n → ∃ i, i < k ∧ g i = v := by
  constructor
  · intro e v hv
    rw [← bitsOf_test, e, Nat.testBit_two_pow_sub_one]
    simpa using hv
  · intro hs
    apply Nat.eq_of_testBit_eq
    intro v
    rw [Nat.testBit_two_pow_sub_one, Bool.eq_iff_iff, bitsOf_test]
    simp only [decide_eq_true_eq]
    exact ⟨fun ⟨i, h1, h2⟩ => h2 ▸ h i h1, fun hv => hs v hv⟩
end Go.Mi
