/- Squares: the program's own test says the same. No condition. -/
import Derived.Test.YtekmmbgbhjeoaaaZQ2
import Derived.Test.YtekmmbgbhjeoaaaSxB2
set_option linter.unusedVariables false
set_option linter.unusedSimpArgs false
namespace Go.Mi
open Go Go.Sx Go.Pl

/-- A square. -/
def IsSq (q : S_Square) : Prop := (1 ≤ q.Order ∧ q.Order ≤ 10) ∧ Rows q.Table q.Order ∧ Rows (turned q.Table) q.Order
theorem isU8s_turned {t : Vector (Vector Int 10) 10} (h : isU8s t) : isU8s (turned t) := fun i h0 h1 j h2 h3 => by
  rw [gv_turned t h0 h1 h2 h3]; exact h j h2 h3 i h0 h1
open Classical in
theorem l01Is_eq (q : S_Square) (ht : isU8s q.Table) : spec_l01Is q = some (decide (IsSq q)) := by
  unfold spec_l01Is
  rw [in_eq, turned_eq]
  by_cases hn : 1 ≤ q.Order ∧ q.Order ≤ 10
  · rw [rows_eq _ _ hn ht, Option.bind_some, if_pos (by simp [hn])]
    simp only [Option.bind_some]
    rw [rows_eq _ _ hn (isU8s_turned ht)]
    by_cases h1 : Rows q.Table q.Order <;> by_cases h2 : Rows (turned q.Table) q.Order <;> simp [IsSq, hn, h1, h2]
  · simp [IsSq, hn]
end Go.Mi
