/- Squares: the program's own test is the reference's. No condition. -/
import Derived.Test.YtekmmbgbhjeoaaaZQ6
set_option linter.unusedVariables false
set_option linter.unusedSimpArgs false
namespace Go.Mi
open Go Go.Sx Go.Pl

def lineOk (q : S_Square) (x : Nat) : Prop := (∀ y, y < 10 → cellOk q x y) ∧ ((x : Int) < q.Order → bitsOf (rowN q x) q.Order.toNat = 2 ^ q.Order.toNat - 1 ∧ bitsOf (colN q x) q.Order.toNat = 2 ^ q.Order.toNat - 1)
open Classical in
theorem isSquare_lines (q : S_Square) (ht : isU8s q.Table) : impl_IsSquare q = some (decide ((1 ≤ q.Order ∧ q.Order ≤ 10) ∧ ∀ x, x < 10 → lineOk q x)) := by
  unfold impl_IsSquare
  rw [within_eq, Option.bind_some]
  by_cases hn : ¬ (1 ≤ q.Order ∧ q.Order ≤ 10)
  · simp [hn]
  replace hn := Classical.not_not.1 hn
  have hfull : IntKind.i64.wrap ((ishl .i64 1 q.Order) - 1) = ((2 ^ q.Order.toNat - 1 : Nat) : Int) := by
    have e0 := ishl_one q.Order.toNat (by omega)
    rw [Int.toNat_of_nonneg (by omega)] at e0
    have h1 : 2 ^ q.Order.toNat ≤ 2 ^ 10 := Nat.pow_le_pow_right (by omega) (by omega)
    have h2 := Nat.two_pow_pos q.Order.toNat
    rw [e0, w64 (by omega) (by omega)]; omega
  have h := run_all (step := impl_IsSquare_L1 q) (fun i => (i : Int)) 10 (lineOk q) (.inl ()) (.inr ())
    (fun x hx hp => by
      simp only [impl_IsSquare_L1]
      rw [if_pos (show (x : Int) < 10 by omega), sq_inner q ht hn x hx, if_pos hp.1, Option.bind_some]
      by_cases hxn : (x : Int) < q.Order
      · have := hp.2 hxn
        simp [hxn, hfull, this, show 0 ≤ q.Order by omega]
        exact w64 (by omega) (by omega)
      · simp [hxn]
        exact w64 (by omega) (by omega))
    (fun x hx hp => by
      simp only [impl_IsSquare_L1]
      rw [if_pos (show (x : Int) < 10 by omega), sq_inner q ht hn x hx]
      by_cases hc : ∀ y, y < 10 → cellOk q x y
      · rw [if_pos hc, Option.bind_some]
        have hxn : (x : Int) < q.Order := Classical.byContradiction fun h => hp ⟨hc, fun h2 => absurd h2 h⟩
        have hnot : ¬ (bitsOf (rowN q x) q.Order.toNat = 2 ^ q.Order.toNat - 1 ∧ bitsOf (colN q x) q.Order.toNat = 2 ^ q.Order.toNat - 1) := fun h => hp ⟨hc, fun _ => h⟩
        simp only [hxn, if_true, Sum.elim_inl, hfull, show (0 : Int) ≤ q.Order by omega, ne_eq, Int.ofNat_inj]
        by_cases h1 : bitsOf (rowN q x) q.Order.toNat = 2 ^ q.Order.toNat - 1
        · have h2 : ¬ bitsOf (colN q x) q.Order.toNat = 2 ^ q.Order.toNat - 1 := fun h => hnot ⟨h1, h⟩
          simp [h1, h2]
        · simp [h1]
      · rw [if_neg hc, Option.bind_some]; rfl)
    (by simp [impl_IsSquare_L1])
  rw [show ((0 : Int)) = ((0 : Nat) : Int) from rfl, h]
  by_cases hp : ∀ x, x < 10 → lineOk q x
  · rw [if_pos hp]; simp [hn]; exact hp
  · rw [if_neg hp]; simp only [hn, and_self, decide_true, if_true, Option.bind_some, Sum.elim_inr, true_and, hp, decide_false]
end Go.Mi
