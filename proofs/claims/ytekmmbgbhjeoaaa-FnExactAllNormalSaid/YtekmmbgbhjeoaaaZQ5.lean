/- Squares: a round of the program's own test. No condition. -/
import Derived.Test.YtekmmbgbhjeoaaaZQ4
set_option linter.unusedVariables false
set_option linter.unusedSimpArgs false
namespace Go.Mi
open Go Go.Sx Go.Pl

open Classical in
theorem sq_step (q : S_Square) (ht : isU8s q.Table) (hn : 1 ≤ q.Order ∧ q.Order ≤ 10) (x y : Nat) (hx : x < 10) (hy : y < 10) (R C : Nat) (hR : R < 2 ^ 63) (hC : C < 2 ^ 63) :
    impl_IsSquare_L2 q (x : Int) ((R : Int), (C : Int), (y : Int)) =
      if cellOk q x y then some (.inl (if (x : Int) < q.Order ∧ (y : Int) < q.Order then (((R ||| 2 ^ (gv (gv q.Table x) y).toNat : Nat) : Int), ((C ||| 2 ^ (gv (gv q.Table y) x).toNat : Nat) : Int), ((y + 1 : Nat) : Int)) else ((R : Int), (C : Int), ((y + 1 : Nat) : Int)))) else some (.inr (.inr ())) := by
  have ex : (0 : Int) ≤ (x : Int) ∧ (x : Int) < 10 := ⟨by omega, by omega⟩
  have ey : (0 : Int) ≤ (y : Int) ∧ (y : Int) < 10 := ⟨by omega, by omega⟩
  have b1 := ht x ex.1 ex.2 y ey.1 ey.2
  have b2 := ht y ey.1 ey.2 x ex.1 ex.2
  have hw : IntKind.i64.wrap ((y : Int) + 1) = ((y + 1 : Nat) : Int) := by rw [w64 (by omega) (by omega)]; simp
  generalize hm : gv (gv q.Table (x : Int)) (y : Int) = m at *
  generalize hm' : gv (gv q.Table (y : Int)) (x : Int) = m' at *
  have wm : IntKind.i64.wrap m = m := w64 (by omega) (by omega)
  have wm' : IntKind.i64.wrap m' = m' := w64 (by omega) (by omega)
  simp only [impl_IsSquare_L2, hm, hm', wm, wm', hw]
  rw [if_pos ey.2]
  by_cases hxn : (x : Int) < q.Order
  · have hxn' : ¬ q.Order ≤ (x : Int) := by omega
    by_cases hyn : (y : Int) < q.Order
    · have hyn' : ¬ q.Order ≤ (y : Int) := by omega
      have hc : cellOk q x y ↔ m < q.Order ∧ m' < q.Order := by
        unfold cellOk
        rw [hm, hm']
        exact ⟨fun h => h.2 hxn hyn, fun h => ⟨fun h2 => by omega, fun _ _ => h⟩⟩
      by_cases h1 : m < q.Order
      · by_cases h2 : m' < q.Order
        · have e1 : ior .i64 (R : Int) (ishl .i64 1 m) = ((R ||| 2 ^ m.toNat : Nat) : Int) := by
            have e0 := ishl_one m.toNat (by omega)
            rw [Int.toNat_of_nonneg b1.1] at e0
            rw [e0, ior_nat _ _ hR (Nat.pow_lt_pow_right (by omega) (by omega))]
          have e2 : ior .i64 (C : Int) (ishl .i64 1 m') = ((C ||| 2 ^ m'.toNat : Nat) : Int) := by
            have e0 := ishl_one m'.toNat (by omega)
            rw [Int.toNat_of_nonneg b2.1] at e0
            rw [e0, ior_nat _ _ hC (Nat.pow_lt_pow_right (by omega) (by omega))]
          rw [if_pos (hc.2 ⟨h1, h2⟩)]
          simp [hxn, hyn, hxn', hyn', ex, ey, show ¬ q.Order ≤ m by omega, show ¬ q.Order ≤ m' by omega, b1.1, b2.1, e1, e2]
        · rw [if_neg (fun h => h2 (hc.1 h).2)]
          simp [hxn, hyn, hxn', hyn', ex, ey, show ¬ q.Order ≤ m by omega, show q.Order ≤ m' by omega]
      · rw [if_neg (fun h => h1 (hc.1 h).1)]
        simp [hxn, hyn, hxn', hyn', ex, ey, show q.Order ≤ m by omega]
    · have hyn' : q.Order ≤ (y : Int) := by omega
      have hc : cellOk q x y ↔ m = 0 := by
        unfold cellOk
        rw [hm, hm']
        exact ⟨fun h => h.1 (.inr hyn'), fun h => ⟨fun _ => h, fun _ h2 => absurd h2 hyn⟩⟩
      by_cases h1 : m = 0
      · rw [if_pos (hc.2 h1)]
        simp [hxn, hyn, hxn', hyn', ex, ey, h1]
      · rw [if_neg (fun h => h1 (hc.1 h))]
        simp [hxn', hyn', ex, ey, h1]
  · have hxn' : q.Order ≤ (x : Int) := by omega
    have hc : cellOk q x y ↔ m = 0 := by
      unfold cellOk
      rw [hm, hm']
      exact ⟨fun h => h.1 (.inl hxn'), fun h => ⟨fun _ => h, fun h2 => absurd h2 hxn⟩⟩
    by_cases h1 : m = 0
    · rw [if_pos (hc.2 h1)]
      simp [hxn, hxn', ex, ey, h1]
    · rw [if_neg (fun h => h1 (hc.1 h))]
      simp [hxn', ex, ey, h1]
end Go.Mi
