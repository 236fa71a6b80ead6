/- Squares: a row and column of the program's own test. No condition. -/
import Derived.Test.YtekmmbgbhjeoaaaZQ5
set_option linter.unusedVariables false
set_option linter.unusedSimpArgs false
namespace Go.Mi
open Go Go.Sx Go.Pl

def rowN (q : S_Square) (x : Nat) (i : Nat) : Nat := (gv (gv q.Table (x : Int)) (i : Int)).toNat
def colN (q : S_Square) (x : Nat) (i : Nat) : Nat := (gv (gv q.Table (i : Int)) (x : Int)).toNat
open Classical in
theorem sq_inner (q : S_Square) (ht : isU8s q.Table) (hn : 1 ≤ q.Order ∧ q.Order ≤ 10) (x : Nat) (hx : x < 10) :
    Lp.run (impl_IsSquare_L2 q (x : Int)) (0, 0, 0) = some (if ∀ y, y < 10 → cellOk q x y then .inl (if (x : Int) < q.Order then ((bitsOf (rowN q x) q.Order.toNat : Nat), (bitsOf (colN q x) q.Order.toNat : Nat)) else (0, 0)) else .inr ()) := by
  let N := q.Order.toNat
  let RB : Nat → Nat := fun y => if (x : Int) < q.Order then bitsOf (rowN q x) (min y N) else 0
  let CB : Nat → Nat := fun y => if (x : Int) < q.Order then bitsOf (colN q x) (min y N) else 0
  have small : ∀ i : Nat, i < 10 → (∀ j, j < i → cellOk q x j) → RB i < 2 ^ 63 ∧ CB i < 2 ^ 63 := fun i hi hp => by
    simp only [RB, CB]
    by_cases hxn : (x : Int) < q.Order
    · rw [if_pos hxn, if_pos hxn]
      have hb : ∀ j, j < min i N → rowN q x j < 63 ∧ colN q x j < 63 := fun j hj => by
        have h1 := (hp j (by omega)).2 hxn (by omega)
        have b1 := ht x (by omega) (by omega) j (by omega) (by omega)
        have b2 := ht j (by omega) (by omega) x (by omega) (by omega)
        simp only [rowN, colN]; omega
      exact ⟨bitsOf_lt _ _ _ fun j hj => (hb j hj).1, bitsOf_lt _ _ _ fun j hj => (hb j hj).2⟩
    · rw [if_neg hxn, if_neg hxn]; decide
  have h := run_all2 (step := impl_IsSquare_L2 q (x : Int)) (fun i => ((RB i : Int), (CB i : Int), (i : Int))) 10 (cellOk q x)
    (.inl ((RB 10 : Int), (CB 10 : Int))) (.inr ())
    (fun i hi hp hc => by
      have hs := small i hi hp
      rw [sq_step q ht hn x i hx hi _ _ hs.1 hs.2, if_pos hc]
      by_cases hxn : (x : Int) < q.Order
      · by_cases hin : (i : Int) < q.Order
        · rw [if_pos ⟨hxn, hin⟩]
          have e1 : min (i + 1) N = i + 1 := by omega
          have e2 : min i N = i := by omega
          simp only [RB, CB, if_pos hxn, e1, e2, bitsOf]
          rfl
        · rw [if_neg (fun h => hin h.2)]
          have e1 : min (i + 1) N = min i N := by omega
          simp only [RB, CB, if_pos hxn, e1]
      · rw [if_neg (fun h => hxn h.1)]
        simp only [RB, CB, if_neg hxn])
    (fun i hi hp hc => by
      have hs := small i hi hp
      rw [sq_step q ht hn x i hx hi _ _ hs.1 hs.2, if_neg hc])
    (fun _ => by simp [impl_IsSquare_L2])
  have e0 : ((0 : Int), (0 : Int), (0 : Int)) = (fun i : Nat => ((RB i : Int), (CB i : Int), (i : Int))) 0 := by
    simp only [RB, CB, Nat.zero_min, bitsOf, ite_self]; rfl
  rw [e0, h]
  have e1 : min 10 N = q.Order.toNat := by omega
  by_cases hxn : (x : Int) < q.Order
  · simp only [RB, CB, if_pos hxn, e1]
  · simp only [RB, CB, if_neg hxn]; rfl
end Go.Mi
