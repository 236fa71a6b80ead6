/- Squares and loops: what both parts of the program take for one. No condition. -/
import Derived.Test.YtekmmbgbhjeoaaaZP
set_option linter.unusedVariables false
set_option linter.unusedSimpArgs false
namespace Go.Mi
open Go Go.Sx Go.Pl

theorem in_eq (x a b : Int) : spec_l01In x a b = some (decide (a ≤ x ∧ x ≤ b)) := by
  unfold spec_l01In
  by_cases h1 : a ≤ x <;> by_cases h2 : x ≤ b <;> simp [h1, h2]
theorem within_eq (x a b : Int) : impl_within x a b = some (decide (a ≤ x ∧ x ≤ b)) := by
  unfold impl_within
  by_cases h1 : a ≤ x <;> by_cases h2 : x ≤ b <;> simp [h1, h2]

/-- A row of a square of order 'n'. -/
def Perm (row : Vector Int 10) (n : Int) : Prop := ∀ i : Nat, i < 10 → (n ≤ i → gv row i = 0) ∧ (i < n → gv row i < n ∧ ∀ j : Nat, j < i → gv row j ≠ gv row i)
def isU8 (row : Vector Int 10) : Prop := ∀ i : Int, 0 ≤ i → i < 10 → 0 ≤ gv row i ∧ gv row i < 256
open Classical in
theorem perm_eq (row : Vector Int 10) (n : Int) (hr : isU8 row) : spec_l01Perm row n = some (decide ((1 ≤ n ∧ n ≤ 10) ∧ Perm row n)) := by
  unfold spec_l01Perm
  rw [in_eq, Option.bind_some]
  by_cases hn : ¬ (1 ≤ n ∧ n ≤ 10)
  · simp [hn]
  replace hn := Classical.not_not.1 hn
  simp only [hn, and_self, decide_true, if_true, true_and]
  let f : Nat → Vector Bool 10 := fun k => Nat.rec (Vector.replicate 10 false) (fun i v => if (i : Int) < n then sv v (gv row (i : Int)) true else v) k
  have hf : ∀ k, f (k + 1) = if (k : Int) < n then sv (f k) (gv row (k : Int)) true else f k := fun _ => rfl
  let P : Nat → Prop := fun i => (n ≤ i → gv row i = 0) ∧ (i < n → gv row i < n ∧ ∀ j : Nat, j < i → gv row j ≠ gv row i)
  have seen : ∀ k : Nat, k ≤ 10 → (∀ j, j < k → P j) → ∀ y : Int, 0 ≤ y → y < 10 → (gv (f k) y = true ↔ ∃ j : Nat, j < k ∧ (j : Int) < n ∧ gv row j = y) := by
    intro k
    induction k with
    | zero => intro _ _ y h0 h1; rw [show f 0 = Vector.replicate 10 false from rfl, gv_replicate _ h0 h1]; simp
    | succ k ih =>
      intro hk hP y h0 h1
      have ih' := ih (by omega) (fun j hj => hP j (by omega)) y h0 h1
      rw [hf]
      by_cases hkn : (k : Int) < n
      · rw [if_pos hkn]
        have hb := hr k (by omega) (by omega)
        have hlt : gv row k < 10 := by have := ((hP k (by omega)).2 hkn).1; omega
        rw [gv_sv _ _ hb.1 h0 hlt]
        by_cases he : gv row k = y
        · rw [if_pos he]; simp only [true_iff]; exact ⟨k, by omega, hkn, he⟩
        · rw [if_neg he, ih']
          constructor
          · rintro ⟨j, hj, h2, h3⟩; exact ⟨j, by omega, h2, h3⟩
          · rintro ⟨j, hj, h2, h3⟩
            refine ⟨j, ?_, h2, h3⟩
            rcases Nat.lt_or_ge j k with h4 | h4
            · exact h4
            · exact absurd ((show j = k by omega) ▸ h3) he
      · rw [if_neg hkn, ih']
        constructor
        · rintro ⟨j, hj, h2, h3⟩; exact ⟨j, by omega, h2, h3⟩
        · rintro ⟨j, hj, h2, h3⟩
          refine ⟨j, ?_, h2, h3⟩
          rcases Nat.lt_or_ge j k with h4 | h4
          · exact h4
          · exact absurd ((show j = k by omega) ▸ h2) hkn
  have step_out : ∀ i : Nat, i < 10 → n ≤ (i : Int) → spec_l01Perm_L1 row n (f i, (i : Int)) = if gv row i ≠ 0 then some (.inr (.inr ())) else some (.inl (f i, (i : Int) + 1)) := fun i hi hn' => by
    simp only [spec_l01Perm_L1]
    rw [if_pos (by omega), if_pos hn', if_pos ⟨by omega, by omega⟩]
    by_cases h0 : gv row i ≠ 0
    · rw [if_pos h0, if_pos h0]; rfl
    · rw [if_neg h0, if_neg h0, Option.bind_some, Sum.elim_inl, w64 (by omega) (by omega)]
  have step_in : ∀ i : Nat, i < 10 → (i : Int) < n → (∀ j, j < i → P j) → spec_l01Perm_L1 row n (f i, (i : Int)) = if gv row i < n ∧ ∀ j : Nat, j < i → gv row j ≠ gv row i then some (.inl (sv (f i) (gv row i) true, (i : Int) + 1)) else some (.inr (.inr ())) := fun i hi hn' hP => by
    have hb := hr i (by omega) (by omega)
    simp only [spec_l01Perm_L1]
    rw [if_pos (by omega), if_neg (by omega), if_pos ⟨by omega, by omega⟩, w64 (by omega) (by omega)]
    by_cases h1 : n ≤ gv row i
    · have e : ¬ (gv row (i : Int) < n ∧ ∀ j : Nat, j < i → gv row (j : Int) ≠ gv row (i : Int)) := fun h => by omega
      rw [if_pos h1, if_neg e]; rfl
    · have hlt : 0 ≤ gv row i ∧ gv row i < 10 := ⟨hb.1, by omega⟩
      rw [if_neg h1, if_pos hlt]
      have hs := seen i (by omega) hP (gv row i) hlt.1 hlt.2
      simp only [Option.bind_some]
      by_cases h2 : gv (f i) (gv row i) = true
      · have e : ¬ (gv row (i : Int) < n ∧ ∀ j : Nat, j < i → gv row (j : Int) ≠ gv row (i : Int)) := fun h => by
          obtain ⟨j, h3, _, h4⟩ := hs.1 h2; exact h.2 j h3 h4
        rw [if_pos h2, if_neg e]; rfl
      · have e : gv row (i : Int) < n ∧ ∀ j : Nat, j < i → gv row (j : Int) ≠ gv row (i : Int) := ⟨by omega, fun j hj he => h2 (hs.2 ⟨j, hj, by omega, he⟩)⟩
        have e2 : (0 : Int) ≤ (i : Int) ∧ (i : Int) < 10 := ⟨by omega, by omega⟩
        rw [if_neg h2, if_pos e2, if_pos hlt, if_pos e]
        simp only [Option.bind_some, Sum.elim_inl]
        rw [w64 (by omega) (by omega)]
  have h := run_all2 (step := spec_l01Perm_L1 row n) (fun i => (f i, (i : Int))) 10 P (.inl ()) (.inr ())
    (fun i hi hP hp => by
      by_cases hin : (i : Int) < n
      · rw [step_in i hi hin hP, if_pos (hp.2 hin), hf, if_pos hin]; rfl
      · rw [step_out i hi (by omega), if_neg (by simpa using hp.1 (by omega)), hf, if_neg hin]; rfl)
    (fun i hi hP hp => by
      by_cases hin : (i : Int) < n
      · rw [step_in i hi hin hP, if_neg (fun h => hp ⟨fun h2 => by omega, fun _ => h⟩)]
      · rw [step_out i hi (by omega), if_pos (fun h0 => hp ⟨fun _ => h0, fun h2 => absurd h2 hin⟩)])
    (fun _ => by simp [spec_l01Perm_L1])
  have e0 : ((Vector.replicate 10 false : Vector Bool 10), (0 : Int)) = (fun i : Nat => (f i, (i : Int))) 0 := rfl
  rw [e0, h]
  by_cases hp : ∀ i, i < 10 → P i
  · have hp' : Perm row n := hp
    rw [if_pos hp]; simp [hp']
  · have hp' : ¬ Perm row n := hp
    rw [if_neg hp]; simp [hp']
end Go.Mi
