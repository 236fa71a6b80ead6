/- The law's own data: copies, comparisons, marks. No condition. -/
import Derived.Test.YtekmmbgbhjeoaaaZM
import Derived.Test.YtekmmbgbhjeoaaaSxP
set_option linter.unusedVariables false
set_option linter.unusedSimpArgs false
namespace Go.Mi
open Go Go.Sx Go.Pl

theorem toByteA10_eq (p : Vector Int 10) : laws_toByteA10 p = some p := by
  unfold laws_toByteA10
  rw [copy_vec p]
  · rfl
  · intro v i h0 h1
    simp only [laws_toByteA10_L1]
    rw [if_pos h1, if_pos ⟨h0, h1⟩, w64 (by omega) (by omega)]
  · intro v
    simp [laws_toByteA10_L1]
theorem toTable_eq (p : Vector (Vector Int 10) 10) : laws_toTable p = some p := by
  unfold laws_toTable
  rw [copy_vec p]
  · rfl
  · intro v i h0 h1
    simp only [laws_toTable_L1]
    rw [if_pos h1, if_pos ⟨h0, h1⟩, toByteA10_eq, w64 (by omega) (by omega)]
    rfl
  · intro v
    simp [laws_toTable_L1]
theorem toSquare_eq (p : S_Square) : laws_toSquare p = some p := by
  unfold laws_toSquare
  rw [toTable_eq]
  rfl
theorem eqInt64S_self (p : List Int) (hl : p.length ≤ 4294967296) : laws_eqInt64S p p = some true := by
  unfold laws_eqInt64S
  rw [if_neg (by simp)]
  have h := run_for (step := laws_eqInt64S_L1 p p) (fun i => (i : Int)) p.length (.inl ())
    (fun i hi => by
      simp only [laws_eqInt64S_L1]
      rw [if_pos (by omega), if_pos ⟨by omega, by omega⟩, if_pos ⟨by omega, by omega⟩, if_neg (by simp), w64 (by omega) (by omega)]; rfl)
    (by simp [laws_eqInt64S_L1])
  rw [show ((0 : Int)) = ((0 : Nat) : Int) from rfl, h]
  rfl
/-- the numbers from 'n' on -/
def marks (n : Int) : Nat → List Int
  | 0 => []
  | k + 1 => n :: marks (n + 1) k
theorem marks_len (k : Nat) : ∀ n, (marks n k).length = k := by
  induction k with
  | zero => intro n; rfl
  | succ k ih => intro n; simp [marks, ih]
theorem marks_gl (k : Nat) : ∀ (n : Int) (i : Nat), i < k → gl (marks n k) (i : Int) = n + i := by
  induction k with
  | zero => intro n i h; omega
  | succ k ih =>
    intro n i h
    cases i with
    | zero => simp [marks, gl]
    | succ i =>
      have := ih (n + 1) i (by omega)
      rw [gl_nat _ _ (by rw [marks_len]; omega)] at this ⊢
      simp only [marks, List.getElem_cons_succ, this]; omega
theorem mark_eq (p : List Int) (n : Int) (hl : p.length ≤ 4294967296) (h0 : 0 ≤ n) (h1 : n ≤ 4294967296) : ∃ ys, ys.length = p.length ∧ (∀ i : Nat, i < p.length → gl ys (i : Int) = n + i) ∧ laws_markInt64S p n = some (n + p.length, ys) := by
  let f : Nat → List Int := fun k => Nat.rec p (fun i v => sls v (i : Int) (n + i)) k
  have hf : ∀ k, f (k + 1) = sls (f k) (k : Int) (n + k) := fun _ => rfl
  have hlen : ∀ k, (f k).length = p.length := by
    intro k
    induction k with
    | zero => rfl
    | succ k ih => rw [hf, sls_len]; exact ih
  have key : ∀ k : Nat, k ≤ p.length → ∀ i : Nat, i < k → gl (f k) (i : Int) = n + i := by
    intro k
    induction k with
    | zero => intro _ i h; omega
    | succ k ih =>
      intro hk i h
      rw [hf, gl_sls _ _ (by omega) (by omega) (by rw [hlen]; omega)]
      split
      · rename_i h'; rw [h']
      · exact ih (by omega) i (by omega)
  refine ⟨f p.length, hlen _, key _ (Nat.le_refl _), ?_⟩
  unfold laws_markInt64S
  have h := run_for (step := laws_markInt64S_L1) (fun i => (f i, n + i, (i : Int))) p.length (f p.length, n + p.length)
    (fun i hi => by
      simp only [laws_markInt64S_L1]
      rw [if_pos (by rw [hlen]; omega), if_pos ⟨by omega, by rw [hlen]; omega⟩, w64 (by omega) (by omega), w64 (by omega) (by omega), hf]
      simp; omega)
    (by simp [laws_markInt64S_L1, hlen])
  have e0 : (p, n, (0 : Int)) = (fun i : Nat => (f i, n + (i : Int), (i : Int))) 0 := by
    show (p, n, (0 : Int)) = (p, n + ((0 : Nat) : Int), ((0 : Nat) : Int))
    simp
  rw [e0, h]
  rfl
theorem held_eq (ys : List Int) (n : Int) (hl : ys.length ≤ 4294967296) (h0 : 0 ≤ n) (h1 : n ≤ 4294967296) (hy : ∀ i : Nat, i < ys.length → gl ys (i : Int) = n + i) : laws_heldInt64S ys n = some (n + ys.length) := by
  unfold laws_heldInt64S
  have h := run_for (step := laws_heldInt64S_L1 ys) (fun i => (n + i, (i : Int))) ys.length (.inl (n + ys.length))
    (fun i hi => by
      simp only [laws_heldInt64S_L1]
      rw [if_pos (by omega), if_pos ⟨by omega, by omega⟩, if_neg (by simp [hy i hi]), w64 (by omega) (by omega), w64 (by omega) (by omega)]
      simp; omega)
    (by simp [laws_heldInt64S_L1])
  have e0 : (n, (0 : Int)) = (fun i : Nat => (n + (i : Int), (i : Int))) 0 := by simp
  rw [e0, h]
  rfl

end Go.Mi
