/- Squares: what the reference takes for one. No condition. -/
import Derived.Test.YtekmmbgbhjeoaaaZQ
set_option linter.unusedVariables false
set_option linter.unusedSimpArgs false
namespace Go.Mi
open Go Go.Sx Go.Pl

def Rows (t : Vector (Vector Int 10) 10) (n : Int) : Prop := ∀ x : Nat, x < 10 → ((x : Int) < n → Perm (gv t x) n) ∧ (n ≤ (x : Int) → gv t x = Vector.replicate 10 0)
def isU8s (t : Vector (Vector Int 10) 10) : Prop := ∀ i : Int, 0 ≤ i → i < 10 → isU8 (gv t i)
open Classical in
theorem rows_eq (t : Vector (Vector Int 10) 10) (n : Int) (hn : 1 ≤ n ∧ n ≤ 10) (ht : isU8s t) : spec_l01Rows t n = some (decide (Rows t n)) := by
  unfold spec_l01Rows
  have h := run_all (step := spec_l01Rows_L1 t n) (fun i => (i : Int)) 10 (fun x => ((x : Int) < n → Perm (gv t x) n) ∧ (n ≤ (x : Int) → gv t x = Vector.replicate 10 0)) (.inl ()) (.inr ())
    (fun i hi hp => by
      have e2 : (0 : Int) ≤ (i : Int) ∧ (i : Int) < 10 := ⟨by omega, by omega⟩
      simp only [spec_l01Rows_L1]
      rw [if_pos (show (i : Int) < 10 by omega)]
      by_cases hin : (i : Int) < n
      · rw [if_pos hin, if_pos e2, perm_eq _ _ (ht i e2.1 e2.2)]
        simp [hn, hp.1 hin, show ¬ n ≤ (i : Int) by omega]
        exact w64 (by omega) (by omega)
      · rw [if_neg hin, if_pos (show n ≤ (i : Int) by omega), if_pos e2]
        simp [hp.2 (by omega)]
        exact w64 (by omega) (by omega))
    (fun i hi hp => by
      have e2 : (0 : Int) ≤ (i : Int) ∧ (i : Int) < 10 := ⟨by omega, by omega⟩
      simp only [spec_l01Rows_L1]
      rw [if_pos (show (i : Int) < 10 by omega)]
      by_cases hin : (i : Int) < n
      · have hx : ¬ Perm (gv t i) n := fun h => hp ⟨fun _ => h, fun h2 => by omega⟩
        rw [if_pos hin, if_pos e2, perm_eq _ _ (ht i e2.1 e2.2)]
        simp [hn, hx]
      · have hx : ¬ gv t (i : Int) = Vector.replicate 10 0 := fun h => hp ⟨fun h2 => absurd h2 hin, fun _ => h⟩
        rw [if_neg hin, if_pos (show n ≤ (i : Int) by omega), if_pos e2]
        simp [hx])
    (by simp [spec_l01Rows_L1])
  rw [show ((0 : Int)) = ((0 : Nat) : Int) from rfl, h]
  by_cases hp : Rows t n
  · have hp' : ∀ i : Nat, i < 10 → ((i : Int) < n → Perm (gv t i) n) ∧ (n ≤ (i : Int) → gv t i = Vector.replicate 10 0) := hp
    rw [if_pos hp']; simp [hp]
  · have hp' : ¬ ∀ i : Nat, i < 10 → ((i : Int) < n → Perm (gv t i) n) ∧ (n ≤ (i : Int) → gv t i = Vector.replicate 10 0) := hp
    rw [if_neg hp']; simp [hp]

/-- rows for columns -/
def turned (t : Vector (Vector Int 10) 10) : Vector (Vector Int 10) 10 := Vector.ofFn fun i => Vector.ofFn fun j => gv (gv t (j.val : Int)) (i.val : Int)
theorem gv_ofFn {α : Type} [Inhabited α] {n : Nat} (f : Fin n → α) {i : Int} (h0 : 0 ≤ i) (h1 : i < n) : gv (Vector.ofFn f) i = f ⟨i.toNat, by omega⟩ := by
  have : i.toNat < n := by omega
  have e := gv_nat (Vector.ofFn f) i.toNat this
  rw [Int.toNat_of_nonneg h0] at e
  rw [e]; simp
theorem gv_turned (t : Vector (Vector Int 10) 10) {i j : Int} (h0 : 0 ≤ i) (h1 : i < 10) (h2 : 0 ≤ j) (h3 : j < 10) : gv (gv (turned t) i) j = gv (gv t j) i := by
  unfold turned
  rw [gv_ofFn _ h0 h1, gv_ofFn _ h2 h3]
  simp only [Int.toNat_of_nonneg h0, Int.toNat_of_nonneg h2]
theorem turned_eq (t : Vector (Vector Int 10) 10) : spec_l01Turned t = some (turned t) := by
  -- a round of the outer loop writes column 'x' of the copy: the row 'x' of the square
  let cell : Vector (Vector Int 10) 10 → Int → Int → Vector (Vector Int 10) 10 := fun v x y => sv v y (sv (gv v y) x (gv (gv t x) y))
  have inner : ∀ (x : Int), 0 ≤ x → x < 10 → ∀ v0 : Vector (Vector Int 10) 10, ∃ v : Vector (Vector Int 10) 10,
      (∀ y z : Int, 0 ≤ y → y < 10 → 0 ≤ z → z < 10 → gv (gv v y) z = if z = x then gv (gv t x) y else gv (gv v0 y) z) ∧ Lp.run (spec_l01Turned_L2 t (v0, x)) (v0, 0) = some v := fun x hx0 hx1 v0 => by
    let f : Nat → Vector (Vector Int 10) 10 := fun k => Nat.rec v0 (fun i v => cell v x (i : Int)) k
    have hf : ∀ k, f (k + 1) = sv (f k) (k : Int) (sv (gv (f k) (k : Int)) x (gv (gv t x) (k : Int))) := fun _ => rfl
    have key : ∀ k : Nat, k ≤ 10 → ∀ y z : Int, 0 ≤ y → y < 10 → 0 ≤ z → z < 10 → gv (gv (f k) y) z = if y < k ∧ z = x then gv (gv t x) y else gv (gv v0 y) z := by
      intro k
      induction k with
      | zero => intro _ y z h0 h1 h2 h3; rw [if_neg (fun h => by omega)]; rfl
      | succ k ih =>
        intro hk y z h0 h1 h2 h3
        rw [hf, gv_sv _ _ (by omega) h0 (by omega)]
        by_cases hy : (k : Int) = y
        · subst hy
          rw [if_pos rfl, gv_sv _ _ hx0 h2 hx1]
          by_cases hz : x = z
          · subst hz; rw [if_pos rfl, if_pos ⟨by omega, rfl⟩]
          · rw [if_neg hz, ih (by omega) _ _ h0 h1 h2 h3, if_neg (fun h => by omega), if_neg (fun h => hz h.2.symm)]
        · rw [if_neg hy, ih (by omega) _ _ h0 h1 h2 h3]
          by_cases hyz : y < k ∧ z = x
          · rw [if_pos hyz, if_pos ⟨by omega, hyz.2⟩]
          · rw [if_neg hyz, if_neg (fun h => hyz ⟨by omega, h.2⟩)]
    refine ⟨f 10, fun y z h0 h1 h2 h3 => ?_, ?_⟩
    · rw [key 10 (by omega) y z h0 h1 h2 h3]
      by_cases hz : z = x
      · rw [if_pos ⟨by omega, hz⟩, if_pos hz]
      · rw [if_neg (fun h => hz h.2), if_neg hz]
    · exact run_for (step := spec_l01Turned_L2 t (v0, x)) (fun i => (f i, (i : Int))) 10 (f 10)
        (fun i hi => by
          have e1 : (0 : Int) ≤ x ∧ x < 10 := ⟨hx0, hx1⟩
          have e2 : (0 : Int) ≤ (i : Int) ∧ (i : Int) < 10 := ⟨by omega, by omega⟩
          simp only [spec_l01Turned_L2]
          rw [if_pos e2.2, if_pos e1, if_pos e2, w64 (by omega) (by omega), hf]; rfl)
        (by simp [spec_l01Turned_L2])
  unfold spec_l01Turned
  have outer : ∀ k : Nat, k ≤ 10 → ∃ v : Vector (Vector Int 10) 10, (∀ y z : Int, 0 ≤ y → y < 10 → 0 ≤ z → z < k → gv (gv v y) z = gv (gv t z) y) ∧
      Lp.run (spec_l01Turned_L1 t) ((Vector.replicate 10 (Vector.replicate 10 0)), 0) = Lp.run (spec_l01Turned_L1 t) (v, (k : Int)) := by
    intro k
    induction k with
    | zero => intro _; exact ⟨_, fun y z _ _ h2 h3 => by omega, rfl⟩
    | succ k ih =>
      intro hk
      obtain ⟨v, h1, h2⟩ := ih (by omega)
      obtain ⟨v', h3, h4⟩ := inner (k : Int) (by omega) (by omega) v
      refine ⟨v', fun y z a0 a1 a2 a3 => ?_, ?_⟩
      · rw [h3 y z a0 a1 a2 (by omega)]
        by_cases hz : z = (k : Int)
        · rw [if_pos hz, hz]
        · rw [if_neg hz]; exact h1 y z a0 a1 a2 (by omega)
      · rw [h2]
        refine Lp.run_next ?_
        simp only [spec_l01Turned_L1]
        rw [if_pos (by omega), h4]
        simp only [Option.bind_some]
        rw [w64 (by omega) (by omega)]; rfl
  obtain ⟨v, h1, h2⟩ := outer 10 (Nat.le_refl _)
  have hv : v = turned t := gv_ext fun i h0 h3 => gv_ext fun j h4 h5 => by
    rw [h1 i j h0 h3 h4 h5, gv_turned t h0 h3 h4 h5]
  rw [h2, Lp.run_out (r := v) (by simp [spec_l01Turned_L1]), hv]
  rfl
end Go.Mi
