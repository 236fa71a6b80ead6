/- Loops: the reference. Lists of elements. No condition. -/
import Derived.Test.YtppjhbjcemnfmaaDoorYL
set_option linter.unusedVariables false
set_option linter.unusedSimpArgs false
namespace Go.Mi
open Go Go.Sx Go.Pl

open Classical in
theorem l01Loop_eq (q : S_Square) (ht : isU8s q.Table) : spec_l01Loop q = some (decide (IsLp q)) := by
  unfold spec_l01Loop
  rw [l01Is_eq q ht]
  by_cases hs : ¬ IsSq q
  · simp [hs, IsLp]
  replace hs := Classical.not_not.1 hs
  have hn := hs.1
  simp only [hs, decide_true, Option.bind_some, if_true]
  have h := run_all (step := spec_l01Loop_L1 q) (fun i => (i : Int)) q.Order.toNat (fun x => gv (gv q.Table 0) x = x ∧ gv (gv q.Table x) 0 = x) (.inl ()) (.inr ())
    (fun i hi hp => by
      have e2 : (0 : Int) ≤ (i : Int) ∧ (i : Int) < 10 := ⟨by omega, by omega⟩
      simp only [spec_l01Loop_L1]
      rw [if_pos (by omega), w8 (by omega) (by omega)]
      simp [e2, hp.1, hp.2]
      exact w64 (by omega) (by omega))
    (fun i hi hp => by
      have e2 : (0 : Int) ≤ (i : Int) ∧ (i : Int) < 10 := ⟨by omega, by omega⟩
      simp only [spec_l01Loop_L1]
      rw [if_pos (by omega), w8 (by omega) (by omega)]
      by_cases h1 : gv (gv q.Table 0) i = i
      · have h2 : ¬ gv (gv q.Table i) 0 = i := fun h => hp ⟨h1, h⟩
        simp [e2, h1, h2]
      · simp [e2, h1])
    (by simp only [spec_l01Loop_L1]; rw [if_neg (by omega)])
  have h' : Lp.run (spec_l01Loop_L1 q) 0 = _ := h
  rw [h']
  by_cases hp : ∀ i : Nat, i < q.Order.toNat → gv (gv q.Table 0) i = i ∧ gv (gv q.Table i) 0 = i
  · have : IsLp q := ⟨hs, fun x hx => hp x (by omega)⟩
    rw [if_pos hp]; simp [this]
  · have : ¬ IsLp q := fun h => hp fun i hi => h.2 i (by omega)
    rw [if_neg hp]; simp [this]

/-- A list of elements in rising order. -/
def IsLst (q : S_Square) (xs : List Int) : Prop := ∀ i : Nat, i < xs.length → (0 ≤ gl xs i ∧ gl xs i ≤ q.Order - 1) ∧ (0 < i → gl xs ((i : Int) - 1) < gl xs i)
open Classical in
theorem isList_eq (q : S_Square) (xs : List Int) (hn : 1 ≤ q.Order ∧ q.Order ≤ 10) (hl : xs.length ≤ 4294967296) : impl_Square_isList q xs = some (decide (IsLst q xs)) := by
  unfold impl_Square_isList
  have hw : IntKind.i64.wrap (q.Order - 1) = q.Order - 1 := w64 (by omega) (by omega)
  have h := run_all (step := impl_Square_isList_L1 q xs) (fun i => (i : Int)) xs.length (fun i => (0 ≤ gl xs i ∧ gl xs i ≤ q.Order - 1) ∧ (0 < i → gl xs ((i : Int) - 1) < gl xs i)) (.inl ()) (.inr ())
    (fun i hi hp => by
      have e2 : (0 : Int) ≤ (i : Int) ∧ (i : Int) < xs.length := ⟨by omega, by omega⟩
      simp only [impl_Square_isList_L1, within_eq, hw]
      rw [if_pos (by omega), if_pos e2]
      by_cases h0 : (0 : Int) < i
      · have e3 : IntKind.i64.wrap ((i : Int) - 1) = (i : Int) - 1 := w64 (by omega) (by omega)
        have e4 : (0 : Int) ≤ (i : Int) - 1 ∧ (i : Int) - 1 < xs.length := ⟨by omega, by omega⟩
        have h5 := hp.2 (by omega)
        simp [hp.1, show 0 < i by omega, show (1 : Int) ≤ (i : Int) by omega, show 1 ≤ i by omega, e3, e4.2, show ¬ gl xs i ≤ gl xs ((i : Int) - 1) by omega]
        exact w64 (by omega) (by omega)
      · simp [hp.1, show ¬ 0 < i by omega]
        exact w64 (by omega) (by omega))
    (fun i hi hp => by
      have e2 : (0 : Int) ≤ (i : Int) ∧ (i : Int) < xs.length := ⟨by omega, by omega⟩
      simp only [impl_Square_isList_L1, within_eq, hw]
      rw [if_pos (by omega), if_pos e2]
      by_cases h1 : 0 ≤ gl xs i ∧ gl xs i ≤ q.Order - 1
      · have h0 : (0 : Int) < i := Classical.byContradiction fun h => hp ⟨h1, fun h2 => absurd (show (0 : Int) < i by omega) h⟩
        have e3 : IntKind.i64.wrap ((i : Int) - 1) = (i : Int) - 1 := w64 (by omega) (by omega)
        have e4 : (0 : Int) ≤ (i : Int) - 1 ∧ (i : Int) - 1 < xs.length := ⟨by omega, by omega⟩
        have h5 : gl xs i ≤ gl xs ((i : Int) - 1) := Classical.byContradiction fun h => hp ⟨h1, fun _ => by omega⟩
        simp [h1, show 0 < i by omega, show (1 : Int) ≤ (i : Int) by omega, show 1 ≤ i by omega, e3, e4.2, h5]
      · simp [h1])
    (by simp [impl_Square_isList_L1])
  have h' : Lp.run (impl_Square_isList_L1 q xs) 0 = _ := h
  rw [h']
  by_cases hp : IsLst q xs
  · have hp' : ∀ i : Nat, i < xs.length → (0 ≤ gl xs i ∧ gl xs i ≤ q.Order - 1) ∧ (0 < i → gl xs ((i : Int) - 1) < gl xs i) := hp
    rw [if_pos hp']; simp [hp]
  · have hp' : ¬ ∀ i : Nat, i < xs.length → (0 ≤ gl xs i ∧ gl xs i ≤ q.Order - 1) ∧ (0 < i → gl xs ((i : Int) - 1) < gl xs i) := hp
    rw [if_neg hp']; simp [hp]
open Classical in
theorem l06List_eq (q : S_Square) (xs : List Int) (ht : isU8s q.Table) (hl : xs.length ≤ 4294967296) : spec_l06List q xs = some (if IsLp q then if IsLst q xs then 0 else 2 else 1) := by
  unfold spec_l06List
  rw [l01Loop_eq q ht]
  by_cases hq : ¬ IsLp q
  · simp [hq]
  replace hq := Classical.not_not.1 hq
  have hn := hq.1.1
  simp only [hq, decide_true, Option.bind_some, if_true]
  have hw : IntKind.i64.wrap (q.Order - 1) = q.Order - 1 := w64 (by omega) (by omega)
  have h := run_all (step := spec_l06List_L1 q xs) (fun i => (i : Int)) xs.length (fun i => (0 ≤ gl xs i ∧ gl xs i ≤ q.Order - 1) ∧ (0 < i → gl xs ((i : Int) - 1) < gl xs i)) (.inl ()) (.inr ())
    (fun i hi hp => by
      have e2 : (0 : Int) ≤ (i : Int) ∧ (i : Int) < xs.length := ⟨by omega, by omega⟩
      simp only [spec_l06List_L1, in_eq, hw]
      rw [if_pos (by omega), if_pos e2]
      by_cases h0 : (0 : Int) < i
      · have e3 : IntKind.i64.wrap ((i : Int) - 1) = (i : Int) - 1 := w64 (by omega) (by omega)
        have e4 : (0 : Int) ≤ (i : Int) - 1 ∧ (i : Int) - 1 < xs.length := ⟨by omega, by omega⟩
        have h5 := hp.2 (by omega)
        simp [hp.1, show 0 < i by omega, show (1 : Int) ≤ (i : Int) by omega, show 1 ≤ i by omega, e3, e4.2, show ¬ gl xs i ≤ gl xs ((i : Int) - 1) by omega]
        exact w64 (by omega) (by omega)
      · simp [hp.1, show ¬ 0 < i by omega]
        exact w64 (by omega) (by omega))
    (fun i hi hp => by
      have e2 : (0 : Int) ≤ (i : Int) ∧ (i : Int) < xs.length := ⟨by omega, by omega⟩
      simp only [spec_l06List_L1, in_eq, hw]
      rw [if_pos (by omega), if_pos e2]
      by_cases h1 : 0 ≤ gl xs i ∧ gl xs i ≤ q.Order - 1
      · have h0 : (0 : Int) < i := Classical.byContradiction fun h => hp ⟨h1, fun h2 => absurd (show (0 : Int) < i by omega) h⟩
        have e3 : IntKind.i64.wrap ((i : Int) - 1) = (i : Int) - 1 := w64 (by omega) (by omega)
        have e4 : (0 : Int) ≤ (i : Int) - 1 ∧ (i : Int) - 1 < xs.length := ⟨by omega, by omega⟩
        have h5 : gl xs i ≤ gl xs ((i : Int) - 1) := Classical.byContradiction fun h => hp ⟨h1, fun _ => by omega⟩
        simp [h1, show 0 < i by omega, show (1 : Int) ≤ (i : Int) by omega, show 1 ≤ i by omega, e3, e4.2, h5]
      · simp [h1])
    (by simp [spec_l06List_L1])
  have h' : Lp.run (spec_l06List_L1 q xs) 0 = _ := h
  rw [h']
  by_cases hp : IsLst q xs
  · have hp' : ∀ i : Nat, i < xs.length → (0 ≤ gl xs i ∧ gl xs i ≤ q.Order - 1) ∧ (0 < i → gl xs ((i : Int) - 1) < gl xs i) := hp
    rw [if_pos hp']; simp [hp]
  · have hp' : ¬ ∀ i : Nat, i < xs.length → (0 ≤ gl xs i ∧ gl xs i ≤ q.Order - 1) ∧ (0 < i → gl xs ((i : Int) - 1) < gl xs i) := hp
    rw [if_neg hp']; simp [hp]
open Classical in
theorem listCode_eq (q : S_Square) (xs : List Int) (ht : isU8s q.Table) (hl : xs.length ≤ 4294967296) : impl_listCode q xs = some (if IsLp q then if IsLst q xs then 0 else 2 else 1) := by
  unfold impl_listCode
  rw [isLoop_eq q ht]
  by_cases hq : IsLp q
  · rw [Option.bind_some, if_pos (by simp [hq]), isList_eq q xs hq.1.1 hl]
    by_cases hp : IsLst q xs <;> simp [hq, hp]
  · simp [hq]
end Go.Mi
