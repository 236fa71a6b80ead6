/- Plain lemmas for the plain functions: loops, wrapping, vectors, lists. No condition. -/
import Derived.Test.YtekmmbgbhjeoaaaSxK
set_option linter.unusedVariables false
set_option linter.unusedSimpArgs false
set_option linter.unusedSectionVars false
namespace Go.Pl
open Go Go.Sx

theorem w64 {x : Int} (h1 : -9223372036854775808 ≤ x) (h2 : x < 9223372036854775808) : IntKind.i64.wrap x = x := by
  simp only [IntKind.wrap, IntKind.signed, IntKind.bits]; simp; omega
theorem w8 {x : Int} (h1 : 0 ≤ x) (h2 : x < 256) : IntKind.u8.wrap x = x := by
  simp only [IntKind.wrap, IntKind.signed, IntKind.bits]; simp; omega
theorem wu64 {x : Int} (h1 : 0 ≤ x) (h2 : x < 18446744073709551616) : IntKind.u64.wrap x = x := by
  simp only [IntKind.wrap, IntKind.signed, IntKind.bits]; simp; omega

/-! loops -/
section
variable {S R : Type} {step : S → Option (S ⊕ R)}
theorem run_for (st : Nat → S) (n : Nat) (out : R) (hs : ∀ i, i < n → step (st i) = some (.inl (st (i + 1)))) (ho : step (st n) = some (.inr out)) : Lp.run step (st 0) = some out := by
  have key : ∀ k, k ≤ n → Lp.run step (st (n - k)) = some out := by
    intro k
    induction k with
    | zero => intro _; exact Lp.run_out ho
    | succ k ih =>
      intro hk
      have h1 := hs (n - (k + 1)) (by omega)
      rw [show n - (k + 1) + 1 = n - k by omega] at h1
      rw [Lp.run_next h1]; exact ih (by omega)
  have := key n (Nat.le_refl n)
  simpa using this
theorem least {P : Nat → Prop} {n : Nat} (h : ¬ ∀ i, i < n → P i) : ∃ k, k < n ∧ ¬ P k ∧ ∀ i, i < k → P i := by
  induction n with
  | zero => exact absurd (fun i hi => absurd hi (Nat.not_lt_zero i)) h
  | succ n ih =>
    by_cases h2 : ∀ i, i < n → P i
    · refine ⟨n, Nat.lt_succ_self n, fun hp => h fun i hi => ?_, h2⟩
      rcases Nat.lt_or_ge i n with h3 | h3
      · exact h2 i h3
      · rw [show i = n by omega]; exact hp
    · obtain ⟨k, h3, h4⟩ := ih h2
      exact ⟨k, by omega, h4⟩
/-- a loop that ends early where 'P' fails -/
theorem run_all (st : Nat → S) (n : Nat) (P : Nat → Prop) [Decidable (∀ i, i < n → P i)] (good bad : R) (hs : ∀ i, i < n → P i → step (st i) = some (.inl (st (i + 1)))) (hx : ∀ i, i < n → ¬ P i → step (st i) = some (.inr bad))
    (ho : step (st n) = some (.inr good)) : Lp.run step (st 0) = some (if ∀ i, i < n → P i then good else bad) := by
  by_cases h : ∀ i, i < n → P i
  · rw [if_pos h]; exact run_for st n good (fun i hi => hs i hi (h i hi)) ho
  · rw [if_neg h]
    obtain ⟨k, h1, h2, h3⟩ := least h
    exact run_for st k bad (fun i hi => hs i (by omega) (h3 i hi)) (hx k h1 h2)
/-- the same, where a round leans on those before it -/
theorem run_all2 (st : Nat → S) (n : Nat) (P : Nat → Prop) [Decidable (∀ i, i < n → P i)] (good bad : R) (hs : ∀ i, i < n → (∀ j, j < i → P j) → P i → step (st i) = some (.inl (st (i + 1)))) (hx : ∀ i, i < n → (∀ j, j < i → P j) → ¬ P i → step (st i) = some (.inr bad))
    (ho : (∀ i, i < n → P i) → step (st n) = some (.inr good)) : Lp.run step (st 0) = some (if ∀ i, i < n → P i then good else bad) := by
  by_cases h : ∀ i, i < n → P i
  · rw [if_pos h]; exact run_for st n good (fun i hi => hs i hi (fun j hj => h j (by omega)) (h i hi)) (ho h)
  · rw [if_neg h]
    obtain ⟨k, h1, h2, h3⟩ := least h
    exact run_for st k bad (fun i hi => hs i (by omega) (fun j hj => h3 j (by omega)) (h3 i hi)) (hx k h1 h3 h2)
end

/-! a map of a finite set into itself -/
theorem list_full : ∀ (n : Nat) (l : List Nat), l.Nodup → (∀ x ∈ l, x < n) → l.length = n → ∀ y, y < n → y ∈ l
  | 0, _, _, _, _, y, hy => absurd hy (Nat.not_lt_zero y)
  | n + 1, l, hd, hb, hl, y, hy => by
    by_cases hn : n ∈ l
    · have h1 := list_full n (l.erase n) (hd.erase n) (fun x hx => by
        have h2 := (List.Nodup.mem_erase_iff hd).1 hx
        have := hb x h2.2
        omega) (by rw [List.length_erase_of_mem hn, hl]; rfl)
      by_cases hyn : y = n
      · rw [hyn]; exact hn
      · exact List.mem_of_mem_erase (h1 y (by omega))
    · exfalso
      have h0 : l ≠ [] := fun h => by rw [h] at hl; simp at hl
      obtain ⟨a, r, rfl⟩ := List.exists_cons_of_ne_nil h0
      have hb' : ∀ x ∈ a :: r, x < n := fun x hx => by
        have := hb x hx
        have : x ≠ n := fun e => hn (e ▸ hx)
        omega
      have h1 := list_full n r (List.nodup_cons.1 hd).2 (fun x hx => hb' x (List.mem_cons_of_mem _ hx)) (by simpa using hl)
      exact (List.nodup_cons.1 hd).1 (h1 a (hb' a List.mem_cons_self))
theorem inj_surj {n : Nat} {f : Nat → Nat} (hf : ∀ i, i < n → f i < n) (hi : ∀ i j, i < n → j < n → f i = f j → i = j) {y : Nat} (hy : y < n) : ∃ x, x < n ∧ f x = y := by
  have h := list_full n ((List.range n).map f) (by
    rw [List.nodup_iff_pairwise_ne, List.pairwise_map]
    refine List.Pairwise.imp_of_mem (fun {a b} ha hb hab => ?_) (List.nodup_iff_pairwise_ne.1 List.nodup_range)
    exact fun e => hab (hi a b (List.mem_range.1 ha) (List.mem_range.1 hb) e)) (fun x hx => by
    obtain ⟨i, h1, rfl⟩ := List.mem_map.1 hx
    exact hf i (List.mem_range.1 h1)) (by simp) y hy
  obtain ⟨x, h1, h2⟩ := List.mem_map.1 h
  exact ⟨x, List.mem_range.1 h1, h2⟩
theorem surj_inj {n : Nat} {f : Nat → Nat} (hf : ∀ i, i < n → f i < n) (hs : ∀ y, y < n → ∃ x, x < n ∧ f x = y) : ∀ i j, i < n → j < n → f i = f j → i = j := by
  -- a section is injective, so it is onto
  let g : Nat → Nat := fun y => if h : y < n then (hs y h).choose else 0
  have hg : ∀ y, y < n → g y < n ∧ f (g y) = y := fun y hy => by
    simp only [g, dif_pos hy]; exact (hs y hy).choose_spec
  have hgi : ∀ i j, i < n → j < n → g i = g j → i = j := fun i j hi hj e => by
    rw [← (hg i hi).2, ← (hg j hj).2, e]
  intro i j hi hj e
  obtain ⟨a, ha, rfl⟩ := inj_surj (fun y hy => (hg y hy).1) hgi hi
  obtain ⟨b, hb, rfl⟩ := inj_surj (fun y hy => (hg y hy).1) hgi hj
  rw [(hg a ha).2, (hg b hb).2] at e
  rw [e]
/-- what an injective map of a finite set keeps, its inverse keeps -/
theorem per {n : Nat} {f : Nat → Nat} (hf : ∀ i, i < n → f i < n) (hi : ∀ i j, i < n → j < n → f i = f j → i = j) {S : Nat → Prop} (hS : ∀ i, i < n → S i → S (f i)) {u : Nat} (hu : u < n) (h : S (f u)) : S u := by
  -- the places of S: f maps them into themselves, injectively; were u outside, f u would have two origins
  refine Classical.byContradiction fun hn => ?_
  let L := (List.range n).filter fun i => @decide (S i) (Classical.propDecidable _)
  have hmem : ∀ i, i ∈ L ↔ i < n ∧ S i := fun i => by simp [L]
  have hnd : L.Nodup := List.nodup_range.filter _
  -- the images of u :: L are distinct members of L
  have key : ∀ (l : List Nat), l.Nodup → ∀ (m : List Nat), m.Nodup → (∀ x ∈ m, x ∈ l) → m.length ≤ l.length := by
    intro l
    induction l with
    | nil => intro _ m _ hm; cases m with
      | nil => simp
      | cons a r => exact absurd (hm a List.mem_cons_self) (by simp)
    | cons a l ih =>
      intro hl m hm hsub
      by_cases ha : a ∈ m
      · have h1 := ih (List.nodup_cons.1 hl).2 (m.erase a) (hm.erase a) (fun x hx => by
          have h2 := (List.Nodup.mem_erase_iff hm).1 hx
          rcases List.mem_cons.1 (hsub x h2.2) with h3 | h3
          · exact absurd h3 h2.1
          · exact h3)
        rw [List.length_erase_of_mem ha] at h1
        have : 0 < m.length := List.length_pos_of_mem ha
        simp; omega
      · have h1 := ih (List.nodup_cons.1 hl).2 m hm (fun x hx => by
          rcases List.mem_cons.1 (hsub x hx) with h3 | h3
          · exact absurd (h3 ▸ hx) ha
          · exact h3)
        simp; omega
  have hnd2 : ((u :: L).map f).Nodup := by
    rw [List.nodup_iff_pairwise_ne, List.pairwise_map]
    have hm : ∀ x ∈ u :: L, x < n := fun x hx => by
      rcases List.mem_cons.1 hx with h3 | h3
      · rw [h3]; exact hu
      · exact ((hmem x).1 h3).1
    refine List.Pairwise.imp_of_mem (fun {a b} ha hb hab => ?_) (List.nodup_iff_pairwise_ne.1 (List.nodup_cons.2 ⟨fun h4 => hn ((hmem u).1 h4).2, hnd⟩))
    exact fun e => hab (hi a b (hm a ha) (hm b hb) e)
  have := key L hnd _ hnd2 (fun x hx => by
    obtain ⟨i, h1, rfl⟩ := List.mem_map.1 hx
    rcases List.mem_cons.1 h1 with h3 | h3
    · rw [h3]; exact (hmem _).2 ⟨hf u hu, h⟩
    · have := (hmem i).1 h3
      exact (hmem _).2 ⟨hf i this.1, hS i this.1 this.2⟩)
  simp at this
  omega

/-! vectors and lists -/
section
variable {α : Type} [Inhabited α] {n : Nat}
theorem gv_nat (v : Vector α n) (i : Nat) (h : i < n) : gv v (i : Int) = v[i] := by
  simp [gv, List.getD_eq_getElem?_getD, h]
theorem gv_sv (v : Vector α n) {i j : Int} (x : α) (hi : 0 ≤ i) (hj : 0 ≤ j) (hn : i < n) : gv (sv v i x) j = if i = j then x else gv v j := by
  have hin : i.toNat < n := by omega
  simp only [gv, sv, Vector.toList_setIfInBounds, List.getD_eq_getElem?_getD, List.getElem?_set, Vector.length_toList, hin, if_true]
  by_cases h : i = j
  · subst h; simp
  · have : ¬ i.toNat = j.toNat := by omega
    simp [h, this]
theorem gv_ext {v w : Vector α n} (h : ∀ i : Int, 0 ≤ i → i < n → gv v i = gv w i) : v = w := by
  apply Vector.ext
  intro i hi
  have := h i (by omega) (by omega)
  rwa [gv_nat v i hi, gv_nat w i hi] at this
theorem gv_ne {v w : Vector α n} (h : v ≠ w) : ∃ i : Nat, i < n ∧ gv v i ≠ gv w i := by
  refine Classical.byContradiction fun hne => h (gv_ext fun i h0 h1 => Classical.byContradiction fun hx => hne ⟨i.toNat, by omega, ?_⟩)
  rwa [Int.toNat_of_nonneg h0]
theorem gl_nat (xs : List α) (i : Nat) (h : i < xs.length) : gl xs (i : Int) = xs[i] := by
  simp [gl, h]
theorem gl_sls (xs : List α) {i j : Int} (x : α) (hi : 0 ≤ i) (hj : 0 ≤ j) (hn : i < xs.length) : gl (sls xs i x) j = if i = j then x else gl xs j := by
  have hin : i.toNat < xs.length := by omega
  simp only [gl, sls, List.getD_eq_getElem?_getD, List.getElem?_set, hin, if_true]
  by_cases h : i = j
  · subst h; simp
  · have : ¬ i.toNat = j.toNat := by omega
    simp [h, this]
theorem gl_ext {xs ys : List α} (hl : xs.length = ys.length) (h : ∀ i : Int, 0 ≤ i → i < xs.length → gl xs i = gl ys i) : xs = ys := by
  apply List.ext_getElem hl
  intro i h1 h2
  have := h i (by omega) (by omega)
  rwa [gl_nat xs i h1, gl_nat ys i h2] at this
theorem gl_append_left (xs ys : List α) {i : Int} (h0 : 0 ≤ i) (h : i < xs.length) : gl (xs ++ ys) i = gl xs i := by
  have : i.toNat < xs.length := by omega
  simp [gl, List.getElem?_append_left this]
theorem gl_append_here (xs : List α) (y : α) : gl (xs ++ [y]) (xs.length : Int) = y := by simp [gl]
theorem gv_replicate (x : α) {i : Int} (h0 : 0 ≤ i) (h1 : i < n) : gv (Vector.replicate n x) i = x := by
  have : i.toNat < n := by omega
  simp [gv, this]
end

/-! data that is handed on: copies and comparisons -/
theorem copy_vec {α : Type} [Inhabited α] {step : Vector α 10 × Int → Option ((Vector α 10 × Int) ⊕ Vector α 10)} (p v0 : Vector α 10)
    (hs : ∀ (v : Vector α 10) (i : Int), 0 ≤ i → i < 10 → step (v, i) = some (.inl (sv v i (gv p i), i + 1))) (ho : ∀ v : Vector α 10, step (v, 10) = some (.inr v)) : Lp.run step (v0, 0) = some p := by
  let f : Nat → Vector α 10 := fun k => Nat.rec v0 (fun i v => sv v (i : Int) (gv p (i : Int))) k
  have hf : ∀ k, f (k + 1) = sv (f k) (k : Int) (gv p (k : Int)) := fun _ => rfl
  have key : ∀ k : Nat, k ≤ 10 → ∀ i : Int, 0 ≤ i → i < k → gv (f k) i = gv p i := by
    intro k
    induction k with
    | zero => intro _ i h0 h1; omega
    | succ k ih =>
      intro hk i h0 h1
      rw [hf, gv_sv _ _ (by omega) h0 (by omega)]
      split
      · rename_i h; rw [h]
      · exact ih (by omega) i h0 (by omega)
  have h10 : f 10 = p := gv_ext fun i h0 h1 => key 10 (by omega) i h0 (by omega)
  have := run_for (step := step) (fun k => (f k, (k : Int))) 10 p (fun i hi => by rw [hs _ _ (by omega) (by omega), hf]; simp) (by rw [h10]; exact ho p)
  exact this
theorem copy_list {α : Type} [Inhabited α] {step : List α × Int → Option ((List α × Int) ⊕ List α)} (p v0 : List α) (hl : v0.length = p.length)
    (hs : ∀ (v : List α) (i : Int), v.length = p.length → 0 ≤ i → i < p.length → step (v, i) = some (.inl (sls v i (gl p i), i + 1))) (ho : ∀ v : List α, v.length = p.length → step (v, (p.length : Int)) = some (.inr v)) : Lp.run step (v0, 0) = some p := by
  let f : Nat → List α := fun k => Nat.rec v0 (fun i v => sls v (i : Int) (gl p (i : Int))) k
  have hf : ∀ k, f (k + 1) = sls (f k) (k : Int) (gl p (k : Int)) := fun _ => rfl
  have hlen : ∀ k, (f k).length = p.length := by
    intro k
    induction k with
    | zero => exact hl
    | succ k ih => rw [hf, sls_len]; exact ih
  have key : ∀ k : Nat, k ≤ p.length → ∀ i : Int, 0 ≤ i → i < k → gl (f k) i = gl p i := by
    intro k
    induction k with
    | zero => intro _ i h0 h1; omega
    | succ k ih =>
      intro hk i h0 h1
      rw [hf, gl_sls _ _ (by omega) h0 (by rw [hlen]; omega)]
      split
      · rename_i h; rw [h]
      · exact ih (by omega) i h0 (by omega)
  have h10 : f p.length = p := gl_ext (hlen _) fun i h0 h1 => key p.length (Nat.le_refl _) i h0 (by rw [hlen] at h1; exact h1)
  have := run_for (step := step) (fun k => (f k, (k : Int))) p.length p (fun i hi => by rw [hs _ _ (hlen i) (by omega) (by omega), hf]; simp) (by rw [ho _ (hlen _)]; rw [h10])
  exact this
theorem all_eq_vec {α : Type} [Inhabited α] [DecidableEq α] {p q : Vector α 10} : (∀ i : Nat, i < 10 → gv p (i : Int) = gv q (i : Int)) ↔ p = q :=
  ⟨fun h => gv_ext fun i h0 h1 => by have := h i.toNat (by omega); rwa [Int.toNat_of_nonneg h0] at this, fun h _ _ => by rw [h]⟩
end Go.Pl
