/- Sets as lists, cosets and their order: the program. No condition. -/
import Derived.Test.YtppjhbjcemnfmaaDoorYJ
set_option linter.unusedSimpArgs false
set_option linter.unusedVariables false
namespace Go.Mi
open Go Go.Sx Go.Pl Go.Lq
variable {q : S_Square}

theorem setOf_ok {xs : List Int} (h : ∀ x ∈ xs, El q.Order x) (hn : q.Order ≤ 10) (hl : xs.length ≤ 4294967296) : Ok (impl_setOf xs) (fun v => In q v ∧ ∀ x, 0 ≤ x → (hasb v x = true ↔ x ∈ xs)) := by
  unfold impl_setOf
  refine .call (Ok.up (step := impl_setOf_L1 xs) (fun v i => (v, i)) (fun v i => In q v ∧ ∀ x, 0 ≤ x → (hasb v x = true ↔ ∃ k, 0 ≤ k ∧ k < i ∧ gl xs k = x)) 0 xs.length (by omega) (Q := fun v => In q v ∧ ∀ x, 0 ≤ x → (hasb v x = true ↔ x ∈ xs)) (fun v i i0 i1 hI => ?_) (fun v hI => ?_)
    ⟨⟨by omega, fun x hx hb => ?_⟩, fun x hx => ?_⟩) (fun a ha => .ret ha)
  · unfold impl_setOf_L1
    have hg := h _ (gl_mem i0 i1)
    have k := ior1 hI.1.1 (x := gl xs i) (by omega)
    refine .yes (by omega) (.yes (by omega) (.yes hg.1 (.ret (.inl ⟨_, by rw [w64 (by omega) (by omega)], ⟨k.1, fun x hx hb => ?_⟩, fun x hx => ?_⟩))))
    · rcases (k.2.2 x hx).1 hb with h1 | h1
      · exact hI.1.2 x hx h1
      · rw [← h1]; exact hg.2
    · rw [k.2.2 x hx, hI.2 x hx]
      constructor
      · rintro (⟨j, a, b, c⟩ | e)
        · exact ⟨j, a, by omega, c⟩
        · exact ⟨i, i0, by omega, e⟩
      · rintro ⟨j, a, b, c⟩
        by_cases e : j = i
        · rw [e] at c; exact .inr c
        · exact .inl ⟨j, a, by omega, c⟩
  · unfold impl_setOf_L1
    refine .no (by simp) (.ret ⟨_, rfl, hI.1, fun x hx => ?_⟩)
    rw [hI.2 x hx]
    exact ⟨fun ⟨k, a, b, c⟩ => c ▸ gl_mem a b, fun hm => by obtain ⟨k, a, b, c⟩ := mem_gl hm; exact ⟨k, a, b, c⟩⟩
  · rw [hasb_zero] at hb; cases hb
  · rw [hasb_zero]
    exact ⟨(fun h => nomatch h), fun ⟨k, a, b, _⟩ => by omega⟩
theorem list_ok {v : Int} (hv : Rg v) : Ok (impl_set_list v) (· = (elts 10).filter (hasb v)) := by
  unfold impl_set_list
  refine .call (Ok.up (step := impl_set_list_L1 v) (fun w i => (w, i)) (fun w i => w = (elts i.toNat).filter (hasb v)) 0 10 (by omega) (Q := (· = (elts 10).filter (hasb v))) (fun w i i0 i1 hI => ?_) (fun w hI => ?_) rfl) (fun a ha => .ret ha)
  · unfold impl_set_list_L1
    simp only [w8 (x := i) (by omega) (by omega)]
    have hlen := List.length_filter_le (hasb v) (elts i.toNat)
    rw [elts_len, ← hI] at hlen
    refine .yes (by omega) (.bind (.calls (has_ok hv (by omega)) (.mono (Q := fun w => w = (elts (i + 1).toNat).filter (hasb v)) (.ite (fun e => .yes (by simp; omega) (.ret ?_)) (fun e => .ret ?_)) fun w' hw' => .ret (.inl ⟨w', by rw [w64 (by omega) (by omega)], hw'⟩))))
    · rw [elts_snoc i0, List.filter_append, List.filter_cons_of_pos e, ← hI]; simp
    · rw [elts_snoc i0, List.filter_append, List.filter_cons_of_neg e, ← hI]; simp
  · unfold impl_set_list_L1
    exact .no (by simp) (.ret ⟨_, rfl, hI⟩)
theorem those_ok (h : Sq q.Order (op q)) {f : Int → Option Bool} {F : Int → Bool} (hf : ∀ z, El q.Order z → f z = some (F z)) : Ok (impl_Square_those q f) (fun v => In q v ∧ ∀ x, El q.Order x → hasb v x = F x) := by
  have hn := h.le
  have hp := h.pos
  have hL := elts_len' (n := q.Order) (by omega)
  unfold impl_Square_those
  refine .calls (elements_ok h) (.call (Ok.up (step := impl_Square_those_L1 (elts q.Order.toNat) f) (fun v i => (v, i)) (fun v i => In q v ∧ ∀ x, El q.Order x → (hasb v x = true ↔ x < i ∧ F x = true)) 0 q.Order (by omega) (Q := fun v => In q v ∧ ∀ x, El q.Order x → hasb v x = F x) (fun v i i0 i1 hI => ?_) (fun v hI => ?_)
    ⟨⟨by omega, fun x hx hb => ?_⟩, fun x hx => ?_⟩) (fun a ha => .ret ha))
  · unfold impl_Square_those_L1
    have ei : El q.Order i := ⟨i0, i1⟩
    simp only [hL, elts_gl' ei]
    refine .yes (by omega) (.bind (.yes (by omega) (.calls (hf i ei) (.mono (Q := fun v => In q v ∧ ∀ x, El q.Order x → (hasb v x = true ↔ x < i + 1 ∧ F x = true)) (.ite (fun e => .yes i0 (.ret ?_)) (fun e => .ret ⟨hI.1, fun x hx => ?_⟩)) fun w' hw' => .ret (.inl ⟨w', by rw [w64 (by omega) (by omega)], hw'⟩)))))
    · have k := ior1 hI.1.1 (x := i) (by omega)
      refine ⟨⟨k.1, fun x hx hb => ?_⟩, fun x hx => ?_⟩
      · rcases (k.2.2 x hx).1 hb with h1 | h1
        · exact hI.1.2 x hx h1
        · omega
      · rw [k.2.2 x hx.1, hI.2 x hx]
        constructor
        · rintro (h1 | h1)
          · exact ⟨by omega, h1.2⟩
          · rw [← h1]; exact ⟨by omega, e⟩
        · rintro ⟨h1, h2⟩
          by_cases e2 : x = i
          · exact .inr e2.symm
          · exact .inl ⟨by omega, h2⟩
    · rw [hI.2 x hx]
      constructor
      · rintro ⟨h1, h2⟩; exact ⟨by omega, h2⟩
      · rintro ⟨h1, h2⟩
        refine ⟨?_, h2⟩
        by_cases e2 : x = i
        · rw [e2] at h2; exact absurd h2 e
        · omega
  · unfold impl_Square_those_L1
    simp only [hL]
    refine .no (by omega) (.ret ⟨_, rfl, hI.1, fun x hx => ?_⟩)
    rw [Bool.eq_iff_iff, hI.2 x hx]
    exact ⟨fun h => h.2, fun h => ⟨hx.2, h⟩⟩
  · rw [hasb_zero] at hb; cases hb
  · rw [hasb_zero]
    exact ⟨(fun h => nomatch h), fun h => by omega⟩

/-! ## the order of sets by their least elements -/
theorem tz_table : ∀ v : Nat, v < 1024 → v ≠ 0 → ∃ t : Nat, t < 10 ∧ bits_TrailingZeros64 (v : Int) = some (t : Int) ∧ v.testBit t = true ∧ ∀ y : Nat, y < t → v.testBit y = false := by decide +kernel
theorem tz_ok {v x : Int} (hv : Rg v) (hx : 0 ≤ x) (hb : hasb v x = true) (hm : ∀ y, 0 ≤ y → y < x → hasb v y = false) : bits_TrailingZeros (IntKind.u64.wrap v) = some x := by
  have h0 : v.toNat ≠ 0 := fun e => by
    have : v = 0 := by omega
    rw [this, hasb_zero] at hb; cases hb
  obtain ⟨t, h1, h2, h3, h4⟩ := tz_table v.toNat (by omega) h0
  unfold bits_TrailingZeros
  rw [wu64 hv.1 (by omega)]
  rw [Int.toNat_of_nonneg hv.1] at h2
  rw [h2]
  have : (t : Int) = x := by
    rcases Int.lt_trichotomy t x with h | h | h
    · have := hm t (by omega) h
      simp only [hasb, Int.toNat_natCast] at this
      rw [h3] at this; cases this
    · exact h
    · have := h4 x.toNat (by omega)
      simp only [hasb] at hb
      rw [this] at hb; cases hb
  rw [this]; rfl
/-- a list in order stays as it is -/
theorem insertion_ok {xs : List Int} {f : Int → Int → Option Int} (hl : xs.length ≤ 4294967296) (hf : ∀ i : Int, 0 < i → i < xs.length → ∃ c, f (gl xs i) (gl xs (i - 1)) = some c ∧ 0 ≤ c) : Ok (slices_insertionSortCmpFunc_impl_set xs 0 xs.length f) (· = xs) := by
  unfold slices_insertionSortCmpFunc_impl_set
  rw [w64 (x := 0 + 1) (by omega) (by omega)]
  by_cases h0 : (xs.length : Int) < 1
  · refine .call (R := (· = xs)) (Ok.of_eq (Lp.run_out (r := xs) ?_) rfl) (fun a ha => .ret ha)
    unfold slices_insertionSortCmpFunc_impl_set_L1
    rw [if_neg (by simp; omega)]
  · refine .call (Ok.up (step := slices_insertionSortCmpFunc_impl_set_L1 0 xs.length f) (fun v i => (v, i)) (fun v i => v = xs) (0 + 1) xs.length (by omega) (Q := (· = xs)) (fun v i i0 i1 hI => ?_) (fun v hI => ?_) rfl) (fun a ha => .ret ha)
    · subst hI
      unfold slices_insertionSortCmpFunc_impl_set_L1
      refine .yes (by simpa using i1) (.call (R := (· = v)) (Ok.of_eq (Lp.run_out (r := v) ?_) rfl) fun w hw => .ret (.inl ⟨w, by rw [w64 (by omega) (by omega)], hw⟩))
      unfold slices_insertionSortCmpFunc_impl_set_L2
      obtain ⟨c, hc, hc0⟩ := hf i (by omega) i1
      simp only [w64 (x := i - 1) (by omega) (by omega)]
      rw [if_pos (show (0 : Int) < i by omega), if_pos ⟨by omega, i1⟩, if_pos ⟨by omega, by omega⟩, hc]
      simp [show ¬ c < 0 by omega]
    · unfold slices_insertionSortCmpFunc_impl_set_L1
      exact .no (by simp) (.ret ⟨_, rfl, hI⟩)
theorem len_table : ∀ v : Nat, v < 12 → (bits_Len (IntKind.u64.wrap (v : Int))).isSome = true := by decide +kernel
theorem sort_ok {xs : List Int} {f : Int → Int → Option Int} (hl : xs.length < 12) (hf : ∀ i : Int, 0 < i → i < xs.length → ∃ c, f (gl xs i) (gl xs (i - 1)) = some c ∧ 0 ≤ c) : Ok (slices_SortFunc_impl_set_impl_set xs f) (· = xs) := by
  obtain ⟨t, ht⟩ := Option.isSome_iff_exists.1 (len_table xs.length hl)
  unfold slices_SortFunc_impl_set_impl_set
  refine .calls ht (.call (R := (· = xs)) ?_ fun a ha => .ret ha)
  unfold slices_pdqsortCmpFunc_impl_set
  obtain ⟨ys, e, rfl⟩ := insertion_ok (by omega) hf
  refine .call (R := (· = ys)) (Ok.of_eq (Lp.run_out (r := ys) ?_) rfl) (fun a ha => .ret ha)
  unfold slices_pdqsortCmpFunc_impl_set_L1
  rw [w64 (by omega) (by omega), if_pos (by omega), e]; rfl
end Go.Mi
