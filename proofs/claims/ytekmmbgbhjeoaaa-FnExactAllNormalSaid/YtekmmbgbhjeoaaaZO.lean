/- Cosets and quotients: the program. No condition. -/
import Derived.Test.YtekmmbgbhjeoaaaZN
set_option linter.unusedSimpArgs false
set_option linter.unusedVariables false
namespace Go.Mi
open Go Go.Sx Go.Pl Go.Lq
variable {q : S_Square}

/-- the set of the class of 'x' -/
def IsD (q : S_Square) (C : Int → Int → Prop) (x d : Int) : Prop := In q d ∧ ∀ z, El q.Order z → (hasb d z = true ↔ C x z)
theorem elts_sorted (n : Nat) : (elts n).Pairwise (· < ·) := by
  unfold elts
  rw [List.pairwise_map]
  exact List.pairwise_lt_range.imp fun h => by omega
theorem firsts_sorted {C : Int → Int → Prop} (k : Int) : (firsts k C).Pairwise (· < ·) := (elts_sorted _).filter _
theorem gl_lt {xs : List Int} (h : xs.Pairwise (· < ·)) {i j : Int} (h0 : 0 ≤ i) (hij : i < j) (hj : j < xs.length) : gl xs i < gl xs j := by
  have h1 := gl_nat xs i.toNat (by omega)
  have h2 := gl_nat xs j.toNat (by omega)
  rw [Int.toNat_of_nonneg h0] at h1
  rw [Int.toNat_of_nonneg (by omega)] at h2
  rw [h1, h2]
  exact List.pairwise_iff_getElem.1 h _ _ _ _ (by omega)
theorem gl_inj {xs : List Int} (h : xs.Pairwise (· < ·)) {i j : Int} (h0 : 0 ≤ i) (h1 : i < xs.length) (j0 : 0 ≤ j) (j1 : j < xs.length) (e : gl xs i = gl xs j) : i = j := by
  rcases Int.lt_trichotomy i j with h3 | h3 | h3
  · have := gl_lt h h0 h3 j1; omega
  · exact h3
  · have := gl_lt h j0 h3 h1; omega
theorem IsD.eq {C : Int → Int → Prop} (E : Eqv q.Order C) (hn : q.Order ≤ 10) {x y c d : Int} (hx : El q.Order x) (hy : El q.Order y) (hc : IsD q C x c) (hd : IsD q C y d) : (C y x → c = d) ∧ (¬ C y x → c ≠ d ∧ iand .i64 c d = 0) := by
  have out : ∀ {x c : Int}, IsD q C x c → ∀ z, 0 ≤ z → ¬ z < q.Order → hasb c z = false := fun hc z z0 hz => by
    rw [Bool.eq_false_iff]; exact fun hb => hz (hc.1.2 z z0 hb)
  refine ⟨fun hC => has_ext hc.1.1 hd.1.1 fun z z0 z1 => ?_, fun hC => ⟨fun e => ?_, has_ext (iand_rg hc.1.1 hd.1.1) (by omega) fun z z0 z1 => ?_⟩⟩
  · by_cases hz : z < q.Order
    · rw [Bool.eq_iff_iff, hc.2 z ⟨z0, hz⟩, hd.2 z ⟨z0, hz⟩]
      exact ⟨fun h => E.tr y x z hy hx ⟨z0, hz⟩ hC h, fun h => E.tr x y z hx hy ⟨z0, hz⟩ (E.sy y x hy hx hC) h⟩
    · rw [out hc z z0 hz, out hd z z0 hz]
  · have := (hc.2 x hx).2 (E.rf x hx)
    rw [e] at this
    exact hC ((hd.2 x hx).1 this)
  · rw [iand_has hc.1.1 hd.1.1, hasb_zero, Bool.eq_false_iff]
    intro hb
    rw [Bool.and_eq_true] at hb
    have hz : El q.Order z := ⟨z0, hc.1.2 z z0 hb.1⟩
    exact hC (E.tr y z x hy hz hx ((hd.2 z hz).1 hb.2) (E.sy x z hx hz ((hc.2 z hz).1 hb.1)))
theorem gl_snoc_lt {α : Type} [Inhabited α] {xs : List α} {y : α} {i : Int} (h0 : 0 ≤ i) (h : i < xs.length) : gl (xs ++ [y]) i = gl xs i := gl_append_left _ _ h0 h
theorem gl_snoc_eq {α : Type} [Inhabited α] {xs : List α} {y : α} {i : Int} (h : i = xs.length) : gl (xs ++ [y]) i = y := by rw [h]; exact gl_append_here _ _
theorem not_first {C : Int → Int → Prop} {n i : Int} (E : Eqv n C) (hi : El n i) : ¬ isF C i ↔ ∃ k : Int, 0 ≤ k ∧ k < (firsts i C).length ∧ C (gl (firsts i C) k) i := by
  constructor
  · intro hf
    obtain ⟨y, hy, fy, cy⟩ := E.first hi
    have : y < i := by
      rcases Int.lt_trichotomy y i with h3 | h3 | h3
      · exact h3
      · rw [h3] at fy; exact absurd fy hf
      · exact absurd (E.sy y i hy hi cy) (fy i hi.1 h3)
    obtain ⟨k, a, b, c⟩ := mem_gl ((mem_firsts hi.1).2 ⟨⟨hy.1, this⟩, fy⟩)
    exact ⟨k, a, b, by rw [c]; exact cy⟩
  · rintro ⟨k, a, b, c⟩ hf
    have := (mem_firsts hi.1).1 (gl_mem a b)
    exact hf _ this.1.1 this.1.2 c
/-! ## Tables -/
def mkT (n : Int) (F : Int → Int → Int) : Vector (Vector Int 10) 10 := Vector.ofFn fun i => Vector.ofFn fun j => if (i.val : Int) < n ∧ (j.val : Int) < n then F i.val j.val else 0
theorem gv_mkT {n : Int} {F : Int → Int → Int} {i j : Int} (h0 : 0 ≤ i) (h1 : i < 10) (h2 : 0 ≤ j) (h3 : j < 10) : gv (gv (mkT n F) i) j = if i < n ∧ j < n then F i j else 0 := by
  unfold mkT
  rw [gv_ofFn _ h0 h1, gv_ofFn _ h2 h3]
  simp only [Int.toNat_of_nonneg h0, Int.toNat_of_nonneg h2]
theorem mkT_eq {n : Int} {F : Int → Int → Int} {t : Vector (Vector Int 10) 10} (h : ∀ i j : Int, 0 ≤ i → i < 10 → 0 ≤ j → j < 10 → gv (gv t i) j = if i < n ∧ j < n then F i j else 0) : t = mkT n F :=
  gv_ext fun i h0 h1 => gv_ext fun j h2 h3 => by rw [h i j h0 h1 h2 h3, gv_mkT h0 h1 h2 h3]
theorem gv_gv_sv {t : Vector (Vector Int 10) 10} {x y i j v : Int} (hx : 0 ≤ x ∧ x < 10) (hy : 0 ≤ y ∧ y < 10) (hi : 0 ≤ i) (hj : 0 ≤ j) : gv (gv (sv t x (sv (gv t x) y v)) i) j = if x = i ∧ y = j then v else gv (gv t i) j := by
  rw [gv_sv _ _ hx.1 hi hx.2]
  by_cases e : x = i
  · rw [if_pos e, gv_sv _ _ hy.1 hj hy.2, e]
    by_cases e2 : y = j <;> simp [e2]
  · rw [if_neg e, if_neg (fun h => e h.1)]
end Go.Mi
