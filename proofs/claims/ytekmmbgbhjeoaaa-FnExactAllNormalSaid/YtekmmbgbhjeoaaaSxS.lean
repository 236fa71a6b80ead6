/- Parts of lists that are put in order: the words. No condition. -/
import Derived.Test.YtekmmbgbhjeoaaaSxV
set_option linter.unusedSimpArgs false
set_option linter.unusedSectionVars false
set_option linter.unusedVariables false
namespace Go.Pl
open Go Go.Sx

/-- a comparing function and the order that it tells -/
structure Ord {E : Type} (D : E → Prop) (f : E → E → Option Int) (lt : E → E → Prop) : Prop where
  ok : ∀ x y, D x → D y → ∃ c, f x y = some c ∧ (c < 0 ↔ lt x y)
  asym : ∀ x y, lt x y → ¬ lt y x
  ntr : ∀ x y z, ¬ lt y x → ¬ lt z y → ¬ lt z x
theorem iandu (u : Int) {m : Int} (h0 : 0 ≤ m) (h1 : m < 9223372036854775808) : 0 ≤ iand .u64 u m ∧ iand .u64 u m ≤ m := by
  have e : (BitVec.ofInt 64 u &&& BitVec.ofInt 64 m).toNat ≤ m.toNat := by
    rw [BitVec.toNat_and]
    have := toNat_ofInt64 m.toNat (by omega)
    rw [Int.toNat_of_nonneg h0] at this
    rw [this]; exact Nat.and_le_right
  show 0 ≤ IntKind.u64.wrap ((BitVec.ofInt 64 u &&& BitVec.ofInt 64 m).toNat : Int) ∧ IntKind.u64.wrap ((BitVec.ofInt 64 u &&& BitVec.ofInt 64 m).toNat : Int) ≤ m
  rw [wu64 (by omega) (by omega)]
  omega
section
variable {E : Type} [Inhabited E] {D : E → Prop} {f : E → E → Option Int} {lt : E → E → Prop}
abbrev swp (xs : List E) (i j : Int) : List E := sls (sls xs i (gl xs j)) j (gl xs i)
theorem swp_len (xs : List E) (i j : Int) : (swp xs i j).length = xs.length := by simp [swp, sls]
theorem gl_swp {xs : List E} {i j k : Int} (h0 : 0 ≤ i) (h1 : i < xs.length) (j0 : 0 ≤ j) (j1 : j < xs.length) (k0 : 0 ≤ k) : gl (swp xs i j) k = if j = k then gl xs i else if i = k then gl xs j else gl xs k := by
  unfold swp
  rw [gl_sls _ _ j0 k0 (by rw [sls_len]; exact j1), gl_sls _ _ h0 k0 h1]
/-- 'ys' is 'xs' with the part from 'a' to 'b' in another order -/
structure Sg (a b : Int) (xs ys : List E) : Prop where
  len : ys.length = xs.length
  out : ∀ i, 0 ≤ i → (i < a ∨ b ≤ i) → gl ys i = gl xs i
  perm : ys.Perm xs
  pr : ∀ P : E → Prop, (∀ i, a ≤ i → i < b → P (gl xs i)) → ∀ i, a ≤ i → i < b → P (gl ys i)
theorem Sg.refl (a b : Int) (xs : List E) : Sg a b xs xs := ⟨rfl, fun _ _ _ => rfl, .refl _, fun _ h => h⟩
theorem Sg.trans {a b : Int} {xs ys zs : List E} (h : Sg a b xs ys) (g : Sg a b ys zs) : Sg a b xs zs := ⟨g.len.trans h.len, fun i h0 hi => (g.out i h0 hi).trans (h.out i h0 hi), g.perm.trans h.perm, fun P hP => g.pr P (h.pr P hP)⟩
theorem Sg.mono {a b a' b' : Int} {xs ys : List E} (h : Sg a b xs ys) (ha0 : 0 ≤ a) (ha : a' ≤ a) (hb : b ≤ b') : Sg a' b' xs ys :=
  ⟨h.len, fun i h0 hi => h.out i h0 (by omega), h.perm, fun P hP i h1 h2 => by
    by_cases hi : a ≤ i ∧ i < b
    · exact h.pr P (fun i a1 a2 => hP i (by omega) (by omega)) i hi.1 hi.2
    · by_cases h0 : 0 ≤ i
      · rw [h.out i h0 (by omega)]; exact hP i h1 h2
      · have e : ∀ zs : List E, gl zs i = gl zs 0 := fun zs => by
          have : i.toNat = 0 := by omega
          simp [gl, this]
        have hx := hP i h1 h2
        rw [e] at hx ⊢
        by_cases h0a : a ≤ 0 ∧ 0 < b
        · exact h.pr P (fun i a1 a2 => hP i (by omega) (by omega)) 0 h0a.1 h0a.2
        · rw [h.out 0 (Int.le_refl _) (by omega)]; exact hx⟩
theorem Sg.swp {a b : Int} (xs : List E) {i j : Int} (ha : 0 ≤ a) (hb : b ≤ xs.length) (i0 : a ≤ i) (i1 : i < b) (j0 : a ≤ j) (j1 : j < b) : Sg a b xs (swp xs i j) := by
  refine ⟨swp_len _ _ _, fun k k0 hk => ?_, ?_, fun P hP k k0 k1 => ?_⟩
  · rw [gl_swp (by omega) (by omega) (by omega) (by omega) k0, if_neg (by omega), if_neg (by omega)]
  · have e1 := gl_nat xs i.toNat (by omega)
    have e2 := gl_nat xs j.toNat (by omega)
    rw [Int.toNat_of_nonneg (by omega)] at e1 e2
    unfold Pl.swp sls
    rw [e1, e2]
    exact List.set_set_perm _ _
  · rw [gl_swp (by omega) (by omega) (by omega) (by omega) (by omega)]
    split
    · exact hP i i0 i1
    · split
      · exact hP j j0 j1
      · exact hP k k0 k1
/-- in order -/
def Srt (lt : E → E → Prop) (a b : Int) (xs : List E) : Prop := ∀ i j, a ≤ i → i < j → j < b → ¬ lt (gl xs j) (gl xs i)
def Al (D : E → Prop) (xs : List E) : Prop := ∀ i : Int, 0 ≤ i → i < xs.length → D (gl xs i)
theorem Al.mem {xs : List E} (h : ∀ x ∈ xs, D x) : Al D xs := fun i h0 h1 => by
  have := gl_nat xs i.toNat (by omega)
  rw [Int.toNat_of_nonneg h0] at this
  rw [this]; exact h _ (List.getElem_mem _)
theorem Al.all {xs : List E} (h : Al D xs) : ∀ x ∈ xs, D x := fun x hx => by
  obtain ⟨i, hi, rfl⟩ := List.getElem_of_mem hx
  have := h i (by omega) (by omega)
  rwa [gl_nat xs i hi] at this
theorem Sg.al {a b : Int} {xs ys : List E} (h : Sg a b xs ys) (hA : Al D xs) : Al D ys := Al.mem fun x hx => hA.all x (h.perm.mem_iff.1 hx)
theorem Srt.one {a b : Int} {xs : List E} (h : b ≤ a + 1) : Srt lt a b xs := fun i j h1 h2 h3 => by omega
/-- ordered neighbours -/
theorem Ord.rf (O : Ord D f lt) (x : E) : ¬ lt x x := fun h => O.asym x x h h
theorem Srt.snoc (O : Ord D f lt) {a b : Int} {xs : List E} (h : Srt lt a b xs) (hn : a < b → ¬ lt (gl xs b) (gl xs (b - 1))) : Srt lt a (b + 1) xs := fun i j h1 h2 h3 => by
  by_cases e : j = b
  · subst e
    by_cases e2 : i = j - 1
    · rw [e2]; exact hn (by omega)
    · exact O.ntr _ _ _ (h i (j - 1) h1 (by omega) (by omega)) (hn (by omega))
  · exact h i j h1 h2 (by omega)
/-- a shift to the left: in order but for one place -/
def Bt (lt : E → E → Prop) (a b j : Int) (xs : List E) : Prop := ∀ p q, a ≤ p → p < q → q < b → q ≠ j → ¬ lt (gl xs q) (gl xs p)
theorem Bt.swp (O : Ord D f lt) {a b j : Int} {xs : List E} (ha : 0 ≤ a) (hb : b ≤ xs.length) (hj : a < j) (hjb : j < b) (h : Bt lt a b j xs) (hl : lt (gl xs j) (gl xs (j - 1))) : Bt lt a b (j - 1) (swp xs j (j - 1)) := fun p q hp hpq hq hne => by
  rw [gl_swp (by omega) (by omega) (by omega) (by omega) (by omega), gl_swp (by omega) (by omega) (by omega) (by omega) (by omega), if_neg (show ¬ j - 1 = q by omega)]
  by_cases e : j = q
  · subst e
    rw [if_pos rfl]
    by_cases e2 : j - 1 = p
    · rw [if_pos e2]; exact O.asym _ _ hl
    · rw [if_neg e2, if_neg (by omega)]; exact h p (j - 1) hp (by omega) (by omega) (by omega)
  · rw [if_neg e]
    by_cases e2 : j - 1 = p
    · rw [if_pos e2]; exact h j q (by omega) (by omega) hq (fun e3 => e e3.symm)
    · rw [if_neg e2]
      split
      · rename_i e3; rw [← e3] at hpq; exact h (j - 1) q (by omega) (by omega) hq (fun e4 => e e4.symm)
      · exact h p q hp hpq hq (fun e4 => e e4.symm)
theorem Bt.done (O : Ord D f lt) {a b j : Int} {xs : List E} (h : Bt lt a b j xs) (hl : a < j → ¬ lt (gl xs j) (gl xs (j - 1))) : Srt lt a b xs := fun p q hp hpq hq => by
  by_cases e : q = j
  · subst e
    by_cases e2 : p = q - 1
    · rw [e2]; exact hl (by omega)
    · exact O.ntr _ _ _ (h p (q - 1) hp (by omega) (by omega) (by omega)) (hl (by omega))
  · exact h p q hp hpq hq e
end
end Go.Pl
