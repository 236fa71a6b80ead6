/- The order of lists of elements, by their numbers and then as lists; sets as lists. No condition. -/
import Derived.Test.YtekmmbgbhjeoaaaZC1
import Derived.Test.YtekmmbgbhjeoaaaZS3
set_option linter.unusedSimpArgs false
set_option linter.unusedVariables false
namespace Go.Mi
open Go Go.Sx Go.Pl Go.Lq
variable {q : S_Square}

/-- the first difference is less -/
def lexI (a b : List Int) : Prop := ∃ i : Int, (0 ≤ i ∧ i < a.length ∧ i < b.length) ∧ (∀ j, 0 ≤ j → j < i → gl a j = gl b j) ∧ gl a i < gl b i
def ahead (a b : List Int) : Prop := a.length < b.length ∨ a.length = b.length ∧ lexI a b
theorem lexI.irr (a : List Int) : ¬ lexI a a := fun ⟨i, _, _, h⟩ => by omega
theorem lexI.trans {a b c : List Int} (hab : a.length = b.length) (hbc : b.length = c.length) (h : lexI a b) (g : lexI b c) : lexI a c := by
  obtain ⟨i, hi, e1, l1⟩ := h
  obtain ⟨j, hj, e2, l2⟩ := g
  rcases Int.lt_trichotomy i j with h3 | h3 | h3
  · exact ⟨i, by omega, fun k k0 k1 => (e1 k k0 k1).trans (e2 k k0 (by omega)), by rw [← e2 i hi.1 h3]; exact l1⟩
  · subst h3; exact ⟨i, by omega, fun k k0 k1 => (e1 k k0 k1).trans (e2 k k0 k1), by omega⟩
  · exact ⟨j, by omega, fun k k0 k1 => (e1 k k0 (by omega)).trans (e2 k k0 k1), by rw [e1 j hj.1 h3]; exact l2⟩
theorem lexI.total {a b : List Int} (hab : a.length = b.length) (h : ¬ lexI a b) (g : ¬ lexI b a) : a = b := by
  refine gl_ext hab fun i i0 i1 => ?_
  refine Classical.byContradiction fun hne => ?_
  have hx : ¬ ∀ k : Nat, k < i.toNat + 1 → gl a (k : Int) = gl b (k : Int) := fun hall => hne (by
    have := hall i.toNat (by omega)
    rwa [Int.toNat_of_nonneg i0] at this)
  obtain ⟨k, k1, k2, k3⟩ := least hx
  have e : ∀ j : Int, 0 ≤ j → j < k → gl a j = gl b j := fun j j0 j1 => by
    have := k3 j.toNat (by omega)
    rwa [Int.toNat_of_nonneg j0] at this
  rcases Int.lt_trichotomy (gl a k) (gl b k) with h3 | h3 | h3
  · exact h ⟨k, by omega, e, h3⟩
  · exact k2 h3
  · exact g ⟨k, by omega, fun j j0 j1 => (e j j0 j1).symm, h3⟩
theorem ahead.trans {a b c : List Int} (h : ahead a b) (g : ahead b c) : ahead a c := by
  rcases h with h | ⟨h1, h2⟩ <;> rcases g with g | ⟨g1, g2⟩
  · exact .inl (by omega)
  · exact .inl (by omega)
  · exact .inl (by omega)
  · exact .inr ⟨by omega, h2.trans h1 g1 g2⟩
theorem ahead.irr (a : List Int) : ¬ ahead a a := by
  rintro (h | ⟨_, h⟩)
  · omega
  · exact lexI.irr a h
theorem ahead.asym {a b : List Int} (h : ahead a b) : ¬ ahead b a := fun g => ahead.irr a (h.trans g)
theorem ahead.total {a b : List Int} (h : ¬ ahead a b) (g : ¬ ahead b a) : a = b := by
  have hl : a.length = b.length := by
    rcases Nat.lt_trichotomy a.length b.length with h3 | h3 | h3
    · exact absurd (.inl h3) h
    · exact h3
    · exact absurd (.inl h3) g
  exact lexI.total hl (fun h2 => h (.inr ⟨hl, h2⟩)) (fun h2 => g (.inr ⟨hl.symm, h2⟩))
theorem ahead_ok (a b : List Int) (hl : a.length ≤ 4294967296) : Ok (spec_l06Ahead a b) (fun r => r = true ↔ ahead a b) := by
  unfold spec_l06Ahead
  refine .ite (fun hne => .ret ?_) (fun he => ?_)
  · rw [decide_eq_true_eq]
    exact ⟨fun h => .inl (by omega), fun h => by rcases h with h | ⟨h, _⟩ <;> omega⟩
  · have el : a.length = b.length := by omega
    refine .call (Ok.up (step := spec_l06Ahead_L1 a b) (fun (_ : Unit) i => i) (fun _ i => ∀ k : Int, 0 ≤ k → k < i → gl a k = gl b k) 0 a.length (by omega) (Q := fun r => (r = .inl () ∧ a = b) ∨ ∃ c, r = .inr c ∧ (c = true ↔ lexI a b)) (fun _ i i0 i1 hI => ?_) (fun _ hI => ?_) (a := ()) (fun k a b => by omega)) (fun r hr => ?_)
    · unfold spec_l06Ahead_L1
      refine .yes i1 (.yes ⟨i0, i1⟩ (.yes ⟨i0, by omega⟩ (.ite (fun e2 => .ret (.inr ⟨_, rfl, .inr ⟨_, rfl, ?_⟩⟩)) (fun e2 => .ret (.inl ⟨(), by rw [w64 (by omega) (by omega)], fun k k0 k1 => ?_⟩)))))
      · rw [decide_eq_true_eq]
        refine ⟨fun h => ⟨i, by omega, hI, h⟩, fun ⟨j, hj, e1, l1⟩ => ?_⟩
        rcases Int.lt_trichotomy i j with h3 | h3 | h3
        · exact absurd (e1 i i0 h3) e2
        · rw [h3]; exact l1
        · have := hI j hj.1 h3; omega
      · by_cases ek : k = i
        · rw [ek]; exact Classical.not_not.1 e2
        · exact hI k k0 (by omega)
    · unfold spec_l06Ahead_L1
      exact .no (by simp) (.ret ⟨_, rfl, .inl ⟨rfl, gl_ext el fun k k0 k1 => hI k k0 k1⟩⟩)
    · rcases hr with ⟨rfl, hab⟩ | ⟨c, rfl, hc⟩
      · exact .ret ⟨(fun h => nomatch h), fun h => by rw [hab] at h; exact absurd h (ahead.irr b)⟩
      · refine .ret (hc.trans ⟨fun h => .inr ⟨el, h⟩, fun h => ?_⟩)
        rcases h with h | ⟨_, h⟩
        · omega
        · exact h
theorem compare_ok (a b : List Int) (el : a.length = b.length) (hl : a.length ≤ 4294967296) : Ok (slices_Compare_int64_int64 a b) (fun c => c < 0 ↔ lexI a b) := by
  unfold slices_Compare_int64_int64
  refine .call (Ok.up (step := slices_Compare_int64_int64_L1 a b) (fun (_ : Unit) i => i) (fun _ i => ∀ k : Int, 0 ≤ k → k < i → gl a k = gl b k) 0 a.length (by omega) (Q := fun r => (r = .inl () ∧ a = b) ∨ ∃ c, r = .inr c ∧ (c < 0 ↔ lexI a b)) (fun _ i i0 i1 hI => ?_) (fun _ hI => ?_) (a := ()) (fun k a b => by omega)) (fun r hr => ?_)
  · unfold slices_Compare_int64_int64_L1
    obtain ⟨c, hc, hc1, hc2⟩ : ∃ c, cmp_Compare_int64 (gl a i) (gl b i) = some c ∧ (c < 0 ↔ gl a i < gl b i) ∧ (c = 0 ↔ gl a i = gl b i) := by
      unfold cmp_Compare_int64 cmp_isNaN_int64
      by_cases h1 : gl a i < gl b i
      · exact ⟨-1, by simp [h1], by omega, by omega⟩
      · by_cases h2 : gl b i < gl a i
        · exact ⟨1, by simp [h1, h2], by omega, by omega⟩
        · exact ⟨0, by simp [h1, h2], by omega, by omega⟩
    refine .yes i1 (.yes ⟨i0, i1⟩ (.no (by omega) (.yes ⟨i0, by omega⟩ (.calls hc (.ite (fun hne => .ret (.inr ⟨_, rfl, .inr ⟨_, rfl, hc1.trans ⟨fun h => ⟨i, by omega, hI, h⟩, fun ⟨j, hj, e1, l1⟩ => ?_⟩⟩⟩)) (fun he => .ret (.inl ⟨(), by rw [w64 (by omega) (by omega)], fun k k0 k1 => ?_⟩)))))))
    · rcases Int.lt_trichotomy i j with h4 | h4 | h4
      · exact absurd (hc2.2 (e1 i i0 h4)) hne
      · rw [h4]; exact l1
      · have := hI j hj.1 h4; omega
    · by_cases ek : k = i
      · rw [ek]; exact hc2.1 (Classical.not_not.1 he)
      · exact hI k k0 (by omega)
  · unfold slices_Compare_int64_int64_L1
    exact .no (by simp) (.ret ⟨_, rfl, .inl ⟨rfl, gl_ext el fun k k0 k1 => hI k k0 k1⟩⟩)
  · rcases hr with ⟨rfl, hab⟩ | ⟨c, rfl, hc⟩
    · exact .no (by omega) (.ret ⟨fun h => by omega, fun h => by rw [hab] at h; exact absurd h (lexI.irr b)⟩)
    · exact .ret hc
/-- a set as a list -/
def lst (v : Int) : List Int := (elts 10).filter (hasb v)
theorem size_table : ∀ v : Nat, v < 1024 → bits_OnesCount64 (v : Int) = some ((lst (v : Int)).length : Int) := by decide +kernel
theorem size_ok {v : Int} (hv : Rg v) : impl_set_size v = some ((lst v).length : Int) := by
  have := size_table v.toNat (by omega)
  rw [Int.toNat_of_nonneg hv.1] at this
  unfold impl_set_size bits_OnesCount
  rw [wu64 hv.1 (by omega), this]; rfl
theorem lst_len10 (v : Int) : (lst v).length ≤ 10 := by
  have := List.length_filter_le (hasb v) (elts 10)
  rw [elts_len] at this; exact this
theorem cmp_ok {u v : Int} (hu : Rg u) (hv : Rg v) : Ok (impl_compareSets u v) (fun c => c < 0 ↔ ahead (lst u) (lst v)) := by
  have a1 := lst_len10 u
  have a2 := lst_len10 v
  unfold impl_compareSets
  refine .calls (size_ok hu) (.calls (size_ok hv) (.ite (fun hne => .calls (size_ok hu) (.calls (size_ok hv) (.ret ?_))) (fun he => ?_)))
  · rw [w64 (by omega) (by omega)]
    exact ⟨fun h => .inl (by omega), fun h => by rcases h with h | ⟨h, _⟩ <;> omega⟩
  · have el : (lst u).length = (lst v).length := by omega
    refine .call (list_ok hu) fun a ha => .call (list_ok hv) fun b hb => ?_
    rw [ha, hb]
    refine .call (compare_ok (lst u) (lst v) el (by omega)) fun c hc => .ret (hc.trans ⟨fun h => .inr ⟨el, h⟩, fun h => ?_⟩)
    rcases h with h | ⟨_, h⟩
    · omega
    · exact h
theorem set_ord : Ord Rg (fun a0 a1 => impl_compareSets a0 a1) (fun u v => ahead (lst u) (lst v)) := by
  refine ⟨fun u v hu hv => ?_, fun u v h => h.asym, fun x y z h g k => ?_⟩
  · obtain ⟨c, e, h⟩ := cmp_ok hu hv; exact ⟨c, e, h⟩
  · by_cases hxy : ahead (lst x) (lst y)
    · exact g (k.trans hxy)
    · have := ahead.total hxy h
      rw [this] at k; exact g k
theorem mem_lst {v x : Int} : x ∈ lst v ↔ El 10 x ∧ hasb v x = true := by
  unfold lst
  rw [List.mem_filter, mem_elts]; rfl
theorem lst_inj {u v : Int} (hu : Rg u) (hv : Rg v) (e : lst u = lst v) : u = v := has_ext hu hv fun x x0 x1 => by
  rw [Bool.eq_iff_iff]
  have h1 := mem_lst (v := u) (x := x)
  have h2 := mem_lst (v := v) (x := x)
  rw [e] at h1
  exact ⟨fun h => (h2.1 (h1.2 ⟨⟨x0, x1⟩, h⟩)).2, fun h => (h1.1 (h2.2 ⟨⟨x0, x1⟩, h⟩)).2⟩
/-- two lists in a strict order that have the same members are the same -/
theorem strict_ext {α : Type} {r : α → α → Prop} (as : ∀ x y, r x y → ¬ r y x) : ∀ {a b : List α}, a.Pairwise r → b.Pairwise r → (∀ x, x ∈ a ↔ x ∈ b) → a = b
  | [], [], _, _, _ => rfl
  | [], y :: b, _, _, h => absurd ((h y).2 List.mem_cons_self) (by simp)
  | x :: a, [], _, _, h => absurd ((h x).1 List.mem_cons_self) (by simp)
  | x :: a, y :: b, ha, hb, h => by
    obtain ⟨a1, a2⟩ := List.pairwise_cons.1 ha
    obtain ⟨b1, b2⟩ := List.pairwise_cons.1 hb
    have irr : ∀ z, ¬ r z z := fun z hz => as z z hz hz
    have e : x = y := by
      rcases List.mem_cons.1 ((h x).1 List.mem_cons_self) with e | hx
      · exact e
      · rcases List.mem_cons.1 ((h y).2 List.mem_cons_self) with e | hy
        · exact e.symm
        · exact absurd (b1 x hx) (as _ _ (a1 y hy))
    subst e
    rw [strict_ext as a2 b2 fun z => ?_]
    constructor
    · intro hz
      have := a1 z hz
      rcases List.mem_cons.1 ((h z).1 (List.mem_cons_of_mem _ hz)) with e | hz'
      · rw [e] at this; exact absurd this (irr x)
      · exact hz'
    · intro hz
      have := b1 z hz
      rcases List.mem_cons.1 ((h z).2 (List.mem_cons_of_mem _ hz)) with e | hz'
      · rw [e] at this; exact absurd this (irr x)
      · exact hz'
end Go.Mi
