/- The library's sort: heaps and partitions. No condition. -/
import Derived.Test.YtekmmbgbhjeoaaaZS1
set_option linter.unusedSimpArgs false
set_option linter.unusedVariables false
namespace Go.Mi
open Go Go.Sx Go.Pl
section
variable {D : Int → Prop} {f : Int → Int → Option Int} {lt : Int → Int → Prop}

/-! heaps -/
def impl_set_Hp (lt : Int → Int → Prop) (first lo hi : Int) (xs : List Int) : Prop := ∀ k c, lo ≤ k → (c = 2 * k + 1 ∨ c = 2 * k + 2) → c < hi → ¬ lt (gl xs (first + k)) (gl xs (first + c))
theorem impl_set_sift (O : Ord D f lt) {xs : List Int} {lo hi first : Int} (h0 : 0 ≤ first) (h1 : 0 ≤ lo) (h2 : lo < hi ∨ lo = hi) (h3 : first + hi ≤ xs.length) (hl : Sml xs) (hA : Al D xs) (hH : impl_set_Hp lt first (lo + 1) hi xs) :
    Ok (slices_siftDownCmpFunc_impl_set xs lo hi first f) (fun ys => Sg (first + lo) (first + hi) xs ys ∧ impl_set_Hp lt first lo hi ys) := by
  unfold slices_siftDownCmpFunc_impl_set
  refine .call (Ok.loop (step := slices_siftDownCmpFunc_impl_set_L1 hi first f) (fun s => Sg (first + lo) (first + hi) xs s.1 ∧ (lo ≤ s.2 ∧ s.2 ≤ hi) ∧ (∀ k c, lo ≤ k → k ≠ s.2 → (c = 2 * k + 1 ∨ c = 2 * k + 2) → c < hi → ¬ lt (gl s.1 (first + k)) (gl s.1 (first + c))) ∧
      ∀ k c, lo ≤ k → (s.2 = 2 * k + 1 ∨ s.2 = 2 * k + 2) → (c = 2 * s.2 + 1 ∨ c = 2 * s.2 + 2) → c < hi → ¬ lt (gl s.1 (first + k)) (gl s.1 (first + c))) (fun s => (hi - s.2).toNat) (Q := fun r => (∃ ys, (r = .inl ys ∨ r = .inr ys) ∧ Sg (first + lo) (first + hi) xs ys ∧ impl_set_Hp lt first lo hi ys)) (fun s hs => ?_)
      ⟨.refl _ _ _, by simp only; omega, fun k c k0 k1 hc hc2 => hH k c (by simp only at k1; omega) hc hc2, fun k c k0 hk => by simp only at hk; omega⟩) (fun r hr => by
        obtain ⟨ys, rfl | rfl, h⟩ := hr
        · exact .ret h
        · exact .ret h)
  obtain ⟨w, r⟩ := s
  obtain ⟨hs, hr, hp, hg⟩ := hs
  simp only at hs hr hp hg
  have hlen := hs.len
  have hD := hs.al hA
  unfold slices_siftDownCmpFunc_impl_set_L1
  simp only [w64 (x := 2 * r) (by omega) (by omega), w64 (x := 2 * r + 1) (by omega) (by omega), w64 (x := 2 * r + 1 + 1) (by omega) (by omega), w64 (x := first + (2 * r + 1)) (by omega) (by omega), w64 (x := first + (2 * r + 1) + 1) (by omega) (by omega), w64 (x := first + r) (by omega) (by omega)]
  refine .ite (fun h => .ret (.inr ⟨_, rfl, w, .inl rfl, hs, fun k c k0 hc hc2 => hp k c k0 (by omega) hc hc2⟩)) (fun h => ?_)
  refine .call (R := fun c => (c = 2 * r + 1 ∨ c = 2 * r + 2) ∧ c < hi ∧ ∀ c', (c' = 2 * r + 1 ∨ c' = 2 * r + 2) → c' < hi → ¬ lt (gl w (first + c)) (gl w (first + c'))) ?_ fun c hc => ?_
  · by_cases h4 : 2 * r + 1 + 1 < hi
    · obtain ⟨e, he, hel⟩ := O.ok (gl w (first + (2 * r + 1))) (gl w (first + (2 * r + 1) + 1)) (hD _ (by omega) (by omega)) (hD _ (by omega) (by omega))
      refine .bind (.yes h4 (.yes (by omega) (.yes (by omega) (.calls he (.ret ?_)))))
      by_cases hlt : e < 0
      · refine .yes (by simpa using hlt) (.ret ⟨.inr (by omega), by omega, fun c' hc' hc2 => ?_⟩)
        have e1 : first + (2 * r + 1 + 1) = first + (2 * r + 1) + 1 := by omega
        rw [e1]
        rcases hc' with rfl | rfl
        · exact O.asym _ _ (hel.1 hlt)
        · rw [show first + (2 * r + 2) = first + (2 * r + 1) + 1 by omega]; exact O.rf _
      · refine .no (by simpa using hlt) (.ret ⟨.inl rfl, by omega, fun c' hc' hc2 => ?_⟩)
        rcases hc' with rfl | rfl
        · exact O.rf _
        · rw [show first + (2 * r + 2) = first + (2 * r + 1) + 1 by omega]; exact fun h => hlt (hel.2 h)
    · refine .bind (.no h4 (.ret (.no (by simp) (.ret ⟨.inl rfl, by omega, fun c' hc' hc2 => ?_⟩))))
      rw [show c' = 2 * r + 1 by omega]; exact O.rf _
  · obtain ⟨hc1, hc2, hc3⟩ := hc
    simp only [w64 (x := first + c) (by omega) (by omega)]
    obtain ⟨e, he, hel⟩ := O.ok (gl w (first + r)) (gl w (first + c)) (hD _ (by omega) (by omega)) (hD _ (by omega) (by omega))
    refine .yes (by omega) (.yes (by omega) (.calls he (.ite (fun hlt => ?_) (fun hlt => ?_))))
    · refine .yes (by rw [sls_len]; omega) (.ret (.inl ⟨_, rfl, ⟨hs.trans (.swp w (by omega) (by omega) (by omega) (by omega) (by omega) (by omega)), by simp only; omega, fun k cc k0 k1 hcc hcc2 => ?_, fun k cc k0 hk hcc hcc2 => ?_⟩, by simp only; omega⟩))
      · simp only at k1 ⊢
        rw [gl_swp (by omega) (by omega) (by omega) (by omega) (by omega), gl_swp (by omega) (by omega) (by omega) (by omega) (by omega), if_neg (show ¬ first + c = first + k by omega)]
        by_cases ek : k = r
        · subst ek
          rw [if_pos rfl]
          by_cases ec : c = cc
          · subst ec; rw [if_pos rfl]; exact O.asym _ _ (hel.1 hlt)
          · rw [if_neg (by omega), if_neg (by omega)]; exact hc3 cc hcc hcc2
        · rw [if_neg (show ¬ first + r = first + k by omega), if_neg (show ¬ first + c = first + cc by omega)]
          by_cases ec : r = cc
          · rw [if_pos (by omega)]; exact hg k c k0 (by omega) hc1 hc2
          · rw [if_neg (by omega)]; exact hp k cc k0 ek hcc hcc2
      · simp only at hk hcc ⊢
        have ek : k = r := by omega
        subst ek
        rw [gl_swp (by omega) (by omega) (by omega) (by omega) (by omega), gl_swp (by omega) (by omega) (by omega) (by omega) (by omega), if_neg (by omega), if_pos rfl, if_neg (by omega), if_neg (by omega)]
        exact hp c cc (by omega) (by omega) hcc hcc2
    · refine .ret (.inr ⟨_, rfl, w, .inr rfl, hs, fun k cc k0 hcc hcc2 => ?_⟩)
      by_cases ek : k = r
      · subst ek
        exact O.ntr _ _ _ (hc3 cc hcc hcc2) (fun h => hlt (hel.2 h))
      · exact hp k cc k0 ek hcc hcc2
theorem impl_set_top (O : Ord D f lt) {xs : List Int} {first n : Int} (h : impl_set_Hp lt first 0 n xs) : ∀ (m : Nat) (k : Int), k.toNat < m → 0 ≤ k → k < n → ¬ lt (gl xs (first + 0)) (gl xs (first + k))
  | 0, k, hm, _, _ => by omega
  | m + 1, k, hm, h0, h1 => by
    by_cases e : k = 0
    · rw [e]; exact O.rf _
    · exact O.ntr _ _ _ (h ((k - 1) / 2) k (by omega) (by omega) h1) (impl_set_top O h m ((k - 1) / 2) (by omega) (by omega) (by omega))
theorem impl_set_heap (O : Ord D f lt) {xs : List Int} {a b : Int} (h0 : 0 ≤ a) (h1 : a < b) (h2 : b ≤ xs.length) (hl : Sml xs) (hA : Al D xs) : Ok (slices_heapSortCmpFunc_impl_set xs a b f) (fun ys => Sg a b xs ys ∧ Srt lt a b ys) := by
  unfold slices_heapSortCmpFunc_impl_set
  have e0 : IntKind.i64.wrap (b - a) = b - a := w64 (by omega) (by omega)
  have e1 : IntKind.i64.wrap (b - a - 1) = b - a - 1 := w64 (by omega) (by omega)
  have e2 : (b - a - 1).tdiv 2 = (b - a - 1) / 2 := Int.tdiv_eq_ediv_of_nonneg (by omega)
  have e3 : IntKind.i64.wrap ((b - a - 1) / 2) = (b - a - 1) / 2 := w64 (by omega) (by omega)
  simp only [e0, e1, e2, e3]
  refine .call (Ok.loop (step := slices_heapSortCmpFunc_impl_set_L1 a b f) (fun s => Sg a b xs s.1 ∧ (-1 ≤ s.2 ∧ s.2 < b - a) ∧ impl_set_Hp lt a (s.2 + 1) (b - a) s.1) (fun s => (s.2 + 1).toNat) (Q := fun ys => Sg a b xs ys ∧ impl_set_Hp lt a 0 (b - a) ys) (fun s hs => ?_) ⟨.refl _ _ _, by simp only; omega, fun k c k0 hc hc2 => by simp only at k0; omega⟩) (fun ys hy => ?_)
  · obtain ⟨w, i⟩ := s
    obtain ⟨hs, hi, hh⟩ := hs
    simp only at hs hi hh
    have hlen := hs.len
    unfold slices_heapSortCmpFunc_impl_set_L1
    simp only [e0]
    refine .ite (fun h => .call (impl_set_sift O h0 h (by omega) (by omega) (by omega) (hs.al hA) hh) fun v hv => .ret (.inl ⟨_, rfl, ?_⟩)) (fun h => .ret (.inr ⟨_, rfl, hs, ?_⟩))
    · simp only [w64 (x := i - 1) (by omega) (by omega)]
      refine ⟨⟨hs.trans (hv.1.mono (by omega) (by omega) (by omega)), by omega, ?_⟩, by omega⟩
      rw [show i - 1 + 1 = i by omega]; exact hv.2
    · rw [show i + 1 = 0 by omega] at hh; exact hh
  · refine .call (Ok.loop (step := slices_heapSortCmpFunc_impl_set_L2 a f) (fun s => Sg a b xs s.1 ∧ (-1 ≤ s.2 ∧ s.2 < b - a) ∧ impl_set_Hp lt a 0 (s.2 + 1) s.1 ∧ ∀ p q, 0 ≤ p → p < q → s.2 < q → q < b - a → ¬ lt (gl s.1 (a + q)) (gl s.1 (a + p))) (fun s => (s.2 + 1).toNat) (Q := fun ys => Sg a b xs ys ∧ Srt lt a b ys) (fun s hs => ?_) ⟨hy.1, by simp only; omega, by simp only; rw [show b - a - 1 + 1 = b - a by omega]; exact hy.2, fun p q p0 hpq hq hq2 => by simp only at hq; omega⟩) (fun zs hz => .ret hz)
    obtain ⟨w, i⟩ := s
    obtain ⟨hs, hi, hh, ho⟩ := hs
    simp only at hs hi hh ho
    have hlen := hs.len
    unfold slices_heapSortCmpFunc_impl_set_L2
    refine .ite (fun h => ?_) (fun h => .ret (.inr ⟨_, rfl, hs, fun p q hp hpq hq => ?_⟩))
    · simp only [w64 (x := a + i) (by omega) (by omega)]
      have sw : Sg a b w (swp w a (a + i)) := .swp w h0 (by omega) (by omega) (by omega) (by omega) (by omega)
      have g : ∀ k, 0 ≤ k → gl (swp w a (a + i)) (a + k) = if i = k then gl w (a + 0) else if 0 = k then gl w (a + i) else gl w (a + k) := fun k k0 => by
        rw [gl_swp (by omega) (by omega) (by omega) (by omega) (by omega)]
        simp only [Int.add_zero]
        by_cases e4 : i = k
        · rw [if_pos (by omega), if_pos e4]
        · rw [if_neg (by omega), if_neg e4]
          by_cases e5 : 0 = k
          · rw [if_pos (by omega), if_pos e5]
          · rw [if_neg (by omega), if_neg e5]
      refine .yes (by omega) (.yes (by omega) (.yes (by rw [sls_len]; omega) (.call (impl_set_sift (lo := 0) (hi := i) (first := a) (xs := swp w a (a + i)) O h0 (by omega) (by omega) (by rw [swp_len]; omega) (by unfold Sml; rw [swp_len]; omega) ((hs.trans sw).al hA) (fun k c k0 hc hc2 => ?_)) fun v hv => .ret (.inl ⟨_, rfl, ?_⟩))))
      · rw [g k (by omega), g c (by omega), if_neg (by omega), if_neg (by omega), if_neg (by omega), if_neg (by omega)]
        exact hh k c (by omega) hc (by omega)
      · simp only [w64 (x := i - 1) (by omega) (by omega)]
        have hv1 := hv.1
        rw [Int.add_zero] at hv1
        refine ⟨⟨(hs.trans sw).trans (hv1.mono h0 (by omega) (by omega)), by omega, ?_, fun p q p0 hpq hq hq2 => ?_⟩, by omega⟩
        · rw [show i - 1 + 1 = i by omega]; exact hv.2
        · have hq' : gl v (a + q) = gl (swp w a (a + i)) (a + q) := hv1.out _ (by omega) (by omega)
          have top := impl_set_top O hh (i.toNat + 1)
          rw [hq']
          by_cases eq : q = i
          · rw [g q (by omega), if_pos eq.symm]
            refine hv1.pr (fun x => ¬ lt (gl w (a + 0)) x) (fun j j0 j1 => ?_) (a + p) (by omega) (by omega)
            have := g (j - a) (by omega)
            rw [show a + (j - a) = j by omega] at this
            rw [this, if_neg (by omega)]
            split
            · exact top i (by omega) (by omega) (by omega)
            · exact top (j - a) (by omega) (by omega) (by omega) |> fun h => by rwa [show a + (j - a) = j by omega] at h
          · rw [g q (by omega), if_neg (fun h => eq h.symm), if_neg (by omega)]
            have old : ∀ k, 0 ≤ k → k ≤ i → ¬ lt (gl w (a + q)) (gl (swp w a (a + i)) (a + k)) := fun k k0 k1 => by
              rw [g k k0]
              split
              · exact ho 0 q (by omega) (by omega) (by omega) hq2
              · split
                · exact ho i q (by omega) (by omega) (by omega) hq2
                · exact ho k q (by omega) (by omega) (by omega) hq2
            by_cases hp : p < i
            · refine hv1.pr (fun x => ¬ lt (gl w (a + q)) x) (fun j j0 j1 => ?_) (a + p) (by omega) (by omega)
              have := old (j - a) (by omega) (by omega)
              rwa [show a + (j - a) = j by omega] at this
            · rw [hv1.out (a + p) (by omega) (by omega)]
              by_cases ep : p = i
              · exact old p (by omega) (by omega)
              · rw [g p (by omega), if_neg (by omega), if_neg (by omega)]
                exact ho p q p0 hpq (by omega) hq2
    · have := ho (p - a) (q - a) (by omega) (by omega) (by omega) (by omega)
      rwa [show a + (q - a) = q by omega, show a + (p - a) = p by omega] at this

/-! partitions -/
theorem impl_set_partition (O : Ord D f lt) {xs : List Int} {a b p : Int} (h0 : 0 ≤ a) (h1 : a + 1 < b) (h2 : b ≤ xs.length) (hp : a ≤ p ∧ p < b) (hl : Sml xs) (hA : Al D xs) :
    Ok (slices_partitionCmpFunc_impl_set xs a b p f) (fun r => (a ≤ r.1 ∧ r.1 < b) ∧ Sg a b xs r.2.2 ∧ (∀ k, a ≤ k → k < r.1 → lt (gl r.2.2 k) (gl r.2.2 r.1)) ∧ ∀ k, r.1 < k → k < b → ¬ lt (gl r.2.2 k) (gl r.2.2 r.1)) := by
  have s0 : Sg a b xs (swp xs a p) := .swp xs h0 h2 (by omega) (by omega) hp.1 hp.2
  have fin : ∀ (w : List Int) (j : Int), Sg a b xs w → a ≤ j → j < b → (∀ k, a + 1 ≤ k → k ≤ j → lt (gl w k) (gl w a)) → (∀ k, j < k → k < b → ¬ lt (gl w k) (gl w a)) →
      Sg a b xs (swp w j a) ∧ (∀ k, a ≤ k → k < j → lt (gl (swp w j a) k) (gl (swp w j a) j)) ∧ ∀ k, j < k → k < b → ¬ lt (gl (swp w j a) k) (gl (swp w j a) j) := fun w j hs hj0 hj1 hlo hhi => by
    have hlen := hs.len
    have g : ∀ k, 0 ≤ k → gl (swp w j a) k = if a = k then gl w j else if j = k then gl w a else gl w k := fun k k0 => gl_swp (by omega) (by omega) (by omega) (by omega) k0
    refine ⟨hs.trans (.swp w h0 (by omega) hj0 hj1 (by omega) (by omega)), fun k k0 k1 => ?_, fun k k0 k1 => ?_⟩
    · rw [g k (by omega), g j (by omega), if_neg (show ¬ a = j by omega), if_pos rfl, if_neg (show ¬ j = k by omega)]
      split
      · exact hlo j (by omega) (by omega)
      · exact hlo k (by omega) (by omega)
    · rw [g k (by omega), g j (by omega), if_neg (show ¬ a = k by omega), if_neg (show ¬ j = k by omega)]
      by_cases ej : a = j
      · rw [if_pos ej]; have := hhi k k0 k1; rwa [ej] at this
      · rw [if_neg ej, if_pos rfl]; exact hhi k k0 k1
  unfold slices_partitionCmpFunc_impl_set
  simp only [w64 (x := a + 1) (by omega) (by omega), w64 (x := b - 1) (by omega) (by omega)]
  have hlen := s0.len
  have hD := s0.al hA
  refine .yes (by omega) (.yes (by omega) (.yes (by rw [sls_len]; omega) ?_))
  refine .call (Ok.loop (step := slices_partitionCmpFunc_impl_set_L1 xs a b p f) (fun i => (a + 1 ≤ i ∧ i ≤ b) ∧ ∀ k, a + 1 ≤ k → k < i → lt (gl (swp xs a p) k) (gl (swp xs a p) a)) (fun i => (b - i).toNat)
    (Q := fun i => ((a + 1 ≤ i ∧ i ≤ b) ∧ ∀ k, a + 1 ≤ k → k < i → lt (gl (swp xs a p) k) (gl (swp xs a p) a)) ∧ (i < b → ¬ lt (gl (swp xs a p) i) (gl (swp xs a p) a))) (fun i hi => ?_) ⟨by omega, fun k k0 k1 => by omega⟩) fun i hi => ?_
  · unfold slices_partitionCmpFunc_impl_set_L1
    simp only [w64 (x := b - 1) (by omega) (by omega), w64 (x := i + 1) (by omega) (by omega)]
    by_cases hib : i ≤ b - 1
    · obtain ⟨e, he, hel⟩ := O.ok (gl (swp xs a p) i) (gl (swp xs a p) a) (hD _ (by omega) (by omega)) (hD _ (by omega) (by omega))
      refine .bind (.yes hib (.yes (by have := s0.len; simp only [sls_len]; omega) (.yes (by simp only [sls_len]; omega) (.calls he (.ret ?_)))))
      by_cases hlt : e < 0
      · refine .yes (by simpa using hlt) (.ret (.inl ⟨_, rfl, ⟨by omega, fun k k0 k1 => ?_⟩, by omega⟩))
        by_cases ek : k = i
        · rw [ek]; exact hel.1 hlt
        · exact hi.2 k k0 (by omega)
      · exact .no (by simpa using hlt) (.ret (.inr ⟨_, rfl, hi, fun _ h => hlt (hel.2 h)⟩))
    · exact .bind (.no hib (.ret (.no (by simp) (.ret (.inr ⟨_, rfl, hi, fun h => by omega⟩)))))
  refine .call (Ok.loop (step := slices_partitionCmpFunc_impl_set_L2 xs a p i f) (fun j => (i - 1 ≤ j ∧ j < b) ∧ ∀ k, j < k → k < b → ¬ lt (gl (swp xs a p) k) (gl (swp xs a p) a)) (fun j => (j - i + 2).toNat)
    (Q := fun j => ((i - 1 ≤ j ∧ j < b) ∧ ∀ k, j < k → k < b → ¬ lt (gl (swp xs a p) k) (gl (swp xs a p) a)) ∧ (i ≤ j → lt (gl (swp xs a p) j) (gl (swp xs a p) a))) (fun j hj => ?_) ⟨by omega, fun k k0 k1 => by omega⟩) fun j hj => ?_
  · unfold slices_partitionCmpFunc_impl_set_L2
    simp only [w64 (x := j - 1) (by omega) (by omega)]
    by_cases hij : i ≤ j
    · obtain ⟨e, he, hel⟩ := O.ok (gl (swp xs a p) j) (gl (swp xs a p) a) (hD _ (by omega) (by omega)) (hD _ (by omega) (by omega))
      refine .bind (.yes hij (.yes (by simp only [sls_len]; omega) (.yes (by simp only [sls_len]; omega) (.calls he (.ret ?_)))))
      by_cases hlt : e < 0
      · exact .no (by simpa using hlt) (.ret (.inr ⟨_, rfl, hj, fun _ => hel.1 hlt⟩))
      · refine .yes (by simpa using hlt) (.ret (.inl ⟨_, rfl, ⟨by omega, fun k k0 k1 => ?_⟩, by omega⟩))
        by_cases ek : k = j
        · rw [ek]; exact fun h => hlt (hel.2 h)
        · exact hj.2 k (by omega) k1
    · exact .bind (.no hij (.ret (.no (by simp) (.ret (.inr ⟨_, rfl, hj, fun h => absurd h hij⟩)))))
  obtain ⟨hi1, hi2⟩ := hi
  obtain ⟨hj1, hj2⟩ := hj
  refine .ite (fun h => ?_) (fun h => ?_)
  · have := fin (swp xs a p) j s0 (by omega) (by omega) (fun k k0 k1 => hi1.2 k k0 (by omega)) (fun k k0 k1 => hj1.2 k k0 k1)
    exact .yes (by simp only [sls_len]; omega) (.yes (by simp only [sls_len]; omega) (.yes (by simp only [sls_len]; omega) (.ret ⟨by simp only; omega, this⟩)))
  · have hne : i ≠ j := fun e => by
      have := hj2 (by omega)
      rw [← e] at this
      exact hi2 (by omega) this
    have s1 : Sg a b xs (swp (swp xs a p) i j) := s0.trans (.swp _ h0 (by omega) (by omega) (by omega) (by omega) (by omega))
    have g1 : ∀ k, 0 ≤ k → gl (swp (swp xs a p) i j) k = if j = k then gl (swp xs a p) i else if i = k then gl (swp xs a p) j else gl (swp xs a p) k := fun k k0 => gl_swp (by omega) (by omega) (by omega) (by omega) k0
    refine .yes (by simp only [sls_len]; omega) (.yes (by simp only [sls_len]; omega) (.yes (by simp only [sls_len]; omega) ?_))
    refine .call (Ok.loop (step := slices_partitionCmpFunc_impl_set_L3 a f) (fun s => Sg a b xs s.1 ∧ (a + 1 ≤ s.2.1 ∧ s.2.1 ≤ s.2.2 + 1 ∧ s.2.2 < b) ∧ (∀ k, a + 1 ≤ k → k < s.2.1 → lt (gl s.1 k) (gl s.1 a)) ∧ ∀ k, s.2.2 < k → k < b → ¬ lt (gl s.1 k) (gl s.1 a)) (fun s => (s.2.2 - s.2.1 + 1).toNat)
      (Q := fun r => Sg a b xs r.1 ∧ (a ≤ r.2 ∧ r.2 < b) ∧ (∀ k, a + 1 ≤ k → k ≤ r.2 → lt (gl r.1 k) (gl r.1 a)) ∧ ∀ k, r.2 < k → k < b → ¬ lt (gl r.1 k) (gl r.1 a)) (fun s hs => ?_) ⟨s1, ?_, fun k k0 k1 => ?_, fun k k0 k1 => ?_⟩) fun r hr => ?_
    · obtain ⟨w, i, j⟩ := s
      obtain ⟨hs, hij, hlo, hhi⟩ := hs
      simp only at hs hij hlo hhi
      have hlen := hs.len
      have hD := hs.al hA
      unfold slices_partitionCmpFunc_impl_set_L3
      refine .call (Ok.loop (step := slices_partitionCmpFunc_impl_set_L4 a (w, i, j) f) (fun i' => (i ≤ i' ∧ i' ≤ j + 1) ∧ ∀ k, a + 1 ≤ k → k < i' → lt (gl w k) (gl w a)) (fun i' => (j + 1 - i').toNat)
        (Q := fun i' => ((i ≤ i' ∧ i' ≤ j + 1) ∧ ∀ k, a + 1 ≤ k → k < i' → lt (gl w k) (gl w a)) ∧ (i' ≤ j → ¬ lt (gl w i') (gl w a))) (fun i' hi' => ?_) ⟨by simp only; omega, hlo⟩) fun i' hi' => ?_
      · unfold slices_partitionCmpFunc_impl_set_L4
        simp only [w64 (x := i' + 1) (by omega) (by omega)]
        by_cases hib : i' ≤ j
        · obtain ⟨e, he, hel⟩ := O.ok (gl w i') (gl w a) (hD _ (by omega) (by omega)) (hD _ (by omega) (by omega))
          refine .bind (.yes hib (.yes (by omega) (.yes (by omega) (.calls he (.ret ?_)))))
          by_cases hlt : e < 0
          · refine .yes (by simpa using hlt) (.ret (.inl ⟨_, rfl, ⟨by omega, fun k k0 k1 => ?_⟩, by omega⟩))
            by_cases ek : k = i'
            · rw [ek]; exact hel.1 hlt
            · exact hi'.2 k k0 (by omega)
          · exact .no (by simpa using hlt) (.ret (.inr ⟨_, rfl, hi', fun _ h => hlt (hel.2 h)⟩))
        · exact .bind (.no hib (.ret (.no (by simp) (.ret (.inr ⟨_, rfl, hi', fun h => by omega⟩)))))
      refine .call (Ok.loop (step := slices_partitionCmpFunc_impl_set_L5 a (w, i, j) i' f) (fun j' => (i' - 1 ≤ j' ∧ j' ≤ j) ∧ ∀ k, j' < k → k < b → ¬ lt (gl w k) (gl w a)) (fun j' => (j' - i' + 2).toNat)
        (Q := fun j' => ((i' - 1 ≤ j' ∧ j' ≤ j) ∧ ∀ k, j' < k → k < b → ¬ lt (gl w k) (gl w a)) ∧ (i' ≤ j' → lt (gl w j') (gl w a))) (fun j' hj' => ?_) ⟨by simp only; omega, hhi⟩) fun j' hj' => ?_
      · unfold slices_partitionCmpFunc_impl_set_L5
        simp only [w64 (x := j' - 1) (by omega) (by omega)]
        by_cases hij' : i' ≤ j'
        · obtain ⟨e, he, hel⟩ := O.ok (gl w j') (gl w a) (hD _ (by omega) (by omega)) (hD _ (by omega) (by omega))
          refine .bind (.yes hij' (.yes (by omega) (.yes (by omega) (.calls he (.ret ?_)))))
          by_cases hlt : e < 0
          · exact .no (by simpa using hlt) (.ret (.inr ⟨_, rfl, hj', fun _ => hel.1 hlt⟩))
          · refine .yes (by simpa using hlt) (.ret (.inl ⟨_, rfl, ⟨by omega, fun k k0 k1 => ?_⟩, by omega⟩))
            by_cases ek : k = j'
            · rw [ek]; exact fun h => hlt (hel.2 h)
            · exact hj'.2 k (by omega) k1
        · exact .bind (.no hij' (.ret (.no (by simp) (.ret (.inr ⟨_, rfl, hj', fun h => absurd h hij'⟩)))))
      obtain ⟨hi1, hi2⟩ := hi'
      obtain ⟨hj1, hj2⟩ := hj'
      refine .ite (fun h => .ret (.inr ⟨_, rfl, hs, by simp only; omega, fun k k0 k1 => hi1.2 k k0 (by simp only at k1; omega), hj1.2⟩)) (fun h => ?_)
      have hne : i' ≠ j' := fun e => by
        have := hj2 (by omega)
        rw [← e] at this
        exact hi2 (by omega) this
      have g : ∀ k, 0 ≤ k → gl (swp w i' j') k = if j' = k then gl w i' else if i' = k then gl w j' else gl w k := fun k k0 => gl_swp (by omega) (by omega) (by omega) (by omega) k0
      simp only [w64 (x := i' + 1) (by omega) (by omega), w64 (x := j' - 1) (by omega) (by omega)]
      refine .yes (by omega) (.yes (by omega) (.yes (by simp only [sls_len]; omega) (.ret (.inl ⟨_, rfl, ⟨hs.trans (.swp w h0 (by omega) (by omega) (by omega) (by omega) (by omega)), by simp only; omega, fun k k0 k1 => ?_, fun k k0 k1 => ?_⟩, by simp only; omega⟩))))
      · simp only at k1 ⊢
        rw [g k (by omega), g a h0, if_neg (show ¬ j' = a by omega), if_neg (show ¬ i' = a by omega), if_neg (show ¬ j' = k by omega)]
        split
        · exact hj2 (by omega)
        · exact hi1.2 k k0 (by omega)
      · simp only at k0 ⊢
        rw [g k (by omega), g a h0, if_neg (show ¬ j' = a by omega), if_neg (show ¬ i' = a by omega)]
        split
        · exact hi2 (by omega)
        · rw [if_neg (by omega)]; exact hj1.2 k (by omega) k1
    · simp only [w64 (x := i + 1) (by omega) (by omega), w64 (x := j - 1) (by omega) (by omega)]; omega
    · simp only [w64 (x := i + 1) (by omega) (by omega)] at k1 ⊢
      rw [g1 k (by omega), g1 a h0, if_neg (show ¬ j = a by omega), if_neg (show ¬ i = a by omega), if_neg (show ¬ j = k by omega)]
      split
      · exact hj2 (by omega)
      · exact hi1.2 k k0 (by omega)
    · simp only [w64 (x := j - 1) (by omega) (by omega)] at k0 ⊢
      rw [g1 k (by omega), g1 a h0, if_neg (show ¬ j = a by omega), if_neg (show ¬ i = a by omega)]
      split
      · exact hi2 (by omega)
      · rw [if_neg (by omega)]; exact hj1.2 k (by omega) k1
    · obtain ⟨w, j⟩ := r
      obtain ⟨hs, hj, hlo, hhi⟩ := hr
      simp only at hs hj hlo hhi
      have hlen := hs.len
      have := fin w j hs hj.1 hj.2 hlo hhi
      exact .yes (by simp only; omega) (.yes (by simp only; omega) (.yes (by simp only [sls_len]; omega) (.ret ⟨hj, this⟩)))
theorem impl_set_partitionEq (O : Ord D f lt) {xs : List Int} {a b p : Int} (h0 : 0 ≤ a) (h1 : a + 1 < b) (h2 : b ≤ xs.length) (hp : a ≤ p ∧ p < b) (hl : Sml xs) (hA : Al D xs) :
    Ok (slices_partitionEqualCmpFunc_impl_set xs a b p f) (fun r => (a < r.1 ∧ r.1 ≤ b) ∧ Sg a b xs r.2 ∧ (∀ k, a ≤ k → k < r.1 → ¬ lt (gl xs p) (gl r.2 k)) ∧ ∀ k, r.1 ≤ k → k < b → lt (gl xs p) (gl r.2 k)) := by
  have s0 : Sg a b xs (swp xs a p) := .swp xs h0 h2 (by omega) (by omega) hp.1 hp.2
  have ga : gl (swp xs a p) a = gl xs p := by
    rw [gl_swp (by omega) (by omega) (by omega) (by omega) h0]
    split
    · rename_i e; rw [e]
    · rw [if_pos rfl]
  unfold slices_partitionEqualCmpFunc_impl_set
  simp only [w64 (x := a + 1) (by omega) (by omega), w64 (x := b - 1) (by omega) (by omega)]
  refine .yes (by omega) (.yes (by omega) (.yes (by rw [sls_len]; omega) ?_))
  refine .call (Ok.loop (step := slices_partitionEqualCmpFunc_impl_set_L1 a f) (fun s => Sg a b xs s.1 ∧ (a + 1 ≤ s.2.1 ∧ s.2.1 ≤ s.2.2 + 1 ∧ s.2.2 < b) ∧ gl s.1 a = gl xs p ∧ (∀ k, a ≤ k → k < s.2.1 → ¬ lt (gl xs p) (gl s.1 k)) ∧ ∀ k, s.2.2 < k → k < b → lt (gl xs p) (gl s.1 k)) (fun s => (s.2.2 - s.2.1 + 1).toNat)
    (Q := fun r => (a < r.2 ∧ r.2 ≤ b) ∧ Sg a b xs r.1 ∧ (∀ k, a ≤ k → k < r.2 → ¬ lt (gl xs p) (gl r.1 k)) ∧ ∀ k, r.2 ≤ k → k < b → lt (gl xs p) (gl r.1 k)) (fun s hs => ?_) ⟨s0, by simp only; omega, ga, fun k k0 k1 => ?_, fun k k0 k1 => by simp only at k0; omega⟩) fun r hr => .ret hr
  · obtain ⟨w, i, j⟩ := s
    obtain ⟨hs, hij, hpv, hlo, hhi⟩ := hs
    simp only at hs hij hpv hlo hhi
    have hlen := hs.len
    have hD := hs.al hA
    unfold slices_partitionEqualCmpFunc_impl_set_L1
    refine .call (Ok.loop (step := slices_partitionEqualCmpFunc_impl_set_L2 a (w, i, j) f) (fun i' => (i ≤ i' ∧ i' ≤ j + 1) ∧ ∀ k, a ≤ k → k < i' → ¬ lt (gl xs p) (gl w k)) (fun i' => (j + 1 - i').toNat)
      (Q := fun i' => ((i ≤ i' ∧ i' ≤ j + 1) ∧ ∀ k, a ≤ k → k < i' → ¬ lt (gl xs p) (gl w k)) ∧ (i' ≤ j → lt (gl xs p) (gl w i'))) (fun i' hi' => ?_) ⟨by simp only; omega, hlo⟩) fun i' hi' => ?_
    · unfold slices_partitionEqualCmpFunc_impl_set_L2
      simp only [w64 (x := i' + 1) (by omega) (by omega)]
      by_cases hib : i' ≤ j
      · obtain ⟨e, he, hel⟩ := O.ok (gl w a) (gl w i') (hD _ (by omega) (by omega)) (hD _ (by omega) (by omega))
        rw [hpv] at hel
        refine .bind (.yes hib (.yes (by omega) (.yes (by omega) (.calls he (.ret ?_)))))
        by_cases hlt : e < 0
        · exact .no (by simpa using hlt) (.ret (.inr ⟨_, rfl, hi', fun _ => hel.1 hlt⟩))
        · refine .yes (by simpa using hlt) (.ret (.inl ⟨_, rfl, ⟨by omega, fun k k0 k1 => ?_⟩, by omega⟩))
          by_cases ek : k = i'
          · rw [ek]; exact fun h => hlt (hel.2 h)
          · exact hi'.2 k k0 (by omega)
      · exact .bind (.no hib (.ret (.no (by simp) (.ret (.inr ⟨_, rfl, hi', fun h => by omega⟩)))))
    refine .call (Ok.loop (step := slices_partitionEqualCmpFunc_impl_set_L3 a (w, i, j) i' f) (fun j' => (i' - 1 ≤ j' ∧ j' ≤ j) ∧ ∀ k, j' < k → k < b → lt (gl xs p) (gl w k)) (fun j' => (j' - i' + 2).toNat)
      (Q := fun j' => ((i' - 1 ≤ j' ∧ j' ≤ j) ∧ ∀ k, j' < k → k < b → lt (gl xs p) (gl w k)) ∧ (i' ≤ j' → ¬ lt (gl xs p) (gl w j'))) (fun j' hj' => ?_) ⟨by simp only; omega, hhi⟩) fun j' hj' => ?_
    · unfold slices_partitionEqualCmpFunc_impl_set_L3
      simp only [w64 (x := j' - 1) (by omega) (by omega)]
      by_cases hij' : i' ≤ j'
      · obtain ⟨e, he, hel⟩ := O.ok (gl w a) (gl w j') (hD _ (by omega) (by omega)) (hD _ (by omega) (by omega))
        rw [hpv] at hel
        refine .bind (.yes hij' (.yes (by omega) (.yes (by omega) (.calls he (.ret ?_)))))
        by_cases hlt : e < 0
        · refine .yes (by simpa using hlt) (.ret (.inl ⟨_, rfl, ⟨by omega, fun k k0 k1 => ?_⟩, by omega⟩))
          by_cases ek : k = j'
          · rw [ek]; exact hel.1 hlt
          · exact hj'.2 k (by omega) k1
        · exact .no (by simpa using hlt) (.ret (.inr ⟨_, rfl, hj', fun _ h => hlt (hel.2 h)⟩))
      · exact .bind (.no hij' (.ret (.no (by simp) (.ret (.inr ⟨_, rfl, hj', fun h => absurd h hij'⟩)))))
    obtain ⟨hi1, hi2⟩ := hi'
    obtain ⟨hj1, hj2⟩ := hj'
    refine .ite (fun h => .ret (.inr ⟨_, rfl, by simp only; omega, hs, hi1.2, fun k k0 k1 => hj1.2 k (by simp only at k0; omega) k1⟩)) (fun h => ?_)
    have hne : i' ≠ j' := fun e => by
      have := hi2 (by omega)
      rw [e] at this
      exact hj2 (by omega) this
    have g : ∀ k, 0 ≤ k → gl (swp w i' j') k = if j' = k then gl w i' else if i' = k then gl w j' else gl w k := fun k k0 => gl_swp (by omega) (by omega) (by omega) (by omega) k0
    simp only [w64 (x := i' + 1) (by omega) (by omega), w64 (x := j' - 1) (by omega) (by omega)]
    refine .yes (by omega) (.yes (by omega) (.yes (by simp only [sls_len]; omega) (.ret (.inl ⟨_, rfl, ⟨hs.trans (.swp w h0 (by omega) (by omega) (by omega) (by omega) (by omega)), by simp only; omega, ?_, fun k k0 k1 => ?_, fun k k0 k1 => ?_⟩, by simp only; omega⟩))))
    · simp only
      rw [g a h0, if_neg (by omega), if_neg (by omega)]; exact hpv
    · simp only at k1 ⊢
      rw [g k (by omega), if_neg (show ¬ j' = k by omega)]
      split
      · exact hj2 (by omega)
      · exact hi1.2 k k0 (by omega)
    · simp only at k0 ⊢
      rw [g k (by omega)]
      split
      · exact hi2 (by omega)
      · rw [if_neg (by omega)]; exact hj1.2 k (by omega) k1
  · simp only at k1 ⊢
    rw [show k = a by omega, ga]; exact O.rf _
end
end Go.Mi
