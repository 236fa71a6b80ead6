/- The library's sort: parts of it. No condition. -/
import Derived.Test.YtekmmbgbhjeoaaaZM
import Derived.Test.YtekmmbgbhjeoaaaSxS
set_option linter.unusedSimpArgs false
set_option linter.unusedVariables false
namespace Go.Mi
open Go Go.Sx Go.Pl
section
variable {D : Int → Prop} {f : Int → Int → Option Int} {lt : Int → Int → Prop}
abbrev Sml (xs : List Int) : Prop := (xs.length : Int) ≤ 1000

theorem impl_set_insertion (O : Ord D f lt) {xs : List Int} {a b : Int} (h0 : 0 ≤ a) (h1 : a ≤ b) (h2 : b ≤ xs.length) (hl : Sml xs) (hA : Al D xs) : Ok (slices_insertionSortCmpFunc_impl_set xs a b f) (fun ys => Sg a b xs ys ∧ Srt lt a b ys) := by
  unfold slices_insertionSortCmpFunc_impl_set
  rw [w64 (x := a + 1) (by omega) (by omega)]
  by_cases hab : b ≤ a
  · refine .call (R := (· = xs)) (Ok.of_eq (Lp.run_out (r := xs) ?_) rfl) (fun ys hy => .ret ?_)
    · unfold slices_insertionSortCmpFunc_impl_set_L1
      rw [if_neg (by simp only; omega)]
    · rw [hy]; exact ⟨.refl _ _ _, .one (by omega)⟩
  refine .call (Ok.up (step := slices_insertionSortCmpFunc_impl_set_L1 a b f) (fun v i => (v, i)) (fun v i => Sg a b xs v ∧ Srt lt a i v) (a + 1) b (by omega) (Q := fun ys => Sg a b xs ys ∧ Srt lt a b ys) (fun v i i0 i1 hI => ?_) (fun v hI => ?_) ⟨.refl _ _ _, .one (by omega)⟩) (fun ys hy => .ret hy)
  · unfold slices_insertionSortCmpFunc_impl_set_L1
    refine .yes i1 (.call (Ok.loop (step := slices_insertionSortCmpFunc_impl_set_L2 a f) (fun s => Sg a b xs s.1 ∧ (a ≤ s.2 ∧ s.2 ≤ i) ∧ Bt lt a (i + 1) s.2 s.1) (fun s => (s.2 - a).toNat) (Q := fun ys => Sg a b xs ys ∧ Srt lt a (i + 1) ys) (fun s hs => ?_) ⟨hI.1, ⟨by omega, Int.le_refl _⟩, fun p q hp hpq hq hne => hI.2 p q hp hpq (by omega)⟩) fun w hw => .ret (.inl ⟨w, by rw [w64 (by omega) (by omega)], hw⟩))
    obtain ⟨w, j⟩ := s
    obtain ⟨hs, hj, hb⟩ := hs
    simp only at hs hj hb
    have hlen := hs.len
    have hD := hs.al hA
    unfold slices_insertionSortCmpFunc_impl_set_L2
    simp only [w64 (x := j - 1) (by omega) (by omega)]
    by_cases haj : a < j
    · obtain ⟨c, hc, hcl⟩ := O.ok (gl w j) (gl w (j - 1)) (hD j (by omega) (by omega)) (hD (j - 1) (by omega) (by omega))
      refine .bind (.yes haj (.yes (by omega) (.yes (by omega) (.calls hc (.ret ?_)))))
      by_cases hlt : c < 0
      · refine .yes (by simpa using hlt) (.yes (by omega) (.yes (by omega) (.yes (by rw [sls_len]; omega) (.ret (.inl ⟨_, rfl, ⟨hs.trans (.swp w h0 (by omega) (by omega) (by omega) (by omega) (by omega)), by simp only; omega, hb.swp O h0 (by omega) haj (by omega) (hcl.1 hlt)⟩, by simp only; omega⟩)))))
      · exact .no (by simpa using hlt) (.ret (.inr ⟨_, rfl, hs, hb.done O fun _ => fun h => hlt (hcl.2 h)⟩))
    · exact .bind (.no haj (.ret (.no (by simp) (.ret (.inr ⟨_, rfl, hs, hb.done O fun h => absurd h haj⟩)))))
  · unfold slices_insertionSortCmpFunc_impl_set_L1
    exact .no (by simp) (.ret ⟨_, rfl, hI⟩)

/-- a reversal only moves -/
theorem impl_set_reverse {xs : List Int} {a b : Int} (h0 : 0 ≤ a) (h1 : a < b) (h2 : b ≤ xs.length) (hl : Sml xs) : Ok (slices_reverseRangeCmpFunc_impl_set xs a b f) (fun ys => Sg a b xs ys) := by
  unfold slices_reverseRangeCmpFunc_impl_set
  rw [w64 (x := b - 1) (by omega) (by omega)]
  refine .call (Ok.loop (step := slices_reverseRangeCmpFunc_impl_set_L1) (fun s => Sg a b xs s.1 ∧ a ≤ s.2.1 ∧ s.2.1 ≤ b ∧ a - 1 ≤ s.2.2 ∧ s.2.2 < b) (fun s => (s.2.2 - s.2.1 + 1).toNat) (Q := fun ys => Sg a b xs ys) (fun s hs => ?_) ⟨.refl _ _ _, by simp only; omega⟩) (fun ys hy => .ret hy)
  obtain ⟨w, i, j⟩ := s
  obtain ⟨hs, hij⟩ := hs
  simp only at hs hij
  have hlen := hs.len
  unfold slices_reverseRangeCmpFunc_impl_set_L1
  simp only [w64 (x := i + 1) (by omega) (by omega), w64 (x := j - 1) (by omega) (by omega)]
  by_cases h : i < j
  · exact .yes h (.yes (by omega) (.yes (by omega) (.yes (by rw [sls_len]; omega) (.ret (.inl ⟨_, rfl, ⟨hs.trans (.swp w h0 (by omega) (by omega) (by omega) (by omega) (by omega)), by simp only; omega⟩, by simp only; omega⟩)))))
  · exact .no h (.ret (.inr ⟨_, rfl, hs⟩))

/-! the pivot -/
theorem impl_set_order2 (O : Ord D f lt) {xs : List Int} (hA : Al D xs) {lo hi i j s : Int} (hlo : 0 ≤ lo) (hhi : hi ≤ xs.length) (hi' : lo ≤ i ∧ i < hi) (hj' : lo ≤ j ∧ j < hi) : Ok (slices_order2CmpFunc_impl_set xs i j s f) (fun r => (lo ≤ r.1 ∧ r.1 < hi) ∧ (lo ≤ r.2.1 ∧ r.2.1 < hi)) := by
  unfold slices_order2CmpFunc_impl_set
  obtain ⟨c, hc, _⟩ := O.ok (gl xs j) (gl xs i) (hA j (by omega) (by omega)) (hA i (by omega) (by omega))
  exact .yes (by omega) (.yes (by omega) (.calls hc (.ite (fun _ => .ret ⟨hj', hi'⟩) (fun _ => .ret ⟨hi', hj'⟩))))
theorem impl_set_median (O : Ord D f lt) {xs : List Int} (hA : Al D xs) {lo hi i j k s : Int} (hlo : 0 ≤ lo) (hhi : hi ≤ xs.length) (hi' : lo ≤ i ∧ i < hi) (hj' : lo ≤ j ∧ j < hi) (hk' : lo ≤ k ∧ k < hi) : Ok (slices_medianCmpFunc_impl_set xs i j k s f) (fun r => lo ≤ r.1 ∧ r.1 < hi) := by
  unfold slices_medianCmpFunc_impl_set
  exact .call (impl_set_order2 O hA hlo hhi hi' hj') fun r hr => .call (impl_set_order2 O hA hlo hhi hr.2 hk') fun r2 hr2 => .call (impl_set_order2 O hA hlo hhi hr.1 hr2.1) fun r3 hr3 => .ret hr3.2
theorem impl_set_medianAdj (O : Ord D f lt) {xs : List Int} (hA : Al D xs) (hl : Sml xs) {lo hi i s : Int} (hlo : 0 ≤ lo) (hhi : hi ≤ xs.length) (hi' : lo + 1 ≤ i ∧ i + 1 < hi) : Ok (slices_medianAdjacentCmpFunc_impl_set xs i s f) (fun r => lo ≤ r.1 ∧ r.1 < hi) := by
  unfold slices_medianAdjacentCmpFunc_impl_set
  rw [w64 (x := i - 1) (by omega) (by omega), w64 (x := i + 1) (by omega) (by omega)]
  exact .call (impl_set_median O hA hlo hhi (by omega) (by omega) (by omega)) fun r hr => .ret hr
theorem impl_set_choose (O : Ord D f lt) {xs : List Int} {a b : Int} (h0 : 0 ≤ a) (h1 : a + 12 < b) (h2 : b ≤ xs.length) (hl : Sml xs) (hA : Al D xs) : Ok (slices_choosePivotCmpFunc_impl_set xs a b f) (fun r => a ≤ r.1 ∧ r.1 < b) := by
  unfold slices_choosePivotCmpFunc_impl_set
  have e0 : IntKind.i64.wrap (b - a) = b - a := w64 (by omega) (by omega)
  have e1 : (b - a).tdiv 4 = (b - a) / 4 := Int.tdiv_eq_ediv_of_nonneg (by omega)
  have e2 : IntKind.i64.wrap ((b - a) / 4) = (b - a) / 4 := w64 (by omega) (by omega)
  have m1 : IntKind.i64.wrap ((b - a) / 4 * 1) = (b - a) / 4 := by rw [Int.mul_one]; exact e2
  have m2 : IntKind.i64.wrap ((b - a) / 4 * 2) = (b - a) / 4 * 2 := w64 (by omega) (by omega)
  have m3 : IntKind.i64.wrap ((b - a) / 4 * 3) = (b - a) / 4 * 3 := w64 (by omega) (by omega)
  have s1 : IntKind.i64.wrap (a + (b - a) / 4) = a + (b - a) / 4 := w64 (by omega) (by omega)
  have s2 : IntKind.i64.wrap (a + (b - a) / 4 * 2) = a + (b - a) / 4 * 2 := w64 (by omega) (by omega)
  have s3 : IntKind.i64.wrap (a + (b - a) / 4 * 3) = a + (b - a) / 4 * 3 := w64 (by omega) (by omega)
  simp only [e0, e1, e2, m1, m2, m3, s1, s2, s3]
  refine .call (R := fun r => a ≤ r.2 ∧ r.2 < b) (.yes (by omega) (.call (R := fun r => (a ≤ r.2.1 ∧ r.2.1 < b) ∧ (a ≤ r.2.2.1 ∧ r.2.2.1 < b) ∧ a ≤ r.2.2.2 ∧ r.2.2.2 < b) (.ite (fun h => ?_) (fun h => .ret ⟨by simp only; omega, by simp only; omega, by simp only; omega⟩)) fun r hr => .call (impl_set_median O hA h0 h2 hr.1 hr.2.1 hr.2.2) fun r2 hr2 => .ret hr2)) fun r hr => .ite (fun _ => .ret hr) fun _ => .ite (fun _ => .ret hr) fun _ => .ret hr
  exact .call (impl_set_medianAdj O hA hl h0 h2 (by omega)) fun r1 k1 => .call (impl_set_medianAdj O hA hl h0 h2 (by omega)) fun r2 k2 => .call (impl_set_medianAdj O hA hl h0 h2 (by omega)) fun r3 k3 => .ret ⟨k1, k2, k3⟩

/-! breaking patterns only moves -/
theorem impl_set_pow2t : ∀ v : Nat, v < 1024 → 12 < v → (match slices_nextPowerOfTwo (v : Int) with | some m => decide ((v : Int) < m ∧ m ≤ 2 * (v : Int)) | none => false) = true := by decide +kernel
theorem impl_set_pow2 {n : Int} (h0 : 12 < n) (h1 : n ≤ 1000) : ∃ m, slices_nextPowerOfTwo n = some m ∧ n < m ∧ m ≤ 2 * n := by
  have h := impl_set_pow2t n.toNat (by omega) (by omega)
  rw [Int.toNat_of_nonneg (by omega)] at h
  cases hm : slices_nextPowerOfTwo n with
  | none => rw [hm] at h; cases h
  | some m => rw [hm] at h; exact ⟨m, rfl, by simpa using h⟩
theorem impl_set_break {xs : List Int} {a b : Int} (h0 : 0 ≤ a) (h1 : a + 12 < b) (h2 : b ≤ xs.length) (hl : Sml xs) : Ok (slices_breakPatternsCmpFunc_impl_set xs a b f) (fun ys => Sg a b xs ys) := by
  unfold slices_breakPatternsCmpFunc_impl_set
  have e0 : IntKind.i64.wrap (b - a) = b - a := w64 (by omega) (by omega)
  have e1 : (b - a).tdiv 4 = (b - a) / 4 := Int.tdiv_eq_ediv_of_nonneg (by omega)
  have e2 : IntKind.i64.wrap ((b - a) / 4) = (b - a) / 4 := w64 (by omega) (by omega)
  have m2 : IntKind.i64.wrap ((b - a) / 4 * 2) = (b - a) / 4 * 2 := w64 (by omega) (by omega)
  have s2 : IntKind.i64.wrap (a + (b - a) / 4 * 2) = a + (b - a) / 4 * 2 := w64 (by omega) (by omega)
  have s3 : IntKind.i64.wrap (a + (b - a) / 4 * 2 - 1) = a + (b - a) / 4 * 2 - 1 := w64 (by omega) (by omega)
  simp only [e0, e1, e2, m2, s2, s3]
  obtain ⟨md, hmd, hm0, hm1⟩ := impl_set_pow2 (n := b - a) (by omega) (by omega)
  refine .yes (by omega) (.calls hmd (.call (Ok.loop (step := slices_breakPatternsCmpFunc_impl_set_L1 a b md) (fun s => Sg a b xs s.2.1 ∧ a + (b - a) / 4 * 2 - 1 ≤ s.2.2 ∧ s.2.2 ≤ a + (b - a) / 4 * 2 + 2) (fun s => (a + (b - a) / 4 * 2 + 2 - s.2.2).toNat) (Q := fun ys => Sg a b xs ys) (fun s hs => ?_) ⟨.refl _ _ _, by simp only; omega⟩) fun ys hy => .ret hy))
  obtain ⟨r, w, i⟩ := s
  obtain ⟨hs, hi⟩ := hs
  simp only at hs hi
  have hlen := hs.len
  unfold slices_breakPatternsCmpFunc_impl_set_L1
  simp only [e0, e1, e2, m2, s2, w64 (x := a + (b - a) / 4 * 2 + 1) (by omega) (by omega)]
  by_cases h : i ≤ a + (b - a) / 4 * 2 + 1
  · refine .yes h (.calls (b := _) rfl ?_)
    generalize (ixor .u64 (ixor .u64 (ixor .u64 r (ishl .u64 r 13)) (ishr .u64 (ixor .u64 r (ishl .u64 r 13)) 7)) (ishl .u64 (ixor .u64 (ixor .u64 r (ishl .u64 r 13)) (ishr .u64 (ixor .u64 r (ishl .u64 r 13)) 7)) 17)) = u
    simp only
    have hand := iandu u (m := md - 1) (by omega) (by omega)
    rw [wu64 (x := md - 1) (by omega) (by omega)]
    generalize iand .u64 u (md - 1) = t at *
    rw [w64 (x := t) (by omega) (by omega)]
    refine .call (R := fun o => 0 ≤ o ∧ o < b - a) (.ite (fun h => .ret ?_) (fun h => .ret (by omega))) fun o ho => ?_
    · rw [w64 (x := t - (b - a)) (by omega) (by omega)]; omega
    · simp only [w64 (x := a + o) (by omega) (by omega)]
      exact .yes (by omega) (.yes (by omega) (.yes (by rw [sls_len]; omega) (.ret (.inl ⟨_, rfl, ⟨hs.trans (.swp w h0 (by omega) (by omega) (by omega) (by omega) (by omega)), by simp only; rw [w64 (by omega) (by omega)]; omega⟩, by simp only; rw [w64 (by omega) (by omega)]; omega⟩))))
  · exact .no h (.ret (.inr ⟨_, rfl, hs⟩))
end
end Go.Mi
