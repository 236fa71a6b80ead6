/- Cosets and quotients: the program. No condition. -/
import Derived.Test.YtppjhbjcemnfmaaDoorYN
set_option linter.unusedSimpArgs false
set_option linter.unusedVariables false
namespace Go.Mi
open Go Go.Sx Go.Pl Go.Lq
variable {q : S_Square}

/-- the set of the class of 'x' -/
def IsD (q : S_Square) (C : Int → Int → Prop) (x d : Int) : Prop := In q d ∧ ∀ z, El q.Order z → (hasb d z = true ↔ C x z)
theorem coset_ok (h : Sq q.Order (op q)) {C : Int → Int → Prop} {v x : Int} (hv : In q v) (hc : ∀ x z, El q.Order x → El q.Order z → (hasb v (ldv q.Order (op q) x z) = true ↔ C x z)) (hx : El q.Order x) : Ok (impl_Square_coset q x v) (IsD q C x) := by
  have hn := h.le
  unfold impl_Square_coset
  refine .call (those_ok h (F := fun z => hasb v (ldv q.Order (op q) x z)) fun z hz => ?_) fun d hd => .ret ⟨hd.1, fun z hz => by rw [hd.2 z hz]; exact hc x z hx hz⟩
  unfold impl_Square_coset_c1
  have := (h.ldv hx hz).1
  rw [left_eq h hx hz, Option.bind_some, has_ok hv.1 (by omega)]; rfl
theorem elts_sorted (n : Nat) : (elts n).Pairwise (· < ·) := by
  unfold elts
  rw [List.pairwise_map]
  exact List.pairwise_lt_range.imp fun h => by omega
theorem firsts_sorted {C : Int → Int → Prop} (k : Int) : (firsts k C).Pairwise (· < ·) := (elts_sorted _).filter _
theorem gl_lt {xs : List Int} (h : xs.Pairwise (· < ·)) {i j : Int} (h0 : 0 ≤ i) (hij : i < j) (hj : j < xs.length) : gl xs i < gl xs j := by
  have h1 := gl_nat xs i.toNat (by omega)
  have h2 := gl_nat xs j.toNat (by omega)
  rw [Int.toNat_of_nonneg h0] at h1
  rw [Int.toNat_of_nonneg (by omega)] at h2
  rw [h1, h2]
  exact List.pairwise_iff_getElem.1 h _ _ _ _ (by omega)
theorem gl_inj {xs : List Int} (h : xs.Pairwise (· < ·)) {i j : Int} (h0 : 0 ≤ i) (h1 : i < xs.length) (j0 : 0 ≤ j) (j1 : j < xs.length) (e : gl xs i = gl xs j) : i = j := by
  rcases Int.lt_trichotomy i j with h3 | h3 | h3
  · have := gl_lt h h0 h3 j1; omega
  · exact h3
  · have := gl_lt h j0 h3 h1; omega
theorem IsD.eq {C : Int → Int → Prop} (E : Eqv q.Order C) (hn : q.Order ≤ 10) {x y c d : Int} (hx : El q.Order x) (hy : El q.Order y) (hc : IsD q C x c) (hd : IsD q C y d) : (C y x → c = d) ∧ (¬ C y x → c ≠ d ∧ iand .i64 c d = 0) := by
  have out : ∀ {x c : Int}, IsD q C x c → ∀ z, 0 ≤ z → ¬ z < q.Order → hasb c z = false := fun hc z z0 hz => by
    rw [Bool.eq_false_iff]; exact fun hb => hz (hc.1.2 z z0 hb)
  refine ⟨fun hC => has_ext hc.1.1 hd.1.1 fun z z0 z1 => ?_, fun hC => ⟨fun e => ?_, has_ext (iand_rg hc.1.1 hd.1.1) (by omega) fun z z0 z1 => ?_⟩⟩
  · by_cases hz : z < q.Order
    · rw [Bool.eq_iff_iff, hc.2 z ⟨z0, hz⟩, hd.2 z ⟨z0, hz⟩]
      exact ⟨fun h => E.tr y x z hy hx ⟨z0, hz⟩ hC h, fun h => E.tr x y z hx hy ⟨z0, hz⟩ (E.sy y x hy hx hC) h⟩
    · rw [out hc z z0 hz, out hd z z0 hz]
  · have := (hc.2 x hx).2 (E.rf x hx)
    rw [e] at this
    exact hC ((hd.2 x hx).1 this)
  · rw [iand_has hc.1.1 hd.1.1, hasb_zero, Bool.eq_false_iff]
    intro hb
    rw [Bool.and_eq_true] at hb
    have hz : El q.Order z := ⟨z0, hc.1.2 z z0 hb.1⟩
    exact hC (E.tr y z x hy hz hx ((hd.2 z hz).1 hb.2) (E.sy x z hx hz ((hc.2 z hz).1 hb.1)))
theorem gl_snoc_lt {α : Type} [Inhabited α] {xs : List α} {y : α} {i : Int} (h0 : 0 ≤ i) (h : i < xs.length) : gl (xs ++ [y]) i = gl xs i := gl_append_left _ _ h0 h
theorem gl_snoc_eq {α : Type} [Inhabited α] {xs : List α} {y : α} {i : Int} (h : i = xs.length) : gl (xs ++ [y]) i = y := by rw [h]; exact gl_append_here _ _
theorem not_first {C : Int → Int → Prop} {n i : Int} (E : Eqv n C) (hi : El n i) : ¬ isF C i ↔ ∃ k : Int, 0 ≤ k ∧ k < (firsts i C).length ∧ C (gl (firsts i C) k) i := by
  constructor
  · intro hf
    obtain ⟨y, hy, fy, cy⟩ := E.first hi
    have : y < i := by
      rcases Int.lt_trichotomy y i with h3 | h3 | h3
      · exact h3
      · rw [h3] at fy; exact absurd fy hf
      · exact absurd (E.sy y i hy hi cy) (fy i hi.1 h3)
    obtain ⟨k, a, b, c⟩ := mem_gl ((mem_firsts hi.1).2 ⟨⟨hy.1, this⟩, fy⟩)
    exact ⟨k, a, b, by rw [c]; exact cy⟩
  · rintro ⟨k, a, b, c⟩ hf
    have := (mem_firsts hi.1).1 (gl_mem a b)
    exact hf _ this.1.1 this.1.2 c
theorem cosets_ok (h : Sq q.Order (op q)) {C : Int → Int → Prop} (E : Eqv q.Order C) {v : Int} (hv : In q v) (hc : ∀ x z, El q.Order x → El q.Order z → (hasb v (ldv q.Order (op q) x z) = true ↔ C x z)) :
    Ok (impl_Square_cosets q v) (fun r => r.1.length = (firsts q.Order C).length ∧ ∀ k : Int, 0 ≤ k → k < r.1.length → IsD q C (gl (firsts q.Order C) k) (gl r.1 k)) := by
  have hn := h.le
  have hp := h.pos
  have hL := elts_len' (n := q.Order) (by omega)
  unfold impl_Square_cosets
  let I : List Int → Int → Prop := fun out i => out.length = (firsts i C).length ∧ ∀ k : Int, 0 ≤ k → k < out.length → IsD q C (gl (firsts i C) k) (gl out k)
  refine .calls (elements_ok h) (.call (Ok.up (step := impl_Square_cosets_L1 q v (elts q.Order.toNat)) (fun w i => (w, i)) I 0 q.Order (by omega) (Q := fun r => ∃ out, r = .inl out ∧ I out q.Order) (fun w i i0 i1 hI => ?_) (fun w hI => ?_) ⟨rfl, fun k a b => by simp at b; omega⟩) (fun r hr => ?_))
  · unfold impl_Square_cosets_L1
    have ei : El q.Order i := ⟨i0, i1⟩
    simp only [hL, elts_gl' ei]
    have hfl := firsts_len (C := C) (k := i) i0
    have hwl := hI.1
    refine .yes (by omega) (.bind (.yes (by omega) (.call (coset_ok h hv hc ei) fun c hcd => ?_)))
    refine .call (Ok.up (step := impl_Square_cosets_L2 (w, i) c) (fun b j => (b, j)) (fun b j => b = true ↔ ∃ k : Int, 0 ≤ k ∧ k < j ∧ C (gl (firsts i C) k) i) 0 w.length (by omega) (Q := fun r => ∃ b, r = .inl b ∧ (b = true ↔ ¬ isF C i)) (fun b j j0 j1 hJ => ?_) (fun b hJ => ?_) ⟨(fun h => nomatch h), fun ⟨k, a, b, _⟩ => by omega⟩) (fun r hr => ?_)
    · unfold impl_Square_cosets_L2
      have hD := hI.2 j j0 j1
      have hm := (mem_firsts i0).1 (gl_mem (xs := firsts i C) j0 (by omega))
      have hy : El q.Order (gl (firsts i C) j) := ⟨hm.1.1, by omega⟩
      have key := IsD.eq E hn ei hy hcd hD
      refine .yes j1 (.bind (.yes ⟨j0, j1⟩ ?_))
      simp only
      by_cases hC : C (gl (firsts i C) j) i
      · refine .yes (key.1 hC) (.ret (.ret (.inl ⟨true, by rw [w64 (x := j + 1) (by omega) (by omega)], fun _ => ⟨j, j0, by omega, hC⟩, fun _ => rfl⟩)))
      · have k2 := key.2 hC
        refine .no k2.1 (.no (fun hne => hne k2.2) (.ret (.ret (.inl ⟨b, by rw [w64 (x := j + 1) (by omega) (by omega)], hJ.trans ⟨fun ⟨k, a, b, c⟩ => ⟨k, a, by omega, c⟩, fun ⟨k, a, b, c⟩ => ⟨k, a, ?_, c⟩⟩⟩))))
        by_cases e : k = j
        · rw [e] at c; exact absurd c hC
        · omega
    · unfold impl_Square_cosets_L2
      refine .no (by simp) (.ret ⟨_, rfl, b, rfl, hJ.trans ?_⟩)
      rw [not_first E ei]
      exact ⟨fun ⟨k, a, b, c⟩ => ⟨k, a, by omega, c⟩, fun ⟨k, a, b, c⟩ => ⟨k, a, by omega, c⟩⟩
    · obtain ⟨b, rfl, hb⟩ := hr
      simp only [Sum.elim_inl]
      by_cases hf : isF C i
      · have : b = false := by rw [Bool.eq_false_iff]; exact fun e => hb.1 e hf
        refine .no (by simp [this]) (.yes (by simp; omega) (.ret (.ret (.inl ⟨w ++ [c], by rw [w64 (by omega) (by omega)], ?_, fun k k0 k1 => ?_⟩))))
        · rw [firsts_yes i0 hf, List.length_append, List.length_append, hwl]; rfl
        · rw [firsts_yes i0 hf]
          rw [List.length_append] at k1
          simp only [List.length_cons, List.length_nil] at k1
          by_cases ek : k = w.length
          · rw [gl_snoc_eq ek, gl_snoc_eq (by omega)]; exact hcd
          · rw [gl_snoc_lt k0 (by omega), gl_snoc_lt k0 (by omega)]; exact hI.2 k k0 (by omega)
      · have : b = true := hb.2 hf
        refine .yes this (.ret (.ret (.inl ⟨w, by rw [w64 (by omega) (by omega)], ?_, ?_⟩)))
        · rw [firsts_no i0 hf]; exact hwl
        · rw [firsts_no i0 hf]; exact hI.2
  · unfold impl_Square_cosets_L1
    simp only [hL]
    exact .no (by omega) (.ret ⟨_, rfl, w, rfl, hI⟩)
  · obtain ⟨out, rfl, hl, hd⟩ := hr
    have hfl := firsts_len (C := C) (k := q.Order) (by omega)
    simp only [Sum.elim_inl]
    refine .call (R := (· = out)) (sort_ok (by omega) fun i i0 i1 => ?_) fun w hw => .ret (by rw [hw]; exact ⟨hl, hd⟩)
    have tz : ∀ k : Int, 0 ≤ k → k < out.length → bits_TrailingZeros (IntKind.u64.wrap (gl out k)) = some (gl (firsts q.Order C) k) := fun k k0 k1 => by
      have hm := (mem_firsts (by omega)).1 (gl_mem (xs := firsts q.Order C) k0 (by omega))
      have hD := hd k k0 k1
      refine tz_ok hD.1.1 hm.1.1 ((hD.2 _ hm.1).2 (E.rf _ hm.1)) fun y y0 y1 => ?_
      rw [Bool.eq_false_iff]
      intro hb
      have hy : El q.Order y := ⟨y0, by omega⟩
      exact hm.2 y y0 y1 (E.sy _ _ hm.1 hy ((hD.2 y hy).1 hb))
    have hlt := gl_lt (firsts_sorted (C := C) q.Order) (i := i - 1) (j := i) (by omega) (by omega) (by omega)
    have m1 := (mem_firsts (by omega)).1 (gl_mem (xs := firsts q.Order C) (i := i) (by omega) (by omega))
    have m2 := (mem_firsts (by omega)).1 (gl_mem (xs := firsts q.Order C) (i := i - 1) (by omega) (by omega))
    refine ⟨gl (firsts q.Order C) i - gl (firsts q.Order C) (i - 1), ?_, by omega⟩
    unfold impl_Square_cosets_c1
    rw [tz i (by omega) i1, tz (i - 1) (by omega) (by omega), Option.bind_some, Option.bind_some, w64 (by omega) (by omega)]

/-! ## Tables -/
def mkT (n : Int) (F : Int → Int → Int) : Vector (Vector Int 10) 10 := Vector.ofFn fun i => Vector.ofFn fun j => if (i.val : Int) < n ∧ (j.val : Int) < n then F i.val j.val else 0
theorem gv_mkT {n : Int} {F : Int → Int → Int} {i j : Int} (h0 : 0 ≤ i) (h1 : i < 10) (h2 : 0 ≤ j) (h3 : j < 10) : gv (gv (mkT n F) i) j = if i < n ∧ j < n then F i j else 0 := by
  unfold mkT
  rw [gv_ofFn _ h0 h1, gv_ofFn _ h2 h3]
  simp only [Int.toNat_of_nonneg h0, Int.toNat_of_nonneg h2]
theorem mkT_eq {n : Int} {F : Int → Int → Int} {t : Vector (Vector Int 10) 10} (h : ∀ i j : Int, 0 ≤ i → i < 10 → 0 ≤ j → j < 10 → gv (gv t i) j = if i < n ∧ j < n then F i j else 0) : t = mkT n F :=
  gv_ext fun i h0 h1 => gv_ext fun j h2 h3 => by rw [h i j h0 h1 h2 h3, gv_mkT h0 h1 h2 h3]
theorem gv_gv_sv {t : Vector (Vector Int 10) 10} {x y i j v : Int} (hx : 0 ≤ x ∧ x < 10) (hy : 0 ≤ y ∧ y < 10) (hi : 0 ≤ i) (hj : 0 ≤ j) : gv (gv (sv t x (sv (gv t x) y v)) i) j = if x = i ∧ y = j then v else gv (gv t i) j := by
  rw [gv_sv _ _ hx.1 hi hx.2]
  by_cases e : x = i
  · rw [if_pos e, gv_sv _ _ hy.1 hj hy.2, e]
    by_cases e2 : y = j <;> simp [e2]
  · rw [if_neg e, if_neg (fun h => e h.1)]
theorem made_ok {n : Int} (h0 : 1 ≤ n) (hn : n ≤ 10) {f : Int → Int → Option Int} {F : Int → Int → Int} (hf : ∀ x y, El n x → El n y → f x y = some (F x y)) : Ok (impl_made n f) (· = ⟨n, mkT n F⟩) := by
  have hL := elts_len' (n := n) (by omega)
  have hE : ∀ t, impl_Square_elements (⟨n, t⟩ : S_Square) = some (elts n.toNat) := fun t => elements_eq _ ⟨h0, hn⟩
  unfold impl_made
  refine .calls (hE _) (.call (Ok.up (step := impl_made_L1 (elts n.toNat) f) (fun t i => ((⟨n, t⟩ : S_Square), i)) (fun t i => ∀ x y : Int, 0 ≤ x → x < 10 → 0 ≤ y → y < 10 → gv (gv t x) y = if x < i ∧ y < n then F x y else 0) 0 n (by omega) (Q := (· = ⟨n, mkT n F⟩)) (fun t i i0 i1 hI => ?_) (fun t hI => ?_)
    (a := Vector.replicate 10 (Vector.replicate 10 0)) (fun x y a b c d => ?_)) (fun a ha => .ret ha))
  · unfold impl_made_L1
    have ei : El n i := ⟨i0, i1⟩
    simp only [hL]
    refine .yes i1 (.yes ⟨i0, i1⟩ (.calls (hE _) (.call (Ok.up (step := impl_made_L2 (elts n.toNat) ((⟨n, t⟩ : S_Square), i) (elts n.toNat) f) (fun t j => ((⟨n, t⟩ : S_Square), j)) (fun t j => ∀ x y : Int, 0 ≤ x → x < 10 → 0 ≤ y → y < 10 → gv (gv t x) y = if (x < i ∨ x = i ∧ y < j) ∧ y < n then F x y else 0) 0 n (by omega)
      (Q := fun s => ∃ t, s = ⟨n, t⟩ ∧ ∀ x y : Int, 0 ≤ x → x < 10 → 0 ≤ y → y < 10 → gv (gv t x) y = if x < i + 1 ∧ y < n then F x y else 0) (fun t j j0 j1 hJ => ?_) (fun t hJ => ?_) (fun x y a b c d => ?_)) (fun s hs => ?_))))
    · unfold impl_made_L2
      have ej : El n j := ⟨j0, j1⟩
      simp only [hL, elts_gl' ei, elts_gl' ej]
      refine .yes j1 (.yes ⟨j0, j1⟩ (.calls (hf i j ei ej) (.yes (by omega) (.yes (by omega) (.ret (.inl ⟨_, by rw [w64 (by omega) (by omega)], fun x y a b c d => ?_⟩))))))
      rw [gv_gv_sv (by omega) (by omega) a c]
      by_cases e : i = x ∧ j = y
      · rw [if_pos e, if_pos (by omega), e.1, e.2]
      · rw [if_neg e, hJ x y a b c d]
        by_cases e2 : (x < i ∨ x = i ∧ y < j) ∧ y < n
        · rw [if_pos e2, if_pos (by omega)]
        · rw [if_neg e2, if_neg (by omega)]
    · unfold impl_made_L2
      simp only [hL]
      refine .no (by omega) (.ret ⟨_, rfl, t, rfl, fun x y a b c d => ?_⟩)
      rw [hJ x y a b c d]
      by_cases e2 : (x < i ∨ x = i ∧ y < n) ∧ y < n
      · rw [if_pos e2, if_pos (by omega)]
      · rw [if_neg e2, if_neg (by omega)]
    · rw [hI x y a b c d]
      by_cases e2 : x < i ∧ y < n
      · rw [if_pos e2, if_pos (by omega)]
      · rw [if_neg e2, if_neg (by omega)]
    · obtain ⟨t', rfl, ht⟩ := hs
      exact .ret (.inl ⟨t', by rw [w64 (by omega) (by omega)], ht⟩)
  · unfold impl_made_L1
    simp only [hL]
    refine .no (by omega) (.ret ⟨_, rfl, ?_⟩)
    rw [mkT_eq hI]
  · rw [gv_replicate _ a b, gv_replicate _ c d, if_neg (by omega)]
end Go.Mi
