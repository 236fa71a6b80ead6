/- Squares of the program: products, quotients, elements, sets. No condition. -/
import Derived.Test.YtekmmbgbhjeoaaaZL2
import Derived.Test.YtekmmbgbhjeoaaaSxQ
set_option linter.unusedSimpArgs false
set_option linter.unusedVariables false
namespace Go.Mi
open Go Go.Sx Go.Pl Go.Lq

/-- the product -/
abbrev op (q : S_Square) (x y : Int) : Int := gv (gv q.Table x) y
theorem IsSq.sq {q : S_Square} (h : IsSq q) (ht : isU8s q.Table) : Sq q.Order (op q) := by
  have hn := h.1
  have row : ∀ x : Int, 0 ≤ x → x < q.Order → Perm (gv q.Table x) q.Order := fun x h0 h1 => by
    have := (h.2.1 x.toNat (by omega)).1 (by omega)
    rwa [Int.toNat_of_nonneg h0] at this
  have col : ∀ x : Int, 0 ≤ x → x < q.Order → Perm (gv (turned q.Table) x) q.Order := fun x h0 h1 => by
    have := (h.2.2 x.toNat (by omega)).1 (by omega)
    rwa [Int.toNat_of_nonneg h0] at this
  have inj : ∀ (r : Vector Int 10), Perm r q.Order → ∀ y z : Int, El q.Order y → El q.Order z → gv r y = gv r z → y = z := fun r hr y z hy hz e => by
    have key : ∀ a b : Int, 0 ≤ a → a < b → b < q.Order → gv r a ≠ gv r b := fun a b h0 h1 h2 => by
      have := ((hr b.toNat (by omega)).2 (by omega)).2 a.toNat (by omega)
      rwa [Int.toNat_of_nonneg h0, Int.toNat_of_nonneg (by omega)] at this
    rcases Int.lt_trichotomy y z with h3 | h3 | h3
    · exact absurd e (key y z hy.1 h3 hz.2)
    · exact h3
    · exact absurd e.symm (key z y hz.1 h3 hy.2)
  refine ⟨by omega, by omega, fun x y hx hy => ?_, fun x y z hx hy hz e => inj _ (row x hx.1 hx.2) y z hy hz e, fun x y z hx hy hz e => ?_⟩
  · have h1 := ht x hx.1 (by omega) y hy.1 (by omega)
    have h2 := ((row x hx.1 hx.2 y.toNat (by omega)).2 (by omega)).1
    rw [Int.toNat_of_nonneg hy.1] at h2
    exact ⟨h1.1, h2⟩
  · refine inj _ (col x hx.1 hx.2) y z hy hz ?_
    rw [gv_turned _ hx.1 (by omega) hy.1 (by omega), gv_turned _ hx.1 (by omega) hz.1 (by omega)]; exact e
theorem IsLp.lo {q : S_Square} (h : IsLp q) (ht : isU8s q.Table) : Lo q.Order (op q) :=
  ⟨h.1.sq ht, fun x hx => by
    have := h.2 x.toNat (by omega)
    rwa [Int.toNat_of_nonneg hx.1] at this⟩
section
variable {q : S_Square}
theorem elts_gl' {n x : Int} (h : El n x) : gl (elts n.toNat) x = x := by
  have := elts_gl (n := n.toNat) (i := x.toNat) (by omega)
  rwa [Int.toNat_of_nonneg h.1] at this
theorem elts_len' {n : Int} (h : 0 ≤ n) : ((elts n.toNat).length : Int) = n := by rw [elts_len]; omega
theorem mem_elts {n : Nat} {x : Int} : x ∈ elts n ↔ El n x := by
  simp only [elts, List.mem_map, List.mem_range]
  constructor
  · rintro ⟨i, h, rfl⟩; exact ⟨by omega, by omega⟩
  · intro h; exact ⟨x.toNat, by omega, by omega⟩
theorem left_eq (h : Sq q.Order (op q)) {x y : Int} (hx : El q.Order x) (hy : El q.Order y) : impl_Square_left q x y = some (ldv q.Order (op q) x y) := by
  have hn := h.le
  obtain ⟨hz, e⟩ := h.ldv hx hy
  unfold impl_Square_left
  refine Ok.eq (Ok.call (Ok.up (step := impl_Square_left_L1 q x y) (fun (_ : Unit) i => i) (fun _ i => True) 0 (ldv q.Order (op q) x y) hz.1 (Q := (· = ldv q.Order (op q) x y)) (fun _ i h0 h1 _ => ?_) (fun _ _ => ?_) (a := ()) trivial) (fun a ha => .ret ha))
  · unfold impl_Square_left_L1
    refine .yes (by omega) (.yes (by omega) (.yes (fun e2 => ?_) (.ret (.inl ⟨(), by rw [w8 (by omega) (by omega)], trivial⟩))))
    have := h.ri x i _ hx ⟨h0, by omega⟩ hz (e2.trans e.symm)
    omega
  · unfold impl_Square_left_L1
    exact .yes (by omega) (.yes (by omega) (.no (fun h => h e) (.ret ⟨_, rfl, rfl⟩)))
theorem right_eq (h : Sq q.Order (op q)) {x y : Int} (hx : El q.Order x) (hy : El q.Order y) : impl_Square_right q y x = some (rdv q.Order (op q) x y) := by
  have hn := h.le
  obtain ⟨hz, e⟩ := h.rdv hx hy
  unfold impl_Square_right
  refine Ok.eq (Ok.call (Ok.up (step := impl_Square_right_L1 q y x) (fun (_ : Unit) i => i) (fun _ i => True) 0 (rdv q.Order (op q) x y) hz.1 (Q := (· = rdv q.Order (op q) x y)) (fun _ i h0 h1 _ => ?_) (fun _ _ => ?_) (a := ()) trivial) (fun a ha => .ret ha))
  · unfold impl_Square_right_L1
    refine .yes (by omega) (.yes (by omega) (.yes (fun e2 => ?_) (.ret (.inl ⟨(), by rw [w8 (by omega) (by omega)], trivial⟩))))
    have := h.ci x i _ hx ⟨h0, by omega⟩ hz (e2.trans e.symm)
    omega
  · unfold impl_Square_right_L1
    exact .yes (by omega) (.yes (by omega) (.no (fun h => h e) (.ret ⟨_, rfl, rfl⟩)))
theorem elements_ok (h : Sq q.Order (op q)) : impl_Square_elements q = some (elts q.Order.toNat) := elements_eq q ⟨by have := h.pos; omega, h.le⟩
theorem mapped_ok (h : Sq q.Order (op q)) {f : Int → Option Int} {F : Int → Int} (hf : ∀ z, El q.Order z → f z = some (F z)) : Ok (impl_Square_mapped q f) (fun v => ∀ z, El q.Order z → gv v z = F z) := by
  have hn := h.le
  have hp := h.pos
  unfold impl_Square_mapped
  refine .calls (elements_ok h) (.call (Ok.up (step := impl_Square_mapped_L1 (elts q.Order.toNat) f) (fun v i => (v, i)) (fun v i => ∀ z, El i z → gv v z = F z) 0 q.Order (by omega) (Q := fun v => ∀ z, El q.Order z → gv v z = F z) (fun v i h0 h1 hI => ?_) (fun v hI => ?_) (fun z hz => absurd hz (by omega))) (fun a ha => .ret ha))
  · unfold impl_Square_mapped_L1
    simp only [elts_len' (show 0 ≤ q.Order by omega), elts_gl' (n := q.Order) ⟨h0, h1⟩]
    refine .yes (by omega) (.yes (by omega) (.calls (hf i ⟨h0, h1⟩) (.yes (by omega) (.ret (.inl ⟨_, by rw [w64 (by omega) (by omega)], fun z hz => ?_⟩)))))
    rw [gv_sv _ _ h0 hz.1 (by omega)]
    split
    · rename_i e; rw [e]
    · exact hI z (by omega)
  · unfold impl_Square_mapped_L1
    simp only [elts_len' (show 0 ≤ q.Order by omega)]
    exact .no (by omega) (.ret ⟨_, rfl, hI⟩)
end
end Go.Mi
