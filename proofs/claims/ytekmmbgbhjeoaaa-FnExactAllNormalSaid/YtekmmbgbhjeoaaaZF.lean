/- Inner maps, sets, closures of the program. No condition. -/
import Derived.Test.YtekmmbgbhjeoaaaZE
set_option linter.unusedSimpArgs false
set_option linter.unusedVariables false
namespace Go.Mi
open Go Go.Sx Go.Pl Go.Lq
variable {q : S_Square}

def IsT (q : S_Square) (x : Int) (p : Vector Int 10) : Prop := ∀ z, El q.Order z → El q.Order (gv p z) ∧ op q (gv p z) x = op q x z
def IsL (q : S_Square) (x y : Int) (p : Vector Int 10) : Prop := ∀ z, El q.Order z → El q.Order (gv p z) ∧ op q (op q y x) (gv p z) = op q y (op q x z)
def IsR (q : S_Square) (x y : Int) (p : Vector Int 10) : Prop := ∀ z, El q.Order z → El q.Order (gv p z) ∧ op q (gv p z) (op q x y) = op q (op q z x) y
theorem turn_ok (h : Sq q.Order (op q)) {x : Int} (hx : El q.Order x) : Ok (impl_Square_turn q x) (IsT q x) := by
  have hn := h.le
  unfold impl_Square_turn
  refine .call (mapped_ok h (F := fun z => rdv q.Order (op q) x (op q x z)) (fun z hz => ?_)) (fun v hv => .ret fun z hz => ?_)
  · unfold impl_Square_turn_c1
    have hc := h.cl x z hx hz
    rw [if_pos (by omega), if_pos (by omega), right_eq h hx hc]; rfl
  · rw [hv z hz]
    exact h.rdv hx (h.cl x z hx hz)
theorem leftInner_ok (h : Sq q.Order (op q)) {x y : Int} (hx : El q.Order x) (hy : El q.Order y) : Ok (impl_Square_leftInner q x y) (IsL q x y) := by
  have hn := h.le
  unfold impl_Square_leftInner
  refine .call (mapped_ok h (F := fun z => ldv q.Order (op q) (op q y x) (op q y (op q x z))) (fun z hz => ?_)) (fun v hv => .ret fun z hz => ?_)
  · unfold impl_Square_leftInner_c1
    have hc := h.cl x z hx hz
    have hd := h.cl y x hy hx
    have he := h.cl y _ hy hc
    simp only [op] at hc hd he
    rw [if_pos (by omega), if_pos (by omega), if_pos (by omega), if_pos (by omega), left_eq h hd he]; rfl
  · rw [hv z hz]
    exact h.ldv (h.cl y x hy hx) (h.cl y _ hy (h.cl x z hx hz))
theorem rightInner_ok (h : Sq q.Order (op q)) {x y : Int} (hx : El q.Order x) (hy : El q.Order y) : Ok (impl_Square_rightInner q x y) (IsR q x y) := by
  have hn := h.le
  unfold impl_Square_rightInner
  refine .call (mapped_ok h (F := fun z => rdv q.Order (op q) (op q x y) (op q (op q z x) y)) (fun z hz => ?_)) (fun v hv => .ret fun z hz => ?_)
  · unfold impl_Square_rightInner_c1
    have hc := h.cl z x hz hx
    have hd := h.cl x y hx hy
    have he := h.cl _ y hc hy
    simp only [op] at hc hd he
    rw [if_pos (by omega), if_pos (by omega), if_pos (by omega), if_pos (by omega), right_eq h hd he]; rfl
  · rw [hv z hz]
    exact h.rdv (h.cl x y hx hy) (h.cl _ y (h.cl z x hz hx) hy)
/-- the maps that make all inner maps -/
structure Inn (q : S_Square) (ps : List (Vector Int 10)) : Prop where
  each : ∀ p ∈ ps, (∃ x, El q.Order x ∧ IsT q x p) ∨ ∃ x y, El q.Order x ∧ El q.Order y ∧ (IsL q x y p ∨ IsR q x y p)
  t : ∀ x, El q.Order x → ∃ p ∈ ps, IsT q x p
  l : ∀ x y, El q.Order x → El q.Order y → ∃ p ∈ ps, IsL q x y p
  r : ∀ x y, El q.Order x → El q.Order y → ∃ p ∈ ps, IsR q x y p
theorem inner_ok (h : Sq q.Order (op q)) : Ok (impl_Square_inner q) (fun ps => Inn q ps ∧ ps.length ≤ 1000) := by
  have hn := h.le
  have hp := h.pos
  unfold impl_Square_inner
  let Each : List (Vector Int 10) → Prop := fun ps => ∀ p ∈ ps, (∃ x, El q.Order x ∧ IsT q x p) ∨ ∃ x y, El q.Order x ∧ El q.Order y ∧ (IsL q x y p ∨ IsR q x y p)
  let Row : List (Vector Int 10) → Int → Int → Prop := fun ps x k => ∀ y, El k y → (∃ p ∈ ps, IsL q x y p) ∧ ∃ p ∈ ps, IsR q x y p
  let Up : List (Vector Int 10) → Int → Prop := fun ps i => ∀ x, El i x → (∃ p ∈ ps, IsT q x p) ∧ Row ps x q.Order
  have hL := elts_len' (n := q.Order) (by omega)
  have mono : ∀ {ps ps' : List (Vector Int 10)} {x k : Int}, (∀ p ∈ ps, p ∈ ps') → Row ps x k → Row ps' x k := fun hs hr y hy =>
    ⟨(hr y hy).1.imp fun p hp => ⟨hs _ hp.1, hp.2⟩, (hr y hy).2.imp fun p hp => ⟨hs _ hp.1, hp.2⟩⟩
  refine .calls (elements_ok h) (.call (Ok.up (step := impl_Square_inner_L1 q (elts q.Order.toNat)) (fun v i => (v, i)) (fun v i => Each v ∧ Up v i ∧ v.length ≤ 21 * i) 0 q.Order (by omega)
    (Q := fun ps => Inn q ps ∧ ps.length ≤ 1000) (fun v i h0 h1 hI => ?_) (fun v hI => ?_) ⟨(fun p hp => nomatch hp), fun x hx => absurd hx (by omega), by simp⟩) (fun a ha => .ret ha))
  · unfold impl_Square_inner_L1
    simp only [hL, elts_gl' (n := q.Order) ⟨h0, h1⟩]
    refine .yes (by omega) (.yes (by omega) (.call (turn_ok h ⟨h0, h1⟩) fun p hpt => .yes (by simp; omega) (.calls (elements_ok h) (.call
      (Ok.up (step := impl_Square_inner_L2 q (elts q.Order.toNat) (v, i) (elts q.Order.toNat)) (fun v i => (v, i)) (fun w j => Each w ∧ (∀ p ∈ v, p ∈ w) ∧ p ∈ w ∧ Row w i j ∧ w.length ≤ v.length + 1 + 2 * j) 0 q.Order (by omega)
        (Q := fun w => Each w ∧ (∀ p ∈ v, p ∈ w) ∧ p ∈ w ∧ Row w i q.Order ∧ w.length ≤ v.length + 21) (fun w j j0 j1 hJ => ?_) (fun w hJ => ?_) ⟨?_, fun p hp => List.mem_append_left _ hp, by simp, fun y hy => absurd hy (by omega), by simp⟩)
      fun w hw => .ret (.inl ⟨w, by rw [w64 (by omega) (by omega)], hw.1, ?_, by have := hw.2.2.2.2; omega⟩)))))
    · unfold impl_Square_inner_L2
      simp only [hL, elts_gl' (n := q.Order) ⟨h0, h1⟩, elts_gl' (n := q.Order) ⟨j0, j1⟩]
      obtain ⟨a1, a2, a3, a4, a5⟩ := hJ
      refine .yes (by omega) (.yes (by omega) (.call (leftInner_ok h ⟨h0, h1⟩ ⟨j0, j1⟩) fun pl hl => .call (rightInner_ok h ⟨h0, h1⟩ ⟨j0, j1⟩) fun pr hr => .yes (by simp; omega) (.ret (.inl ⟨_, by rw [w64 (by omega) (by omega)], ?_, ?_, ?_, ?_, ?_⟩))))
      · intro p hp
        rcases List.mem_append.1 hp with hp | hp
        · exact a1 p hp
        · simp only [List.mem_cons, List.not_mem_nil, or_false] at hp
          rcases hp with rfl | rfl
          · exact .inr ⟨i, j, ⟨h0, h1⟩, ⟨j0, j1⟩, .inl hl⟩
          · exact .inr ⟨i, j, ⟨h0, h1⟩, ⟨j0, j1⟩, .inr hr⟩
      · exact fun p hp => List.mem_append_left _ (a2 p hp)
      · exact List.mem_append_left _ a3
      · intro y hy
        by_cases e : y = j
        · rw [e]; exact ⟨⟨pl, by simp, hl⟩, ⟨pr, by simp, hr⟩⟩
        · exact mono (fun p hp => List.mem_append_left _ hp) a4 y (by omega)
      · simp; omega
    · unfold impl_Square_inner_L2
      simp only [hL]
      refine .no (by omega) (.ret ⟨_, rfl, hJ.1, hJ.2.1, hJ.2.2.1, hJ.2.2.2.1, by have := hJ.2.2.2.2; omega⟩)
    · intro p' hp'
      rcases List.mem_append.1 hp' with hp' | hp'
      · exact hI.1 p' hp'
      · simp only [List.mem_cons, List.not_mem_nil, or_false] at hp'
        rw [hp']; exact .inl ⟨i, ⟨h0, h1⟩, hpt⟩
    · intro x hx
      by_cases e : x = i
      · rw [e]; exact ⟨⟨p, hw.2.2.1, hpt⟩, hw.2.2.2.1⟩
      · have := hI.2.1 x (by omega)
        exact ⟨this.1.imp fun p hp => ⟨hw.2.1 p hp.1, hp.2⟩, mono hw.2.1 this.2⟩
  · unfold impl_Square_inner_L1
    simp only [hL]
    refine .no (by omega) (.ret ⟨_, rfl, ⟨hI.1, fun x hx => (hI.2.1 x hx).1, fun x y hx hy => ((hI.2.1 x hx).2 y hy).1, fun x y hx hy => ((hI.2.1 x hx).2 y hy).2⟩, by have := hI.2.2; omega⟩)

/-! ## Sets -/
abbrev Rg (v : Int) : Prop := 0 ≤ v ∧ v < 1024
theorem has_ok {v x : Int} (hv : Rg v) (hx : 0 ≤ x ∧ x < 64) : impl_set_has v x = some (hasb v x) := by
  unfold impl_set_has
  rw [if_pos hx.1, has_int hv hx]
/-- all elements of the set are elements of the square -/
def In (q : S_Square) (v : Int) : Prop := Rg v ∧ ∀ x, 0 ≤ x → hasb v x = true → x < q.Order
theorem ior1 {v x : Int} (hv : Rg v) (hx : 0 ≤ x ∧ x < 10) : Rg (ior .i64 v (ishl .i64 1 x)) ∧ v ≤ ior .i64 v (ishl .i64 1 x) ∧ ∀ y, 0 ≤ y → (hasb (ior .i64 v (ishl .i64 1 x)) y = true ↔ hasb v y = true ∨ x = y) := by
  have hr := ishl_rg hx
  refine ⟨ior_rg hv hr, (ior_le hv hr).1, fun y hy => ?_⟩
  rw [ior_has hv hr, ishl_has hx y hy]; simp
/-- the set holds what is in it, and no more than a set that is kept -/
structure Grow (q : S_Square) (s v : Int) : Prop where
  inn : In q v
  le : s ≤ v
  sub : ∀ x, 0 ≤ x → hasb s x = true → hasb v x = true
/-- sets that products and quotients keep -/
structure Kp (q : S_Square) (S : Int → Prop) : Prop where
  zero : S 0
  mul : ∀ x y, El q.Order x → El q.Order y → S x → S y → S (op q x y)
  ld : ∀ x y, El q.Order x → El q.Order y → S x → S y → S (ldv q.Order (op q) x y)
  rd : ∀ x y, El q.Order x → El q.Order y → S x → S y → S (rdv q.Order (op q) y x)
theorem Grow.refl {s : Int} (h : In q s) : Grow q s s := ⟨h, Int.le_refl _, fun _ _ h => h⟩
theorem Grow.trans {s v w : Int} (h : Grow q s v) (h2 : Grow q v w) : Grow q s w := ⟨h2.inn, Int.le_trans h.le h2.le, fun x hx hs => h2.sub x hx (h.sub x hx hs)⟩
theorem Grow.add (h : Sq q.Order (op q)) {s v x : Int} (g : Grow q s v) (hx : El q.Order x) : Grow q s (ior .i64 v (ishl .i64 1 x)) := by
  have hn := h.le
  have k := ior1 g.inn.1 (x := x) (by omega)
  refine ⟨⟨k.1, fun y hy hb => ?_⟩, Int.le_trans g.le k.2.1, fun y hy hb => (k.2.2 y hy).2 (.inl (g.sub y hy hb))⟩
  rcases (k.2.2 y hy).1 hb with h1 | h1
  · exact g.inn.2 y hy h1
  · omega
end Go.Mi
