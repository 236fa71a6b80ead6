/- Squares and loops, normal subloops and congruences, in plain words. No condition. -/
import Derived.Test.YtekmmbgbhjeoaaaSxV
set_option linter.unusedSimpArgs false
set_option linter.unusedVariables false
namespace Go.Lq
open Go Go.Sx Go.Pl

abbrev El (n x : Int) : Prop := 0 ≤ x ∧ x < n
/-- A square of order 'n': the product 'm'. -/
structure Sq (n : Int) (m : Int → Int → Int) : Prop where
  pos : 0 < n
  le : n ≤ 10
  cl : ∀ x y, El n x → El n y → El n (m x y)
  ri : ∀ x y z, El n x → El n y → El n z → m x y = m x z → y = z
  ci : ∀ x y z, El n x → El n y → El n z → m y x = m z x → y = z
/-- A loop: the unit is 0. -/
structure Lo (n : Int) (m : Int → Int → Int) : Prop extends Sq n m where
  one : ∀ x, El n x → m 0 x = x ∧ m x 0 = x
variable {n : Int} {m : Int → Int → Int}
theorem Sq.ld (h : Sq n m) {x y : Int} (hx : El n x) (hy : El n y) : ∃ z, El n z ∧ m x z = y := by
  obtain ⟨z, a, b, c⟩ := inj_onto (f := m x) (fun i h0 h1 => h.cl x i hx ⟨h0, h1⟩) (fun i j a b c d e => h.ri x i j hx ⟨a, b⟩ ⟨c, d⟩ e) hy.1 hy.2
  exact ⟨z, ⟨a, b⟩, c⟩
theorem Sq.rd (h : Sq n m) {x y : Int} (hx : El n x) (hy : El n y) : ∃ z, El n z ∧ m z x = y := by
  obtain ⟨z, a, b, c⟩ := inj_onto (f := fun z => m z x) (fun i h0 h1 => h.cl i x ⟨h0, h1⟩ hx) (fun i j a b c d e => h.ci x i j hx ⟨a, b⟩ ⟨c, d⟩ e) hy.1 hy.2
  exact ⟨z, ⟨a, b⟩, c⟩
open Classical in
/-- x \ y -/
noncomputable def ldv (n : Int) (m : Int → Int → Int) (x y : Int) : Int := if h : ∃ z, El n z ∧ m x z = y then h.choose else 0
open Classical in
/-- y / x: the one whose product with 'x' behind it is 'y' -/
noncomputable def rdv (n : Int) (m : Int → Int → Int) (x y : Int) : Int := if h : ∃ z, El n z ∧ m z x = y then h.choose else 0
theorem Sq.ldv (h : Sq n m) {x y : Int} (hx : El n x) (hy : El n y) : El n (ldv n m x y) ∧ m x (Lq.ldv n m x y) = y := by
  unfold Lq.ldv
  rw [dif_pos (h.ld hx hy)]; exact (h.ld hx hy).choose_spec
theorem Sq.rdv (h : Sq n m) {x y : Int} (hx : El n x) (hy : El n y) : El n (rdv n m x y) ∧ m (Lq.rdv n m x y) x = y := by
  unfold Lq.rdv
  rw [dif_pos (h.rd hx hy)]; exact (h.rd hx hy).choose_spec
theorem Sq.ldv_eq (h : Sq n m) {x z : Int} (hx : El n x) (hz : El n z) : Lq.ldv n m x (m x z) = z := by
  have := h.ldv hx (h.cl x z hx hz)
  exact h.ri x _ _ hx this.1 hz this.2
theorem Sq.rdv_eq (h : Sq n m) {x z : Int} (hx : El n x) (hz : El n z) : Lq.rdv n m x (m z x) = z := by
  have := h.rdv hx (h.cl z x hz hx)
  exact h.ci x _ _ hx this.1 hz this.2

/-- what an injective map keeps of pairs, its inverse keeps -/
theorem per2 (hn : n ≤ 10) {f : Int → Int} (hf : ∀ i, El n i → El n (f i)) (hi : ∀ i j, El n i → El n j → f i = f j → i = j) {S : Int → Int → Prop} (hS : ∀ a b, El n a → El n b → S a b → S (f a) (f b))
    {a b : Int} (ha : El n a) (hb : El n b) (h : S (f a) (f b)) : S a b := by
  let ok : Int → Prop := fun i => i / 10 < n ∧ i % 10 < n
  let F : Int → Int := fun i => @ite _ (i / 10 < n ∧ i % 10 < n) (instDecidableAnd) (10 * f (i / 10) + f (i % 10)) i
  have hdiv : ∀ i : Int, 0 ≤ i → 0 ≤ i / 10 ∧ 0 ≤ i % 10 := fun i h0 => by omega
  have hF : ∀ i, 0 ≤ i → i < 100 → 0 ≤ F i ∧ F i < 100 := fun i h0 h1 => by
    simp only [F]
    split
    · rename_i hc
      have h2 := hf (i / 10) ⟨by omega, hc.1⟩
      have h3 := hf (i % 10) ⟨by omega, hc.2⟩
      have := h2.1; have := h2.2; have := h3.1; have := h3.2
      omega
    · exact ⟨h0, h1⟩
  have dec : ∀ i, 0 ≤ i → (i / 10 < n ∧ i % 10 < n) → F i / 10 = f (i / 10) ∧ F i % 10 = f (i % 10) := fun i h0 hc => by
    have h2 := hf (i / 10) ⟨by omega, hc.1⟩
    have h3 := hf (i % 10) ⟨by omega, hc.2⟩
    have := h2.1; have := h2.2; have := h3.1; have := h3.2
    simp only [F, if_pos hc]
    omega
  have out : ∀ i, 0 ≤ i → ¬ (i / 10 < n ∧ i % 10 < n) → F i = i := fun i _ hc => by simp only [F, if_neg hc]
  have inn : ∀ i, 0 ≤ i → (i / 10 < n ∧ i % 10 < n) → F i / 10 < n ∧ F i % 10 < n := fun i h0 hc => by
    rw [(dec i h0 hc).1, (dec i h0 hc).2]
    exact ⟨(hf (i / 10) ⟨by omega, hc.1⟩).2, (hf (i % 10) ⟨by omega, hc.2⟩).2⟩
  have := per_int (n := 100) (f := F) hF (fun i j a b c d e => by
      by_cases h1 : i / 10 < n ∧ i % 10 < n
      · by_cases h2 : j / 10 < n ∧ j % 10 < n
        · have e1 := dec i a h1
          have e2 := dec j c h2
          have k1 := hi (i / 10) (j / 10) ⟨by omega, h1.1⟩ ⟨by omega, h2.1⟩ (by rw [← e1.1, ← e2.1, e])
          have k2 := hi (i % 10) (j % 10) ⟨by omega, h1.2⟩ ⟨by omega, h2.2⟩ (by rw [← e1.2, ← e2.2, e])
          omega
        · have := inn i a h1
          rw [e, out j c h2] at this
          exact absurd this h2
      · by_cases h2 : j / 10 < n ∧ j % 10 < n
        · have := inn j c h2
          rw [← e, out i a h1] at this
          exact absurd this h1
        · rw [out i a h1, out j c h2] at e; exact e)
    (S := fun i => (i / 10 < n ∧ i % 10 < n) ∧ S (i / 10) (i % 10)) (fun i h0 h1 hs => by
      refine ⟨inn i h0 hs.1, ?_⟩
      rw [(dec i h0 hs.1).1, (dec i h0 hs.1).2]
      exact hS _ _ ⟨by omega, hs.1.1⟩ ⟨by omega, hs.1.2⟩ hs.2) (u := 10 * a + b) (by omega) (by omega) (by
      have e1 : (10 * a + b) / 10 = a := by omega
      have e2 : (10 * a + b) % 10 = b := by omega
      have hc : (10 * a + b) / 10 < n ∧ (10 * a + b) % 10 < n := by omega
      refine ⟨inn _ (by omega) hc, ?_⟩
      rw [(dec _ (by omega) hc).1, (dec _ (by omega) hc).2, e1, e2]; exact h)
  have e1 : (10 * a + b) / 10 = a := by omega
  have e2 : (10 * a + b) % 10 = b := by omega
  rw [e1, e2] at this
  exact this.2

/-! ## Normal subloops -/
/-- A set that holds 0 and is kept by products and inner maps. -/
structure Nm (n : Int) (m : Int → Int → Int) (S : Int → Prop) : Prop where
  zero : S 0
  mul : ∀ x y, El n x → El n y → S x → S y → S (m x y)
  tm : ∀ x z w, El n x → El n z → El n w → S z → m w x = m x z → S w
  lm : ∀ x y z w, El n x → El n y → El n z → El n w → S z → m (m y x) w = m y (m x z) → S w
  rm : ∀ x y z w, El n x → El n y → El n z → El n w → S z → m w (m x y) = m (m z x) y → S w
section
variable {S : Int → Prop}
theorem Nm.tm' (h : Lo n m) (N : Nm n m S) {x w : Int} (hx : El n x) (hw : El n w) (hs : S w) : ∃ z, El n z ∧ S z ∧ m x z = m w x := by
  obtain ⟨z, hz, e⟩ := h.ld hx (h.cl w x hw hx)
  refine ⟨z, hz, ?_, e⟩
  refine per_int (n := n) (f := fun z => rdv n m x (m x z)) (fun i h0 h1 => (h.rdv hx (h.cl x i hx ⟨h0, h1⟩)).1) (fun i j a b c d e => ?_) (S := S) (fun i h0 h1 hs => ?_) hz.1 hz.2 ?_
  · have h1 := (h.rdv hx (h.cl x i hx ⟨a, b⟩)).2
    have h2 := (h.rdv hx (h.cl x j hx ⟨c, d⟩)).2
    refine h.ri x i j hx ⟨a, b⟩ ⟨c, d⟩ ?_
    rw [← h1, ← h2]; exact congrArg (fun w => m w x) e
  · have h2 := h.rdv hx (h.cl x i hx ⟨h0, h1⟩)
    exact N.tm x i _ hx ⟨h0, h1⟩ h2.1 hs h2.2
  · show S (rdv n m x (m x z))
    rw [e, h.rdv_eq hx hw]; exact hs
theorem Nm.lm' (h : Lo n m) (N : Nm n m S) {x y w : Int} (hx : El n x) (hy : El n y) (hw : El n w) (hs : S w) : ∃ z, El n z ∧ S z ∧ m y (m x z) = m (m y x) w := by
  have hyx := h.cl y x hy hx
  obtain ⟨u, hu, e1⟩ := h.ld hy (h.cl (m y x) w hyx hw)
  obtain ⟨z, hz, e2⟩ := h.ld hx hu
  refine ⟨z, hz, ?_, by rw [e2, e1]⟩
  have hc : ∀ i, El n i → El n (m y (m x i)) := fun i hi => h.cl y _ hy (h.cl x i hx hi)
  refine per_int (n := n) (f := fun z => ldv n m (m y x) (m y (m x z))) (fun i h0 h1 => (h.ldv hyx (hc i ⟨h0, h1⟩)).1) (fun i j a b c d e => ?_) (S := S) (fun i h0 h1 hs => ?_) hz.1 hz.2 ?_
  · have h1 := (h.ldv hyx (hc i ⟨a, b⟩)).2
    have h2 := (h.ldv hyx (hc j ⟨c, d⟩)).2
    refine h.ri x i j hx ⟨a, b⟩ ⟨c, d⟩ (h.ri y _ _ hy (h.cl x i hx ⟨a, b⟩) (h.cl x j hx ⟨c, d⟩) ?_)
    rw [← h1, ← h2]; exact congrArg (fun w => m (m y x) w) e
  · have h2 := h.ldv hyx (hc i ⟨h0, h1⟩)
    exact N.lm x y i _ hx hy ⟨h0, h1⟩ h2.1 hs h2.2
  · show S (ldv n m (m y x) (m y (m x z)))
    rw [e2, e1, h.ldv_eq hyx hw]; exact hs
theorem Nm.mul' (h : Lo n m) (N : Nm n m S) {t s : Int} (ht : El n t) (hs : El n s) (h1 : S t) (h2 : S s) : ∃ u, El n u ∧ S u ∧ m t u = s := by
  obtain ⟨u, hu, e⟩ := h.ld ht hs
  refine ⟨u, hu, ?_, e⟩
  refine per_int (n := n) (f := m t) (fun i a b => h.cl t i ht ⟨a, b⟩) (fun i j a b c d e => h.ri t i j ht ⟨a, b⟩ ⟨c, d⟩ e) (S := S) (fun i a b hi => N.mul t i ht ⟨a, b⟩ h1 hi) hu.1 hu.2 ?_
  rw [e]; exact h2
/-- in one coset -/
def Co (n : Int) (m : Int → Int → Int) (S : Int → Prop) (x y : Int) : Prop := ∃ t, El n t ∧ S t ∧ m x t = y
theorem Co.refl (h : Lo n m) (N : Nm n m S) {x : Int} (hx : El n x) : Co n m S x x := ⟨0, ⟨by omega, h.pos⟩, N.zero, (h.one x hx).2⟩
theorem Nm.shift (h : Lo n m) (N : Nm n m S) {x t u : Int} (hx : El n x) (ht : El n t) (h1 : S t) (hu : El n u) (h2 : S u) : (∃ s, El n s ∧ S s ∧ m (m x t) s = m x u) ∧ ∃ s, El n s ∧ S s ∧ m x s = m (m x t) u := by
  have hxt := h.cl x t hx ht
  constructor
  · obtain ⟨z, hz, sz, e⟩ := N.mul' h ht hu h1 h2
    obtain ⟨w, hw, e2⟩ := h.ld hxt (h.cl x u hx hu)
    exact ⟨w, hw, N.lm t x z w ht hx hz hw sz (by rw [e2, e]), e2⟩
  · obtain ⟨z, hz, sz, e⟩ := N.lm' h ht hx hu h2
    exact ⟨m t z, h.cl t z ht hz, N.mul t z ht hz h1 sz, e⟩
theorem Co.symm (h : Lo n m) (N : Nm n m S) {x y : Int} (hx : El n x) (e : Co n m S x y) : Co n m S y x := by
  obtain ⟨t, ht, st, rfl⟩ := e
  have h0 : El n 0 := ⟨by omega, h.pos⟩
  obtain ⟨s, hs, ss, e2⟩ := (N.shift h hx ht st h0 N.zero).1
  exact ⟨s, hs, ss, by rw [e2]; exact (h.one x hx).2⟩
theorem Co.trans (h : Lo n m) (N : Nm n m S) {x y z : Int} (hx : El n x) (e : Co n m S x y) (f : Co n m S y z) : Co n m S x z := by
  obtain ⟨t, ht, st, rfl⟩ := e
  obtain ⟨u, hu, su, rfl⟩ := f
  exact (N.shift h hx ht st hu su).2
theorem Co.left (h : Lo n m) (N : Nm n m S) {a x y : Int} (ha : El n a) (hx : El n x) (e : Co n m S x y) : Co n m S (m a x) (m a y) := by
  obtain ⟨t, ht, st, rfl⟩ := e
  obtain ⟨w, hw, e2⟩ := h.ld (h.cl a x ha hx) (h.cl a _ ha (h.cl x t hx ht))
  exact ⟨w, hw, N.lm x a t w hx ha ht hw st e2, e2⟩
theorem Co.right (h : Lo n m) (N : Nm n m S) {a x y : Int} (ha : El n a) (hx : El n x) (e : Co n m S x y) : Co n m S (m x a) (m y a) := by
  obtain ⟨t, ht, st, rfl⟩ := e
  obtain ⟨t', ht', e1⟩ := h.rd hx (h.cl x t hx ht)
  have st' := N.tm x t t' hx ht ht' st e1
  have hxa := h.cl x a hx ha
  obtain ⟨w, hw, e2⟩ := h.rd hxa (h.cl (m t' x) a (h.cl t' x ht' hx) ha)
  have sw := N.rm x a t' w hx ha ht' hw st' e2
  obtain ⟨z, hz, sz, e3⟩ := N.tm' h hxa hw sw
  exact ⟨z, hz, sz, by rw [e3, e2, e1]⟩
end

/-! ## The least congruence with some pairs -/
inductive Cg (n : Int) (m : Int → Int → Int) (B : Int → Int → Prop) : Int → Int → Prop
  | base {a b : Int} : B a b → Cg n m B a b
  | refl {a : Int} : El n a → Cg n m B a a
  | symm {a b : Int} : Cg n m B a b → Cg n m B b a
  | trans {a b c : Int} : Cg n m B a b → Cg n m B b c → Cg n m B a c
  | left {x a b : Int} : El n x → Cg n m B a b → Cg n m B (m x a) (m x b)
  | right {x a b : Int} : El n x → Cg n m B a b → Cg n m B (m a x) (m b x)
section
variable {B : Int → Int → Prop}
theorem Cg.el (h : Sq n m) (hB : ∀ a b, B a b → El n a ∧ El n b) {a b : Int} (c : Cg n m B a b) : El n a ∧ El n b := by
  induction c with
  | base hb => exact hB _ _ hb
  | refl ha => exact ⟨ha, ha⟩
  | symm _ ih => exact ⟨ih.2, ih.1⟩
  | trans _ _ i1 i2 => exact ⟨i1.1, i2.2⟩
  | left hx _ ih => exact ⟨h.cl _ _ hx ih.1, h.cl _ _ hx ih.2⟩
  | right hx _ ih => exact ⟨h.cl _ _ ih.1 hx, h.cl _ _ ih.2 hx⟩
/-- it lies in each congruence that has the pairs -/
theorem Cg.least (h : Sq n m) (hB : ∀ a b, B a b → El n a ∧ El n b) {R : Int → Int → Prop} (hb : ∀ a b, B a b → R a b) (hr : ∀ a, El n a → R a a) (hs : ∀ a b, El n a → El n b → R a b → R b a)
    (ht : ∀ a b c, El n a → El n b → El n c → R a b → R b c → R a c) (hl : ∀ x a b, El n x → El n a → El n b → R a b → R (m x a) (m x b)) (hq : ∀ x a b, El n x → El n a → El n b → R a b → R (m a x) (m b x)) {a b : Int} (c : Cg n m B a b) : R a b := by
  have key : ∀ {a b}, Cg n m B a b → (El n a ∧ El n b) ∧ R a b := fun c => ⟨c.el h hB, by
    induction c with
    | base h => exact hb _ _ h
    | refl h => exact hr _ h
    | symm c ih => exact hs _ _ (c.el h hB).1 (c.el h hB).2 ih
    | trans c d i1 i2 => exact ht _ _ _ (c.el h hB).1 (c.el h hB).2 (d.el h hB).2 i1 i2
    | left hx c ih => exact hl _ _ _ hx (c.el h hB).1 (c.el h hB).2 ih
    | right hx c ih => exact hq _ _ _ hx (c.el h hB).1 (c.el h hB).2 ih⟩
  exact (key c).2
theorem Cg.cancel_left (h : Sq n m) {x a b : Int} (hx : El n x) (ha : El n a) (hb : El n b) (c : Cg n m B (m x a) (m x b)) : Cg n m B a b :=
  per2 h.le (f := m x) (fun i hi => h.cl x i hx hi) (fun i j hi hj e => h.ri x i j hx hi hj e) (S := Cg n m B) (fun a b _ _ c => .left hx c) ha hb c
theorem Cg.cancel_right (h : Sq n m) {x a b : Int} (hx : El n x) (ha : El n a) (hb : El n b) (c : Cg n m B (m a x) (m b x)) : Cg n m B a b :=
  per2 h.le (f := fun z => m z x) (fun i hi => h.cl i x hi hx) (fun i j hi hj e => h.ci x i j hx hi hj e) (S := Cg n m B) (fun a b _ _ c => .right hx c) ha hb c
/-- the class of 0 is normal -/
theorem Cg.normal (h : Lo n m) (hB : ∀ a b, B a b → El n a ∧ El n b) : Nm n m (Cg n m B 0) := by
  have h0 : El n 0 := ⟨by omega, h.pos⟩
  refine ⟨.refl h0, fun x y hx hy cx cy => ?_, fun x z w hx hz hw c e => ?_, fun x y z w hx hy hz hw c e => ?_, fun x y z w hx hy hz hw c e => ?_⟩
  · have c1 : Cg n m B (m 0 0) (m x 0) := .right h0 cx
    have c2 : Cg n m B (m x 0) (m x y) := .left hx cy
    rw [(h.one 0 h0).1] at c1
    exact .trans c1 c2
  · have c1 : Cg n m B (m x 0) (m x z) := .left hx c
    rw [(h.one x hx).2, ← e] at c1
    refine Cg.cancel_right h.toSq hx h0 hw ?_
    rw [(h.one x hx).1]; exact c1
  · have c1 : Cg n m B (m y (m x 0)) (m y (m x z)) := .left hy (.left hx c)
    rw [(h.one x hx).2, ← e] at c1
    refine Cg.cancel_left h.toSq (h.cl y x hy hx) h0 hw ?_
    rw [(h.one _ (h.cl y x hy hx)).2]; exact c1
  · have c1 : Cg n m B (m (m 0 x) y) (m (m z x) y) := .right hy (.right hx c)
    rw [(h.one x hx).1, ← e] at c1
    refine Cg.cancel_right h.toSq (h.cl x y hx hy) h0 hw ?_
    rw [(h.one _ (h.cl x y hx hy)).1]; exact c1
/-- the pairs of 0 and the elements of a set -/
def Ge (n : Int) (L : Int → Prop) (a b : Int) : Prop := a = 0 ∧ El n b ∧ L b
theorem Ge.el (h : Sq n m) {L : Int → Prop} : ∀ a b, Ge n L a b → El n a ∧ El n b := fun a b ⟨e, hb, _⟩ => ⟨by rw [e]; exact ⟨by omega, h.pos⟩, hb⟩
/-- it lies in the cosets of a normal set with the elements -/
theorem Cg.co (h : Lo n m) {L S : Int → Prop} (N : Nm n m S) (hL : ∀ x, El n x → L x → S x) {a b : Int} (c : Cg n m (Ge n L) a b) : Co n m S a b :=
  c.least h.toSq (Ge.el h.toSq) (fun a b ⟨e, hb, l⟩ => ⟨b, hb, hL b hb l, by rw [e]; exact (h.one b hb).1⟩) (fun a ha => .refl h N ha) (fun a b ha _ e => e.symm h N ha) (fun a b c ha _ _ e f => e.trans h N ha f)
    (fun x a b hx ha _ e => e.left h N hx ha) (fun x a b hx ha _ e => e.right h N hx ha)
theorem Cg.in_normal (h : Lo n m) {L S : Int → Prop} (N : Nm n m S) (hL : ∀ x, El n x → L x → S x) {x : Int} (c : Cg n m (Ge n L) 0 x) : S x := by
  obtain ⟨t, ht, st, e⟩ := c.co h N hL
  rw [← e, (h.one t ht).1]; exact st
/-- The cosets of the class of 0 are the classes. -/
theorem Cg.iff_co (h : Lo n m) {L : Int → Prop} {x y : Int} (hx : El n x) : Cg n m (Ge n L) x y ↔ Co n m (Cg n m (Ge n L) 0) x y := by
  constructor
  · exact fun c => c.co h (Cg.normal h (Ge.el h.toSq)) fun x hx l => .base ⟨rfl, hx, l⟩
  · rintro ⟨t, ht, st, rfl⟩
    have := Cg.left hx st
    rwa [(h.one x hx).2] at this
end
end Go.Lq
