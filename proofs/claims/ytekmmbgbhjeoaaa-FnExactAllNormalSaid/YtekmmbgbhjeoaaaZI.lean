/- Classes of congruences: the reference. No condition. -/
import Derived.Test.YtekmmbgbhjeoaaaZE
set_option linter.unusedSimpArgs false
set_option linter.unusedVariables false
namespace Go.Mi
open Go Go.Sx Go.Pl Go.Lq
variable {q : S_Square}

/-- the pairs of a list -/
def Bs (ps : List (Vector Int 2)) (a b : Int) : Prop := ∃ p ∈ ps, gv p 0 = a ∧ gv p 1 = b
/-- how many labels are their own -/
def fixn (c : Vector Int 10) (n : Int) : Nat := ((elts n.toNat).filter fun i => gv c i = i).length
theorem fixn_le (c : Vector Int 10) {n : Int} (h : 0 ≤ n) : (fixn c n : Int) ≤ n := by
  have := List.length_filter_le (fun i => decide (gv c i = i)) (elts n.toNat)
  rw [elts_len] at this
  unfold fixn; omega
theorem filter_lt {α : Type} {p r : α → Bool} {l : List α} {b : α} (h : ∀ x ∈ l, p x = true → r x = true) (hb : b ∈ l) (h1 : p b = false) (h2 : r b = true) : (l.filter p).length < (l.filter r).length := by
  induction l with
  | nil => cases hb
  | cons a l ih =>
    have le : (l.filter p).length ≤ (l.filter r).length := by
      rw [← List.countP_eq_length_filter, ← List.countP_eq_length_filter]
      exact List.countP_mono_left fun x hx => h x (List.mem_cons_of_mem _ hx)
    rcases List.mem_cons.1 hb with rfl | hb
    · rw [List.filter_cons_of_neg (by simp [h1]), List.filter_cons_of_pos h2]; simp; omega
    · have := ih (fun x hx => h x (List.mem_cons_of_mem _ hx)) hb
      by_cases ha : p a = true
      · rw [List.filter_cons_of_pos ha, List.filter_cons_of_pos (h a List.mem_cons_self ha)]; simp; omega
      · rw [List.filter_cons_of_neg ha]
        by_cases hr : r a = true
        · rw [List.filter_cons_of_pos hr]; simp; omega
        · rw [List.filter_cons_of_neg hr]; exact this
structure Cl (q : S_Square) (ps0 : List (Vector Int 2)) (c : Vector Int 10) (ps : List (Vector Int 2)) (k : Int) : Prop where
  kl : 0 ≤ k ∧ k ≤ ps.length
  pel : ∀ p ∈ ps, El q.Order (gv p 0) ∧ El q.Order (gv p 1)
  sub : ∀ p ∈ ps0, p ∈ ps
  snd : ∀ p ∈ ps, Cg q.Order (op q) (Bs ps0) (gv p 0) (gv p 1)
  cel : ∀ i, El q.Order i → El q.Order (gv c i) ∧ gv c (gv c i) = gv c i
  csn : ∀ i j, El q.Order i → El q.Order j → gv c i = gv c j → Cg q.Order (op q) (Bs ps0) i j
  don : ∀ i, 0 ≤ i → i < k → gv c (gv (gl ps i) 0) = gv c (gv (gl ps i) 1)
  cgr : ∀ R : Int → Int → Prop, (∀ a, El q.Order a → R a a) → (∀ a b, R a b → R b a) → (∀ a b c, R a b → R b c → R a c) → (∀ p ∈ ps, R (gv p 0) (gv p 1)) → ∀ i j, El q.Order i → El q.Order j → gv c i = gv c j → ∀ x, El q.Order x → R (op q i x) (op q j x) ∧ R (op q x i) (op q x j)
  len : ps.length + 20 * (fixn c q.Order : Int) ≤ ps0.length + 200
theorem gl_mem {α : Type} [Inhabited α] {xs : List α} {i : Int} (h0 : 0 ≤ i) (h1 : i < xs.length) : gl xs i ∈ xs := by
  have := gl_nat xs i.toNat (by omega)
  rw [Int.toNat_of_nonneg h0] at this
  rw [this]; exact List.getElem_mem _
theorem mem_gl {α : Type} [Inhabited α] {xs : List α} {x : α} (h : x ∈ xs) : ∃ i : Int, 0 ≤ i ∧ i < xs.length ∧ gl xs i = x := by
  obtain ⟨j, hj, rfl⟩ := List.getElem_of_mem h
  exact ⟨j, by omega, by omega, gl_nat xs j hj⟩
theorem gv_two (a b : Int) : gv (#v[a, b] : Vector Int 2) 0 = a ∧ gv (#v[a, b] : Vector Int 2) 1 = b := ⟨rfl, rfl⟩
theorem classes_ok (h : Sq q.Order (op q)) {ps0 : List (Vector Int 2)} (hps : ∀ p ∈ ps0, El q.Order (gv p 0) ∧ El q.Order (gv p 1)) (hl : ps0.length ≤ 100000) :
    Ok (spec_l06Classes q ps0) (fun c => ∀ i j, El q.Order i → El q.Order j → (gv c i = gv c j ↔ Cg q.Order (op q) (Bs ps0) i j)) := by
  have hn := h.le
  have hp := h.pos
  have hB : ∀ a b, Bs ps0 a b → El q.Order a ∧ El q.Order b := fun a b ⟨p, hp, e1, e2⟩ => by rw [← e1, ← e2]; exact hps p hp
  unfold spec_l06Classes
  refine .call (Ok.up (step := spec_l06Classes_L1 q) (fun v i => (v, i)) (fun v i => ∀ j, El i j → gv v j = j) 0 q.Order (by omega) (Q := fun v => ∀ j, El q.Order j → gv v j = j) (fun v i i0 i1 hI => ?_) (fun v hI => ?_) (fun j hj => absurd hj (by omega))) (fun c0 hc0 => ?_)
  · unfold spec_l06Classes_L1
    refine .yes (by omega) (.yes (by omega) (.ret (.inl ⟨_, by rw [w64 (by omega) (by omega)], fun j hj => ?_⟩)))
    rw [gv_sv _ _ i0 hj.1 (by omega)]
    split
    · assumption
    · exact hI j (by omega)
  · unfold spec_l06Classes_L1
    exact .no (by omega) (.ret ⟨_, rfl, hI⟩)
  refine .call (Ok.loop (fun s => Cl q ps0 s.1 s.2.1 s.2.2) (fun s => (20 * (fixn s.1 q.Order : Int) + s.2.1.length - s.2.2).toNat) (Q := fun c => ∀ i j, El q.Order i → El q.Order j → (gv c i = gv c j ↔ Cg q.Order (op q) (Bs ps0) i j)) (fun s hs => ?_) ?_) (fun a ha => .ret ha)
  · obtain ⟨c, ps, k⟩ := s
    simp only at hs
    have fl := fixn_le c (n := q.Order) (by omega)
    have kl0 := hs.kl.1
    have kl1 := hs.kl.2
    unfold spec_l06Classes_L2
    refine .ite (fun hk => .bind (.yes ⟨hs.kl.1, hk⟩ ?_)) (fun hk => .ret (.inr ⟨c, rfl, fun i j hi hj => ⟨hs.csn i j hi hj, fun cg => ?_⟩⟩))
    · simp only at hk ⊢
      have hm := gl_mem hs.kl.1 hk
      obtain ⟨ea, eb⟩ := hs.pel _ hm
      have sd := hs.snd _ hm
      generalize hpk : gl ps k = pk at *
      generalize hx : gv pk 0 = x at *
      generalize hy : gv pk 1 = y at *
      have ca := hs.cel x ea
      have cb := hs.cel y eb
      refine .yes (by omega) (.yes (by omega) (.ite (fun e => .ret (.ret (.inl ⟨_, by rw [w64 (by omega) (by have := hs.len; omega)], ?_, ?_⟩))) (fun e => ?_)))
      · refine { hs with kl := ⟨by simp only; have := hs.kl.1; omega, by simp only; omega⟩, don := fun i i0 i1 => ?_ }
        by_cases e' : i = k
        · simp only [e', hpk, hx, hy]; exact e
        · have i1' : i < k + 1 := i1
          exact hs.don i i0 (by omega)
      · simp only; omega
      · -- two classes become one
        refine .call (Ok.up (step := spec_l06Classes_L3 q (c, ps, k)) (fun v i => (v, i)) (fun v i => ∀ j, 0 ≤ j → j < 10 → gv v j = if j < i ∧ gv c j = gv c y then gv c x else gv c j) 0 q.Order (by omega)
          (Q := fun v => ∀ j, El q.Order j → gv v j = if gv c j = gv c y then gv c x else gv c j) (fun v i i0 i1 hI => ?_) (fun v hI => ?_) (fun j j0 j1 => ?_)) (fun c' hc' => ?_)
        · unfold spec_l06Classes_L3
          simp only [hpk, hx, hy]
          have hi := hI i i0 (by omega)
          rw [if_neg (fun h => by omega)] at hi
          refine .yes (by omega) (.bind (.yes (by omega) (.mono (Q := fun v' => ∀ j, 0 ≤ j → j < 10 → gv v' j = if j < i + 1 ∧ gv c j = gv c y then gv c x else gv c j) (.ite (fun e2 => .ret fun j j0 j1 => ?_) (fun e2 => .ret fun j j0 j1 => ?_)) fun v' hv' => .ret (.inl ⟨v', by rw [w64 (by omega) (by omega)], hv'⟩))))
          · rw [hi] at e2
            rw [gv_sv _ _ i0 j0 (by omega)]
            split
            · rename_i e3; rw [← e3, if_pos ⟨by omega, e2⟩]
            · rw [hI j j0 j1]
              by_cases c1 : j < i ∧ gv c j = gv c y
              · rw [if_pos c1, if_pos ⟨by omega, c1.2⟩]
              · rw [if_neg c1, if_neg (fun c2 => c1 ⟨by omega, c2.2⟩)]
          · rw [hi] at e2
            rw [hI j j0 j1]
            by_cases c1 : j < i ∧ gv c j = gv c y
            · rw [if_pos c1, if_pos ⟨by omega, c1.2⟩]
            · rw [if_neg c1, if_neg (fun c2 => c1 ⟨by
                have : j ≠ i := fun e3 => e2 (e3 ▸ c2.2)
                omega, c2.2⟩)]
        · unfold spec_l06Classes_L3
          refine .no (by simp) (.ret ⟨_, rfl, fun j hj => ?_⟩)
          have := hI j hj.1 (by omega)
          by_cases c1 : gv c j = gv c y
          · rw [this, if_pos ⟨hj.2, c1⟩, if_pos c1]
          · rw [this, if_neg (fun c2 => c1 c2.2), if_neg c1]
        · rw [if_neg (fun h => by omega)]
        refine .call (Ok.up (step := spec_l06Classes_L4 q (c, ps, k)) (fun v i => (v, i)) (fun v i => v.length = ps.length + 2 * i ∧ (∃ r, v = ps ++ r) ∧ (∀ p ∈ v, p ∈ ps ∨ ∃ z, El q.Order z ∧ ((gv p 0 = op q x z ∧ gv p 1 = op q y z) ∨ (gv p 0 = op q z x ∧ gv p 1 = op q z y))) ∧
            ∀ z, El i z → (∃ p ∈ v, gv p 0 = op q x z ∧ gv p 1 = op q y z) ∧ ∃ p ∈ v, gv p 0 = op q z x ∧ gv p 1 = op q z y) 0 q.Order (by omega)
          (Q := fun v => v.length = ps.length + 2 * q.Order ∧ (∃ r, v = ps ++ r) ∧ (∀ p ∈ v, p ∈ ps ∨ ∃ z, El q.Order z ∧ ((gv p 0 = op q x z ∧ gv p 1 = op q y z) ∨ (gv p 0 = op q z x ∧ gv p 1 = op q z y))) ∧
            ∀ z, El q.Order z → (∃ p ∈ v, gv p 0 = op q x z ∧ gv p 1 = op q y z) ∧ ∃ p ∈ v, gv p 0 = op q z x ∧ gv p 1 = op q z y) (fun v i i0 i1 hI => ?_) (fun v hI => ?_) ⟨by simp, ⟨[], by simp⟩, fun p hp => .inl hp, fun z hz => absurd hz (by omega)⟩) (fun ps' hps' => .ret (.ret (.inl ⟨(c', ps', k + 1), by rw [w64 (by omega) (by have := hs.len; omega)], ?_⟩)))
        · unfold spec_l06Classes_L4
          simp only [hpk, hx, hy]
          have ei : El q.Order i := ⟨i0, i1⟩
          have m1 := h.cl x i ea ei
          have m2 := h.cl y i eb ei
          have m3 := h.cl i x ei ea
          have m4 := h.cl i y ei eb
          simp only [op] at m1 m2 m3 m4
          have hlen := hs.len
          simp only [w64 (x := gv (gv q.Table x) i) (by omega) (by omega), w64 (x := gv (gv q.Table y) i) (by omega) (by omega), w64 (x := gv (gv q.Table i) x) (by omega) (by omega), w64 (x := gv (gv q.Table i) y) (by omega) (by omega)]
          obtain ⟨a1, ⟨r, a2⟩, a3, a4⟩ := hI
          refine .yes (by omega) (.yes (by omega) (.yes (by simp; omega) (.ret (.inl ⟨v ++ [(#v[op q x i, op q y i] : Vector Int 2), (#v[op q i x, op q i y] : Vector Int 2)], by simp only [w64 (x := i + 1) (by omega) (by omega)], ?_, ⟨r ++ _, by rw [a2, List.append_assoc]⟩, fun p hp => ?_, fun z hz => ?_⟩))))
          · simp; omega
          · rcases List.mem_append.1 hp with hp | hp
            · exact a3 p hp
            · simp only [List.mem_cons, List.not_mem_nil, or_false] at hp
              rcases hp with rfl | rfl
              · exact .inr ⟨i, ei, .inl (gv_two _ _)⟩
              · exact .inr ⟨i, ei, .inr (gv_two _ _)⟩
          · by_cases e : z = i
            · rw [e]
              exact ⟨⟨_, List.mem_append_right _ List.mem_cons_self, gv_two _ _⟩, ⟨_, List.mem_append_right _ (List.mem_cons_of_mem _ List.mem_cons_self), gv_two _ _⟩⟩
            · have := a4 z (by omega)
              exact ⟨this.1.imp fun p hp => ⟨List.mem_append_left _ hp.1, hp.2⟩, this.2.imp fun p hp => ⟨List.mem_append_left _ hp.1, hp.2⟩⟩
        · unfold spec_l06Classes_L4
          exact .no (by simp) (.ret ⟨_, rfl, hI⟩)
        · obtain ⟨b1, ⟨r, b2⟩, b3, b4⟩ := hps'
          have inn : ∀ p ∈ ps, p ∈ ps' := fun p hp => by rw [b2]; exact List.mem_append_left _ hp
          have fl' : fixn c' q.Order < fixn c q.Order := by
            unfold fixn
            refine filter_lt (b := gv c y) (fun i hi he => ?_) (mem_elts.2 (by rw [show ((q.Order.toNat : Nat) : Int) = q.Order by omega]; exact cb.1)) ?_ (by simpa using cb.2)
            · have hi' : El q.Order i := by have := mem_elts.1 hi; omega
              simp only [decide_eq_true_eq] at he ⊢
              rw [hc' i hi'] at he
              split at he
              · rw [← he]; exact ca.2
              · exact he
            · rw [decide_eq_false_iff_not, hc' _ cb.1, if_pos cb.2]; exact e
          refine ⟨⟨⟨by simp only; have := hs.kl.1; omega, by simp only; omega⟩, fun p hp => ?_, fun p hp => inn p (hs.sub p hp), fun p hp => ?_, fun i hi => ?_, fun i j hi hj ee => ?_, fun i i0 i1 => ?_, fun R r1 r2 r3 r4 i j hi hj ee z hz => ?_, ?_⟩, ?_⟩
          · rcases b3 p hp with hp | ⟨z, hz, ⟨e1, e2⟩ | ⟨e1, e2⟩⟩
            · exact hs.pel p hp
            · rw [e1, e2]; exact ⟨h.cl _ _ ea hz, h.cl _ _ eb hz⟩
            · rw [e1, e2]; exact ⟨h.cl _ _ hz ea, h.cl _ _ hz eb⟩
          · rcases b3 p hp with hp | ⟨z, hz, ⟨e1, e2⟩ | ⟨e1, e2⟩⟩
            · exact hs.snd p hp
            · rw [e1, e2]; exact .right hz sd
            · rw [e1, e2]; exact .left hz sd
          · simp only
            rw [hc' i hi]
            have ci := hs.cel i hi
            split
            · refine ⟨ca.1, ?_⟩
              rw [hc' _ ca.1, ca.2, if_neg e]
            · rename_i e2
              refine ⟨ci.1, ?_⟩
              rw [hc' _ ci.1, ci.2, if_neg e2]
          · simp only at ee
            rw [hc' i hi, hc' j hj] at ee
            by_cases c1 : gv c i = gv c y <;> by_cases c2 : gv c j = gv c y
            · exact hs.csn i j hi hj (c1.trans c2.symm)
            · rw [if_pos c1, if_neg c2] at ee
              exact .trans (hs.csn i y hi eb c1) (.trans (.symm sd) (hs.csn x j ea hj ee))
            · rw [if_neg c1, if_pos c2] at ee
              exact .trans (hs.csn i x hi ea ee) (.trans sd (hs.csn y j eb hj c2.symm))
            · rw [if_neg c1, if_neg c2] at ee
              exact hs.csn i j hi hj ee
          · simp only at i1 ⊢
            have hik : i < ps.length := by omega
            have eg : gl ps' i = gl ps i := by rw [b2]; exact gl_append_left _ _ i0 hik
            rw [eg]
            have pe := hs.pel _ (gl_mem i0 hik)
            rw [hc' _ pe.1, hc' _ pe.2]
            by_cases e3 : i = k
            · rw [e3, hpk, hx, hy, if_neg e, if_pos rfl]
            · rw [hs.don i i0 (by omega)]
          · simp only at ee r4
            rw [hc' i hi, hc' j hj] at ee
            have old := hs.cgr R r1 r2 r3 (fun p hp => r4 p (inn p hp))
            have key : R (op q x z) (op q y z) ∧ R (op q z x) (op q z y) := by
              obtain ⟨⟨p, hp, e1, e2⟩, p', hp', e3, e4⟩ := b4 z hz
              have g1 := r4 p hp
              have g2 := r4 p' hp'
              rw [e1, e2] at g1
              rw [e3, e4] at g2
              exact ⟨g1, g2⟩
            by_cases c1 : gv c i = gv c y <;> by_cases c2 : gv c j = gv c y
            · exact old i j hi hj (c1.trans c2.symm) z hz
            · rw [if_pos c1, if_neg c2] at ee
              have o1 := old i y hi eb c1 z hz
              have o2 := old x j ea hj ee z hz
              exact ⟨r3 _ _ _ o1.1 (r3 _ _ _ (r2 _ _ key.1) o2.1), r3 _ _ _ o1.2 (r3 _ _ _ (r2 _ _ key.2) o2.2)⟩
            · rw [if_neg c1, if_pos c2] at ee
              have o1 := old i x hi ea ee z hz
              have o2 := old y j eb hj c2.symm z hz
              exact ⟨r3 _ _ _ o1.1 (r3 _ _ _ key.1 o2.1), r3 _ _ _ o1.2 (r3 _ _ _ key.2 o2.2)⟩
            · rw [if_neg c1, if_neg c2] at ee
              exact old i j hi hj ee z hz
          · simp only
            have := hs.len
            omega
          · simp only
            have := hs.len
            have := hs.kl
            omega
    · have kk : k = ps.length := by have := hs.kl; simp only at hk; omega
      refine cg.least h hB (R := fun a b => gv c a = gv c b) (fun a b ⟨p, hp, e1, e2⟩ => ?_) (fun _ _ => rfl) (fun _ _ _ _ e => e.symm) (fun _ _ _ _ _ _ e f => e.trans f) (fun x a b hx ha hb e => ?_) (fun x a b hx ha hb e => ?_)
      · obtain ⟨i, i0, i1, rfl⟩ := mem_gl (hs.sub p hp)
        rw [← e1, ← e2]; exact hs.don i i0 (by omega)
      · refine (hs.cgr (fun a b => gv c a = gv c b) (fun _ _ => rfl) (fun _ _ e => e.symm) (fun _ _ _ e f => e.trans f) (fun p hp => ?_) a b ha hb e x hx).2
        obtain ⟨i, i0, i1, rfl⟩ := mem_gl hp
        exact hs.don i i0 (by omega)
      · refine (hs.cgr (fun a b => gv c a = gv c b) (fun _ _ => rfl) (fun _ _ e => e.symm) (fun _ _ _ e f => e.trans f) (fun p hp => ?_) a b ha hb e x hx).1
        obtain ⟨i, i0, i1, rfl⟩ := mem_gl hp
        exact hs.don i i0 (by omega)
  · have fl := fixn_le c0 (n := q.Order) (by omega)
    refine ⟨⟨Int.le_refl _, by simp only; omega⟩, hps, fun p hp => hp, fun p hp => .base ⟨p, hp, rfl, rfl⟩, fun i hi => ?_, fun i j hi hj e => ?_, fun i i0 i1 => absurd i1 (by simp only; omega), fun R r1 _ _ _ i j hi hj e x hx => ?_, by simp only; omega⟩
    · simp only; rw [hc0 i hi]; exact ⟨hi, hc0 i hi⟩
    · simp only at e; rw [hc0 i hi, hc0 j hj] at e; rw [e]; exact .refl hj
    · simp only at e; rw [hc0 i hi, hc0 j hj] at e; rw [e]; exact ⟨r1 _ (h.cl _ _ hj hx), r1 _ (h.cl _ _ hx hj)⟩
end Go.Mi
