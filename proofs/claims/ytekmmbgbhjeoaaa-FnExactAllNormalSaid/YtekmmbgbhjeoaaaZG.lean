/- Generated subloops and normal closures of the program. No condition. -/
import Derived.Test.YtekmmbgbhjeoaaaZF
set_option linter.unusedSimpArgs false
set_option linter.unusedVariables false
namespace Go.Mi
open Go Go.Sx Go.Pl Go.Lq
variable {q : S_Square}

/-- 'v' lies in each kept set that holds 'L' -/
def Least (q : S_Square) (P : (Int → Prop) → Prop) (L : Int → Prop) (v : Int) : Prop := ∀ S, P S → (∀ x, El q.Order x → L x → S x) → ∀ x, El q.Order x → hasb v x = true → S x
theorem Least.add {P : (Int → Prop) → Prop} {L : Int → Prop} {v x : Int} (hn : q.Order ≤ 10) (hv : Rg v) (h : Least q P L v) (hx : El q.Order x) (hs : ∀ S, P S → (∀ x, El q.Order x → L x → S x) → S x) : Least q P L (ior .i64 v (ishl .i64 1 x)) := fun S hS hL y hy hb => by
  rcases ((ior1 hv (x := x) (by omega)).2.2 y hy.1).1 hb with h1 | h1
  · exact h S hS hL y hy h1
  · rw [← h1]; exact hs S hS hL
theorem Nm.kp {S : Int → Prop} (h : Lo q.Order (op q)) (N : Nm q.Order (op q) S) : Kp q S := by
  refine ⟨N.zero, N.mul, fun x y hx hy sx sy => ?_, fun x y hx hy sx sy => ?_⟩
  · obtain ⟨u, hu, su, e⟩ := N.mul' h hx hy sx sy
    rw [← e, h.ldv_eq hx hu]; exact su
  · have := h.rdv hy hx
    refine per_int (n := q.Order) (f := fun z => op q z y) (fun i a b => h.cl i y ⟨a, b⟩ hy) (fun i j a b c d e => h.ci y i j hy ⟨a, b⟩ ⟨c, d⟩ e) (S := S) (fun i a b hi => N.mul i y ⟨a, b⟩ hy hi sy) this.1.1 this.1.2 ?_
    show S (op q (rdv q.Order (op q) y x) y)
    rw [this.2]; exact sx
/-- the three elements that two give -/
theorem three_ok (h : Sq q.Order (op q)) {s v x y : Int} {P : (Int → Prop) → Prop} {L : Int → Prop} (hP : ∀ S, P S → Kp q S) (hx : El q.Order x) (hy : El q.Order y) (g : Grow q s v) (hl : Least q P L v) (hs : Least q P L s) (bx : hasb s x = true) (yb : hasb s y = true) :
    let w := ior .i64 v (ior .i64 (ior .i64 (ishl .i64 1 (op q x y)) (ishl .i64 1 (ldv q.Order (op q) x y))) (ishl .i64 1 (rdv q.Order (op q) y x)))
    Grow q s w ∧ Least q P L w ∧ hasb w (op q x y) = true ∧ hasb w (ldv q.Order (op q) x y) = true ∧ hasb w (rdv q.Order (op q) y x) = true ∧ ∀ z, 0 ≤ z → hasb v z = true → hasb w z = true := by
  have hn := h.le
  have e1 := h.cl x y hx hy
  have e2 := (h.ldv hx hy).1
  have e3 := (h.rdv hy hx).1
  have r1 := ishl_rg (x := op q x y) ⟨e1.1, by omega⟩
  have r2 := ishl_rg (x := ldv q.Order (op q) x y) ⟨e2.1, by omega⟩
  have r3 := ishl_rg (x := rdv q.Order (op q) y x) ⟨e3.1, by omega⟩
  intro w
  have r12 := ior_rg r1 r2
  have r123 := ior_rg r12 r3
  have rw_ := ior_rg g.inn.1 r123
  have hw : ∀ z, 0 ≤ z → (hasb w z = true ↔ hasb v z = true ∨ op q x y = z ∨ ldv q.Order (op q) x y = z ∨ rdv q.Order (op q) y x = z) := fun z hz => by
    simp only [w]
    rw [ior_has g.inn.1 r123, ior_has r12 r3, ior_has r1 r2, ishl_has ⟨e1.1, by omega⟩ z hz, ishl_has ⟨e2.1, by omega⟩ z hz, ishl_has ⟨e3.1, by omega⟩ z hz]
    simp [or_assoc]
  refine ⟨⟨⟨rw_, fun z hz hb => ?_⟩, Int.le_trans g.le (ior_le g.inn.1 r123).1, fun z hz hb => (hw z hz).2 (.inl (g.sub z hz hb))⟩, fun S hS hL z hz hb => ?_, (hw _ e1.1).2 (.inr (.inl rfl)), (hw _ e2.1).2 (.inr (.inr (.inl rfl))), (hw _ e3.1).2 (.inr (.inr (.inr rfl))), fun z hz hb => (hw z hz).2 (.inl hb)⟩
  · rcases (hw z hz).1 hb with k | k | k | k
    · exact g.inn.2 z hz k
    · omega
    · omega
    · omega
  · have K := hP S hS
    have sx := hs S hS hL x hx bx
    have sy := hs S hS hL y hy yb
    rcases (hw z hz.1).1 hb with k | k | k | k
    · exact hl S hS hL z hz k
    · rw [← k]; exact K.mul x y hx hy sx sy
    · rw [← k]; exact K.ld x y hx hy sx sy
    · rw [← k]; exact K.rd x y hx hy sx sy
def Pr (q : S_Square) (s v x k : Int) : Prop := ∀ y, El k y → hasb s x = true → hasb s y = true → hasb v (op q x y) = true ∧ hasb v (ldv q.Order (op q) x y) = true ∧ hasb v (rdv q.Order (op q) y x) = true
theorem Pr.mono (h : Sq q.Order (op q)) {s v w x k : Int} (hk : k ≤ q.Order) (hx : El q.Order x) (p : Pr q s v x k) (hw : ∀ z, 0 ≤ z → hasb v z = true → hasb w z = true) : Pr q s w x k := fun y hy a b => by
  have hy' : El q.Order y := ⟨hy.1, by omega⟩
  obtain ⟨p1, p2, p3⟩ := p y hy a b
  exact ⟨hw _ (h.cl x y hx hy').1 p1, hw _ (h.ldv hx hy').1.1 p2, hw _ (h.rdv hy' hx).1.1 p3⟩
theorem generated_ok (h : Lo q.Order (op q)) {s : Int} {P : (Int → Prop) → Prop} {L : Int → Prop} (hP : ∀ S, P S → Kp q S) (hs : In q s) (hl : Least q P L s) :
    Ok (impl_Square_generated q s) (fun r => Grow q s r ∧ Kp q (fun x => hasb r x = true) ∧ Least q P L r) := by
  have hn := h.le
  have hp := h.pos
  have hL := elts_len' (n := q.Order) (by omega)
  have r1 : Rg 1 := ⟨by omega, by omega⟩
  have h1 : ∀ z, 0 ≤ z → (hasb (ior .i64 s 1) z = true ↔ hasb s z = true ∨ z = 0) := fun z hz => by
    rw [ior_has hs.1 r1, hasb_one z hz]; simp
  unfold impl_Square_generated
  refine .call (Ok.loop (fun v => Grow q s v ∧ hasb v 0 = true ∧ Least q P L v) (fun v => (1024 - v).toNat) (Q := fun r => Grow q s r ∧ Kp q (fun x => hasb r x = true) ∧ Least q P L r) (fun s2 hI => ?_) ?_) (fun a ha => .ret ha)
  · obtain ⟨g, z0, ls⟩ := hI
    unfold impl_Square_generated_L1
    refine .calls (elements_ok h.toSq) (.call (Ok.up (step := impl_Square_generated_L2 q s2 (elts q.Order.toNat)) (fun v i => (v, i)) (fun v i => Grow q s2 v ∧ Least q P L v ∧ ∀ x, El i x → Pr q s2 v x q.Order) 0 q.Order (by omega)
      (Q := fun v => Grow q s2 v ∧ Least q P L v ∧ ∀ x, El q.Order x → Pr q s2 v x q.Order) (fun v i i0 i1 hI => ?_) (fun v hI => ?_) ⟨.refl g.inn, ls, fun x hx => absurd hx (by omega)⟩) (fun v hv => ?_))
    · obtain ⟨g1, l1, p1⟩ := hI
      unfold impl_Square_generated_L2
      simp only [hL, elts_gl' (n := q.Order) ⟨i0, i1⟩]
      refine .yes (by omega) (.yes (by omega) (.calls (elements_ok h.toSq) (.call (Ok.up (step := impl_Square_generated_L3 q s2 (elts q.Order.toNat) (v, i) (elts q.Order.toNat)) (fun v i => (v, i))
        (fun w j => Grow q s2 w ∧ Least q P L w ∧ (∀ z, 0 ≤ z → hasb v z = true → hasb w z = true) ∧ Pr q s2 w i j) 0 q.Order (by omega) (Q := fun w => Grow q s2 w ∧ Least q P L w ∧ (∀ z, 0 ≤ z → hasb v z = true → hasb w z = true) ∧ Pr q s2 w i q.Order)
        (fun w j j0 j1 hJ => ?_) (fun w hJ => ?_) ⟨g1, l1, fun _ _ h => h, fun x hx => absurd hx (by omega)⟩) (fun w hw => .ret (.inl ⟨w, by rw [w64 (by omega) (by omega)], hw.1, hw.2.1, fun x hx => ?_⟩)))))
      · obtain ⟨g2, l2, m2, p2⟩ := hJ
        unfold impl_Square_generated_L3
        have ei : El q.Order i := ⟨i0, i1⟩
        have ej : El q.Order j := ⟨j0, j1⟩
        simp only [hL, elts_gl' ei, elts_gl' ej]
        have c1 := h.cl i j ei ej
        have c2 := (h.ldv ei ej).1
        have c3 := (h.rdv ej ei).1
        refine .yes (by omega) ?_
        have key : Ok (if 0 ≤ j ∧ j < q.Order then
            ((impl_set_has s2 i).bind fun o684 => if o684 = true then (impl_set_has s2 j).bind fun o688 => some o688 else some false).bind fun o691 =>
              if o691 = true then
                if 0 ≤ i ∧ i < 10 then
                  if 0 ≤ j ∧ j < 10 then
                    if 0 ≤ gv (gv q.Table i) j then
                      (impl_Square_left q i j).bind fun o696 =>
                        if 0 ≤ o696 then
                          (impl_Square_right q i j).bind fun o700 =>
                            if 0 ≤ o700 then some (ior IntKind.i64 w (ior IntKind.i64 (ior IntKind.i64 (ishl IntKind.i64 1 (gv (gv q.Table i) j)) (ishl IntKind.i64 1 o696)) (ishl IntKind.i64 1 o700)))
                            else none
                        else none
                    else none
                  else none
                else none
              else some w
          else none) (fun w' => Grow q s2 w' ∧ Least q P L w' ∧ (∀ z, 0 ≤ z → hasb v z = true → hasb w' z = true) ∧ Pr q s2 w' i (j + 1)) := by
          refine .yes (by omega) (.bind ?_)
          rw [has_ok g.inn.1 (by omega), has_ok g.inn.1 (by omega)]
          by_cases bi : hasb s2 i = true
          · by_cases bj : hasb s2 j = true
            · simp only [bi, bj, Option.bind_some, if_true]
              refine .ret (.yes rfl (.yes (by omega) (.yes (by omega) (.yes c1.1 (.calls (left_eq h.toSq ei ej) (.yes (by omega) (.calls (right_eq h.toSq ej ei) (.yes (by omega) (.ret ?_)))))))))
              have t := three_ok h.toSq hP ei ej g2 l2 ls bi bj
              refine ⟨t.1, t.2.1, fun z hz hb => t.2.2.2.2.2 z hz (m2 z hz hb), fun y hy a b => ?_⟩
              by_cases e : y = j
              · rw [e]; exact ⟨t.2.2.1, t.2.2.2.1, t.2.2.2.2.1⟩
              · exact Pr.mono h.toSq (by omega) ei p2 t.2.2.2.2.2 y (by omega) a b
            · simp only [bi, bj, Option.bind_some, if_true]
              refine .ret (.no (by simp) (.ret ⟨g2, l2, m2, fun y hy a b => ?_⟩))
              by_cases e : y = j
              · rw [e] at b; exact absurd b bj
              · exact p2 y (by omega) a b
          · simp only [bi, Option.bind_some, if_false]
            exact .ret (.no (by simp) (.ret ⟨g2, l2, m2, fun y hy a b => absurd a bi⟩))
        refine .call key fun w' hw' => .ret (.inl ⟨w', by rw [w64 (by omega) (by omega)], hw'⟩)
      · unfold impl_Square_generated_L3
        simp only [hL]
        exact .no (by omega) (.ret ⟨_, rfl, hJ⟩)
      · by_cases e : x = i
        · rw [e]; exact hw.2.2.2
        · exact Pr.mono h.toSq (by omega) (by omega) (p1 x (by omega)) hw.2.2.1
    · unfold impl_Square_generated_L2
      simp only [hL]
      exact .no (by omega) (.ret ⟨_, rfl, hI⟩)
    · obtain ⟨g1, l1, p1⟩ := hv
      refine .ite (fun e => .ret (.inr ⟨s2, rfl, g, ⟨z0, fun x y hx hy a b => ?_, fun x y hx hy a b => ?_, fun x y hx hy a b => ?_⟩, ls⟩)) (fun e => .ret (.inl ⟨v, rfl, ⟨g.trans g1, g1.sub 0 (by omega) z0, l1⟩, ?_⟩))
      · have := (p1 x hx y hy a b).1
        rwa [e] at this
      · have := (p1 x hx y hy a b).2.1
        rwa [e] at this
      · have := (p1 x hx y hy a b).2.2
        rwa [e] at this
      · have a1 := g1.le
        have a2 := g1.inn.1
        omega
  · refine ⟨⟨⟨ior_rg hs.1 r1, fun z hz hb => ?_⟩, (ior_le hs.1 r1).1, fun z hz hb => (h1 z hz).2 (.inl hb)⟩, (h1 0 (by omega)).2 (.inr rfl), fun S hS hL' z hz hb => ?_⟩
    · rcases (h1 z hz).1 hb with k | k
      · exact hs.2 z hz k
      · omega
    · rcases (h1 z hz.1).1 hb with k | k
      · exact hl S hS hL' z hz k
      · rw [k]; exact (hP S hS).zero
end Go.Mi
