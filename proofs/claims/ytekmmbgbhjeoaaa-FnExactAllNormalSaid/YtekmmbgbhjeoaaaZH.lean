/- Normal closures of the program: the class of 0. No condition. -/
import Derived.Test.YtekmmbgbhjeoaaaZG
set_option linter.unusedSimpArgs false
set_option linter.unusedVariables false
namespace Go.Mi
open Go Go.Sx Go.Pl Go.Lq
variable {q : S_Square}

theorem led_ok (hn : q.Order ≤ 10) {v : Int} {p : Vector Int 10} (hv : In q v) (hp : ∀ z, El q.Order z → El q.Order (gv p z)) : Ok (impl_led v p) (fun w => Rg w ∧ ∀ y, 0 ≤ y → (hasb w y = true ↔ ∃ z, El q.Order z ∧ hasb v z = true ∧ gv p z = y)) := by
  unfold impl_led
  refine .call (Ok.up (step := impl_led_L1 v p) (fun w i => (w, i)) (fun w i => Rg w ∧ ∀ y, 0 ≤ y → (hasb w y = true ↔ ∃ z, El q.Order z ∧ z < i ∧ hasb v z = true ∧ gv p z = y)) 0 10 (by omega)
    (Q := fun w => Rg w ∧ ∀ y, 0 ≤ y → (hasb w y = true ↔ ∃ z, El q.Order z ∧ hasb v z = true ∧ gv p z = y)) (fun w i i0 i1 hI => ?_) (fun w hI => ?_) ⟨by omega, fun y hy => ?_⟩) (fun a ha => .ret ha)
  · unfold impl_led_L1
    refine .yes (by omega) (.bind (.calls (has_ok hv.1 (by omega)) (.mono (Q := fun w => Rg w ∧ ∀ y, 0 ≤ y → (hasb w y = true ↔ ∃ z, El q.Order z ∧ z < i + 1 ∧ hasb v z = true ∧ gv p z = y)) (.ite (fun hb => ?_) (fun hb => ?_)) fun w' hw' => .ret (.inl ⟨w', by rw [w8 (by omega) (by omega)], hw'⟩))))
    · have hi : El q.Order i := ⟨i0, hv.2 i i0 hb⟩
      have hpi := hp i hi
      have k := ior1 hI.1 (x := gv p i) (by omega)
      refine .yes (by omega) (.yes hpi.1 (.ret ⟨k.1, fun y hy => ?_⟩))
      rw [k.2.2 y hy, hI.2 y hy]
      constructor
      · rintro (⟨z, a, b, c, d⟩ | e)
        · exact ⟨z, a, by omega, c, d⟩
        · exact ⟨i, hi, by omega, hb, e⟩
      · rintro ⟨z, a, b, c, d⟩
        by_cases e : z = i
        · rw [e] at d; exact .inr d
        · exact .inl ⟨z, a, by omega, c, d⟩
    · refine .ret ⟨hI.1, fun y hy => ?_⟩
      rw [hI.2 y hy]
      constructor
      · rintro ⟨z, a, b, c, d⟩; exact ⟨z, a, by omega, c, d⟩
      · rintro ⟨z, a, b, c, d⟩
        by_cases e : z = i
        · rw [e] at c; exact absurd c hb
        · exact ⟨z, a, by omega, c, d⟩
  · unfold impl_led_L1
    refine .no (by omega) (.ret ⟨_, rfl, hI.1, fun y hy => ?_⟩)
    rw [hI.2 y hy]
    exact ⟨fun ⟨z, a, b, c, d⟩ => ⟨z, a, c, d⟩, fun ⟨z, a, c, d⟩ => ⟨z, a, by omega, c, d⟩⟩
  · rw [hasb_zero]
    exact ⟨(fun h => nomatch h), fun ⟨z, a, b, _⟩ => by omega⟩
/-- a map of the list leads a normal set into itself -/
theorem Inn.keep (h : Lo q.Order (op q)) {ps : List (Vector Int 10)} (hi : Inn q ps) {p : Vector Int 10} (hp : p ∈ ps) : (∀ z, El q.Order z → El q.Order (gv p z)) ∧ ∀ S, Nm q.Order (op q) S → ∀ z, El q.Order z → S z → S (gv p z) := by
  rcases hi.each p hp with ⟨x, hx, ht⟩ | ⟨x, y, hx, hy, ht | ht⟩
  · exact ⟨fun z hz => (ht z hz).1, fun S N z hz sz => N.tm x z _ hx hz (ht z hz).1 sz (ht z hz).2⟩
  · exact ⟨fun z hz => (ht z hz).1, fun S N z hz sz => N.lm x y z _ hx hy hz (ht z hz).1 sz (ht z hz).2⟩
  · exact ⟨fun z hz => (ht z hz).1, fun S N z hz sz => N.rm x y z _ hx hy hz (ht z hz).1 sz (ht z hz).2⟩
/-- a set that products and the maps of the list keep is normal -/
theorem Inn.nm (h : Lo q.Order (op q)) {ps : List (Vector Int 10)} (hi : Inn q ps) {S : Int → Prop} (hk : Kp q S) (hl : ∀ p ∈ ps, ∀ z, El q.Order z → S z → S (gv p z)) : Nm q.Order (op q) S := by
  refine ⟨hk.zero, hk.mul, fun x z w hx hz hw sz e => ?_, fun x y z w hx hy hz hw sz e => ?_, fun x y z w hx hy hz hw sz e => ?_⟩
  · obtain ⟨p, hp, ht⟩ := hi.t x hx
    have := hl p hp z hz sz
    rwa [h.ci x _ w hx (ht z hz).1 hw ((ht z hz).2.trans e.symm)] at this
  · obtain ⟨p, hp, ht⟩ := hi.l x y hx hy
    have := hl p hp z hz sz
    rwa [h.ri (op q y x) _ w (h.cl y x hy hx) (ht z hz).1 hw ((ht z hz).2.trans e.symm)] at this
  · obtain ⟨p, hp, ht⟩ := hi.r x y hx hy
    have := hl p hp z hz sz
    rwa [h.ci (op q x y) _ w (h.cl x y hx hy) (ht z hz).1 hw ((ht z hz).2.trans e.symm)] at this
theorem closure_ok (h : Lo q.Order (op q)) {s : Int} (hs : In q s) : Ok (impl_Square_closure q s) (fun r => In q r ∧ ∀ x, El q.Order x → (hasb r x = true ↔ Cg q.Order (op q) (Ge q.Order fun x => hasb s x = true) 0 x)) := by
  have hn := h.le
  let L : Int → Prop := fun x => hasb s x = true
  unfold impl_Square_closure
  refine .call (inner_ok h.toSq) fun ps hps => .call (Ok.loop (fun v => Grow q s v ∧ Least q (Nm q.Order (op q)) L v) (fun v => (1024 - v).toNat) (Q := fun r => Grow q s r ∧ Least q (Nm q.Order (op q)) L r ∧ Nm q.Order (op q) (fun x => hasb r x = true)) (fun v hI => ?_)
    ⟨.refl hs, fun S _ hL x hx hb => hL x hx hb⟩) (fun r hr => .ret ?_)
  · obtain ⟨g, l⟩ := hI
    unfold impl_Square_closure_L1
    refine .call (generated_ok h (fun S hS => Nm.kp h hS) g.inn l) fun u hu => ?_
    obtain ⟨gu, ku, lu⟩ := hu
    refine .call (Ok.up (step := impl_Square_closure_L2 ps) (fun w i => (w, i)) (fun w i => Grow q u w ∧ Least q (Nm q.Order (op q)) L w ∧ ∀ j : Nat, (j : Int) < i → ∀ z, El q.Order z → hasb u z = true → hasb w (gv (gl ps j) z) = true) 0 ps.length (by omega)
      (Q := fun w => Grow q u w ∧ Least q (Nm q.Order (op q)) L w ∧ ∀ j : Nat, j < ps.length → ∀ z, El q.Order z → hasb u z = true → hasb w (gv (gl ps j) z) = true) (fun w i i0 i1 hI => ?_) (fun w hI => ?_) ⟨.refl gu.inn, lu, fun j hj => by omega⟩) (fun w hw => ?_)
    · obtain ⟨gw, lw, kw⟩ := hI
      have hp : gl ps i ∈ ps := by
        have := gl_nat ps i.toNat (by omega)
        rw [Int.toNat_of_nonneg i0] at this
        rw [this]; exact List.getElem_mem _
      have kp := hps.1.keep h hp
      unfold impl_Square_closure_L2
      refine .yes (by omega) (.yes (by omega) (.call (led_ok hn gw.inn kp.1) fun d hd => .ret (.inl ⟨_, by rw [w64 (by omega) (by have := hps.2; omega)], ⟨⟨ior_rg gw.inn.1 hd.1, fun z hz hb => ?_⟩, Int.le_trans gw.le (ior_le gw.inn.1 hd.1).1, fun z hz hb => ?_⟩, fun S hS hL z hz hb => ?_, fun j hj z hz hb => ?_⟩)))
      · rw [ior_has gw.inn.1 hd.1, Bool.or_eq_true] at hb
        rcases hb with hb | hb
        · exact gw.inn.2 z hz hb
        · obtain ⟨y, hy, _, e⟩ := (hd.2 z hz).1 hb
          rw [← e]; exact (kp.1 y hy).2
      · rw [ior_has gw.inn.1 hd.1, gw.sub z hz hb, Bool.true_or]
      · rw [ior_has gw.inn.1 hd.1, Bool.or_eq_true] at hb
        rcases hb with hb | hb
        · exact lw S hS hL z hz hb
        · obtain ⟨y, hy, hby, e⟩ := (hd.2 z hz.1).1 hb
          rw [← e]; exact kp.2 S hS y hy (lw S hS hL y hy hby)
      · rw [ior_has gw.inn.1 hd.1, Bool.or_eq_true]
        by_cases e : (j : Int) = i
        · rw [e]; exact .inr ((hd.2 _ (kp.1 z hz).1).2 ⟨z, hz, gw.sub z hz.1 hb, rfl⟩)
        · exact .inl (kw j (by omega) z hz hb)
    · unfold impl_Square_closure_L2
      exact .no (by omega) (.ret ⟨_, rfl, hI.1, hI.2.1, fun j hj => hI.2.2 j (by omega)⟩)
    · obtain ⟨gw, lw, kw⟩ := hw
      refine .ite (fun e => .ret (.inr ⟨v, rfl, g, l, ?_⟩)) (fun e => .ret (.inl ⟨w, rfl, ⟨(g.trans gu).trans gw, lw⟩, ?_⟩))
      · rw [e] at gw kw
        have euv : u = v := Int.le_antisymm gw.le gu.le
        rw [euv] at ku kw
        refine hps.1.nm h ku fun p hp z hz sz => ?_
        obtain ⟨j, hj, rfl⟩ := List.getElem_of_mem hp
        have := kw j hj z hz sz
        rwa [gl_nat ps j hj] at this
      · have a1 := gw.le
        have a2 := gu.le
        have a3 := gw.inn.1
        omega
  · obtain ⟨g, l, N⟩ := hr
    refine ⟨g.inn, fun x hx => ⟨fun hb => ?_, fun c => c.in_normal h N fun y hy hb => g.sub y hy.1 hb⟩⟩
    exact l _ (Cg.normal h (Ge.el h.toSq)) (fun y hy hb => .base ⟨rfl, hy, hb⟩) x hx hb
theorem isNormal_ok (h : Lo q.Order (op q)) {s : Int} (hs : In q s) : Ok (impl_Square_isNormal q s) (fun b => b = true ↔ ∀ x, El q.Order x → (hasb s x = true ↔ Cg q.Order (op q) (Ge q.Order fun x => hasb s x = true) 0 x)) := by
  have hn := h.le
  unfold impl_Square_isNormal
  refine .call (closure_ok h hs) fun r hr => .ret ?_
  rw [decide_eq_true_eq]
  constructor
  · rintro rfl; exact hr.2
  · intro e
    refine has_ext hr.1.1 hs.1 fun x h0 h1 => ?_
    by_cases hx : x < q.Order
    · rw [Bool.eq_iff_iff, hr.2 x ⟨h0, hx⟩, ← e x ⟨h0, hx⟩]
    · have a1 : ¬ hasb r x = true := fun hb => hx (hr.1.2 x h0 hb)
      have a2 : ¬ hasb s x = true := fun hb => hx (hs.2 x h0 hb)
      rw [Bool.eq_iff_iff]; simp [a1, a2]
end Go.Mi
