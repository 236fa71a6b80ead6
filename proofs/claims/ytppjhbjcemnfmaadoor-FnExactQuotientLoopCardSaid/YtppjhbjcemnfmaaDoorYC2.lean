/- The quotients of both. No condition. -/
import Derived.Test.YtppjhbjcemnfmaaDoorYC1
set_option linter.unusedSimpArgs false
set_option linter.unusedVariables false
namespace Go.Mi
open Go Go.Sx Go.Pl Go.Lq
variable {q : S_Square}

/-- the projection: the index of the class -/
structure IsProj (n : Int) (C : Int → Int → Prop) (p : List Int) : Prop where
  len : (p.length : Int) = n
  at_ : ∀ k x : Int, 0 ≤ k → k < (firsts n C).length → El n x → C (gl (firsts n C) k) x → gl p x = k
theorem IsProj.uniq {n : Int} {C : Int → Int → Prop} (E : Eqv n C) {p p' : List Int} (h : IsProj n C p) (h' : IsProj n C p') : p = p' := by
  have l1 := h.len
  have l2 := h'.len
  refine gl_ext (by omega) fun x h0 h1 => ?_
  obtain ⟨y, hy, fy, cy⟩ := E.first (x := x) ⟨h0, by omega⟩
  obtain ⟨k, k0, k1, rfl⟩ := mem_gl ((mem_firsts (k := n) (by omega)).2 ⟨hy, fy⟩)
  rw [h.at_ k x k0 k1 ⟨h0, by omega⟩ cy, h'.at_ k x k0 k1 ⟨h0, by omega⟩ cy]
theorem IsProj.el {n : Int} {C : Int → Int → Prop} (E : Eqv n C) {p : List Int} (h : IsProj n C p) {x : Int} (hx : El n x) : 0 ≤ gl p x ∧ gl p x < (firsts n C).length := by
  obtain ⟨y, hy, fy, cy⟩ := E.first hx
  obtain ⟨k, k0, k1, rfl⟩ := mem_gl ((mem_firsts (k := n) (by have := hx.1; have := hx.2; omega)).2 ⟨hy, fy⟩)
  rw [h.at_ k x k0 k1 hx cy]; exact ⟨k0, k1⟩
/-- writing a class's index at each of its elements -/
structure Half (n : Int) (C : Int → Int → Prop) (i : Int) (p : List Int) : Prop where
  len : (p.length : Int) = n
  at_ : ∀ k x : Int, 0 ≤ k → k < i → El n x → C (gl (firsts n C) k) x → gl p x = k
theorem Half.put {n : Int} {C : Int → Int → Prop} (E : Eqv n C) {i j : Int} (i0 : 0 ≤ i) (i1 : i < (firsts n C).length) {p : List Int} (h : Half n C i p) (hw : ∀ k : Int, 0 ≤ k → k < j → gl p (gl (cls n C (gl (firsts n C) i)) k) = i) (j0 : 0 ≤ j) (j1 : j < (cls n C (gl (firsts n C) i)).length) :
    El n (gl (cls n C (gl (firsts n C) i)) j) ∧ Half n C i (sls p (gl (cls n C (gl (firsts n C) i)) j) i) ∧ ∀ k : Int, 0 ≤ k → k < j + 1 → gl (sls p (gl (cls n C (gl (firsts n C) i)) j) i) (gl (cls n C (gl (firsts n C) i)) k) = i := by
  have hp := h.len
  have hm := gl_mem j0 j1
  have hn : 0 ≤ n := by omega
  have hy := (mem_cls hn).1 hm
  generalize hyy : gl (cls n C (gl (firsts n C) i)) j = y at *
  have hF := (mem_firsts hn).1 (gl_mem (xs := firsts n C) i0 i1)
  refine ⟨hy.1, ⟨by rw [sls_len]; exact h.len, fun k x k0 k1 hx hc => ?_⟩, fun k k0 k1 => ?_⟩
  · have hk := (mem_firsts hn).1 (gl_mem (xs := firsts n C) k0 (by omega))
    rw [gl_sls _ _ hy.1.1 hx.1 (by have := hy.1.2; omega), if_neg, h.at_ k x k0 k1 hx hc]
    intro e
    rw [← e] at hc
    have c2 : C (gl (firsts n C) k) (gl (firsts n C) i) := E.tr _ y _ hk.1 hy.1 hF.1 hc (E.sy _ _ hF.1 hy.1 hy.2)
    have hlt := gl_lt (firsts_sorted (C := C) n) k0 k1 i1
    exact hF.2 _ hk.1.1 hlt c2
  · by_cases ek : k = j
    · rw [ek, hyy, gl_sls _ _ hy.1.1 hy.1.1 (by have := hy.1.2; omega), if_pos rfl]
    · have hk : k < j := by omega
      have hz := (mem_cls hn).1 (gl_mem k0 (show k < (cls n C (gl (firsts n C) i)).length by omega))
      rw [gl_sls _ _ hy.1.1 hz.1.1 (by have := hy.1.2; omega)]
      split
      · rfl
      · exact hw k k0 hk
theorem Half.next {n : Int} {C : Int → Int → Prop} (hn : 0 ≤ n) {i : Int} {p : List Int} (h : Half n C i p) (hw : ∀ k : Int, 0 ≤ k → k < (cls n C (gl (firsts n C) i)).length → gl p (gl (cls n C (gl (firsts n C) i)) k) = i) : Half n C (i + 1) p := by
  refine ⟨h.len, fun k x k0 k1 hx hc => ?_⟩
  by_cases ek : k = i
  · rw [ek] at hc ⊢
    obtain ⟨j, j0, j1, rfl⟩ := mem_gl ((mem_cls hn).2 ⟨hx, hc⟩)
    exact hw j j0 j1
  · exact h.at_ k x k0 (by omega) hx hc
noncomputable def quo (q : S_Square) (C : Int → Int → Prop) (p : List Int) : S_Square := ⟨(firsts q.Order C).length, mkT (firsts q.Order C).length fun a b => gl p (op q (gl (firsts q.Order C) a) (gl (firsts q.Order C) b))⟩
theorem cls_len {n : Int} {C : Int → Int → Prop} (h0 : 0 ≤ n) (x : Int) : ((cls n C x).length : Int) ≤ n := by
  have := List.length_filter_le (fun y => @decide (C x y) (Classical.propDecidable _)) (elts n.toNat)
  rw [elts_len] at this
  unfold cls; omega
theorem half_zero {n : Int} {C : Int → Int → Prop} (h0 : 0 ≤ n) : Half n C 0 (List.replicate n.toNat 0) := ⟨by simp; omega, fun k x k0 k1 => by omega⟩
theorem quotient_spec (h : Sq q.Order (op q)) {xs : List Int} (hx : ∀ x ∈ xs, El q.Order x) (hl : xs.length ≤ 100000) : Ok (spec_l06Quotient q xs) (fun r => IsProj q.Order (Cx q xs) r.2 ∧ r.1 = quo q (Cx q xs) r.2) := by
  have hn := h.le
  have hp := h.pos
  have E := Cx.eqv h xs
  let C := Cx q xs
  let F := firsts q.Order C
  have hfl : (F.length : Int) ≤ q.Order := firsts_len (by omega)
  have hF : ∀ a : Int, 0 ≤ a → a < F.length → El q.Order (gl F a) ∧ isF C (gl F a) := fun a a0 a1 => (mem_firsts (by omega)).1 (gl_mem a0 a1)
  unfold spec_l06Quotient
  refine .call (pairs_ok hl) fun ps hps => .call (classes_ok h (fun p hp => ?_) (by rw [hps, List.length_map]; exact hl)) fun c hc => .call (told_ok (C := C) (by omega) hn fun i j hi hj => ?_) fun t ht => ?_
  · rw [hps] at hp
    obtain ⟨x, hm, rfl⟩ := List.mem_map.1 hp
    rw [(gv_two 0 x).1, (gv_two 0 x).2]; exact ⟨⟨by omega, by omega⟩, hx x hm⟩
  · rw [hc i j hi hj, hps, bs_ge hx]
  have htl : (t.length : Int) = F.length := by rw [ht]; unfold tolds; rw [List.length_map]
  have htg : ∀ a : Int, 0 ≤ a → a < F.length → gl t a = cls q.Order C (gl F a) := fun a a0 a1 => by rw [ht]; unfold tolds; exact gl_map _ a0 a1
  refine .yes ⟨by omega, by omega⟩ (.call (Ok.up (step := spec_l06Quotient_L2 t) (fun v i => (v, i)) (fun v i => Half q.Order C i v) 0 F.length (by omega) (Q := fun v => Half q.Order C F.length v) (fun v i i0 i1 hI => ?_) (fun v hI => ?_) (half_zero (by omega))) fun p hp => ?_)
  · unfold spec_l06Quotient_L2
    refine .yes (by simp only; omega) (.call (Ok.up (step := spec_l06Quotient_L3 t (v, i)) (fun v j => (v, j)) (fun w j => Half q.Order C i w ∧ ∀ k : Int, 0 ≤ k → k < j → gl w (gl (cls q.Order C (gl F i)) k) = i) 0 (cls q.Order C (gl F i)).length (by omega)
      (Q := fun w => Half q.Order C i w ∧ ∀ k : Int, 0 ≤ k → k < (cls q.Order C (gl F i)).length → gl w (gl (cls q.Order C (gl F i)) k) = i) (fun w j j0 j1 hJ => ?_) (fun w hJ => ?_) ⟨hI, fun k a b => by omega⟩) fun w hw => .ret (.inl ⟨w, by rw [w64 (by omega) (by omega)], hw.1.next (by omega) hw.2⟩))
    · unfold spec_l06Quotient_L3
      simp only [htg i i0 i1]
      have put := hJ.1.put E i0 i1 hJ.2 j0 j1
      have hel := put.1
      have hlen := hJ.1.len
      have hcl := cls_len (n := q.Order) (C := C) (by omega) (gl F i)
      exact .yes ⟨i0, by omega⟩ (.yes j1 (.yes ⟨j0, j1⟩ (.yes ⟨hel.1, Int.lt_of_lt_of_le hel.2 (Int.le_of_eq hlen.symm)⟩ (.ret (.inl ⟨_, by rw [w64 (by omega) (by omega)], put.2⟩)))))
    · unfold spec_l06Quotient_L3
      simp only [htg i i0 i1]
      exact .yes ⟨i0, by omega⟩ (.no (by simp) (.ret ⟨_, rfl, hJ⟩))
  · unfold spec_l06Quotient_L2
    exact .no (by simp only; omega) (.ret ⟨_, rfl, hI⟩)
  have hP : IsProj q.Order C p := ⟨hp.len, hp.at_⟩
  have hpl := hp.len
  have T : ∀ a b : Int, 0 ≤ a → a < F.length → 0 ≤ b → b < F.length → 0 ≤ gl p (op q (gl F a) (gl F b)) ∧ gl p (op q (gl F a) (gl F b)) < F.length := fun a b a0 a1 b0 b1 => hP.el E (h.cl _ _ (hF a a0 a1).1 (hF b b0 b1).1)
  have hd : ∀ a : Int, 0 ≤ a → a < F.length → (0 : Int) < (cls q.Order C (gl F a)).length ∧ gl (cls q.Order C (gl F a)) 0 = gl F a := fun a a0 a1 => by
    obtain ⟨r, hr⟩ := cls_head E (hF a a0 a1).1 (hF a a0 a1).2
    rw [hr]; exact ⟨by simp, rfl⟩
  let TT : Int → Int → Int := fun a b => gl p (op q (gl F a) (gl F b))
  refine .call (Ok.up (step := spec_l06Quotient_L4 q t p) (fun v i => ((⟨t.length, v⟩ : S_Square), i)) (fun v i => ∀ x y : Int, 0 ≤ x → x < 10 → 0 ≤ y → y < 10 → gv (gv v x) y = if x < i ∧ y < F.length then TT x y else 0) 0 F.length (by omega) (Q := fun s => ∃ v, s = ⟨t.length, v⟩ ∧ ∀ x y : Int, 0 ≤ x → x < 10 → 0 ≤ y → y < 10 → gv (gv v x) y = if x < F.length ∧ y < F.length then TT x y else 0) (fun v i i0 i1 hI => ?_) (fun v hI => ?_)
    (a := Vector.replicate 10 (Vector.replicate 10 0)) (fun x y a b c d => ?_)) (fun s hs => .ret ⟨hP, ?_⟩)
  · unfold spec_l06Quotient_L4
    refine .yes (by simp only; omega) (.call (Ok.up (step := spec_l06Quotient_L5 q t p ((⟨t.length, v⟩ : S_Square), i)) (fun v j => ((⟨t.length, v⟩ : S_Square), j)) (fun v j => ∀ x y : Int, 0 ≤ x → x < 10 → 0 ≤ y → y < 10 → gv (gv v x) y = if (x < i ∨ x = i ∧ y < j) ∧ y < F.length then TT x y else 0) 0 F.length (by omega)
      (Q := fun s => ∃ v, s = ⟨t.length, v⟩ ∧ ∀ x y : Int, 0 ≤ x → x < 10 → 0 ≤ y → y < 10 → gv (gv v x) y = if x < i + 1 ∧ y < F.length then TT x y else 0) (fun v j j0 j1 hJ => ?_) (fun v hJ => ?_) (fun x y a b c d => ?_)) (fun s hs => ?_))
    · unfold spec_l06Quotient_L5
      have e1 := hd i i0 i1
      have e2 := hd j j0 j1
      have l1 := (hF i i0 i1).1
      have l2 := (hF j j0 j1).1
      have l3 := h.cl _ _ l1 l2
      simp only [op] at l3
      have l4 := T i j i0 i1 j0 j1
      simp only [htg i i0 i1, htg j j0 j1, e1.2, e2.2]
      rw [w8 (x := gl p (gv (gv q.Table (gl F i)) (gl F j))) l4.1 (by have := l4.2; simp only [op] at this; omega)]
      refine .yes (by omega) (.yes ⟨i0, by omega⟩ (.yes ⟨by omega, e1.1⟩ (.yes ⟨j0, by omega⟩ (.yes ⟨by omega, e2.1⟩ (.yes ⟨l1.1, by have := l1.2; omega⟩ (.yes ⟨l2.1, by have := l2.2; omega⟩ (.yes ⟨l3.1, by have := l3.2; omega⟩ (.yes (by omega) (.yes (by omega) (.ret (.inl ⟨_, by rw [w64 (by omega) (by omega)], fun x y a b c d => ?_⟩)))))))))))
      rw [gv_gv_sv (by omega) (by omega) a c]
      by_cases e : i = x ∧ j = y
      · rw [if_pos e, if_pos (by omega), ← e.1, ← e.2]
      · rw [if_neg e, hJ x y a b c d]
        by_cases e2 : (x < i ∨ x = i ∧ y < j) ∧ y < F.length
        · rw [if_pos e2, if_pos (by omega)]
        · rw [if_neg e2, if_neg (by omega)]
    · unfold spec_l06Quotient_L5
      refine .no (by simp only; omega) (.ret ⟨_, rfl, v, rfl, fun x y a b c d => ?_⟩)
      rw [hJ x y a b c d]
      by_cases e2 : (x < i ∨ x = i ∧ y < F.length) ∧ y < F.length
      · rw [if_pos e2, if_pos (by omega)]
      · rw [if_neg e2, if_neg (by omega)]
    · rw [hI x y a b c d]
      by_cases e2 : x < i ∧ y < F.length
      · rw [if_pos e2, if_pos (by omega)]
      · rw [if_neg e2, if_neg (by omega)]
    · obtain ⟨t', rfl, ht⟩ := hs
      exact .ret (.inl ⟨t', by rw [w64 (by omega) (by omega)], ht⟩)
  · unfold spec_l06Quotient_L4
    exact .no (by simp only; omega) (.ret ⟨_, rfl, v, rfl, hI⟩)
  · rw [gv_replicate _ a b, gv_replicate _ c d, if_neg (by omega)]
  · obtain ⟨v, rfl, hv⟩ := hs
    rw [mkT_eq hv, htl]; rfl
theorem quotient_impl (h : Sq q.Order (op q)) {C : Int → Int → Prop} (E : Eqv q.Order C) {v : Int} (hv : In q v) (hc : ∀ x z, El q.Order x → El q.Order z → (hasb v (ldv q.Order (op q) x z) = true ↔ C x z)) : Ok (impl_Square_quotient q v) (fun r => IsProj q.Order C r.2 ∧ r.1 = quo q C r.2) := by
  have hn := h.le
  have hp := h.pos
  let F := firsts q.Order C
  have hfl : (F.length : Int) ≤ q.Order := firsts_len (by omega)
  have hf0 := first_zero (n := q.Order) (C := C) (by omega)
  have hF : ∀ a : Int, 0 ≤ a → a < F.length → El q.Order (gl F a) ∧ isF C (gl F a) := fun a a0 a1 => (mem_firsts (by omega)).1 (gl_mem a0 a1)
  unfold impl_Square_quotient
  refine .call (cosets_ok h E hv hc) fun cs hcs => ?_
  obtain ⟨hcl, hcd⟩ := hcs
  have hcl' : (cs.1.length : Int) = F.length := by rw [hcl]
  have hlist : ∀ k : Int, 0 ≤ k → k < F.length → Ok (impl_set_list (gl cs.1 k)) (· = cls q.Order C (gl F k)) := fun k k0 k1 => by
    have hD := hcd k k0 (by omega)
    refine (list_ok hD.1.1).mono fun w hw => ?_
    rw [hw, show (10 : Nat) = (10 : Nat) from rfl, filter_elts (n := q.Order.toNat) (k := 10) (by omega) fun x x0 x1 => ?_]
    · unfold cls
      refine List.filter_congr fun x hx => ?_
      have ex := (mem_elts' (by omega)).1 hx
      rw [Bool.eq_iff_iff, hD.2 x ex]; simp [F]
    · rw [Bool.eq_false_iff]
      intro hb
      have := hD.1.2 x (by omega) hb
      omega
  refine .yes ⟨by omega, by omega⟩ (.call (Ok.up (step := impl_Square_quotient_L1 cs) (fun v i => (v.1, v.2, i)) (fun (v : List Int × List Int) i => v.1 = F.take i.toNat ∧ Half q.Order C i v.2) 0 F.length (by omega) (Q := fun r => r.1 = F ∧ Half q.Order C F.length r.2) (fun v i i0 i1 hI => ?_) (fun v hI => ?_) (a := ([], List.replicate q.Order.toNat 0)) ⟨rfl, half_zero (by omega)⟩) fun r hr => ?_)
  · obtain ⟨least, p⟩ := v
    obtain ⟨hle, hh⟩ := hI
    simp only at hle hh
    unfold impl_Square_quotient_L1
    have hcl2 := cls_len (n := q.Order) (C := C) (by omega) (gl F i)
    obtain ⟨rr, hr⟩ := cls_head E (hF i i0 i1).1 (hF i i0 i1).2
    have e1 : (0 : Int) < (cls q.Order C (gl F i)).length ∧ gl (cls q.Order C (gl F i)) 0 = gl F i := by rw [hr]; exact ⟨by simp, rfl⟩
    have hel := (hF i i0 i1).1
    refine .yes (by simp only; omega) (.yes ⟨i0, by simp only; omega⟩ (.call (hlist i i0 i1) fun own hown => .call (Ok.up (step := impl_Square_quotient_L2 (least, p, i) own) (fun v j => (v, j)) (fun w j => Half q.Order C i w ∧ ∀ k : Int, 0 ≤ k → k < j → gl w (gl (cls q.Order C (gl F i)) k) = i) 0 (cls q.Order C (gl F i)).length (by omega)
      (Q := fun w => Half q.Order C i w ∧ ∀ k : Int, 0 ≤ k → k < (cls q.Order C (gl F i)).length → gl w (gl (cls q.Order C (gl F i)) k) = i) (fun w j j0 j1 hJ => ?_) (fun w hJ => ?_) ⟨hh, fun k a b => by omega⟩) fun w hw => .call (hlist i i0 i1) fun own2 hown2 => ?_))
    · unfold impl_Square_quotient_L2
      rw [hown]
      have put := hJ.1.put E i0 i1 hJ.2 j0 j1
      have hel := put.1
      have hlen := hJ.1.len
      exact .yes j1 (.yes ⟨j0, j1⟩ (.yes ⟨hel.1, Int.lt_of_lt_of_le hel.2 (Int.le_of_eq hlen.symm)⟩ (.ret (.inl ⟨_, by rw [w64 (by omega) (by omega)], put.2⟩))))
    · unfold impl_Square_quotient_L2
      rw [hown]
      exact .no (by simp) (.ret ⟨_, rfl, hJ⟩)
    · rw [hown2, e1.2, w8 hel.1 (by have := hel.2; omega)]
      have hll := List.length_take_le' i.toNat F
      refine .yes ⟨by omega, e1.1⟩ (.yes (by rw [hle]; simp; omega) (.ret (.inl ⟨(least ++ [gl F i], w), by rw [w64 (x := i + 1) (by omega) (by omega)], ?_, hw.1.next (by omega) hw.2⟩)))
      simp only
      rw [take_snoc i0 i1, hle]
  · unfold impl_Square_quotient_L1
    refine .no (by simp only; omega) (.ret ⟨_, rfl, ?_, hI.2⟩)
    rw [hI.1, show (F.length : Int).toNat = F.length by omega, List.take_length]
  · obtain ⟨hr1, hr2⟩ := hr
    have hP : IsProj q.Order C r.2 := ⟨hr2.len, hr2.at_⟩
    have hpl := hr2.len
    refine .call (made_ok (n := cs.1.length) (by omega) (by omega) (F := fun a b => gl r.2 (op q (gl F a) (gl F b))) fun x y hx hy => ?_) fun s hs => .ret ⟨hP, ?_⟩
    · have l1 := (hF x hx.1 (by omega)).1
      have l2 := (hF y hy.1 (by omega)).1
      have l3 := h.cl _ _ l1 l2
      have l4 := hP.el E l3
      simp only [op] at l3 l4
      unfold impl_Square_quotient_c1
      rw [hr1, if_pos (by omega), if_pos (by omega), if_pos ⟨l1.1, by have := l1.2; omega⟩, if_pos ⟨l2.1, by have := l2.2; omega⟩, if_pos ⟨l3.1, by have := l3.2; omega⟩, w8 l4.1 (by have := l4.2; omega)]
    · rw [hs, hcl']; rfl
end Go.Mi
