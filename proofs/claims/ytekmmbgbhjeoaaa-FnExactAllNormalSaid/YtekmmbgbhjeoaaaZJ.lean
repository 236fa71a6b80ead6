/- Classes as lists: the reference and the program. No condition. -/
import Derived.Test.YtekmmbgbhjeoaaaZI
import Derived.Test.YtekmmbgbhjeoaaaZH
set_option linter.unusedSimpArgs false
set_option linter.unusedVariables false
namespace Go.Mi
open Go Go.Sx Go.Pl Go.Lq
variable {q : S_Square}

theorem elts_snoc {k : Int} (h : 0 ≤ k) : elts (k + 1).toNat = elts k.toNat ++ [k] := by
  rw [show (k + 1).toNat = k.toNat + 1 by omega, elts_succ, Int.toNat_of_nonneg h]
theorem mem_elts' {n x : Int} (h : 0 ≤ n) : x ∈ elts n.toNat ↔ El n x := by
  rw [mem_elts, Int.toNat_of_nonneg h]
theorem filter_elts {p : Int → Bool} {n : Nat} : ∀ {k : Nat}, n ≤ k → (∀ x : Int, (n : Int) ≤ x → x < k → p x = false) → (elts k).filter p = (elts n).filter p
  | 0, h, _ => by rw [show n = 0 by omega]
  | k + 1, h, hp => by
    by_cases e : n = k + 1
    · rw [e]
    · rw [elts_succ, List.filter_append, filter_elts (n := n) (k := k) (by omega) (fun x a b => hp x a (by omega)), List.filter_cons_of_neg (by rw [hp k (by omega) (by omega)]; simp)]
      simp
open Classical in
/-- the class of 'x' -/
noncomputable def cls (n : Int) (C : Int → Int → Prop) (x : Int) : List Int := (elts n.toNat).filter fun y => decide (C x y)
/-- the least of its class -/
def isF (C : Int → Int → Prop) (x : Int) : Prop := ∀ y, 0 ≤ y → y < x → ¬ C y x
open Classical in
noncomputable def firsts (k : Int) (C : Int → Int → Prop) : List Int := (elts k.toNat).filter fun x => decide (isF C x)
open Classical in
theorem firsts_yes {C : Int → Int → Prop} {k : Int} (h : 0 ≤ k) (hf : isF C k) : firsts (k + 1) C = firsts k C ++ [k] := by
  unfold firsts
  rw [elts_snoc h, List.filter_append, List.filter_cons_of_pos (by simpa using hf)]; simp
open Classical in
theorem firsts_no {C : Int → Int → Prop} {k : Int} (h : 0 ≤ k) (hf : ¬ isF C k) : firsts (k + 1) C = firsts k C := by
  unfold firsts
  rw [elts_snoc h, List.filter_append, List.filter_cons_of_neg (by simpa using hf)]; simp
open Classical in
theorem mem_firsts {C : Int → Int → Prop} {k x : Int} (h : 0 ≤ k) : x ∈ firsts k C ↔ El k x ∧ isF C x := by
  unfold firsts
  rw [List.mem_filter, mem_elts' h, decide_eq_true_eq]
theorem firsts_zero {C : Int → Int → Prop} : firsts 0 C = [] := rfl
theorem firsts_len {C : Int → Int → Prop} {k : Int} (h : 0 ≤ k) : ((firsts k C).length : Int) ≤ k := by
  classical
  have := List.length_filter_le (fun x => @decide (isF C x) (Classical.propDecidable _)) (elts k.toNat)
  rw [elts_len] at this
  have e : (firsts k C).length = ((elts k.toNat).filter fun x => @decide (isF C x) (Classical.propDecidable _)).length := rfl
  omega
open Classical in
theorem mem_cls {C : Int → Int → Prop} {n x y : Int} (h : 0 ≤ n) : y ∈ cls n C x ↔ El n y ∧ C x y := by
  unfold cls
  rw [List.mem_filter, mem_elts' h, decide_eq_true_eq]
noncomputable def tolds (n : Int) (C : Int → Int → Prop) : List (List Int) := (firsts n C).map (cls n C)
/-- an equivalence of the elements -/
structure Eqv (n : Int) (C : Int → Int → Prop) : Prop where
  rf : ∀ x, El n x → C x x
  sy : ∀ x y, El n x → El n y → C x y → C y x
  tr : ∀ x y z, El n x → El n y → El n z → C x y → C y z → C x z
/-- the least element of a class -/
theorem Eqv.first {n : Int} {C : Int → Int → Prop} (e : Eqv n C) {x : Int} (hx : El n x) : ∃ y, El n y ∧ isF C y ∧ C y x := by
  classical
  have key : ∀ k : Nat, ∀ x : Int, x.toNat < k → El n x → ∃ y, El n y ∧ isF C y ∧ C y x := by
    intro k
    induction k with
    | zero => intro x h; omega
    | succ k ih =>
      intro x hk hx
      by_cases hf : isF C x
      · exact ⟨x, hx, hf, e.rf x hx⟩
      · simp only [isF, Classical.not_forall, Classical.not_not] at hf
        obtain ⟨y, y0, y1, c⟩ := hf
        have hy : El n y := ⟨y0, by omega⟩
        obtain ⟨z, hz, fz, cz⟩ := ih y (by omega) hy
        exact ⟨z, hz, fz, e.tr z y x hz hy hx cz c⟩
  exact key (x.toNat + 1) x (by omega) hx
open Classical in
theorem cls_head {n : Int} {C : Int → Int → Prop} (e : Eqv n C) {x : Int} (hx : El n x) (hf : isF C x) : ∃ r, cls n C x = x :: r := by
  have e1 : (elts (x + 1).toNat).filter (fun y => decide (C x y)) = [x] := by
    rw [elts_snoc hx.1, List.filter_append, List.filter_cons_of_pos (by simpa using e.rf x hx)]
    have : (elts x.toNat).filter (fun y => decide (C x y)) = [] := by
      rw [List.filter_eq_nil_iff]
      intro y hy hc
      have hy' := (mem_elts' hx.1).1 hy
      exact hf y hy'.1 hy'.2 (e.sy x y hx ⟨hy'.1, by omega⟩ (by simpa using hc))
    rw [this]; simp
  have key : ∀ k : Nat, ∃ r, (elts ((x + 1).toNat + k)).filter (fun y => decide (C x y)) = x :: r := by
    intro k
    induction k with
    | zero => exact ⟨[], e1⟩
    | succ k ih =>
      obtain ⟨r, hr⟩ := ih
      rw [show (x + 1).toNat + (k + 1) = ((x + 1).toNat + k) + 1 by omega, elts_succ, List.filter_append, hr]
      exact ⟨_, rfl⟩
  obtain ⟨r, hr⟩ := key (n.toNat - (x + 1).toNat)
  rw [show (x + 1).toNat + (n.toNat - (x + 1).toNat) = n.toNat by omega] at hr
  exact ⟨r, hr⟩
theorem Eqv.of_vec {n : Int} {C : Int → Int → Prop} {c : Vector Int 10} (hC : ∀ i j, El n i → El n j → (gv c i = gv c j ↔ C i j)) : Eqv n C :=
  ⟨fun x hx => (hC x x hx hx).1 rfl, fun x y hx hy h => (hC y x hy hx).1 ((hC x y hx hy).2 h).symm, fun x y z hx hy hz h1 h2 => (hC x z hx hz).1 (((hC x y hx hy).2 h1).trans ((hC y z hy hz).2 h2))⟩
open Classical in
theorem told_ok {n : Int} (h0 : 0 ≤ n) (hn : n ≤ 10) {C : Int → Int → Prop} {c : Vector Int 10} (hC : ∀ i j, El n i → El n j → (gv c i = gv c j ↔ C i j)) : Ok (spec_l06Told c n) (· = tolds n C) := by
  have E := Eqv.of_vec hC
  unfold spec_l06Told
  refine .call (Ok.up (step := spec_l06Told_L1 c n) (fun v i => (v.1, v.2, i)) (fun (v : Vector Bool 10 × List (List Int)) i => v.2 = (firsts i C).map (cls n C) ∧ ∀ y, El n y → (gv v.1 y = true ↔ ∃ z, El i z ∧ C z y)) 0 n h0 (Q := (· = tolds n C)) (fun v i i0 i1 hI => ?_) (fun v hI => ?_)
    (a := (Vector.replicate 10 false, [])) ⟨by rw [firsts_zero]; rfl, fun y hy => ?_⟩) (fun a ha => .ret ha)
  · obtain ⟨done, out⟩ := v
    obtain ⟨ho, hd⟩ := hI
    simp only at ho hd
    have ei : El n i := ⟨i0, i1⟩
    have hdi : gv done i = true ↔ ¬ isF C i := by
      rw [hd i ei]
      simp only [isF, Classical.not_forall, Classical.not_not]
      exact ⟨fun ⟨z, hz, c⟩ => ⟨z, hz.1, hz.2, c⟩, fun ⟨z, a, b, c⟩ => ⟨z, ⟨a, b⟩, c⟩⟩
    unfold spec_l06Told_L1
    refine .yes (by simp; omega) (.bind (.call (R := fun own => own = if isF C i then cls n C i else []) ?_ fun own hown => ?_))
    · refine Ok.up (step := spec_l06Told_L2 c n (done, out, i)) (fun v j => (v, j)) (fun own j => own = if isF C i then (elts j.toNat).filter (fun y => decide (C i y)) else []) i n (by omega) (fun own j j0 j1 hJ => ?_) (fun own hJ => ?_) ?_
      · unfold spec_l06Told_L2
        by_cases hf : isF C i
        · rw [if_pos hf] at hJ
          have hnd : gv done i = false := by
            rw [Bool.eq_false_iff]; exact fun h => hdi.1 h hf
          simp only [hnd, Bool.not_false]
          refine .bind (.yes (by omega) (.yes (by omega) (.ret (.yes rfl (.bind (.yes (by omega) (.yes (by omega) (.mono (Q := fun w => w = (elts (j + 1).toNat).filter (fun y => decide (C i y))) (.ite (fun e => ?_) (fun e => ?_)) fun w hw => .ret (.inl ⟨w, by rw [w64 (by omega) (by omega)], by rw [if_pos hf]; exact hw⟩)))))))))
          · have := (hC i j ei ⟨by omega, j1⟩).1 e.symm
            have hlen := List.length_filter_le (fun y => decide (C i y)) (elts j.toNat)
            rw [elts_len, ← hJ] at hlen
            refine .yes (by simp; omega) (.ret ?_)
            rw [elts_snoc (by omega), List.filter_append, ← hJ, List.filter_cons_of_pos (by simpa using this)]; simp
          · have : ¬ C i j := fun h => e ((hC i j ei ⟨by omega, j1⟩).2 h).symm
            refine .ret ?_
            rw [elts_snoc (by omega), List.filter_append, ← hJ, List.filter_cons_of_neg (by simpa using this)]; simp
        · have hdn : gv done i = true := hdi.2 hf
          rw [if_neg hf] at hJ
          simp only [hdn, Bool.not_true]
          exact .bind (.yes (by omega) (.yes (by omega) (.ret (.no (by simp) (.ret (.inr ⟨_, rfl, by rw [if_neg hf]; exact hJ⟩))))))
      · unfold spec_l06Told_L2
        refine .bind (.no (by simp) (.ret (.no (by simp) (.ret ⟨_, rfl, ?_⟩))))
        exact hJ
      · split
        · rename_i hf
          symm
          rw [List.filter_eq_nil_iff]
          intro y hy hc
          have hy' := (mem_elts' i0).1 hy
          exact hf y hy'.1 hy'.2 (E.sy i y ei ⟨hy'.1, by omega⟩ (by simpa using hc))
        · rfl
    · have hel : ∀ y, y ∈ own → El n y := fun y hy => by
        rw [hown] at hy
        split at hy
        · exact ((mem_cls h0).1 hy).1
        · cases hy
      have hol : own.length ≤ 10 := by
        rw [hown]
        split
        · have := List.length_filter_le (fun y => decide (C i y)) (elts n.toNat)
          rw [elts_len] at this
          unfold cls; omega
        · simp
      refine .call (Ok.up (step := spec_l06Told_L3 own) (fun v j => (v, j)) (fun v j => ∀ y, El n y → (gv v y = true ↔ gv done y = true ∨ ∃ k, 0 ≤ k ∧ k < j ∧ gl own k = y)) 0 own.length (by omega) (Q := fun v => ∀ y, El n y → (gv v y = true ↔ gv done y = true ∨ y ∈ own)) (fun v j j0 j1 hJ => ?_) (fun v hJ => ?_) (fun y hy => ?_)) (fun done' hd' => ?_)
      · unfold spec_l06Told_L3
        have hg := hel _ (gl_mem j0 j1)
        refine .yes (by omega) (.yes (by omega) (.yes ⟨hg.1, by have := hg.2; simp only; omega⟩ (.ret (.inl ⟨_, by rw [w64 (by omega) (by omega)], fun y hy => ?_⟩))))
        rw [gv_sv _ _ hg.1 hy.1 (by omega)]
        split
        · rename_i e
          exact ⟨fun _ => .inr ⟨j, j0, by omega, e⟩, fun _ => rfl⟩
        · rename_i e
          rw [hJ y hy]
          constructor
          · rintro (h | ⟨k, a, b, c⟩)
            · exact .inl h
            · exact .inr ⟨k, a, by omega, c⟩
          · rintro (h | ⟨k, a, b, c⟩)
            · exact .inl h
            · by_cases ek : k = j
              · rw [ek] at c; exact absurd c e
              · exact .inr ⟨k, a, by omega, c⟩
      · unfold spec_l06Told_L3
        refine .no (by simp) (.ret ⟨_, rfl, fun y hy => ?_⟩)
        rw [hJ y hy]
        constructor
        · rintro (h | ⟨k, a, b, c⟩)
          · exact .inl h
          · exact .inr (c ▸ gl_mem a b)
        · rintro (h | h)
          · exact .inl h
          · obtain ⟨k, a, b, c⟩ := mem_gl h
            exact .inr ⟨k, a, b, c⟩
      · exact ⟨.inl, fun h => h.elim id fun ⟨k, a, b, _⟩ => by omega⟩
      · have hfl := firsts_len (C := C) (k := i) i0
        have hdone : ∀ y, El n y → (gv done' y = true ↔ ∃ z, El (i + 1) z ∧ C z y) := fun y hy => by
          rw [hd' y hy, hd y hy]
          constructor
          · rintro (⟨z, hz, c⟩ | hm)
            · exact ⟨z, ⟨hz.1, by omega⟩, c⟩
            · rw [hown] at hm
              split at hm
              · exact ⟨i, ⟨i0, by omega⟩, ((mem_cls h0).1 hm).2⟩
              · cases hm
          · rintro ⟨z, hz, c⟩
            by_cases ez : z = i
            · rw [ez] at c
              by_cases hf : isF C i
              · right; rw [hown, if_pos hf]; exact (mem_cls h0).2 ⟨hy, c⟩
              · left
                obtain ⟨w, hw, c2⟩ := (hd i ei).1 (hdi.2 hf)
                exact ⟨w, hw, E.tr w i y ⟨hw.1, by omega⟩ ei hy c2 c⟩
            · exact .inl ⟨z, ⟨hz.1, by omega⟩, c⟩
        by_cases hf : isF C i
        · rw [if_pos hf] at hown
          obtain ⟨r, hr⟩ := cls_head E ei hf
          have hpos : (0 : Int) < own.length := by rw [hown, hr]; simp
          refine .yes hpos (.yes (by simp only; rw [ho, List.length_map]; omega) (.ret (.ret (.inl ⟨(done', out ++ [own]), by rw [w64 (x := i + 1) (by omega) (by omega)], ?_, hdone⟩))))
          simp only
          rw [firsts_yes i0 hf, List.map_append, ho, hown]; rfl
        · rw [if_neg hf] at hown
          refine .no (by rw [hown]; simp) (.ret (.ret (.inl ⟨(done', out), by rw [w64 (x := i + 1) (by omega) (by omega)], ?_, hdone⟩)))
          simp only
          rw [firsts_no i0 hf]; exact ho
  · unfold spec_l06Told_L1
    exact .no (by simp) (.ret ⟨_, rfl, hI.1⟩)
  · rw [gv_replicate _ hy.1 (by omega)]
    simp only [Bool.false_eq_true, false_iff]
    rintro ⟨z, hz, _⟩; omega
end Go.Mi
