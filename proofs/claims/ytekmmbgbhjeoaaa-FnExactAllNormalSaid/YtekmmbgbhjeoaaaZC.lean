/- The law's mirror is true for all arguments. No condition. -/
import Derived.Test.YtekmmbgbhjeoaaaZA3
import Derived.Test.YtekmmbgbhjeoaaaSxL
set_option linter.unusedSimpArgs false
set_option linter.unusedVariables false
namespace Go.Mi
open Go Go.Sx Go.Pl Go.Lq

theorem u8_of {x : Int} (h : inKind .u8 x) : 0 ≤ x ∧ x < 256 := by
  unfold inKind Lit.wf at h
  rw [Bool.and_eq_true, decide_eq_true_eq, decide_eq_true_eq] at h
  have h1 : (IntKind.u8).min = 0 := by decide
  have h2 : (IntKind.u8).max = 255 := by decide
  omega
theorem eqSS_self (p : List (List Int)) (hl : p.length ≤ 4294967296) (h2 : ∀ x ∈ p, x.length ≤ 4294967296) : laws_eqInt64SS p p = some true := by
  unfold laws_eqInt64SS
  rw [if_neg (by simp)]
  have h := run_for (step := laws_eqInt64SS_L1 p p) (fun i => (i : Int)) p.length (.inl ())
    (fun i hi => by
      simp only [laws_eqInt64SS_L1]
      rw [if_pos (by omega), if_pos ⟨by omega, by omega⟩, if_pos ⟨by omega, by omega⟩, eqInt64S_self _ (h2 _ (gl_mem (by omega) (by omega))), w64 (by omega) (by omega)]; rfl)
    (by simp [laws_eqInt64SS_L1])
  rw [show ((0 : Int)) = ((0 : Nat) : Int) from rfl, h]
  rfl
/-- how many numbers lists hold before place 'i' -/
def tot (p : List (List Int)) : Nat → Int
  | 0 => 0
  | i + 1 => tot p i + (gl p (i : Int)).length
theorem tot_le {p : List (List Int)} (h : ∀ x ∈ p, x.length ≤ 10) : ∀ i, i ≤ p.length → 0 ≤ tot p i ∧ tot p i ≤ 10 * i
  | 0, _ => by simp [tot]
  | i + 1, hi => by
    have := tot_le h i (by omega)
    have := h _ (gl_mem (xs := p) (i := (i : Int)) (by omega) (by omega))
    simp only [tot]; omega
theorem markSS_eq (p : List (List Int)) (hl : p.length ≤ 4096) (h : ∀ x ∈ p, x.length ≤ 10) : ∃ ys : List (List Int), ys.length = p.length ∧ (∀ i : Nat, i < p.length → (gl ys (i : Int)).length = (gl p (i : Int)).length ∧ ∀ j : Nat, j < (gl p (i : Int)).length → gl (gl ys (i : Int)) (j : Int) = 1 + tot p i + j) ∧ laws_markInt64SS p 1 = some (1 + tot p p.length, ys) := by
  have key : Ok (laws_markInt64SS p 1) (fun r => r.1 = 1 + tot p p.length ∧ r.2.length = p.length ∧ ∀ i : Nat, i < p.length → (gl r.2 (i : Int)).length = (gl p (i : Int)).length ∧ ∀ j : Nat, j < (gl p (i : Int)).length → gl (gl r.2 (i : Int)) (j : Int) = 1 + tot p i + j) := by
    unfold laws_markInt64SS
    refine .call (Ok.up (step := laws_markInt64SS_L1) (fun (a : List (List Int) × Int) i => (a.1, a.2, i)) (fun a i => a.1.length = p.length ∧ a.2 = 1 + tot p i.toNat ∧ (∀ k : Nat, (k : Int) < i → (gl a.1 (k : Int)).length = (gl p (k : Int)).length ∧ ∀ j : Nat, j < (gl p (k : Int)).length → gl (gl a.1 (k : Int)) (j : Int) = 1 + tot p k + j) ∧ ∀ k : Int, i ≤ k → k < p.length → gl a.1 k = gl p k) 0 p.length (by omega)
      (Q := fun r => r.2 = 1 + tot p p.length ∧ r.1.length = p.length ∧ ∀ i : Nat, i < p.length → (gl r.1 (i : Int)).length = (gl p (i : Int)).length ∧ ∀ j : Nat, j < (gl p (i : Int)).length → gl (gl r.1 (i : Int)) (j : Int) = 1 + tot p i + j) (fun a i i0 i1 hI => ?_) (fun a hI => ?_) (a := (p, 1)) ⟨rfl, by simp [tot], fun k hk => by omega, fun _ _ _ => rfl⟩) (fun r hr => .ret hr)
    · obtain ⟨w, n⟩ := a
      obtain ⟨wl, wn, wd, wr⟩ := hI
      simp only at wl wn wd wr
      have ei := wr i (Int.le_refl _) i1
      have tl := tot_le h i.toNat (by omega)
      have hlen := h _ (gl_mem (xs := p) i0 i1)
      unfold laws_markInt64SS_L1
      simp only [ei]
      obtain ⟨zs, z1, z2, z3⟩ := mark_eq (gl p i) n (by omega) (by omega) (by omega)
      refine .yes (by omega) (.yes ⟨i0, by omega⟩ (.calls z3 (.ret (.inl ⟨(sls w i zs, n + (gl p i).length), by rw [w64 (by omega) (by omega)], by simp only [sls_len]; exact wl, ?_, fun k hk => ?_, fun k k0 k1 => ?_⟩))))
      · simp only
        rw [show (i + 1).toNat = i.toNat + 1 by omega]
        simp only [tot, Int.toNat_of_nonneg i0]
        omega
      · simp only
        rw [gl_sls _ _ i0 (by omega) (by omega)]
        by_cases ek : i = (k : Int)
        · rw [if_pos ek, ← ek]
          refine ⟨z1, fun j hj => ?_⟩
          rw [z2 j hj, wn, show k = i.toNat by omega]
        · rw [if_neg ek]; exact wd k (by omega)
      · simp only
        rw [gl_sls _ _ i0 (by omega) (by omega), if_neg (by omega)]; exact wr k (by omega) k1
    · obtain ⟨w, n⟩ := a
      obtain ⟨wl, wn, wd, wr⟩ := hI
      simp only at wl wn wd
      unfold laws_markInt64SS_L1
      refine .no (by simp only; omega) (.ret ⟨_, rfl, ?_, wl, fun i hi => wd i (by omega)⟩)
      simp only
      rw [wn, show (p.length : Int).toNat = p.length by omega]
  obtain ⟨r, e, r1, r2, r3⟩ := key
  exact ⟨r.2, r2, r3, by rw [e, ← r1]⟩
theorem heldSS_eq (p ys : List (List Int)) (hl : p.length ≤ 4096) (h : ∀ x ∈ p, x.length ≤ 10) (h1 : ys.length = p.length) (h2 : ∀ i : Nat, i < p.length → (gl ys (i : Int)).length = (gl p (i : Int)).length ∧ ∀ j : Nat, j < (gl p (i : Int)).length → gl (gl ys (i : Int)) (j : Int) = 1 + tot p i + j) : laws_heldInt64SS ys 1 = some (1 + tot p p.length) := by
  unfold laws_heldInt64SS
  have h' := run_for (step := laws_heldInt64SS_L1 ys) (fun i => (1 + tot p i, (i : Int))) p.length (.inl (1 + tot p p.length))
    (fun i hi => by
      have tl := tot_le h i (by omega)
      have hm := h _ (gl_mem (xs := p) (i := (i : Int)) (by omega) (by omega))
      obtain ⟨a1, a2⟩ := h2 i hi
      simp only [laws_heldInt64SS_L1]
      rw [if_pos (by omega), if_pos ⟨by omega, by omega⟩, held_eq (gl ys (i : Int)) (1 + tot p i) (by omega) (by omega) (by omega) (fun j hj => a2 j (by omega)), Option.bind_some, if_neg (by omega), w64 (by omega) (by omega), a1]
      simp only [tot]
      simp; omega)
    (by simp [laws_heldInt64SS_L1, h1])
  have e0 : ((1 : Int), (0 : Int)) = (fun i : Nat => (1 + tot p i, (i : Int))) 0 := by simp [tot]
  rw [e0, h']
  rfl
theorem law_of3 (p0 : S_Square) (R : List (List Int) × Int) (hR : R.1.length ≤ 4096) (hR2 : ∀ x ∈ R.1, x.length ≤ 10) (h1 : spec_AllNormal p0 = some R) (h2 : impl_AllNormal p0 = some R) : laws_FnExactAllNormal p0 = some true := by
  unfold laws_FnExactAllNormal
  obtain ⟨ys, y1, y2, y3⟩ := markSS_eq R.1 hR hR2
  have hh := heldSS_eq R.1 ys hR hR2 y1 y2
  have tl := tot_le hR2 R.1.length (Nat.le_refl _)
  have a2 : ¬ ((1 : Int) + tot R.1 R.1.length < 0) := by omega
  simp only [toSquare_eq, h1, h2, Option.bind_some, eqSS_self R.1 (by omega) (fun x hx => by have := hR2 x hx; omega), if_true, ne_eq, not_true_eq_false, decide_false, Bool.false_eq_true, if_false, y3, hh, a2]
open Classical in
theorem core (p0 : S_Square) (h0 : ∀ i : Int, 0 ≤ i → i < 10 → ∀ j : Int, 0 ≤ j → j < 10 → inKind .u8 (gv (gv p0.Table i) j)) : laws_FnExactAllNormal p0 = some true := by
  have ht : isU8s p0.Table := fun i a b j c d => u8_of (h0 i a b j c d)
  by_cases hq : IsLp p0
  · have h := hq.lo ht
    have hn := h.le
    have hp := h.pos
    obtain ⟨A, eA, hA⟩ := all_spec h
    obtain ⟨xs, eX, x1, x2, hB⟩ := normals_ok h
    obtain ⟨B, eB, hBe⟩ := listsOf_ok (fun x hx => (x2 x hx).1) (by omega)
    have e : A = B := by rw [hBe]; exact hA.uniq hB
    refine law_of3 p0 (A, 0) ?_ (fun L hL => ?_) ?_ ?_
    · simp only; rw [e, hBe, List.length_map]; omega
    · have hN := (hA.2 L).1 hL
      have := cls_len (n := p0.Order) (C := Cx p0 L) (by omega) 0
      rw [← hN] at this; omega
    · unfold spec_AllNormal
      rw [l01Loop_eq p0 ht, eA]
      simp [hq]
    · unfold impl_AllNormal
      rw [isLoop_eq p0 ht, eX, Option.bind_some, if_pos (by simp [hq]), Option.bind_some, eB, e]; rfl
  · refine law_of3 p0 ([], 1) (by simp) (by simp) ?_ ?_
    · unfold spec_AllNormal
      rw [l01Loop_eq p0 ht]
      simp [hq]
    · unfold impl_AllNormal
      rw [isLoop_eq p0 ht]
      simp [hq]
end Go.Mi
