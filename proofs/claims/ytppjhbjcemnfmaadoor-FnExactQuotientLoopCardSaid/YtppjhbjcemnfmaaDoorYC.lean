/- The law's mirror is true for all arguments. No condition. -/
import Derived.Test.YtppjhbjcemnfmaaDoorYC2
import Derived.Test.YtppjhbjcemnfmaaDoorSxL
set_option linter.unusedSimpArgs false
set_option linter.unusedVariables false
namespace Go.Mi
open Go Go.Sx Go.Pl Go.Lq

theorem u8_of {x : Int} (h : inKind .u8 x) : 0 ≤ x ∧ x < 256 := by
  unfold inKind Lit.wf at h
  rw [Bool.and_eq_true, decide_eq_true_eq, decide_eq_true_eq] at h
  have h1 : (IntKind.u8).min = 0 := by decide
  have h2 : (IntKind.u8).max = 255 := by decide
  omega
open Classical in
theorem core (p0 : S_Square) (p1 : List Int) (h0 : inKind .i64 p0.Order ∧ ∀ i : Int, 0 ≤ i → i < 10 → ∀ j : Int, 0 ≤ j → j < 10 → inKind .u8 (gv (gv p0.Table i) j)) (h1 : ∀ x ∈ p1, inKind .i64 x) : laws_FnExactQuotientLoop p0 p1 = some true := by
  have ht : isU8s p0.Table := fun i a b j c d => u8_of (h0.2 i a b j c d)
  by_cases hq : IsLp p0
  · by_cases hx : IsLst p0 p1
    · have h := hq.lo ht
      have hn := h.le
      have hp := h.pos
      have hll := lst_len (by omega) hx
      have hel := lst_el hx
      have lc : spec_l06List p0 p1 = some 0 := by rw [l06List_eq p0 p1 ht (by omega), if_pos hq, if_pos hx]
      have ic : impl_listCode p0 p1 = some 0 := by rw [listCode_eq p0 p1 ht (by omega), if_pos hq, if_pos hx]
      obtain ⟨v, hv, vin, vx⟩ := setOf_ok (q := p0) (xs := p1) hel hn (by omega)
      have hge : (Ge p0.Order fun x => hasb v x = true) = Ge p0.Order fun x => x ∈ p1 := by
        funext a b
        apply propext
        exact ⟨fun ⟨e, hb, l⟩ => ⟨e, hb, (vx b hb.1).1 l⟩, fun ⟨e, hb, l⟩ => ⟨e, hb, (vx b hb.1).2 l⟩⟩
      obtain ⟨b1, e1, n1⟩ := normal_spec h.toSq hx
      obtain ⟨b2, e2, n2⟩ := isNormal_ok h vin
      rw [hge] at n2
      have n2' : b2 = true ↔ NormalL p0 p1 := by
        rw [n2]
        exact ⟨fun hh x hx => by rw [← vx x hx.1]; exact hh x hx, fun hh x hx => by rw [vx x hx.1]; exact hh x hx⟩
      by_cases hN : NormalL p0 p1
      · have t1 := n1.2 hN
        have t2 := n2'.2 hN
        subst t1 t2
        obtain ⟨r1, f1, P1, Q1⟩ := quotient_spec h.toSq hel (by omega)
        obtain ⟨r2, f2, P2, Q2⟩ := quotient_impl h.toSq (Cx.eqv h.toSq p1) vin fun x z hx hz => by
          rw [vx _ (h.ldv hx hz).1.1, hN _ (h.ldv hx hz).1]
          refine Iff.trans ?_ (Cg.iff_co h hx).symm
          constructor
          · intro c
            exact ⟨_, (h.ldv hx hz).1, c, (h.ldv hx hz).2⟩
          · rintro ⟨t, ht', st, e⟩
            rw [← e, h.ldv_eq hx ht']; exact st
        have eP := P1.uniq (Cx.eqv h.toSq p1) P2
        have eQ : r1 = r2 := Prod.ext (by rw [Q1, Q2, eP]) eP
        refine law_of p0 p1 (r1.1, r1.2, 0) (by have := P1.len; simp only; omega) (fun _ => ?_) (fun _ => ?_)
        · unfold spec_QuotientLoop
          simp only [lc, e1, f1, Option.bind_some, if_true]; rfl
        · unfold impl_QuotientLoop
          simp only [ic, hv, e2, f2, Option.bind_some, if_true]
          rw [eQ]; rfl
      · have t1 : b1 = false := by rw [Bool.eq_false_iff]; exact fun e => hN (n1.1 e)
        have t2 : b2 = false := by rw [Bool.eq_false_iff]; exact fun e => hN (n2'.1 e)
        subst t1 t2
        refine law_of p0 p1 (z_S_Square, [], 5) (by simp) (fun _ => ?_) (fun _ => ?_)
        · unfold spec_QuotientLoop
          simp only [lc, e1, Option.bind_some]; rfl
        · unfold impl_QuotientLoop
          simp only [ic, hv, e2, Option.bind_some]; rfl
    · refine law_of p0 p1 (z_S_Square, [], 2) (by simp) (fun hl => ?_) (fun hl => ?_)
      · unfold spec_QuotientLoop
        rw [l06List_eq p0 p1 ht (by omega), if_pos hq, if_neg hx]; rfl
      · unfold impl_QuotientLoop
        rw [listCode_eq p0 p1 ht (by omega), if_pos hq, if_neg hx]; rfl
  · refine law_of p0 p1 (z_S_Square, [], 1) (by simp) (fun hl => ?_) (fun hl => ?_)
    · unfold spec_QuotientLoop
      rw [l06List_eq p0 p1 ht (by omega), if_neg hq]; rfl
    · unfold impl_QuotientLoop
      rw [listCode_eq p0 p1 ht (by omega), if_neg hq]; rfl
end Go.Mi
