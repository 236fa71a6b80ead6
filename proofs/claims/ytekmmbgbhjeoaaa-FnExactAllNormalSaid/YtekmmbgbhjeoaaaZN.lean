/- Sets as lists, cosets and their order: the program. No condition. -/
import Derived.Test.YtekmmbgbhjeoaaaZJ
set_option linter.unusedSimpArgs false
set_option linter.unusedVariables false
namespace Go.Mi
open Go Go.Sx Go.Pl Go.Lq
variable {q : S_Square}

theorem list_ok {v : Int} (hv : Rg v) : Ok (impl_set_list v) (· = (elts 10).filter (hasb v)) := by
  unfold impl_set_list
  refine .call (Ok.up (step := impl_set_list_L1 v) (fun w i => (w, i)) (fun w i => w = (elts i.toNat).filter (hasb v)) 0 10 (by omega) (Q := (· = (elts 10).filter (hasb v))) (fun w i i0 i1 hI => ?_) (fun w hI => ?_) rfl) (fun a ha => .ret ha)
  · unfold impl_set_list_L1
    simp only [w8 (x := i) (by omega) (by omega)]
    have hlen := List.length_filter_le (hasb v) (elts i.toNat)
    rw [elts_len, ← hI] at hlen
    refine .yes (by omega) (.bind (.calls (has_ok hv (by omega)) (.mono (Q := fun w => w = (elts (i + 1).toNat).filter (hasb v)) (.ite (fun e => .yes (by simp; omega) (.ret ?_)) (fun e => .ret ?_)) fun w' hw' => .ret (.inl ⟨w', by rw [w64 (by omega) (by omega)], hw'⟩))))
    · rw [elts_snoc i0, List.filter_append, List.filter_cons_of_pos e, ← hI]; simp
    · rw [elts_snoc i0, List.filter_append, List.filter_cons_of_neg e, ← hI]; simp
  · unfold impl_set_list_L1
    exact .no (by simp) (.ret ⟨_, rfl, hI⟩)
/-! ## the order of sets by their least elements -/
end Go.Mi
