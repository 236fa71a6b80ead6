/- The row, out of the walk and the plain law: FnExactAllNormal returns true for all arguments and leaves them as they were. No condition. -/
import Derived.Test.YtekmmbgbhjeoaaaRows
import Derived.Test.YtekmmbgbhjeoaaaZW3
import Derived.Test.YtekmmbgbhjeoaaaZC
set_option linter.unusedVariables false
set_option linter.unusedSimpArgs false
namespace Go.Proofs.Ytekmmbgbhjeoaaa
open Go.ChangeShapes Go.WideShapes Go.ChangeAt Go.RowKit Go.Sx Go.Mi

theorem own : ownKnob Try.prog.godebug = none := by kernel_rfl
theorem laidOut : laidOutB Try.prog = true := by kernel_rfl
theorem und25 : Try.prog.underlying 25 = some (.struct (Try.prog.fieldsOf 25)) := by kernel_rfl
theorem fs25 : Try.prog.fieldsOf 25 = #[(Try.prog.fieldsOf 25)[0]!, (Try.prog.fieldsOf 25)[1]!] := by kernel_rfl
theorem opens_row : Opens Try.prog 22 ((Enc.int .u8).arr 10) (fun v => ∀ i : Int, 0 ≤ i → i < 10 → inKind .u8 (gv v i)) := Opens.arr (Opens.int (show Try.prog.underlying 5 = _ by kernel_rfl)) (show Try.prog.underlying 22 = some (.array 10 5) by kernel_rfl) (by kernel_rfl) (by kernel_rfl)
theorem opens_table : Opens Try.prog 23 (((Enc.int .u8).arr 10).arr 10) (fun v => ∀ i : Int, 0 ≤ i → i < 10 → ∀ j : Int, 0 ≤ j → j < 10 → inKind .u8 (gv (gv v i) j)) := Opens.arr opens_row (show Try.prog.underlying 23 = some (.array 10 22) by kernel_rfl) (by kernel_rfl) (by kernel_rfl)
set_option maxRecDepth 100000 in
theorem opens_square : Opens Try.prog 25 e_S_Square (fun x => ∃ a b, x = (⟨a, b⟩ : S_Square) ∧ inKind .i64 a ∧ ∀ i : Int, 0 ≤ i → i < 10 → ∀ j : Int, 0 ≤ j → j < 10 → inKind .u8 (gv (gv b i) j)) :=
  Opens.struct2 (f := (Try.prog.fieldsOf 25)[0]!) (g := (Try.prog.fieldsOf 25)[1]!) (fun a b => (⟨a, b⟩ : S_Square)) (by rw [← fs25]; exact und25) (Opens.int (show Try.prog.underlying ((Try.prog.fieldsOf 25)[0]!).type = _ by kernel_rfl)) (show Opens Try.prog ((Try.prog.fieldsOf 25)[1]!).type _ _ from opens_table)
    (by kernel_rfl) (by kernel_rfl) (by kernel_rfl) (by kernel_rfl) (by kernel_rfl) (fun _ _ => rfl)

set_option maxRecDepth 100000 in
theorem lifted (os : Os) (started : os.Started) (H : Type) (enc : TypeId × Value → H) :
    ReturnsInHanded {} Try.checked os 3 .any (Rows.fnExactAllNormalSpec.pre6 enc Try.prog Try.f3 Rows.fnExactAllNormalRow.domain false)
      (Rows.fnExactAllNormalSpec.post enc Try.prog Try.f3 false true false false) := by
  refine returnsInHanded_of_change (C := Try.checked) own started (by kernel_rfl) Try.func3
    (ChangeSpec.witness6 (enc := enc) (C := Try.checked) false ⟨#[], #[.agg (e_S_Square.cells z_S_Square).toArray], []⟩ 8 (by kernel_rfl) (by kernel_rfl) (by kernel_rfl) (by kernel_rfl)) ?_
  intro W base args ds gs before hval0 hW _ _
  have hval : ∀ (j : Nat) t v, Try.f3.params[j]? = some t → args[j]? = some v → Value.okWide Try.prog W .any base t v := hval0
  have hW' := hW
  obtain ⟨p, q, hA0, hV, hpq, hfz, hnd⟩ := hW
  have hA : DataW.TrodAll enc Try.prog W 0 (fun _ => true) true Try.f3.params.toList args.toList ds p := hA0
  rw [Try.params3] at hA hval
  obtain ⟨v0, d0, rfl, rfl, h0⟩ := trodAll_one hA
  obtain ⟨rfl, rfl⟩ := trodVars_none hV
  obtain ⟨cs, rfl, _⟩ := okWide_struct und25 (hval 0 25 v0 rfl rfl)
  obtain ⟨fuel0, h0'⟩ := h0
  obtain ⟨sq, hsq, a, b, rfl, ha, hb⟩ := opens_square enc W 0 _ true fuel0 _ _ h0'
  have ecs : cs = (e_S_Square.cells ⟨a, b⟩).toArray := by
    apply Array.toList_inj.1
    simpa [Value.cells] using hsq
  have hcore := core ⟨a, b⟩ hb
  have hcall := laws_FnExactAllNormal_tr ⟨a, b⟩ hcore W (ok.nil W)
  rw [ecs]
  rw [ecs] at hW'
  refine hcall.mono fun e W' he => ?_
  obtain ⟨v, rfl, Hs, ⟨_, rfl, _⟩, hk⟩ := he
  refine ⟨_, rfl, ?_⟩
  exact post_true laidOut (by rw [Try.params3]; intro t ht; have : t = 25 := by simpa using ht
                              subst this
                              exact ⟨by kernel_rfl, of_decide_eq_true (by kernel_rfl)⟩) (t := 4) (by kernel_rfl) (by kernel_rfl) rfl rfl hW' hk

theorem row_holds : Rows.FnExactAllNormalSaid :=
  OpenClaim.holds_of_wide 3 Try.f3 rfl rfl rfl rfl rfl rfl rfl ⟨rfl, rfl, rfl, rfl, rfl⟩ rfl rfl rfl rfl rfl (by kernel_rfl) Try.func3 (by kernel_rfl)
    (of_decide_eq_true (by kernel_rfl)) (by unfold Func.isWrapper; first | (rw [if_pos (by decide +kernel)]; kernel_rfl) | (rw [if_neg (by decide +kernel)]; exact ⟨rfl, rfl⟩))
    (fun os started H enc _ => lifted os started H enc)
#print axioms row_holds
end Go.Proofs.Ytekmmbgbhjeoaaa
