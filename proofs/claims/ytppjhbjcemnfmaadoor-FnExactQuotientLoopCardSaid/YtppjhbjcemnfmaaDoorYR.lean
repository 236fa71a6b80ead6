/- The row, out of the walk and the plain law. -/
import Derived.Test.YtppjhbjcemnfmaaDoorRows
import Derived.Test.YtppjhbjcemnfmaaDoorYW2
import Derived.Test.YtppjhbjcemnfmaaDoorYC
set_option linter.unusedVariables false
set_option linter.unusedSimpArgs false
namespace Go.Proofs.YtppjhbjcemnfmaaDoor
open Go.ChangeShapes Go.WideShapes Go.ChangeAt Go.RowKit Go.Sx Go.Mi

theorem own : ownKnob Tryd.prog.godebug = none := by kernel_rfl
theorem laidOut : laidOutB Tryd.prog = true := by kernel_rfl
theorem gTab0 : Tryd.prog.globalNamed "math/bits.deBruijn32tab" = some 0 := by kernel_rfl
theorem gTab1 : Tryd.prog.globalNamed "math/bits.deBruijn64tab" = some 1 := by kernel_rfl
theorem tTab1 : (Tryd.prog.globals[1]?).map (·.type) = some 102 := by kernel_rfl
def laid2 : List (String × DataW Unit) := [("math/bits.deBruijn32tab", Rows.laid_math_bits_deBruijn32tab), ("math/bits.deBruijn64tab", Rows.laid_math_bits_deBruijn64tab)]
theorem lits_tab {H : Type} {enc : TypeId × Value → H} {P : Program} {w : World} {base : Nat} {sp : Nat → Bool} {held : Bool} {fuel : Nat} {t el n : TypeId} {k : IntKind} {cs : List Value} {ns : List Int} {p : List MemPlace}
    (ht : P.underlying t = some (.array n el)) (he : P.underlying el = some (.int k)) (hc : P.cellsOf el = 1) (hc2 : P.cellsOf t = n) (h : DataW.trod enc P w base sp held fuel t cs = some (.agg (ns.map fun m => .lit (.int k m)), p)) : cs = ns.map fun m => .int k m := by
  obtain ⟨xs, m, _, hx, hl, hn, hel⟩ := DataW.trod_array ht h
  simp only [Prod.mk.injEq, DataW.agg.injEq] at hx
  have hlen : ns.length = n := by
    have := congrArg List.length hx.1
    simpa [hn] using this
  apply List.ext_getElem
  · rw [hl, hc2, List.length_map, hlen]
  · intro i h1 h2
    have hi : i < n := by rw [hl, hc2] at h1; exact h1
    have h3 := hel i hi
    rw [hc, Nat.mul_one, List.getElem?_eq_getElem (by omega)] at h3
    obtain ⟨q, e1, e2, _⟩ := DataW.trod_int he h3
    have e3 : (cs.drop i).take 1 = [cs[i]] := by rw [List.drop_eq_getElem_cons h1, List.take_succ_cons, List.take_zero]
    rw [e3] at e1
    simp only [List.cons.injEq, and_true] at e1
    have e4 : (xs.map (·.1))[i]'(by simp; omega) = (ns.map fun m => (DataW.lit (.int k m) : DataW H))[i]'(by simp; omega) := by simp only [hx.1]
    simp only [List.getElem_map] at e4
    rw [e2] at e4
    simp only [DataW.lit.injEq, Lit.int.injEq, true_and] at e4
    rw [e1, e4]; simp
theorem of_laid {W : World} (h : laidMetH Tryd.prog laid2 W) : Gl W 1 (((Enc.int .u8).arr 64).cells tab_1) := by
  rw [MakeChecks.laidMetH_plain _ _ _ (by kernel_rfl)] at h
  obtain ⟨ps, ⟨g0, t0, cs0, f0, p0, q0, hg0, ht0, hv0, hd0, ⟨g1, t1, cs1, f1, p1, q1, hg1, ht1, hv1, hd1, _, _⟩, _⟩, _, _⟩ := h
  obtain rfl := Option.some.inj (gTab1.symm.trans hg1)
  obtain rfl := Option.some.inj (tTab1.symm.trans ht1)
  have hd := lits_tab (ns := tab_1.toList) (k := .u8) (n := 64) (el := 5) un102 (by kernel_rfl) (by kernel_rfl) (by kernel_rfl) (show DataW.trod _ Tryd.prog W 0 _ false f1 102 _ = some (.agg (tab_1.toList.map fun m => .lit (.int .u8 m)), p1) from hd1)
  have e : cs1.toList = ((Enc.int .u8).arr 64).cells tab_1 := by rw [hd]; kernel_rfl
  intro j hj
  rw [World.var?_cell hg1 hv1 j, ← Array.getElem?_toList, e]
  exact List.getElem?_eq_getElem hj
theorem un25 : Tryd.prog.underlying 25 = some (.struct (Tryd.prog.fieldsOf 25)) := by kernel_rfl
theorem fs25 : Tryd.prog.fieldsOf 25 = #[(Tryd.prog.fieldsOf 25)[0]!, (Tryd.prog.fieldsOf 25)[1]!] := by kernel_rfl
theorem opens_row : Opens Tryd.prog 22 ((Enc.int .u8).arr 10) (fun v => ∀ i : Int, 0 ≤ i → i < 10 → inKind .u8 (gv v i)) := Opens.arr (Opens.int (show Tryd.prog.underlying 5 = _ by kernel_rfl)) un22 (by kernel_rfl) (by kernel_rfl)
theorem opens_table : Opens Tryd.prog 23 (((Enc.int .u8).arr 10).arr 10) (fun v => ∀ i : Int, 0 ≤ i → i < 10 → ∀ j : Int, 0 ≤ j → j < 10 → inKind .u8 (gv (gv v i) j)) := Opens.arr opens_row (show Tryd.prog.underlying 23 = some (.array 10 22) by kernel_rfl) (by kernel_rfl) (by kernel_rfl)
set_option maxRecDepth 100000 in
theorem opens_square : Opens Tryd.prog 25 e_S_Square (fun x => ∃ a b, x = (⟨a, b⟩ : S_Square) ∧ inKind .i64 a ∧ ∀ i : Int, 0 ≤ i → i < 10 → ∀ j : Int, 0 ≤ j → j < 10 → inKind .u8 (gv (gv b i) j)) :=
  Opens.struct2 (f := (Tryd.prog.fieldsOf 25)[0]!) (g := (Tryd.prog.fieldsOf 25)[1]!) (fun a b => (⟨a, b⟩ : S_Square)) (by rw [← fs25]; exact un25) (Opens.int (show Tryd.prog.underlying ((Tryd.prog.fieldsOf 25)[0]!).type = _ by kernel_rfl)) (show Opens Tryd.prog ((Tryd.prog.fieldsOf 25)[1]!).type _ _ from opens_table)
    (by kernel_rfl) (by kernel_rfl) (by kernel_rfl) (by kernel_rfl) (by kernel_rfl) (fun _ _ => rfl)

set_option maxRecDepth 100000 in
theorem door_met (os : Os) (args : Array Value) : laidMetH Tryd.prog laid2 ((World.doorLaid Tryd.prog 2000 os).forCall (fun _ _ => 0) ⟨#[], args, []⟩).memory :=
  laidMetH_of_parts3 (fuel := 8) (laidMet_of_run' 8 (by kernel_rfl) (by kernel_rfl)) (by kernel_rfl) (by kernel_rfl)

set_option maxRecDepth 100000 in
theorem lifted (os : Os) (started : os.Started) (H : Type) (enc : TypeId × Value → H) :
    ReturnsInHanded {} Tryd.checked os 3 .any (fun w args => (Rows.fnExactQuotientLoopSpec.pre enc Tryd.prog Tryd.f3 [] false w args ∧ laidMetH Tryd.prog laid2 w) ∧ sizedMet enc Tryd.prog Tryd.f3 (OpenSpec.ofChange Rows.fnExactQuotientLoopSpec) false w args)
      (Rows.fnExactQuotientLoopSpec.post enc Tryd.prog Tryd.f3 false true false false) := by
  refine returnsInHanded_of_change_and (C := Tryd.checked) (X := fun w _ => laidMetH Tryd.prog laid2 w) (fun _ _ _ hh h => h.of_heap hh) own started (by kernel_rfl) Tryd.func3
    (ChangeSpec.witness_shaped (enc := enc) (C := Tryd.checked) (os := os) (X := fun w _ => laidMetH Tryd.prog laid2 w) false (World.doorLaid Tryd.prog 2000 os) #[.agg (e_S_Square.cells z_S_Square).toArray, .slice none 0 0] 8 rfl (World.shaped_of_RefB (by kernel_rfl) (by kernel_rfl)) (by kernel_rfl) (by kernel_rfl) (by kernel_rfl) (door_met os _)) ?_
  intro W base args ds gs before hval0 hW _ _ hL _
  have hval : ∀ (j : Nat) t v, Tryd.f3.params[j]? = some t → args[j]? = some v → Value.okWide Tryd.prog W .any base t v := hval0
  have hW' := hW
  obtain ⟨p, q, hA0, hV, hpq, hfz, hnd⟩ := hW
  have hA : DataW.TrodAll enc Tryd.prog W 0 (fun _ => true) true Tryd.f3.params.toList args.toList ds p := hA0
  rw [Tryd.params3] at hA hval
  obtain ⟨v0, v1, d0, d1, p0, p1, rfl, rfl, rfl, h0, h1⟩ := trodAll_two hA
  obtain ⟨rfl, rfl⟩ := trodVars_none hV
  have hTab := of_laid hL
  obtain ⟨cs, rfl, _⟩ := okWide_struct un25 (hval 0 25 v0 rfl rfl)
  obtain ⟨fuel0, h0'⟩ := h0
  obtain ⟨sq, hsq, a, b, rfl, ha, hb⟩ := opens_square enc W 0 _ true fuel0 _ _ h0'
  have ecs : cs = (e_S_Square.cells ⟨a, b⟩).toArray := by
    apply Array.toList_inj.1
    simpa [Value.cells] using hsq
  obtain ⟨xs, hxs, hxr, _⟩ := open_slT (Opens.int (show Tryd.prog.underlying 2 = _ by kernel_rfl)) (show Tryd.prog.underlying 26 = some (.slice 2) by kernel_rfl) (by kernel_rfl) (hval 1 26 v1 rfl rfl) h1
  have hcore := core ⟨a, b⟩ xs ⟨ha, hb⟩ hxr
  have hcall := laws_FnExactQuotientLoop_tr hTab ⟨a, b⟩ v1 xs hxs hcore W (ok.nil W)
  rw [ecs]
  rw [ecs] at hW'
  refine hcall.mono fun e W' he => ?_
  obtain ⟨v, rfl, Hs, ⟨_, rfl, _⟩, hk⟩ := he
  refine ⟨_, rfl, ?_⟩
  exact post_true laidOut (by rw [Tryd.params3]; intro t ht; have : t = 25 ∨ t = 26 := by simpa using ht
                              rcases this with rfl | rfl
                              · exact ⟨by kernel_rfl, of_decide_eq_true (by kernel_rfl)⟩
                              · exact ⟨by kernel_rfl, of_decide_eq_true (by kernel_rfl)⟩) (t := 4) (by kernel_rfl) (by kernel_rfl) rfl rfl hW' hk

theorem row_holds : Rows.FnExactQuotientLoopSaid :=
  OpenClaim.holds_of_wide 3 Tryd.f3 rfl rfl rfl rfl rfl rfl rfl ⟨rfl, rfl, rfl, rfl, rfl⟩ rfl rfl rfl rfl rfl (by kernel_rfl) Tryd.func3 (by kernel_rfl)
    (of_decide_eq_true (by kernel_rfl)) (by unfold Func.isWrapper; first | (rw [if_pos (by decide +kernel)]; kernel_rfl) | (rw [if_neg (by decide +kernel)]; exact ⟨rfl, rfl⟩))
    (fun os started H enc _ => lifted os started H enc)
#print axioms row_holds
end Go.Proofs.YtppjhbjcemnfmaaDoor
