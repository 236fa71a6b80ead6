/- The card, out of the row and the given tie. -/
import Derived.Test.YtppjhbjcemnfmaaDoorYR
import Derived.Test.YtppjhbjcemnfmaaDoorTie
import Derived.Test.YtppjhbjcemnfmaaDoorCards
import Derived.SevenTiedAt
set_option linter.unusedVariables false
set_option linter.unusedSimpArgs false
namespace Go.Proofs.YtppjhbjcemnfmaaDoor
open Go
set_option maxRecDepth 100000 in
theorem card_holds : Rows.FnExactQuotientLoopCardSaid :=
  Claim7.holds_tied_plain_at .later [] [.data, .data] true (true, "fd085c0933efc780dde255b3e5e4519127f763fca1b477e17de057c0fafa2d20") false
    row_holds (fun _ h => by cases h) (by kernel_rfl) (fun _ h => by cases h) fnExactQuotientLoop_row_tie rfl ⟨rfl, rfl⟩ (by kernel_rfl) rfl
    (fun f fn hf hfn => by
      obtain rfl : f = 3 := Option.some.inj ((show Tryd.prog.funcNamed "loop.example/g01195/laws.FnExactQuotientLoop" = some 3 by kernel_rfl).symm.trans hf) |>.symm
      obtain rfl : fn = Tryd.f3 := (Option.some.inj (Tryd.func3.symm.trans hfn)).symm
      exact ⟨by kernel_rfl, fun j t ht => by
        rw [Tryd.params3] at ht
        have hm : t ∈ [25, 26] := by simpa using Array.mem_of_getElem? ht
        have hall : ([25, 26].all fun u => !Tryd.prog.wantsStandIn u) = true := by kernel_rfl
        exact (show Tryd.prog.wantsStandIn t = false by simpa using List.all_eq_true.1 hall t hm)⟩)
    (by kernel_rfl)
#print axioms card_holds
end Go.Proofs.YtppjhbjcemnfmaaDoor
