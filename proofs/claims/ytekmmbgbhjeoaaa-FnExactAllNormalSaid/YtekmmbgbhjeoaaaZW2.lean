/- Printed by a program of the claim's own: the walks: what the machine's calls answer is what the plain functions answer. No condition. -/
import Derived.Test.YtekmmbgbhjeoaaaZW1
set_option linter.unusedVariables false
set_option linter.unusedSimpArgs false
namespace Go.Proofs.Ytekmmbgbhjeoaaa
open Go Go.Sx Go.Mi
set_option maxRecDepth 100000 in
theorem slices_partialInsertionSortCmpFunc_impl_set_tr {G : World} {F : List Res} (q0 : Value) (p0 : (List Int)) (p1 : Int) (p2 : Int) (g3 : FuncId) (fs3 cs3 : List Value) (f3 : Int → Int → Option Int) (en_3 : Enters Try.prog g3) (hf3 : ∀ (L : List Res) (a0 : Int) (a1 : Int) (r : Int), f3 a0 a1 = some r → Tr Try.prog G g3 (fs3 ++ [(.int .i64 a0), (.int .i64 a1)] ++ cs3) (L ++ F) (fun u K => ∃ x : Unit, u = (.int .i64 r) ∧ K = L ++ F)) {r : (Bool × (List Int))} (hm : slices_partialInsertionSortCmpFunc_impl_set p0 p1 p2 f3 = some r) : Tr Try.prog G 62 [q0, (.int .i64 p1), (.int .i64 p2), (.func (.func g3) fs3.toArray cs3.toArray)] ((slT (Enc.int .i64) q0 p0) :: F) (fun u K => ∃ x : Unit, u = (.bool r.1) ∧ K = ((slT (Enc.int .i64) q0 r.2) :: F)) := by
  unfold slices_partialInsertionSortCmpFunc_impl_set at hm
  refine Tr.body Try.func62 rfl Try.ntmps62 ?_
  refine W.seq ?_
  refine W.region ?_
  refine WL.q (R.assign rfl) rfl ?_
  refine WL.nil ?_
  refine Go.then_ ?_
  refine W.seq ?_
  refine W.region ?_
  refine WL.q (R.move rfl) rfl ?_
  refine WL.q (R.add rfl rfl) rfl ?_
  refine WL.q (R.assign rfl) rfl ?_
  refine WL.nil ?_
  refine Go.then_ ?_
  refine W.seq ?_
  refine W.seq ?_
  refine W.region ?_
  refine WL.q (R.assign rfl) rfl ?_
  refine WL.nil ?_
  refine Go.then_ ?_
  refine W.block ?_
  obtain ⟨o2, hlo2, hm⟩ := of_bind hm
  refine W.loopx (fun (s1 : ((List Int) × Int × Int)) a w => Sat G ((slT (Enc.int .i64) q0 s1.1) :: F) 141 [(0, q0), (1, (.int .i64 p1)), (2, (.int .i64 p2)), (3, (.func (.func g3) fs3.toArray cs3.toArray)), (8, (.bool false)), (9, (.int .i64 s1.2.1)), (10, (.int .i64 s1.2.2))] a w) (fun (o2 : (((List Int)) ⊕ (((List Int) × Bool)))) e a w => (Sum.elim (fun o2 => And (e = (.exit 0)) (Sat G ((slT (Enc.int .i64) q0 o2) :: F) 141 [(8, (.bool false))] a w)) (fun o2 => And (e = .ret) (Sat G ((slT (Enc.int .i64) q0 o2.1) :: F) 141 [(8, (.bool o2.2))] a w))) o2) hlo2 (fun a w s => (Sat.mk (s.env.le ⟨rfl, rfl, rfl, rfl, rfl, rfl, rfl, trivial⟩) (s.mem))) ?_ ?_
  · clear hm
    intro s1 x hm a w hJ
    have s := hJ
    unfold slices_partialInsertionSortCmpFunc_impl_set_L1 at hm
    refine W.use s ?_
    refine W.seq ?_
    refine W.seq ?_
    refine W.region ?_
    refine WL.q (R.move rfl) rfl ?_
    refine WL.q (R.lss rfl rfl) rfl ?_
    refine WL.nil ?_
    refine Go.then_ ?_
    by_cases h179 : s1.2.2 < 5
    · rw [if_pos h179] at hm
      refine W.cond_t rfl (decide_eq_true h179) ?_
      refine W.skip ?_
      refine Go.then_ ?_
      obtain ⟨o266, hm, hmo266⟩ := of_bind hm
      refine W.seq ?_
      refine W.join (fun e a w => (Sum.elim (fun o266 => And (e = .normal) (Sat G ((slT (Enc.int .i64) q0 o266.1) :: F) 141 [(0, q0), (1, (.int .i64 p1)), (2, (.int .i64 p2)), (3, (.func (.func g3) fs3.toArray cs3.toArray)), (8, (.bool false)), (9, (.int .i64 o266.2)), (10, (.int .i64 s1.2.2))] a w)) (fun o266 => And (e = .ret) (Sat G ((slT (Enc.int .i64) q0 s1.1) :: F) 141 [(8, (.bool o266))] a w))) o266) ?_ ?_
      · refine W.block ?_
        refine W.seq ?_
        refine W.block ?_
        obtain ⟨o181, hlo181, hm⟩ := of_bind hm
        refine W.loopx (fun (s180 : Int) a w => Sat G ((slT (Enc.int .i64) q0 s1.1) :: F) 141 [(0, q0), (1, (.int .i64 p1)), (2, (.int .i64 p2)), (3, (.func (.func g3) fs3.toArray cs3.toArray)), (8, (.bool false)), (9, (.int .i64 s180)), (10, (.int .i64 s1.2.2))] a w) (fun (o181 : Int) e a w => And (e = (.exit 2)) (Sat G ((slT (Enc.int .i64) q0 s1.1) :: F) 141 [(0, q0), (1, (.int .i64 p1)), (2, (.int .i64 p2)), (3, (.func (.func g3) fs3.toArray cs3.toArray)), (8, (.bool false)), (9, (.int .i64 o181)), (10, (.int .i64 s1.2.2))] a w)) hlo181 (fun a w s => (Sat.mk (s.env.le ⟨rfl, rfl, rfl, rfl, rfl, rfl, rfl, trivial⟩) (s.mem))) ?_ ?_
        · clear hm
          intro s180 x hm a w hJ
          have s := hJ
          unfold slices_partialInsertionSortCmpFunc_impl_set_L2 at hm
          refine W.use s ?_
          refine W.seq ?_
          obtain ⟨o204, hm, hmo204⟩ := of_bind hm
          refine W.seq ?_
          refine W.join (fun e a w => And (e = .normal) (Sat G ((slT (Enc.int .i64) q0 s1.1) :: F) 141 [(0, q0), (1, (.int .i64 p1)), (2, (.int .i64 p2)), (3, (.func (.func g3) fs3.toArray cs3.toArray)), (8, (.bool false)), (9, (.int .i64 s180)), (10, (.int .i64 s1.2.2)), (36, (.bool o204))] a w)) ?_ ?_
          · by_cases h198 : s180 < p2
            · rw [if_pos h198] at hm
              obtain ⟨h199, hm⟩ := of_guard hm
              obtain ⟨h200, hm⟩ := of_guard hm
              obtain ⟨o201, h202, hm⟩ := of_bind hm
              refine W.join1 (fun a w => ∃ x203 : Unit, Sat G ((slT (Enc.int .i64) q0 s1.1) :: F) 141 [(0, q0), (1, (.int .i64 p1)), (2, (.int .i64 p2)), (3, (.func (.func g3) fs3.toArray cs3.toArray)), (8, (.bool false)), (9, (.int .i64 s180)), (10, (.int .i64 s1.2.2)), (23, (.func (.func g3) fs3.toArray cs3.toArray)), (24, q0), (25, (.int .i64 s180)), (27, (.int .i64 (gl s1.1 s180))), (28, q0), (29, (.int .i64 s180)), (30, (.int .i64 (IntKind.i64.wrap (s180 - 1)))), (32, (.int .i64 (gl s1.1 (IntKind.i64.wrap (s180 - 1))))), (33, (.int .i64 o201)), (34, (.bool (decide (o201 < 0)))), (35, (.bool (!(decide (o201 < 0))))), (36, (.bool (!(decide (o201 < 0)))))] a w) ?_ ?_
              · refine W.draw (n := 18) ((slT (Enc.int .i64) q0 s1.1) :: F) F 18 (by kernel_rfl) rfl rfl (fun w hw => hw) (fun w hw => hw.drop 1) ?_
                refine WK.q (i := 0) rfl rfl (by kernel_rfl) calm_n (R.move rfl) rfl rfl ?_
                refine WK.x (i := 1) (by kernel_rfl) rfl (OpV.x (R.move rfl)) (fun _ w hw => hw) (fun _ _ _ w hw => hw.reord [] 1 rfl) rfl rfl (by kernel_rfl) fun _ => ?_
                refine WK.x (i := 2) (by kernel_rfl) rfl (OpV.x (R.lss rfl rfl)) (fun _ w hw => hw) (fun _ _ _ w hw => hw.reord [] 1 rfl) rfl rfl (by kernel_rfl) fun _ => ?_
                refine WK.x (i := 3) (by kernel_rfl) rfl (OpV.x (R.move rfl)) (fun _ w hw => hw) (fun _ _ _ w hw => hw.reord [] 1 rfl) rfl rfl (by kernel_rfl) fun _ => ?_
                refine WK.qg (i := 4) rfl rfl rfl (decide_eq_true h198) (by kernel_rfl) calm_n (R.move rfl) rfl rfl ?_
                refine WK.qg (i := 5) rfl rfl rfl (decide_eq_true h198) (by kernel_rfl) calm_n (R.move rfl) rfl rfl ?_
                refine WK.qg (i := 6) rfl rfl rfl (decide_eq_true h198) (by kernel_rfl) calm_n (R.move rfl) rfl rfl ?_
                refine WK.qg (i := 7) rfl rfl rfl (decide_eq_true h198) (by kernel_rfl) calm_n (R.idxT rfl rfl el40 (RdT.at 0 rfl) h199) rfl rfl ?_
                refine WK.qg (i := 8) rfl rfl rfl (decide_eq_true h198) (by kernel_rfl) calm_n (R.load rfl (At.elT (RdT.at 0 rfl) (by decide) h199) (Lies.one _ ia50)) rfl rfl ?_
                refine WK.qg (i := 9) rfl rfl rfl (decide_eq_true h198) (by kernel_rfl) calm_n (R.move rfl) rfl rfl ?_
                refine WK.xg (i := 10) (by kernel_rfl) rfl rfl rfl (decide_eq_true h198) (OpV.x (R.move rfl)) (fun _ w hw => hw) (fun _ _ _ w hw => hw.reord [] 1 rfl) rfl rfl (by kernel_rfl) fun _ => ?_
                refine WK.xg (i := 11) (by kernel_rfl) rfl rfl rfl (decide_eq_true h198) (OpV.x (R.sub rfl rfl)) (fun _ w hw => hw) (fun _ _ _ w hw => hw.reord [] 1 rfl) rfl rfl (by kernel_rfl) fun _ => ?_
                refine WK.xg (i := 12) (by kernel_rfl) rfl rfl rfl (decide_eq_true h198) (OpV.x (R.idxT rfl rfl el40 (RdT.at 0 rfl) h200)) (fun _ w hw => hw) (fun _ _ _ w hw => hw.reord [] 1 rfl) rfl rfl (by kernel_rfl) fun _ => ?_
                refine WK.xg (i := 13) (by kernel_rfl) rfl rfl rfl (decide_eq_true h198) (OpV.x (R.load rfl (At.elT (RdT.at 0 rfl) (by decide) h200) (Lies.one _ ia50))) (fun _ w hw => hw) (fun _ _ _ w hw => hw.reord [] 1 rfl) rfl rfl (by kernel_rfl) fun _ => ?_
                refine WK.xg (i := 14) (by kernel_rfl) rfl rfl rfl (decide_eq_true h198) (R.callAny (fs := fs3) (cs := cs3) (vs := [(.int .i64 (gl s1.1 s180)), (.int .i64 (gl s1.1 (IntKind.i64.wrap (s180 - 1))))]) rfl rfl en_3 (hf3 [(slT (Enc.int .i64) q0 s1.1)] (gl s1.1 s180) (gl s1.1 (IntKind.i64.wrap (s180 - 1))) _ h202)) (fun _ w hw => hw) (fun _ _ _ w hw => hw.reord [] 1 rfl) rfl rfl (by kernel_rfl) fun x203 => ?_
                refine WK.xg (i := 15) (by kernel_rfl) rfl rfl rfl (decide_eq_true h198) (OpV.x (R.lss rfl rfl)) (fun _ w hw => hw) (fun _ _ _ w hw => hw.reord [] 1 rfl) rfl rfl (by kernel_rfl) fun _ => ?_
                refine WK.xg (i := 16) (by kernel_rfl) rfl rfl rfl (decide_eq_true h198) (OpV.x (R.not rfl)) (fun _ w hw => hw) (fun _ _ _ w hw => hw.reord [] 1 rfl) rfl rfl (by kernel_rfl) fun _ => ?_
                refine WK.x (i := 17) (by kernel_rfl) rfl (OpV.x (R.pick_t rfl (decide_eq_true h198) rfl)) (fun _ w hw => hw) (fun _ _ _ w hw => hw.reord [] 1 rfl) rfl rfl (by kernel_rfl) fun _ => ?_
                refine WK.nil (by kernel_rfl) ?_
                exact fun a w s => And.intro rfl (Exists.intro x203 (Sat.mk (s.env.le ⟨rfl, rfl, rfl, rfl, rfl, rfl, rfl, rfl, rfl, rfl, rfl, rfl, rfl, rfl, rfl, rfl, rfl, rfl, rfl, trivial⟩) (s.mem)))
              · refine Go2.ex fun x203 => ?_
                refine Go2.sat ?_
                have he := Option.some.inj hm
                clear hm
                subst o204
                exact fun a w s => And.intro rfl (Sat.mk (s.env.le ⟨rfl, rfl, rfl, rfl, rfl, rfl, rfl, rfl, trivial⟩) (s.mem))
            · rw [if_neg h198] at hm
              refine W.join1 (fun a w => Sat G ((slT (Enc.int .i64) q0 s1.1) :: F) 141 [(0, q0), (1, (.int .i64 p1)), (2, (.int .i64 p2)), (3, (.func (.func g3) fs3.toArray cs3.toArray)), (8, (.bool false)), (9, (.int .i64 s180)), (10, (.int .i64 s1.2.2)), (36, (.bool false))] a w) ?_ ?_
              · refine W.draw (n := 18) ((slT (Enc.int .i64) q0 s1.1) :: F) F 18 (by kernel_rfl) rfl rfl (fun w hw => hw) (fun w hw => hw.drop 1) ?_
                refine WK.q (i := 0) rfl rfl (by kernel_rfl) calm_n (R.move rfl) rfl rfl ?_
                refine WK.x (i := 1) (by kernel_rfl) rfl (OpV.x (R.move rfl)) (fun _ w hw => hw) (fun _ _ _ w hw => hw.reord [] 1 rfl) rfl rfl (by kernel_rfl) fun _ => ?_
                refine WK.x (i := 2) (by kernel_rfl) rfl (OpV.x (R.lss rfl rfl)) (fun _ w hw => hw) (fun _ _ _ w hw => hw.reord [] 1 rfl) rfl rfl (by kernel_rfl) fun _ => ?_
                refine WK.x (i := 3) (by kernel_rfl) rfl (OpV.x (R.move rfl)) (fun _ w hw => hw) (fun _ _ _ w hw => hw.reord [] 1 rfl) rfl rfl (by kernel_rfl) fun _ => ?_
                refine WK.qoff (i := 4) rfl rfl rfl (decide_eq_false h198) (by kernel_rfl) calm_n rfl rfl ?_
                refine WK.qoff (i := 5) rfl rfl rfl (decide_eq_false h198) (by kernel_rfl) calm_n rfl rfl ?_
                refine WK.qoff (i := 6) rfl rfl rfl (decide_eq_false h198) (by kernel_rfl) calm_n rfl rfl ?_
                refine WK.qoff (i := 7) rfl rfl rfl (decide_eq_false h198) (by kernel_rfl) calm_n rfl rfl ?_
                refine WK.qoff (i := 8) rfl rfl rfl (decide_eq_false h198) (by kernel_rfl) calm_n rfl rfl ?_
                refine WK.qoff (i := 9) rfl rfl rfl (decide_eq_false h198) (by kernel_rfl) calm_n rfl rfl ?_
                refine WK.qoff (i := 10) rfl rfl rfl (decide_eq_false h198) (by kernel_rfl) calm_n rfl rfl ?_
                refine WK.qoff (i := 11) rfl rfl rfl (decide_eq_false h198) (by kernel_rfl) calm_n rfl rfl ?_
                refine WK.qoff (i := 12) rfl rfl rfl (decide_eq_false h198) (by kernel_rfl) calm_n rfl rfl ?_
                refine WK.qoff (i := 13) rfl rfl rfl (decide_eq_false h198) (by kernel_rfl) calm_n rfl rfl ?_
                refine WK.qoff (i := 14) rfl rfl rfl (decide_eq_false h198) (by kernel_rfl) calm_n rfl rfl ?_
                refine WK.qoff (i := 15) rfl rfl rfl (decide_eq_false h198) (by kernel_rfl) calm_n rfl rfl ?_
                refine WK.qoff (i := 16) rfl rfl rfl (decide_eq_false h198) (by kernel_rfl) calm_n rfl rfl ?_
                refine WK.x (i := 17) (by kernel_rfl) rfl (OpV.x (R.pick_f rfl (decide_eq_false h198) rfl)) (fun _ w hw => hw) (fun _ _ _ w hw => hw.reord [] 1 rfl) rfl rfl (by kernel_rfl) fun _ => ?_
                refine WK.nil (by kernel_rfl) ?_
                exact fun a w s => And.intro rfl (Sat.mk (s.env.le ⟨rfl, rfl, rfl, rfl, rfl, rfl, rfl, rfl, trivial⟩) (s.mem))
              · refine Go2.sat ?_
                have he := Option.some.inj hm
                clear hm
                subst o204
                exact fun a w s => And.intro rfl (Sat.mk (s.env.le ⟨rfl, rfl, rfl, rfl, rfl, rfl, rfl, rfl, trivial⟩) (s.mem))
          · intro e a w hJ
            replace hm := hmo204
            clear hmo204
            obtain ⟨rfl, s⟩ := hJ
            refine Go.use s ?_
            refine Go.then_ ?_
            by_cases h205 : o204 = true
            · rw [if_pos h205] at hm
              refine W.cond_t rfl h205 ?_
              refine W.skip ?_
              refine Go.then_ ?_
              refine W.block ?_
              refine W.region ?_
              refine WL.q (R.move rfl) rfl ?_
              refine WL.q (R.add rfl rfl) rfl ?_
              refine WL.q (R.assign rfl) rfl ?_
              refine WL.nil ?_
              refine Go.n_block ?_
              have he := Option.some.inj hm
              clear hm
              subst x
              exact fun a w s => Exists.intro _ (And.intro rfl (Sat.mk (s.env.le ⟨rfl, rfl, rfl, rfl, rfl, rfl, rfl, trivial⟩) (s.mem)))
            · rw [if_neg h205] at hm
              refine W.cond_f rfl (b_f h205) ?_
              refine W.exit ?_
              refine Go.x_then ?_
              have he := Option.some.inj hm
              clear hm
              subst x
              exact fun a w s => Exists.intro _ (And.intro rfl (And.intro rfl (Sat.mk (s.env.le ⟨rfl, rfl, rfl, rfl, rfl, rfl, rfl, trivial⟩) (s.mem))))
        · intro e a w hJ
          obtain ⟨rfl, s⟩ := hJ
          refine Go.use s ?_
          refine Go.x_block ?_
          refine Go.then_ ?_
          refine W.seq ?_
          refine W.seq ?_
          refine W.region ?_
          refine WL.q (R.move rfl) rfl ?_
          refine WL.q (R.move rfl) rfl ?_
          refine WL.q (R.eql rfl rfl) rfl ?_
          refine WL.nil ?_
          refine Go.then_ ?_
          by_cases h206 : o181 = p2
          · rw [if_pos h206] at hm
            refine W.cond_t rfl (decide_eq_true h206) ?_
            refine W.seq ?_
            refine W.region ?_
            refine WL.q (R.assign rfl) rfl ?_
            refine WL.nil ?_
            refine Go.then_ ?_
            refine W.ret ?_
            refine Go.r_then ?_
            refine Go.r_block ?_
            have he := Option.some.inj hm
            clear hm
            subst o266
            exact fun a w s => And.intro rfl (Sat.mk (s.env.le ⟨rfl, trivial⟩) (s.mem))
          · rw [if_neg h206] at hm
            refine W.cond_f rfl (decide_eq_false h206) ?_
            refine W.skip ?_
            refine Go.then_ ?_
            refine W.seq ?_
            refine W.seq ?_
            refine W.region ?_
            refine WL.q (R.move rfl) rfl ?_
            refine WL.q (R.move rfl) rfl ?_
            refine WL.q (R.sub rfl rfl) rfl ?_
            refine WL.q (R.lss rfl rfl) rfl ?_
            refine WL.nil ?_
            refine Go.then_ ?_
            by_cases h207 : IntKind.i64.wrap (p2 - p1) < 50
            · rw [if_pos h207] at hm
              refine W.cond_t rfl (decide_eq_true h207) ?_
              refine W.seq ?_
              refine W.region ?_
              refine WL.q (R.assign rfl) rfl ?_
              refine WL.nil ?_
              refine Go.then_ ?_
              refine W.ret ?_
              refine Go.r_then ?_
              refine Go.r_block ?_
              have he := Option.some.inj hm
              clear hm
              subst o266
              exact fun a w s => And.intro rfl (Sat.mk (s.env.le ⟨rfl, trivial⟩) (s.mem))
            · rw [if_neg h207] at hm
              refine W.cond_f rfl (decide_eq_false h207) ?_
              refine W.skip ?_
              refine Go.then_ ?_
              refine W.seq ?_
              obtain ⟨h208, hm⟩ := of_guard hm
              obtain ⟨h209, hm⟩ := of_guard hm
              obtain ⟨h210, hm⟩ := of_guard hm
              refine W.join1 (fun a w => Sat G ((slT (Enc.int .i64) q0 (sls (sls s1.1 o181 (gl s1.1 (IntKind.i64.wrap (o181 - 1)))) (IntKind.i64.wrap (o181 - 1)) (gl s1.1 o181))) :: F) 141 [(0, q0), (1, (.int .i64 p1)), (2, (.int .i64 p2)), (3, (.func (.func g3) fs3.toArray cs3.toArray)), (8, (.bool false)), (9, (.int .i64 o181)), (10, (.int .i64 s1.2.2))] a w) ?_ ?_
              · refine W.draw (n := 18) F F 15 (by kernel_rfl) rfl rfl (fun w hw => hw.reord [] 1 rfl) (fun w hw => hw.drop 1) ?_
                refine WK.q (i := 0) rfl rfl (by kernel_rfl) calm_n (R.move rfl) rfl rfl ?_
                refine WK.q (i := 1) rfl rfl (by kernel_rfl) calm_n (R.move rfl) rfl rfl ?_
                refine WK.q (i := 2) rfl rfl (by kernel_rfl) calm_n (R.move rfl) rfl rfl ?_
                refine WK.q (i := 3) rfl rfl (by kernel_rfl) calm_n (R.move rfl) rfl rfl ?_
                refine WK.q (i := 4) rfl rfl (by kernel_rfl) calm_n (R.sub rfl rfl) rfl rfl ?_
                refine WK.q (i := 5) rfl rfl (by kernel_rfl) calm_n (R.move rfl) rfl rfl ?_
                refine WK.q (i := 6) rfl rfl (by kernel_rfl) calm_n (R.move rfl) rfl rfl ?_
                refine WK.q (i := 7) rfl rfl (by kernel_rfl) calm_n (R.sub rfl rfl) rfl rfl ?_
                refine WK.q (i := 10) rfl rfl (by kernel_rfl) calm_n (R.move rfl) rfl rfl ?_
                refine WK.q (i := 11) rfl rfl (by kernel_rfl) calm_n (R.move rfl) rfl rfl ?_
                refine WK.among (is := [8, 12]) (by kernel_rfl) rfl ?_
                refine WKa.x rfl (OpV.x (R.idxT rfl rfl el40 (RdT.at 0 rfl) h208)) (fun _ w hw => hw.reord [] 1 rfl) (fun _ _ _ w hw => hw.reord [] 1 rfl) rfl rfl (by kernel_rfl) (fun _ => ?_) ?_
                · refine WK.among (is := [9, 12]) (by kernel_rfl) rfl ?_
                  refine WKa.x rfl (OpV.x (R.load rfl (At.elT (RdT.at 0 rfl) (by decide) h208) (Lies.one _ ia50))) (fun _ w hw => hw.reord [] 1 rfl) (fun _ _ _ w hw => hw.reord [] 1 rfl) rfl rfl (by kernel_rfl) (fun _ => ?_) ?_
                  · refine WK.x (i := 12) (by kernel_rfl) rfl (OpV.x (R.idxT rfl rfl el40 (RdT.at 0 rfl) h209)) (fun _ w hw => hw.reord [] 1 rfl) (fun _ _ _ w hw => hw.reord [] 1 rfl) rfl rfl (by kernel_rfl) fun _ => ?_
                    refine WK.x (i := 13) (by kernel_rfl) rfl (OpV.x (R.load rfl (At.elT (RdT.at 0 rfl) (by decide) h209) (Lies.one _ ia50))) (fun _ w hw => hw.reord [] 1 rfl) (fun _ _ _ w hw => hw.reord [] 1 rfl) rfl rfl (by kernel_rfl) fun _ => ?_
                    refine WK.x (i := 14) (by kernel_rfl) rfl (OpV.x (R.idxT rfl rfl el40 (RdT.at 0 rfl) h209)) (fun _ w hw => hw.reord [] 1 rfl) (fun _ _ _ w hw => hw.reord [] 1 rfl) rfl rfl (by kernel_rfl) fun _ => ?_
                    refine WK.x0 (i := 15) (by kernel_rfl) rfl (R.storeT (i := 0) (gl s1.1 (IntKind.i64.wrap (o181 - 1))) rfl rfl rfl (fits_int sz50) (by decide) h209) (fun _ w hw => hw.reord [] 1 rfl) (fun h1 h2 => by cases h1) rfl (by kernel_rfl) fun _ => ?_
                    refine WK.x (i := 16) (by kernel_rfl) rfl (OpV.x (R.idxT rfl rfl el40 (RdT.at 0 rfl) h210)) (fun _ w hw => hw.reord [] 1 rfl) (fun h1 h2 => by cases h2) rfl rfl (by kernel_rfl) fun _ => ?_
                    refine WK.x0 (i := 17) (by kernel_rfl) rfl (R.storeT (i := 0) (gl s1.1 o181) rfl rfl rfl (fits_int sz50) (by decide) h210) (fun _ w hw => hw.reord [] 1 rfl) (fun h1 h2 => by cases h2) rfl (by kernel_rfl) fun _ => ?_
                    refine WK.nil (by kernel_rfl) ?_
                    exact fun a w s => And.intro rfl (Sat.mk (s.env.le ⟨rfl, rfl, rfl, rfl, rfl, rfl, rfl, trivial⟩) (s.mem))
                  refine WKa.x rfl (OpV.x (R.idxT rfl rfl el40 (RdT.at 0 rfl) h209)) (fun _ w hw => hw.reord [] 1 rfl) (fun _ _ _ w hw => hw.reord [] 1 rfl) rfl rfl (by kernel_rfl) (fun _ => ?_) ?_
                  · refine WK.among (is := [9, 13]) (by kernel_rfl) rfl ?_
                    refine WKa.x rfl (OpV.x (R.load rfl (At.elT (RdT.at 0 rfl) (by decide) h208) (Lies.one _ ia50))) (fun _ w hw => hw.reord [] 1 rfl) (fun _ _ _ w hw => hw.reord [] 1 rfl) rfl rfl (by kernel_rfl) (fun _ => ?_) ?_
                    · refine WK.x (i := 13) (by kernel_rfl) rfl (OpV.x (R.load rfl (At.elT (RdT.at 0 rfl) (by decide) h209) (Lies.one _ ia50))) (fun _ w hw => hw.reord [] 1 rfl) (fun _ _ _ w hw => hw.reord [] 1 rfl) rfl rfl (by kernel_rfl) fun _ => ?_
                      refine WK.x (i := 14) (by kernel_rfl) rfl (OpV.x (R.idxT rfl rfl el40 (RdT.at 0 rfl) h209)) (fun _ w hw => hw.reord [] 1 rfl) (fun _ _ _ w hw => hw.reord [] 1 rfl) rfl rfl (by kernel_rfl) fun _ => ?_
                      refine WK.x0 (i := 15) (by kernel_rfl) rfl (R.storeT (i := 0) (gl s1.1 (IntKind.i64.wrap (o181 - 1))) rfl rfl rfl (fits_int sz50) (by decide) h209) (fun _ w hw => hw.reord [] 1 rfl) (fun h1 h2 => by cases h1) rfl (by kernel_rfl) fun _ => ?_
                      refine WK.x (i := 16) (by kernel_rfl) rfl (OpV.x (R.idxT rfl rfl el40 (RdT.at 0 rfl) h210)) (fun _ w hw => hw.reord [] 1 rfl) (fun h1 h2 => by cases h2) rfl rfl (by kernel_rfl) fun _ => ?_
                      refine WK.x0 (i := 17) (by kernel_rfl) rfl (R.storeT (i := 0) (gl s1.1 o181) rfl rfl rfl (fits_int sz50) (by decide) h210) (fun _ w hw => hw.reord [] 1 rfl) (fun h1 h2 => by cases h2) rfl (by kernel_rfl) fun _ => ?_
                      refine WK.nil (by kernel_rfl) ?_
                      exact fun a w s => And.intro rfl (Sat.mk (s.env.le ⟨rfl, rfl, rfl, rfl, rfl, rfl, rfl, trivial⟩) (s.mem))
                    refine WKa.x rfl (OpV.x (R.load rfl (At.elT (RdT.at 0 rfl) (by decide) h209) (Lies.one _ ia50))) (fun _ w hw => hw.reord [] 1 rfl) (fun _ _ _ w hw => hw.reord [] 1 rfl) rfl rfl (by kernel_rfl) (fun _ => ?_) ?_
                    · refine WK.x (i := 9) (by kernel_rfl) rfl (OpV.x (R.load rfl (At.elT (RdT.at 0 rfl) (by decide) h208) (Lies.one _ ia50))) (fun _ w hw => hw.reord [] 1 rfl) (fun _ _ _ w hw => hw.reord [] 1 rfl) rfl rfl (by kernel_rfl) fun _ => ?_
                      refine WK.x (i := 14) (by kernel_rfl) rfl (OpV.x (R.idxT rfl rfl el40 (RdT.at 0 rfl) h209)) (fun _ w hw => hw.reord [] 1 rfl) (fun _ _ _ w hw => hw.reord [] 1 rfl) rfl rfl (by kernel_rfl) fun _ => ?_
                      refine WK.x0 (i := 15) (by kernel_rfl) rfl (R.storeT (i := 0) (gl s1.1 (IntKind.i64.wrap (o181 - 1))) rfl rfl rfl (fits_int sz50) (by decide) h209) (fun _ w hw => hw.reord [] 1 rfl) (fun h1 h2 => by cases h1) rfl (by kernel_rfl) fun _ => ?_
                      refine WK.x (i := 16) (by kernel_rfl) rfl (OpV.x (R.idxT rfl rfl el40 (RdT.at 0 rfl) h210)) (fun _ w hw => hw.reord [] 1 rfl) (fun h1 h2 => by cases h2) rfl rfl (by kernel_rfl) fun _ => ?_
                      refine WK.x0 (i := 17) (by kernel_rfl) rfl (R.storeT (i := 0) (gl s1.1 o181) rfl rfl rfl (fits_int sz50) (by decide) h210) (fun _ w hw => hw.reord [] 1 rfl) (fun h1 h2 => by cases h2) rfl (by kernel_rfl) fun _ => ?_
                      refine WK.nil (by kernel_rfl) ?_
                      exact fun a w s => And.intro rfl (Sat.mk (s.env.le ⟨rfl, rfl, rfl, rfl, rfl, rfl, rfl, trivial⟩) (s.mem))
                    exact WKa.nil
                  exact WKa.nil
                refine WKa.x rfl (OpV.x (R.idxT rfl rfl el40 (RdT.at 0 rfl) h209)) (fun _ w hw => hw.reord [] 1 rfl) (fun _ _ _ w hw => hw.reord [] 1 rfl) rfl rfl (by kernel_rfl) (fun _ => ?_) ?_
                · refine WK.among (is := [8, 13]) (by kernel_rfl) rfl ?_
                  refine WKa.x rfl (OpV.x (R.idxT rfl rfl el40 (RdT.at 0 rfl) h208)) (fun _ w hw => hw.reord [] 1 rfl) (fun _ _ _ w hw => hw.reord [] 1 rfl) rfl rfl (by kernel_rfl) (fun _ => ?_) ?_
                  · refine WK.among (is := [9, 13]) (by kernel_rfl) rfl ?_
                    refine WKa.x rfl (OpV.x (R.load rfl (At.elT (RdT.at 0 rfl) (by decide) h208) (Lies.one _ ia50))) (fun _ w hw => hw.reord [] 1 rfl) (fun _ _ _ w hw => hw.reord [] 1 rfl) rfl rfl (by kernel_rfl) (fun _ => ?_) ?_
                    · refine WK.x (i := 13) (by kernel_rfl) rfl (OpV.x (R.load rfl (At.elT (RdT.at 0 rfl) (by decide) h209) (Lies.one _ ia50))) (fun _ w hw => hw.reord [] 1 rfl) (fun _ _ _ w hw => hw.reord [] 1 rfl) rfl rfl (by kernel_rfl) fun _ => ?_
                      refine WK.x (i := 14) (by kernel_rfl) rfl (OpV.x (R.idxT rfl rfl el40 (RdT.at 0 rfl) h209)) (fun _ w hw => hw.reord [] 1 rfl) (fun _ _ _ w hw => hw.reord [] 1 rfl) rfl rfl (by kernel_rfl) fun _ => ?_
                      refine WK.x0 (i := 15) (by kernel_rfl) rfl (R.storeT (i := 0) (gl s1.1 (IntKind.i64.wrap (o181 - 1))) rfl rfl rfl (fits_int sz50) (by decide) h209) (fun _ w hw => hw.reord [] 1 rfl) (fun h1 h2 => by cases h1) rfl (by kernel_rfl) fun _ => ?_
                      refine WK.x (i := 16) (by kernel_rfl) rfl (OpV.x (R.idxT rfl rfl el40 (RdT.at 0 rfl) h210)) (fun _ w hw => hw.reord [] 1 rfl) (fun h1 h2 => by cases h2) rfl rfl (by kernel_rfl) fun _ => ?_
                      refine WK.x0 (i := 17) (by kernel_rfl) rfl (R.storeT (i := 0) (gl s1.1 o181) rfl rfl rfl (fits_int sz50) (by decide) h210) (fun _ w hw => hw.reord [] 1 rfl) (fun h1 h2 => by cases h2) rfl (by kernel_rfl) fun _ => ?_
                      refine WK.nil (by kernel_rfl) ?_
                      exact fun a w s => And.intro rfl (Sat.mk (s.env.le ⟨rfl, rfl, rfl, rfl, rfl, rfl, rfl, trivial⟩) (s.mem))
                    refine WKa.x rfl (OpV.x (R.load rfl (At.elT (RdT.at 0 rfl) (by decide) h209) (Lies.one _ ia50))) (fun _ w hw => hw.reord [] 1 rfl) (fun _ _ _ w hw => hw.reord [] 1 rfl) rfl rfl (by kernel_rfl) (fun _ => ?_) ?_
                    · refine WK.x (i := 9) (by kernel_rfl) rfl (OpV.x (R.load rfl (At.elT (RdT.at 0 rfl) (by decide) h208) (Lies.one _ ia50))) (fun _ w hw => hw.reord [] 1 rfl) (fun _ _ _ w hw => hw.reord [] 1 rfl) rfl rfl (by kernel_rfl) fun _ => ?_
                      refine WK.x (i := 14) (by kernel_rfl) rfl (OpV.x (R.idxT rfl rfl el40 (RdT.at 0 rfl) h209)) (fun _ w hw => hw.reord [] 1 rfl) (fun _ _ _ w hw => hw.reord [] 1 rfl) rfl rfl (by kernel_rfl) fun _ => ?_
                      refine WK.x0 (i := 15) (by kernel_rfl) rfl (R.storeT (i := 0) (gl s1.1 (IntKind.i64.wrap (o181 - 1))) rfl rfl rfl (fits_int sz50) (by decide) h209) (fun _ w hw => hw.reord [] 1 rfl) (fun h1 h2 => by cases h1) rfl (by kernel_rfl) fun _ => ?_
                      refine WK.x (i := 16) (by kernel_rfl) rfl (OpV.x (R.idxT rfl rfl el40 (RdT.at 0 rfl) h210)) (fun _ w hw => hw.reord [] 1 rfl) (fun h1 h2 => by cases h2) rfl rfl (by kernel_rfl) fun _ => ?_
                      refine WK.x0 (i := 17) (by kernel_rfl) rfl (R.storeT (i := 0) (gl s1.1 o181) rfl rfl rfl (fits_int sz50) (by decide) h210) (fun _ w hw => hw.reord [] 1 rfl) (fun h1 h2 => by cases h2) rfl (by kernel_rfl) fun _ => ?_
                      refine WK.nil (by kernel_rfl) ?_
                      exact fun a w s => And.intro rfl (Sat.mk (s.env.le ⟨rfl, rfl, rfl, rfl, rfl, rfl, rfl, trivial⟩) (s.mem))
                    exact WKa.nil
                  refine WKa.x rfl (OpV.x (R.load rfl (At.elT (RdT.at 0 rfl) (by decide) h209) (Lies.one _ ia50))) (fun _ w hw => hw.reord [] 1 rfl) (fun _ _ _ w hw => hw.reord [] 1 rfl) rfl rfl (by kernel_rfl) (fun _ => ?_) ?_
                  · refine WK.x (i := 8) (by kernel_rfl) rfl (OpV.x (R.idxT rfl rfl el40 (RdT.at 0 rfl) h208)) (fun _ w hw => hw.reord [] 1 rfl) (fun _ _ _ w hw => hw.reord [] 1 rfl) rfl rfl (by kernel_rfl) fun _ => ?_
                    refine WK.x (i := 9) (by kernel_rfl) rfl (OpV.x (R.load rfl (At.elT (RdT.at 0 rfl) (by decide) h208) (Lies.one _ ia50))) (fun _ w hw => hw.reord [] 1 rfl) (fun _ _ _ w hw => hw.reord [] 1 rfl) rfl rfl (by kernel_rfl) fun _ => ?_
                    refine WK.x (i := 14) (by kernel_rfl) rfl (OpV.x (R.idxT rfl rfl el40 (RdT.at 0 rfl) h209)) (fun _ w hw => hw.reord [] 1 rfl) (fun _ _ _ w hw => hw.reord [] 1 rfl) rfl rfl (by kernel_rfl) fun _ => ?_
                    refine WK.x0 (i := 15) (by kernel_rfl) rfl (R.storeT (i := 0) (gl s1.1 (IntKind.i64.wrap (o181 - 1))) rfl rfl rfl (fits_int sz50) (by decide) h209) (fun _ w hw => hw.reord [] 1 rfl) (fun h1 h2 => by cases h1) rfl (by kernel_rfl) fun _ => ?_
                    refine WK.x (i := 16) (by kernel_rfl) rfl (OpV.x (R.idxT rfl rfl el40 (RdT.at 0 rfl) h210)) (fun _ w hw => hw.reord [] 1 rfl) (fun h1 h2 => by cases h2) rfl rfl (by kernel_rfl) fun _ => ?_
                    refine WK.x0 (i := 17) (by kernel_rfl) rfl (R.storeT (i := 0) (gl s1.1 o181) rfl rfl rfl (fits_int sz50) (by decide) h210) (fun _ w hw => hw.reord [] 1 rfl) (fun h1 h2 => by cases h2) rfl (by kernel_rfl) fun _ => ?_
                    refine WK.nil (by kernel_rfl) ?_
                    exact fun a w s => And.intro rfl (Sat.mk (s.env.le ⟨rfl, rfl, rfl, rfl, rfl, rfl, rfl, trivial⟩) (s.mem))
                  exact WKa.nil
                exact WKa.nil
              · refine Go2.sat ?_
                refine Go.then_ ?_
                obtain ⟨o238, hm, hmo238⟩ := of_bind hm
                refine W.seq ?_
                refine W.join (fun e a w => And (e = .normal) (Sat G ((slT (Enc.int .i64) q0 o238) :: F) 141 [(0, q0), (1, (.int .i64 p1)), (2, (.int .i64 p2)), (3, (.func (.func g3) fs3.toArray cs3.toArray)), (8, (.bool false)), (9, (.int .i64 o181)), (10, (.int .i64 s1.2.2))] a w)) ?_ ?_
                · refine W.seq ?_
                  refine W.region ?_
                  refine WL.q (R.move rfl) rfl ?_
                  refine WL.q (R.move rfl) rfl ?_
                  refine WL.q (R.sub rfl rfl) rfl ?_
                  refine WL.q (R.geq rfl rfl) rfl ?_
                  refine WL.nil ?_
                  refine Go.then_ ?_
                  by_cases h211 : 2 ≤ IntKind.i64.wrap (o181 - p1)
                  · rw [if_pos h211] at hm
                    refine W.cond_t rfl (decide_eq_true h211) ?_
                    refine W.seq ?_
                    refine W.region ?_
                    refine WL.q (R.move rfl) rfl ?_
                    refine WL.q (R.sub rfl rfl) rfl ?_
                    refine WL.q (R.assign rfl) rfl ?_
                    refine WL.nil ?_
                    refine Go.then_ ?_
                    refine W.block ?_
                    obtain ⟨o213, hlo213, hm⟩ := of_bind hm
                    refine W.loopx (fun (s212 : ((List Int) × Int)) a w => Sat G ((slT (Enc.int .i64) q0 s212.1) :: F) 141 [(0, q0), (1, (.int .i64 p1)), (2, (.int .i64 p2)), (3, (.func (.func g3) fs3.toArray cs3.toArray)), (8, (.bool false)), (9, (.int .i64 o181)), (10, (.int .i64 s1.2.2)), (11, (.int .i64 s212.2))] a w) (fun (o213 : (List Int)) e a w => And (e = (.exit 4)) (Sat G ((slT (Enc.int .i64) q0 o213) :: F) 141 [(0, q0), (1, (.int .i64 p1)), (2, (.int .i64 p2)), (3, (.func (.func g3) fs3.toArray cs3.toArray)), (8, (.bool false)), (9, (.int .i64 o181)), (10, (.int .i64 s1.2.2))] a w)) hlo213 (fun a w s => (Sat.mk (s.env.le ⟨rfl, rfl, rfl, rfl, rfl, rfl, rfl, rfl, trivial⟩) (s.mem))) ?_ ?_
                    · clear hm
                      intro s212 x hm a w hJ
                      have s := hJ
                      unfold slices_partialInsertionSortCmpFunc_impl_set_L3 at hm
                      refine W.use s ?_
                      refine W.seq ?_
                      refine W.seq ?_
                      refine W.region ?_
                      refine WL.q (R.move rfl) rfl ?_
                      refine WL.q (R.geq rfl rfl) rfl ?_
                      refine WL.nil ?_
                      refine Go.then_ ?_
                      by_cases h230 : 1 ≤ s212.2
                      · rw [if_pos h230] at hm
                        refine W.cond_t rfl (decide_eq_true h230) ?_
                        refine W.skip ?_
                        refine Go.then_ ?_
                        refine W.seq ?_
                        refine W.block ?_
                        refine W.seq ?_
                        refine W.seq ?_
                        obtain ⟨h231, hm⟩ := of_guard hm
                        obtain ⟨h232, hm⟩ := of_guard hm
                        obtain ⟨o233, h234, hm⟩ := of_bind hm
                        refine W.join1 (fun a w => ∃ x235 : Unit, Sat G ((slT (Enc.int .i64) q0 s212.1) :: F) 141 [(0, q0), (1, (.int .i64 p1)), (2, (.int .i64 p2)), (3, (.func (.func g3) fs3.toArray cs3.toArray)), (8, (.bool false)), (9, (.int .i64 o181)), (10, (.int .i64 s1.2.2)), (11, (.int .i64 s212.2)), (84, (.bool (!(decide (o233 < 0)))))] a w) ?_ ?_
                        · refine W.draw (n := 13) ((slT (Enc.int .i64) q0 s212.1) :: F) F 13 (by kernel_rfl) rfl rfl (fun w hw => hw) (fun w hw => hw.drop 1) ?_
                          refine WK.q (i := 0) rfl rfl (by kernel_rfl) calm_n (R.move rfl) rfl rfl ?_
                          refine WK.q (i := 1) rfl rfl (by kernel_rfl) calm_n (R.move rfl) rfl rfl ?_
                          refine WK.q (i := 2) rfl rfl (by kernel_rfl) calm_n (R.move rfl) rfl rfl ?_
                          refine WK.q (i := 3) rfl rfl (by kernel_rfl) calm_n (R.idxT rfl rfl el40 (RdT.at 0 rfl) h231) rfl rfl ?_
                          refine WK.q (i := 4) rfl rfl (by kernel_rfl) calm_n (R.load rfl (At.elT (RdT.at 0 rfl) (by decide) h231) (Lies.one _ ia50)) rfl rfl ?_
                          refine WK.q (i := 5) rfl rfl (by kernel_rfl) calm_n (R.move rfl) rfl rfl ?_
                          refine WK.x (i := 6) (by kernel_rfl) rfl (OpV.x (R.move rfl)) (fun _ w hw => hw) (fun _ _ _ w hw => hw.reord [] 1 rfl) rfl rfl (by kernel_rfl) fun _ => ?_
                          refine WK.x (i := 7) (by kernel_rfl) rfl (OpV.x (R.sub rfl rfl)) (fun _ w hw => hw) (fun _ _ _ w hw => hw.reord [] 1 rfl) rfl rfl (by kernel_rfl) fun _ => ?_
                          refine WK.x (i := 8) (by kernel_rfl) rfl (OpV.x (R.idxT rfl rfl el40 (RdT.at 0 rfl) h232)) (fun _ w hw => hw) (fun _ _ _ w hw => hw.reord [] 1 rfl) rfl rfl (by kernel_rfl) fun _ => ?_
                          refine WK.x (i := 9) (by kernel_rfl) rfl (OpV.x (R.load rfl (At.elT (RdT.at 0 rfl) (by decide) h232) (Lies.one _ ia50))) (fun _ w hw => hw) (fun _ _ _ w hw => hw.reord [] 1 rfl) rfl rfl (by kernel_rfl) fun _ => ?_
                          refine WK.x (i := 10) (by kernel_rfl) rfl (R.callAny (fs := fs3) (cs := cs3) (vs := [(.int .i64 (gl s212.1 s212.2)), (.int .i64 (gl s212.1 (IntKind.i64.wrap (s212.2 - 1))))]) rfl rfl en_3 (hf3 [(slT (Enc.int .i64) q0 s212.1)] (gl s212.1 s212.2) (gl s212.1 (IntKind.i64.wrap (s212.2 - 1))) _ h234)) (fun _ w hw => hw) (fun _ _ _ w hw => hw.reord [] 1 rfl) rfl rfl (by kernel_rfl) fun x235 => ?_
                          refine WK.x (i := 11) (by kernel_rfl) rfl (OpV.x (R.lss rfl rfl)) (fun _ w hw => hw) (fun _ _ _ w hw => hw.reord [] 1 rfl) rfl rfl (by kernel_rfl) fun _ => ?_
                          refine WK.x (i := 12) (by kernel_rfl) rfl (OpV.x (R.not rfl)) (fun _ w hw => hw) (fun _ _ _ w hw => hw.reord [] 1 rfl) rfl rfl (by kernel_rfl) fun _ => ?_
                          refine WK.nil (by kernel_rfl) ?_
                          exact fun a w s => And.intro rfl (Exists.intro x235 (Sat.mk (s.env.le ⟨rfl, rfl, rfl, rfl, rfl, rfl, rfl, rfl, rfl, trivial⟩) (s.mem)))
                        · refine Go2.ex fun x235 => ?_
                          refine Go2.sat ?_
                          refine Go.then_ ?_
                          by_cases h236 : o233 < 0
                          · rw [if_pos h236] at hm
                            refine W.cond_f rfl (not_f (decide_eq_true h236)) ?_
                            refine W.skip ?_
                            refine Go.then_ ?_
                            obtain ⟨h237, hm⟩ := of_guard hm
                            refine W.join1 (fun a w => Sat G ((slT (Enc.int .i64) q0 (sls (sls s212.1 s212.2 (gl s212.1 (IntKind.i64.wrap (s212.2 - 1)))) (IntKind.i64.wrap (s212.2 - 1)) (gl s212.1 s212.2))) :: F) 141 [(0, q0), (1, (.int .i64 p1)), (2, (.int .i64 p2)), (3, (.func (.func g3) fs3.toArray cs3.toArray)), (8, (.bool false)), (9, (.int .i64 o181)), (10, (.int .i64 s1.2.2)), (11, (.int .i64 s212.2))] a w) ?_ ?_
                            · refine W.draw (n := 18) F F 15 (by kernel_rfl) rfl rfl (fun w hw => hw.reord [] 1 rfl) (fun w hw => hw.drop 1) ?_
                              refine WK.q (i := 0) rfl rfl (by kernel_rfl) calm_n (R.move rfl) rfl rfl ?_
                              refine WK.q (i := 1) rfl rfl (by kernel_rfl) calm_n (R.move rfl) rfl rfl ?_
                              refine WK.q (i := 2) rfl rfl (by kernel_rfl) calm_n (R.move rfl) rfl rfl ?_
                              refine WK.q (i := 3) rfl rfl (by kernel_rfl) calm_n (R.move rfl) rfl rfl ?_
                              refine WK.q (i := 4) rfl rfl (by kernel_rfl) calm_n (R.sub rfl rfl) rfl rfl ?_
                              refine WK.q (i := 5) rfl rfl (by kernel_rfl) calm_n (R.move rfl) rfl rfl ?_
                              refine WK.q (i := 6) rfl rfl (by kernel_rfl) calm_n (R.move rfl) rfl rfl ?_
                              refine WK.q (i := 7) rfl rfl (by kernel_rfl) calm_n (R.sub rfl rfl) rfl rfl ?_
                              refine WK.q (i := 10) rfl rfl (by kernel_rfl) calm_n (R.move rfl) rfl rfl ?_
                              refine WK.q (i := 11) rfl rfl (by kernel_rfl) calm_n (R.move rfl) rfl rfl ?_
                              refine WK.among (is := [8, 12]) (by kernel_rfl) rfl ?_
                              refine WKa.x rfl (OpV.x (R.idxT rfl rfl el40 (RdT.at 0 rfl) h232)) (fun _ w hw => hw.reord [] 1 rfl) (fun _ _ _ w hw => hw.reord [] 1 rfl) rfl rfl (by kernel_rfl) (fun _ => ?_) ?_
                              · refine WK.among (is := [9, 12]) (by kernel_rfl) rfl ?_
                                refine WKa.x rfl (OpV.x (R.load rfl (At.elT (RdT.at 0 rfl) (by decide) h232) (Lies.one _ ia50))) (fun _ w hw => hw.reord [] 1 rfl) (fun _ _ _ w hw => hw.reord [] 1 rfl) rfl rfl (by kernel_rfl) (fun _ => ?_) ?_
                                · refine WK.x (i := 12) (by kernel_rfl) rfl (OpV.x (R.idxT rfl rfl el40 (RdT.at 0 rfl) h231)) (fun _ w hw => hw.reord [] 1 rfl) (fun _ _ _ w hw => hw.reord [] 1 rfl) rfl rfl (by kernel_rfl) fun _ => ?_
                                  refine WK.x (i := 13) (by kernel_rfl) rfl (OpV.x (R.load rfl (At.elT (RdT.at 0 rfl) (by decide) h231) (Lies.one _ ia50))) (fun _ w hw => hw.reord [] 1 rfl) (fun _ _ _ w hw => hw.reord [] 1 rfl) rfl rfl (by kernel_rfl) fun _ => ?_
                                  refine WK.x (i := 14) (by kernel_rfl) rfl (OpV.x (R.idxT rfl rfl el40 (RdT.at 0 rfl) h231)) (fun _ w hw => hw.reord [] 1 rfl) (fun _ _ _ w hw => hw.reord [] 1 rfl) rfl rfl (by kernel_rfl) fun _ => ?_
                                  refine WK.x0 (i := 15) (by kernel_rfl) rfl (R.storeT (i := 0) (gl s212.1 (IntKind.i64.wrap (s212.2 - 1))) rfl rfl rfl (fits_int sz50) (by decide) h231) (fun _ w hw => hw.reord [] 1 rfl) (fun h1 h2 => by cases h1) rfl (by kernel_rfl) fun _ => ?_
                                  refine WK.x (i := 16) (by kernel_rfl) rfl (OpV.x (R.idxT rfl rfl el40 (RdT.at 0 rfl) h237)) (fun _ w hw => hw.reord [] 1 rfl) (fun h1 h2 => by cases h2) rfl rfl (by kernel_rfl) fun _ => ?_
                                  refine WK.x0 (i := 17) (by kernel_rfl) rfl (R.storeT (i := 0) (gl s212.1 s212.2) rfl rfl rfl (fits_int sz50) (by decide) h237) (fun _ w hw => hw.reord [] 1 rfl) (fun h1 h2 => by cases h2) rfl (by kernel_rfl) fun _ => ?_
                                  refine WK.nil (by kernel_rfl) ?_
                                  exact fun a w s => And.intro rfl (Sat.mk (s.env.le ⟨rfl, rfl, rfl, rfl, rfl, rfl, rfl, rfl, trivial⟩) (s.mem))
                                refine WKa.x rfl (OpV.x (R.idxT rfl rfl el40 (RdT.at 0 rfl) h231)) (fun _ w hw => hw.reord [] 1 rfl) (fun _ _ _ w hw => hw.reord [] 1 rfl) rfl rfl (by kernel_rfl) (fun _ => ?_) ?_
                                · refine WK.among (is := [9, 13]) (by kernel_rfl) rfl ?_
                                  refine WKa.x rfl (OpV.x (R.load rfl (At.elT (RdT.at 0 rfl) (by decide) h232) (Lies.one _ ia50))) (fun _ w hw => hw.reord [] 1 rfl) (fun _ _ _ w hw => hw.reord [] 1 rfl) rfl rfl (by kernel_rfl) (fun _ => ?_) ?_
                                  · refine WK.x (i := 13) (by kernel_rfl) rfl (OpV.x (R.load rfl (At.elT (RdT.at 0 rfl) (by decide) h231) (Lies.one _ ia50))) (fun _ w hw => hw.reord [] 1 rfl) (fun _ _ _ w hw => hw.reord [] 1 rfl) rfl rfl (by kernel_rfl) fun _ => ?_
                                    refine WK.x (i := 14) (by kernel_rfl) rfl (OpV.x (R.idxT rfl rfl el40 (RdT.at 0 rfl) h231)) (fun _ w hw => hw.reord [] 1 rfl) (fun _ _ _ w hw => hw.reord [] 1 rfl) rfl rfl (by kernel_rfl) fun _ => ?_
                                    refine WK.x0 (i := 15) (by kernel_rfl) rfl (R.storeT (i := 0) (gl s212.1 (IntKind.i64.wrap (s212.2 - 1))) rfl rfl rfl (fits_int sz50) (by decide) h231) (fun _ w hw => hw.reord [] 1 rfl) (fun h1 h2 => by cases h1) rfl (by kernel_rfl) fun _ => ?_
                                    refine WK.x (i := 16) (by kernel_rfl) rfl (OpV.x (R.idxT rfl rfl el40 (RdT.at 0 rfl) h237)) (fun _ w hw => hw.reord [] 1 rfl) (fun h1 h2 => by cases h2) rfl rfl (by kernel_rfl) fun _ => ?_
                                    refine WK.x0 (i := 17) (by kernel_rfl) rfl (R.storeT (i := 0) (gl s212.1 s212.2) rfl rfl rfl (fits_int sz50) (by decide) h237) (fun _ w hw => hw.reord [] 1 rfl) (fun h1 h2 => by cases h2) rfl (by kernel_rfl) fun _ => ?_
                                    refine WK.nil (by kernel_rfl) ?_
                                    exact fun a w s => And.intro rfl (Sat.mk (s.env.le ⟨rfl, rfl, rfl, rfl, rfl, rfl, rfl, rfl, trivial⟩) (s.mem))
                                  refine WKa.x rfl (OpV.x (R.load rfl (At.elT (RdT.at 0 rfl) (by decide) h231) (Lies.one _ ia50))) (fun _ w hw => hw.reord [] 1 rfl) (fun _ _ _ w hw => hw.reord [] 1 rfl) rfl rfl (by kernel_rfl) (fun _ => ?_) ?_
                                  · refine WK.x (i := 9) (by kernel_rfl) rfl (OpV.x (R.load rfl (At.elT (RdT.at 0 rfl) (by decide) h232) (Lies.one _ ia50))) (fun _ w hw => hw.reord [] 1 rfl) (fun _ _ _ w hw => hw.reord [] 1 rfl) rfl rfl (by kernel_rfl) fun _ => ?_
                                    refine WK.x (i := 14) (by kernel_rfl) rfl (OpV.x (R.idxT rfl rfl el40 (RdT.at 0 rfl) h231)) (fun _ w hw => hw.reord [] 1 rfl) (fun _ _ _ w hw => hw.reord [] 1 rfl) rfl rfl (by kernel_rfl) fun _ => ?_
                                    refine WK.x0 (i := 15) (by kernel_rfl) rfl (R.storeT (i := 0) (gl s212.1 (IntKind.i64.wrap (s212.2 - 1))) rfl rfl rfl (fits_int sz50) (by decide) h231) (fun _ w hw => hw.reord [] 1 rfl) (fun h1 h2 => by cases h1) rfl (by kernel_rfl) fun _ => ?_
                                    refine WK.x (i := 16) (by kernel_rfl) rfl (OpV.x (R.idxT rfl rfl el40 (RdT.at 0 rfl) h237)) (fun _ w hw => hw.reord [] 1 rfl) (fun h1 h2 => by cases h2) rfl rfl (by kernel_rfl) fun _ => ?_
                                    refine WK.x0 (i := 17) (by kernel_rfl) rfl (R.storeT (i := 0) (gl s212.1 s212.2) rfl rfl rfl (fits_int sz50) (by decide) h237) (fun _ w hw => hw.reord [] 1 rfl) (fun h1 h2 => by cases h2) rfl (by kernel_rfl) fun _ => ?_
                                    refine WK.nil (by kernel_rfl) ?_
                                    exact fun a w s => And.intro rfl (Sat.mk (s.env.le ⟨rfl, rfl, rfl, rfl, rfl, rfl, rfl, rfl, trivial⟩) (s.mem))
                                  exact WKa.nil
                                exact WKa.nil
                              refine WKa.x rfl (OpV.x (R.idxT rfl rfl el40 (RdT.at 0 rfl) h231)) (fun _ w hw => hw.reord [] 1 rfl) (fun _ _ _ w hw => hw.reord [] 1 rfl) rfl rfl (by kernel_rfl) (fun _ => ?_) ?_
                              · refine WK.among (is := [8, 13]) (by kernel_rfl) rfl ?_
                                refine WKa.x rfl (OpV.x (R.idxT rfl rfl el40 (RdT.at 0 rfl) h232)) (fun _ w hw => hw.reord [] 1 rfl) (fun _ _ _ w hw => hw.reord [] 1 rfl) rfl rfl (by kernel_rfl) (fun _ => ?_) ?_
                                · refine WK.among (is := [9, 13]) (by kernel_rfl) rfl ?_
                                  refine WKa.x rfl (OpV.x (R.load rfl (At.elT (RdT.at 0 rfl) (by decide) h232) (Lies.one _ ia50))) (fun _ w hw => hw.reord [] 1 rfl) (fun _ _ _ w hw => hw.reord [] 1 rfl) rfl rfl (by kernel_rfl) (fun _ => ?_) ?_
                                  · refine WK.x (i := 13) (by kernel_rfl) rfl (OpV.x (R.load rfl (At.elT (RdT.at 0 rfl) (by decide) h231) (Lies.one _ ia50))) (fun _ w hw => hw.reord [] 1 rfl) (fun _ _ _ w hw => hw.reord [] 1 rfl) rfl rfl (by kernel_rfl) fun _ => ?_
                                    refine WK.x (i := 14) (by kernel_rfl) rfl (OpV.x (R.idxT rfl rfl el40 (RdT.at 0 rfl) h231)) (fun _ w hw => hw.reord [] 1 rfl) (fun _ _ _ w hw => hw.reord [] 1 rfl) rfl rfl (by kernel_rfl) fun _ => ?_
                                    refine WK.x0 (i := 15) (by kernel_rfl) rfl (R.storeT (i := 0) (gl s212.1 (IntKind.i64.wrap (s212.2 - 1))) rfl rfl rfl (fits_int sz50) (by decide) h231) (fun _ w hw => hw.reord [] 1 rfl) (fun h1 h2 => by cases h1) rfl (by kernel_rfl) fun _ => ?_
                                    refine WK.x (i := 16) (by kernel_rfl) rfl (OpV.x (R.idxT rfl rfl el40 (RdT.at 0 rfl) h237)) (fun _ w hw => hw.reord [] 1 rfl) (fun h1 h2 => by cases h2) rfl rfl (by kernel_rfl) fun _ => ?_
                                    refine WK.x0 (i := 17) (by kernel_rfl) rfl (R.storeT (i := 0) (gl s212.1 s212.2) rfl rfl rfl (fits_int sz50) (by decide) h237) (fun _ w hw => hw.reord [] 1 rfl) (fun h1 h2 => by cases h2) rfl (by kernel_rfl) fun _ => ?_
                                    refine WK.nil (by kernel_rfl) ?_
                                    exact fun a w s => And.intro rfl (Sat.mk (s.env.le ⟨rfl, rfl, rfl, rfl, rfl, rfl, rfl, rfl, trivial⟩) (s.mem))
                                  refine WKa.x rfl (OpV.x (R.load rfl (At.elT (RdT.at 0 rfl) (by decide) h231) (Lies.one _ ia50))) (fun _ w hw => hw.reord [] 1 rfl) (fun _ _ _ w hw => hw.reord [] 1 rfl) rfl rfl (by kernel_rfl) (fun _ => ?_) ?_
                                  · refine WK.x (i := 9) (by kernel_rfl) rfl (OpV.x (R.load rfl (At.elT (RdT.at 0 rfl) (by decide) h232) (Lies.one _ ia50))) (fun _ w hw => hw.reord [] 1 rfl) (fun _ _ _ w hw => hw.reord [] 1 rfl) rfl rfl (by kernel_rfl) fun _ => ?_
                                    refine WK.x (i := 14) (by kernel_rfl) rfl (OpV.x (R.idxT rfl rfl el40 (RdT.at 0 rfl) h231)) (fun _ w hw => hw.reord [] 1 rfl) (fun _ _ _ w hw => hw.reord [] 1 rfl) rfl rfl (by kernel_rfl) fun _ => ?_
                                    refine WK.x0 (i := 15) (by kernel_rfl) rfl (R.storeT (i := 0) (gl s212.1 (IntKind.i64.wrap (s212.2 - 1))) rfl rfl rfl (fits_int sz50) (by decide) h231) (fun _ w hw => hw.reord [] 1 rfl) (fun h1 h2 => by cases h1) rfl (by kernel_rfl) fun _ => ?_
                                    refine WK.x (i := 16) (by kernel_rfl) rfl (OpV.x (R.idxT rfl rfl el40 (RdT.at 0 rfl) h237)) (fun _ w hw => hw.reord [] 1 rfl) (fun h1 h2 => by cases h2) rfl rfl (by kernel_rfl) fun _ => ?_
                                    refine WK.x0 (i := 17) (by kernel_rfl) rfl (R.storeT (i := 0) (gl s212.1 s212.2) rfl rfl rfl (fits_int sz50) (by decide) h237) (fun _ w hw => hw.reord [] 1 rfl) (fun h1 h2 => by cases h2) rfl (by kernel_rfl) fun _ => ?_
                                    refine WK.nil (by kernel_rfl) ?_
                                    exact fun a w s => And.intro rfl (Sat.mk (s.env.le ⟨rfl, rfl, rfl, rfl, rfl, rfl, rfl, rfl, trivial⟩) (s.mem))
                                  exact WKa.nil
                                refine WKa.x rfl (OpV.x (R.load rfl (At.elT (RdT.at 0 rfl) (by decide) h231) (Lies.one _ ia50))) (fun _ w hw => hw.reord [] 1 rfl) (fun _ _ _ w hw => hw.reord [] 1 rfl) rfl rfl (by kernel_rfl) (fun _ => ?_) ?_
                                · refine WK.x (i := 8) (by kernel_rfl) rfl (OpV.x (R.idxT rfl rfl el40 (RdT.at 0 rfl) h232)) (fun _ w hw => hw.reord [] 1 rfl) (fun _ _ _ w hw => hw.reord [] 1 rfl) rfl rfl (by kernel_rfl) fun _ => ?_
                                  refine WK.x (i := 9) (by kernel_rfl) rfl (OpV.x (R.load rfl (At.elT (RdT.at 0 rfl) (by decide) h232) (Lies.one _ ia50))) (fun _ w hw => hw.reord [] 1 rfl) (fun _ _ _ w hw => hw.reord [] 1 rfl) rfl rfl (by kernel_rfl) fun _ => ?_
                                  refine WK.x (i := 14) (by kernel_rfl) rfl (OpV.x (R.idxT rfl rfl el40 (RdT.at 0 rfl) h231)) (fun _ w hw => hw.reord [] 1 rfl) (fun _ _ _ w hw => hw.reord [] 1 rfl) rfl rfl (by kernel_rfl) fun _ => ?_
                                  refine WK.x0 (i := 15) (by kernel_rfl) rfl (R.storeT (i := 0) (gl s212.1 (IntKind.i64.wrap (s212.2 - 1))) rfl rfl rfl (fits_int sz50) (by decide) h231) (fun _ w hw => hw.reord [] 1 rfl) (fun h1 h2 => by cases h1) rfl (by kernel_rfl) fun _ => ?_
                                  refine WK.x (i := 16) (by kernel_rfl) rfl (OpV.x (R.idxT rfl rfl el40 (RdT.at 0 rfl) h237)) (fun _ w hw => hw.reord [] 1 rfl) (fun h1 h2 => by cases h2) rfl rfl (by kernel_rfl) fun _ => ?_
                                  refine WK.x0 (i := 17) (by kernel_rfl) rfl (R.storeT (i := 0) (gl s212.1 s212.2) rfl rfl rfl (fits_int sz50) (by decide) h237) (fun _ w hw => hw.reord [] 1 rfl) (fun h1 h2 => by cases h2) rfl (by kernel_rfl) fun _ => ?_
                                  refine WK.nil (by kernel_rfl) ?_
                                  exact fun a w s => And.intro rfl (Sat.mk (s.env.le ⟨rfl, rfl, rfl, rfl, rfl, rfl, rfl, rfl, trivial⟩) (s.mem))
                                exact WKa.nil
                              exact WKa.nil
                            · refine Go2.sat ?_
                              refine Go.n_block ?_
                              refine Go.then_ ?_
                              refine W.region ?_
                              refine WL.q (R.move rfl) rfl ?_
                              refine WL.q (R.sub rfl rfl) rfl ?_
                              refine WL.q (R.assign rfl) rfl ?_
                              refine WL.nil ?_
                              have he := Option.some.inj hm
                              clear hm
                              subst x
                              exact fun a w s => Exists.intro _ (And.intro rfl (Sat.mk (s.env.le ⟨rfl, rfl, rfl, rfl, rfl, rfl, rfl, rfl, trivial⟩) (s.mem)))
                          · rw [if_neg h236] at hm
                            refine W.cond_t rfl (not_t (decide_eq_false h236)) ?_
                            refine W.exit ?_
                            refine Go.x_then ?_
                            refine Go.x_pass rfl ?_
                            refine Go.x_then ?_
                            have he := Option.some.inj hm
                            clear hm
                            subst x
                            exact fun a w s => Exists.intro _ (And.intro rfl (And.intro rfl (Sat.mk (s.env.le ⟨rfl, rfl, rfl, rfl, rfl, rfl, rfl, trivial⟩) (s.mem))))
                      · rw [if_neg h230] at hm
                        refine W.cond_f rfl (decide_eq_false h230) ?_
                        refine W.exit ?_
                        refine Go.x_then ?_
                        have he := Option.some.inj hm
                        clear hm
                        subst x
                        exact fun a w s => Exists.intro _ (And.intro rfl (And.intro rfl (Sat.mk (s.env.le ⟨rfl, rfl, rfl, rfl, rfl, rfl, rfl, trivial⟩) (s.mem))))
                    · intro e a w hJ
                      obtain ⟨rfl, s⟩ := hJ
                      refine Go.use s ?_
                      refine Go.x_block ?_
                      have he := Option.some.inj hm
                      clear hm
                      subst o238
                      exact fun a w s => And.intro rfl (Sat.mk (s.env.le ⟨rfl, rfl, rfl, rfl, rfl, rfl, rfl, trivial⟩) (s.mem))
                  · rw [if_neg h211] at hm
                    refine W.cond_f rfl (decide_eq_false h211) ?_
                    refine W.skip ?_
                    have he := Option.some.inj hm
                    clear hm
                    subst o238
                    exact fun a w s => And.intro rfl (Sat.mk (s.env.le ⟨rfl, rfl, rfl, rfl, rfl, rfl, rfl, trivial⟩) (s.mem))
                · intro e a w hJ
                  replace hm := hmo238
                  clear hmo238
                  obtain ⟨rfl, s⟩ := hJ
                  refine Go.use s ?_
                  refine Go.then_ ?_
                  refine W.seq ?_
                  refine W.region ?_
                  refine WL.q (R.move rfl) rfl ?_
                  refine WL.q (R.move rfl) rfl ?_
                  refine WL.q (R.sub rfl rfl) rfl ?_
                  refine WL.q (R.geq rfl rfl) rfl ?_
                  refine WL.nil ?_
                  refine Go.then_ ?_
                  by_cases h239 : 2 ≤ IntKind.i64.wrap (p2 - o181)
                  · rw [if_pos h239] at hm
                    refine W.cond_t rfl (decide_eq_true h239) ?_
                    refine W.seq ?_
                    refine W.region ?_
                    refine WL.q (R.move rfl) rfl ?_
                    refine WL.q (R.add rfl rfl) rfl ?_
                    refine WL.q (R.assign rfl) rfl ?_
                    refine WL.nil ?_
                    refine Go.then_ ?_
                    refine W.block ?_
                    obtain ⟨o241, hlo241, hm⟩ := of_bind hm
                    refine W.loopx (fun (s240 : ((List Int) × Int)) a w => Sat G ((slT (Enc.int .i64) q0 s240.1) :: F) 141 [(0, q0), (1, (.int .i64 p1)), (2, (.int .i64 p2)), (3, (.func (.func g3) fs3.toArray cs3.toArray)), (8, (.bool false)), (9, (.int .i64 o181)), (10, (.int .i64 s1.2.2)), (12, (.int .i64 s240.2))] a w) (fun (o241 : (List Int)) e a w => And (e = (.exit 6)) (Sat G ((slT (Enc.int .i64) q0 o241) :: F) 141 [(0, q0), (1, (.int .i64 p1)), (2, (.int .i64 p2)), (3, (.func (.func g3) fs3.toArray cs3.toArray)), (8, (.bool false)), (9, (.int .i64 o181)), (10, (.int .i64 s1.2.2))] a w)) hlo241 (fun a w s => (Sat.mk (s.env.le ⟨rfl, rfl, rfl, rfl, rfl, rfl, rfl, rfl, trivial⟩) (s.mem))) ?_ ?_
                    · clear hm
                      intro s240 x hm a w hJ
                      have s := hJ
                      unfold slices_partialInsertionSortCmpFunc_impl_set_L4 at hm
                      refine W.use s ?_
                      refine W.seq ?_
                      refine W.seq ?_
                      refine W.region ?_
                      refine WL.q (R.move rfl) rfl ?_
                      refine WL.q (R.move rfl) rfl ?_
                      refine WL.q (R.lss rfl rfl) rfl ?_
                      refine WL.nil ?_
                      refine Go.then_ ?_
                      by_cases h258 : s240.2 < p2
                      · rw [if_pos h258] at hm
                        refine W.cond_t rfl (decide_eq_true h258) ?_
                        refine W.skip ?_
                        refine Go.then_ ?_
                        refine W.seq ?_
                        refine W.block ?_
                        refine W.seq ?_
                        refine W.seq ?_
                        obtain ⟨h259, hm⟩ := of_guard hm
                        obtain ⟨h260, hm⟩ := of_guard hm
                        obtain ⟨o261, h262, hm⟩ := of_bind hm
                        refine W.join1 (fun a w => ∃ x263 : Unit, Sat G ((slT (Enc.int .i64) q0 s240.1) :: F) 141 [(0, q0), (1, (.int .i64 p1)), (2, (.int .i64 p2)), (3, (.func (.func g3) fs3.toArray cs3.toArray)), (8, (.bool false)), (9, (.int .i64 o181)), (10, (.int .i64 s1.2.2)), (12, (.int .i64 s240.2)), (124, (.bool (!(decide (o261 < 0)))))] a w) ?_ ?_
                        · refine W.draw (n := 13) ((slT (Enc.int .i64) q0 s240.1) :: F) F 13 (by kernel_rfl) rfl rfl (fun w hw => hw) (fun w hw => hw.drop 1) ?_
                          refine WK.q (i := 0) rfl rfl (by kernel_rfl) calm_n (R.move rfl) rfl rfl ?_
                          refine WK.q (i := 1) rfl rfl (by kernel_rfl) calm_n (R.move rfl) rfl rfl ?_
                          refine WK.q (i := 2) rfl rfl (by kernel_rfl) calm_n (R.move rfl) rfl rfl ?_
                          refine WK.q (i := 3) rfl rfl (by kernel_rfl) calm_n (R.idxT rfl rfl el40 (RdT.at 0 rfl) h259) rfl rfl ?_
                          refine WK.q (i := 4) rfl rfl (by kernel_rfl) calm_n (R.load rfl (At.elT (RdT.at 0 rfl) (by decide) h259) (Lies.one _ ia50)) rfl rfl ?_
                          refine WK.q (i := 5) rfl rfl (by kernel_rfl) calm_n (R.move rfl) rfl rfl ?_
                          refine WK.x (i := 6) (by kernel_rfl) rfl (OpV.x (R.move rfl)) (fun _ w hw => hw) (fun _ _ _ w hw => hw.reord [] 1 rfl) rfl rfl (by kernel_rfl) fun _ => ?_
                          refine WK.x (i := 7) (by kernel_rfl) rfl (OpV.x (R.sub rfl rfl)) (fun _ w hw => hw) (fun _ _ _ w hw => hw.reord [] 1 rfl) rfl rfl (by kernel_rfl) fun _ => ?_
                          refine WK.x (i := 8) (by kernel_rfl) rfl (OpV.x (R.idxT rfl rfl el40 (RdT.at 0 rfl) h260)) (fun _ w hw => hw) (fun _ _ _ w hw => hw.reord [] 1 rfl) rfl rfl (by kernel_rfl) fun _ => ?_
                          refine WK.x (i := 9) (by kernel_rfl) rfl (OpV.x (R.load rfl (At.elT (RdT.at 0 rfl) (by decide) h260) (Lies.one _ ia50))) (fun _ w hw => hw) (fun _ _ _ w hw => hw.reord [] 1 rfl) rfl rfl (by kernel_rfl) fun _ => ?_
                          refine WK.x (i := 10) (by kernel_rfl) rfl (R.callAny (fs := fs3) (cs := cs3) (vs := [(.int .i64 (gl s240.1 s240.2)), (.int .i64 (gl s240.1 (IntKind.i64.wrap (s240.2 - 1))))]) rfl rfl en_3 (hf3 [(slT (Enc.int .i64) q0 s240.1)] (gl s240.1 s240.2) (gl s240.1 (IntKind.i64.wrap (s240.2 - 1))) _ h262)) (fun _ w hw => hw) (fun _ _ _ w hw => hw.reord [] 1 rfl) rfl rfl (by kernel_rfl) fun x263 => ?_
                          refine WK.x (i := 11) (by kernel_rfl) rfl (OpV.x (R.lss rfl rfl)) (fun _ w hw => hw) (fun _ _ _ w hw => hw.reord [] 1 rfl) rfl rfl (by kernel_rfl) fun _ => ?_
                          refine WK.x (i := 12) (by kernel_rfl) rfl (OpV.x (R.not rfl)) (fun _ w hw => hw) (fun _ _ _ w hw => hw.reord [] 1 rfl) rfl rfl (by kernel_rfl) fun _ => ?_
                          refine WK.nil (by kernel_rfl) ?_
                          exact fun a w s => And.intro rfl (Exists.intro x263 (Sat.mk (s.env.le ⟨rfl, rfl, rfl, rfl, rfl, rfl, rfl, rfl, rfl, trivial⟩) (s.mem)))
                        · refine Go2.ex fun x263 => ?_
                          refine Go2.sat ?_
                          refine Go.then_ ?_
                          by_cases h264 : o261 < 0
                          · rw [if_pos h264] at hm
                            refine W.cond_f rfl (not_f (decide_eq_true h264)) ?_
                            refine W.skip ?_
                            refine Go.then_ ?_
                            obtain ⟨h265, hm⟩ := of_guard hm
                            refine W.join1 (fun a w => Sat G ((slT (Enc.int .i64) q0 (sls (sls s240.1 s240.2 (gl s240.1 (IntKind.i64.wrap (s240.2 - 1)))) (IntKind.i64.wrap (s240.2 - 1)) (gl s240.1 s240.2))) :: F) 141 [(0, q0), (1, (.int .i64 p1)), (2, (.int .i64 p2)), (3, (.func (.func g3) fs3.toArray cs3.toArray)), (8, (.bool false)), (9, (.int .i64 o181)), (10, (.int .i64 s1.2.2)), (12, (.int .i64 s240.2))] a w) ?_ ?_
                            · refine W.draw (n := 18) F F 15 (by kernel_rfl) rfl rfl (fun w hw => hw.reord [] 1 rfl) (fun w hw => hw.drop 1) ?_
                              refine WK.q (i := 0) rfl rfl (by kernel_rfl) calm_n (R.move rfl) rfl rfl ?_
                              refine WK.q (i := 1) rfl rfl (by kernel_rfl) calm_n (R.move rfl) rfl rfl ?_
                              refine WK.q (i := 2) rfl rfl (by kernel_rfl) calm_n (R.move rfl) rfl rfl ?_
                              refine WK.q (i := 3) rfl rfl (by kernel_rfl) calm_n (R.move rfl) rfl rfl ?_
                              refine WK.q (i := 4) rfl rfl (by kernel_rfl) calm_n (R.sub rfl rfl) rfl rfl ?_
                              refine WK.q (i := 5) rfl rfl (by kernel_rfl) calm_n (R.move rfl) rfl rfl ?_
                              refine WK.q (i := 6) rfl rfl (by kernel_rfl) calm_n (R.move rfl) rfl rfl ?_
                              refine WK.q (i := 7) rfl rfl (by kernel_rfl) calm_n (R.sub rfl rfl) rfl rfl ?_
                              refine WK.q (i := 10) rfl rfl (by kernel_rfl) calm_n (R.move rfl) rfl rfl ?_
                              refine WK.q (i := 11) rfl rfl (by kernel_rfl) calm_n (R.move rfl) rfl rfl ?_
                              refine WK.among (is := [8, 12]) (by kernel_rfl) rfl ?_
                              refine WKa.x rfl (OpV.x (R.idxT rfl rfl el40 (RdT.at 0 rfl) h260)) (fun _ w hw => hw.reord [] 1 rfl) (fun _ _ _ w hw => hw.reord [] 1 rfl) rfl rfl (by kernel_rfl) (fun _ => ?_) ?_
                              · refine WK.among (is := [9, 12]) (by kernel_rfl) rfl ?_
                                refine WKa.x rfl (OpV.x (R.load rfl (At.elT (RdT.at 0 rfl) (by decide) h260) (Lies.one _ ia50))) (fun _ w hw => hw.reord [] 1 rfl) (fun _ _ _ w hw => hw.reord [] 1 rfl) rfl rfl (by kernel_rfl) (fun _ => ?_) ?_
                                · refine WK.x (i := 12) (by kernel_rfl) rfl (OpV.x (R.idxT rfl rfl el40 (RdT.at 0 rfl) h259)) (fun _ w hw => hw.reord [] 1 rfl) (fun _ _ _ w hw => hw.reord [] 1 rfl) rfl rfl (by kernel_rfl) fun _ => ?_
                                  refine WK.x (i := 13) (by kernel_rfl) rfl (OpV.x (R.load rfl (At.elT (RdT.at 0 rfl) (by decide) h259) (Lies.one _ ia50))) (fun _ w hw => hw.reord [] 1 rfl) (fun _ _ _ w hw => hw.reord [] 1 rfl) rfl rfl (by kernel_rfl) fun _ => ?_
                                  refine WK.x (i := 14) (by kernel_rfl) rfl (OpV.x (R.idxT rfl rfl el40 (RdT.at 0 rfl) h259)) (fun _ w hw => hw.reord [] 1 rfl) (fun _ _ _ w hw => hw.reord [] 1 rfl) rfl rfl (by kernel_rfl) fun _ => ?_
                                  refine WK.x0 (i := 15) (by kernel_rfl) rfl (R.storeT (i := 0) (gl s240.1 (IntKind.i64.wrap (s240.2 - 1))) rfl rfl rfl (fits_int sz50) (by decide) h259) (fun _ w hw => hw.reord [] 1 rfl) (fun h1 h2 => by cases h1) rfl (by kernel_rfl) fun _ => ?_
                                  refine WK.x (i := 16) (by kernel_rfl) rfl (OpV.x (R.idxT rfl rfl el40 (RdT.at 0 rfl) h265)) (fun _ w hw => hw.reord [] 1 rfl) (fun h1 h2 => by cases h2) rfl rfl (by kernel_rfl) fun _ => ?_
                                  refine WK.x0 (i := 17) (by kernel_rfl) rfl (R.storeT (i := 0) (gl s240.1 s240.2) rfl rfl rfl (fits_int sz50) (by decide) h265) (fun _ w hw => hw.reord [] 1 rfl) (fun h1 h2 => by cases h2) rfl (by kernel_rfl) fun _ => ?_
                                  refine WK.nil (by kernel_rfl) ?_
                                  exact fun a w s => And.intro rfl (Sat.mk (s.env.le ⟨rfl, rfl, rfl, rfl, rfl, rfl, rfl, rfl, trivial⟩) (s.mem))
                                refine WKa.x rfl (OpV.x (R.idxT rfl rfl el40 (RdT.at 0 rfl) h259)) (fun _ w hw => hw.reord [] 1 rfl) (fun _ _ _ w hw => hw.reord [] 1 rfl) rfl rfl (by kernel_rfl) (fun _ => ?_) ?_
                                · refine WK.among (is := [9, 13]) (by kernel_rfl) rfl ?_
                                  refine WKa.x rfl (OpV.x (R.load rfl (At.elT (RdT.at 0 rfl) (by decide) h260) (Lies.one _ ia50))) (fun _ w hw => hw.reord [] 1 rfl) (fun _ _ _ w hw => hw.reord [] 1 rfl) rfl rfl (by kernel_rfl) (fun _ => ?_) ?_
                                  · refine WK.x (i := 13) (by kernel_rfl) rfl (OpV.x (R.load rfl (At.elT (RdT.at 0 rfl) (by decide) h259) (Lies.one _ ia50))) (fun _ w hw => hw.reord [] 1 rfl) (fun _ _ _ w hw => hw.reord [] 1 rfl) rfl rfl (by kernel_rfl) fun _ => ?_
                                    refine WK.x (i := 14) (by kernel_rfl) rfl (OpV.x (R.idxT rfl rfl el40 (RdT.at 0 rfl) h259)) (fun _ w hw => hw.reord [] 1 rfl) (fun _ _ _ w hw => hw.reord [] 1 rfl) rfl rfl (by kernel_rfl) fun _ => ?_
                                    refine WK.x0 (i := 15) (by kernel_rfl) rfl (R.storeT (i := 0) (gl s240.1 (IntKind.i64.wrap (s240.2 - 1))) rfl rfl rfl (fits_int sz50) (by decide) h259) (fun _ w hw => hw.reord [] 1 rfl) (fun h1 h2 => by cases h1) rfl (by kernel_rfl) fun _ => ?_
                                    refine WK.x (i := 16) (by kernel_rfl) rfl (OpV.x (R.idxT rfl rfl el40 (RdT.at 0 rfl) h265)) (fun _ w hw => hw.reord [] 1 rfl) (fun h1 h2 => by cases h2) rfl rfl (by kernel_rfl) fun _ => ?_
                                    refine WK.x0 (i := 17) (by kernel_rfl) rfl (R.storeT (i := 0) (gl s240.1 s240.2) rfl rfl rfl (fits_int sz50) (by decide) h265) (fun _ w hw => hw.reord [] 1 rfl) (fun h1 h2 => by cases h2) rfl (by kernel_rfl) fun _ => ?_
                                    refine WK.nil (by kernel_rfl) ?_
                                    exact fun a w s => And.intro rfl (Sat.mk (s.env.le ⟨rfl, rfl, rfl, rfl, rfl, rfl, rfl, rfl, trivial⟩) (s.mem))
                                  refine WKa.x rfl (OpV.x (R.load rfl (At.elT (RdT.at 0 rfl) (by decide) h259) (Lies.one _ ia50))) (fun _ w hw => hw.reord [] 1 rfl) (fun _ _ _ w hw => hw.reord [] 1 rfl) rfl rfl (by kernel_rfl) (fun _ => ?_) ?_
                                  · refine WK.x (i := 9) (by kernel_rfl) rfl (OpV.x (R.load rfl (At.elT (RdT.at 0 rfl) (by decide) h260) (Lies.one _ ia50))) (fun _ w hw => hw.reord [] 1 rfl) (fun _ _ _ w hw => hw.reord [] 1 rfl) rfl rfl (by kernel_rfl) fun _ => ?_
                                    refine WK.x (i := 14) (by kernel_rfl) rfl (OpV.x (R.idxT rfl rfl el40 (RdT.at 0 rfl) h259)) (fun _ w hw => hw.reord [] 1 rfl) (fun _ _ _ w hw => hw.reord [] 1 rfl) rfl rfl (by kernel_rfl) fun _ => ?_
                                    refine WK.x0 (i := 15) (by kernel_rfl) rfl (R.storeT (i := 0) (gl s240.1 (IntKind.i64.wrap (s240.2 - 1))) rfl rfl rfl (fits_int sz50) (by decide) h259) (fun _ w hw => hw.reord [] 1 rfl) (fun h1 h2 => by cases h1) rfl (by kernel_rfl) fun _ => ?_
                                    refine WK.x (i := 16) (by kernel_rfl) rfl (OpV.x (R.idxT rfl rfl el40 (RdT.at 0 rfl) h265)) (fun _ w hw => hw.reord [] 1 rfl) (fun h1 h2 => by cases h2) rfl rfl (by kernel_rfl) fun _ => ?_
                                    refine WK.x0 (i := 17) (by kernel_rfl) rfl (R.storeT (i := 0) (gl s240.1 s240.2) rfl rfl rfl (fits_int sz50) (by decide) h265) (fun _ w hw => hw.reord [] 1 rfl) (fun h1 h2 => by cases h2) rfl (by kernel_rfl) fun _ => ?_
                                    refine WK.nil (by kernel_rfl) ?_
                                    exact fun a w s => And.intro rfl (Sat.mk (s.env.le ⟨rfl, rfl, rfl, rfl, rfl, rfl, rfl, rfl, trivial⟩) (s.mem))
                                  exact WKa.nil
                                exact WKa.nil
                              refine WKa.x rfl (OpV.x (R.idxT rfl rfl el40 (RdT.at 0 rfl) h259)) (fun _ w hw => hw.reord [] 1 rfl) (fun _ _ _ w hw => hw.reord [] 1 rfl) rfl rfl (by kernel_rfl) (fun _ => ?_) ?_
                              · refine WK.among (is := [8, 13]) (by kernel_rfl) rfl ?_
                                refine WKa.x rfl (OpV.x (R.idxT rfl rfl el40 (RdT.at 0 rfl) h260)) (fun _ w hw => hw.reord [] 1 rfl) (fun _ _ _ w hw => hw.reord [] 1 rfl) rfl rfl (by kernel_rfl) (fun _ => ?_) ?_
                                · refine WK.among (is := [9, 13]) (by kernel_rfl) rfl ?_
                                  refine WKa.x rfl (OpV.x (R.load rfl (At.elT (RdT.at 0 rfl) (by decide) h260) (Lies.one _ ia50))) (fun _ w hw => hw.reord [] 1 rfl) (fun _ _ _ w hw => hw.reord [] 1 rfl) rfl rfl (by kernel_rfl) (fun _ => ?_) ?_
                                  · refine WK.x (i := 13) (by kernel_rfl) rfl (OpV.x (R.load rfl (At.elT (RdT.at 0 rfl) (by decide) h259) (Lies.one _ ia50))) (fun _ w hw => hw.reord [] 1 rfl) (fun _ _ _ w hw => hw.reord [] 1 rfl) rfl rfl (by kernel_rfl) fun _ => ?_
                                    refine WK.x (i := 14) (by kernel_rfl) rfl (OpV.x (R.idxT rfl rfl el40 (RdT.at 0 rfl) h259)) (fun _ w hw => hw.reord [] 1 rfl) (fun _ _ _ w hw => hw.reord [] 1 rfl) rfl rfl (by kernel_rfl) fun _ => ?_
                                    refine WK.x0 (i := 15) (by kernel_rfl) rfl (R.storeT (i := 0) (gl s240.1 (IntKind.i64.wrap (s240.2 - 1))) rfl rfl rfl (fits_int sz50) (by decide) h259) (fun _ w hw => hw.reord [] 1 rfl) (fun h1 h2 => by cases h1) rfl (by kernel_rfl) fun _ => ?_
                                    refine WK.x (i := 16) (by kernel_rfl) rfl (OpV.x (R.idxT rfl rfl el40 (RdT.at 0 rfl) h265)) (fun _ w hw => hw.reord [] 1 rfl) (fun h1 h2 => by cases h2) rfl rfl (by kernel_rfl) fun _ => ?_
                                    refine WK.x0 (i := 17) (by kernel_rfl) rfl (R.storeT (i := 0) (gl s240.1 s240.2) rfl rfl rfl (fits_int sz50) (by decide) h265) (fun _ w hw => hw.reord [] 1 rfl) (fun h1 h2 => by cases h2) rfl (by kernel_rfl) fun _ => ?_
                                    refine WK.nil (by kernel_rfl) ?_
                                    exact fun a w s => And.intro rfl (Sat.mk (s.env.le ⟨rfl, rfl, rfl, rfl, rfl, rfl, rfl, rfl, trivial⟩) (s.mem))
                                  refine WKa.x rfl (OpV.x (R.load rfl (At.elT (RdT.at 0 rfl) (by decide) h259) (Lies.one _ ia50))) (fun _ w hw => hw.reord [] 1 rfl) (fun _ _ _ w hw => hw.reord [] 1 rfl) rfl rfl (by kernel_rfl) (fun _ => ?_) ?_
                                  · refine WK.x (i := 9) (by kernel_rfl) rfl (OpV.x (R.load rfl (At.elT (RdT.at 0 rfl) (by decide) h260) (Lies.one _ ia50))) (fun _ w hw => hw.reord [] 1 rfl) (fun _ _ _ w hw => hw.reord [] 1 rfl) rfl rfl (by kernel_rfl) fun _ => ?_
                                    refine WK.x (i := 14) (by kernel_rfl) rfl (OpV.x (R.idxT rfl rfl el40 (RdT.at 0 rfl) h259)) (fun _ w hw => hw.reord [] 1 rfl) (fun _ _ _ w hw => hw.reord [] 1 rfl) rfl rfl (by kernel_rfl) fun _ => ?_
                                    refine WK.x0 (i := 15) (by kernel_rfl) rfl (R.storeT (i := 0) (gl s240.1 (IntKind.i64.wrap (s240.2 - 1))) rfl rfl rfl (fits_int sz50) (by decide) h259) (fun _ w hw => hw.reord [] 1 rfl) (fun h1 h2 => by cases h1) rfl (by kernel_rfl) fun _ => ?_
                                    refine WK.x (i := 16) (by kernel_rfl) rfl (OpV.x (R.idxT rfl rfl el40 (RdT.at 0 rfl) h265)) (fun _ w hw => hw.reord [] 1 rfl) (fun h1 h2 => by cases h2) rfl rfl (by kernel_rfl) fun _ => ?_
                                    refine WK.x0 (i := 17) (by kernel_rfl) rfl (R.storeT (i := 0) (gl s240.1 s240.2) rfl rfl rfl (fits_int sz50) (by decide) h265) (fun _ w hw => hw.reord [] 1 rfl) (fun h1 h2 => by cases h2) rfl (by kernel_rfl) fun _ => ?_
                                    refine WK.nil (by kernel_rfl) ?_
                                    exact fun a w s => And.intro rfl (Sat.mk (s.env.le ⟨rfl, rfl, rfl, rfl, rfl, rfl, rfl, rfl, trivial⟩) (s.mem))
                                  exact WKa.nil
                                refine WKa.x rfl (OpV.x (R.load rfl (At.elT (RdT.at 0 rfl) (by decide) h259) (Lies.one _ ia50))) (fun _ w hw => hw.reord [] 1 rfl) (fun _ _ _ w hw => hw.reord [] 1 rfl) rfl rfl (by kernel_rfl) (fun _ => ?_) ?_
                                · refine WK.x (i := 8) (by kernel_rfl) rfl (OpV.x (R.idxT rfl rfl el40 (RdT.at 0 rfl) h260)) (fun _ w hw => hw.reord [] 1 rfl) (fun _ _ _ w hw => hw.reord [] 1 rfl) rfl rfl (by kernel_rfl) fun _ => ?_
                                  refine WK.x (i := 9) (by kernel_rfl) rfl (OpV.x (R.load rfl (At.elT (RdT.at 0 rfl) (by decide) h260) (Lies.one _ ia50))) (fun _ w hw => hw.reord [] 1 rfl) (fun _ _ _ w hw => hw.reord [] 1 rfl) rfl rfl (by kernel_rfl) fun _ => ?_
                                  refine WK.x (i := 14) (by kernel_rfl) rfl (OpV.x (R.idxT rfl rfl el40 (RdT.at 0 rfl) h259)) (fun _ w hw => hw.reord [] 1 rfl) (fun _ _ _ w hw => hw.reord [] 1 rfl) rfl rfl (by kernel_rfl) fun _ => ?_
                                  refine WK.x0 (i := 15) (by kernel_rfl) rfl (R.storeT (i := 0) (gl s240.1 (IntKind.i64.wrap (s240.2 - 1))) rfl rfl rfl (fits_int sz50) (by decide) h259) (fun _ w hw => hw.reord [] 1 rfl) (fun h1 h2 => by cases h1) rfl (by kernel_rfl) fun _ => ?_
                                  refine WK.x (i := 16) (by kernel_rfl) rfl (OpV.x (R.idxT rfl rfl el40 (RdT.at 0 rfl) h265)) (fun _ w hw => hw.reord [] 1 rfl) (fun h1 h2 => by cases h2) rfl rfl (by kernel_rfl) fun _ => ?_
                                  refine WK.x0 (i := 17) (by kernel_rfl) rfl (R.storeT (i := 0) (gl s240.1 s240.2) rfl rfl rfl (fits_int sz50) (by decide) h265) (fun _ w hw => hw.reord [] 1 rfl) (fun h1 h2 => by cases h2) rfl (by kernel_rfl) fun _ => ?_
                                  refine WK.nil (by kernel_rfl) ?_
                                  exact fun a w s => And.intro rfl (Sat.mk (s.env.le ⟨rfl, rfl, rfl, rfl, rfl, rfl, rfl, rfl, trivial⟩) (s.mem))
                                exact WKa.nil
                              exact WKa.nil
                            · refine Go2.sat ?_
                              refine Go.n_block ?_
                              refine Go.then_ ?_
                              refine W.region ?_
                              refine WL.q (R.move rfl) rfl ?_
                              refine WL.q (R.add rfl rfl) rfl ?_
                              refine WL.q (R.assign rfl) rfl ?_
                              refine WL.nil ?_
                              have he := Option.some.inj hm
                              clear hm
                              subst x
                              exact fun a w s => Exists.intro _ (And.intro rfl (Sat.mk (s.env.le ⟨rfl, rfl, rfl, rfl, rfl, rfl, rfl, rfl, trivial⟩) (s.mem)))
                          · rw [if_neg h264] at hm
                            refine W.cond_t rfl (not_t (decide_eq_false h264)) ?_
                            refine W.exit ?_
                            refine Go.x_then ?_
                            refine Go.x_pass rfl ?_
                            refine Go.x_then ?_
                            have he := Option.some.inj hm
                            clear hm
                            subst x
                            exact fun a w s => Exists.intro _ (And.intro rfl (And.intro rfl (Sat.mk (s.env.le ⟨rfl, rfl, rfl, rfl, rfl, rfl, rfl, trivial⟩) (s.mem))))
                      · rw [if_neg h258] at hm
                        refine W.cond_f rfl (decide_eq_false h258) ?_
                        refine W.exit ?_
                        refine Go.x_then ?_
                        have he := Option.some.inj hm
                        clear hm
                        subst x
                        exact fun a w s => Exists.intro _ (And.intro rfl (And.intro rfl (Sat.mk (s.env.le ⟨rfl, rfl, rfl, rfl, rfl, rfl, rfl, trivial⟩) (s.mem))))
                    · intro e a w hJ
                      obtain ⟨rfl, s⟩ := hJ
                      refine Go.use s ?_
                      refine Go.x_block ?_
                      refine Go.n_block ?_
                      have he := Option.some.inj hm
                      clear hm
                      subst o266
                      exact fun a w s => And.intro rfl (Sat.mk (s.env.le ⟨rfl, rfl, rfl, rfl, rfl, rfl, rfl, trivial⟩) (s.mem))
                  · rw [if_neg h239] at hm
                    refine W.cond_f rfl (decide_eq_false h239) ?_
                    refine W.skip ?_
                    refine Go.n_block ?_
                    have he := Option.some.inj hm
                    clear hm
                    subst o266
                    exact fun a w s => And.intro rfl (Sat.mk (s.env.le ⟨rfl, rfl, rfl, rfl, rfl, rfl, rfl, trivial⟩) (s.mem))
      · intro e a w hJ
        replace hm := hmo266
        clear hmo266
        rcases o266 with o266 | o266
        · simp only [Sum.elim_inl, Sum.elim_inr] at hm
          obtain ⟨rfl, s⟩ := hJ
          refine Go.use s ?_
          refine Go.then_ ?_
          refine W.region ?_
          refine WL.q (R.move rfl) rfl ?_
          refine WL.q (R.add rfl rfl) rfl ?_
          refine WL.q (R.assign rfl) rfl ?_
          refine WL.nil ?_
          have he := Option.some.inj hm
          clear hm
          subst x
          exact fun a w s => Exists.intro _ (And.intro rfl (Sat.mk (s.env.le ⟨rfl, rfl, rfl, rfl, rfl, rfl, rfl, trivial⟩) (s.mem)))
        · simp only [Sum.elim_inl, Sum.elim_inr] at hm
          obtain ⟨rfl, s⟩ := hJ
          refine Go.use s ?_
          refine Go.r_then ?_
          have he := Option.some.inj hm
          clear hm
          subst x
          exact fun a w s => Exists.intro _ (And.intro rfl (And.intro rfl (Sat.mk (s.env.le ⟨rfl, trivial⟩) (s.mem))))
    · rw [if_neg h179] at hm
      refine W.cond_f rfl (decide_eq_false h179) ?_
      refine W.exit ?_
      refine Go.x_then ?_
      have he := Option.some.inj hm
      clear hm
      subst x
      exact fun a w s => Exists.intro _ (And.intro rfl (And.intro rfl (Sat.mk (s.env.le ⟨rfl, trivial⟩) (s.mem))))
  · intro e a w hJ
    rcases o2 with o2 | o2
    · simp only [Sum.elim_inl, Sum.elim_inr] at hm
      obtain ⟨rfl, s⟩ := hJ
      refine Go.use s ?_
      refine Go.x_block ?_
      refine Go.then_ ?_
      refine W.seq ?_
      refine W.region ?_
      refine WL.q (R.assign rfl) rfl ?_
      refine WL.nil ?_
      refine Go.then_ ?_
      refine W.ret ?_
      have he := Option.some.inj hm
      clear hm
      subst r
      exact Go.ret1 rfl (.tmp rfl) (fun w hw => ⟨_, rfl, _, ⟨(), rfl, rfl⟩, hw⟩)
    · simp only [Sum.elim_inl, Sum.elim_inr] at hm
      obtain ⟨rfl, s⟩ := hJ
      refine Go.use s ?_
      refine Go.r_block ?_
      refine Go.r_then ?_
      have he := Option.some.inj hm
      clear hm
      subst r
      exact Go.ret1 rfl (.tmp rfl) (fun w hw => ⟨_, rfl, _, ⟨(), rfl, rfl⟩, hw⟩)
set_option maxRecDepth 100000 in
theorem slices_partitionEqualCmpFunc_impl_set_tr {G : World} {F : List Res} (q0 : Value) (p0 : (List Int)) (p1 : Int) (p2 : Int) (p3 : Int) (g4 : FuncId) (fs4 cs4 : List Value) (f4 : Int → Int → Option Int) (en_4 : Enters Try.prog g4) (hf4 : ∀ (L : List Res) (a0 : Int) (a1 : Int) (r : Int), f4 a0 a1 = some r → Tr Try.prog G g4 (fs4 ++ [(.int .i64 a0), (.int .i64 a1)] ++ cs4) (L ++ F) (fun u K => ∃ x : Unit, u = (.int .i64 r) ∧ K = L ++ F)) {r : (Int × (List Int))} (hm : slices_partitionEqualCmpFunc_impl_set p0 p1 p2 p3 f4 = some r) : Tr Try.prog G 63 [q0, (.int .i64 p1), (.int .i64 p2), (.int .i64 p3), (.func (.func g4) fs4.toArray cs4.toArray)] ((slT (Enc.int .i64) q0 p0) :: F) (fun u K => ∃ x : Unit, u = (.int .i64 r.1) ∧ K = ((slT (Enc.int .i64) q0 r.2) :: F)) := by
  unfold slices_partitionEqualCmpFunc_impl_set at hm
  refine Tr.body Try.func63 rfl Try.ntmps63 ?_
  refine W.seq ?_
  refine W.region ?_
  refine WL.q (R.assign rfl) rfl ?_
  refine WL.nil ?_
  refine Go.then_ ?_
  refine W.seq ?_
  obtain ⟨h1, hm⟩ := of_guard hm
  obtain ⟨h2, hm⟩ := of_guard hm
  obtain ⟨h3, hm⟩ := of_guard hm
  refine W.join1 (fun a w => Sat G ((slT (Enc.int .i64) q0 (sls (sls p0 p1 (gl p0 p3)) p3 (gl p0 p1))) :: F) 90 [(0, q0), (1, (.int .i64 p1)), (2, (.int .i64 p2)), (4, (.func (.func g4) fs4.toArray cs4.toArray)), (10, (.int .i64 0))] a w) ?_ ?_
  · refine W.draw (n := 16) F F 13 (by kernel_rfl) rfl rfl (fun w hw => hw.reord [] 1 rfl) (fun w hw => hw.drop 1) ?_
    refine WK.q (i := 0) rfl rfl (by kernel_rfl) calm_n (R.move rfl) rfl rfl ?_
    refine WK.q (i := 1) rfl rfl (by kernel_rfl) calm_n (R.move rfl) rfl rfl ?_
    refine WK.q (i := 2) rfl rfl (by kernel_rfl) calm_n (R.move rfl) rfl rfl ?_
    refine WK.q (i := 3) rfl rfl (by kernel_rfl) calm_n (R.move rfl) rfl rfl ?_
    refine WK.q (i := 4) rfl rfl (by kernel_rfl) calm_n (R.move rfl) rfl rfl ?_
    refine WK.q (i := 5) rfl rfl (by kernel_rfl) calm_n (R.move rfl) rfl rfl ?_
    refine WK.q (i := 8) rfl rfl (by kernel_rfl) calm_n (R.move rfl) rfl rfl ?_
    refine WK.q (i := 9) rfl rfl (by kernel_rfl) calm_n (R.move rfl) rfl rfl ?_
    refine WK.among (is := [6, 10]) (by kernel_rfl) rfl ?_
    refine WKa.x rfl (OpV.x (R.idxT rfl rfl el40 (RdT.at 0 rfl) h1)) (fun _ w hw => hw.reord [] 1 rfl) (fun _ _ _ w hw => hw.reord [] 1 rfl) rfl rfl (by kernel_rfl) (fun _ => ?_) ?_
    · refine WK.among (is := [7, 10]) (by kernel_rfl) rfl ?_
      refine WKa.x rfl (OpV.x (R.load rfl (At.elT (RdT.at 0 rfl) (by decide) h1) (Lies.one _ ia50))) (fun _ w hw => hw.reord [] 1 rfl) (fun _ _ _ w hw => hw.reord [] 1 rfl) rfl rfl (by kernel_rfl) (fun _ => ?_) ?_
      · refine WK.x (i := 10) (by kernel_rfl) rfl (OpV.x (R.idxT rfl rfl el40 (RdT.at 0 rfl) h2)) (fun _ w hw => hw.reord [] 1 rfl) (fun _ _ _ w hw => hw.reord [] 1 rfl) rfl rfl (by kernel_rfl) fun _ => ?_
        refine WK.x (i := 11) (by kernel_rfl) rfl (OpV.x (R.load rfl (At.elT (RdT.at 0 rfl) (by decide) h2) (Lies.one _ ia50))) (fun _ w hw => hw.reord [] 1 rfl) (fun _ _ _ w hw => hw.reord [] 1 rfl) rfl rfl (by kernel_rfl) fun _ => ?_
        refine WK.x (i := 12) (by kernel_rfl) rfl (OpV.x (R.idxT rfl rfl el40 (RdT.at 0 rfl) h2)) (fun _ w hw => hw.reord [] 1 rfl) (fun _ _ _ w hw => hw.reord [] 1 rfl) rfl rfl (by kernel_rfl) fun _ => ?_
        refine WK.x0 (i := 13) (by kernel_rfl) rfl (R.storeT (i := 0) (gl p0 p3) rfl rfl rfl (fits_int sz50) (by decide) h2) (fun _ w hw => hw.reord [] 1 rfl) (fun h1 h2 => by cases h1) rfl (by kernel_rfl) fun _ => ?_
        refine WK.x (i := 14) (by kernel_rfl) rfl (OpV.x (R.idxT rfl rfl el40 (RdT.at 0 rfl) h3)) (fun _ w hw => hw.reord [] 1 rfl) (fun h1 h2 => by cases h2) rfl rfl (by kernel_rfl) fun _ => ?_
        refine WK.x0 (i := 15) (by kernel_rfl) rfl (R.storeT (i := 0) (gl p0 p1) rfl rfl rfl (fits_int sz50) (by decide) h3) (fun _ w hw => hw.reord [] 1 rfl) (fun h1 h2 => by cases h2) rfl (by kernel_rfl) fun _ => ?_
        refine WK.nil (by kernel_rfl) ?_
        exact fun a w s => And.intro rfl (Sat.mk (s.env.le ⟨rfl, rfl, rfl, rfl, rfl, trivial⟩) (s.mem))
      refine WKa.x rfl (OpV.x (R.idxT rfl rfl el40 (RdT.at 0 rfl) h2)) (fun _ w hw => hw.reord [] 1 rfl) (fun _ _ _ w hw => hw.reord [] 1 rfl) rfl rfl (by kernel_rfl) (fun _ => ?_) ?_
      · refine WK.among (is := [7, 11]) (by kernel_rfl) rfl ?_
        refine WKa.x rfl (OpV.x (R.load rfl (At.elT (RdT.at 0 rfl) (by decide) h1) (Lies.one _ ia50))) (fun _ w hw => hw.reord [] 1 rfl) (fun _ _ _ w hw => hw.reord [] 1 rfl) rfl rfl (by kernel_rfl) (fun _ => ?_) ?_
        · refine WK.x (i := 11) (by kernel_rfl) rfl (OpV.x (R.load rfl (At.elT (RdT.at 0 rfl) (by decide) h2) (Lies.one _ ia50))) (fun _ w hw => hw.reord [] 1 rfl) (fun _ _ _ w hw => hw.reord [] 1 rfl) rfl rfl (by kernel_rfl) fun _ => ?_
          refine WK.x (i := 12) (by kernel_rfl) rfl (OpV.x (R.idxT rfl rfl el40 (RdT.at 0 rfl) h2)) (fun _ w hw => hw.reord [] 1 rfl) (fun _ _ _ w hw => hw.reord [] 1 rfl) rfl rfl (by kernel_rfl) fun _ => ?_
          refine WK.x0 (i := 13) (by kernel_rfl) rfl (R.storeT (i := 0) (gl p0 p3) rfl rfl rfl (fits_int sz50) (by decide) h2) (fun _ w hw => hw.reord [] 1 rfl) (fun h1 h2 => by cases h1) rfl (by kernel_rfl) fun _ => ?_
          refine WK.x (i := 14) (by kernel_rfl) rfl (OpV.x (R.idxT rfl rfl el40 (RdT.at 0 rfl) h3)) (fun _ w hw => hw.reord [] 1 rfl) (fun h1 h2 => by cases h2) rfl rfl (by kernel_rfl) fun _ => ?_
          refine WK.x0 (i := 15) (by kernel_rfl) rfl (R.storeT (i := 0) (gl p0 p1) rfl rfl rfl (fits_int sz50) (by decide) h3) (fun _ w hw => hw.reord [] 1 rfl) (fun h1 h2 => by cases h2) rfl (by kernel_rfl) fun _ => ?_
          refine WK.nil (by kernel_rfl) ?_
          exact fun a w s => And.intro rfl (Sat.mk (s.env.le ⟨rfl, rfl, rfl, rfl, rfl, trivial⟩) (s.mem))
        refine WKa.x rfl (OpV.x (R.load rfl (At.elT (RdT.at 0 rfl) (by decide) h2) (Lies.one _ ia50))) (fun _ w hw => hw.reord [] 1 rfl) (fun _ _ _ w hw => hw.reord [] 1 rfl) rfl rfl (by kernel_rfl) (fun _ => ?_) ?_
        · refine WK.x (i := 7) (by kernel_rfl) rfl (OpV.x (R.load rfl (At.elT (RdT.at 0 rfl) (by decide) h1) (Lies.one _ ia50))) (fun _ w hw => hw.reord [] 1 rfl) (fun _ _ _ w hw => hw.reord [] 1 rfl) rfl rfl (by kernel_rfl) fun _ => ?_
          refine WK.x (i := 12) (by kernel_rfl) rfl (OpV.x (R.idxT rfl rfl el40 (RdT.at 0 rfl) h2)) (fun _ w hw => hw.reord [] 1 rfl) (fun _ _ _ w hw => hw.reord [] 1 rfl) rfl rfl (by kernel_rfl) fun _ => ?_
          refine WK.x0 (i := 13) (by kernel_rfl) rfl (R.storeT (i := 0) (gl p0 p3) rfl rfl rfl (fits_int sz50) (by decide) h2) (fun _ w hw => hw.reord [] 1 rfl) (fun h1 h2 => by cases h1) rfl (by kernel_rfl) fun _ => ?_
          refine WK.x (i := 14) (by kernel_rfl) rfl (OpV.x (R.idxT rfl rfl el40 (RdT.at 0 rfl) h3)) (fun _ w hw => hw.reord [] 1 rfl) (fun h1 h2 => by cases h2) rfl rfl (by kernel_rfl) fun _ => ?_
          refine WK.x0 (i := 15) (by kernel_rfl) rfl (R.storeT (i := 0) (gl p0 p1) rfl rfl rfl (fits_int sz50) (by decide) h3) (fun _ w hw => hw.reord [] 1 rfl) (fun h1 h2 => by cases h2) rfl (by kernel_rfl) fun _ => ?_
          refine WK.nil (by kernel_rfl) ?_
          exact fun a w s => And.intro rfl (Sat.mk (s.env.le ⟨rfl, rfl, rfl, rfl, rfl, trivial⟩) (s.mem))
        exact WKa.nil
      exact WKa.nil
    refine WKa.x rfl (OpV.x (R.idxT rfl rfl el40 (RdT.at 0 rfl) h2)) (fun _ w hw => hw.reord [] 1 rfl) (fun _ _ _ w hw => hw.reord [] 1 rfl) rfl rfl (by kernel_rfl) (fun _ => ?_) ?_
    · refine WK.among (is := [6, 11]) (by kernel_rfl) rfl ?_
      refine WKa.x rfl (OpV.x (R.idxT rfl rfl el40 (RdT.at 0 rfl) h1)) (fun _ w hw => hw.reord [] 1 rfl) (fun _ _ _ w hw => hw.reord [] 1 rfl) rfl rfl (by kernel_rfl) (fun _ => ?_) ?_
      · refine WK.among (is := [7, 11]) (by kernel_rfl) rfl ?_
        refine WKa.x rfl (OpV.x (R.load rfl (At.elT (RdT.at 0 rfl) (by decide) h1) (Lies.one _ ia50))) (fun _ w hw => hw.reord [] 1 rfl) (fun _ _ _ w hw => hw.reord [] 1 rfl) rfl rfl (by kernel_rfl) (fun _ => ?_) ?_
        · refine WK.x (i := 11) (by kernel_rfl) rfl (OpV.x (R.load rfl (At.elT (RdT.at 0 rfl) (by decide) h2) (Lies.one _ ia50))) (fun _ w hw => hw.reord [] 1 rfl) (fun _ _ _ w hw => hw.reord [] 1 rfl) rfl rfl (by kernel_rfl) fun _ => ?_
          refine WK.x (i := 12) (by kernel_rfl) rfl (OpV.x (R.idxT rfl rfl el40 (RdT.at 0 rfl) h2)) (fun _ w hw => hw.reord [] 1 rfl) (fun _ _ _ w hw => hw.reord [] 1 rfl) rfl rfl (by kernel_rfl) fun _ => ?_
          refine WK.x0 (i := 13) (by kernel_rfl) rfl (R.storeT (i := 0) (gl p0 p3) rfl rfl rfl (fits_int sz50) (by decide) h2) (fun _ w hw => hw.reord [] 1 rfl) (fun h1 h2 => by cases h1) rfl (by kernel_rfl) fun _ => ?_
          refine WK.x (i := 14) (by kernel_rfl) rfl (OpV.x (R.idxT rfl rfl el40 (RdT.at 0 rfl) h3)) (fun _ w hw => hw.reord [] 1 rfl) (fun h1 h2 => by cases h2) rfl rfl (by kernel_rfl) fun _ => ?_
          refine WK.x0 (i := 15) (by kernel_rfl) rfl (R.storeT (i := 0) (gl p0 p1) rfl rfl rfl (fits_int sz50) (by decide) h3) (fun _ w hw => hw.reord [] 1 rfl) (fun h1 h2 => by cases h2) rfl (by kernel_rfl) fun _ => ?_
          refine WK.nil (by kernel_rfl) ?_
          exact fun a w s => And.intro rfl (Sat.mk (s.env.le ⟨rfl, rfl, rfl, rfl, rfl, trivial⟩) (s.mem))
        refine WKa.x rfl (OpV.x (R.load rfl (At.elT (RdT.at 0 rfl) (by decide) h2) (Lies.one _ ia50))) (fun _ w hw => hw.reord [] 1 rfl) (fun _ _ _ w hw => hw.reord [] 1 rfl) rfl rfl (by kernel_rfl) (fun _ => ?_) ?_
        · refine WK.x (i := 7) (by kernel_rfl) rfl (OpV.x (R.load rfl (At.elT (RdT.at 0 rfl) (by decide) h1) (Lies.one _ ia50))) (fun _ w hw => hw.reord [] 1 rfl) (fun _ _ _ w hw => hw.reord [] 1 rfl) rfl rfl (by kernel_rfl) fun _ => ?_
          refine WK.x (i := 12) (by kernel_rfl) rfl (OpV.x (R.idxT rfl rfl el40 (RdT.at 0 rfl) h2)) (fun _ w hw => hw.reord [] 1 rfl) (fun _ _ _ w hw => hw.reord [] 1 rfl) rfl rfl (by kernel_rfl) fun _ => ?_
          refine WK.x0 (i := 13) (by kernel_rfl) rfl (R.storeT (i := 0) (gl p0 p3) rfl rfl rfl (fits_int sz50) (by decide) h2) (fun _ w hw => hw.reord [] 1 rfl) (fun h1 h2 => by cases h1) rfl (by kernel_rfl) fun _ => ?_
          refine WK.x (i := 14) (by kernel_rfl) rfl (OpV.x (R.idxT rfl rfl el40 (RdT.at 0 rfl) h3)) (fun _ w hw => hw.reord [] 1 rfl) (fun h1 h2 => by cases h2) rfl rfl (by kernel_rfl) fun _ => ?_
          refine WK.x0 (i := 15) (by kernel_rfl) rfl (R.storeT (i := 0) (gl p0 p1) rfl rfl rfl (fits_int sz50) (by decide) h3) (fun _ w hw => hw.reord [] 1 rfl) (fun h1 h2 => by cases h2) rfl (by kernel_rfl) fun _ => ?_
          refine WK.nil (by kernel_rfl) ?_
          exact fun a w s => And.intro rfl (Sat.mk (s.env.le ⟨rfl, rfl, rfl, rfl, rfl, trivial⟩) (s.mem))
        exact WKa.nil
      refine WKa.x rfl (OpV.x (R.load rfl (At.elT (RdT.at 0 rfl) (by decide) h2) (Lies.one _ ia50))) (fun _ w hw => hw.reord [] 1 rfl) (fun _ _ _ w hw => hw.reord [] 1 rfl) rfl rfl (by kernel_rfl) (fun _ => ?_) ?_
      · refine WK.x (i := 6) (by kernel_rfl) rfl (OpV.x (R.idxT rfl rfl el40 (RdT.at 0 rfl) h1)) (fun _ w hw => hw.reord [] 1 rfl) (fun _ _ _ w hw => hw.reord [] 1 rfl) rfl rfl (by kernel_rfl) fun _ => ?_
        refine WK.x (i := 7) (by kernel_rfl) rfl (OpV.x (R.load rfl (At.elT (RdT.at 0 rfl) (by decide) h1) (Lies.one _ ia50))) (fun _ w hw => hw.reord [] 1 rfl) (fun _ _ _ w hw => hw.reord [] 1 rfl) rfl rfl (by kernel_rfl) fun _ => ?_
        refine WK.x (i := 12) (by kernel_rfl) rfl (OpV.x (R.idxT rfl rfl el40 (RdT.at 0 rfl) h2)) (fun _ w hw => hw.reord [] 1 rfl) (fun _ _ _ w hw => hw.reord [] 1 rfl) rfl rfl (by kernel_rfl) fun _ => ?_
        refine WK.x0 (i := 13) (by kernel_rfl) rfl (R.storeT (i := 0) (gl p0 p3) rfl rfl rfl (fits_int sz50) (by decide) h2) (fun _ w hw => hw.reord [] 1 rfl) (fun h1 h2 => by cases h1) rfl (by kernel_rfl) fun _ => ?_
        refine WK.x (i := 14) (by kernel_rfl) rfl (OpV.x (R.idxT rfl rfl el40 (RdT.at 0 rfl) h3)) (fun _ w hw => hw.reord [] 1 rfl) (fun h1 h2 => by cases h2) rfl rfl (by kernel_rfl) fun _ => ?_
        refine WK.x0 (i := 15) (by kernel_rfl) rfl (R.storeT (i := 0) (gl p0 p1) rfl rfl rfl (fits_int sz50) (by decide) h3) (fun _ w hw => hw.reord [] 1 rfl) (fun h1 h2 => by cases h2) rfl (by kernel_rfl) fun _ => ?_
        refine WK.nil (by kernel_rfl) ?_
        exact fun a w s => And.intro rfl (Sat.mk (s.env.le ⟨rfl, rfl, rfl, rfl, rfl, trivial⟩) (s.mem))
      exact WKa.nil
    exact WKa.nil
  · refine Go2.sat ?_
    refine Go.then_ ?_
    refine W.seq ?_
    refine W.region ?_
    refine WL.q (R.move rfl) rfl ?_
    refine WL.q (R.add rfl rfl) rfl ?_
    refine WL.q (R.move rfl) rfl ?_
    refine WL.q (R.sub rfl rfl) rfl ?_
    refine WL.q (R.assign rfl) rfl ?_
    refine WL.q (R.assign rfl) rfl ?_
    refine WL.nil ?_
    refine Go.then_ ?_
    refine W.seq ?_
    refine W.block ?_
    obtain ⟨o5, hlo5, hm⟩ := of_bind hm
    refine W.loopx (fun (s4 : ((List Int) × Int × Int)) a w => Sat G ((slT (Enc.int .i64) q0 s4.1) :: F) 90 [(0, q0), (1, (.int .i64 p1)), (4, (.func (.func g4) fs4.toArray cs4.toArray)), (10, (.int .i64 0)), (11, (.int .i64 s4.2.1)), (12, (.int .i64 s4.2.2))] a w) (fun (o5 : ((List Int) × Int)) e a w => And (e = (.exit 0)) (Sat G ((slT (Enc.int .i64) q0 o5.1) :: F) 90 [(10, (.int .i64 0)), (11, (.int .i64 o5.2))] a w)) hlo5 (fun a w s => (Sat.mk (s.env.le ⟨rfl, rfl, rfl, rfl, rfl, rfl, trivial⟩) (s.mem))) ?_ ?_
    · clear hm
      intro s4 x hm a w hJ
      have s := hJ
      unfold slices_partitionEqualCmpFunc_impl_set_L1 at hm
      refine W.use s ?_
      refine W.block ?_
      refine W.seq ?_
      refine W.block ?_
      obtain ⟨o119, hlo119, hm⟩ := of_bind hm
      refine W.loopx (fun (s118 : Int) a w => Sat G ((slT (Enc.int .i64) q0 s4.1) :: F) 90 [(0, q0), (1, (.int .i64 p1)), (4, (.func (.func g4) fs4.toArray cs4.toArray)), (10, (.int .i64 0)), (11, (.int .i64 s118)), (12, (.int .i64 s4.2.2))] a w) (fun (o119 : Int) e a w => And (e = (.exit 2)) (Sat G ((slT (Enc.int .i64) q0 s4.1) :: F) 90 [(0, q0), (1, (.int .i64 p1)), (4, (.func (.func g4) fs4.toArray cs4.toArray)), (10, (.int .i64 0)), (11, (.int .i64 o119)), (12, (.int .i64 s4.2.2))] a w)) hlo119 (fun a w s => (Sat.mk (s.env.le ⟨rfl, rfl, rfl, rfl, rfl, rfl, trivial⟩) (s.mem))) ?_ ?_
      · clear hm
        intro s118 x hm a w hJ
        have s := hJ
        unfold slices_partitionEqualCmpFunc_impl_set_L2 at hm
        refine W.use s ?_
        refine W.seq ?_
        obtain ⟨o142, hm, hmo142⟩ := of_bind hm
        refine W.seq ?_
        refine W.join (fun e a w => And (e = .normal) (Sat G ((slT (Enc.int .i64) q0 s4.1) :: F) 90 [(0, q0), (1, (.int .i64 p1)), (4, (.func (.func g4) fs4.toArray cs4.toArray)), (10, (.int .i64 0)), (11, (.int .i64 s118)), (12, (.int .i64 s4.2.2)), (47, (.bool o142))] a w)) ?_ ?_
        · by_cases h136 : s118 ≤ s4.2.2
          · rw [if_pos h136] at hm
            obtain ⟨h137, hm⟩ := of_guard hm
            obtain ⟨h138, hm⟩ := of_guard hm
            obtain ⟨o139, h140, hm⟩ := of_bind hm
            refine W.join1 (fun a w => ∃ x141 : Unit, Sat G ((slT (Enc.int .i64) q0 s4.1) :: F) 90 [(0, q0), (1, (.int .i64 p1)), (4, (.func (.func g4) fs4.toArray cs4.toArray)), (10, (.int .i64 0)), (11, (.int .i64 s118)), (12, (.int .i64 s4.2.2)), (35, (.func (.func g4) fs4.toArray cs4.toArray)), (36, q0), (37, (.int .i64 p1)), (39, (.int .i64 (gl s4.1 p1))), (40, q0), (41, (.int .i64 s118)), (43, (.int .i64 (gl s4.1 s118))), (44, (.int .i64 o139)), (45, (.bool (decide (o139 < 0)))), (46, (.bool (!(decide (o139 < 0))))), (47, (.bool (!(decide (o139 < 0)))))] a w) ?_ ?_
            · refine W.draw (n := 17) ((slT (Enc.int .i64) q0 s4.1) :: F) F 17 (by kernel_rfl) rfl rfl (fun w hw => hw) (fun w hw => hw.drop 1) ?_
              refine WK.q (i := 0) rfl rfl (by kernel_rfl) calm_n (R.move rfl) rfl rfl ?_
              refine WK.x (i := 1) (by kernel_rfl) rfl (OpV.x (R.move rfl)) (fun _ w hw => hw) (fun _ _ _ w hw => hw.reord [] 1 rfl) rfl rfl (by kernel_rfl) fun _ => ?_
              refine WK.x (i := 2) (by kernel_rfl) rfl (OpV.x (R.leq rfl rfl)) (fun _ w hw => hw) (fun _ _ _ w hw => hw.reord [] 1 rfl) rfl rfl (by kernel_rfl) fun _ => ?_
              refine WK.x (i := 3) (by kernel_rfl) rfl (OpV.x (R.move rfl)) (fun _ w hw => hw) (fun _ _ _ w hw => hw.reord [] 1 rfl) rfl rfl (by kernel_rfl) fun _ => ?_
              refine WK.qg (i := 4) rfl rfl rfl (decide_eq_true h136) (by kernel_rfl) calm_n (R.move rfl) rfl rfl ?_
              refine WK.qg (i := 5) rfl rfl rfl (decide_eq_true h136) (by kernel_rfl) calm_n (R.move rfl) rfl rfl ?_
              refine WK.qg (i := 6) rfl rfl rfl (decide_eq_true h136) (by kernel_rfl) calm_n (R.move rfl) rfl rfl ?_
              refine WK.qg (i := 7) rfl rfl rfl (decide_eq_true h136) (by kernel_rfl) calm_n (R.idxT rfl rfl el40 (RdT.at 0 rfl) h137) rfl rfl ?_
              refine WK.qg (i := 8) rfl rfl rfl (decide_eq_true h136) (by kernel_rfl) calm_n (R.load rfl (At.elT (RdT.at 0 rfl) (by decide) h137) (Lies.one _ ia50)) rfl rfl ?_
              refine WK.qg (i := 9) rfl rfl rfl (decide_eq_true h136) (by kernel_rfl) calm_n (R.move rfl) rfl rfl ?_
              refine WK.xg (i := 10) (by kernel_rfl) rfl rfl rfl (decide_eq_true h136) (OpV.x (R.move rfl)) (fun _ w hw => hw) (fun _ _ _ w hw => hw.reord [] 1 rfl) rfl rfl (by kernel_rfl) fun _ => ?_
              refine WK.xg (i := 11) (by kernel_rfl) rfl rfl rfl (decide_eq_true h136) (OpV.x (R.idxT rfl rfl el40 (RdT.at 0 rfl) h138)) (fun _ w hw => hw) (fun _ _ _ w hw => hw.reord [] 1 rfl) rfl rfl (by kernel_rfl) fun _ => ?_
              refine WK.xg (i := 12) (by kernel_rfl) rfl rfl rfl (decide_eq_true h136) (OpV.x (R.load rfl (At.elT (RdT.at 0 rfl) (by decide) h138) (Lies.one _ ia50))) (fun _ w hw => hw) (fun _ _ _ w hw => hw.reord [] 1 rfl) rfl rfl (by kernel_rfl) fun _ => ?_
              refine WK.xg (i := 13) (by kernel_rfl) rfl rfl rfl (decide_eq_true h136) (R.callAny (fs := fs4) (cs := cs4) (vs := [(.int .i64 (gl s4.1 p1)), (.int .i64 (gl s4.1 s118))]) rfl rfl en_4 (hf4 [(slT (Enc.int .i64) q0 s4.1)] (gl s4.1 p1) (gl s4.1 s118) _ h140)) (fun _ w hw => hw) (fun _ _ _ w hw => hw.reord [] 1 rfl) rfl rfl (by kernel_rfl) fun x141 => ?_
              refine WK.xg (i := 14) (by kernel_rfl) rfl rfl rfl (decide_eq_true h136) (OpV.x (R.lss rfl rfl)) (fun _ w hw => hw) (fun _ _ _ w hw => hw.reord [] 1 rfl) rfl rfl (by kernel_rfl) fun _ => ?_
              refine WK.xg (i := 15) (by kernel_rfl) rfl rfl rfl (decide_eq_true h136) (OpV.x (R.not rfl)) (fun _ w hw => hw) (fun _ _ _ w hw => hw.reord [] 1 rfl) rfl rfl (by kernel_rfl) fun _ => ?_
              refine WK.x (i := 16) (by kernel_rfl) rfl (OpV.x (R.pick_t rfl (decide_eq_true h136) rfl)) (fun _ w hw => hw) (fun _ _ _ w hw => hw.reord [] 1 rfl) rfl rfl (by kernel_rfl) fun _ => ?_
              refine WK.nil (by kernel_rfl) ?_
              exact fun a w s => And.intro rfl (Exists.intro x141 (Sat.mk (s.env.le ⟨rfl, rfl, rfl, rfl, rfl, rfl, rfl, rfl, rfl, rfl, rfl, rfl, rfl, rfl, rfl, rfl, rfl, trivial⟩) (s.mem)))
            · refine Go2.ex fun x141 => ?_
              refine Go2.sat ?_
              have he := Option.some.inj hm
              clear hm
              subst o142
              exact fun a w s => And.intro rfl (Sat.mk (s.env.le ⟨rfl, rfl, rfl, rfl, rfl, rfl, rfl, trivial⟩) (s.mem))
          · rw [if_neg h136] at hm
            refine W.join1 (fun a w => Sat G ((slT (Enc.int .i64) q0 s4.1) :: F) 90 [(0, q0), (1, (.int .i64 p1)), (4, (.func (.func g4) fs4.toArray cs4.toArray)), (10, (.int .i64 0)), (11, (.int .i64 s118)), (12, (.int .i64 s4.2.2)), (47, (.bool false))] a w) ?_ ?_
            · refine W.draw (n := 17) ((slT (Enc.int .i64) q0 s4.1) :: F) F 17 (by kernel_rfl) rfl rfl (fun w hw => hw) (fun w hw => hw.drop 1) ?_
              refine WK.q (i := 0) rfl rfl (by kernel_rfl) calm_n (R.move rfl) rfl rfl ?_
              refine WK.x (i := 1) (by kernel_rfl) rfl (OpV.x (R.move rfl)) (fun _ w hw => hw) (fun _ _ _ w hw => hw.reord [] 1 rfl) rfl rfl (by kernel_rfl) fun _ => ?_
              refine WK.x (i := 2) (by kernel_rfl) rfl (OpV.x (R.leq rfl rfl)) (fun _ w hw => hw) (fun _ _ _ w hw => hw.reord [] 1 rfl) rfl rfl (by kernel_rfl) fun _ => ?_
              refine WK.x (i := 3) (by kernel_rfl) rfl (OpV.x (R.move rfl)) (fun _ w hw => hw) (fun _ _ _ w hw => hw.reord [] 1 rfl) rfl rfl (by kernel_rfl) fun _ => ?_
              refine WK.qoff (i := 4) rfl rfl rfl (decide_eq_false h136) (by kernel_rfl) calm_n rfl rfl ?_
              refine WK.qoff (i := 5) rfl rfl rfl (decide_eq_false h136) (by kernel_rfl) calm_n rfl rfl ?_
              refine WK.qoff (i := 6) rfl rfl rfl (decide_eq_false h136) (by kernel_rfl) calm_n rfl rfl ?_
              refine WK.qoff (i := 7) rfl rfl rfl (decide_eq_false h136) (by kernel_rfl) calm_n rfl rfl ?_
              refine WK.qoff (i := 8) rfl rfl rfl (decide_eq_false h136) (by kernel_rfl) calm_n rfl rfl ?_
              refine WK.qoff (i := 9) rfl rfl rfl (decide_eq_false h136) (by kernel_rfl) calm_n rfl rfl ?_
              refine WK.qoff (i := 10) rfl rfl rfl (decide_eq_false h136) (by kernel_rfl) calm_n rfl rfl ?_
              refine WK.qoff (i := 11) rfl rfl rfl (decide_eq_false h136) (by kernel_rfl) calm_n rfl rfl ?_
              refine WK.qoff (i := 12) rfl rfl rfl (decide_eq_false h136) (by kernel_rfl) calm_n rfl rfl ?_
              refine WK.qoff (i := 13) rfl rfl rfl (decide_eq_false h136) (by kernel_rfl) calm_n rfl rfl ?_
              refine WK.qoff (i := 14) rfl rfl rfl (decide_eq_false h136) (by kernel_rfl) calm_n rfl rfl ?_
              refine WK.qoff (i := 15) rfl rfl rfl (decide_eq_false h136) (by kernel_rfl) calm_n rfl rfl ?_
              refine WK.x (i := 16) (by kernel_rfl) rfl (OpV.x (R.pick_f rfl (decide_eq_false h136) rfl)) (fun _ w hw => hw) (fun _ _ _ w hw => hw.reord [] 1 rfl) rfl rfl (by kernel_rfl) fun _ => ?_
              refine WK.nil (by kernel_rfl) ?_
              exact fun a w s => And.intro rfl (Sat.mk (s.env.le ⟨rfl, rfl, rfl, rfl, rfl, rfl, rfl, trivial⟩) (s.mem))
            · refine Go2.sat ?_
              have he := Option.some.inj hm
              clear hm
              subst o142
              exact fun a w s => And.intro rfl (Sat.mk (s.env.le ⟨rfl, rfl, rfl, rfl, rfl, rfl, rfl, trivial⟩) (s.mem))
        · intro e a w hJ
          replace hm := hmo142
          clear hmo142
          obtain ⟨rfl, s⟩ := hJ
          refine Go.use s ?_
          refine Go.then_ ?_
          by_cases h143 : o142 = true
          · rw [if_pos h143] at hm
            refine W.cond_t rfl h143 ?_
            refine W.skip ?_
            refine Go.then_ ?_
            refine W.block ?_
            refine W.region ?_
            refine WL.q (R.move rfl) rfl ?_
            refine WL.q (R.add rfl rfl) rfl ?_
            refine WL.q (R.assign rfl) rfl ?_
            refine WL.nil ?_
            refine Go.n_block ?_
            have he := Option.some.inj hm
            clear hm
            subst x
            exact fun a w s => Exists.intro _ (And.intro rfl (Sat.mk (s.env.le ⟨rfl, rfl, rfl, rfl, rfl, rfl, trivial⟩) (s.mem)))
          · rw [if_neg h143] at hm
            refine W.cond_f rfl (b_f h143) ?_
            refine W.exit ?_
            refine Go.x_then ?_
            have he := Option.some.inj hm
            clear hm
            subst x
            exact fun a w s => Exists.intro _ (And.intro rfl (And.intro rfl (Sat.mk (s.env.le ⟨rfl, rfl, rfl, rfl, rfl, rfl, trivial⟩) (s.mem))))
      · intro e a w hJ
        obtain ⟨rfl, s⟩ := hJ
        refine Go.use s ?_
        refine Go.x_block ?_
        refine Go.then_ ?_
        refine W.seq ?_
        refine W.block ?_
        obtain ⟨o145, hlo145, hm⟩ := of_bind hm
        refine W.loopx (fun (s144 : Int) a w => Sat G ((slT (Enc.int .i64) q0 s4.1) :: F) 90 [(0, q0), (1, (.int .i64 p1)), (4, (.func (.func g4) fs4.toArray cs4.toArray)), (10, (.int .i64 0)), (11, (.int .i64 o119)), (12, (.int .i64 s144))] a w) (fun (o145 : Int) e a w => And (e = (.exit 4)) (Sat G ((slT (Enc.int .i64) q0 s4.1) :: F) 90 [(0, q0), (1, (.int .i64 p1)), (4, (.func (.func g4) fs4.toArray cs4.toArray)), (10, (.int .i64 0)), (11, (.int .i64 o119)), (12, (.int .i64 o145))] a w)) hlo145 (fun a w s => (Sat.mk (s.env.le ⟨rfl, rfl, rfl, rfl, rfl, rfl, trivial⟩) (s.mem))) ?_ ?_
        · clear hm
          intro s144 x hm a w hJ
          have s := hJ
          unfold slices_partitionEqualCmpFunc_impl_set_L3 at hm
          refine W.use s ?_
          refine W.seq ?_
          obtain ⟨o168, hm, hmo168⟩ := of_bind hm
          refine W.seq ?_
          refine W.join (fun e a w => And (e = .normal) (Sat G ((slT (Enc.int .i64) q0 s4.1) :: F) 90 [(0, q0), (1, (.int .i64 p1)), (4, (.func (.func g4) fs4.toArray cs4.toArray)), (10, (.int .i64 0)), (11, (.int .i64 o119)), (12, (.int .i64 s144)), (65, (.bool o168))] a w)) ?_ ?_
          · by_cases h162 : o119 ≤ s144
            · rw [if_pos h162] at hm
              obtain ⟨h163, hm⟩ := of_guard hm
              obtain ⟨h164, hm⟩ := of_guard hm
              obtain ⟨o165, h166, hm⟩ := of_bind hm
              refine W.join1 (fun a w => ∃ x167 : Unit, Sat G ((slT (Enc.int .i64) q0 s4.1) :: F) 90 [(0, q0), (1, (.int .i64 p1)), (4, (.func (.func g4) fs4.toArray cs4.toArray)), (10, (.int .i64 0)), (11, (.int .i64 o119)), (12, (.int .i64 s144)), (54, (.func (.func g4) fs4.toArray cs4.toArray)), (55, q0), (56, (.int .i64 p1)), (58, (.int .i64 (gl s4.1 p1))), (59, q0), (60, (.int .i64 s144)), (62, (.int .i64 (gl s4.1 s144))), (63, (.int .i64 o165)), (64, (.bool (decide (o165 < 0)))), (65, (.bool (decide (o165 < 0))))] a w) ?_ ?_
              · refine W.draw (n := 16) ((slT (Enc.int .i64) q0 s4.1) :: F) F 16 (by kernel_rfl) rfl rfl (fun w hw => hw) (fun w hw => hw.drop 1) ?_
                refine WK.q (i := 0) rfl rfl (by kernel_rfl) calm_n (R.move rfl) rfl rfl ?_
                refine WK.x (i := 1) (by kernel_rfl) rfl (OpV.x (R.move rfl)) (fun _ w hw => hw) (fun _ _ _ w hw => hw.reord [] 1 rfl) rfl rfl (by kernel_rfl) fun _ => ?_
                refine WK.x (i := 2) (by kernel_rfl) rfl (OpV.x (R.leq rfl rfl)) (fun _ w hw => hw) (fun _ _ _ w hw => hw.reord [] 1 rfl) rfl rfl (by kernel_rfl) fun _ => ?_
                refine WK.x (i := 3) (by kernel_rfl) rfl (OpV.x (R.move rfl)) (fun _ w hw => hw) (fun _ _ _ w hw => hw.reord [] 1 rfl) rfl rfl (by kernel_rfl) fun _ => ?_
                refine WK.qg (i := 4) rfl rfl rfl (decide_eq_true h162) (by kernel_rfl) calm_n (R.move rfl) rfl rfl ?_
                refine WK.qg (i := 5) rfl rfl rfl (decide_eq_true h162) (by kernel_rfl) calm_n (R.move rfl) rfl rfl ?_
                refine WK.qg (i := 6) rfl rfl rfl (decide_eq_true h162) (by kernel_rfl) calm_n (R.move rfl) rfl rfl ?_
                refine WK.qg (i := 7) rfl rfl rfl (decide_eq_true h162) (by kernel_rfl) calm_n (R.idxT rfl rfl el40 (RdT.at 0 rfl) h163) rfl rfl ?_
                refine WK.qg (i := 8) rfl rfl rfl (decide_eq_true h162) (by kernel_rfl) calm_n (R.load rfl (At.elT (RdT.at 0 rfl) (by decide) h163) (Lies.one _ ia50)) rfl rfl ?_
                refine WK.qg (i := 9) rfl rfl rfl (decide_eq_true h162) (by kernel_rfl) calm_n (R.move rfl) rfl rfl ?_
                refine WK.xg (i := 10) (by kernel_rfl) rfl rfl rfl (decide_eq_true h162) (OpV.x (R.move rfl)) (fun _ w hw => hw) (fun _ _ _ w hw => hw.reord [] 1 rfl) rfl rfl (by kernel_rfl) fun _ => ?_
                refine WK.xg (i := 11) (by kernel_rfl) rfl rfl rfl (decide_eq_true h162) (OpV.x (R.idxT rfl rfl el40 (RdT.at 0 rfl) h164)) (fun _ w hw => hw) (fun _ _ _ w hw => hw.reord [] 1 rfl) rfl rfl (by kernel_rfl) fun _ => ?_
                refine WK.xg (i := 12) (by kernel_rfl) rfl rfl rfl (decide_eq_true h162) (OpV.x (R.load rfl (At.elT (RdT.at 0 rfl) (by decide) h164) (Lies.one _ ia50))) (fun _ w hw => hw) (fun _ _ _ w hw => hw.reord [] 1 rfl) rfl rfl (by kernel_rfl) fun _ => ?_
                refine WK.xg (i := 13) (by kernel_rfl) rfl rfl rfl (decide_eq_true h162) (R.callAny (fs := fs4) (cs := cs4) (vs := [(.int .i64 (gl s4.1 p1)), (.int .i64 (gl s4.1 s144))]) rfl rfl en_4 (hf4 [(slT (Enc.int .i64) q0 s4.1)] (gl s4.1 p1) (gl s4.1 s144) _ h166)) (fun _ w hw => hw) (fun _ _ _ w hw => hw.reord [] 1 rfl) rfl rfl (by kernel_rfl) fun x167 => ?_
                refine WK.xg (i := 14) (by kernel_rfl) rfl rfl rfl (decide_eq_true h162) (OpV.x (R.lss rfl rfl)) (fun _ w hw => hw) (fun _ _ _ w hw => hw.reord [] 1 rfl) rfl rfl (by kernel_rfl) fun _ => ?_
                refine WK.x (i := 15) (by kernel_rfl) rfl (OpV.x (R.pick_t rfl (decide_eq_true h162) rfl)) (fun _ w hw => hw) (fun _ _ _ w hw => hw.reord [] 1 rfl) rfl rfl (by kernel_rfl) fun _ => ?_
                refine WK.nil (by kernel_rfl) ?_
                exact fun a w s => And.intro rfl (Exists.intro x167 (Sat.mk (s.env.le ⟨rfl, rfl, rfl, rfl, rfl, rfl, rfl, rfl, rfl, rfl, rfl, rfl, rfl, rfl, rfl, rfl, trivial⟩) (s.mem)))
              · refine Go2.ex fun x167 => ?_
                refine Go2.sat ?_
                have he := Option.some.inj hm
                clear hm
                subst o168
                exact fun a w s => And.intro rfl (Sat.mk (s.env.le ⟨rfl, rfl, rfl, rfl, rfl, rfl, rfl, trivial⟩) (s.mem))
            · rw [if_neg h162] at hm
              refine W.join1 (fun a w => Sat G ((slT (Enc.int .i64) q0 s4.1) :: F) 90 [(0, q0), (1, (.int .i64 p1)), (4, (.func (.func g4) fs4.toArray cs4.toArray)), (10, (.int .i64 0)), (11, (.int .i64 o119)), (12, (.int .i64 s144)), (65, (.bool false))] a w) ?_ ?_
              · refine W.draw (n := 16) ((slT (Enc.int .i64) q0 s4.1) :: F) F 16 (by kernel_rfl) rfl rfl (fun w hw => hw) (fun w hw => hw.drop 1) ?_
                refine WK.q (i := 0) rfl rfl (by kernel_rfl) calm_n (R.move rfl) rfl rfl ?_
                refine WK.x (i := 1) (by kernel_rfl) rfl (OpV.x (R.move rfl)) (fun _ w hw => hw) (fun _ _ _ w hw => hw.reord [] 1 rfl) rfl rfl (by kernel_rfl) fun _ => ?_
                refine WK.x (i := 2) (by kernel_rfl) rfl (OpV.x (R.leq rfl rfl)) (fun _ w hw => hw) (fun _ _ _ w hw => hw.reord [] 1 rfl) rfl rfl (by kernel_rfl) fun _ => ?_
                refine WK.x (i := 3) (by kernel_rfl) rfl (OpV.x (R.move rfl)) (fun _ w hw => hw) (fun _ _ _ w hw => hw.reord [] 1 rfl) rfl rfl (by kernel_rfl) fun _ => ?_
                refine WK.qoff (i := 4) rfl rfl rfl (decide_eq_false h162) (by kernel_rfl) calm_n rfl rfl ?_
                refine WK.qoff (i := 5) rfl rfl rfl (decide_eq_false h162) (by kernel_rfl) calm_n rfl rfl ?_
                refine WK.qoff (i := 6) rfl rfl rfl (decide_eq_false h162) (by kernel_rfl) calm_n rfl rfl ?_
                refine WK.qoff (i := 7) rfl rfl rfl (decide_eq_false h162) (by kernel_rfl) calm_n rfl rfl ?_
                refine WK.qoff (i := 8) rfl rfl rfl (decide_eq_false h162) (by kernel_rfl) calm_n rfl rfl ?_
                refine WK.qoff (i := 9) rfl rfl rfl (decide_eq_false h162) (by kernel_rfl) calm_n rfl rfl ?_
                refine WK.qoff (i := 10) rfl rfl rfl (decide_eq_false h162) (by kernel_rfl) calm_n rfl rfl ?_
                refine WK.qoff (i := 11) rfl rfl rfl (decide_eq_false h162) (by kernel_rfl) calm_n rfl rfl ?_
                refine WK.qoff (i := 12) rfl rfl rfl (decide_eq_false h162) (by kernel_rfl) calm_n rfl rfl ?_
                refine WK.qoff (i := 13) rfl rfl rfl (decide_eq_false h162) (by kernel_rfl) calm_n rfl rfl ?_
                refine WK.qoff (i := 14) rfl rfl rfl (decide_eq_false h162) (by kernel_rfl) calm_n rfl rfl ?_
                refine WK.x (i := 15) (by kernel_rfl) rfl (OpV.x (R.pick_f rfl (decide_eq_false h162) rfl)) (fun _ w hw => hw) (fun _ _ _ w hw => hw.reord [] 1 rfl) rfl rfl (by kernel_rfl) fun _ => ?_
                refine WK.nil (by kernel_rfl) ?_
                exact fun a w s => And.intro rfl (Sat.mk (s.env.le ⟨rfl, rfl, rfl, rfl, rfl, rfl, rfl, trivial⟩) (s.mem))
              · refine Go2.sat ?_
                have he := Option.some.inj hm
                clear hm
                subst o168
                exact fun a w s => And.intro rfl (Sat.mk (s.env.le ⟨rfl, rfl, rfl, rfl, rfl, rfl, rfl, trivial⟩) (s.mem))
          · intro e a w hJ
            replace hm := hmo168
            clear hmo168
            obtain ⟨rfl, s⟩ := hJ
            refine Go.use s ?_
            refine Go.then_ ?_
            by_cases h169 : o168 = true
            · rw [if_pos h169] at hm
              refine W.cond_t rfl h169 ?_
              refine W.skip ?_
              refine Go.then_ ?_
              refine W.block ?_
              refine W.region ?_
              refine WL.q (R.move rfl) rfl ?_
              refine WL.q (R.sub rfl rfl) rfl ?_
              refine WL.q (R.assign rfl) rfl ?_
              refine WL.nil ?_
              refine Go.n_block ?_
              have he := Option.some.inj hm
              clear hm
              subst x
              exact fun a w s => Exists.intro _ (And.intro rfl (Sat.mk (s.env.le ⟨rfl, rfl, rfl, rfl, rfl, rfl, trivial⟩) (s.mem)))
            · rw [if_neg h169] at hm
              refine W.cond_f rfl (b_f h169) ?_
              refine W.exit ?_
              refine Go.x_then ?_
              have he := Option.some.inj hm
              clear hm
              subst x
              exact fun a w s => Exists.intro _ (And.intro rfl (And.intro rfl (Sat.mk (s.env.le ⟨rfl, rfl, rfl, rfl, rfl, rfl, trivial⟩) (s.mem))))
        · intro e a w hJ
          obtain ⟨rfl, s⟩ := hJ
          refine Go.use s ?_
          refine Go.x_block ?_
          refine Go.then_ ?_
          refine W.seq ?_
          refine W.seq ?_
          refine W.region ?_
          refine WL.q (R.move rfl) rfl ?_
          refine WL.q (R.move rfl) rfl ?_
          refine WL.q (R.gtr rfl rfl) rfl ?_
          refine WL.nil ?_
          refine Go.then_ ?_
          by_cases h170 : o145 < o119
          · rw [if_pos h170] at hm
            refine W.cond_t rfl (decide_eq_true h170) ?_
            refine W.exit ?_
            refine Go.x_then ?_
            refine Go.x_pass rfl ?_
            have he := Option.some.inj hm
            clear hm
            subst x
            exact fun a w s => Exists.intro _ (And.intro rfl (And.intro rfl (Sat.mk (s.env.le ⟨rfl, rfl, trivial⟩) (s.mem))))
          · rw [if_neg h170] at hm
            refine W.cond_f rfl (decide_eq_false h170) ?_
            refine W.skip ?_
            refine Go.then_ ?_
            refine W.seq ?_
            obtain ⟨h171, hm⟩ := of_guard hm
            obtain ⟨h172, hm⟩ := of_guard hm
            obtain ⟨h173, hm⟩ := of_guard hm
            refine W.join1 (fun a w => Sat G ((slT (Enc.int .i64) q0 (sls (sls s4.1 o119 (gl s4.1 o145)) o145 (gl s4.1 o119))) :: F) 90 [(0, q0), (1, (.int .i64 p1)), (4, (.func (.func g4) fs4.toArray cs4.toArray)), (10, (.int .i64 0)), (11, (.int .i64 o119)), (12, (.int .i64 o145))] a w) ?_ ?_
            · refine W.draw (n := 16) F F 13 (by kernel_rfl) rfl rfl (fun w hw => hw.reord [] 1 rfl) (fun w hw => hw.drop 1) ?_
              refine WK.q (i := 0) rfl rfl (by kernel_rfl) calm_n (R.move rfl) rfl rfl ?_
              refine WK.q (i := 1) rfl rfl (by kernel_rfl) calm_n (R.move rfl) rfl rfl ?_
              refine WK.q (i := 2) rfl rfl (by kernel_rfl) calm_n (R.move rfl) rfl rfl ?_
              refine WK.q (i := 3) rfl rfl (by kernel_rfl) calm_n (R.move rfl) rfl rfl ?_
              refine WK.q (i := 4) rfl rfl (by kernel_rfl) calm_n (R.move rfl) rfl rfl ?_
              refine WK.q (i := 5) rfl rfl (by kernel_rfl) calm_n (R.move rfl) rfl rfl ?_
              refine WK.q (i := 8) rfl rfl (by kernel_rfl) calm_n (R.move rfl) rfl rfl ?_
              refine WK.q (i := 9) rfl rfl (by kernel_rfl) calm_n (R.move rfl) rfl rfl ?_
              refine WK.among (is := [6, 10]) (by kernel_rfl) rfl ?_
              refine WKa.x rfl (OpV.x (R.idxT rfl rfl el40 (RdT.at 0 rfl) h171)) (fun _ w hw => hw.reord [] 1 rfl) (fun _ _ _ w hw => hw.reord [] 1 rfl) rfl rfl (by kernel_rfl) (fun _ => ?_) ?_
              · refine WK.among (is := [7, 10]) (by kernel_rfl) rfl ?_
                refine WKa.x rfl (OpV.x (R.load rfl (At.elT (RdT.at 0 rfl) (by decide) h171) (Lies.one _ ia50))) (fun _ w hw => hw.reord [] 1 rfl) (fun _ _ _ w hw => hw.reord [] 1 rfl) rfl rfl (by kernel_rfl) (fun _ => ?_) ?_
                · refine WK.x (i := 10) (by kernel_rfl) rfl (OpV.x (R.idxT rfl rfl el40 (RdT.at 0 rfl) h172)) (fun _ w hw => hw.reord [] 1 rfl) (fun _ _ _ w hw => hw.reord [] 1 rfl) rfl rfl (by kernel_rfl) fun _ => ?_
                  refine WK.x (i := 11) (by kernel_rfl) rfl (OpV.x (R.load rfl (At.elT (RdT.at 0 rfl) (by decide) h172) (Lies.one _ ia50))) (fun _ w hw => hw.reord [] 1 rfl) (fun _ _ _ w hw => hw.reord [] 1 rfl) rfl rfl (by kernel_rfl) fun _ => ?_
                  refine WK.x (i := 12) (by kernel_rfl) rfl (OpV.x (R.idxT rfl rfl el40 (RdT.at 0 rfl) h172)) (fun _ w hw => hw.reord [] 1 rfl) (fun _ _ _ w hw => hw.reord [] 1 rfl) rfl rfl (by kernel_rfl) fun _ => ?_
                  refine WK.x0 (i := 13) (by kernel_rfl) rfl (R.storeT (i := 0) (gl s4.1 o145) rfl rfl rfl (fits_int sz50) (by decide) h172) (fun _ w hw => hw.reord [] 1 rfl) (fun h1 h2 => by cases h1) rfl (by kernel_rfl) fun _ => ?_
                  refine WK.x (i := 14) (by kernel_rfl) rfl (OpV.x (R.idxT rfl rfl el40 (RdT.at 0 rfl) h173)) (fun _ w hw => hw.reord [] 1 rfl) (fun h1 h2 => by cases h2) rfl rfl (by kernel_rfl) fun _ => ?_
                  refine WK.x0 (i := 15) (by kernel_rfl) rfl (R.storeT (i := 0) (gl s4.1 o119) rfl rfl rfl (fits_int sz50) (by decide) h173) (fun _ w hw => hw.reord [] 1 rfl) (fun h1 h2 => by cases h2) rfl (by kernel_rfl) fun _ => ?_
                  refine WK.nil (by kernel_rfl) ?_
                  exact fun a w s => And.intro rfl (Sat.mk (s.env.le ⟨rfl, rfl, rfl, rfl, rfl, rfl, trivial⟩) (s.mem))
                refine WKa.x rfl (OpV.x (R.idxT rfl rfl el40 (RdT.at 0 rfl) h172)) (fun _ w hw => hw.reord [] 1 rfl) (fun _ _ _ w hw => hw.reord [] 1 rfl) rfl rfl (by kernel_rfl) (fun _ => ?_) ?_
                · refine WK.among (is := [7, 11]) (by kernel_rfl) rfl ?_
                  refine WKa.x rfl (OpV.x (R.load rfl (At.elT (RdT.at 0 rfl) (by decide) h171) (Lies.one _ ia50))) (fun _ w hw => hw.reord [] 1 rfl) (fun _ _ _ w hw => hw.reord [] 1 rfl) rfl rfl (by kernel_rfl) (fun _ => ?_) ?_
                  · refine WK.x (i := 11) (by kernel_rfl) rfl (OpV.x (R.load rfl (At.elT (RdT.at 0 rfl) (by decide) h172) (Lies.one _ ia50))) (fun _ w hw => hw.reord [] 1 rfl) (fun _ _ _ w hw => hw.reord [] 1 rfl) rfl rfl (by kernel_rfl) fun _ => ?_
                    refine WK.x (i := 12) (by kernel_rfl) rfl (OpV.x (R.idxT rfl rfl el40 (RdT.at 0 rfl) h172)) (fun _ w hw => hw.reord [] 1 rfl) (fun _ _ _ w hw => hw.reord [] 1 rfl) rfl rfl (by kernel_rfl) fun _ => ?_
                    refine WK.x0 (i := 13) (by kernel_rfl) rfl (R.storeT (i := 0) (gl s4.1 o145) rfl rfl rfl (fits_int sz50) (by decide) h172) (fun _ w hw => hw.reord [] 1 rfl) (fun h1 h2 => by cases h1) rfl (by kernel_rfl) fun _ => ?_
                    refine WK.x (i := 14) (by kernel_rfl) rfl (OpV.x (R.idxT rfl rfl el40 (RdT.at 0 rfl) h173)) (fun _ w hw => hw.reord [] 1 rfl) (fun h1 h2 => by cases h2) rfl rfl (by kernel_rfl) fun _ => ?_
                    refine WK.x0 (i := 15) (by kernel_rfl) rfl (R.storeT (i := 0) (gl s4.1 o119) rfl rfl rfl (fits_int sz50) (by decide) h173) (fun _ w hw => hw.reord [] 1 rfl) (fun h1 h2 => by cases h2) rfl (by kernel_rfl) fun _ => ?_
                    refine WK.nil (by kernel_rfl) ?_
                    exact fun a w s => And.intro rfl (Sat.mk (s.env.le ⟨rfl, rfl, rfl, rfl, rfl, rfl, trivial⟩) (s.mem))
                  refine WKa.x rfl (OpV.x (R.load rfl (At.elT (RdT.at 0 rfl) (by decide) h172) (Lies.one _ ia50))) (fun _ w hw => hw.reord [] 1 rfl) (fun _ _ _ w hw => hw.reord [] 1 rfl) rfl rfl (by kernel_rfl) (fun _ => ?_) ?_
                  · refine WK.x (i := 7) (by kernel_rfl) rfl (OpV.x (R.load rfl (At.elT (RdT.at 0 rfl) (by decide) h171) (Lies.one _ ia50))) (fun _ w hw => hw.reord [] 1 rfl) (fun _ _ _ w hw => hw.reord [] 1 rfl) rfl rfl (by kernel_rfl) fun _ => ?_
                    refine WK.x (i := 12) (by kernel_rfl) rfl (OpV.x (R.idxT rfl rfl el40 (RdT.at 0 rfl) h172)) (fun _ w hw => hw.reord [] 1 rfl) (fun _ _ _ w hw => hw.reord [] 1 rfl) rfl rfl (by kernel_rfl) fun _ => ?_
                    refine WK.x0 (i := 13) (by kernel_rfl) rfl (R.storeT (i := 0) (gl s4.1 o145) rfl rfl rfl (fits_int sz50) (by decide) h172) (fun _ w hw => hw.reord [] 1 rfl) (fun h1 h2 => by cases h1) rfl (by kernel_rfl) fun _ => ?_
                    refine WK.x (i := 14) (by kernel_rfl) rfl (OpV.x (R.idxT rfl rfl el40 (RdT.at 0 rfl) h173)) (fun _ w hw => hw.reord [] 1 rfl) (fun h1 h2 => by cases h2) rfl rfl (by kernel_rfl) fun _ => ?_
                    refine WK.x0 (i := 15) (by kernel_rfl) rfl (R.storeT (i := 0) (gl s4.1 o119) rfl rfl rfl (fits_int sz50) (by decide) h173) (fun _ w hw => hw.reord [] 1 rfl) (fun h1 h2 => by cases h2) rfl (by kernel_rfl) fun _ => ?_
                    refine WK.nil (by kernel_rfl) ?_
                    exact fun a w s => And.intro rfl (Sat.mk (s.env.le ⟨rfl, rfl, rfl, rfl, rfl, rfl, trivial⟩) (s.mem))
                  exact WKa.nil
                exact WKa.nil
              refine WKa.x rfl (OpV.x (R.idxT rfl rfl el40 (RdT.at 0 rfl) h172)) (fun _ w hw => hw.reord [] 1 rfl) (fun _ _ _ w hw => hw.reord [] 1 rfl) rfl rfl (by kernel_rfl) (fun _ => ?_) ?_
              · refine WK.among (is := [6, 11]) (by kernel_rfl) rfl ?_
                refine WKa.x rfl (OpV.x (R.idxT rfl rfl el40 (RdT.at 0 rfl) h171)) (fun _ w hw => hw.reord [] 1 rfl) (fun _ _ _ w hw => hw.reord [] 1 rfl) rfl rfl (by kernel_rfl) (fun _ => ?_) ?_
                · refine WK.among (is := [7, 11]) (by kernel_rfl) rfl ?_
                  refine WKa.x rfl (OpV.x (R.load rfl (At.elT (RdT.at 0 rfl) (by decide) h171) (Lies.one _ ia50))) (fun _ w hw => hw.reord [] 1 rfl) (fun _ _ _ w hw => hw.reord [] 1 rfl) rfl rfl (by kernel_rfl) (fun _ => ?_) ?_
                  · refine WK.x (i := 11) (by kernel_rfl) rfl (OpV.x (R.load rfl (At.elT (RdT.at 0 rfl) (by decide) h172) (Lies.one _ ia50))) (fun _ w hw => hw.reord [] 1 rfl) (fun _ _ _ w hw => hw.reord [] 1 rfl) rfl rfl (by kernel_rfl) fun _ => ?_
                    refine WK.x (i := 12) (by kernel_rfl) rfl (OpV.x (R.idxT rfl rfl el40 (RdT.at 0 rfl) h172)) (fun _ w hw => hw.reord [] 1 rfl) (fun _ _ _ w hw => hw.reord [] 1 rfl) rfl rfl (by kernel_rfl) fun _ => ?_
                    refine WK.x0 (i := 13) (by kernel_rfl) rfl (R.storeT (i := 0) (gl s4.1 o145) rfl rfl rfl (fits_int sz50) (by decide) h172) (fun _ w hw => hw.reord [] 1 rfl) (fun h1 h2 => by cases h1) rfl (by kernel_rfl) fun _ => ?_
                    refine WK.x (i := 14) (by kernel_rfl) rfl (OpV.x (R.idxT rfl rfl el40 (RdT.at 0 rfl) h173)) (fun _ w hw => hw.reord [] 1 rfl) (fun h1 h2 => by cases h2) rfl rfl (by kernel_rfl) fun _ => ?_
                    refine WK.x0 (i := 15) (by kernel_rfl) rfl (R.storeT (i := 0) (gl s4.1 o119) rfl rfl rfl (fits_int sz50) (by decide) h173) (fun _ w hw => hw.reord [] 1 rfl) (fun h1 h2 => by cases h2) rfl (by kernel_rfl) fun _ => ?_
                    refine WK.nil (by kernel_rfl) ?_
                    exact fun a w s => And.intro rfl (Sat.mk (s.env.le ⟨rfl, rfl, rfl, rfl, rfl, rfl, trivial⟩) (s.mem))
                  refine WKa.x rfl (OpV.x (R.load rfl (At.elT (RdT.at 0 rfl) (by decide) h172) (Lies.one _ ia50))) (fun _ w hw => hw.reord [] 1 rfl) (fun _ _ _ w hw => hw.reord [] 1 rfl) rfl rfl (by kernel_rfl) (fun _ => ?_) ?_
                  · refine WK.x (i := 7) (by kernel_rfl) rfl (OpV.x (R.load rfl (At.elT (RdT.at 0 rfl) (by decide) h171) (Lies.one _ ia50))) (fun _ w hw => hw.reord [] 1 rfl) (fun _ _ _ w hw => hw.reord [] 1 rfl) rfl rfl (by kernel_rfl) fun _ => ?_
                    refine WK.x (i := 12) (by kernel_rfl) rfl (OpV.x (R.idxT rfl rfl el40 (RdT.at 0 rfl) h172)) (fun _ w hw => hw.reord [] 1 rfl) (fun _ _ _ w hw => hw.reord [] 1 rfl) rfl rfl (by kernel_rfl) fun _ => ?_
                    refine WK.x0 (i := 13) (by kernel_rfl) rfl (R.storeT (i := 0) (gl s4.1 o145) rfl rfl rfl (fits_int sz50) (by decide) h172) (fun _ w hw => hw.reord [] 1 rfl) (fun h1 h2 => by cases h1) rfl (by kernel_rfl) fun _ => ?_
                    refine WK.x (i := 14) (by kernel_rfl) rfl (OpV.x (R.idxT rfl rfl el40 (RdT.at 0 rfl) h173)) (fun _ w hw => hw.reord [] 1 rfl) (fun h1 h2 => by cases h2) rfl rfl (by kernel_rfl) fun _ => ?_
                    refine WK.x0 (i := 15) (by kernel_rfl) rfl (R.storeT (i := 0) (gl s4.1 o119) rfl rfl rfl (fits_int sz50) (by decide) h173) (fun _ w hw => hw.reord [] 1 rfl) (fun h1 h2 => by cases h2) rfl (by kernel_rfl) fun _ => ?_
                    refine WK.nil (by kernel_rfl) ?_
                    exact fun a w s => And.intro rfl (Sat.mk (s.env.le ⟨rfl, rfl, rfl, rfl, rfl, rfl, trivial⟩) (s.mem))
                  exact WKa.nil
                refine WKa.x rfl (OpV.x (R.load rfl (At.elT (RdT.at 0 rfl) (by decide) h172) (Lies.one _ ia50))) (fun _ w hw => hw.reord [] 1 rfl) (fun _ _ _ w hw => hw.reord [] 1 rfl) rfl rfl (by kernel_rfl) (fun _ => ?_) ?_
                · refine WK.x (i := 6) (by kernel_rfl) rfl (OpV.x (R.idxT rfl rfl el40 (RdT.at 0 rfl) h171)) (fun _ w hw => hw.reord [] 1 rfl) (fun _ _ _ w hw => hw.reord [] 1 rfl) rfl rfl (by kernel_rfl) fun _ => ?_
                  refine WK.x (i := 7) (by kernel_rfl) rfl (OpV.x (R.load rfl (At.elT (RdT.at 0 rfl) (by decide) h171) (Lies.one _ ia50))) (fun _ w hw => hw.reord [] 1 rfl) (fun _ _ _ w hw => hw.reord [] 1 rfl) rfl rfl (by kernel_rfl) fun _ => ?_
                  refine WK.x (i := 12) (by kernel_rfl) rfl (OpV.x (R.idxT rfl rfl el40 (RdT.at 0 rfl) h172)) (fun _ w hw => hw.reord [] 1 rfl) (fun _ _ _ w hw => hw.reord [] 1 rfl) rfl rfl (by kernel_rfl) fun _ => ?_
                  refine WK.x0 (i := 13) (by kernel_rfl) rfl (R.storeT (i := 0) (gl s4.1 o145) rfl rfl rfl (fits_int sz50) (by decide) h172) (fun _ w hw => hw.reord [] 1 rfl) (fun h1 h2 => by cases h1) rfl (by kernel_rfl) fun _ => ?_
                  refine WK.x (i := 14) (by kernel_rfl) rfl (OpV.x (R.idxT rfl rfl el40 (RdT.at 0 rfl) h173)) (fun _ w hw => hw.reord [] 1 rfl) (fun h1 h2 => by cases h2) rfl rfl (by kernel_rfl) fun _ => ?_
                  refine WK.x0 (i := 15) (by kernel_rfl) rfl (R.storeT (i := 0) (gl s4.1 o119) rfl rfl rfl (fits_int sz50) (by decide) h173) (fun _ w hw => hw.reord [] 1 rfl) (fun h1 h2 => by cases h2) rfl (by kernel_rfl) fun _ => ?_
                  refine WK.nil (by kernel_rfl) ?_
                  exact fun a w s => And.intro rfl (Sat.mk (s.env.le ⟨rfl, rfl, rfl, rfl, rfl, rfl, trivial⟩) (s.mem))
                exact WKa.nil
              exact WKa.nil
            · refine Go2.sat ?_
              refine Go.then_ ?_
              refine W.seq ?_
              refine W.region ?_
              refine WL.q (R.move rfl) rfl ?_
              refine WL.q (R.add rfl rfl) rfl ?_
              refine WL.q (R.assign rfl) rfl ?_
              refine WL.nil ?_
              refine Go.then_ ?_
              refine W.region ?_
              refine WL.q (R.move rfl) rfl ?_
              refine WL.q (R.sub rfl rfl) rfl ?_
              refine WL.q (R.assign rfl) rfl ?_
              refine WL.nil ?_
              refine Go.n_block ?_
              have he := Option.some.inj hm
              clear hm
              subst x
              exact fun a w s => Exists.intro _ (And.intro rfl (Sat.mk (s.env.le ⟨rfl, rfl, rfl, rfl, rfl, rfl, trivial⟩) (s.mem)))
    · intro e a w hJ
      obtain ⟨rfl, s⟩ := hJ
      refine Go.use s ?_
      refine Go.x_block ?_
      refine Go.then_ ?_
      refine W.seq ?_
      refine W.region ?_
      refine WL.q (R.move rfl) rfl ?_
      refine WL.q (R.assign rfl) rfl ?_
      refine WL.nil ?_
      refine Go.then_ ?_
      refine W.ret ?_
      have he := Option.some.inj hm
      clear hm
      subst r
      exact Go.ret1 rfl (.tmp rfl) (fun w hw => ⟨_, rfl, _, ⟨(), rfl, rfl⟩, hw⟩)
set_option maxRecDepth 100000 in
theorem slices_partitionCmpFunc_impl_set_tr {G : World} {F : List Res} (q0 : Value) (p0 : (List Int)) (p1 : Int) (p2 : Int) (p3 : Int) (g4 : FuncId) (fs4 cs4 : List Value) (f4 : Int → Int → Option Int) (en_4 : Enters Try.prog g4) (hf4 : ∀ (L : List Res) (a0 : Int) (a1 : Int) (r : Int), f4 a0 a1 = some r → Tr Try.prog G g4 (fs4 ++ [(.int .i64 a0), (.int .i64 a1)] ++ cs4) (L ++ F) (fun u K => ∃ x : Unit, u = (.int .i64 r) ∧ K = L ++ F)) {r : (Int × Bool × (List Int))} (hm : slices_partitionCmpFunc_impl_set p0 p1 p2 p3 f4 = some r) : Tr Try.prog G 64 [q0, (.int .i64 p1), (.int .i64 p2), (.int .i64 p3), (.func (.func g4) fs4.toArray cs4.toArray)] ((slT (Enc.int .i64) q0 p0) :: F) (fun u K => ∃ x : Unit, u = (.tuple #[(.int .i64 r.1), (.bool r.2.1)]) ∧ K = ((slT (Enc.int .i64) q0 r.2.2) :: F)) := by
  unfold slices_partitionCmpFunc_impl_set at hm
  refine Tr.body Try.func64 rfl Try.ntmps64 ?_
  refine W.seq ?_
  refine W.region ?_
  refine WL.q (R.assign rfl) rfl ?_
  refine WL.q (R.assign rfl) rfl ?_
  refine WL.nil ?_
  refine Go.then_ ?_
  refine W.seq ?_
  obtain ⟨h1, hm⟩ := of_guard hm
  obtain ⟨h2, hm⟩ := of_guard hm
  obtain ⟨h3, hm⟩ := of_guard hm
  refine W.join1 (fun a w => Sat G ((slT (Enc.int .i64) q0 (sls (sls p0 p1 (gl p0 p3)) p3 (gl p0 p1))) :: F) 178 [(0, q0), (1, (.int .i64 p1)), (2, (.int .i64 p2)), (4, (.func (.func g4) fs4.toArray cs4.toArray)), (10, (.int .i64 0)), (11, (.bool false))] a w) ?_ ?_
  · refine W.draw (n := 16) F F 13 (by kernel_rfl) rfl rfl (fun w hw => hw.reord [] 1 rfl) (fun w hw => hw.drop 1) ?_
    refine WK.q (i := 0) rfl rfl (by kernel_rfl) calm_n (R.move rfl) rfl rfl ?_
    refine WK.q (i := 1) rfl rfl (by kernel_rfl) calm_n (R.move rfl) rfl rfl ?_
    refine WK.q (i := 2) rfl rfl (by kernel_rfl) calm_n (R.move rfl) rfl rfl ?_
    refine WK.q (i := 3) rfl rfl (by kernel_rfl) calm_n (R.move rfl) rfl rfl ?_
    refine WK.q (i := 4) rfl rfl (by kernel_rfl) calm_n (R.move rfl) rfl rfl ?_
    refine WK.q (i := 5) rfl rfl (by kernel_rfl) calm_n (R.move rfl) rfl rfl ?_
    refine WK.q (i := 8) rfl rfl (by kernel_rfl) calm_n (R.move rfl) rfl rfl ?_
    refine WK.q (i := 9) rfl rfl (by kernel_rfl) calm_n (R.move rfl) rfl rfl ?_
    refine WK.among (is := [6, 10]) (by kernel_rfl) rfl ?_
    refine WKa.x rfl (OpV.x (R.idxT rfl rfl el40 (RdT.at 0 rfl) h1)) (fun _ w hw => hw.reord [] 1 rfl) (fun _ _ _ w hw => hw.reord [] 1 rfl) rfl rfl (by kernel_rfl) (fun _ => ?_) ?_
    · refine WK.among (is := [7, 10]) (by kernel_rfl) rfl ?_
      refine WKa.x rfl (OpV.x (R.load rfl (At.elT (RdT.at 0 rfl) (by decide) h1) (Lies.one _ ia50))) (fun _ w hw => hw.reord [] 1 rfl) (fun _ _ _ w hw => hw.reord [] 1 rfl) rfl rfl (by kernel_rfl) (fun _ => ?_) ?_
      · refine WK.x (i := 10) (by kernel_rfl) rfl (OpV.x (R.idxT rfl rfl el40 (RdT.at 0 rfl) h2)) (fun _ w hw => hw.reord [] 1 rfl) (fun _ _ _ w hw => hw.reord [] 1 rfl) rfl rfl (by kernel_rfl) fun _ => ?_
        refine WK.x (i := 11) (by kernel_rfl) rfl (OpV.x (R.load rfl (At.elT (RdT.at 0 rfl) (by decide) h2) (Lies.one _ ia50))) (fun _ w hw => hw.reord [] 1 rfl) (fun _ _ _ w hw => hw.reord [] 1 rfl) rfl rfl (by kernel_rfl) fun _ => ?_
        refine WK.x (i := 12) (by kernel_rfl) rfl (OpV.x (R.idxT rfl rfl el40 (RdT.at 0 rfl) h2)) (fun _ w hw => hw.reord [] 1 rfl) (fun _ _ _ w hw => hw.reord [] 1 rfl) rfl rfl (by kernel_rfl) fun _ => ?_
        refine WK.x0 (i := 13) (by kernel_rfl) rfl (R.storeT (i := 0) (gl p0 p3) rfl rfl rfl (fits_int sz50) (by decide) h2) (fun _ w hw => hw.reord [] 1 rfl) (fun h1 h2 => by cases h1) rfl (by kernel_rfl) fun _ => ?_
        refine WK.x (i := 14) (by kernel_rfl) rfl (OpV.x (R.idxT rfl rfl el40 (RdT.at 0 rfl) h3)) (fun _ w hw => hw.reord [] 1 rfl) (fun h1 h2 => by cases h2) rfl rfl (by kernel_rfl) fun _ => ?_
        refine WK.x0 (i := 15) (by kernel_rfl) rfl (R.storeT (i := 0) (gl p0 p1) rfl rfl rfl (fits_int sz50) (by decide) h3) (fun _ w hw => hw.reord [] 1 rfl) (fun h1 h2 => by cases h2) rfl (by kernel_rfl) fun _ => ?_
        refine WK.nil (by kernel_rfl) ?_
        exact fun a w s => And.intro rfl (Sat.mk (s.env.le ⟨rfl, rfl, rfl, rfl, rfl, rfl, trivial⟩) (s.mem))
      refine WKa.x rfl (OpV.x (R.idxT rfl rfl el40 (RdT.at 0 rfl) h2)) (fun _ w hw => hw.reord [] 1 rfl) (fun _ _ _ w hw => hw.reord [] 1 rfl) rfl rfl (by kernel_rfl) (fun _ => ?_) ?_
      · refine WK.among (is := [7, 11]) (by kernel_rfl) rfl ?_
        refine WKa.x rfl (OpV.x (R.load rfl (At.elT (RdT.at 0 rfl) (by decide) h1) (Lies.one _ ia50))) (fun _ w hw => hw.reord [] 1 rfl) (fun _ _ _ w hw => hw.reord [] 1 rfl) rfl rfl (by kernel_rfl) (fun _ => ?_) ?_
        · refine WK.x (i := 11) (by kernel_rfl) rfl (OpV.x (R.load rfl (At.elT (RdT.at 0 rfl) (by decide) h2) (Lies.one _ ia50))) (fun _ w hw => hw.reord [] 1 rfl) (fun _ _ _ w hw => hw.reord [] 1 rfl) rfl rfl (by kernel_rfl) fun _ => ?_
          refine WK.x (i := 12) (by kernel_rfl) rfl (OpV.x (R.idxT rfl rfl el40 (RdT.at 0 rfl) h2)) (fun _ w hw => hw.reord [] 1 rfl) (fun _ _ _ w hw => hw.reord [] 1 rfl) rfl rfl (by kernel_rfl) fun _ => ?_
          refine WK.x0 (i := 13) (by kernel_rfl) rfl (R.storeT (i := 0) (gl p0 p3) rfl rfl rfl (fits_int sz50) (by decide) h2) (fun _ w hw => hw.reord [] 1 rfl) (fun h1 h2 => by cases h1) rfl (by kernel_rfl) fun _ => ?_
          refine WK.x (i := 14) (by kernel_rfl) rfl (OpV.x (R.idxT rfl rfl el40 (RdT.at 0 rfl) h3)) (fun _ w hw => hw.reord [] 1 rfl) (fun h1 h2 => by cases h2) rfl rfl (by kernel_rfl) fun _ => ?_
          refine WK.x0 (i := 15) (by kernel_rfl) rfl (R.storeT (i := 0) (gl p0 p1) rfl rfl rfl (fits_int sz50) (by decide) h3) (fun _ w hw => hw.reord [] 1 rfl) (fun h1 h2 => by cases h2) rfl (by kernel_rfl) fun _ => ?_
          refine WK.nil (by kernel_rfl) ?_
          exact fun a w s => And.intro rfl (Sat.mk (s.env.le ⟨rfl, rfl, rfl, rfl, rfl, rfl, trivial⟩) (s.mem))
        refine WKa.x rfl (OpV.x (R.load rfl (At.elT (RdT.at 0 rfl) (by decide) h2) (Lies.one _ ia50))) (fun _ w hw => hw.reord [] 1 rfl) (fun _ _ _ w hw => hw.reord [] 1 rfl) rfl rfl (by kernel_rfl) (fun _ => ?_) ?_
        · refine WK.x (i := 7) (by kernel_rfl) rfl (OpV.x (R.load rfl (At.elT (RdT.at 0 rfl) (by decide) h1) (Lies.one _ ia50))) (fun _ w hw => hw.reord [] 1 rfl) (fun _ _ _ w hw => hw.reord [] 1 rfl) rfl rfl (by kernel_rfl) fun _ => ?_
          refine WK.x (i := 12) (by kernel_rfl) rfl (OpV.x (R.idxT rfl rfl el40 (RdT.at 0 rfl) h2)) (fun _ w hw => hw.reord [] 1 rfl) (fun _ _ _ w hw => hw.reord [] 1 rfl) rfl rfl (by kernel_rfl) fun _ => ?_
          refine WK.x0 (i := 13) (by kernel_rfl) rfl (R.storeT (i := 0) (gl p0 p3) rfl rfl rfl (fits_int sz50) (by decide) h2) (fun _ w hw => hw.reord [] 1 rfl) (fun h1 h2 => by cases h1) rfl (by kernel_rfl) fun _ => ?_
          refine WK.x (i := 14) (by kernel_rfl) rfl (OpV.x (R.idxT rfl rfl el40 (RdT.at 0 rfl) h3)) (fun _ w hw => hw.reord [] 1 rfl) (fun h1 h2 => by cases h2) rfl rfl (by kernel_rfl) fun _ => ?_
          refine WK.x0 (i := 15) (by kernel_rfl) rfl (R.storeT (i := 0) (gl p0 p1) rfl rfl rfl (fits_int sz50) (by decide) h3) (fun _ w hw => hw.reord [] 1 rfl) (fun h1 h2 => by cases h2) rfl (by kernel_rfl) fun _ => ?_
          refine WK.nil (by kernel_rfl) ?_
          exact fun a w s => And.intro rfl (Sat.mk (s.env.le ⟨rfl, rfl, rfl, rfl, rfl, rfl, trivial⟩) (s.mem))
        exact WKa.nil
      exact WKa.nil
    refine WKa.x rfl (OpV.x (R.idxT rfl rfl el40 (RdT.at 0 rfl) h2)) (fun _ w hw => hw.reord [] 1 rfl) (fun _ _ _ w hw => hw.reord [] 1 rfl) rfl rfl (by kernel_rfl) (fun _ => ?_) ?_
    · refine WK.among (is := [6, 11]) (by kernel_rfl) rfl ?_
      refine WKa.x rfl (OpV.x (R.idxT rfl rfl el40 (RdT.at 0 rfl) h1)) (fun _ w hw => hw.reord [] 1 rfl) (fun _ _ _ w hw => hw.reord [] 1 rfl) rfl rfl (by kernel_rfl) (fun _ => ?_) ?_
      · refine WK.among (is := [7, 11]) (by kernel_rfl) rfl ?_
        refine WKa.x rfl (OpV.x (R.load rfl (At.elT (RdT.at 0 rfl) (by decide) h1) (Lies.one _ ia50))) (fun _ w hw => hw.reord [] 1 rfl) (fun _ _ _ w hw => hw.reord [] 1 rfl) rfl rfl (by kernel_rfl) (fun _ => ?_) ?_
        · refine WK.x (i := 11) (by kernel_rfl) rfl (OpV.x (R.load rfl (At.elT (RdT.at 0 rfl) (by decide) h2) (Lies.one _ ia50))) (fun _ w hw => hw.reord [] 1 rfl) (fun _ _ _ w hw => hw.reord [] 1 rfl) rfl rfl (by kernel_rfl) fun _ => ?_
          refine WK.x (i := 12) (by kernel_rfl) rfl (OpV.x (R.idxT rfl rfl el40 (RdT.at 0 rfl) h2)) (fun _ w hw => hw.reord [] 1 rfl) (fun _ _ _ w hw => hw.reord [] 1 rfl) rfl rfl (by kernel_rfl) fun _ => ?_
          refine WK.x0 (i := 13) (by kernel_rfl) rfl (R.storeT (i := 0) (gl p0 p3) rfl rfl rfl (fits_int sz50) (by decide) h2) (fun _ w hw => hw.reord [] 1 rfl) (fun h1 h2 => by cases h1) rfl (by kernel_rfl) fun _ => ?_
          refine WK.x (i := 14) (by kernel_rfl) rfl (OpV.x (R.idxT rfl rfl el40 (RdT.at 0 rfl) h3)) (fun _ w hw => hw.reord [] 1 rfl) (fun h1 h2 => by cases h2) rfl rfl (by kernel_rfl) fun _ => ?_
          refine WK.x0 (i := 15) (by kernel_rfl) rfl (R.storeT (i := 0) (gl p0 p1) rfl rfl rfl (fits_int sz50) (by decide) h3) (fun _ w hw => hw.reord [] 1 rfl) (fun h1 h2 => by cases h2) rfl (by kernel_rfl) fun _ => ?_
          refine WK.nil (by kernel_rfl) ?_
          exact fun a w s => And.intro rfl (Sat.mk (s.env.le ⟨rfl, rfl, rfl, rfl, rfl, rfl, trivial⟩) (s.mem))
        refine WKa.x rfl (OpV.x (R.load rfl (At.elT (RdT.at 0 rfl) (by decide) h2) (Lies.one _ ia50))) (fun _ w hw => hw.reord [] 1 rfl) (fun _ _ _ w hw => hw.reord [] 1 rfl) rfl rfl (by kernel_rfl) (fun _ => ?_) ?_
        · refine WK.x (i := 7) (by kernel_rfl) rfl (OpV.x (R.load rfl (At.elT (RdT.at 0 rfl) (by decide) h1) (Lies.one _ ia50))) (fun _ w hw => hw.reord [] 1 rfl) (fun _ _ _ w hw => hw.reord [] 1 rfl) rfl rfl (by kernel_rfl) fun _ => ?_
          refine WK.x (i := 12) (by kernel_rfl) rfl (OpV.x (R.idxT rfl rfl el40 (RdT.at 0 rfl) h2)) (fun _ w hw => hw.reord [] 1 rfl) (fun _ _ _ w hw => hw.reord [] 1 rfl) rfl rfl (by kernel_rfl) fun _ => ?_
          refine WK.x0 (i := 13) (by kernel_rfl) rfl (R.storeT (i := 0) (gl p0 p3) rfl rfl rfl (fits_int sz50) (by decide) h2) (fun _ w hw => hw.reord [] 1 rfl) (fun h1 h2 => by cases h1) rfl (by kernel_rfl) fun _ => ?_
          refine WK.x (i := 14) (by kernel_rfl) rfl (OpV.x (R.idxT rfl rfl el40 (RdT.at 0 rfl) h3)) (fun _ w hw => hw.reord [] 1 rfl) (fun h1 h2 => by cases h2) rfl rfl (by kernel_rfl) fun _ => ?_
          refine WK.x0 (i := 15) (by kernel_rfl) rfl (R.storeT (i := 0) (gl p0 p1) rfl rfl rfl (fits_int sz50) (by decide) h3) (fun _ w hw => hw.reord [] 1 rfl) (fun h1 h2 => by cases h2) rfl (by kernel_rfl) fun _ => ?_
          refine WK.nil (by kernel_rfl) ?_
          exact fun a w s => And.intro rfl (Sat.mk (s.env.le ⟨rfl, rfl, rfl, rfl, rfl, rfl, trivial⟩) (s.mem))
        exact WKa.nil
      refine WKa.x rfl (OpV.x (R.load rfl (At.elT (RdT.at 0 rfl) (by decide) h2) (Lies.one _ ia50))) (fun _ w hw => hw.reord [] 1 rfl) (fun _ _ _ w hw => hw.reord [] 1 rfl) rfl rfl (by kernel_rfl) (fun _ => ?_) ?_
      · refine WK.x (i := 6) (by kernel_rfl) rfl (OpV.x (R.idxT rfl rfl el40 (RdT.at 0 rfl) h1)) (fun _ w hw => hw.reord [] 1 rfl) (fun _ _ _ w hw => hw.reord [] 1 rfl) rfl rfl (by kernel_rfl) fun _ => ?_
        refine WK.x (i := 7) (by kernel_rfl) rfl (OpV.x (R.load rfl (At.elT (RdT.at 0 rfl) (by decide) h1) (Lies.one _ ia50))) (fun _ w hw => hw.reord [] 1 rfl) (fun _ _ _ w hw => hw.reord [] 1 rfl) rfl rfl (by kernel_rfl) fun _ => ?_
        refine WK.x (i := 12) (by kernel_rfl) rfl (OpV.x (R.idxT rfl rfl el40 (RdT.at 0 rfl) h2)) (fun _ w hw => hw.reord [] 1 rfl) (fun _ _ _ w hw => hw.reord [] 1 rfl) rfl rfl (by kernel_rfl) fun _ => ?_
        refine WK.x0 (i := 13) (by kernel_rfl) rfl (R.storeT (i := 0) (gl p0 p3) rfl rfl rfl (fits_int sz50) (by decide) h2) (fun _ w hw => hw.reord [] 1 rfl) (fun h1 h2 => by cases h1) rfl (by kernel_rfl) fun _ => ?_
        refine WK.x (i := 14) (by kernel_rfl) rfl (OpV.x (R.idxT rfl rfl el40 (RdT.at 0 rfl) h3)) (fun _ w hw => hw.reord [] 1 rfl) (fun h1 h2 => by cases h2) rfl rfl (by kernel_rfl) fun _ => ?_
        refine WK.x0 (i := 15) (by kernel_rfl) rfl (R.storeT (i := 0) (gl p0 p1) rfl rfl rfl (fits_int sz50) (by decide) h3) (fun _ w hw => hw.reord [] 1 rfl) (fun h1 h2 => by cases h2) rfl (by kernel_rfl) fun _ => ?_
        refine WK.nil (by kernel_rfl) ?_
        exact fun a w s => And.intro rfl (Sat.mk (s.env.le ⟨rfl, rfl, rfl, rfl, rfl, rfl, trivial⟩) (s.mem))
      exact WKa.nil
    exact WKa.nil
  · refine Go2.sat ?_
    refine Go.then_ ?_
    refine W.seq ?_
    refine W.region ?_
    refine WL.q (R.move rfl) rfl ?_
    refine WL.q (R.add rfl rfl) rfl ?_
    refine WL.q (R.move rfl) rfl ?_
    refine WL.q (R.sub rfl rfl) rfl ?_
    refine WL.q (R.assign rfl) rfl ?_
    refine WL.q (R.assign rfl) rfl ?_
    refine WL.nil ?_
    refine Go.then_ ?_
    refine W.seq ?_
    refine W.block ?_
    obtain ⟨o5, hlo5, hm⟩ := of_bind hm
    refine W.loopx (fun (s4 : Int) a w => Sat G ((slT (Enc.int .i64) q0 (sls (sls p0 p1 (gl p0 p3)) p3 (gl p0 p1))) :: F) 178 [(0, q0), (1, (.int .i64 p1)), (4, (.func (.func g4) fs4.toArray cs4.toArray)), (10, (.int .i64 0)), (11, (.bool false)), (12, (.int .i64 s4)), (13, (.int .i64 (IntKind.i64.wrap (p2 - 1))))] a w) (fun (o5 : Int) e a w => And (e = (.exit 0)) (Sat G ((slT (Enc.int .i64) q0 (sls (sls p0 p1 (gl p0 p3)) p3 (gl p0 p1))) :: F) 178 [(0, q0), (1, (.int .i64 p1)), (4, (.func (.func g4) fs4.toArray cs4.toArray)), (10, (.int .i64 0)), (11, (.bool false)), (12, (.int .i64 o5)), (13, (.int .i64 (IntKind.i64.wrap (p2 - 1))))] a w)) hlo5 (fun a w s => (Sat.mk (s.env.le ⟨rfl, rfl, rfl, rfl, rfl, rfl, rfl, trivial⟩) (s.mem))) ?_ ?_
    · clear hm
      intro s4 x hm a w hJ
      have s := hJ
      unfold slices_partitionCmpFunc_impl_set_L1 at hm
      refine W.use s ?_
      refine W.seq ?_
      obtain ⟨o28, hm, hmo28⟩ := of_bind hm
      refine W.seq ?_
      refine W.join (fun e a w => And (e = .normal) (Sat G ((slT (Enc.int .i64) q0 (sls (sls p0 p1 (gl p0 p3)) p3 (gl p0 p1))) :: F) 178 [(0, q0), (1, (.int .i64 p1)), (4, (.func (.func g4) fs4.toArray cs4.toArray)), (10, (.int .i64 0)), (11, (.bool false)), (12, (.int .i64 s4)), (13, (.int .i64 (IntKind.i64.wrap (p2 - 1)))), (47, (.bool o28))] a w)) ?_ ?_
      · by_cases h22 : s4 ≤ IntKind.i64.wrap (p2 - 1)
        · rw [if_pos h22] at hm
          obtain ⟨h23, hm⟩ := of_guard hm
          obtain ⟨h24, hm⟩ := of_guard hm
          obtain ⟨o25, h26, hm⟩ := of_bind hm
          refine W.join1 (fun a w => ∃ x27 : Unit, Sat G ((slT (Enc.int .i64) q0 (sls (sls p0 p1 (gl p0 p3)) p3 (gl p0 p1))) :: F) 178 [(0, q0), (1, (.int .i64 p1)), (4, (.func (.func g4) fs4.toArray cs4.toArray)), (10, (.int .i64 0)), (11, (.bool false)), (12, (.int .i64 s4)), (13, (.int .i64 (IntKind.i64.wrap (p2 - 1)))), (36, (.func (.func g4) fs4.toArray cs4.toArray)), (37, q0), (38, (.int .i64 s4)), (40, (.int .i64 (gl (sls (sls p0 p1 (gl p0 p3)) p3 (gl p0 p1)) s4))), (41, q0), (42, (.int .i64 p1)), (44, (.int .i64 (gl (sls (sls p0 p1 (gl p0 p3)) p3 (gl p0 p1)) p1))), (45, (.int .i64 o25)), (46, (.bool (decide (o25 < 0)))), (47, (.bool (decide (o25 < 0))))] a w) ?_ ?_
          · refine W.draw (n := 16) ((slT (Enc.int .i64) q0 (sls (sls p0 p1 (gl p0 p3)) p3 (gl p0 p1))) :: F) F 16 (by kernel_rfl) rfl rfl (fun w hw => hw) (fun w hw => hw.drop 1) ?_
            refine WK.q (i := 0) rfl rfl (by kernel_rfl) calm_n (R.move rfl) rfl rfl ?_
            refine WK.x (i := 1) (by kernel_rfl) rfl (OpV.x (R.move rfl)) (fun _ w hw => hw) (fun _ _ _ w hw => hw.reord [] 1 rfl) rfl rfl (by kernel_rfl) fun _ => ?_
            refine WK.x (i := 2) (by kernel_rfl) rfl (OpV.x (R.leq rfl rfl)) (fun _ w hw => hw) (fun _ _ _ w hw => hw.reord [] 1 rfl) rfl rfl (by kernel_rfl) fun _ => ?_
            refine WK.x (i := 3) (by kernel_rfl) rfl (OpV.x (R.move rfl)) (fun _ w hw => hw) (fun _ _ _ w hw => hw.reord [] 1 rfl) rfl rfl (by kernel_rfl) fun _ => ?_
            refine WK.qg (i := 4) rfl rfl rfl (decide_eq_true h22) (by kernel_rfl) calm_n (R.move rfl) rfl rfl ?_
            refine WK.qg (i := 5) rfl rfl rfl (decide_eq_true h22) (by kernel_rfl) calm_n (R.move rfl) rfl rfl ?_
            refine WK.qg (i := 6) rfl rfl rfl (decide_eq_true h22) (by kernel_rfl) calm_n (R.move rfl) rfl rfl ?_
            refine WK.qg (i := 7) rfl rfl rfl (decide_eq_true h22) (by kernel_rfl) calm_n (R.idxT rfl rfl el40 (RdT.at 0 rfl) h23) rfl rfl ?_
            refine WK.qg (i := 8) rfl rfl rfl (decide_eq_true h22) (by kernel_rfl) calm_n (R.load rfl (At.elT (RdT.at 0 rfl) (by decide) h23) (Lies.one _ ia50)) rfl rfl ?_
            refine WK.qg (i := 9) rfl rfl rfl (decide_eq_true h22) (by kernel_rfl) calm_n (R.move rfl) rfl rfl ?_
            refine WK.xg (i := 10) (by kernel_rfl) rfl rfl rfl (decide_eq_true h22) (OpV.x (R.move rfl)) (fun _ w hw => hw) (fun _ _ _ w hw => hw.reord [] 1 rfl) rfl rfl (by kernel_rfl) fun _ => ?_
            refine WK.xg (i := 11) (by kernel_rfl) rfl rfl rfl (decide_eq_true h22) (OpV.x (R.idxT rfl rfl el40 (RdT.at 0 rfl) h24)) (fun _ w hw => hw) (fun _ _ _ w hw => hw.reord [] 1 rfl) rfl rfl (by kernel_rfl) fun _ => ?_
            refine WK.xg (i := 12) (by kernel_rfl) rfl rfl rfl (decide_eq_true h22) (OpV.x (R.load rfl (At.elT (RdT.at 0 rfl) (by decide) h24) (Lies.one _ ia50))) (fun _ w hw => hw) (fun _ _ _ w hw => hw.reord [] 1 rfl) rfl rfl (by kernel_rfl) fun _ => ?_
            refine WK.xg (i := 13) (by kernel_rfl) rfl rfl rfl (decide_eq_true h22) (R.callAny (fs := fs4) (cs := cs4) (vs := [(.int .i64 (gl (sls (sls p0 p1 (gl p0 p3)) p3 (gl p0 p1)) s4)), (.int .i64 (gl (sls (sls p0 p1 (gl p0 p3)) p3 (gl p0 p1)) p1))]) rfl rfl en_4 (hf4 [(slT (Enc.int .i64) q0 (sls (sls p0 p1 (gl p0 p3)) p3 (gl p0 p1)))] (gl (sls (sls p0 p1 (gl p0 p3)) p3 (gl p0 p1)) s4) (gl (sls (sls p0 p1 (gl p0 p3)) p3 (gl p0 p1)) p1) _ h26)) (fun _ w hw => hw) (fun _ _ _ w hw => hw.reord [] 1 rfl) rfl rfl (by kernel_rfl) fun x27 => ?_
            refine WK.xg (i := 14) (by kernel_rfl) rfl rfl rfl (decide_eq_true h22) (OpV.x (R.lss rfl rfl)) (fun _ w hw => hw) (fun _ _ _ w hw => hw.reord [] 1 rfl) rfl rfl (by kernel_rfl) fun _ => ?_
            refine WK.x (i := 15) (by kernel_rfl) rfl (OpV.x (R.pick_t rfl (decide_eq_true h22) rfl)) (fun _ w hw => hw) (fun _ _ _ w hw => hw.reord [] 1 rfl) rfl rfl (by kernel_rfl) fun _ => ?_
            refine WK.nil (by kernel_rfl) ?_
            exact fun a w s => And.intro rfl (Exists.intro x27 (Sat.mk (s.env.le ⟨rfl, rfl, rfl, rfl, rfl, rfl, rfl, rfl, rfl, rfl, rfl, rfl, rfl, rfl, rfl, rfl, rfl, trivial⟩) (s.mem)))
          · refine Go2.ex fun x27 => ?_
            refine Go2.sat ?_
            have he := Option.some.inj hm
            clear hm
            subst o28
            exact fun a w s => And.intro rfl (Sat.mk (s.env.le ⟨rfl, rfl, rfl, rfl, rfl, rfl, rfl, rfl, trivial⟩) (s.mem))
        · rw [if_neg h22] at hm
          refine W.join1 (fun a w => Sat G ((slT (Enc.int .i64) q0 (sls (sls p0 p1 (gl p0 p3)) p3 (gl p0 p1))) :: F) 178 [(0, q0), (1, (.int .i64 p1)), (4, (.func (.func g4) fs4.toArray cs4.toArray)), (10, (.int .i64 0)), (11, (.bool false)), (12, (.int .i64 s4)), (13, (.int .i64 (IntKind.i64.wrap (p2 - 1)))), (47, (.bool false))] a w) ?_ ?_
          · refine W.draw (n := 16) ((slT (Enc.int .i64) q0 (sls (sls p0 p1 (gl p0 p3)) p3 (gl p0 p1))) :: F) F 16 (by kernel_rfl) rfl rfl (fun w hw => hw) (fun w hw => hw.drop 1) ?_
            refine WK.q (i := 0) rfl rfl (by kernel_rfl) calm_n (R.move rfl) rfl rfl ?_
            refine WK.x (i := 1) (by kernel_rfl) rfl (OpV.x (R.move rfl)) (fun _ w hw => hw) (fun _ _ _ w hw => hw.reord [] 1 rfl) rfl rfl (by kernel_rfl) fun _ => ?_
            refine WK.x (i := 2) (by kernel_rfl) rfl (OpV.x (R.leq rfl rfl)) (fun _ w hw => hw) (fun _ _ _ w hw => hw.reord [] 1 rfl) rfl rfl (by kernel_rfl) fun _ => ?_
            refine WK.x (i := 3) (by kernel_rfl) rfl (OpV.x (R.move rfl)) (fun _ w hw => hw) (fun _ _ _ w hw => hw.reord [] 1 rfl) rfl rfl (by kernel_rfl) fun _ => ?_
            refine WK.qoff (i := 4) rfl rfl rfl (decide_eq_false h22) (by kernel_rfl) calm_n rfl rfl ?_
            refine WK.qoff (i := 5) rfl rfl rfl (decide_eq_false h22) (by kernel_rfl) calm_n rfl rfl ?_
            refine WK.qoff (i := 6) rfl rfl rfl (decide_eq_false h22) (by kernel_rfl) calm_n rfl rfl ?_
            refine WK.qoff (i := 7) rfl rfl rfl (decide_eq_false h22) (by kernel_rfl) calm_n rfl rfl ?_
            refine WK.qoff (i := 8) rfl rfl rfl (decide_eq_false h22) (by kernel_rfl) calm_n rfl rfl ?_
            refine WK.qoff (i := 9) rfl rfl rfl (decide_eq_false h22) (by kernel_rfl) calm_n rfl rfl ?_
            refine WK.qoff (i := 10) rfl rfl rfl (decide_eq_false h22) (by kernel_rfl) calm_n rfl rfl ?_
            refine WK.qoff (i := 11) rfl rfl rfl (decide_eq_false h22) (by kernel_rfl) calm_n rfl rfl ?_
            refine WK.qoff (i := 12) rfl rfl rfl (decide_eq_false h22) (by kernel_rfl) calm_n rfl rfl ?_
            refine WK.qoff (i := 13) rfl rfl rfl (decide_eq_false h22) (by kernel_rfl) calm_n rfl rfl ?_
            refine WK.qoff (i := 14) rfl rfl rfl (decide_eq_false h22) (by kernel_rfl) calm_n rfl rfl ?_
            refine WK.x (i := 15) (by kernel_rfl) rfl (OpV.x (R.pick_f rfl (decide_eq_false h22) rfl)) (fun _ w hw => hw) (fun _ _ _ w hw => hw.reord [] 1 rfl) rfl rfl (by kernel_rfl) fun _ => ?_
            refine WK.nil (by kernel_rfl) ?_
            exact fun a w s => And.intro rfl (Sat.mk (s.env.le ⟨rfl, rfl, rfl, rfl, rfl, rfl, rfl, rfl, trivial⟩) (s.mem))
          · refine Go2.sat ?_
            have he := Option.some.inj hm
            clear hm
            subst o28
            exact fun a w s => And.intro rfl (Sat.mk (s.env.le ⟨rfl, rfl, rfl, rfl, rfl, rfl, rfl, rfl, trivial⟩) (s.mem))
      · intro e a w hJ
        replace hm := hmo28
        clear hmo28
        obtain ⟨rfl, s⟩ := hJ
        refine Go.use s ?_
        refine Go.then_ ?_
        by_cases h29 : o28 = true
        · rw [if_pos h29] at hm
          refine W.cond_t rfl h29 ?_
          refine W.skip ?_
          refine Go.then_ ?_
          refine W.block ?_
          refine W.region ?_
          refine WL.q (R.move rfl) rfl ?_
          refine WL.q (R.add rfl rfl) rfl ?_
          refine WL.q (R.assign rfl) rfl ?_
          refine WL.nil ?_
          refine Go.n_block ?_
          have he := Option.some.inj hm
          clear hm
          subst x
          exact fun a w s => Exists.intro _ (And.intro rfl (Sat.mk (s.env.le ⟨rfl, rfl, rfl, rfl, rfl, rfl, rfl, trivial⟩) (s.mem)))
        · rw [if_neg h29] at hm
          refine W.cond_f rfl (b_f h29) ?_
          refine W.exit ?_
          refine Go.x_then ?_
          have he := Option.some.inj hm
          clear hm
          subst x
          exact fun a w s => Exists.intro _ (And.intro rfl (And.intro rfl (Sat.mk (s.env.le ⟨rfl, rfl, rfl, rfl, rfl, rfl, rfl, trivial⟩) (s.mem))))
    · intro e a w hJ
      obtain ⟨rfl, s⟩ := hJ
      refine Go.use s ?_
      refine Go.x_block ?_
      refine Go.then_ ?_
      refine W.seq ?_
      refine W.block ?_
      obtain ⟨o31, hlo31, hm⟩ := of_bind hm
      refine W.loopx (fun (s30 : Int) a w => Sat G ((slT (Enc.int .i64) q0 (sls (sls p0 p1 (gl p0 p3)) p3 (gl p0 p1))) :: F) 178 [(0, q0), (1, (.int .i64 p1)), (4, (.func (.func g4) fs4.toArray cs4.toArray)), (10, (.int .i64 0)), (11, (.bool false)), (12, (.int .i64 o5)), (13, (.int .i64 s30))] a w) (fun (o31 : Int) e a w => And (e = (.exit 2)) (Sat G ((slT (Enc.int .i64) q0 (sls (sls p0 p1 (gl p0 p3)) p3 (gl p0 p1))) :: F) 178 [(0, q0), (1, (.int .i64 p1)), (4, (.func (.func g4) fs4.toArray cs4.toArray)), (10, (.int .i64 0)), (11, (.bool false)), (12, (.int .i64 o5)), (13, (.int .i64 o31))] a w)) hlo31 (fun a w s => (Sat.mk (s.env.le ⟨rfl, rfl, rfl, rfl, rfl, rfl, rfl, trivial⟩) (s.mem))) ?_ ?_
      · clear hm
        intro s30 x hm a w hJ
        have s := hJ
        unfold slices_partitionCmpFunc_impl_set_L2 at hm
        refine W.use s ?_
        refine W.seq ?_
        obtain ⟨o54, hm, hmo54⟩ := of_bind hm
        refine W.seq ?_
        refine W.join (fun e a w => And (e = .normal) (Sat G ((slT (Enc.int .i64) q0 (sls (sls p0 p1 (gl p0 p3)) p3 (gl p0 p1))) :: F) 178 [(0, q0), (1, (.int .i64 p1)), (4, (.func (.func g4) fs4.toArray cs4.toArray)), (10, (.int .i64 0)), (11, (.bool false)), (12, (.int .i64 o5)), (13, (.int .i64 s30)), (66, (.bool o54))] a w)) ?_ ?_
        · by_cases h48 : o5 ≤ s30
          · rw [if_pos h48] at hm
            obtain ⟨h49, hm⟩ := of_guard hm
            obtain ⟨h50, hm⟩ := of_guard hm
            obtain ⟨o51, h52, hm⟩ := of_bind hm
            refine W.join1 (fun a w => ∃ x53 : Unit, Sat G ((slT (Enc.int .i64) q0 (sls (sls p0 p1 (gl p0 p3)) p3 (gl p0 p1))) :: F) 178 [(0, q0), (1, (.int .i64 p1)), (4, (.func (.func g4) fs4.toArray cs4.toArray)), (10, (.int .i64 0)), (11, (.bool false)), (12, (.int .i64 o5)), (13, (.int .i64 s30)), (54, (.func (.func g4) fs4.toArray cs4.toArray)), (55, q0), (56, (.int .i64 s30)), (58, (.int .i64 (gl (sls (sls p0 p1 (gl p0 p3)) p3 (gl p0 p1)) s30))), (59, q0), (60, (.int .i64 p1)), (62, (.int .i64 (gl (sls (sls p0 p1 (gl p0 p3)) p3 (gl p0 p1)) p1))), (63, (.int .i64 o51)), (64, (.bool (decide (o51 < 0)))), (65, (.bool (!(decide (o51 < 0))))), (66, (.bool (!(decide (o51 < 0)))))] a w) ?_ ?_
            · refine W.draw (n := 17) ((slT (Enc.int .i64) q0 (sls (sls p0 p1 (gl p0 p3)) p3 (gl p0 p1))) :: F) F 17 (by kernel_rfl) rfl rfl (fun w hw => hw) (fun w hw => hw.drop 1) ?_
              refine WK.q (i := 0) rfl rfl (by kernel_rfl) calm_n (R.move rfl) rfl rfl ?_
              refine WK.x (i := 1) (by kernel_rfl) rfl (OpV.x (R.move rfl)) (fun _ w hw => hw) (fun _ _ _ w hw => hw.reord [] 1 rfl) rfl rfl (by kernel_rfl) fun _ => ?_
              refine WK.x (i := 2) (by kernel_rfl) rfl (OpV.x (R.leq rfl rfl)) (fun _ w hw => hw) (fun _ _ _ w hw => hw.reord [] 1 rfl) rfl rfl (by kernel_rfl) fun _ => ?_
              refine WK.x (i := 3) (by kernel_rfl) rfl (OpV.x (R.move rfl)) (fun _ w hw => hw) (fun _ _ _ w hw => hw.reord [] 1 rfl) rfl rfl (by kernel_rfl) fun _ => ?_
              refine WK.qg (i := 4) rfl rfl rfl (decide_eq_true h48) (by kernel_rfl) calm_n (R.move rfl) rfl rfl ?_
              refine WK.qg (i := 5) rfl rfl rfl (decide_eq_true h48) (by kernel_rfl) calm_n (R.move rfl) rfl rfl ?_
              refine WK.qg (i := 6) rfl rfl rfl (decide_eq_true h48) (by kernel_rfl) calm_n (R.move rfl) rfl rfl ?_
              refine WK.qg (i := 7) rfl rfl rfl (decide_eq_true h48) (by kernel_rfl) calm_n (R.idxT rfl rfl el40 (RdT.at 0 rfl) h49) rfl rfl ?_
              refine WK.qg (i := 8) rfl rfl rfl (decide_eq_true h48) (by kernel_rfl) calm_n (R.load rfl (At.elT (RdT.at 0 rfl) (by decide) h49) (Lies.one _ ia50)) rfl rfl ?_
              refine WK.qg (i := 9) rfl rfl rfl (decide_eq_true h48) (by kernel_rfl) calm_n (R.move rfl) rfl rfl ?_
              refine WK.xg (i := 10) (by kernel_rfl) rfl rfl rfl (decide_eq_true h48) (OpV.x (R.move rfl)) (fun _ w hw => hw) (fun _ _ _ w hw => hw.reord [] 1 rfl) rfl rfl (by kernel_rfl) fun _ => ?_
              refine WK.xg (i := 11) (by kernel_rfl) rfl rfl rfl (decide_eq_true h48) (OpV.x (R.idxT rfl rfl el40 (RdT.at 0 rfl) h50)) (fun _ w hw => hw) (fun _ _ _ w hw => hw.reord [] 1 rfl) rfl rfl (by kernel_rfl) fun _ => ?_
              refine WK.xg (i := 12) (by kernel_rfl) rfl rfl rfl (decide_eq_true h48) (OpV.x (R.load rfl (At.elT (RdT.at 0 rfl) (by decide) h50) (Lies.one _ ia50))) (fun _ w hw => hw) (fun _ _ _ w hw => hw.reord [] 1 rfl) rfl rfl (by kernel_rfl) fun _ => ?_
              refine WK.xg (i := 13) (by kernel_rfl) rfl rfl rfl (decide_eq_true h48) (R.callAny (fs := fs4) (cs := cs4) (vs := [(.int .i64 (gl (sls (sls p0 p1 (gl p0 p3)) p3 (gl p0 p1)) s30)), (.int .i64 (gl (sls (sls p0 p1 (gl p0 p3)) p3 (gl p0 p1)) p1))]) rfl rfl en_4 (hf4 [(slT (Enc.int .i64) q0 (sls (sls p0 p1 (gl p0 p3)) p3 (gl p0 p1)))] (gl (sls (sls p0 p1 (gl p0 p3)) p3 (gl p0 p1)) s30) (gl (sls (sls p0 p1 (gl p0 p3)) p3 (gl p0 p1)) p1) _ h52)) (fun _ w hw => hw) (fun _ _ _ w hw => hw.reord [] 1 rfl) rfl rfl (by kernel_rfl) fun x53 => ?_
              refine WK.xg (i := 14) (by kernel_rfl) rfl rfl rfl (decide_eq_true h48) (OpV.x (R.lss rfl rfl)) (fun _ w hw => hw) (fun _ _ _ w hw => hw.reord [] 1 rfl) rfl rfl (by kernel_rfl) fun _ => ?_
              refine WK.xg (i := 15) (by kernel_rfl) rfl rfl rfl (decide_eq_true h48) (OpV.x (R.not rfl)) (fun _ w hw => hw) (fun _ _ _ w hw => hw.reord [] 1 rfl) rfl rfl (by kernel_rfl) fun _ => ?_
              refine WK.x (i := 16) (by kernel_rfl) rfl (OpV.x (R.pick_t rfl (decide_eq_true h48) rfl)) (fun _ w hw => hw) (fun _ _ _ w hw => hw.reord [] 1 rfl) rfl rfl (by kernel_rfl) fun _ => ?_
              refine WK.nil (by kernel_rfl) ?_
              exact fun a w s => And.intro rfl (Exists.intro x53 (Sat.mk (s.env.le ⟨rfl, rfl, rfl, rfl, rfl, rfl, rfl, rfl, rfl, rfl, rfl, rfl, rfl, rfl, rfl, rfl, rfl, rfl, trivial⟩) (s.mem)))
            · refine Go2.ex fun x53 => ?_
              refine Go2.sat ?_
              have he := Option.some.inj hm
              clear hm
              subst o54
              exact fun a w s => And.intro rfl (Sat.mk (s.env.le ⟨rfl, rfl, rfl, rfl, rfl, rfl, rfl, rfl, trivial⟩) (s.mem))
          · rw [if_neg h48] at hm
            refine W.join1 (fun a w => Sat G ((slT (Enc.int .i64) q0 (sls (sls p0 p1 (gl p0 p3)) p3 (gl p0 p1))) :: F) 178 [(0, q0), (1, (.int .i64 p1)), (4, (.func (.func g4) fs4.toArray cs4.toArray)), (10, (.int .i64 0)), (11, (.bool false)), (12, (.int .i64 o5)), (13, (.int .i64 s30)), (66, (.bool false))] a w) ?_ ?_
            · refine W.draw (n := 17) ((slT (Enc.int .i64) q0 (sls (sls p0 p1 (gl p0 p3)) p3 (gl p0 p1))) :: F) F 17 (by kernel_rfl) rfl rfl (fun w hw => hw) (fun w hw => hw.drop 1) ?_
              refine WK.q (i := 0) rfl rfl (by kernel_rfl) calm_n (R.move rfl) rfl rfl ?_
              refine WK.x (i := 1) (by kernel_rfl) rfl (OpV.x (R.move rfl)) (fun _ w hw => hw) (fun _ _ _ w hw => hw.reord [] 1 rfl) rfl rfl (by kernel_rfl) fun _ => ?_
              refine WK.x (i := 2) (by kernel_rfl) rfl (OpV.x (R.leq rfl rfl)) (fun _ w hw => hw) (fun _ _ _ w hw => hw.reord [] 1 rfl) rfl rfl (by kernel_rfl) fun _ => ?_
              refine WK.x (i := 3) (by kernel_rfl) rfl (OpV.x (R.move rfl)) (fun _ w hw => hw) (fun _ _ _ w hw => hw.reord [] 1 rfl) rfl rfl (by kernel_rfl) fun _ => ?_
              refine WK.qoff (i := 4) rfl rfl rfl (decide_eq_false h48) (by kernel_rfl) calm_n rfl rfl ?_
              refine WK.qoff (i := 5) rfl rfl rfl (decide_eq_false h48) (by kernel_rfl) calm_n rfl rfl ?_
              refine WK.qoff (i := 6) rfl rfl rfl (decide_eq_false h48) (by kernel_rfl) calm_n rfl rfl ?_
              refine WK.qoff (i := 7) rfl rfl rfl (decide_eq_false h48) (by kernel_rfl) calm_n rfl rfl ?_
              refine WK.qoff (i := 8) rfl rfl rfl (decide_eq_false h48) (by kernel_rfl) calm_n rfl rfl ?_
              refine WK.qoff (i := 9) rfl rfl rfl (decide_eq_false h48) (by kernel_rfl) calm_n rfl rfl ?_
              refine WK.qoff (i := 10) rfl rfl rfl (decide_eq_false h48) (by kernel_rfl) calm_n rfl rfl ?_
              refine WK.qoff (i := 11) rfl rfl rfl (decide_eq_false h48) (by kernel_rfl) calm_n rfl rfl ?_
              refine WK.qoff (i := 12) rfl rfl rfl (decide_eq_false h48) (by kernel_rfl) calm_n rfl rfl ?_
              refine WK.qoff (i := 13) rfl rfl rfl (decide_eq_false h48) (by kernel_rfl) calm_n rfl rfl ?_
              refine WK.qoff (i := 14) rfl rfl rfl (decide_eq_false h48) (by kernel_rfl) calm_n rfl rfl ?_
              refine WK.qoff (i := 15) rfl rfl rfl (decide_eq_false h48) (by kernel_rfl) calm_n rfl rfl ?_
              refine WK.x (i := 16) (by kernel_rfl) rfl (OpV.x (R.pick_f rfl (decide_eq_false h48) rfl)) (fun _ w hw => hw) (fun _ _ _ w hw => hw.reord [] 1 rfl) rfl rfl (by kernel_rfl) fun _ => ?_
              refine WK.nil (by kernel_rfl) ?_
              exact fun a w s => And.intro rfl (Sat.mk (s.env.le ⟨rfl, rfl, rfl, rfl, rfl, rfl, rfl, rfl, trivial⟩) (s.mem))
            · refine Go2.sat ?_
              have he := Option.some.inj hm
              clear hm
              subst o54
              exact fun a w s => And.intro rfl (Sat.mk (s.env.le ⟨rfl, rfl, rfl, rfl, rfl, rfl, rfl, rfl, trivial⟩) (s.mem))
        · intro e a w hJ
          replace hm := hmo54
          clear hmo54
          obtain ⟨rfl, s⟩ := hJ
          refine Go.use s ?_
          refine Go.then_ ?_
          by_cases h55 : o54 = true
          · rw [if_pos h55] at hm
            refine W.cond_t rfl h55 ?_
            refine W.skip ?_
            refine Go.then_ ?_
            refine W.block ?_
            refine W.region ?_
            refine WL.q (R.move rfl) rfl ?_
            refine WL.q (R.sub rfl rfl) rfl ?_
            refine WL.q (R.assign rfl) rfl ?_
            refine WL.nil ?_
            refine Go.n_block ?_
            have he := Option.some.inj hm
            clear hm
            subst x
            exact fun a w s => Exists.intro _ (And.intro rfl (Sat.mk (s.env.le ⟨rfl, rfl, rfl, rfl, rfl, rfl, rfl, trivial⟩) (s.mem)))
          · rw [if_neg h55] at hm
            refine W.cond_f rfl (b_f h55) ?_
            refine W.exit ?_
            refine Go.x_then ?_
            have he := Option.some.inj hm
            clear hm
            subst x
            exact fun a w s => Exists.intro _ (And.intro rfl (And.intro rfl (Sat.mk (s.env.le ⟨rfl, rfl, rfl, rfl, rfl, rfl, rfl, trivial⟩) (s.mem))))
      · intro e a w hJ
        obtain ⟨rfl, s⟩ := hJ
        refine Go.use s ?_
        refine Go.x_block ?_
        refine Go.then_ ?_
        refine W.seq ?_
        refine W.seq ?_
        refine W.region ?_
        refine WL.q (R.move rfl) rfl ?_
        refine WL.q (R.move rfl) rfl ?_
        refine WL.q (R.gtr rfl rfl) rfl ?_
        refine WL.nil ?_
        refine Go.then_ ?_
        by_cases h56 : o31 < o5
        · rw [if_pos h56] at hm
          refine W.cond_t rfl (decide_eq_true h56) ?_
          refine W.seq ?_
          obtain ⟨h57, hm⟩ := of_guard hm
          obtain ⟨h58, hm⟩ := of_guard hm
          obtain ⟨h59, hm⟩ := of_guard hm
          refine W.join1 (fun a w => Sat G ((slT (Enc.int .i64) q0 (sls (sls (sls (sls p0 p1 (gl p0 p3)) p3 (gl p0 p1)) o31 (gl (sls (sls p0 p1 (gl p0 p3)) p3 (gl p0 p1)) p1)) p1 (gl (sls (sls p0 p1 (gl p0 p3)) p3 (gl p0 p1)) o31))) :: F) 178 [(0, q0), (1, (.int .i64 p1)), (4, (.func (.func g4) fs4.toArray cs4.toArray)), (10, (.int .i64 0)), (11, (.bool false)), (12, (.int .i64 o5)), (13, (.int .i64 o31))] a w) ?_ ?_
          · refine W.draw (n := 16) F F 13 (by kernel_rfl) rfl rfl (fun w hw => hw.reord [] 1 rfl) (fun w hw => hw.drop 1) ?_
            refine WK.q (i := 0) rfl rfl (by kernel_rfl) calm_n (R.move rfl) rfl rfl ?_
            refine WK.q (i := 1) rfl rfl (by kernel_rfl) calm_n (R.move rfl) rfl rfl ?_
            refine WK.q (i := 2) rfl rfl (by kernel_rfl) calm_n (R.move rfl) rfl rfl ?_
            refine WK.q (i := 3) rfl rfl (by kernel_rfl) calm_n (R.move rfl) rfl rfl ?_
            refine WK.q (i := 4) rfl rfl (by kernel_rfl) calm_n (R.move rfl) rfl rfl ?_
            refine WK.q (i := 5) rfl rfl (by kernel_rfl) calm_n (R.move rfl) rfl rfl ?_
            refine WK.q (i := 8) rfl rfl (by kernel_rfl) calm_n (R.move rfl) rfl rfl ?_
            refine WK.q (i := 9) rfl rfl (by kernel_rfl) calm_n (R.move rfl) rfl rfl ?_
            refine WK.among (is := [6, 10]) (by kernel_rfl) rfl ?_
            refine WKa.x rfl (OpV.x (R.idxT rfl rfl el40 (RdT.at 0 rfl) h57)) (fun _ w hw => hw.reord [] 1 rfl) (fun _ _ _ w hw => hw.reord [] 1 rfl) rfl rfl (by kernel_rfl) (fun _ => ?_) ?_
            · refine WK.among (is := [7, 10]) (by kernel_rfl) rfl ?_
              refine WKa.x rfl (OpV.x (R.load rfl (At.elT (RdT.at 0 rfl) (by decide) h57) (Lies.one _ ia50))) (fun _ w hw => hw.reord [] 1 rfl) (fun _ _ _ w hw => hw.reord [] 1 rfl) rfl rfl (by kernel_rfl) (fun _ => ?_) ?_
              · refine WK.x (i := 10) (by kernel_rfl) rfl (OpV.x (R.idxT rfl rfl el40 (RdT.at 0 rfl) h58)) (fun _ w hw => hw.reord [] 1 rfl) (fun _ _ _ w hw => hw.reord [] 1 rfl) rfl rfl (by kernel_rfl) fun _ => ?_
                refine WK.x (i := 11) (by kernel_rfl) rfl (OpV.x (R.load rfl (At.elT (RdT.at 0 rfl) (by decide) h58) (Lies.one _ ia50))) (fun _ w hw => hw.reord [] 1 rfl) (fun _ _ _ w hw => hw.reord [] 1 rfl) rfl rfl (by kernel_rfl) fun _ => ?_
                refine WK.x (i := 12) (by kernel_rfl) rfl (OpV.x (R.idxT rfl rfl el40 (RdT.at 0 rfl) h58)) (fun _ w hw => hw.reord [] 1 rfl) (fun _ _ _ w hw => hw.reord [] 1 rfl) rfl rfl (by kernel_rfl) fun _ => ?_
                refine WK.x0 (i := 13) (by kernel_rfl) rfl (R.storeT (i := 0) (gl (sls (sls p0 p1 (gl p0 p3)) p3 (gl p0 p1)) p1) rfl rfl rfl (fits_int sz50) (by decide) h58) (fun _ w hw => hw.reord [] 1 rfl) (fun h1 h2 => by cases h1) rfl (by kernel_rfl) fun _ => ?_
                refine WK.x (i := 14) (by kernel_rfl) rfl (OpV.x (R.idxT rfl rfl el40 (RdT.at 0 rfl) h59)) (fun _ w hw => hw.reord [] 1 rfl) (fun h1 h2 => by cases h2) rfl rfl (by kernel_rfl) fun _ => ?_
                refine WK.x0 (i := 15) (by kernel_rfl) rfl (R.storeT (i := 0) (gl (sls (sls p0 p1 (gl p0 p3)) p3 (gl p0 p1)) o31) rfl rfl rfl (fits_int sz50) (by decide) h59) (fun _ w hw => hw.reord [] 1 rfl) (fun h1 h2 => by cases h2) rfl (by kernel_rfl) fun _ => ?_
                refine WK.nil (by kernel_rfl) ?_
                exact fun a w s => And.intro rfl (Sat.mk (s.env.le ⟨rfl, rfl, rfl, rfl, rfl, rfl, rfl, trivial⟩) (s.mem))
              refine WKa.x rfl (OpV.x (R.idxT rfl rfl el40 (RdT.at 0 rfl) h58)) (fun _ w hw => hw.reord [] 1 rfl) (fun _ _ _ w hw => hw.reord [] 1 rfl) rfl rfl (by kernel_rfl) (fun _ => ?_) ?_
              · refine WK.among (is := [7, 11]) (by kernel_rfl) rfl ?_
                refine WKa.x rfl (OpV.x (R.load rfl (At.elT (RdT.at 0 rfl) (by decide) h57) (Lies.one _ ia50))) (fun _ w hw => hw.reord [] 1 rfl) (fun _ _ _ w hw => hw.reord [] 1 rfl) rfl rfl (by kernel_rfl) (fun _ => ?_) ?_
                · refine WK.x (i := 11) (by kernel_rfl) rfl (OpV.x (R.load rfl (At.elT (RdT.at 0 rfl) (by decide) h58) (Lies.one _ ia50))) (fun _ w hw => hw.reord [] 1 rfl) (fun _ _ _ w hw => hw.reord [] 1 rfl) rfl rfl (by kernel_rfl) fun _ => ?_
                  refine WK.x (i := 12) (by kernel_rfl) rfl (OpV.x (R.idxT rfl rfl el40 (RdT.at 0 rfl) h58)) (fun _ w hw => hw.reord [] 1 rfl) (fun _ _ _ w hw => hw.reord [] 1 rfl) rfl rfl (by kernel_rfl) fun _ => ?_
                  refine WK.x0 (i := 13) (by kernel_rfl) rfl (R.storeT (i := 0) (gl (sls (sls p0 p1 (gl p0 p3)) p3 (gl p0 p1)) p1) rfl rfl rfl (fits_int sz50) (by decide) h58) (fun _ w hw => hw.reord [] 1 rfl) (fun h1 h2 => by cases h1) rfl (by kernel_rfl) fun _ => ?_
                  refine WK.x (i := 14) (by kernel_rfl) rfl (OpV.x (R.idxT rfl rfl el40 (RdT.at 0 rfl) h59)) (fun _ w hw => hw.reord [] 1 rfl) (fun h1 h2 => by cases h2) rfl rfl (by kernel_rfl) fun _ => ?_
                  refine WK.x0 (i := 15) (by kernel_rfl) rfl (R.storeT (i := 0) (gl (sls (sls p0 p1 (gl p0 p3)) p3 (gl p0 p1)) o31) rfl rfl rfl (fits_int sz50) (by decide) h59) (fun _ w hw => hw.reord [] 1 rfl) (fun h1 h2 => by cases h2) rfl (by kernel_rfl) fun _ => ?_
                  refine WK.nil (by kernel_rfl) ?_
                  exact fun a w s => And.intro rfl (Sat.mk (s.env.le ⟨rfl, rfl, rfl, rfl, rfl, rfl, rfl, trivial⟩) (s.mem))
                refine WKa.x rfl (OpV.x (R.load rfl (At.elT (RdT.at 0 rfl) (by decide) h58) (Lies.one _ ia50))) (fun _ w hw => hw.reord [] 1 rfl) (fun _ _ _ w hw => hw.reord [] 1 rfl) rfl rfl (by kernel_rfl) (fun _ => ?_) ?_
                · refine WK.x (i := 7) (by kernel_rfl) rfl (OpV.x (R.load rfl (At.elT (RdT.at 0 rfl) (by decide) h57) (Lies.one _ ia50))) (fun _ w hw => hw.reord [] 1 rfl) (fun _ _ _ w hw => hw.reord [] 1 rfl) rfl rfl (by kernel_rfl) fun _ => ?_
                  refine WK.x (i := 12) (by kernel_rfl) rfl (OpV.x (R.idxT rfl rfl el40 (RdT.at 0 rfl) h58)) (fun _ w hw => hw.reord [] 1 rfl) (fun _ _ _ w hw => hw.reord [] 1 rfl) rfl rfl (by kernel_rfl) fun _ => ?_
                  refine WK.x0 (i := 13) (by kernel_rfl) rfl (R.storeT (i := 0) (gl (sls (sls p0 p1 (gl p0 p3)) p3 (gl p0 p1)) p1) rfl rfl rfl (fits_int sz50) (by decide) h58) (fun _ w hw => hw.reord [] 1 rfl) (fun h1 h2 => by cases h1) rfl (by kernel_rfl) fun _ => ?_
                  refine WK.x (i := 14) (by kernel_rfl) rfl (OpV.x (R.idxT rfl rfl el40 (RdT.at 0 rfl) h59)) (fun _ w hw => hw.reord [] 1 rfl) (fun h1 h2 => by cases h2) rfl rfl (by kernel_rfl) fun _ => ?_
                  refine WK.x0 (i := 15) (by kernel_rfl) rfl (R.storeT (i := 0) (gl (sls (sls p0 p1 (gl p0 p3)) p3 (gl p0 p1)) o31) rfl rfl rfl (fits_int sz50) (by decide) h59) (fun _ w hw => hw.reord [] 1 rfl) (fun h1 h2 => by cases h2) rfl (by kernel_rfl) fun _ => ?_
                  refine WK.nil (by kernel_rfl) ?_
                  exact fun a w s => And.intro rfl (Sat.mk (s.env.le ⟨rfl, rfl, rfl, rfl, rfl, rfl, rfl, trivial⟩) (s.mem))
                exact WKa.nil
              exact WKa.nil
            refine WKa.x rfl (OpV.x (R.idxT rfl rfl el40 (RdT.at 0 rfl) h58)) (fun _ w hw => hw.reord [] 1 rfl) (fun _ _ _ w hw => hw.reord [] 1 rfl) rfl rfl (by kernel_rfl) (fun _ => ?_) ?_
            · refine WK.among (is := [6, 11]) (by kernel_rfl) rfl ?_
              refine WKa.x rfl (OpV.x (R.idxT rfl rfl el40 (RdT.at 0 rfl) h57)) (fun _ w hw => hw.reord [] 1 rfl) (fun _ _ _ w hw => hw.reord [] 1 rfl) rfl rfl (by kernel_rfl) (fun _ => ?_) ?_
              · refine WK.among (is := [7, 11]) (by kernel_rfl) rfl ?_
                refine WKa.x rfl (OpV.x (R.load rfl (At.elT (RdT.at 0 rfl) (by decide) h57) (Lies.one _ ia50))) (fun _ w hw => hw.reord [] 1 rfl) (fun _ _ _ w hw => hw.reord [] 1 rfl) rfl rfl (by kernel_rfl) (fun _ => ?_) ?_
                · refine WK.x (i := 11) (by kernel_rfl) rfl (OpV.x (R.load rfl (At.elT (RdT.at 0 rfl) (by decide) h58) (Lies.one _ ia50))) (fun _ w hw => hw.reord [] 1 rfl) (fun _ _ _ w hw => hw.reord [] 1 rfl) rfl rfl (by kernel_rfl) fun _ => ?_
                  refine WK.x (i := 12) (by kernel_rfl) rfl (OpV.x (R.idxT rfl rfl el40 (RdT.at 0 rfl) h58)) (fun _ w hw => hw.reord [] 1 rfl) (fun _ _ _ w hw => hw.reord [] 1 rfl) rfl rfl (by kernel_rfl) fun _ => ?_
                  refine WK.x0 (i := 13) (by kernel_rfl) rfl (R.storeT (i := 0) (gl (sls (sls p0 p1 (gl p0 p3)) p3 (gl p0 p1)) p1) rfl rfl rfl (fits_int sz50) (by decide) h58) (fun _ w hw => hw.reord [] 1 rfl) (fun h1 h2 => by cases h1) rfl (by kernel_rfl) fun _ => ?_
                  refine WK.x (i := 14) (by kernel_rfl) rfl (OpV.x (R.idxT rfl rfl el40 (RdT.at 0 rfl) h59)) (fun _ w hw => hw.reord [] 1 rfl) (fun h1 h2 => by cases h2) rfl rfl (by kernel_rfl) fun _ => ?_
                  refine WK.x0 (i := 15) (by kernel_rfl) rfl (R.storeT (i := 0) (gl (sls (sls p0 p1 (gl p0 p3)) p3 (gl p0 p1)) o31) rfl rfl rfl (fits_int sz50) (by decide) h59) (fun _ w hw => hw.reord [] 1 rfl) (fun h1 h2 => by cases h2) rfl (by kernel_rfl) fun _ => ?_
                  refine WK.nil (by kernel_rfl) ?_
                  exact fun a w s => And.intro rfl (Sat.mk (s.env.le ⟨rfl, rfl, rfl, rfl, rfl, rfl, rfl, trivial⟩) (s.mem))
                refine WKa.x rfl (OpV.x (R.load rfl (At.elT (RdT.at 0 rfl) (by decide) h58) (Lies.one _ ia50))) (fun _ w hw => hw.reord [] 1 rfl) (fun _ _ _ w hw => hw.reord [] 1 rfl) rfl rfl (by kernel_rfl) (fun _ => ?_) ?_
                · refine WK.x (i := 7) (by kernel_rfl) rfl (OpV.x (R.load rfl (At.elT (RdT.at 0 rfl) (by decide) h57) (Lies.one _ ia50))) (fun _ w hw => hw.reord [] 1 rfl) (fun _ _ _ w hw => hw.reord [] 1 rfl) rfl rfl (by kernel_rfl) fun _ => ?_
                  refine WK.x (i := 12) (by kernel_rfl) rfl (OpV.x (R.idxT rfl rfl el40 (RdT.at 0 rfl) h58)) (fun _ w hw => hw.reord [] 1 rfl) (fun _ _ _ w hw => hw.reord [] 1 rfl) rfl rfl (by kernel_rfl) fun _ => ?_
                  refine WK.x0 (i := 13) (by kernel_rfl) rfl (R.storeT (i := 0) (gl (sls (sls p0 p1 (gl p0 p3)) p3 (gl p0 p1)) p1) rfl rfl rfl (fits_int sz50) (by decide) h58) (fun _ w hw => hw.reord [] 1 rfl) (fun h1 h2 => by cases h1) rfl (by kernel_rfl) fun _ => ?_
                  refine WK.x (i := 14) (by kernel_rfl) rfl (OpV.x (R.idxT rfl rfl el40 (RdT.at 0 rfl) h59)) (fun _ w hw => hw.reord [] 1 rfl) (fun h1 h2 => by cases h2) rfl rfl (by kernel_rfl) fun _ => ?_
                  refine WK.x0 (i := 15) (by kernel_rfl) rfl (R.storeT (i := 0) (gl (sls (sls p0 p1 (gl p0 p3)) p3 (gl p0 p1)) o31) rfl rfl rfl (fits_int sz50) (by decide) h59) (fun _ w hw => hw.reord [] 1 rfl) (fun h1 h2 => by cases h2) rfl (by kernel_rfl) fun _ => ?_
                  refine WK.nil (by kernel_rfl) ?_
                  exact fun a w s => And.intro rfl (Sat.mk (s.env.le ⟨rfl, rfl, rfl, rfl, rfl, rfl, rfl, trivial⟩) (s.mem))
                exact WKa.nil
              refine WKa.x rfl (OpV.x (R.load rfl (At.elT (RdT.at 0 rfl) (by decide) h58) (Lies.one _ ia50))) (fun _ w hw => hw.reord [] 1 rfl) (fun _ _ _ w hw => hw.reord [] 1 rfl) rfl rfl (by kernel_rfl) (fun _ => ?_) ?_
              · refine WK.x (i := 6) (by kernel_rfl) rfl (OpV.x (R.idxT rfl rfl el40 (RdT.at 0 rfl) h57)) (fun _ w hw => hw.reord [] 1 rfl) (fun _ _ _ w hw => hw.reord [] 1 rfl) rfl rfl (by kernel_rfl) fun _ => ?_
                refine WK.x (i := 7) (by kernel_rfl) rfl (OpV.x (R.load rfl (At.elT (RdT.at 0 rfl) (by decide) h57) (Lies.one _ ia50))) (fun _ w hw => hw.reord [] 1 rfl) (fun _ _ _ w hw => hw.reord [] 1 rfl) rfl rfl (by kernel_rfl) fun _ => ?_
                refine WK.x (i := 12) (by kernel_rfl) rfl (OpV.x (R.idxT rfl rfl el40 (RdT.at 0 rfl) h58)) (fun _ w hw => hw.reord [] 1 rfl) (fun _ _ _ w hw => hw.reord [] 1 rfl) rfl rfl (by kernel_rfl) fun _ => ?_
                refine WK.x0 (i := 13) (by kernel_rfl) rfl (R.storeT (i := 0) (gl (sls (sls p0 p1 (gl p0 p3)) p3 (gl p0 p1)) p1) rfl rfl rfl (fits_int sz50) (by decide) h58) (fun _ w hw => hw.reord [] 1 rfl) (fun h1 h2 => by cases h1) rfl (by kernel_rfl) fun _ => ?_
                refine WK.x (i := 14) (by kernel_rfl) rfl (OpV.x (R.idxT rfl rfl el40 (RdT.at 0 rfl) h59)) (fun _ w hw => hw.reord [] 1 rfl) (fun h1 h2 => by cases h2) rfl rfl (by kernel_rfl) fun _ => ?_
                refine WK.x0 (i := 15) (by kernel_rfl) rfl (R.storeT (i := 0) (gl (sls (sls p0 p1 (gl p0 p3)) p3 (gl p0 p1)) o31) rfl rfl rfl (fits_int sz50) (by decide) h59) (fun _ w hw => hw.reord [] 1 rfl) (fun h1 h2 => by cases h2) rfl (by kernel_rfl) fun _ => ?_
                refine WK.nil (by kernel_rfl) ?_
                exact fun a w s => And.intro rfl (Sat.mk (s.env.le ⟨rfl, rfl, rfl, rfl, rfl, rfl, rfl, trivial⟩) (s.mem))
              exact WKa.nil
            exact WKa.nil
          · refine Go2.sat ?_
            refine Go.then_ ?_
            refine W.seq ?_
            refine W.region ?_
            refine WL.q (R.move rfl) rfl ?_
            refine WL.q (R.assign rfl) rfl ?_
            refine WL.q (R.assign rfl) rfl ?_
            refine WL.nil ?_
            refine Go.then_ ?_
            refine W.ret ?_
            refine Go.r_then ?_
            have he := Option.some.inj hm
            clear hm
            subst r
            exact Go.ret2 rfl (.tmp rfl) (.tmp rfl) (fun w hw => ⟨_, rfl, _, ⟨(), rfl, rfl⟩, hw⟩)
        · rw [if_neg h56] at hm
          refine W.cond_f rfl (decide_eq_false h56) ?_
          refine W.skip ?_
          refine Go.then_ ?_
          refine W.seq ?_
          obtain ⟨h60, hm⟩ := of_guard hm
          obtain ⟨h61, hm⟩ := of_guard hm
          obtain ⟨h62, hm⟩ := of_guard hm
          refine W.join1 (fun a w => Sat G ((slT (Enc.int .i64) q0 (sls (sls (sls (sls p0 p1 (gl p0 p3)) p3 (gl p0 p1)) o5 (gl (sls (sls p0 p1 (gl p0 p3)) p3 (gl p0 p1)) o31)) o31 (gl (sls (sls p0 p1 (gl p0 p3)) p3 (gl p0 p1)) o5))) :: F) 178 [(0, q0), (1, (.int .i64 p1)), (4, (.func (.func g4) fs4.toArray cs4.toArray)), (10, (.int .i64 0)), (11, (.bool false)), (12, (.int .i64 o5)), (13, (.int .i64 o31))] a w) ?_ ?_
          · refine W.draw (n := 16) F F 13 (by kernel_rfl) rfl rfl (fun w hw => hw.reord [] 1 rfl) (fun w hw => hw.drop 1) ?_
            refine WK.q (i := 0) rfl rfl (by kernel_rfl) calm_n (R.move rfl) rfl rfl ?_
            refine WK.q (i := 1) rfl rfl (by kernel_rfl) calm_n (R.move rfl) rfl rfl ?_
            refine WK.q (i := 2) rfl rfl (by kernel_rfl) calm_n (R.move rfl) rfl rfl ?_
            refine WK.q (i := 3) rfl rfl (by kernel_rfl) calm_n (R.move rfl) rfl rfl ?_
            refine WK.q (i := 4) rfl rfl (by kernel_rfl) calm_n (R.move rfl) rfl rfl ?_
            refine WK.q (i := 5) rfl rfl (by kernel_rfl) calm_n (R.move rfl) rfl rfl ?_
            refine WK.q (i := 8) rfl rfl (by kernel_rfl) calm_n (R.move rfl) rfl rfl ?_
            refine WK.q (i := 9) rfl rfl (by kernel_rfl) calm_n (R.move rfl) rfl rfl ?_
            refine WK.among (is := [6, 10]) (by kernel_rfl) rfl ?_
            refine WKa.x rfl (OpV.x (R.idxT rfl rfl el40 (RdT.at 0 rfl) h60)) (fun _ w hw => hw.reord [] 1 rfl) (fun _ _ _ w hw => hw.reord [] 1 rfl) rfl rfl (by kernel_rfl) (fun _ => ?_) ?_
            · refine WK.among (is := [7, 10]) (by kernel_rfl) rfl ?_
              refine WKa.x rfl (OpV.x (R.load rfl (At.elT (RdT.at 0 rfl) (by decide) h60) (Lies.one _ ia50))) (fun _ w hw => hw.reord [] 1 rfl) (fun _ _ _ w hw => hw.reord [] 1 rfl) rfl rfl (by kernel_rfl) (fun _ => ?_) ?_
              · refine WK.x (i := 10) (by kernel_rfl) rfl (OpV.x (R.idxT rfl rfl el40 (RdT.at 0 rfl) h61)) (fun _ w hw => hw.reord [] 1 rfl) (fun _ _ _ w hw => hw.reord [] 1 rfl) rfl rfl (by kernel_rfl) fun _ => ?_
                refine WK.x (i := 11) (by kernel_rfl) rfl (OpV.x (R.load rfl (At.elT (RdT.at 0 rfl) (by decide) h61) (Lies.one _ ia50))) (fun _ w hw => hw.reord [] 1 rfl) (fun _ _ _ w hw => hw.reord [] 1 rfl) rfl rfl (by kernel_rfl) fun _ => ?_
                refine WK.x (i := 12) (by kernel_rfl) rfl (OpV.x (R.idxT rfl rfl el40 (RdT.at 0 rfl) h61)) (fun _ w hw => hw.reord [] 1 rfl) (fun _ _ _ w hw => hw.reord [] 1 rfl) rfl rfl (by kernel_rfl) fun _ => ?_
                refine WK.x0 (i := 13) (by kernel_rfl) rfl (R.storeT (i := 0) (gl (sls (sls p0 p1 (gl p0 p3)) p3 (gl p0 p1)) o31) rfl rfl rfl (fits_int sz50) (by decide) h61) (fun _ w hw => hw.reord [] 1 rfl) (fun h1 h2 => by cases h1) rfl (by kernel_rfl) fun _ => ?_
                refine WK.x (i := 14) (by kernel_rfl) rfl (OpV.x (R.idxT rfl rfl el40 (RdT.at 0 rfl) h62)) (fun _ w hw => hw.reord [] 1 rfl) (fun h1 h2 => by cases h2) rfl rfl (by kernel_rfl) fun _ => ?_
                refine WK.x0 (i := 15) (by kernel_rfl) rfl (R.storeT (i := 0) (gl (sls (sls p0 p1 (gl p0 p3)) p3 (gl p0 p1)) o5) rfl rfl rfl (fits_int sz50) (by decide) h62) (fun _ w hw => hw.reord [] 1 rfl) (fun h1 h2 => by cases h2) rfl (by kernel_rfl) fun _ => ?_
                refine WK.nil (by kernel_rfl) ?_
                exact fun a w s => And.intro rfl (Sat.mk (s.env.le ⟨rfl, rfl, rfl, rfl, rfl, rfl, rfl, trivial⟩) (s.mem))
              refine WKa.x rfl (OpV.x (R.idxT rfl rfl el40 (RdT.at 0 rfl) h61)) (fun _ w hw => hw.reord [] 1 rfl) (fun _ _ _ w hw => hw.reord [] 1 rfl) rfl rfl (by kernel_rfl) (fun _ => ?_) ?_
              · refine WK.among (is := [7, 11]) (by kernel_rfl) rfl ?_
                refine WKa.x rfl (OpV.x (R.load rfl (At.elT (RdT.at 0 rfl) (by decide) h60) (Lies.one _ ia50))) (fun _ w hw => hw.reord [] 1 rfl) (fun _ _ _ w hw => hw.reord [] 1 rfl) rfl rfl (by kernel_rfl) (fun _ => ?_) ?_
                · refine WK.x (i := 11) (by kernel_rfl) rfl (OpV.x (R.load rfl (At.elT (RdT.at 0 rfl) (by decide) h61) (Lies.one _ ia50))) (fun _ w hw => hw.reord [] 1 rfl) (fun _ _ _ w hw => hw.reord [] 1 rfl) rfl rfl (by kernel_rfl) fun _ => ?_
                  refine WK.x (i := 12) (by kernel_rfl) rfl (OpV.x (R.idxT rfl rfl el40 (RdT.at 0 rfl) h61)) (fun _ w hw => hw.reord [] 1 rfl) (fun _ _ _ w hw => hw.reord [] 1 rfl) rfl rfl (by kernel_rfl) fun _ => ?_
                  refine WK.x0 (i := 13) (by kernel_rfl) rfl (R.storeT (i := 0) (gl (sls (sls p0 p1 (gl p0 p3)) p3 (gl p0 p1)) o31) rfl rfl rfl (fits_int sz50) (by decide) h61) (fun _ w hw => hw.reord [] 1 rfl) (fun h1 h2 => by cases h1) rfl (by kernel_rfl) fun _ => ?_
                  refine WK.x (i := 14) (by kernel_rfl) rfl (OpV.x (R.idxT rfl rfl el40 (RdT.at 0 rfl) h62)) (fun _ w hw => hw.reord [] 1 rfl) (fun h1 h2 => by cases h2) rfl rfl (by kernel_rfl) fun _ => ?_
                  refine WK.x0 (i := 15) (by kernel_rfl) rfl (R.storeT (i := 0) (gl (sls (sls p0 p1 (gl p0 p3)) p3 (gl p0 p1)) o5) rfl rfl rfl (fits_int sz50) (by decide) h62) (fun _ w hw => hw.reord [] 1 rfl) (fun h1 h2 => by cases h2) rfl (by kernel_rfl) fun _ => ?_
                  refine WK.nil (by kernel_rfl) ?_
                  exact fun a w s => And.intro rfl (Sat.mk (s.env.le ⟨rfl, rfl, rfl, rfl, rfl, rfl, rfl, trivial⟩) (s.mem))
                refine WKa.x rfl (OpV.x (R.load rfl (At.elT (RdT.at 0 rfl) (by decide) h61) (Lies.one _ ia50))) (fun _ w hw => hw.reord [] 1 rfl) (fun _ _ _ w hw => hw.reord [] 1 rfl) rfl rfl (by kernel_rfl) (fun _ => ?_) ?_
                · refine WK.x (i := 7) (by kernel_rfl) rfl (OpV.x (R.load rfl (At.elT (RdT.at 0 rfl) (by decide) h60) (Lies.one _ ia50))) (fun _ w hw => hw.reord [] 1 rfl) (fun _ _ _ w hw => hw.reord [] 1 rfl) rfl rfl (by kernel_rfl) fun _ => ?_
                  refine WK.x (i := 12) (by kernel_rfl) rfl (OpV.x (R.idxT rfl rfl el40 (RdT.at 0 rfl) h61)) (fun _ w hw => hw.reord [] 1 rfl) (fun _ _ _ w hw => hw.reord [] 1 rfl) rfl rfl (by kernel_rfl) fun _ => ?_
                  refine WK.x0 (i := 13) (by kernel_rfl) rfl (R.storeT (i := 0) (gl (sls (sls p0 p1 (gl p0 p3)) p3 (gl p0 p1)) o31) rfl rfl rfl (fits_int sz50) (by decide) h61) (fun _ w hw => hw.reord [] 1 rfl) (fun h1 h2 => by cases h1) rfl (by kernel_rfl) fun _ => ?_
                  refine WK.x (i := 14) (by kernel_rfl) rfl (OpV.x (R.idxT rfl rfl el40 (RdT.at 0 rfl) h62)) (fun _ w hw => hw.reord [] 1 rfl) (fun h1 h2 => by cases h2) rfl rfl (by kernel_rfl) fun _ => ?_
                  refine WK.x0 (i := 15) (by kernel_rfl) rfl (R.storeT (i := 0) (gl (sls (sls p0 p1 (gl p0 p3)) p3 (gl p0 p1)) o5) rfl rfl rfl (fits_int sz50) (by decide) h62) (fun _ w hw => hw.reord [] 1 rfl) (fun h1 h2 => by cases h2) rfl (by kernel_rfl) fun _ => ?_
                  refine WK.nil (by kernel_rfl) ?_
                  exact fun a w s => And.intro rfl (Sat.mk (s.env.le ⟨rfl, rfl, rfl, rfl, rfl, rfl, rfl, trivial⟩) (s.mem))
                exact WKa.nil
              exact WKa.nil
            refine WKa.x rfl (OpV.x (R.idxT rfl rfl el40 (RdT.at 0 rfl) h61)) (fun _ w hw => hw.reord [] 1 rfl) (fun _ _ _ w hw => hw.reord [] 1 rfl) rfl rfl (by kernel_rfl) (fun _ => ?_) ?_
            · refine WK.among (is := [6, 11]) (by kernel_rfl) rfl ?_
              refine WKa.x rfl (OpV.x (R.idxT rfl rfl el40 (RdT.at 0 rfl) h60)) (fun _ w hw => hw.reord [] 1 rfl) (fun _ _ _ w hw => hw.reord [] 1 rfl) rfl rfl (by kernel_rfl) (fun _ => ?_) ?_
              · refine WK.among (is := [7, 11]) (by kernel_rfl) rfl ?_
                refine WKa.x rfl (OpV.x (R.load rfl (At.elT (RdT.at 0 rfl) (by decide) h60) (Lies.one _ ia50))) (fun _ w hw => hw.reord [] 1 rfl) (fun _ _ _ w hw => hw.reord [] 1 rfl) rfl rfl (by kernel_rfl) (fun _ => ?_) ?_
                · refine WK.x (i := 11) (by kernel_rfl) rfl (OpV.x (R.load rfl (At.elT (RdT.at 0 rfl) (by decide) h61) (Lies.one _ ia50))) (fun _ w hw => hw.reord [] 1 rfl) (fun _ _ _ w hw => hw.reord [] 1 rfl) rfl rfl (by kernel_rfl) fun _ => ?_
                  refine WK.x (i := 12) (by kernel_rfl) rfl (OpV.x (R.idxT rfl rfl el40 (RdT.at 0 rfl) h61)) (fun _ w hw => hw.reord [] 1 rfl) (fun _ _ _ w hw => hw.reord [] 1 rfl) rfl rfl (by kernel_rfl) fun _ => ?_
                  refine WK.x0 (i := 13) (by kernel_rfl) rfl (R.storeT (i := 0) (gl (sls (sls p0 p1 (gl p0 p3)) p3 (gl p0 p1)) o31) rfl rfl rfl (fits_int sz50) (by decide) h61) (fun _ w hw => hw.reord [] 1 rfl) (fun h1 h2 => by cases h1) rfl (by kernel_rfl) fun _ => ?_
                  refine WK.x (i := 14) (by kernel_rfl) rfl (OpV.x (R.idxT rfl rfl el40 (RdT.at 0 rfl) h62)) (fun _ w hw => hw.reord [] 1 rfl) (fun h1 h2 => by cases h2) rfl rfl (by kernel_rfl) fun _ => ?_
                  refine WK.x0 (i := 15) (by kernel_rfl) rfl (R.storeT (i := 0) (gl (sls (sls p0 p1 (gl p0 p3)) p3 (gl p0 p1)) o5) rfl rfl rfl (fits_int sz50) (by decide) h62) (fun _ w hw => hw.reord [] 1 rfl) (fun h1 h2 => by cases h2) rfl (by kernel_rfl) fun _ => ?_
                  refine WK.nil (by kernel_rfl) ?_
                  exact fun a w s => And.intro rfl (Sat.mk (s.env.le ⟨rfl, rfl, rfl, rfl, rfl, rfl, rfl, trivial⟩) (s.mem))
                refine WKa.x rfl (OpV.x (R.load rfl (At.elT (RdT.at 0 rfl) (by decide) h61) (Lies.one _ ia50))) (fun _ w hw => hw.reord [] 1 rfl) (fun _ _ _ w hw => hw.reord [] 1 rfl) rfl rfl (by kernel_rfl) (fun _ => ?_) ?_
                · refine WK.x (i := 7) (by kernel_rfl) rfl (OpV.x (R.load rfl (At.elT (RdT.at 0 rfl) (by decide) h60) (Lies.one _ ia50))) (fun _ w hw => hw.reord [] 1 rfl) (fun _ _ _ w hw => hw.reord [] 1 rfl) rfl rfl (by kernel_rfl) fun _ => ?_
                  refine WK.x (i := 12) (by kernel_rfl) rfl (OpV.x (R.idxT rfl rfl el40 (RdT.at 0 rfl) h61)) (fun _ w hw => hw.reord [] 1 rfl) (fun _ _ _ w hw => hw.reord [] 1 rfl) rfl rfl (by kernel_rfl) fun _ => ?_
                  refine WK.x0 (i := 13) (by kernel_rfl) rfl (R.storeT (i := 0) (gl (sls (sls p0 p1 (gl p0 p3)) p3 (gl p0 p1)) o31) rfl rfl rfl (fits_int sz50) (by decide) h61) (fun _ w hw => hw.reord [] 1 rfl) (fun h1 h2 => by cases h1) rfl (by kernel_rfl) fun _ => ?_
                  refine WK.x (i := 14) (by kernel_rfl) rfl (OpV.x (R.idxT rfl rfl el40 (RdT.at 0 rfl) h62)) (fun _ w hw => hw.reord [] 1 rfl) (fun h1 h2 => by cases h2) rfl rfl (by kernel_rfl) fun _ => ?_
                  refine WK.x0 (i := 15) (by kernel_rfl) rfl (R.storeT (i := 0) (gl (sls (sls p0 p1 (gl p0 p3)) p3 (gl p0 p1)) o5) rfl rfl rfl (fits_int sz50) (by decide) h62) (fun _ w hw => hw.reord [] 1 rfl) (fun h1 h2 => by cases h2) rfl (by kernel_rfl) fun _ => ?_
                  refine WK.nil (by kernel_rfl) ?_
                  exact fun a w s => And.intro rfl (Sat.mk (s.env.le ⟨rfl, rfl, rfl, rfl, rfl, rfl, rfl, trivial⟩) (s.mem))
                exact WKa.nil
              refine WKa.x rfl (OpV.x (R.load rfl (At.elT (RdT.at 0 rfl) (by decide) h61) (Lies.one _ ia50))) (fun _ w hw => hw.reord [] 1 rfl) (fun _ _ _ w hw => hw.reord [] 1 rfl) rfl rfl (by kernel_rfl) (fun _ => ?_) ?_
              · refine WK.x (i := 6) (by kernel_rfl) rfl (OpV.x (R.idxT rfl rfl el40 (RdT.at 0 rfl) h60)) (fun _ w hw => hw.reord [] 1 rfl) (fun _ _ _ w hw => hw.reord [] 1 rfl) rfl rfl (by kernel_rfl) fun _ => ?_
                refine WK.x (i := 7) (by kernel_rfl) rfl (OpV.x (R.load rfl (At.elT (RdT.at 0 rfl) (by decide) h60) (Lies.one _ ia50))) (fun _ w hw => hw.reord [] 1 rfl) (fun _ _ _ w hw => hw.reord [] 1 rfl) rfl rfl (by kernel_rfl) fun _ => ?_
                refine WK.x (i := 12) (by kernel_rfl) rfl (OpV.x (R.idxT rfl rfl el40 (RdT.at 0 rfl) h61)) (fun _ w hw => hw.reord [] 1 rfl) (fun _ _ _ w hw => hw.reord [] 1 rfl) rfl rfl (by kernel_rfl) fun _ => ?_
                refine WK.x0 (i := 13) (by kernel_rfl) rfl (R.storeT (i := 0) (gl (sls (sls p0 p1 (gl p0 p3)) p3 (gl p0 p1)) o31) rfl rfl rfl (fits_int sz50) (by decide) h61) (fun _ w hw => hw.reord [] 1 rfl) (fun h1 h2 => by cases h1) rfl (by kernel_rfl) fun _ => ?_
                refine WK.x (i := 14) (by kernel_rfl) rfl (OpV.x (R.idxT rfl rfl el40 (RdT.at 0 rfl) h62)) (fun _ w hw => hw.reord [] 1 rfl) (fun h1 h2 => by cases h2) rfl rfl (by kernel_rfl) fun _ => ?_
                refine WK.x0 (i := 15) (by kernel_rfl) rfl (R.storeT (i := 0) (gl (sls (sls p0 p1 (gl p0 p3)) p3 (gl p0 p1)) o5) rfl rfl rfl (fits_int sz50) (by decide) h62) (fun _ w hw => hw.reord [] 1 rfl) (fun h1 h2 => by cases h2) rfl (by kernel_rfl) fun _ => ?_
                refine WK.nil (by kernel_rfl) ?_
                exact fun a w s => And.intro rfl (Sat.mk (s.env.le ⟨rfl, rfl, rfl, rfl, rfl, rfl, rfl, trivial⟩) (s.mem))
              exact WKa.nil
            exact WKa.nil
          · refine Go2.sat ?_
            refine Go.then_ ?_
            refine W.seq ?_
            refine W.region ?_
            refine WL.q (R.move rfl) rfl ?_
            refine WL.q (R.add rfl rfl) rfl ?_
            refine WL.q (R.assign rfl) rfl ?_
            refine WL.nil ?_
            refine Go.then_ ?_
            refine W.seq ?_
            refine W.region ?_
            refine WL.q (R.move rfl) rfl ?_
            refine WL.q (R.sub rfl rfl) rfl ?_
            refine WL.q (R.assign rfl) rfl ?_
            refine WL.nil ?_
            refine Go.then_ ?_
            refine W.seq ?_
            refine W.block ?_
            obtain ⟨o64, hlo64, hm⟩ := of_bind hm
            refine W.loopx (fun (s63 : ((List Int) × Int × Int)) a w => Sat G ((slT (Enc.int .i64) q0 s63.1) :: F) 178 [(0, q0), (1, (.int .i64 p1)), (4, (.func (.func g4) fs4.toArray cs4.toArray)), (10, (.int .i64 0)), (11, (.bool false)), (12, (.int .i64 s63.2.1)), (13, (.int .i64 s63.2.2))] a w) (fun (o64 : ((List Int) × Int)) e a w => And (e = (.exit 4)) (Sat G ((slT (Enc.int .i64) q0 o64.1) :: F) 178 [(0, q0), (1, (.int .i64 p1)), (10, (.int .i64 0)), (11, (.bool false)), (13, (.int .i64 o64.2))] a w)) hlo64 (fun a w s => (Sat.mk (s.env.le ⟨rfl, rfl, rfl, rfl, rfl, rfl, rfl, trivial⟩) (s.mem))) ?_ ?_
            · clear hm
              intro s63 x hm a w hJ
              have s := hJ
              unfold slices_partitionCmpFunc_impl_set_L3 at hm
              refine W.use s ?_
              refine W.block ?_
              refine W.seq ?_
              refine W.block ?_
              obtain ⟨o178, hlo178, hm⟩ := of_bind hm
              refine W.loopx (fun (s177 : Int) a w => Sat G ((slT (Enc.int .i64) q0 s63.1) :: F) 178 [(0, q0), (1, (.int .i64 p1)), (4, (.func (.func g4) fs4.toArray cs4.toArray)), (10, (.int .i64 0)), (11, (.bool false)), (12, (.int .i64 s177)), (13, (.int .i64 s63.2.2))] a w) (fun (o178 : Int) e a w => And (e = (.exit 6)) (Sat G ((slT (Enc.int .i64) q0 s63.1) :: F) 178 [(0, q0), (1, (.int .i64 p1)), (4, (.func (.func g4) fs4.toArray cs4.toArray)), (10, (.int .i64 0)), (11, (.bool false)), (12, (.int .i64 o178)), (13, (.int .i64 s63.2.2))] a w)) hlo178 (fun a w s => (Sat.mk (s.env.le ⟨rfl, rfl, rfl, rfl, rfl, rfl, rfl, trivial⟩) (s.mem))) ?_ ?_
              · clear hm
                intro s177 x hm a w hJ
                have s := hJ
                unfold slices_partitionCmpFunc_impl_set_L4 at hm
                refine W.use s ?_
                refine W.seq ?_
                obtain ⟨o201, hm, hmo201⟩ := of_bind hm
                refine W.seq ?_
                refine W.join (fun e a w => And (e = .normal) (Sat G ((slT (Enc.int .i64) q0 s63.1) :: F) 178 [(0, q0), (1, (.int .i64 p1)), (4, (.func (.func g4) fs4.toArray cs4.toArray)), (10, (.int .i64 0)), (11, (.bool false)), (12, (.int .i64 s177)), (13, (.int .i64 s63.2.2)), (120, (.bool o201))] a w)) ?_ ?_
                · by_cases h195 : s177 ≤ s63.2.2
                  · rw [if_pos h195] at hm
                    obtain ⟨h196, hm⟩ := of_guard hm
                    obtain ⟨h197, hm⟩ := of_guard hm
                    obtain ⟨o198, h199, hm⟩ := of_bind hm
                    refine W.join1 (fun a w => ∃ x200 : Unit, Sat G ((slT (Enc.int .i64) q0 s63.1) :: F) 178 [(0, q0), (1, (.int .i64 p1)), (4, (.func (.func g4) fs4.toArray cs4.toArray)), (10, (.int .i64 0)), (11, (.bool false)), (12, (.int .i64 s177)), (13, (.int .i64 s63.2.2)), (109, (.func (.func g4) fs4.toArray cs4.toArray)), (110, q0), (111, (.int .i64 s177)), (113, (.int .i64 (gl s63.1 s177))), (114, q0), (115, (.int .i64 p1)), (117, (.int .i64 (gl s63.1 p1))), (118, (.int .i64 o198)), (119, (.bool (decide (o198 < 0)))), (120, (.bool (decide (o198 < 0))))] a w) ?_ ?_
                    · refine W.draw (n := 16) ((slT (Enc.int .i64) q0 s63.1) :: F) F 16 (by kernel_rfl) rfl rfl (fun w hw => hw) (fun w hw => hw.drop 1) ?_
                      refine WK.q (i := 0) rfl rfl (by kernel_rfl) calm_n (R.move rfl) rfl rfl ?_
                      refine WK.x (i := 1) (by kernel_rfl) rfl (OpV.x (R.move rfl)) (fun _ w hw => hw) (fun _ _ _ w hw => hw.reord [] 1 rfl) rfl rfl (by kernel_rfl) fun _ => ?_
                      refine WK.x (i := 2) (by kernel_rfl) rfl (OpV.x (R.leq rfl rfl)) (fun _ w hw => hw) (fun _ _ _ w hw => hw.reord [] 1 rfl) rfl rfl (by kernel_rfl) fun _ => ?_
                      refine WK.x (i := 3) (by kernel_rfl) rfl (OpV.x (R.move rfl)) (fun _ w hw => hw) (fun _ _ _ w hw => hw.reord [] 1 rfl) rfl rfl (by kernel_rfl) fun _ => ?_
                      refine WK.qg (i := 4) rfl rfl rfl (decide_eq_true h195) (by kernel_rfl) calm_n (R.move rfl) rfl rfl ?_
                      refine WK.qg (i := 5) rfl rfl rfl (decide_eq_true h195) (by kernel_rfl) calm_n (R.move rfl) rfl rfl ?_
                      refine WK.qg (i := 6) rfl rfl rfl (decide_eq_true h195) (by kernel_rfl) calm_n (R.move rfl) rfl rfl ?_
                      refine WK.qg (i := 7) rfl rfl rfl (decide_eq_true h195) (by kernel_rfl) calm_n (R.idxT rfl rfl el40 (RdT.at 0 rfl) h196) rfl rfl ?_
                      refine WK.qg (i := 8) rfl rfl rfl (decide_eq_true h195) (by kernel_rfl) calm_n (R.load rfl (At.elT (RdT.at 0 rfl) (by decide) h196) (Lies.one _ ia50)) rfl rfl ?_
                      refine WK.qg (i := 9) rfl rfl rfl (decide_eq_true h195) (by kernel_rfl) calm_n (R.move rfl) rfl rfl ?_
                      refine WK.xg (i := 10) (by kernel_rfl) rfl rfl rfl (decide_eq_true h195) (OpV.x (R.move rfl)) (fun _ w hw => hw) (fun _ _ _ w hw => hw.reord [] 1 rfl) rfl rfl (by kernel_rfl) fun _ => ?_
                      refine WK.xg (i := 11) (by kernel_rfl) rfl rfl rfl (decide_eq_true h195) (OpV.x (R.idxT rfl rfl el40 (RdT.at 0 rfl) h197)) (fun _ w hw => hw) (fun _ _ _ w hw => hw.reord [] 1 rfl) rfl rfl (by kernel_rfl) fun _ => ?_
                      refine WK.xg (i := 12) (by kernel_rfl) rfl rfl rfl (decide_eq_true h195) (OpV.x (R.load rfl (At.elT (RdT.at 0 rfl) (by decide) h197) (Lies.one _ ia50))) (fun _ w hw => hw) (fun _ _ _ w hw => hw.reord [] 1 rfl) rfl rfl (by kernel_rfl) fun _ => ?_
                      refine WK.xg (i := 13) (by kernel_rfl) rfl rfl rfl (decide_eq_true h195) (R.callAny (fs := fs4) (cs := cs4) (vs := [(.int .i64 (gl s63.1 s177)), (.int .i64 (gl s63.1 p1))]) rfl rfl en_4 (hf4 [(slT (Enc.int .i64) q0 s63.1)] (gl s63.1 s177) (gl s63.1 p1) _ h199)) (fun _ w hw => hw) (fun _ _ _ w hw => hw.reord [] 1 rfl) rfl rfl (by kernel_rfl) fun x200 => ?_
                      refine WK.xg (i := 14) (by kernel_rfl) rfl rfl rfl (decide_eq_true h195) (OpV.x (R.lss rfl rfl)) (fun _ w hw => hw) (fun _ _ _ w hw => hw.reord [] 1 rfl) rfl rfl (by kernel_rfl) fun _ => ?_
                      refine WK.x (i := 15) (by kernel_rfl) rfl (OpV.x (R.pick_t rfl (decide_eq_true h195) rfl)) (fun _ w hw => hw) (fun _ _ _ w hw => hw.reord [] 1 rfl) rfl rfl (by kernel_rfl) fun _ => ?_
                      refine WK.nil (by kernel_rfl) ?_
                      exact fun a w s => And.intro rfl (Exists.intro x200 (Sat.mk (s.env.le ⟨rfl, rfl, rfl, rfl, rfl, rfl, rfl, rfl, rfl, rfl, rfl, rfl, rfl, rfl, rfl, rfl, rfl, trivial⟩) (s.mem)))
                    · refine Go2.ex fun x200 => ?_
                      refine Go2.sat ?_
                      have he := Option.some.inj hm
                      clear hm
                      subst o201
                      exact fun a w s => And.intro rfl (Sat.mk (s.env.le ⟨rfl, rfl, rfl, rfl, rfl, rfl, rfl, rfl, trivial⟩) (s.mem))
                  · rw [if_neg h195] at hm
                    refine W.join1 (fun a w => Sat G ((slT (Enc.int .i64) q0 s63.1) :: F) 178 [(0, q0), (1, (.int .i64 p1)), (4, (.func (.func g4) fs4.toArray cs4.toArray)), (10, (.int .i64 0)), (11, (.bool false)), (12, (.int .i64 s177)), (13, (.int .i64 s63.2.2)), (120, (.bool false))] a w) ?_ ?_
                    · refine W.draw (n := 16) ((slT (Enc.int .i64) q0 s63.1) :: F) F 16 (by kernel_rfl) rfl rfl (fun w hw => hw) (fun w hw => hw.drop 1) ?_
                      refine WK.q (i := 0) rfl rfl (by kernel_rfl) calm_n (R.move rfl) rfl rfl ?_
                      refine WK.x (i := 1) (by kernel_rfl) rfl (OpV.x (R.move rfl)) (fun _ w hw => hw) (fun _ _ _ w hw => hw.reord [] 1 rfl) rfl rfl (by kernel_rfl) fun _ => ?_
                      refine WK.x (i := 2) (by kernel_rfl) rfl (OpV.x (R.leq rfl rfl)) (fun _ w hw => hw) (fun _ _ _ w hw => hw.reord [] 1 rfl) rfl rfl (by kernel_rfl) fun _ => ?_
                      refine WK.x (i := 3) (by kernel_rfl) rfl (OpV.x (R.move rfl)) (fun _ w hw => hw) (fun _ _ _ w hw => hw.reord [] 1 rfl) rfl rfl (by kernel_rfl) fun _ => ?_
                      refine WK.qoff (i := 4) rfl rfl rfl (decide_eq_false h195) (by kernel_rfl) calm_n rfl rfl ?_
                      refine WK.qoff (i := 5) rfl rfl rfl (decide_eq_false h195) (by kernel_rfl) calm_n rfl rfl ?_
                      refine WK.qoff (i := 6) rfl rfl rfl (decide_eq_false h195) (by kernel_rfl) calm_n rfl rfl ?_
                      refine WK.qoff (i := 7) rfl rfl rfl (decide_eq_false h195) (by kernel_rfl) calm_n rfl rfl ?_
                      refine WK.qoff (i := 8) rfl rfl rfl (decide_eq_false h195) (by kernel_rfl) calm_n rfl rfl ?_
                      refine WK.qoff (i := 9) rfl rfl rfl (decide_eq_false h195) (by kernel_rfl) calm_n rfl rfl ?_
                      refine WK.qoff (i := 10) rfl rfl rfl (decide_eq_false h195) (by kernel_rfl) calm_n rfl rfl ?_
                      refine WK.qoff (i := 11) rfl rfl rfl (decide_eq_false h195) (by kernel_rfl) calm_n rfl rfl ?_
                      refine WK.qoff (i := 12) rfl rfl rfl (decide_eq_false h195) (by kernel_rfl) calm_n rfl rfl ?_
                      refine WK.qoff (i := 13) rfl rfl rfl (decide_eq_false h195) (by kernel_rfl) calm_n rfl rfl ?_
                      refine WK.qoff (i := 14) rfl rfl rfl (decide_eq_false h195) (by kernel_rfl) calm_n rfl rfl ?_
                      refine WK.x (i := 15) (by kernel_rfl) rfl (OpV.x (R.pick_f rfl (decide_eq_false h195) rfl)) (fun _ w hw => hw) (fun _ _ _ w hw => hw.reord [] 1 rfl) rfl rfl (by kernel_rfl) fun _ => ?_
                      refine WK.nil (by kernel_rfl) ?_
                      exact fun a w s => And.intro rfl (Sat.mk (s.env.le ⟨rfl, rfl, rfl, rfl, rfl, rfl, rfl, rfl, trivial⟩) (s.mem))
                    · refine Go2.sat ?_
                      have he := Option.some.inj hm
                      clear hm
                      subst o201
                      exact fun a w s => And.intro rfl (Sat.mk (s.env.le ⟨rfl, rfl, rfl, rfl, rfl, rfl, rfl, rfl, trivial⟩) (s.mem))
                · intro e a w hJ
                  replace hm := hmo201
                  clear hmo201
                  obtain ⟨rfl, s⟩ := hJ
                  refine Go.use s ?_
                  refine Go.then_ ?_
                  by_cases h202 : o201 = true
                  · rw [if_pos h202] at hm
                    refine W.cond_t rfl h202 ?_
                    refine W.skip ?_
                    refine Go.then_ ?_
                    refine W.block ?_
                    refine W.region ?_
                    refine WL.q (R.move rfl) rfl ?_
                    refine WL.q (R.add rfl rfl) rfl ?_
                    refine WL.q (R.assign rfl) rfl ?_
                    refine WL.nil ?_
                    refine Go.n_block ?_
                    have he := Option.some.inj hm
                    clear hm
                    subst x
                    exact fun a w s => Exists.intro _ (And.intro rfl (Sat.mk (s.env.le ⟨rfl, rfl, rfl, rfl, rfl, rfl, rfl, trivial⟩) (s.mem)))
                  · rw [if_neg h202] at hm
                    refine W.cond_f rfl (b_f h202) ?_
                    refine W.exit ?_
                    refine Go.x_then ?_
                    have he := Option.some.inj hm
                    clear hm
                    subst x
                    exact fun a w s => Exists.intro _ (And.intro rfl (And.intro rfl (Sat.mk (s.env.le ⟨rfl, rfl, rfl, rfl, rfl, rfl, rfl, trivial⟩) (s.mem))))
              · intro e a w hJ
                obtain ⟨rfl, s⟩ := hJ
                refine Go.use s ?_
                refine Go.x_block ?_
                refine Go.then_ ?_
                refine W.seq ?_
                refine W.block ?_
                obtain ⟨o204, hlo204, hm⟩ := of_bind hm
                refine W.loopx (fun (s203 : Int) a w => Sat G ((slT (Enc.int .i64) q0 s63.1) :: F) 178 [(0, q0), (1, (.int .i64 p1)), (4, (.func (.func g4) fs4.toArray cs4.toArray)), (10, (.int .i64 0)), (11, (.bool false)), (12, (.int .i64 o178)), (13, (.int .i64 s203))] a w) (fun (o204 : Int) e a w => And (e = (.exit 8)) (Sat G ((slT (Enc.int .i64) q0 s63.1) :: F) 178 [(0, q0), (1, (.int .i64 p1)), (4, (.func (.func g4) fs4.toArray cs4.toArray)), (10, (.int .i64 0)), (11, (.bool false)), (12, (.int .i64 o178)), (13, (.int .i64 o204))] a w)) hlo204 (fun a w s => (Sat.mk (s.env.le ⟨rfl, rfl, rfl, rfl, rfl, rfl, rfl, trivial⟩) (s.mem))) ?_ ?_
                · clear hm
                  intro s203 x hm a w hJ
                  have s := hJ
                  unfold slices_partitionCmpFunc_impl_set_L5 at hm
                  refine W.use s ?_
                  refine W.seq ?_
                  obtain ⟨o227, hm, hmo227⟩ := of_bind hm
                  refine W.seq ?_
                  refine W.join (fun e a w => And (e = .normal) (Sat G ((slT (Enc.int .i64) q0 s63.1) :: F) 178 [(0, q0), (1, (.int .i64 p1)), (4, (.func (.func g4) fs4.toArray cs4.toArray)), (10, (.int .i64 0)), (11, (.bool false)), (12, (.int .i64 o178)), (13, (.int .i64 s203)), (139, (.bool o227))] a w)) ?_ ?_
                  · by_cases h221 : o178 ≤ s203
                    · rw [if_pos h221] at hm
                      obtain ⟨h222, hm⟩ := of_guard hm
                      obtain ⟨h223, hm⟩ := of_guard hm
                      obtain ⟨o224, h225, hm⟩ := of_bind hm
                      refine W.join1 (fun a w => ∃ x226 : Unit, Sat G ((slT (Enc.int .i64) q0 s63.1) :: F) 178 [(0, q0), (1, (.int .i64 p1)), (4, (.func (.func g4) fs4.toArray cs4.toArray)), (10, (.int .i64 0)), (11, (.bool false)), (12, (.int .i64 o178)), (13, (.int .i64 s203)), (127, (.func (.func g4) fs4.toArray cs4.toArray)), (128, q0), (129, (.int .i64 s203)), (131, (.int .i64 (gl s63.1 s203))), (132, q0), (133, (.int .i64 p1)), (135, (.int .i64 (gl s63.1 p1))), (136, (.int .i64 o224)), (137, (.bool (decide (o224 < 0)))), (138, (.bool (!(decide (o224 < 0))))), (139, (.bool (!(decide (o224 < 0)))))] a w) ?_ ?_
                      · refine W.draw (n := 17) ((slT (Enc.int .i64) q0 s63.1) :: F) F 17 (by kernel_rfl) rfl rfl (fun w hw => hw) (fun w hw => hw.drop 1) ?_
                        refine WK.q (i := 0) rfl rfl (by kernel_rfl) calm_n (R.move rfl) rfl rfl ?_
                        refine WK.x (i := 1) (by kernel_rfl) rfl (OpV.x (R.move rfl)) (fun _ w hw => hw) (fun _ _ _ w hw => hw.reord [] 1 rfl) rfl rfl (by kernel_rfl) fun _ => ?_
                        refine WK.x (i := 2) (by kernel_rfl) rfl (OpV.x (R.leq rfl rfl)) (fun _ w hw => hw) (fun _ _ _ w hw => hw.reord [] 1 rfl) rfl rfl (by kernel_rfl) fun _ => ?_
                        refine WK.x (i := 3) (by kernel_rfl) rfl (OpV.x (R.move rfl)) (fun _ w hw => hw) (fun _ _ _ w hw => hw.reord [] 1 rfl) rfl rfl (by kernel_rfl) fun _ => ?_
                        refine WK.qg (i := 4) rfl rfl rfl (decide_eq_true h221) (by kernel_rfl) calm_n (R.move rfl) rfl rfl ?_
                        refine WK.qg (i := 5) rfl rfl rfl (decide_eq_true h221) (by kernel_rfl) calm_n (R.move rfl) rfl rfl ?_
                        refine WK.qg (i := 6) rfl rfl rfl (decide_eq_true h221) (by kernel_rfl) calm_n (R.move rfl) rfl rfl ?_
                        refine WK.qg (i := 7) rfl rfl rfl (decide_eq_true h221) (by kernel_rfl) calm_n (R.idxT rfl rfl el40 (RdT.at 0 rfl) h222) rfl rfl ?_
                        refine WK.qg (i := 8) rfl rfl rfl (decide_eq_true h221) (by kernel_rfl) calm_n (R.load rfl (At.elT (RdT.at 0 rfl) (by decide) h222) (Lies.one _ ia50)) rfl rfl ?_
                        refine WK.qg (i := 9) rfl rfl rfl (decide_eq_true h221) (by kernel_rfl) calm_n (R.move rfl) rfl rfl ?_
                        refine WK.xg (i := 10) (by kernel_rfl) rfl rfl rfl (decide_eq_true h221) (OpV.x (R.move rfl)) (fun _ w hw => hw) (fun _ _ _ w hw => hw.reord [] 1 rfl) rfl rfl (by kernel_rfl) fun _ => ?_
                        refine WK.xg (i := 11) (by kernel_rfl) rfl rfl rfl (decide_eq_true h221) (OpV.x (R.idxT rfl rfl el40 (RdT.at 0 rfl) h223)) (fun _ w hw => hw) (fun _ _ _ w hw => hw.reord [] 1 rfl) rfl rfl (by kernel_rfl) fun _ => ?_
                        refine WK.xg (i := 12) (by kernel_rfl) rfl rfl rfl (decide_eq_true h221) (OpV.x (R.load rfl (At.elT (RdT.at 0 rfl) (by decide) h223) (Lies.one _ ia50))) (fun _ w hw => hw) (fun _ _ _ w hw => hw.reord [] 1 rfl) rfl rfl (by kernel_rfl) fun _ => ?_
                        refine WK.xg (i := 13) (by kernel_rfl) rfl rfl rfl (decide_eq_true h221) (R.callAny (fs := fs4) (cs := cs4) (vs := [(.int .i64 (gl s63.1 s203)), (.int .i64 (gl s63.1 p1))]) rfl rfl en_4 (hf4 [(slT (Enc.int .i64) q0 s63.1)] (gl s63.1 s203) (gl s63.1 p1) _ h225)) (fun _ w hw => hw) (fun _ _ _ w hw => hw.reord [] 1 rfl) rfl rfl (by kernel_rfl) fun x226 => ?_
                        refine WK.xg (i := 14) (by kernel_rfl) rfl rfl rfl (decide_eq_true h221) (OpV.x (R.lss rfl rfl)) (fun _ w hw => hw) (fun _ _ _ w hw => hw.reord [] 1 rfl) rfl rfl (by kernel_rfl) fun _ => ?_
                        refine WK.xg (i := 15) (by kernel_rfl) rfl rfl rfl (decide_eq_true h221) (OpV.x (R.not rfl)) (fun _ w hw => hw) (fun _ _ _ w hw => hw.reord [] 1 rfl) rfl rfl (by kernel_rfl) fun _ => ?_
                        refine WK.x (i := 16) (by kernel_rfl) rfl (OpV.x (R.pick_t rfl (decide_eq_true h221) rfl)) (fun _ w hw => hw) (fun _ _ _ w hw => hw.reord [] 1 rfl) rfl rfl (by kernel_rfl) fun _ => ?_
                        refine WK.nil (by kernel_rfl) ?_
                        exact fun a w s => And.intro rfl (Exists.intro x226 (Sat.mk (s.env.le ⟨rfl, rfl, rfl, rfl, rfl, rfl, rfl, rfl, rfl, rfl, rfl, rfl, rfl, rfl, rfl, rfl, rfl, rfl, trivial⟩) (s.mem)))
                      · refine Go2.ex fun x226 => ?_
                        refine Go2.sat ?_
                        have he := Option.some.inj hm
                        clear hm
                        subst o227
                        exact fun a w s => And.intro rfl (Sat.mk (s.env.le ⟨rfl, rfl, rfl, rfl, rfl, rfl, rfl, rfl, trivial⟩) (s.mem))
                    · rw [if_neg h221] at hm
                      refine W.join1 (fun a w => Sat G ((slT (Enc.int .i64) q0 s63.1) :: F) 178 [(0, q0), (1, (.int .i64 p1)), (4, (.func (.func g4) fs4.toArray cs4.toArray)), (10, (.int .i64 0)), (11, (.bool false)), (12, (.int .i64 o178)), (13, (.int .i64 s203)), (139, (.bool false))] a w) ?_ ?_
                      · refine W.draw (n := 17) ((slT (Enc.int .i64) q0 s63.1) :: F) F 17 (by kernel_rfl) rfl rfl (fun w hw => hw) (fun w hw => hw.drop 1) ?_
                        refine WK.q (i := 0) rfl rfl (by kernel_rfl) calm_n (R.move rfl) rfl rfl ?_
                        refine WK.x (i := 1) (by kernel_rfl) rfl (OpV.x (R.move rfl)) (fun _ w hw => hw) (fun _ _ _ w hw => hw.reord [] 1 rfl) rfl rfl (by kernel_rfl) fun _ => ?_
                        refine WK.x (i := 2) (by kernel_rfl) rfl (OpV.x (R.leq rfl rfl)) (fun _ w hw => hw) (fun _ _ _ w hw => hw.reord [] 1 rfl) rfl rfl (by kernel_rfl) fun _ => ?_
                        refine WK.x (i := 3) (by kernel_rfl) rfl (OpV.x (R.move rfl)) (fun _ w hw => hw) (fun _ _ _ w hw => hw.reord [] 1 rfl) rfl rfl (by kernel_rfl) fun _ => ?_
                        refine WK.qoff (i := 4) rfl rfl rfl (decide_eq_false h221) (by kernel_rfl) calm_n rfl rfl ?_
                        refine WK.qoff (i := 5) rfl rfl rfl (decide_eq_false h221) (by kernel_rfl) calm_n rfl rfl ?_
                        refine WK.qoff (i := 6) rfl rfl rfl (decide_eq_false h221) (by kernel_rfl) calm_n rfl rfl ?_
                        refine WK.qoff (i := 7) rfl rfl rfl (decide_eq_false h221) (by kernel_rfl) calm_n rfl rfl ?_
                        refine WK.qoff (i := 8) rfl rfl rfl (decide_eq_false h221) (by kernel_rfl) calm_n rfl rfl ?_
                        refine WK.qoff (i := 9) rfl rfl rfl (decide_eq_false h221) (by kernel_rfl) calm_n rfl rfl ?_
                        refine WK.qoff (i := 10) rfl rfl rfl (decide_eq_false h221) (by kernel_rfl) calm_n rfl rfl ?_
                        refine WK.qoff (i := 11) rfl rfl rfl (decide_eq_false h221) (by kernel_rfl) calm_n rfl rfl ?_
                        refine WK.qoff (i := 12) rfl rfl rfl (decide_eq_false h221) (by kernel_rfl) calm_n rfl rfl ?_
                        refine WK.qoff (i := 13) rfl rfl rfl (decide_eq_false h221) (by kernel_rfl) calm_n rfl rfl ?_
                        refine WK.qoff (i := 14) rfl rfl rfl (decide_eq_false h221) (by kernel_rfl) calm_n rfl rfl ?_
                        refine WK.qoff (i := 15) rfl rfl rfl (decide_eq_false h221) (by kernel_rfl) calm_n rfl rfl ?_
                        refine WK.x (i := 16) (by kernel_rfl) rfl (OpV.x (R.pick_f rfl (decide_eq_false h221) rfl)) (fun _ w hw => hw) (fun _ _ _ w hw => hw.reord [] 1 rfl) rfl rfl (by kernel_rfl) fun _ => ?_
                        refine WK.nil (by kernel_rfl) ?_
                        exact fun a w s => And.intro rfl (Sat.mk (s.env.le ⟨rfl, rfl, rfl, rfl, rfl, rfl, rfl, rfl, trivial⟩) (s.mem))
                      · refine Go2.sat ?_
                        have he := Option.some.inj hm
                        clear hm
                        subst o227
                        exact fun a w s => And.intro rfl (Sat.mk (s.env.le ⟨rfl, rfl, rfl, rfl, rfl, rfl, rfl, rfl, trivial⟩) (s.mem))
                  · intro e a w hJ
                    replace hm := hmo227
                    clear hmo227
                    obtain ⟨rfl, s⟩ := hJ
                    refine Go.use s ?_
                    refine Go.then_ ?_
                    by_cases h228 : o227 = true
                    · rw [if_pos h228] at hm
                      refine W.cond_t rfl h228 ?_
                      refine W.skip ?_
                      refine Go.then_ ?_
                      refine W.block ?_
                      refine W.region ?_
                      refine WL.q (R.move rfl) rfl ?_
                      refine WL.q (R.sub rfl rfl) rfl ?_
                      refine WL.q (R.assign rfl) rfl ?_
                      refine WL.nil ?_
                      refine Go.n_block ?_
                      have he := Option.some.inj hm
                      clear hm
                      subst x
                      exact fun a w s => Exists.intro _ (And.intro rfl (Sat.mk (s.env.le ⟨rfl, rfl, rfl, rfl, rfl, rfl, rfl, trivial⟩) (s.mem)))
                    · rw [if_neg h228] at hm
                      refine W.cond_f rfl (b_f h228) ?_
                      refine W.exit ?_
                      refine Go.x_then ?_
                      have he := Option.some.inj hm
                      clear hm
                      subst x
                      exact fun a w s => Exists.intro _ (And.intro rfl (And.intro rfl (Sat.mk (s.env.le ⟨rfl, rfl, rfl, rfl, rfl, rfl, rfl, trivial⟩) (s.mem))))
                · intro e a w hJ
                  obtain ⟨rfl, s⟩ := hJ
                  refine Go.use s ?_
                  refine Go.x_block ?_
                  refine Go.then_ ?_
                  refine W.seq ?_
                  refine W.seq ?_
                  refine W.region ?_
                  refine WL.q (R.move rfl) rfl ?_
                  refine WL.q (R.move rfl) rfl ?_
                  refine WL.q (R.gtr rfl rfl) rfl ?_
                  refine WL.nil ?_
                  refine Go.then_ ?_
                  by_cases h229 : o204 < o178
                  · rw [if_pos h229] at hm
                    refine W.cond_t rfl (decide_eq_true h229) ?_
                    refine W.exit ?_
                    refine Go.x_then ?_
                    refine Go.x_pass rfl ?_
                    have he := Option.some.inj hm
                    clear hm
                    subst x
                    exact fun a w s => Exists.intro _ (And.intro rfl (And.intro rfl (Sat.mk (s.env.le ⟨rfl, rfl, rfl, rfl, rfl, trivial⟩) (s.mem))))
                  · rw [if_neg h229] at hm
                    refine W.cond_f rfl (decide_eq_false h229) ?_
                    refine W.skip ?_
                    refine Go.then_ ?_
                    refine W.seq ?_
                    obtain ⟨h230, hm⟩ := of_guard hm
                    obtain ⟨h231, hm⟩ := of_guard hm
                    obtain ⟨h232, hm⟩ := of_guard hm
                    refine W.join1 (fun a w => Sat G ((slT (Enc.int .i64) q0 (sls (sls s63.1 o178 (gl s63.1 o204)) o204 (gl s63.1 o178))) :: F) 178 [(0, q0), (1, (.int .i64 p1)), (4, (.func (.func g4) fs4.toArray cs4.toArray)), (10, (.int .i64 0)), (11, (.bool false)), (12, (.int .i64 o178)), (13, (.int .i64 o204))] a w) ?_ ?_
                    · refine W.draw (n := 16) F F 13 (by kernel_rfl) rfl rfl (fun w hw => hw.reord [] 1 rfl) (fun w hw => hw.drop 1) ?_
                      refine WK.q (i := 0) rfl rfl (by kernel_rfl) calm_n (R.move rfl) rfl rfl ?_
                      refine WK.q (i := 1) rfl rfl (by kernel_rfl) calm_n (R.move rfl) rfl rfl ?_
                      refine WK.q (i := 2) rfl rfl (by kernel_rfl) calm_n (R.move rfl) rfl rfl ?_
                      refine WK.q (i := 3) rfl rfl (by kernel_rfl) calm_n (R.move rfl) rfl rfl ?_
                      refine WK.q (i := 4) rfl rfl (by kernel_rfl) calm_n (R.move rfl) rfl rfl ?_
                      refine WK.q (i := 5) rfl rfl (by kernel_rfl) calm_n (R.move rfl) rfl rfl ?_
                      refine WK.q (i := 8) rfl rfl (by kernel_rfl) calm_n (R.move rfl) rfl rfl ?_
                      refine WK.q (i := 9) rfl rfl (by kernel_rfl) calm_n (R.move rfl) rfl rfl ?_
                      refine WK.among (is := [6, 10]) (by kernel_rfl) rfl ?_
                      refine WKa.x rfl (OpV.x (R.idxT rfl rfl el40 (RdT.at 0 rfl) h230)) (fun _ w hw => hw.reord [] 1 rfl) (fun _ _ _ w hw => hw.reord [] 1 rfl) rfl rfl (by kernel_rfl) (fun _ => ?_) ?_
                      · refine WK.among (is := [7, 10]) (by kernel_rfl) rfl ?_
                        refine WKa.x rfl (OpV.x (R.load rfl (At.elT (RdT.at 0 rfl) (by decide) h230) (Lies.one _ ia50))) (fun _ w hw => hw.reord [] 1 rfl) (fun _ _ _ w hw => hw.reord [] 1 rfl) rfl rfl (by kernel_rfl) (fun _ => ?_) ?_
                        · refine WK.x (i := 10) (by kernel_rfl) rfl (OpV.x (R.idxT rfl rfl el40 (RdT.at 0 rfl) h231)) (fun _ w hw => hw.reord [] 1 rfl) (fun _ _ _ w hw => hw.reord [] 1 rfl) rfl rfl (by kernel_rfl) fun _ => ?_
                          refine WK.x (i := 11) (by kernel_rfl) rfl (OpV.x (R.load rfl (At.elT (RdT.at 0 rfl) (by decide) h231) (Lies.one _ ia50))) (fun _ w hw => hw.reord [] 1 rfl) (fun _ _ _ w hw => hw.reord [] 1 rfl) rfl rfl (by kernel_rfl) fun _ => ?_
                          refine WK.x (i := 12) (by kernel_rfl) rfl (OpV.x (R.idxT rfl rfl el40 (RdT.at 0 rfl) h231)) (fun _ w hw => hw.reord [] 1 rfl) (fun _ _ _ w hw => hw.reord [] 1 rfl) rfl rfl (by kernel_rfl) fun _ => ?_
                          refine WK.x0 (i := 13) (by kernel_rfl) rfl (R.storeT (i := 0) (gl s63.1 o204) rfl rfl rfl (fits_int sz50) (by decide) h231) (fun _ w hw => hw.reord [] 1 rfl) (fun h1 h2 => by cases h1) rfl (by kernel_rfl) fun _ => ?_
                          refine WK.x (i := 14) (by kernel_rfl) rfl (OpV.x (R.idxT rfl rfl el40 (RdT.at 0 rfl) h232)) (fun _ w hw => hw.reord [] 1 rfl) (fun h1 h2 => by cases h2) rfl rfl (by kernel_rfl) fun _ => ?_
                          refine WK.x0 (i := 15) (by kernel_rfl) rfl (R.storeT (i := 0) (gl s63.1 o178) rfl rfl rfl (fits_int sz50) (by decide) h232) (fun _ w hw => hw.reord [] 1 rfl) (fun h1 h2 => by cases h2) rfl (by kernel_rfl) fun _ => ?_
                          refine WK.nil (by kernel_rfl) ?_
                          exact fun a w s => And.intro rfl (Sat.mk (s.env.le ⟨rfl, rfl, rfl, rfl, rfl, rfl, rfl, trivial⟩) (s.mem))
                        refine WKa.x rfl (OpV.x (R.idxT rfl rfl el40 (RdT.at 0 rfl) h231)) (fun _ w hw => hw.reord [] 1 rfl) (fun _ _ _ w hw => hw.reord [] 1 rfl) rfl rfl (by kernel_rfl) (fun _ => ?_) ?_
                        · refine WK.among (is := [7, 11]) (by kernel_rfl) rfl ?_
                          refine WKa.x rfl (OpV.x (R.load rfl (At.elT (RdT.at 0 rfl) (by decide) h230) (Lies.one _ ia50))) (fun _ w hw => hw.reord [] 1 rfl) (fun _ _ _ w hw => hw.reord [] 1 rfl) rfl rfl (by kernel_rfl) (fun _ => ?_) ?_
                          · refine WK.x (i := 11) (by kernel_rfl) rfl (OpV.x (R.load rfl (At.elT (RdT.at 0 rfl) (by decide) h231) (Lies.one _ ia50))) (fun _ w hw => hw.reord [] 1 rfl) (fun _ _ _ w hw => hw.reord [] 1 rfl) rfl rfl (by kernel_rfl) fun _ => ?_
                            refine WK.x (i := 12) (by kernel_rfl) rfl (OpV.x (R.idxT rfl rfl el40 (RdT.at 0 rfl) h231)) (fun _ w hw => hw.reord [] 1 rfl) (fun _ _ _ w hw => hw.reord [] 1 rfl) rfl rfl (by kernel_rfl) fun _ => ?_
                            refine WK.x0 (i := 13) (by kernel_rfl) rfl (R.storeT (i := 0) (gl s63.1 o204) rfl rfl rfl (fits_int sz50) (by decide) h231) (fun _ w hw => hw.reord [] 1 rfl) (fun h1 h2 => by cases h1) rfl (by kernel_rfl) fun _ => ?_
                            refine WK.x (i := 14) (by kernel_rfl) rfl (OpV.x (R.idxT rfl rfl el40 (RdT.at 0 rfl) h232)) (fun _ w hw => hw.reord [] 1 rfl) (fun h1 h2 => by cases h2) rfl rfl (by kernel_rfl) fun _ => ?_
                            refine WK.x0 (i := 15) (by kernel_rfl) rfl (R.storeT (i := 0) (gl s63.1 o178) rfl rfl rfl (fits_int sz50) (by decide) h232) (fun _ w hw => hw.reord [] 1 rfl) (fun h1 h2 => by cases h2) rfl (by kernel_rfl) fun _ => ?_
                            refine WK.nil (by kernel_rfl) ?_
                            exact fun a w s => And.intro rfl (Sat.mk (s.env.le ⟨rfl, rfl, rfl, rfl, rfl, rfl, rfl, trivial⟩) (s.mem))
                          refine WKa.x rfl (OpV.x (R.load rfl (At.elT (RdT.at 0 rfl) (by decide) h231) (Lies.one _ ia50))) (fun _ w hw => hw.reord [] 1 rfl) (fun _ _ _ w hw => hw.reord [] 1 rfl) rfl rfl (by kernel_rfl) (fun _ => ?_) ?_
                          · refine WK.x (i := 7) (by kernel_rfl) rfl (OpV.x (R.load rfl (At.elT (RdT.at 0 rfl) (by decide) h230) (Lies.one _ ia50))) (fun _ w hw => hw.reord [] 1 rfl) (fun _ _ _ w hw => hw.reord [] 1 rfl) rfl rfl (by kernel_rfl) fun _ => ?_
                            refine WK.x (i := 12) (by kernel_rfl) rfl (OpV.x (R.idxT rfl rfl el40 (RdT.at 0 rfl) h231)) (fun _ w hw => hw.reord [] 1 rfl) (fun _ _ _ w hw => hw.reord [] 1 rfl) rfl rfl (by kernel_rfl) fun _ => ?_
                            refine WK.x0 (i := 13) (by kernel_rfl) rfl (R.storeT (i := 0) (gl s63.1 o204) rfl rfl rfl (fits_int sz50) (by decide) h231) (fun _ w hw => hw.reord [] 1 rfl) (fun h1 h2 => by cases h1) rfl (by kernel_rfl) fun _ => ?_
                            refine WK.x (i := 14) (by kernel_rfl) rfl (OpV.x (R.idxT rfl rfl el40 (RdT.at 0 rfl) h232)) (fun _ w hw => hw.reord [] 1 rfl) (fun h1 h2 => by cases h2) rfl rfl (by kernel_rfl) fun _ => ?_
                            refine WK.x0 (i := 15) (by kernel_rfl) rfl (R.storeT (i := 0) (gl s63.1 o178) rfl rfl rfl (fits_int sz50) (by decide) h232) (fun _ w hw => hw.reord [] 1 rfl) (fun h1 h2 => by cases h2) rfl (by kernel_rfl) fun _ => ?_
                            refine WK.nil (by kernel_rfl) ?_
                            exact fun a w s => And.intro rfl (Sat.mk (s.env.le ⟨rfl, rfl, rfl, rfl, rfl, rfl, rfl, trivial⟩) (s.mem))
                          exact WKa.nil
                        exact WKa.nil
                      refine WKa.x rfl (OpV.x (R.idxT rfl rfl el40 (RdT.at 0 rfl) h231)) (fun _ w hw => hw.reord [] 1 rfl) (fun _ _ _ w hw => hw.reord [] 1 rfl) rfl rfl (by kernel_rfl) (fun _ => ?_) ?_
                      · refine WK.among (is := [6, 11]) (by kernel_rfl) rfl ?_
                        refine WKa.x rfl (OpV.x (R.idxT rfl rfl el40 (RdT.at 0 rfl) h230)) (fun _ w hw => hw.reord [] 1 rfl) (fun _ _ _ w hw => hw.reord [] 1 rfl) rfl rfl (by kernel_rfl) (fun _ => ?_) ?_
                        · refine WK.among (is := [7, 11]) (by kernel_rfl) rfl ?_
                          refine WKa.x rfl (OpV.x (R.load rfl (At.elT (RdT.at 0 rfl) (by decide) h230) (Lies.one _ ia50))) (fun _ w hw => hw.reord [] 1 rfl) (fun _ _ _ w hw => hw.reord [] 1 rfl) rfl rfl (by kernel_rfl) (fun _ => ?_) ?_
                          · refine WK.x (i := 11) (by kernel_rfl) rfl (OpV.x (R.load rfl (At.elT (RdT.at 0 rfl) (by decide) h231) (Lies.one _ ia50))) (fun _ w hw => hw.reord [] 1 rfl) (fun _ _ _ w hw => hw.reord [] 1 rfl) rfl rfl (by kernel_rfl) fun _ => ?_
                            refine WK.x (i := 12) (by kernel_rfl) rfl (OpV.x (R.idxT rfl rfl el40 (RdT.at 0 rfl) h231)) (fun _ w hw => hw.reord [] 1 rfl) (fun _ _ _ w hw => hw.reord [] 1 rfl) rfl rfl (by kernel_rfl) fun _ => ?_
                            refine WK.x0 (i := 13) (by kernel_rfl) rfl (R.storeT (i := 0) (gl s63.1 o204) rfl rfl rfl (fits_int sz50) (by decide) h231) (fun _ w hw => hw.reord [] 1 rfl) (fun h1 h2 => by cases h1) rfl (by kernel_rfl) fun _ => ?_
                            refine WK.x (i := 14) (by kernel_rfl) rfl (OpV.x (R.idxT rfl rfl el40 (RdT.at 0 rfl) h232)) (fun _ w hw => hw.reord [] 1 rfl) (fun h1 h2 => by cases h2) rfl rfl (by kernel_rfl) fun _ => ?_
                            refine WK.x0 (i := 15) (by kernel_rfl) rfl (R.storeT (i := 0) (gl s63.1 o178) rfl rfl rfl (fits_int sz50) (by decide) h232) (fun _ w hw => hw.reord [] 1 rfl) (fun h1 h2 => by cases h2) rfl (by kernel_rfl) fun _ => ?_
                            refine WK.nil (by kernel_rfl) ?_
                            exact fun a w s => And.intro rfl (Sat.mk (s.env.le ⟨rfl, rfl, rfl, rfl, rfl, rfl, rfl, trivial⟩) (s.mem))
                          refine WKa.x rfl (OpV.x (R.load rfl (At.elT (RdT.at 0 rfl) (by decide) h231) (Lies.one _ ia50))) (fun _ w hw => hw.reord [] 1 rfl) (fun _ _ _ w hw => hw.reord [] 1 rfl) rfl rfl (by kernel_rfl) (fun _ => ?_) ?_
                          · refine WK.x (i := 7) (by kernel_rfl) rfl (OpV.x (R.load rfl (At.elT (RdT.at 0 rfl) (by decide) h230) (Lies.one _ ia50))) (fun _ w hw => hw.reord [] 1 rfl) (fun _ _ _ w hw => hw.reord [] 1 rfl) rfl rfl (by kernel_rfl) fun _ => ?_
                            refine WK.x (i := 12) (by kernel_rfl) rfl (OpV.x (R.idxT rfl rfl el40 (RdT.at 0 rfl) h231)) (fun _ w hw => hw.reord [] 1 rfl) (fun _ _ _ w hw => hw.reord [] 1 rfl) rfl rfl (by kernel_rfl) fun _ => ?_
                            refine WK.x0 (i := 13) (by kernel_rfl) rfl (R.storeT (i := 0) (gl s63.1 o204) rfl rfl rfl (fits_int sz50) (by decide) h231) (fun _ w hw => hw.reord [] 1 rfl) (fun h1 h2 => by cases h1) rfl (by kernel_rfl) fun _ => ?_
                            refine WK.x (i := 14) (by kernel_rfl) rfl (OpV.x (R.idxT rfl rfl el40 (RdT.at 0 rfl) h232)) (fun _ w hw => hw.reord [] 1 rfl) (fun h1 h2 => by cases h2) rfl rfl (by kernel_rfl) fun _ => ?_
                            refine WK.x0 (i := 15) (by kernel_rfl) rfl (R.storeT (i := 0) (gl s63.1 o178) rfl rfl rfl (fits_int sz50) (by decide) h232) (fun _ w hw => hw.reord [] 1 rfl) (fun h1 h2 => by cases h2) rfl (by kernel_rfl) fun _ => ?_
                            refine WK.nil (by kernel_rfl) ?_
                            exact fun a w s => And.intro rfl (Sat.mk (s.env.le ⟨rfl, rfl, rfl, rfl, rfl, rfl, rfl, trivial⟩) (s.mem))
                          exact WKa.nil
                        refine WKa.x rfl (OpV.x (R.load rfl (At.elT (RdT.at 0 rfl) (by decide) h231) (Lies.one _ ia50))) (fun _ w hw => hw.reord [] 1 rfl) (fun _ _ _ w hw => hw.reord [] 1 rfl) rfl rfl (by kernel_rfl) (fun _ => ?_) ?_
                        · refine WK.x (i := 6) (by kernel_rfl) rfl (OpV.x (R.idxT rfl rfl el40 (RdT.at 0 rfl) h230)) (fun _ w hw => hw.reord [] 1 rfl) (fun _ _ _ w hw => hw.reord [] 1 rfl) rfl rfl (by kernel_rfl) fun _ => ?_
                          refine WK.x (i := 7) (by kernel_rfl) rfl (OpV.x (R.load rfl (At.elT (RdT.at 0 rfl) (by decide) h230) (Lies.one _ ia50))) (fun _ w hw => hw.reord [] 1 rfl) (fun _ _ _ w hw => hw.reord [] 1 rfl) rfl rfl (by kernel_rfl) fun _ => ?_
                          refine WK.x (i := 12) (by kernel_rfl) rfl (OpV.x (R.idxT rfl rfl el40 (RdT.at 0 rfl) h231)) (fun _ w hw => hw.reord [] 1 rfl) (fun _ _ _ w hw => hw.reord [] 1 rfl) rfl rfl (by kernel_rfl) fun _ => ?_
                          refine WK.x0 (i := 13) (by kernel_rfl) rfl (R.storeT (i := 0) (gl s63.1 o204) rfl rfl rfl (fits_int sz50) (by decide) h231) (fun _ w hw => hw.reord [] 1 rfl) (fun h1 h2 => by cases h1) rfl (by kernel_rfl) fun _ => ?_
                          refine WK.x (i := 14) (by kernel_rfl) rfl (OpV.x (R.idxT rfl rfl el40 (RdT.at 0 rfl) h232)) (fun _ w hw => hw.reord [] 1 rfl) (fun h1 h2 => by cases h2) rfl rfl (by kernel_rfl) fun _ => ?_
                          refine WK.x0 (i := 15) (by kernel_rfl) rfl (R.storeT (i := 0) (gl s63.1 o178) rfl rfl rfl (fits_int sz50) (by decide) h232) (fun _ w hw => hw.reord [] 1 rfl) (fun h1 h2 => by cases h2) rfl (by kernel_rfl) fun _ => ?_
                          refine WK.nil (by kernel_rfl) ?_
                          exact fun a w s => And.intro rfl (Sat.mk (s.env.le ⟨rfl, rfl, rfl, rfl, rfl, rfl, rfl, trivial⟩) (s.mem))
                        exact WKa.nil
                      exact WKa.nil
                    · refine Go2.sat ?_
                      refine Go.then_ ?_
                      refine W.seq ?_
                      refine W.region ?_
                      refine WL.q (R.move rfl) rfl ?_
                      refine WL.q (R.add rfl rfl) rfl ?_
                      refine WL.q (R.assign rfl) rfl ?_
                      refine WL.nil ?_
                      refine Go.then_ ?_
                      refine W.region ?_
                      refine WL.q (R.move rfl) rfl ?_
                      refine WL.q (R.sub rfl rfl) rfl ?_
                      refine WL.q (R.assign rfl) rfl ?_
                      refine WL.nil ?_
                      refine Go.n_block ?_
                      have he := Option.some.inj hm
                      clear hm
                      subst x
                      exact fun a w s => Exists.intro _ (And.intro rfl (Sat.mk (s.env.le ⟨rfl, rfl, rfl, rfl, rfl, rfl, rfl, trivial⟩) (s.mem)))
            · intro e a w hJ
              obtain ⟨rfl, s⟩ := hJ
              refine Go.use s ?_
              refine Go.x_block ?_
              refine Go.then_ ?_
              refine W.seq ?_
              obtain ⟨h233, hm⟩ := of_guard hm
              obtain ⟨h234, hm⟩ := of_guard hm
              obtain ⟨h235, hm⟩ := of_guard hm
              refine W.join1 (fun a w => Sat G ((slT (Enc.int .i64) q0 (sls (sls o64.1 o64.2 (gl o64.1 p1)) p1 (gl o64.1 o64.2))) :: F) 178 [(10, (.int .i64 0)), (11, (.bool false)), (13, (.int .i64 o64.2))] a w) ?_ ?_
              · refine W.draw (n := 16) F F 13 (by kernel_rfl) rfl rfl (fun w hw => hw.reord [] 1 rfl) (fun w hw => hw.drop 1) ?_
                refine WK.q (i := 0) rfl rfl (by kernel_rfl) calm_n (R.move rfl) rfl rfl ?_
                refine WK.q (i := 1) rfl rfl (by kernel_rfl) calm_n (R.move rfl) rfl rfl ?_
                refine WK.q (i := 2) rfl rfl (by kernel_rfl) calm_n (R.move rfl) rfl rfl ?_
                refine WK.q (i := 3) rfl rfl (by kernel_rfl) calm_n (R.move rfl) rfl rfl ?_
                refine WK.q (i := 4) rfl rfl (by kernel_rfl) calm_n (R.move rfl) rfl rfl ?_
                refine WK.q (i := 5) rfl rfl (by kernel_rfl) calm_n (R.move rfl) rfl rfl ?_
                refine WK.q (i := 8) rfl rfl (by kernel_rfl) calm_n (R.move rfl) rfl rfl ?_
                refine WK.q (i := 9) rfl rfl (by kernel_rfl) calm_n (R.move rfl) rfl rfl ?_
                refine WK.among (is := [6, 10]) (by kernel_rfl) rfl ?_
                refine WKa.x rfl (OpV.x (R.idxT rfl rfl el40 (RdT.at 0 rfl) h233)) (fun _ w hw => hw.reord [] 1 rfl) (fun _ _ _ w hw => hw.reord [] 1 rfl) rfl rfl (by kernel_rfl) (fun _ => ?_) ?_
                · refine WK.among (is := [7, 10]) (by kernel_rfl) rfl ?_
                  refine WKa.x rfl (OpV.x (R.load rfl (At.elT (RdT.at 0 rfl) (by decide) h233) (Lies.one _ ia50))) (fun _ w hw => hw.reord [] 1 rfl) (fun _ _ _ w hw => hw.reord [] 1 rfl) rfl rfl (by kernel_rfl) (fun _ => ?_) ?_
                  · refine WK.x (i := 10) (by kernel_rfl) rfl (OpV.x (R.idxT rfl rfl el40 (RdT.at 0 rfl) h234)) (fun _ w hw => hw.reord [] 1 rfl) (fun _ _ _ w hw => hw.reord [] 1 rfl) rfl rfl (by kernel_rfl) fun _ => ?_
                    refine WK.x (i := 11) (by kernel_rfl) rfl (OpV.x (R.load rfl (At.elT (RdT.at 0 rfl) (by decide) h234) (Lies.one _ ia50))) (fun _ w hw => hw.reord [] 1 rfl) (fun _ _ _ w hw => hw.reord [] 1 rfl) rfl rfl (by kernel_rfl) fun _ => ?_
                    refine WK.x (i := 12) (by kernel_rfl) rfl (OpV.x (R.idxT rfl rfl el40 (RdT.at 0 rfl) h234)) (fun _ w hw => hw.reord [] 1 rfl) (fun _ _ _ w hw => hw.reord [] 1 rfl) rfl rfl (by kernel_rfl) fun _ => ?_
                    refine WK.x0 (i := 13) (by kernel_rfl) rfl (R.storeT (i := 0) (gl o64.1 p1) rfl rfl rfl (fits_int sz50) (by decide) h234) (fun _ w hw => hw.reord [] 1 rfl) (fun h1 h2 => by cases h1) rfl (by kernel_rfl) fun _ => ?_
                    refine WK.x (i := 14) (by kernel_rfl) rfl (OpV.x (R.idxT rfl rfl el40 (RdT.at 0 rfl) h235)) (fun _ w hw => hw.reord [] 1 rfl) (fun h1 h2 => by cases h2) rfl rfl (by kernel_rfl) fun _ => ?_
                    refine WK.x0 (i := 15) (by kernel_rfl) rfl (R.storeT (i := 0) (gl o64.1 o64.2) rfl rfl rfl (fits_int sz50) (by decide) h235) (fun _ w hw => hw.reord [] 1 rfl) (fun h1 h2 => by cases h2) rfl (by kernel_rfl) fun _ => ?_
                    refine WK.nil (by kernel_rfl) ?_
                    exact fun a w s => And.intro rfl (Sat.mk (s.env.le ⟨rfl, rfl, rfl, trivial⟩) (s.mem))
                  refine WKa.x rfl (OpV.x (R.idxT rfl rfl el40 (RdT.at 0 rfl) h234)) (fun _ w hw => hw.reord [] 1 rfl) (fun _ _ _ w hw => hw.reord [] 1 rfl) rfl rfl (by kernel_rfl) (fun _ => ?_) ?_
                  · refine WK.among (is := [7, 11]) (by kernel_rfl) rfl ?_
                    refine WKa.x rfl (OpV.x (R.load rfl (At.elT (RdT.at 0 rfl) (by decide) h233) (Lies.one _ ia50))) (fun _ w hw => hw.reord [] 1 rfl) (fun _ _ _ w hw => hw.reord [] 1 rfl) rfl rfl (by kernel_rfl) (fun _ => ?_) ?_
                    · refine WK.x (i := 11) (by kernel_rfl) rfl (OpV.x (R.load rfl (At.elT (RdT.at 0 rfl) (by decide) h234) (Lies.one _ ia50))) (fun _ w hw => hw.reord [] 1 rfl) (fun _ _ _ w hw => hw.reord [] 1 rfl) rfl rfl (by kernel_rfl) fun _ => ?_
                      refine WK.x (i := 12) (by kernel_rfl) rfl (OpV.x (R.idxT rfl rfl el40 (RdT.at 0 rfl) h234)) (fun _ w hw => hw.reord [] 1 rfl) (fun _ _ _ w hw => hw.reord [] 1 rfl) rfl rfl (by kernel_rfl) fun _ => ?_
                      refine WK.x0 (i := 13) (by kernel_rfl) rfl (R.storeT (i := 0) (gl o64.1 p1) rfl rfl rfl (fits_int sz50) (by decide) h234) (fun _ w hw => hw.reord [] 1 rfl) (fun h1 h2 => by cases h1) rfl (by kernel_rfl) fun _ => ?_
                      refine WK.x (i := 14) (by kernel_rfl) rfl (OpV.x (R.idxT rfl rfl el40 (RdT.at 0 rfl) h235)) (fun _ w hw => hw.reord [] 1 rfl) (fun h1 h2 => by cases h2) rfl rfl (by kernel_rfl) fun _ => ?_
                      refine WK.x0 (i := 15) (by kernel_rfl) rfl (R.storeT (i := 0) (gl o64.1 o64.2) rfl rfl rfl (fits_int sz50) (by decide) h235) (fun _ w hw => hw.reord [] 1 rfl) (fun h1 h2 => by cases h2) rfl (by kernel_rfl) fun _ => ?_
                      refine WK.nil (by kernel_rfl) ?_
                      exact fun a w s => And.intro rfl (Sat.mk (s.env.le ⟨rfl, rfl, rfl, trivial⟩) (s.mem))
                    refine WKa.x rfl (OpV.x (R.load rfl (At.elT (RdT.at 0 rfl) (by decide) h234) (Lies.one _ ia50))) (fun _ w hw => hw.reord [] 1 rfl) (fun _ _ _ w hw => hw.reord [] 1 rfl) rfl rfl (by kernel_rfl) (fun _ => ?_) ?_
                    · refine WK.x (i := 7) (by kernel_rfl) rfl (OpV.x (R.load rfl (At.elT (RdT.at 0 rfl) (by decide) h233) (Lies.one _ ia50))) (fun _ w hw => hw.reord [] 1 rfl) (fun _ _ _ w hw => hw.reord [] 1 rfl) rfl rfl (by kernel_rfl) fun _ => ?_
                      refine WK.x (i := 12) (by kernel_rfl) rfl (OpV.x (R.idxT rfl rfl el40 (RdT.at 0 rfl) h234)) (fun _ w hw => hw.reord [] 1 rfl) (fun _ _ _ w hw => hw.reord [] 1 rfl) rfl rfl (by kernel_rfl) fun _ => ?_
                      refine WK.x0 (i := 13) (by kernel_rfl) rfl (R.storeT (i := 0) (gl o64.1 p1) rfl rfl rfl (fits_int sz50) (by decide) h234) (fun _ w hw => hw.reord [] 1 rfl) (fun h1 h2 => by cases h1) rfl (by kernel_rfl) fun _ => ?_
                      refine WK.x (i := 14) (by kernel_rfl) rfl (OpV.x (R.idxT rfl rfl el40 (RdT.at 0 rfl) h235)) (fun _ w hw => hw.reord [] 1 rfl) (fun h1 h2 => by cases h2) rfl rfl (by kernel_rfl) fun _ => ?_
                      refine WK.x0 (i := 15) (by kernel_rfl) rfl (R.storeT (i := 0) (gl o64.1 o64.2) rfl rfl rfl (fits_int sz50) (by decide) h235) (fun _ w hw => hw.reord [] 1 rfl) (fun h1 h2 => by cases h2) rfl (by kernel_rfl) fun _ => ?_
                      refine WK.nil (by kernel_rfl) ?_
                      exact fun a w s => And.intro rfl (Sat.mk (s.env.le ⟨rfl, rfl, rfl, trivial⟩) (s.mem))
                    exact WKa.nil
                  exact WKa.nil
                refine WKa.x rfl (OpV.x (R.idxT rfl rfl el40 (RdT.at 0 rfl) h234)) (fun _ w hw => hw.reord [] 1 rfl) (fun _ _ _ w hw => hw.reord [] 1 rfl) rfl rfl (by kernel_rfl) (fun _ => ?_) ?_
                · refine WK.among (is := [6, 11]) (by kernel_rfl) rfl ?_
                  refine WKa.x rfl (OpV.x (R.idxT rfl rfl el40 (RdT.at 0 rfl) h233)) (fun _ w hw => hw.reord [] 1 rfl) (fun _ _ _ w hw => hw.reord [] 1 rfl) rfl rfl (by kernel_rfl) (fun _ => ?_) ?_
                  · refine WK.among (is := [7, 11]) (by kernel_rfl) rfl ?_
                    refine WKa.x rfl (OpV.x (R.load rfl (At.elT (RdT.at 0 rfl) (by decide) h233) (Lies.one _ ia50))) (fun _ w hw => hw.reord [] 1 rfl) (fun _ _ _ w hw => hw.reord [] 1 rfl) rfl rfl (by kernel_rfl) (fun _ => ?_) ?_
                    · refine WK.x (i := 11) (by kernel_rfl) rfl (OpV.x (R.load rfl (At.elT (RdT.at 0 rfl) (by decide) h234) (Lies.one _ ia50))) (fun _ w hw => hw.reord [] 1 rfl) (fun _ _ _ w hw => hw.reord [] 1 rfl) rfl rfl (by kernel_rfl) fun _ => ?_
                      refine WK.x (i := 12) (by kernel_rfl) rfl (OpV.x (R.idxT rfl rfl el40 (RdT.at 0 rfl) h234)) (fun _ w hw => hw.reord [] 1 rfl) (fun _ _ _ w hw => hw.reord [] 1 rfl) rfl rfl (by kernel_rfl) fun _ => ?_
                      refine WK.x0 (i := 13) (by kernel_rfl) rfl (R.storeT (i := 0) (gl o64.1 p1) rfl rfl rfl (fits_int sz50) (by decide) h234) (fun _ w hw => hw.reord [] 1 rfl) (fun h1 h2 => by cases h1) rfl (by kernel_rfl) fun _ => ?_
                      refine WK.x (i := 14) (by kernel_rfl) rfl (OpV.x (R.idxT rfl rfl el40 (RdT.at 0 rfl) h235)) (fun _ w hw => hw.reord [] 1 rfl) (fun h1 h2 => by cases h2) rfl rfl (by kernel_rfl) fun _ => ?_
                      refine WK.x0 (i := 15) (by kernel_rfl) rfl (R.storeT (i := 0) (gl o64.1 o64.2) rfl rfl rfl (fits_int sz50) (by decide) h235) (fun _ w hw => hw.reord [] 1 rfl) (fun h1 h2 => by cases h2) rfl (by kernel_rfl) fun _ => ?_
                      refine WK.nil (by kernel_rfl) ?_
                      exact fun a w s => And.intro rfl (Sat.mk (s.env.le ⟨rfl, rfl, rfl, trivial⟩) (s.mem))
                    refine WKa.x rfl (OpV.x (R.load rfl (At.elT (RdT.at 0 rfl) (by decide) h234) (Lies.one _ ia50))) (fun _ w hw => hw.reord [] 1 rfl) (fun _ _ _ w hw => hw.reord [] 1 rfl) rfl rfl (by kernel_rfl) (fun _ => ?_) ?_
                    · refine WK.x (i := 7) (by kernel_rfl) rfl (OpV.x (R.load rfl (At.elT (RdT.at 0 rfl) (by decide) h233) (Lies.one _ ia50))) (fun _ w hw => hw.reord [] 1 rfl) (fun _ _ _ w hw => hw.reord [] 1 rfl) rfl rfl (by kernel_rfl) fun _ => ?_
                      refine WK.x (i := 12) (by kernel_rfl) rfl (OpV.x (R.idxT rfl rfl el40 (RdT.at 0 rfl) h234)) (fun _ w hw => hw.reord [] 1 rfl) (fun _ _ _ w hw => hw.reord [] 1 rfl) rfl rfl (by kernel_rfl) fun _ => ?_
                      refine WK.x0 (i := 13) (by kernel_rfl) rfl (R.storeT (i := 0) (gl o64.1 p1) rfl rfl rfl (fits_int sz50) (by decide) h234) (fun _ w hw => hw.reord [] 1 rfl) (fun h1 h2 => by cases h1) rfl (by kernel_rfl) fun _ => ?_
                      refine WK.x (i := 14) (by kernel_rfl) rfl (OpV.x (R.idxT rfl rfl el40 (RdT.at 0 rfl) h235)) (fun _ w hw => hw.reord [] 1 rfl) (fun h1 h2 => by cases h2) rfl rfl (by kernel_rfl) fun _ => ?_
                      refine WK.x0 (i := 15) (by kernel_rfl) rfl (R.storeT (i := 0) (gl o64.1 o64.2) rfl rfl rfl (fits_int sz50) (by decide) h235) (fun _ w hw => hw.reord [] 1 rfl) (fun h1 h2 => by cases h2) rfl (by kernel_rfl) fun _ => ?_
                      refine WK.nil (by kernel_rfl) ?_
                      exact fun a w s => And.intro rfl (Sat.mk (s.env.le ⟨rfl, rfl, rfl, trivial⟩) (s.mem))
                    exact WKa.nil
                  refine WKa.x rfl (OpV.x (R.load rfl (At.elT (RdT.at 0 rfl) (by decide) h234) (Lies.one _ ia50))) (fun _ w hw => hw.reord [] 1 rfl) (fun _ _ _ w hw => hw.reord [] 1 rfl) rfl rfl (by kernel_rfl) (fun _ => ?_) ?_
                  · refine WK.x (i := 6) (by kernel_rfl) rfl (OpV.x (R.idxT rfl rfl el40 (RdT.at 0 rfl) h233)) (fun _ w hw => hw.reord [] 1 rfl) (fun _ _ _ w hw => hw.reord [] 1 rfl) rfl rfl (by kernel_rfl) fun _ => ?_
                    refine WK.x (i := 7) (by kernel_rfl) rfl (OpV.x (R.load rfl (At.elT (RdT.at 0 rfl) (by decide) h233) (Lies.one _ ia50))) (fun _ w hw => hw.reord [] 1 rfl) (fun _ _ _ w hw => hw.reord [] 1 rfl) rfl rfl (by kernel_rfl) fun _ => ?_
                    refine WK.x (i := 12) (by kernel_rfl) rfl (OpV.x (R.idxT rfl rfl el40 (RdT.at 0 rfl) h234)) (fun _ w hw => hw.reord [] 1 rfl) (fun _ _ _ w hw => hw.reord [] 1 rfl) rfl rfl (by kernel_rfl) fun _ => ?_
                    refine WK.x0 (i := 13) (by kernel_rfl) rfl (R.storeT (i := 0) (gl o64.1 p1) rfl rfl rfl (fits_int sz50) (by decide) h234) (fun _ w hw => hw.reord [] 1 rfl) (fun h1 h2 => by cases h1) rfl (by kernel_rfl) fun _ => ?_
                    refine WK.x (i := 14) (by kernel_rfl) rfl (OpV.x (R.idxT rfl rfl el40 (RdT.at 0 rfl) h235)) (fun _ w hw => hw.reord [] 1 rfl) (fun h1 h2 => by cases h2) rfl rfl (by kernel_rfl) fun _ => ?_
                    refine WK.x0 (i := 15) (by kernel_rfl) rfl (R.storeT (i := 0) (gl o64.1 o64.2) rfl rfl rfl (fits_int sz50) (by decide) h235) (fun _ w hw => hw.reord [] 1 rfl) (fun h1 h2 => by cases h2) rfl (by kernel_rfl) fun _ => ?_
                    refine WK.nil (by kernel_rfl) ?_
                    exact fun a w s => And.intro rfl (Sat.mk (s.env.le ⟨rfl, rfl, rfl, trivial⟩) (s.mem))
                  exact WKa.nil
                exact WKa.nil
              · refine Go2.sat ?_
                refine Go.then_ ?_
                refine W.seq ?_
                refine W.region ?_
                refine WL.q (R.move rfl) rfl ?_
                refine WL.q (R.assign rfl) rfl ?_
                refine WL.q (R.assign rfl) rfl ?_
                refine WL.nil ?_
                refine Go.then_ ?_
                refine W.ret ?_
                have he := Option.some.inj hm
                clear hm
                subst r
                exact Go.ret2 rfl (.tmp rfl) (.tmp rfl) (fun w hw => ⟨_, rfl, _, ⟨(), rfl, rfl⟩, hw⟩)
end Go.Proofs.Ytekmmbgbhjeoaaa
