/- Printed by a program of the claim's own: the walks: what the machine's calls answer is what the plain functions answer. No condition. -/
import Derived.Test.YtppjhbjcemnfmaaDoorYW1
set_option linter.unusedVariables false
set_option linter.unusedSimpArgs false
namespace Go.Proofs.YtppjhbjcemnfmaaDoor
open Go Go.Sx Go.Mi
set_option maxRecDepth 100000 in
theorem laws_eqInt64S_tr {G : World} {F : List Res} (q0 : Value) (p0 : (List Int)) (hp0 : RdT (Enc.int .i64) G F q0 p0) (q1 : Value) (p1 : (List Int)) (hp1 : RdT (Enc.int .i64) G F q1 p1) {r : Bool} (hm : laws_eqInt64S p0 p1 = some r) : Tr Tryd.prog G 9 [q0, q1] F (fun u K => ∃ x : Unit, u = (.bool r) ∧ K = F) := by
  unfold laws_eqInt64S at hm
  refine Tr.body Tryd.func9 rfl Tryd.ntmps9 ?_
  refine W.seq ?_
  refine W.region ?_
  refine WL.q (R.assign rfl) rfl ?_
  refine WL.nil ?_
  refine Go.then_ ?_
  refine W.seq ?_
  refine W.seq ?_
  refine W.region ?_
  refine WL.q (R.move rfl) rfl ?_
  refine WL.q (R.lenT rfl el26 (RdT.lift 0 rfl hp0)) rfl ?_
  refine WL.q (R.move rfl) rfl ?_
  refine WL.q (R.lenT rfl el26 (RdT.lift 0 rfl hp1)) rfl ?_
  refine WL.q (R.neq rfl rfl) rfl ?_
  refine WL.nil ?_
  refine Go.then_ ?_
  by_cases h1 : (p0.length : Int) ≠ (p1.length : Int)
  · rw [if_pos h1] at hm
    refine W.cond_t rfl (decide_eq_true h1) ?_
    refine W.seq ?_
    refine W.region ?_
    refine WL.q (R.assign rfl) rfl ?_
    refine WL.nil ?_
    refine Go.then_ ?_
    refine W.ret ?_
    refine Go.r_then ?_
    have he := Option.some.inj hm
    clear hm
    subst r
    exact Go.ret1 rfl (.tmp rfl) (fun w hw => ⟨_, rfl, _, ⟨(), rfl, rfl⟩, hw⟩)
  · rw [if_neg h1] at hm
    refine W.cond_f rfl (decide_eq_false h1) ?_
    refine W.skip ?_
    refine Go.then_ ?_
    refine W.seq ?_
    refine W.seq ?_
    refine W.region ?_
    refine WL.q (R.assign rfl) rfl ?_
    refine WL.nil ?_
    refine Go.then_ ?_
    refine W.block ?_
    obtain ⟨o3, hlo3, hm⟩ := of_bind hm
    refine W.loopx (fun (s2 : Int) a w => Sat G F 26 [(0, q0), (1, q1), (4, (.bool false)), (5, (.int .i64 s2))] a w) (fun (o3 : ((Unit) ⊕ (Unit))) e a w => (Sum.elim (fun o3 => And (e = (.exit 0)) (Sat G F 26 [(4, (.bool false))] a w)) (fun o3 => And (e = .ret) (Sat G F 26 [(4, (.bool false))] a w))) o3) hlo3 (fun a w s => (Sat.mk (s.env.le ⟨rfl, rfl, rfl, rfl, trivial⟩) (s.mem))) ?_ ?_
    · clear hm
      intro s2 x hm a w hJ
      have s := hJ
      unfold laws_eqInt64S_L1 at hm
      refine W.use s ?_
      refine W.seq ?_
      refine W.seq ?_
      refine W.region ?_
      refine WL.q (R.move rfl) rfl ?_
      refine WL.q (R.move rfl) rfl ?_
      refine WL.q (R.lenT rfl el26 (RdT.lift 0 rfl hp0)) rfl ?_
      refine WL.q (R.lss rfl rfl) rfl ?_
      refine WL.nil ?_
      refine Go.then_ ?_
      by_cases h12 : s2 < (p0.length : Int)
      · rw [if_pos h12] at hm
        refine W.cond_t rfl (decide_eq_true h12) ?_
        refine W.skip ?_
        refine Go.then_ ?_
        refine W.seq ?_
        refine W.block ?_
        refine W.seq ?_
        obtain ⟨h13, hm⟩ := of_guard hm
        obtain ⟨h14, hm⟩ := of_guard hm
        refine W.join1 (fun a w => Sat G F 26 [(0, q0), (1, q1), (4, (.bool false)), (5, (.int .i64 s2)), (25, (.bool (decide (gl p0 s2 ≠ gl p1 s2))))] a w) ?_ ?_
        · refine W.draw (n := 9) F F 9 (by kernel_rfl) rfl rfl (fun w hw => hw) (fun w hw => hw.drop 0) ?_
          refine WK.q (i := 0) rfl rfl (by kernel_rfl) calm_n (R.move rfl) rfl rfl ?_
          refine WK.q (i := 1) rfl rfl (by kernel_rfl) calm_n (R.move rfl) rfl rfl ?_
          refine WK.q (i := 2) rfl rfl (by kernel_rfl) calm_n (R.idxT rfl rfl el26 (RdT.lift 0 rfl hp0) h13) rfl rfl ?_
          refine WK.q (i := 3) rfl rfl (by kernel_rfl) calm_n (R.load rfl (At.elT (RdT.lift 0 rfl hp0) (by decide) h13) (Lies.one _ ia2)) rfl rfl ?_
          refine WK.q (i := 4) rfl rfl (by kernel_rfl) calm_n (R.move rfl) rfl rfl ?_
          refine WK.x (i := 5) (by kernel_rfl) rfl (OpV.x (R.move rfl)) (fun _ w hw => hw) (fun _ _ _ w hw => hw) rfl rfl (by kernel_rfl) fun _ => ?_
          refine WK.x (i := 6) (by kernel_rfl) rfl (OpV.x (R.idxT rfl rfl el26 (RdT.lift 0 rfl hp1) h14)) (fun _ w hw => hw) (fun _ _ _ w hw => hw) rfl rfl (by kernel_rfl) fun _ => ?_
          refine WK.x (i := 7) (by kernel_rfl) rfl (OpV.x (R.load rfl (At.elT (RdT.lift 0 rfl hp1) (by decide) h14) (Lies.one _ ia2))) (fun _ w hw => hw) (fun _ _ _ w hw => hw) rfl rfl (by kernel_rfl) fun _ => ?_
          refine WK.x (i := 8) (by kernel_rfl) rfl (OpV.x (R.neq rfl rfl)) (fun _ w hw => hw) (fun _ _ _ w hw => hw) rfl rfl (by kernel_rfl) fun _ => ?_
          refine WK.nil (by kernel_rfl) ?_
          exact fun a w s => And.intro rfl (Sat.mk (s.env.le ⟨rfl, rfl, rfl, rfl, rfl, trivial⟩) (s.mem))
        · refine Go2.sat ?_
          refine Go.then_ ?_
          by_cases h15 : gl p0 s2 ≠ gl p1 s2
          · rw [if_pos h15] at hm
            refine W.cond_t rfl (decide_eq_true h15) ?_
            refine W.seq ?_
            refine W.region ?_
            refine WL.q (R.assign rfl) rfl ?_
            refine WL.nil ?_
            refine Go.then_ ?_
            refine W.ret ?_
            refine Go.r_block ?_
            refine Go.r_then ?_
            have he := Option.some.inj hm
            clear hm
            subst x
            exact fun a w s => Exists.intro _ (And.intro rfl (And.intro rfl (Sat.mk (s.env.le ⟨rfl, trivial⟩) (s.mem))))
          · rw [if_neg h15] at hm
            refine W.cond_f rfl (decide_eq_false h15) ?_
            refine W.skip ?_
            refine Go.n_block ?_
            refine Go.then_ ?_
            refine W.region ?_
            refine WL.q (R.move rfl) rfl ?_
            refine WL.q (R.add rfl rfl) rfl ?_
            refine WL.q (R.assign rfl) rfl ?_
            refine WL.nil ?_
            have he := Option.some.inj hm
            clear hm
            subst x
            exact fun a w s => Exists.intro _ (And.intro rfl (Sat.mk (s.env.le ⟨rfl, rfl, rfl, rfl, trivial⟩) (s.mem)))
      · rw [if_neg h12] at hm
        refine W.cond_f rfl (decide_eq_false h12) ?_
        refine W.exit ?_
        refine Go.x_then ?_
        have he := Option.some.inj hm
        clear hm
        subst x
        exact fun a w s => Exists.intro _ (And.intro rfl (And.intro rfl (Sat.mk (s.env.le ⟨rfl, trivial⟩) (s.mem))))
    · intro e a w hJ
      rcases o3 with o3 | o3
      · simp only [Sum.elim_inl, Sum.elim_inr] at hm
        obtain ⟨rfl, s⟩ := hJ
        refine Go.use s ?_
        refine Go.x_block ?_
        refine Go.then_ ?_
        refine W.seq ?_
        refine W.region ?_
        refine WL.q (R.assign rfl) rfl ?_
        refine WL.nil ?_
        refine Go.then_ ?_
        refine W.ret ?_
        have he := Option.some.inj hm
        clear hm
        subst r
        exact Go.ret1 rfl (.tmp rfl) (fun w hw => ⟨_, rfl, _, ⟨(), rfl, rfl⟩, hw⟩)
      · simp only [Sum.elim_inl, Sum.elim_inr] at hm
        obtain ⟨rfl, s⟩ := hJ
        refine Go.use s ?_
        refine Go.r_block ?_
        refine Go.r_then ?_
        have he := Option.some.inj hm
        clear hm
        subst r
        exact Go.ret1 rfl (.tmp rfl) (fun w hw => ⟨_, rfl, _, ⟨(), rfl, rfl⟩, hw⟩)
set_option maxRecDepth 100000 in
theorem laws_markInt64S_tr {G : World} {F : List Res} (q0 : Value) (p0 : (List Int)) (p1 : Int) {r : (Int × (List Int))} (hm : laws_markInt64S p0 p1 = some r) : Tr Tryd.prog G 10 [q0, (.int .i64 p1)] ((slT (Enc.int .i64) q0 p0) :: F) (fun u K => ∃ x : Unit, u = (.int .i64 r.1) ∧ K = ((slT (Enc.int .i64) q0 r.2) :: F)) := by
  unfold laws_markInt64S at hm
  refine Tr.body Tryd.func10 rfl Tryd.ntmps10 ?_
  refine W.seq ?_
  refine W.region ?_
  refine WL.q (R.assign rfl) rfl ?_
  refine WL.nil ?_
  refine Go.then_ ?_
  refine W.seq ?_
  refine W.seq ?_
  refine W.region ?_
  refine WL.q (R.assign rfl) rfl ?_
  refine WL.nil ?_
  refine Go.then_ ?_
  refine W.block ?_
  obtain ⟨o2, hlo2, hm⟩ := of_bind hm
  refine W.loopx (fun (s1 : ((List Int) × Int × Int)) a w => Sat G ((slT (Enc.int .i64) q0 s1.1) :: F) 19 [(0, q0), (1, (.int .i64 s1.2.1)), (4, (.int .i64 0)), (5, (.int .i64 s1.2.2))] a w) (fun (o2 : ((List Int) × Int)) e a w => And (e = (.exit 0)) (Sat G ((slT (Enc.int .i64) q0 o2.1) :: F) 19 [(1, (.int .i64 o2.2)), (4, (.int .i64 0))] a w)) hlo2 (fun a w s => (Sat.mk (s.env.le ⟨rfl, rfl, rfl, rfl, trivial⟩) (s.mem))) ?_ ?_
  · clear hm
    intro s1 x hm a w hJ
    have s := hJ
    unfold laws_markInt64S_L1 at hm
    refine W.use s ?_
    refine W.seq ?_
    refine W.seq ?_
    refine W.region ?_
    refine WL.q (R.move rfl) rfl ?_
    refine WL.q (R.move rfl) rfl ?_
    refine WL.q (R.lenT rfl el26 (RdT.at 0 rfl)) rfl ?_
    refine WL.q (R.lss rfl rfl) rfl ?_
    refine WL.nil ?_
    refine Go.then_ ?_
    by_cases h7 : s1.2.2 < (s1.1.length : Int)
    · rw [if_pos h7] at hm
      refine W.cond_t rfl (decide_eq_true h7) ?_
      refine W.skip ?_
      refine Go.then_ ?_
      refine W.seq ?_
      refine W.block ?_
      refine W.seq ?_
      refine W.region ?_
      refine WL.q (R.move rfl) rfl ?_
      refine WL.q (R.move rfl) rfl ?_
      refine WL.q (R.move rfl) rfl ?_
      obtain ⟨h8, hm⟩ := of_guard hm
      refine WL.q (R.idxT rfl rfl el26 (RdT.at 0 rfl) h8) rfl ?_
      refine WL.x0 (R.storeT (i := 0) s1.2.1 rfl rfl rfl (fits_int sz2) (by decide) h8) fun _ => ?_
      refine WL.nil ?_
      refine Go.then_ ?_
      refine W.region ?_
      refine WL.q (R.move rfl) rfl ?_
      refine WL.q (R.add rfl rfl) rfl ?_
      refine WL.q (R.assign rfl) rfl ?_
      refine WL.nil ?_
      refine Go.n_block ?_
      refine Go.then_ ?_
      refine W.region ?_
      refine WL.q (R.move rfl) rfl ?_
      refine WL.q (R.add rfl rfl) rfl ?_
      refine WL.q (R.assign rfl) rfl ?_
      refine WL.nil ?_
      have he := Option.some.inj hm
      clear hm
      subst x
      exact fun a w s => Exists.intro _ (And.intro rfl (Sat.mk (s.env.le ⟨rfl, rfl, rfl, rfl, trivial⟩) (s.mem)))
    · rw [if_neg h7] at hm
      refine W.cond_f rfl (decide_eq_false h7) ?_
      refine W.exit ?_
      refine Go.x_then ?_
      have he := Option.some.inj hm
      clear hm
      subst x
      exact fun a w s => Exists.intro _ (And.intro rfl (And.intro rfl (Sat.mk (s.env.le ⟨rfl, rfl, trivial⟩) (s.mem))))
  · intro e a w hJ
    obtain ⟨rfl, s⟩ := hJ
    refine Go.use s ?_
    refine Go.x_block ?_
    refine Go.then_ ?_
    refine W.seq ?_
    refine W.region ?_
    refine WL.q (R.move rfl) rfl ?_
    refine WL.q (R.assign rfl) rfl ?_
    refine WL.nil ?_
    refine Go.then_ ?_
    refine W.ret ?_
    have he := Option.some.inj hm
    clear hm
    subst r
    exact Go.ret1 rfl (.tmp rfl) (fun w hw => ⟨_, rfl, _, ⟨(), rfl, rfl⟩, hw⟩)
set_option maxRecDepth 100000 in
theorem laws_heldInt64S_tr {G : World} {F : List Res} (q0 : Value) (p0 : (List Int)) (hp0 : RdT (Enc.int .i64) G F q0 p0) (p1 : Int) {r : Int} (hm : laws_heldInt64S p0 p1 = some r) : Tr Tryd.prog G 11 [q0, (.int .i64 p1)] F (fun u K => ∃ x : Unit, u = (.int .i64 r) ∧ K = F) := by
  unfold laws_heldInt64S at hm
  refine Tr.body Tryd.func11 rfl Tryd.ntmps11 ?_
  refine W.seq ?_
  refine W.region ?_
  refine WL.q (R.assign rfl) rfl ?_
  refine WL.nil ?_
  refine Go.then_ ?_
  refine W.seq ?_
  refine W.seq ?_
  refine W.region ?_
  refine WL.q (R.assign rfl) rfl ?_
  refine WL.nil ?_
  refine Go.then_ ?_
  refine W.block ?_
  obtain ⟨o2, hlo2, hm⟩ := of_bind hm
  refine W.loopx (fun (s1 : (Int × Int)) a w => Sat G F 21 [(0, q0), (1, (.int .i64 s1.1)), (4, (.int .i64 0)), (5, (.int .i64 s1.2))] a w) (fun (o2 : ((Int) ⊕ (Unit))) e a w => (Sum.elim (fun o2 => And (e = (.exit 0)) (Sat G F 21 [(1, (.int .i64 o2)), (4, (.int .i64 0))] a w)) (fun o2 => And (e = .ret) (Sat G F 21 [(4, (.int .i64 (-1)))] a w))) o2) hlo2 (fun a w s => (Sat.mk (s.env.le ⟨rfl, rfl, rfl, rfl, trivial⟩) (s.mem))) ?_ ?_
  · clear hm
    intro s1 x hm a w hJ
    have s := hJ
    unfold laws_heldInt64S_L1 at hm
    refine W.use s ?_
    refine W.seq ?_
    refine W.seq ?_
    refine W.region ?_
    refine WL.q (R.move rfl) rfl ?_
    refine WL.q (R.move rfl) rfl ?_
    refine WL.q (R.lenT rfl el26 (RdT.lift 0 rfl hp0)) rfl ?_
    refine WL.q (R.lss rfl rfl) rfl ?_
    refine WL.nil ?_
    refine Go.then_ ?_
    by_cases h9 : s1.2 < (p0.length : Int)
    · rw [if_pos h9] at hm
      refine W.cond_t rfl (decide_eq_true h9) ?_
      refine W.skip ?_
      refine Go.then_ ?_
      refine W.seq ?_
      refine W.block ?_
      refine W.seq ?_
      refine W.seq ?_
      refine W.region ?_
      refine WL.q (R.move rfl) rfl ?_
      refine WL.q (R.move rfl) rfl ?_
      obtain ⟨h10, hm⟩ := of_guard hm
      refine WL.q (R.idxT rfl rfl el26 (RdT.lift 0 rfl hp0) h10) rfl ?_
      refine WL.q (R.load rfl (At.elT (RdT.lift 0 rfl hp0) (by decide) h10) (Lies.one _ ia2)) rfl ?_
      refine WL.q (R.move rfl) rfl ?_
      refine WL.q (R.neq rfl rfl) rfl ?_
      refine WL.nil ?_
      refine Go.then_ ?_
      by_cases h11 : gl p0 s1.2 ≠ s1.1
      · rw [if_pos h11] at hm
        refine W.cond_t rfl (decide_eq_true h11) ?_
        refine W.seq ?_
        refine W.region ?_
        refine WL.q (R.assign rfl) rfl ?_
        refine WL.nil ?_
        refine Go.then_ ?_
        refine W.ret ?_
        refine Go.r_then ?_
        refine Go.r_block ?_
        refine Go.r_then ?_
        have he := Option.some.inj hm
        clear hm
        subst x
        exact fun a w s => Exists.intro _ (And.intro rfl (And.intro rfl (Sat.mk (s.env.le ⟨rfl, trivial⟩) (s.mem))))
      · rw [if_neg h11] at hm
        refine W.cond_f rfl (decide_eq_false h11) ?_
        refine W.skip ?_
        refine Go.then_ ?_
        refine W.region ?_
        refine WL.q (R.move rfl) rfl ?_
        refine WL.q (R.add rfl rfl) rfl ?_
        refine WL.q (R.assign rfl) rfl ?_
        refine WL.nil ?_
        refine Go.n_block ?_
        refine Go.then_ ?_
        refine W.region ?_
        refine WL.q (R.move rfl) rfl ?_
        refine WL.q (R.add rfl rfl) rfl ?_
        refine WL.q (R.assign rfl) rfl ?_
        refine WL.nil ?_
        have he := Option.some.inj hm
        clear hm
        subst x
        exact fun a w s => Exists.intro _ (And.intro rfl (Sat.mk (s.env.le ⟨rfl, rfl, rfl, rfl, trivial⟩) (s.mem)))
    · rw [if_neg h9] at hm
      refine W.cond_f rfl (decide_eq_false h9) ?_
      refine W.exit ?_
      refine Go.x_then ?_
      have he := Option.some.inj hm
      clear hm
      subst x
      exact fun a w s => Exists.intro _ (And.intro rfl (And.intro rfl (Sat.mk (s.env.le ⟨rfl, rfl, trivial⟩) (s.mem))))
  · intro e a w hJ
    rcases o2 with o2 | o2
    · simp only [Sum.elim_inl, Sum.elim_inr] at hm
      obtain ⟨rfl, s⟩ := hJ
      refine Go.use s ?_
      refine Go.x_block ?_
      refine Go.then_ ?_
      refine W.seq ?_
      refine W.region ?_
      refine WL.q (R.move rfl) rfl ?_
      refine WL.q (R.assign rfl) rfl ?_
      refine WL.nil ?_
      refine Go.then_ ?_
      refine W.ret ?_
      have he := Option.some.inj hm
      clear hm
      subst r
      exact Go.ret1 rfl (.tmp rfl) (fun w hw => ⟨_, rfl, _, ⟨(), rfl, rfl⟩, hw⟩)
    · simp only [Sum.elim_inl, Sum.elim_inr] at hm
      obtain ⟨rfl, s⟩ := hJ
      refine Go.use s ?_
      refine Go.r_block ?_
      refine Go.r_then ?_
      have he := Option.some.inj hm
      clear hm
      subst r
      exact Go.ret1 rfl (.tmp rfl) (fun w hw => ⟨_, rfl, _, ⟨(), rfl, rfl⟩, hw⟩)
set_option maxRecDepth 100000 in
theorem laws_FnExactQuotientLoop_tr {G : World} {F : List Res} (hg1 : Gl G 1 (((Enc.int .u8).arr 64).cells tab_1)) (p0 : S_Square) (q1 : Value) (p1 : (List Int)) (hp1 : RdT (Enc.int .i64) G F q1 p1) {r : Bool} (hm : laws_FnExactQuotientLoop p0 p1 = some r) : Tr Tryd.prog G 3 [(.agg (e_S_Square.cells p0).toArray), q1] F (fun u K => ∃ x : Unit, u = (.bool r) ∧ K = F) := by
  unfold laws_FnExactQuotientLoop at hm
  refine Tr.body Tryd.func3 rfl Tryd.ntmps3 ?_
  refine W.seq ?_
  refine W.region ?_
  refine WL.x (R.box rfl (cells_agg _)) rfl fun b1 => ?_
  refine WL.q (R.assign rfl) rfl ?_
  refine WL.nil ?_
  refine Go.then_ ?_
  refine W.seq ?_
  refine W.seq ?_
  refine W.region ?_
  refine WL.q (R.move rfl) rfl ?_
  refine WL.q (R.lenT rfl el26 (RdT.lift 1 rfl hp1)) rfl ?_
  refine WL.q (R.gtr rfl rfl) rfl ?_
  refine WL.nil ?_
  refine Go.then_ ?_
  by_cases h2 : 1048576 < (p1.length : Int)
  · rw [if_pos h2] at hm
    refine W.cond_t rfl (decide_eq_true h2) ?_
    refine W.seq ?_
    refine W.region ?_
    refine WL.q (R.assign rfl) rfl ?_
    refine WL.nil ?_
    refine Go.then_ ?_
    refine W.ret ?_
    refine Go.r_then ?_
    have he := Option.some.inj hm
    clear hm
    subst r
    exact Go.ret1 rfl (.tmp rfl) (fun w hw => ⟨_, rfl, _, ⟨(), rfl, rfl⟩, hw.reord [] 1 rfl⟩)
  · rw [if_neg h2] at hm
    refine W.cond_f rfl (decide_eq_false h2) ?_
    refine W.skip ?_
    refine Go.then_ ?_
    refine W.seq ?_
    refine W.region ?_
    refine WL.q (R.load rfl (At.bx 0 rfl (Sub.refl _)) (lies_agg e_S_Square p0 ia25 sz25)) rfl ?_
    obtain ⟨o3, h4, hm⟩ := of_bind hm
    refine WL.x (R.call rfl en5 (laws_toSquare_tr p0 h4)) rfl fun x5 => ?_
    refine WL.q (R.move rfl) rfl ?_
    obtain ⟨o6, h7, hm⟩ := of_bind hm
    refine WL.x (R.call rfl en6 (laws_toInt64S_tr q1 p1 (RdT.lift 1 rfl hp1) h7)) rfl fun x8 => ?_
    obtain ⟨o9, h10, hm⟩ := of_bind hm
    refine WL.x (R.call rfl en4 (spec_QuotientLoop_tr o3 x8 o6 (RdT.at 0 rfl) h10)) rfl fun x11 => ?_
    refine WL.q (R.move rfl) rfl ?_
    refine WL.q (R.extract rfl rfl) rfl ?_
    refine WL.q (R.extract rfl rfl) rfl ?_
    refine WL.q (R.extract rfl rfl) rfl ?_
    refine WL.x (al29) rfl fun b12 => ?_
    refine WL.x0 (R.store_bx (i := 0) rfl rfl rfl (fits_agg e_S_Square o9.1 sz29) (Up.all e_S_Square _ _)) fun _ => ?_
    refine WL.q (R.assign rfl) rfl ?_
    refine WL.q (R.assign rfl) rfl ?_
    refine WL.nil ?_
    refine Go.then_ ?_
    refine W.seq ?_
    refine W.region ?_
    refine WL.q (R.move rfl) rfl ?_
    obtain ⟨o13, h14, hm⟩ := of_bind hm
    refine WL.x (R.call rfl en6 (laws_toInt64S_tr q1 p1 (RdT.lift 4 rfl hp1) h14)) rfl fun x15 => ?_
    refine WL.q (R.assign rfl) rfl ?_
    refine WL.nil ?_
    refine Go.then_ ?_
    refine W.seq ?_
    refine W.region ?_
    refine WL.q (R.load rfl (At.bx 4 rfl (Sub.refl _)) (lies_agg e_S_Square p0 ia25 sz25)) rfl ?_
    obtain ⟨o16, h17, hm⟩ := of_bind hm
    refine WL.x (R.call rfl en5 (laws_toSquare_tr p0 h17)) rfl fun x18 => ?_
    refine WL.q (R.move rfl) rfl ?_
    obtain ⟨o19, h20, hm⟩ := of_bind hm
    refine WL.x (R.call rfl en7 (impl_QuotientLoop_tr hg1 o16 x15 o13 (RdT.at 0 rfl) h20)) rfl fun x21 => ?_
    refine WL.q (R.move rfl) rfl ?_
    refine WL.q (R.extract rfl rfl) rfl ?_
    refine WL.q (R.extract rfl rfl) rfl ?_
    refine WL.q (R.extract rfl rfl) rfl ?_
    refine WL.x (al29) rfl fun b22 => ?_
    refine WL.x0 (R.store_bx (i := 0) rfl rfl rfl (fits_agg e_S_Square o19.1 sz29) (Up.all e_S_Square _ _)) fun _ => ?_
    refine WL.q (R.assign rfl) rfl ?_
    refine WL.q (R.assign rfl) rfl ?_
    refine WL.nil ?_
    refine Go.then_ ?_
    refine W.seq ?_
    obtain ⟨o31, hm, hmo31⟩ := of_bind hm
    refine W.seq ?_
    refine W.join (fun e a w => And (e = .normal) (Sat G ((bx b22 (e_S_Square.cells o19.1)) :: (slT (Enc.int .i64) x21 o19.2.1) :: (slT (Enc.int .i64) x15 o13) :: (bx b12 (e_S_Square.cells o9.1)) :: (slT (Enc.int .i64) x11 o9.2.1) :: (bx b1 (e_S_Square.cells p0)) :: F) 125 [(1, q1), (2, (.pointer (some ⟨b1, 0, none⟩))), (4, (.bool false)), (5, (.pointer (some ⟨b12, 0, none⟩))), (6, x11), (7, (.int .i64 o9.2.2)), (8, x15), (9, (.pointer (some ⟨b22, 0, none⟩))), (10, x21), (11, (.int .i64 o19.2.2)), (54, (.bool o31))] a w)) ?_ ?_
    · refine W.region ?_
      refine WL.q (R.load rfl (At.bx 0 rfl (Sub.refl _)) (lies_agg e_S_Square o19.1 ia29 sz29)) rfl ?_
      refine WL.q (R.load rfl (At.bx 3 rfl (Sub.refl _)) (lies_agg e_S_Square o9.1 ia29 sz29)) rfl ?_
      obtain ⟨o23, h24, hm⟩ := of_bind hm
      refine WL.x (R.call rfl en8 (laws_eqSquare_tr o19.1 o9.1 h24)) rfl fun x25 => ?_
      refine WL.q (R.not rfl) rfl ?_
      refine WL.q (R.move rfl) rfl ?_
      by_cases h26 : o23 = true
      · rw [if_pos h26] at hm
        refine WL.on rfl rfl (not_f h26) ?_
        refine WL.q (R.move rfl) rfl ?_
        refine WL.on rfl rfl (not_f h26) ?_
        refine WL.q (R.move rfl) rfl ?_
        obtain ⟨o27, h28, hm⟩ := of_bind hm
        refine WL.on rfl rfl (not_f h26) ?_
        refine WL.x (R.call rfl en9 (laws_eqInt64S_tr x21 o19.2.1 (RdT.at 1 rfl) x11 o9.2.1 (RdT.at 4 rfl) h28)) rfl fun x29 => ?_
        refine WL.on rfl rfl (not_f h26) ?_
        refine WL.q (R.not rfl) rfl ?_
        refine WL.q (R.pick_f rfl (not_f h26) rfl) rfl ?_
        refine WL.q (R.move rfl) rfl ?_
        by_cases h30 : o27 = true
        · rw [if_pos h30] at hm
          refine WL.on rfl rfl (not_f h30) ?_
          refine WL.q (R.move rfl) rfl ?_
          refine WL.on rfl rfl (not_f h30) ?_
          refine WL.q (R.move rfl) rfl ?_
          refine WL.on rfl rfl (not_f h30) ?_
          refine WL.q (R.neq rfl rfl) rfl ?_
          refine WL.q (R.pick_f rfl (not_f h30) rfl) rfl ?_
          refine WL.nil ?_
          have he := Option.some.inj hm
          clear hm
          subst o31
          exact fun a w s => And.intro rfl (Sat.mk (s.env.le ⟨rfl, rfl, rfl, rfl, rfl, rfl, rfl, rfl, rfl, rfl, rfl, trivial⟩) (s.mem.reord [0, 1, 2, 3, 4, 6] 7 rfl))
        · rw [if_neg h30] at hm
          refine WL.off rfl rfl (not_t (b_f h30)) rfl ?_
          refine WL.off rfl rfl (not_t (b_f h30)) rfl ?_
          refine WL.off rfl rfl (not_t (b_f h30)) rfl ?_
          refine WL.q (R.pick_t rfl (not_t (b_f h30)) rfl) rfl ?_
          refine WL.nil ?_
          have he := Option.some.inj hm
          clear hm
          subst o31
          exact fun a w s => And.intro rfl (Sat.mk (s.env.le ⟨rfl, rfl, rfl, rfl, rfl, rfl, rfl, rfl, rfl, rfl, rfl, trivial⟩) (s.mem.reord [0, 1, 2, 3, 4, 6] 7 rfl))
      · rw [if_neg h26] at hm
        refine WL.off rfl rfl (not_t (b_f h26)) rfl ?_
        refine WL.off rfl rfl (not_t (b_f h26)) rfl ?_
        refine WL.off rfl rfl (not_t (b_f h26)) rfl ?_
        refine WL.off rfl rfl (not_t (b_f h26)) rfl ?_
        refine WL.q (R.pick_t rfl (not_t (b_f h26)) rfl) rfl ?_
        refine WL.q (R.move rfl) rfl ?_
        refine WL.off rfl rfl rfl rfl ?_
        refine WL.off rfl rfl rfl rfl ?_
        refine WL.off rfl rfl rfl rfl ?_
        refine WL.q (R.pick_t rfl rfl rfl) rfl ?_
        refine WL.nil ?_
        have he := Option.some.inj hm
        clear hm
        subst o31
        exact fun a w s => And.intro rfl (Sat.mk (s.env.le ⟨rfl, rfl, rfl, rfl, rfl, rfl, rfl, rfl, rfl, rfl, rfl, trivial⟩) (s.mem.reord [0, 1, 2, 3, 4, 6] 7 rfl))
    · intro e a w hJ
      replace hm := hmo31
      clear hmo31
      obtain ⟨rfl, s⟩ := hJ
      refine Go.use s ?_
      refine Go.then_ ?_
      by_cases h32 : o31 = true
      · rw [if_pos h32] at hm
        refine W.cond_t rfl h32 ?_
        refine W.seq ?_
        refine W.region ?_
        refine WL.q (R.assign rfl) rfl ?_
        refine WL.nil ?_
        refine Go.then_ ?_
        refine W.ret ?_
        refine Go.r_then ?_
        have he := Option.some.inj hm
        clear hm
        subst r
        exact Go.ret1 rfl (.tmp rfl) (fun w hw => ⟨_, rfl, _, ⟨(), rfl, rfl⟩, hw.reord [] 6 rfl⟩)
      · rw [if_neg h32] at hm
        refine W.cond_f rfl (b_f h32) ?_
        refine W.skip ?_
        refine Go.then_ ?_
        refine W.seq ?_
        refine W.seq ?_
        refine W.region ?_
        refine WL.q (R.move rfl) rfl ?_
        refine WL.q (R.move rfl) rfl ?_
        obtain ⟨o33, h34, hm⟩ := of_bind hm
        refine WL.x (R.call rfl en6 (laws_toInt64S_tr q1 p1 (RdT.lift 6 rfl hp1) h34)) rfl fun x35 => ?_
        obtain ⟨o36, h37, hm⟩ := of_bind hm
        refine WL.x (R.call rfl en9 (laws_eqInt64S_tr x15 o13 (RdT.at 3 rfl) x35 o33 (RdT.at 0 rfl) h37)) rfl fun x38 => ?_
        refine WL.q (R.not rfl) rfl ?_
        refine WL.nil ?_
        refine Go.then_ ?_
        by_cases h39 : o36 = true
        · rw [if_pos h39] at hm
          refine W.cond_f rfl (not_f h39) ?_
          refine W.skip ?_
          refine Go.then_ ?_
          refine W.seq ?_
          refine W.region ?_
          refine WL.q (R.assign rfl) rfl ?_
          refine WL.nil ?_
          refine Go.then_ ?_
          refine W.seq ?_
          refine W.region ?_
          refine WL.q (R.move rfl) rfl ?_
          refine WL.q (R.move rfl) rfl ?_
          obtain ⟨o40, h41, hm⟩ := of_bind hm
          refine WL.x ((R.call rfl en10 (laws_markInt64S_tr (F := ((slT (Enc.int .i64) x35 o33) :: (bx b22 (e_S_Square.cells o19.1)) :: (slT (Enc.int .i64) x21 o19.2.1) :: (bx b12 (e_S_Square.cells o9.1)) :: (slT (Enc.int .i64) x11 o9.2.1) :: (bx b1 (e_S_Square.cells p0)) :: F)) x15 o13 1 h41)).weak (fun w hw => hw.reord [3, 0, 1, 2, 4, 5, 6] 7 rfl)) rfl fun x42 => ?_
          refine WL.q (R.assign rfl) rfl ?_
          refine WL.nil ?_
          refine Go.then_ ?_
          refine W.seq ?_
          obtain ⟨o52, hm, hmo52⟩ := of_bind hm
          refine W.seq ?_
          refine W.join (fun e a w => And (e = .normal) (Sat G ((slT (Enc.int .i64) x21 o19.2.1) :: (bx b12 (e_S_Square.cells o9.1)) :: (slT (Enc.int .i64) x11 o9.2.1) :: (bx b1 (e_S_Square.cells p0)) :: F) 125 [(1, q1), (2, (.pointer (some ⟨b1, 0, none⟩))), (4, (.bool false)), (5, (.pointer (some ⟨b12, 0, none⟩))), (6, x11), (7, (.int .i64 o9.2.2)), (10, x21), (81, (.bool o52))] a w)) ?_ ?_
          · refine W.region ?_
            refine WL.q (R.move rfl) rfl ?_
            refine WL.q (R.lss rfl rfl) rfl ?_
            refine WL.q (R.move rfl) rfl ?_
            by_cases h43 : o40.1 < 0
            · rw [if_pos h43] at hm
              refine WL.off rfl rfl (decide_eq_true h43) rfl ?_
              refine WL.off rfl rfl (decide_eq_true h43) rfl ?_
              refine WL.off rfl rfl (decide_eq_true h43) rfl ?_
              refine WL.off rfl rfl (decide_eq_true h43) rfl ?_
              refine WL.q (R.pick_t rfl (decide_eq_true h43) rfl) rfl ?_
              refine WL.q (R.move rfl) rfl ?_
              refine WL.off rfl rfl rfl rfl ?_
              refine WL.off rfl rfl rfl rfl ?_
              refine WL.off rfl rfl rfl rfl ?_
              refine WL.off rfl rfl rfl rfl ?_
              refine WL.q (R.pick_t rfl rfl rfl) rfl ?_
              refine WL.q (R.move rfl) rfl ?_
              refine WL.off rfl rfl rfl rfl ?_
              refine WL.off rfl rfl rfl rfl ?_
              refine WL.off rfl rfl rfl rfl ?_
              refine WL.q (R.pick_t rfl rfl rfl) rfl ?_
              refine WL.nil ?_
              have he := Option.some.inj hm
              clear hm
              subst o52
              exact fun a w s => And.intro rfl (Sat.mk (s.env.le ⟨rfl, rfl, rfl, rfl, rfl, rfl, rfl, rfl, trivial⟩) (s.mem.reord [3, 4, 5, 6] 7 rfl))
            · rw [if_neg h43] at hm
              refine WL.on rfl rfl (decide_eq_false h43) ?_
              refine WL.q (R.load rfl (At.bx 2 rfl (Sub.refl _)) (lies_agg e_S_Square o19.1 ia29 sz29)) rfl ?_
              refine WL.on rfl rfl (decide_eq_false h43) ?_
              refine WL.q (R.load rfl (At.bx 4 rfl (Sub.refl _)) (lies_agg e_S_Square o9.1 ia29 sz29)) rfl ?_
              obtain ⟨o44, h45, hm⟩ := of_bind hm
              refine WL.on rfl rfl (decide_eq_false h43) ?_
              refine WL.x (R.call rfl en8 (laws_eqSquare_tr o19.1 o9.1 h45)) rfl fun x46 => ?_
              refine WL.on rfl rfl (decide_eq_false h43) ?_
              refine WL.q (R.not rfl) rfl ?_
              refine WL.q (R.pick_f rfl (decide_eq_false h43) rfl) rfl ?_
              refine WL.q (R.move rfl) rfl ?_
              by_cases h47 : o44 = true
              · rw [if_pos h47] at hm
                refine WL.on rfl rfl (not_f h47) ?_
                refine WL.q (R.move rfl) rfl ?_
                refine WL.on rfl rfl (not_f h47) ?_
                refine WL.q (R.move rfl) rfl ?_
                obtain ⟨o48, h49, hm⟩ := of_bind hm
                refine WL.on rfl rfl (not_f h47) ?_
                refine WL.x (R.call rfl en9 (laws_eqInt64S_tr x21 o19.2.1 (RdT.at 3 rfl) x11 o9.2.1 (RdT.at 5 rfl) h49)) rfl fun x50 => ?_
                refine WL.on rfl rfl (not_f h47) ?_
                refine WL.q (R.not rfl) rfl ?_
                refine WL.q (R.pick_f rfl (not_f h47) rfl) rfl ?_
                refine WL.q (R.move rfl) rfl ?_
                by_cases h51 : o48 = true
                · rw [if_pos h51] at hm
                  refine WL.on rfl rfl (not_f h51) ?_
                  refine WL.q (R.move rfl) rfl ?_
                  refine WL.on rfl rfl (not_f h51) ?_
                  refine WL.q (R.move rfl) rfl ?_
                  refine WL.on rfl rfl (not_f h51) ?_
                  refine WL.q (R.neq rfl rfl) rfl ?_
                  refine WL.q (R.pick_f rfl (not_f h51) rfl) rfl ?_
                  refine WL.nil ?_
                  have he := Option.some.inj hm
                  clear hm
                  subst o52
                  exact fun a w s => And.intro rfl (Sat.mk (s.env.le ⟨rfl, rfl, rfl, rfl, rfl, rfl, rfl, rfl, trivial⟩) (s.mem.reord [3, 4, 5, 6] 7 rfl))
                · rw [if_neg h51] at hm
                  refine WL.off rfl rfl (not_t (b_f h51)) rfl ?_
                  refine WL.off rfl rfl (not_t (b_f h51)) rfl ?_
                  refine WL.off rfl rfl (not_t (b_f h51)) rfl ?_
                  refine WL.q (R.pick_t rfl (not_t (b_f h51)) rfl) rfl ?_
                  refine WL.nil ?_
                  have he := Option.some.inj hm
                  clear hm
                  subst o52
                  exact fun a w s => And.intro rfl (Sat.mk (s.env.le ⟨rfl, rfl, rfl, rfl, rfl, rfl, rfl, rfl, trivial⟩) (s.mem.reord [3, 4, 5, 6] 7 rfl))
              · rw [if_neg h47] at hm
                refine WL.off rfl rfl (not_t (b_f h47)) rfl ?_
                refine WL.off rfl rfl (not_t (b_f h47)) rfl ?_
                refine WL.off rfl rfl (not_t (b_f h47)) rfl ?_
                refine WL.off rfl rfl (not_t (b_f h47)) rfl ?_
                refine WL.q (R.pick_t rfl (not_t (b_f h47)) rfl) rfl ?_
                refine WL.q (R.move rfl) rfl ?_
                refine WL.off rfl rfl rfl rfl ?_
                refine WL.off rfl rfl rfl rfl ?_
                refine WL.off rfl rfl rfl rfl ?_
                refine WL.q (R.pick_t rfl rfl rfl) rfl ?_
                refine WL.nil ?_
                have he := Option.some.inj hm
                clear hm
                subst o52
                exact fun a w s => And.intro rfl (Sat.mk (s.env.le ⟨rfl, rfl, rfl, rfl, rfl, rfl, rfl, rfl, trivial⟩) (s.mem.reord [3, 4, 5, 6] 7 rfl))
          · intro e a w hJ
            replace hm := hmo52
            clear hmo52
            obtain ⟨rfl, s⟩ := hJ
            refine Go.use s ?_
            refine Go.then_ ?_
            by_cases h53 : o52 = true
            · rw [if_pos h53] at hm
              refine W.cond_t rfl h53 ?_
              refine W.seq ?_
              refine W.region ?_
              refine WL.q (R.assign rfl) rfl ?_
              refine WL.nil ?_
              refine Go.then_ ?_
              refine W.ret ?_
              refine Go.r_then ?_
              have he := Option.some.inj hm
              clear hm
              subst r
              exact Go.ret1 rfl (.tmp rfl) (fun w hw => ⟨_, rfl, _, ⟨(), rfl, rfl⟩, hw.reord [] 4 rfl⟩)
            · rw [if_neg h53] at hm
              refine W.cond_f rfl (b_f h53) ?_
              refine W.skip ?_
              refine Go.then_ ?_
              refine W.seq ?_
              refine W.region ?_
              refine WL.q (R.assign rfl) rfl ?_
              refine WL.nil ?_
              refine Go.then_ ?_
              refine W.seq ?_
              refine W.region ?_
              refine WL.q (R.move rfl) rfl ?_
              refine WL.q (R.move rfl) rfl ?_
              obtain ⟨o54, h55, hm⟩ := of_bind hm
              refine WL.x ((R.call rfl en10 (laws_markInt64S_tr (F := ((bx b12 (e_S_Square.cells o9.1)) :: (slT (Enc.int .i64) x11 o9.2.1) :: (bx b1 (e_S_Square.cells p0)) :: F)) x21 o19.2.1 1 h55)).weak (fun w hw => hw.reord [0, 1, 2, 3] 4 rfl)) rfl fun x56 => ?_
              refine WL.q (R.assign rfl) rfl ?_
              refine WL.nil ?_
              refine Go.then_ ?_
              refine W.seq ?_
              refine W.region ?_
              refine WL.q (R.assign rfl) rfl ?_
              refine WL.nil ?_
              refine Go.then_ ?_
              refine W.seq ?_
              refine W.region ?_
              refine WL.q (R.move rfl) rfl ?_
              refine WL.q (R.move rfl) rfl ?_
              obtain ⟨o57, h58, hm⟩ := of_bind hm
              refine WL.x (R.call rfl en11 (laws_heldInt64S_tr x21 o54.2 (RdT.at 0 rfl) 1 h58)) rfl fun x59 => ?_
              refine WL.q (R.assign rfl) rfl ?_
              refine WL.nil ?_
              refine Go.then_ ?_
              refine W.seq ?_
              refine W.seq ?_
              refine W.region ?_
              refine WL.q (R.move rfl) rfl ?_
              refine WL.q (R.lss rfl rfl) rfl ?_
              refine WL.nil ?_
              refine Go.then_ ?_
              by_cases h60 : o57 < 0
              · rw [if_pos h60] at hm
                refine W.cond_t rfl (decide_eq_true h60) ?_
                refine W.seq ?_
                refine W.region ?_
                refine WL.q (R.assign rfl) rfl ?_
                refine WL.nil ?_
                refine Go.then_ ?_
                refine W.ret ?_
                refine Go.r_then ?_
                have he := Option.some.inj hm
                clear hm
                subst r
                exact Go.ret1 rfl (.tmp rfl) (fun w hw => ⟨_, rfl, _, ⟨(), rfl, rfl⟩, hw.reord [] 4 rfl⟩)
              · rw [if_neg h60] at hm
                refine W.cond_f rfl (decide_eq_false h60) ?_
                refine W.skip ?_
                refine Go.then_ ?_
                refine W.seq ?_
                refine W.seq ?_
                refine W.region ?_
                refine WL.q (R.move rfl) rfl ?_
                refine WL.q (R.move rfl) rfl ?_
                refine WL.q (R.neq rfl rfl) rfl ?_
                refine WL.nil ?_
                refine Go.then_ ?_
                by_cases h61 : o57 ≠ o54.1
                · rw [if_pos h61] at hm
                  refine W.cond_t rfl (decide_eq_true h61) ?_
                  refine W.seq ?_
                  refine W.region ?_
                  refine WL.q (R.assign rfl) rfl ?_
                  refine WL.nil ?_
                  refine Go.then_ ?_
                  refine W.ret ?_
                  refine Go.r_then ?_
                  have he := Option.some.inj hm
                  clear hm
                  subst r
                  exact Go.ret1 rfl (.tmp rfl) (fun w hw => ⟨_, rfl, _, ⟨(), rfl, rfl⟩, hw.reord [] 4 rfl⟩)
                · rw [if_neg h61] at hm
                  refine W.cond_f rfl (decide_eq_false h61) ?_
                  refine W.skip ?_
                  refine Go.then_ ?_
                  refine W.seq ?_
                  refine W.region ?_
                  refine WL.q (R.load rfl (At.bx 3 rfl (Sub.refl _)) (lies_agg e_S_Square p0 ia25 sz25)) rfl ?_
                  obtain ⟨o62, h63, hm⟩ := of_bind hm
                  refine WL.x (R.call rfl en5 (laws_toSquare_tr p0 h63)) rfl fun x64 => ?_
                  refine WL.q (R.move rfl) rfl ?_
                  obtain ⟨o65, h66, hm⟩ := of_bind hm
                  refine WL.x (R.call rfl en6 (laws_toInt64S_tr q1 p1 (RdT.lift 4 rfl hp1) h66)) rfl fun x67 => ?_
                  obtain ⟨o68, h69, hm⟩ := of_bind hm
                  refine WL.x (R.call rfl en7 (impl_QuotientLoop_tr hg1 o62 x67 o65 (RdT.at 0 rfl) h69)) rfl fun x70 => ?_
                  refine WL.q (R.move rfl) rfl ?_
                  refine WL.q (R.extract rfl rfl) rfl ?_
                  refine WL.q (R.extract rfl rfl) rfl ?_
                  refine WL.q (R.extract rfl rfl) rfl ?_
                  refine WL.x (al29) rfl fun b71 => ?_
                  refine WL.x0 (R.store_bx (i := 0) rfl rfl rfl (fits_agg e_S_Square o68.1 sz29) (Up.all e_S_Square _ _)) fun _ => ?_
                  refine WL.q (R.assign rfl) rfl ?_
                  refine WL.q (R.assign rfl) rfl ?_
                  refine WL.nil ?_
                  refine Go.then_ ?_
                  refine W.seq ?_
                  obtain ⟨o80, hm, hmo80⟩ := of_bind hm
                  refine W.seq ?_
                  refine W.join (fun e a w => And (e = .normal) (Sat G ((slT (Enc.int .i64) x21 o54.2) :: F) 125 [(4, (.bool false)), (10, x21), (13, (.int .i64 o54.1)), (116, (.bool o80))] a w)) ?_ ?_
                  · refine W.region ?_
                    refine WL.q (R.load rfl (At.bx 0 rfl (Sub.refl _)) (lies_agg e_S_Square o68.1 ia29 sz29)) rfl ?_
                    refine WL.q (R.load rfl (At.bx 4 rfl (Sub.refl _)) (lies_agg e_S_Square o9.1 ia29 sz29)) rfl ?_
                    obtain ⟨o72, h73, hm⟩ := of_bind hm
                    refine WL.x (R.call rfl en8 (laws_eqSquare_tr o68.1 o9.1 h73)) rfl fun x74 => ?_
                    refine WL.q (R.not rfl) rfl ?_
                    refine WL.q (R.move rfl) rfl ?_
                    by_cases h75 : o72 = true
                    · rw [if_pos h75] at hm
                      refine WL.on rfl rfl (not_f h75) ?_
                      refine WL.q (R.move rfl) rfl ?_
                      refine WL.on rfl rfl (not_f h75) ?_
                      refine WL.q (R.move rfl) rfl ?_
                      obtain ⟨o76, h77, hm⟩ := of_bind hm
                      refine WL.on rfl rfl (not_f h75) ?_
                      refine WL.x (R.call rfl en9 (laws_eqInt64S_tr x70 o68.2.1 (RdT.at 1 rfl) x11 o9.2.1 (RdT.at 5 rfl) h77)) rfl fun x78 => ?_
                      refine WL.on rfl rfl (not_f h75) ?_
                      refine WL.q (R.not rfl) rfl ?_
                      refine WL.q (R.pick_f rfl (not_f h75) rfl) rfl ?_
                      refine WL.q (R.move rfl) rfl ?_
                      by_cases h79 : o76 = true
                      · rw [if_pos h79] at hm
                        refine WL.on rfl rfl (not_f h79) ?_
                        refine WL.q (R.move rfl) rfl ?_
                        refine WL.on rfl rfl (not_f h79) ?_
                        refine WL.q (R.move rfl) rfl ?_
                        refine WL.on rfl rfl (not_f h79) ?_
                        refine WL.q (R.neq rfl rfl) rfl ?_
                        refine WL.q (R.pick_f rfl (not_f h79) rfl) rfl ?_
                        refine WL.nil ?_
                        have he := Option.some.inj hm
                        clear hm
                        subst o80
                        exact fun a w s => And.intro rfl (Sat.mk (s.env.le ⟨rfl, rfl, rfl, rfl, trivial⟩) (s.mem.reord [3] 7 rfl))
                      · rw [if_neg h79] at hm
                        refine WL.off rfl rfl (not_t (b_f h79)) rfl ?_
                        refine WL.off rfl rfl (not_t (b_f h79)) rfl ?_
                        refine WL.off rfl rfl (not_t (b_f h79)) rfl ?_
                        refine WL.q (R.pick_t rfl (not_t (b_f h79)) rfl) rfl ?_
                        refine WL.nil ?_
                        have he := Option.some.inj hm
                        clear hm
                        subst o80
                        exact fun a w s => And.intro rfl (Sat.mk (s.env.le ⟨rfl, rfl, rfl, rfl, trivial⟩) (s.mem.reord [3] 7 rfl))
                    · rw [if_neg h75] at hm
                      refine WL.off rfl rfl (not_t (b_f h75)) rfl ?_
                      refine WL.off rfl rfl (not_t (b_f h75)) rfl ?_
                      refine WL.off rfl rfl (not_t (b_f h75)) rfl ?_
                      refine WL.off rfl rfl (not_t (b_f h75)) rfl ?_
                      refine WL.q (R.pick_t rfl (not_t (b_f h75)) rfl) rfl ?_
                      refine WL.q (R.move rfl) rfl ?_
                      refine WL.off rfl rfl rfl rfl ?_
                      refine WL.off rfl rfl rfl rfl ?_
                      refine WL.off rfl rfl rfl rfl ?_
                      refine WL.q (R.pick_t rfl rfl rfl) rfl ?_
                      refine WL.nil ?_
                      have he := Option.some.inj hm
                      clear hm
                      subst o80
                      exact fun a w s => And.intro rfl (Sat.mk (s.env.le ⟨rfl, rfl, rfl, rfl, trivial⟩) (s.mem.reord [3] 7 rfl))
                  · intro e a w hJ
                    replace hm := hmo80
                    clear hmo80
                    obtain ⟨rfl, s⟩ := hJ
                    refine Go.use s ?_
                    refine Go.then_ ?_
                    by_cases h81 : o80 = true
                    · rw [if_pos h81] at hm
                      refine W.cond_t rfl h81 ?_
                      refine W.seq ?_
                      refine W.region ?_
                      refine WL.q (R.assign rfl) rfl ?_
                      refine WL.nil ?_
                      refine Go.then_ ?_
                      refine W.ret ?_
                      refine Go.r_then ?_
                      have he := Option.some.inj hm
                      clear hm
                      subst r
                      exact Go.ret1 rfl (.tmp rfl) (fun w hw => ⟨_, rfl, _, ⟨(), rfl, rfl⟩, hw.reord [] 1 rfl⟩)
                    · rw [if_neg h81] at hm
                      refine W.cond_f rfl (b_f h81) ?_
                      refine W.skip ?_
                      refine Go.then_ ?_
                      refine W.seq ?_
                      refine W.region ?_
                      refine WL.q (R.assign rfl) rfl ?_
                      refine WL.nil ?_
                      refine Go.then_ ?_
                      refine W.seq ?_
                      refine W.region ?_
                      refine WL.q (R.move rfl) rfl ?_
                      refine WL.q (R.move rfl) rfl ?_
                      obtain ⟨o82, h83, hm⟩ := of_bind hm
                      refine WL.x (R.call rfl en11 (laws_heldInt64S_tr x21 o54.2 (RdT.at 0 rfl) 1 h83)) rfl fun x84 => ?_
                      refine WL.q (R.assign rfl) rfl ?_
                      refine WL.nil ?_
                      refine Go.then_ ?_
                      refine W.seq ?_
                      refine W.seq ?_
                      refine W.region ?_
                      refine WL.q (R.move rfl) rfl ?_
                      refine WL.q (R.lss rfl rfl) rfl ?_
                      refine WL.nil ?_
                      refine Go.then_ ?_
                      by_cases h85 : o82 < 0
                      · rw [if_pos h85] at hm
                        refine W.cond_t rfl (decide_eq_true h85) ?_
                        refine W.seq ?_
                        refine W.region ?_
                        refine WL.q (R.assign rfl) rfl ?_
                        refine WL.nil ?_
                        refine Go.then_ ?_
                        refine W.ret ?_
                        refine Go.r_then ?_
                        have he := Option.some.inj hm
                        clear hm
                        subst r
                        exact Go.ret1 rfl (.tmp rfl) (fun w hw => ⟨_, rfl, _, ⟨(), rfl, rfl⟩, hw.reord [] 1 rfl⟩)
                      · rw [if_neg h85] at hm
                        refine W.cond_f rfl (decide_eq_false h85) ?_
                        refine W.skip ?_
                        refine Go.then_ ?_
                        refine W.seq ?_
                        refine W.seq ?_
                        refine W.region ?_
                        refine WL.q (R.move rfl) rfl ?_
                        refine WL.q (R.move rfl) rfl ?_
                        refine WL.q (R.neq rfl rfl) rfl ?_
                        refine WL.nil ?_
                        refine Go.then_ ?_
                        by_cases h86 : o82 ≠ o54.1
                        · rw [if_pos h86] at hm
                          refine W.cond_t rfl (decide_eq_true h86) ?_
                          refine W.seq ?_
                          refine W.region ?_
                          refine WL.q (R.assign rfl) rfl ?_
                          refine WL.nil ?_
                          refine Go.then_ ?_
                          refine W.ret ?_
                          refine Go.r_then ?_
                          have he := Option.some.inj hm
                          clear hm
                          subst r
                          exact Go.ret1 rfl (.tmp rfl) (fun w hw => ⟨_, rfl, _, ⟨(), rfl, rfl⟩, hw.reord [] 1 rfl⟩)
                        · rw [if_neg h86] at hm
                          refine W.cond_f rfl (decide_eq_false h86) ?_
                          refine W.skip ?_
                          refine Go.then_ ?_
                          refine W.seq ?_
                          refine W.region ?_
                          refine WL.q (R.assign rfl) rfl ?_
                          refine WL.nil ?_
                          refine Go.then_ ?_
                          refine W.ret ?_
                          have he := Option.some.inj hm
                          clear hm
                          subst r
                          exact Go.ret1 rfl (.tmp rfl) (fun w hw => ⟨_, rfl, _, ⟨(), rfl, rfl⟩, hw.reord [] 1 rfl⟩)
        · rw [if_neg h39] at hm
          refine W.cond_t rfl (not_t (b_f h39)) ?_
          refine W.seq ?_
          refine W.region ?_
          refine WL.q (R.assign rfl) rfl ?_
          refine WL.nil ?_
          refine Go.then_ ?_
          refine W.ret ?_
          refine Go.r_then ?_
          have he := Option.some.inj hm
          clear hm
          subst r
          exact Go.ret1 rfl (.tmp rfl) (fun w hw => ⟨_, rfl, _, ⟨(), rfl, rfl⟩, hw.reord [] 7 rfl⟩)
end Go.Proofs.YtppjhbjcemnfmaaDoor
