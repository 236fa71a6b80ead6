/- Printed by a program of the claim's own: the walks: what the machine's calls answer is what the plain functions answer. No condition. -/
import Derived.Test.YtppjhbjcemnfmaaDoorYW0
set_option linter.unusedVariables false
set_option linter.unusedSimpArgs false
namespace Go.Proofs.YtppjhbjcemnfmaaDoor
open Go Go.Sx Go.Mi
set_option maxRecDepth 100000 in
theorem impl_Square_isUnit_tr {G : World} {F : List Res} (p0 : S_Square) (p1 : Int) {r : Bool} (hm : impl_Square_isUnit p0 p1 = some r) : Tr Tryd.prog G 38 [(.agg (e_S_Square.cells p0).toArray), (.int .u8 p1)] F (fun u K => ∃ x : Unit, u = (.bool r) ∧ K = F) := by
  unfold impl_Square_isUnit at hm
  refine Tr.body Tryd.func38 rfl Tryd.ntmps38 ?_
  refine W.seq ?_
  refine W.region ?_
  refine WL.x (R.box rfl (cells_agg _)) rfl fun b1 => ?_
  refine WL.q (R.assign rfl) rfl ?_
  refine WL.nil ?_
  refine Go.then_ ?_
  refine W.seq ?_
  refine W.seq ?_
  refine W.region ?_
  refine WL.q (R.load rfl (At.bx 0 rfl (Sub.refl _)) (lies_agg e_S_Square p0 ia29 sz29)) rfl ?_
  obtain ⟨o2, h3, hm⟩ := of_bind hm
  refine WL.x (R.call rfl en43 (impl_Square_elements_tr p0 h3)) rfl fun x4 => ?_
  refine WL.q (R.lenT rfl el63 (RdT.at 0 rfl)) rfl ?_
  refine WL.q (R.move rfl) rfl ?_
  refine WL.nil ?_
  refine Go.then_ ?_
  refine W.block ?_
  obtain ⟨o6, hlo6, hm⟩ := of_bind hm
  refine W.loopx (fun (s5 : Int) a w => Sat G ((slT (Enc.int .u8) x4 o2) :: (bx b1 (e_S_Square.cells p0)) :: F) 33 [(1, (.int .u8 p1)), (2, (.pointer (some ⟨b1, 0, none⟩))), (4, (.bool false)), (8, x4), (9, (.int .i64 (o2.length : Int))), (10, (.int .i64 s5))] a w) (fun (o6 : ((Unit) ⊕ (Unit))) e a w => (Sum.elim (fun o6 => And (e = (.exit 0)) (Sat G F 33 [(4, (.bool false))] a w)) (fun o6 => And (e = .ret) (Sat G F 33 [(4, (.bool false))] a w))) o6) hlo6 (fun a w s => (Sat.mk (s.env.le ⟨rfl, rfl, rfl, rfl, rfl, rfl, trivial⟩) (s.mem))) ?_ ?_
  · clear hm
    intro s5 x hm a w hJ
    have s := hJ
    unfold impl_Square_isUnit_L1 at hm
    refine W.use s ?_
    refine W.seq ?_
    refine W.region ?_
    refine WL.q (R.lss rfl rfl) rfl ?_
    refine WL.nil ?_
    refine Go.then_ ?_
    refine W.seq ?_
    by_cases h21 : s5 < (o2.length : Int)
    · rw [if_pos h21] at hm
      refine W.cond_t rfl (decide_eq_true h21) ?_
      refine W.skip ?_
      refine Go.then_ ?_
      refine W.seq ?_
      refine W.block ?_
      refine W.seq ?_
      refine W.region ?_
      obtain ⟨h22, hm⟩ := of_guard hm
      refine WL.q (R.idxT rfl rfl el63 (RdT.at 0 rfl) h22) rfl ?_
      refine WL.q (R.load rfl (At.elT (RdT.at 0 rfl) (by decide) h22) (Lies.one _ ia5)) rfl ?_
      refine WL.q (R.assign rfl) rfl ?_
      refine WL.nil ?_
      refine Go.then_ ?_
      obtain ⟨o26, hm, hmo26⟩ := of_bind hm
      refine W.seq ?_
      refine W.join (fun e a w => And (e = .normal) (Sat G ((slT (Enc.int .u8) x4 o2) :: (bx b1 (e_S_Square.cells p0)) :: F) 33 [(1, (.int .u8 p1)), (2, (.pointer (some ⟨b1, 0, none⟩))), (4, (.bool false)), (8, x4), (9, (.int .i64 (o2.length : Int))), (10, (.int .i64 s5)), (31, (.bool o26))] a w)) ?_ ?_
      · refine W.region ?_
        refine WL.q (R.move rfl) rfl ?_
        refine WL.q (R.move rfl) rfl ?_
        refine WL.q (R.fieldAddr rfl fa29_1) rfl ?_
        obtain ⟨h23, hm⟩ := of_guard hm
        refine WL.q (R.indexArr rfl rfl un27 sz22 h23.1 h23.2) rfl ?_
        obtain ⟨h24, hm⟩ := of_guard hm
        refine WL.q (R.indexArr rfl rfl un22 sz5 h24.1 h24.2) rfl ?_
        refine WL.q (R.load rfl (At.sub (At.sub (At.sub (At.bx 1 rfl (Sub.refl _)) (e_S_Square_s1 p0)) (sub_arr ((Enc.int .u8).arr 10) (v := p0.Table) h23.1 h23.2)) (sub_arr (Enc.int .u8) (v := gv p0.Table p1) h24.1 h24.2)) (Lies.one _ ia5)) rfl ?_
        refine WL.q (R.move rfl) rfl ?_
        refine WL.q (R.neq rfl rfl) rfl ?_
        refine WL.q (R.move rfl) rfl ?_
        by_cases h25 : gv (gv p0.Table p1) (gl o2 s5) ≠ gl o2 s5
        · rw [if_pos h25] at hm
          refine WL.off rfl rfl (decide_eq_true h25) rfl ?_
          refine WL.off rfl rfl (decide_eq_true h25) rfl ?_
          refine WL.off rfl rfl (decide_eq_true h25) rfl ?_
          refine WL.off rfl rfl (decide_eq_true h25) rfl ?_
          refine WL.off rfl rfl (decide_eq_true h25) rfl ?_
          refine WL.off rfl rfl (decide_eq_true h25) rfl ?_
          refine WL.off rfl rfl (decide_eq_true h25) rfl ?_
          refine WL.off rfl rfl (decide_eq_true h25) rfl ?_
          refine WL.q (R.pick_t rfl (decide_eq_true h25) rfl) rfl ?_
          refine WL.nil ?_
          have he := Option.some.inj hm
          clear hm
          subst o26
          exact fun a w s => And.intro rfl (Sat.mk (s.env.le ⟨rfl, rfl, rfl, rfl, rfl, rfl, rfl, trivial⟩) (s.mem))
        · rw [if_neg h25] at hm
          refine WL.on rfl rfl (decide_eq_false h25) ?_
          refine WL.q (R.move rfl) rfl ?_
          refine WL.on rfl rfl (decide_eq_false h25) ?_
          refine WL.q (R.move rfl) rfl ?_
          refine WL.on rfl rfl (decide_eq_false h25) ?_
          refine WL.q (R.fieldAddr rfl fa29_1) rfl ?_
          refine WL.on rfl rfl (decide_eq_false h25) ?_
          refine WL.q (R.indexArr rfl rfl un27 sz22 h24.1 h24.2) rfl ?_
          refine WL.on rfl rfl (decide_eq_false h25) ?_
          refine WL.q (R.indexArr rfl rfl un22 sz5 h23.1 h23.2) rfl ?_
          refine WL.on rfl rfl (decide_eq_false h25) ?_
          refine WL.q (R.load rfl (At.sub (At.sub (At.sub (At.bx 1 rfl (Sub.refl _)) (e_S_Square_s1 p0)) (sub_arr ((Enc.int .u8).arr 10) (v := p0.Table) h24.1 h24.2)) (sub_arr (Enc.int .u8) (v := gv p0.Table (gl o2 s5)) h23.1 h23.2)) (Lies.one _ ia5)) rfl ?_
          refine WL.on rfl rfl (decide_eq_false h25) ?_
          refine WL.q (R.move rfl) rfl ?_
          refine WL.on rfl rfl (decide_eq_false h25) ?_
          refine WL.q (R.neq rfl rfl) rfl ?_
          refine WL.q (R.pick_f rfl (decide_eq_false h25) rfl) rfl ?_
          refine WL.nil ?_
          have he := Option.some.inj hm
          clear hm
          subst o26
          exact fun a w s => And.intro rfl (Sat.mk (s.env.le ⟨rfl, rfl, rfl, rfl, rfl, rfl, rfl, trivial⟩) (s.mem))
      · intro e a w hJ
        replace hm := hmo26
        clear hmo26
        obtain ⟨rfl, s⟩ := hJ
        refine Go.use s ?_
        refine Go.then_ ?_
        by_cases h27 : o26 = true
        · rw [if_pos h27] at hm
          refine W.cond_t rfl h27 ?_
          refine W.seq ?_
          refine W.region ?_
          refine WL.q (R.assign rfl) rfl ?_
          refine WL.nil ?_
          refine Go.then_ ?_
          refine W.ret ?_
          refine Go.r_block ?_
          refine Go.r_then ?_
          have he := Option.some.inj hm
          clear hm
          subst x
          exact fun a w s => Exists.intro _ (And.intro rfl (And.intro rfl (Sat.mk (s.env.le ⟨rfl, trivial⟩) (s.mem.reord [] 2 rfl))))
        · rw [if_neg h27] at hm
          refine W.cond_f rfl (b_f h27) ?_
          refine W.skip ?_
          refine Go.n_block ?_
          refine Go.then_ ?_
          refine W.region ?_
          refine WL.q (R.add rfl rfl) rfl ?_
          refine WL.q (R.move rfl) rfl ?_
          refine WL.nil ?_
          have he := Option.some.inj hm
          clear hm
          subst x
          exact fun a w s => Exists.intro _ (And.intro rfl (Sat.mk (s.env.le ⟨rfl, rfl, rfl, rfl, rfl, rfl, trivial⟩) (s.mem)))
    · rw [if_neg h21] at hm
      refine W.cond_f rfl (decide_eq_false h21) ?_
      refine W.exit ?_
      refine Go.x_then ?_
      have he := Option.some.inj hm
      clear hm
      subst x
      exact fun a w s => Exists.intro _ (And.intro rfl (And.intro rfl (Sat.mk (s.env.le ⟨rfl, trivial⟩) (s.mem.reord [] 2 rfl))))
  · intro e a w hJ
    rcases o6 with o6 | o6
    · simp only [Sum.elim_inl, Sum.elim_inr] at hm
      obtain ⟨rfl, s⟩ := hJ
      refine Go.use s ?_
      refine Go.x_block ?_
      refine Go.then_ ?_
      refine W.seq ?_
      refine W.region ?_
      refine WL.q (R.assign rfl) rfl ?_
      refine WL.nil ?_
      refine Go.then_ ?_
      refine W.ret ?_
      have he := Option.some.inj hm
      clear hm
      subst r
      exact Go.ret1 rfl (.tmp rfl) (fun w hw => ⟨_, rfl, _, ⟨(), rfl, rfl⟩, hw⟩)
    · simp only [Sum.elim_inl, Sum.elim_inr] at hm
      obtain ⟨rfl, s⟩ := hJ
      refine Go.use s ?_
      refine Go.r_block ?_
      refine Go.r_then ?_
      have he := Option.some.inj hm
      clear hm
      subst r
      exact Go.ret1 rfl (.tmp rfl) (fun w hw => ⟨_, rfl, _, ⟨(), rfl, rfl⟩, hw⟩)
set_option maxRecDepth 100000 in
theorem impl_IsLoop_tr {G : World} {F : List Res} (p0 : S_Square) {r : Bool} (hm : impl_IsLoop p0 = some r) : Tr Tryd.prog G 28 [(.agg (e_S_Square.cells p0).toArray)] F (fun u K => ∃ x : Unit, u = (.bool r) ∧ K = F) := by
  unfold impl_IsLoop at hm
  refine Tr.body Tryd.func28 rfl Tryd.ntmps28 ?_
  refine W.seq ?_
  refine W.region ?_
  refine WL.x (R.box rfl (cells_agg _)) rfl fun b1 => ?_
  refine WL.q (R.assign rfl) rfl ?_
  refine WL.nil ?_
  refine Go.then_ ?_
  obtain ⟨o9, hm, hmo9⟩ := of_bind hm
  refine W.seq ?_
  refine W.join (fun e a w => And (e = .normal) (Sat G F 9 [(2, (.bool o9))] a w)) ?_ ?_
  · refine W.region ?_
    refine WL.q (R.load rfl (At.bx 0 rfl (Sub.refl _)) (lies_agg e_S_Square p0 ia29 sz29)) rfl ?_
    obtain ⟨o2, h3, hm⟩ := of_bind hm
    refine WL.x (R.call rfl en37 (impl_IsSquare_tr p0 h3)) rfl fun x4 => ?_
    refine WL.q (R.move rfl) rfl ?_
    by_cases h5 : o2 = true
    · rw [if_pos h5] at hm
      refine WL.on rfl rfl h5 ?_
      refine WL.q (R.load rfl (At.bx 0 rfl (Sub.refl _)) (lies_agg e_S_Square p0 ia29 sz29)) rfl ?_
      obtain ⟨o6, h7, hm⟩ := of_bind hm
      refine WL.on rfl rfl h5 ?_
      refine WL.x (R.call rfl en38 (impl_Square_isUnit_tr p0 0 h7)) rfl fun x8 => ?_
      refine WL.q (R.pick_t rfl h5 rfl) rfl ?_
      refine WL.q (R.assign rfl) rfl ?_
      refine WL.nil ?_
      have he := Option.some.inj hm
      clear hm
      subst o9
      exact fun a w s => And.intro rfl (Sat.mk (s.env.le ⟨rfl, trivial⟩) (s.mem.reord [] 1 rfl))
    · rw [if_neg h5] at hm
      refine WL.off rfl rfl (b_f h5) rfl ?_
      refine WL.off rfl rfl (b_f h5) rfl ?_
      refine WL.q (R.pick_f rfl (b_f h5) rfl) rfl ?_
      refine WL.q (R.assign rfl) rfl ?_
      refine WL.nil ?_
      have he := Option.some.inj hm
      clear hm
      subst o9
      exact fun a w s => And.intro rfl (Sat.mk (s.env.le ⟨rfl, trivial⟩) (s.mem.reord [] 1 rfl))
  · intro e a w hJ
    replace hm := hmo9
    clear hmo9
    obtain ⟨rfl, s⟩ := hJ
    refine Go.use s ?_
    refine Go.then_ ?_
    refine W.ret ?_
    have he := Option.some.inj hm
    clear hm
    subst r
    exact Go.ret1 rfl (.tmp rfl) (fun w hw => ⟨_, rfl, _, ⟨(), rfl, rfl⟩, hw⟩)
set_option maxRecDepth 100000 in
theorem impl_Square_isList_tr {G : World} {F : List Res} (p0 : S_Square) (q1 : Value) (p1 : (List Int)) (hp1 : RdT (Enc.int .i64) G F q1 p1) {r : Bool} (hm : impl_Square_isList p0 p1 = some r) : Tr Tryd.prog G 29 [(.agg (e_S_Square.cells p0).toArray), q1] F (fun u K => ∃ x : Unit, u = (.bool r) ∧ K = F) := by
  unfold impl_Square_isList at hm
  refine Tr.body Tryd.func29 rfl Tryd.ntmps29 ?_
  refine W.seq ?_
  refine W.region ?_
  refine WL.x (R.box rfl (cells_agg _)) rfl fun b1 => ?_
  refine WL.q (R.assign rfl) rfl ?_
  refine WL.nil ?_
  refine Go.then_ ?_
  refine W.seq ?_
  refine W.seq ?_
  refine W.region ?_
  refine WL.q (R.move rfl) rfl ?_
  refine WL.q (R.lenT rfl el26 (RdT.lift 1 rfl hp1)) rfl ?_
  refine WL.q (R.move rfl) rfl ?_
  refine WL.nil ?_
  refine Go.then_ ?_
  refine W.block ?_
  obtain ⟨o3, hlo3, hm⟩ := of_bind hm
  refine W.loopx (fun (s2 : Int) a w => Sat G ((bx b1 (e_S_Square.cells p0)) :: F) 34 [(1, q1), (2, (.pointer (some ⟨b1, 0, none⟩))), (4, (.bool false)), (7, q1), (8, (.int .i64 (p1.length : Int))), (9, (.int .i64 s2))] a w) (fun (o3 : ((Unit) ⊕ (Unit))) e a w => (Sum.elim (fun o3 => And (e = (.exit 0)) (Sat G F 34 [(4, (.bool false))] a w)) (fun o3 => And (e = .ret) (Sat G F 34 [(4, (.bool false))] a w))) o3) hlo3 (fun a w s => (Sat.mk (s.env.le ⟨rfl, rfl, rfl, rfl, rfl, rfl, trivial⟩) (s.mem))) ?_ ?_
  · clear hm
    intro s2 x hm a w hJ
    have s := hJ
    unfold impl_Square_isList_L1 at hm
    refine W.use s ?_
    refine W.seq ?_
    refine W.region ?_
    refine WL.q (R.lss rfl rfl) rfl ?_
    refine WL.nil ?_
    refine Go.then_ ?_
    refine W.seq ?_
    by_cases h24 : s2 < (p1.length : Int)
    · rw [if_pos h24] at hm
      refine W.cond_t rfl (decide_eq_true h24) ?_
      refine W.skip ?_
      refine Go.then_ ?_
      refine W.seq ?_
      refine W.block ?_
      refine W.seq ?_
      refine W.region ?_
      refine WL.q (R.move rfl) rfl ?_
      obtain ⟨h25, hm⟩ := of_guard hm
      refine WL.q (R.idxT rfl rfl el26 (RdT.lift 1 rfl hp1) h25) rfl ?_
      refine WL.q (R.load rfl (At.elT (RdT.lift 1 rfl hp1) (by decide) h25) (Lies.one _ ia2)) rfl ?_
      refine WL.q (R.assign rfl) rfl ?_
      refine WL.q (R.assign rfl) rfl ?_
      refine WL.nil ?_
      refine Go.then_ ?_
      obtain ⟨o32, hm, hmo32⟩ := of_bind hm
      refine W.seq ?_
      refine W.join (fun e a w => And (e = .normal) (Sat G ((bx b1 (e_S_Square.cells p0)) :: F) 34 [(1, q1), (2, (.pointer (some ⟨b1, 0, none⟩))), (4, (.bool false)), (7, q1), (8, (.int .i64 (p1.length : Int))), (9, (.int .i64 s2)), (32, (.bool o32))] a w)) ?_ ?_
      · refine W.region ?_
        refine WL.q (R.move rfl) rfl ?_
        refine WL.q (R.fieldAddr rfl fa29_0) rfl ?_
        refine WL.q (R.load rfl (At.sub (At.bx 0 rfl (Sub.refl _)) (e_S_Square_s0 p0)) (Lies.one _ ia2)) rfl ?_
        refine WL.q (R.sub rfl rfl) rfl ?_
        obtain ⟨o26, h27, hm⟩ := of_bind hm
        refine WL.x (R.call rfl en39 (impl_within_tr (gl p1 s2) 0 (IntKind.i64.wrap (p0.Order - 1)) h27)) rfl fun x28 => ?_
        refine WL.q (R.not rfl) rfl ?_
        refine WL.q (R.move rfl) rfl ?_
        by_cases h29 : o26 = true
        · rw [if_pos h29] at hm
          refine WL.on rfl rfl (not_f h29) ?_
          refine WL.q (R.move rfl) rfl ?_
          refine WL.on rfl rfl (not_f h29) ?_
          refine WL.q (R.gtr rfl rfl) rfl ?_
          refine WL.on rfl rfl (not_f h29) ?_
          refine WL.q (R.move rfl) rfl ?_
          by_cases h30 : 0 < s2
          · rw [if_pos h30] at hm
            refine WL.on rfl rfl (decide_eq_true h30) ?_
            refine WL.q (R.move rfl) rfl ?_
            refine WL.on rfl rfl (decide_eq_true h30) ?_
            refine WL.q (R.move rfl) rfl ?_
            refine WL.on rfl rfl (decide_eq_true h30) ?_
            refine WL.q (R.sub rfl rfl) rfl ?_
            obtain ⟨h31, hm⟩ := of_guard hm
            refine WL.on rfl rfl (decide_eq_true h30) ?_
            refine WL.q (R.idxT rfl rfl el26 (RdT.lift 1 rfl hp1) h31) rfl ?_
            refine WL.on rfl rfl (decide_eq_true h30) ?_
            refine WL.q (R.load rfl (At.elT (RdT.lift 1 rfl hp1) (by decide) h31) (Lies.one _ ia2)) rfl ?_
            refine WL.on rfl rfl (decide_eq_true h30) ?_
            refine WL.q (R.move rfl) rfl ?_
            refine WL.on rfl rfl (decide_eq_true h30) ?_
            refine WL.q (R.geq rfl rfl) rfl ?_
            refine WL.on rfl rfl (not_f h29) ?_
            refine WL.q (R.pick_t rfl (decide_eq_true h30) rfl) rfl ?_
            refine WL.q (R.pick_f rfl (not_f h29) rfl) rfl ?_
            refine WL.nil ?_
            have he := Option.some.inj hm
            clear hm
            subst o32
            exact fun a w s => And.intro rfl (Sat.mk (s.env.le ⟨rfl, rfl, rfl, rfl, rfl, rfl, rfl, trivial⟩) (s.mem))
          · rw [if_neg h30] at hm
            refine WL.off rfl rfl (decide_eq_false h30) rfl ?_
            refine WL.off rfl rfl (decide_eq_false h30) rfl ?_
            refine WL.off rfl rfl (decide_eq_false h30) rfl ?_
            refine WL.off rfl rfl (decide_eq_false h30) rfl ?_
            refine WL.off rfl rfl (decide_eq_false h30) rfl ?_
            refine WL.off rfl rfl (decide_eq_false h30) rfl ?_
            refine WL.off rfl rfl (decide_eq_false h30) rfl ?_
            refine WL.on rfl rfl (not_f h29) ?_
            refine WL.q (R.pick_f rfl (decide_eq_false h30) rfl) rfl ?_
            refine WL.q (R.pick_f rfl (not_f h29) rfl) rfl ?_
            refine WL.nil ?_
            have he := Option.some.inj hm
            clear hm
            subst o32
            exact fun a w s => And.intro rfl (Sat.mk (s.env.le ⟨rfl, rfl, rfl, rfl, rfl, rfl, rfl, trivial⟩) (s.mem))
        · rw [if_neg h29] at hm
          refine WL.off rfl rfl (not_t (b_f h29)) rfl ?_
          refine WL.off rfl rfl (not_t (b_f h29)) rfl ?_
          refine WL.off rfl rfl (not_t (b_f h29)) rfl ?_
          refine WL.off_u rfl rfl rfl ?_
          refine WL.off_u rfl rfl rfl ?_
          refine WL.off_u rfl rfl rfl ?_
          refine WL.off_u rfl rfl rfl ?_
          refine WL.off_u rfl rfl rfl ?_
          refine WL.off_u rfl rfl rfl ?_
          refine WL.off_u rfl rfl rfl ?_
          refine WL.off rfl rfl (not_t (b_f h29)) rfl ?_
          refine WL.q (R.pick_t rfl (not_t (b_f h29)) rfl) rfl ?_
          refine WL.nil ?_
          have he := Option.some.inj hm
          clear hm
          subst o32
          exact fun a w s => And.intro rfl (Sat.mk (s.env.le ⟨rfl, rfl, rfl, rfl, rfl, rfl, rfl, trivial⟩) (s.mem))
      · intro e a w hJ
        replace hm := hmo32
        clear hmo32
        obtain ⟨rfl, s⟩ := hJ
        refine Go.use s ?_
        refine Go.then_ ?_
        by_cases h33 : o32 = true
        · rw [if_pos h33] at hm
          refine W.cond_t rfl h33 ?_
          refine W.seq ?_
          refine W.region ?_
          refine WL.q (R.assign rfl) rfl ?_
          refine WL.nil ?_
          refine Go.then_ ?_
          refine W.ret ?_
          refine Go.r_block ?_
          refine Go.r_then ?_
          have he := Option.some.inj hm
          clear hm
          subst x
          exact fun a w s => Exists.intro _ (And.intro rfl (And.intro rfl (Sat.mk (s.env.le ⟨rfl, trivial⟩) (s.mem.reord [] 1 rfl))))
        · rw [if_neg h33] at hm
          refine W.cond_f rfl (b_f h33) ?_
          refine W.skip ?_
          refine Go.n_block ?_
          refine Go.then_ ?_
          refine W.region ?_
          refine WL.q (R.add rfl rfl) rfl ?_
          refine WL.q (R.move rfl) rfl ?_
          refine WL.nil ?_
          have he := Option.some.inj hm
          clear hm
          subst x
          exact fun a w s => Exists.intro _ (And.intro rfl (Sat.mk (s.env.le ⟨rfl, rfl, rfl, rfl, rfl, rfl, trivial⟩) (s.mem)))
    · rw [if_neg h24] at hm
      refine W.cond_f rfl (decide_eq_false h24) ?_
      refine W.exit ?_
      refine Go.x_then ?_
      have he := Option.some.inj hm
      clear hm
      subst x
      exact fun a w s => Exists.intro _ (And.intro rfl (And.intro rfl (Sat.mk (s.env.le ⟨rfl, trivial⟩) (s.mem.reord [] 1 rfl))))
  · intro e a w hJ
    rcases o3 with o3 | o3
    · simp only [Sum.elim_inl, Sum.elim_inr] at hm
      obtain ⟨rfl, s⟩ := hJ
      refine Go.use s ?_
      refine Go.x_block ?_
      refine Go.then_ ?_
      refine W.seq ?_
      refine W.region ?_
      refine WL.q (R.assign rfl) rfl ?_
      refine WL.nil ?_
      refine Go.then_ ?_
      refine W.ret ?_
      have he := Option.some.inj hm
      clear hm
      subst r
      exact Go.ret1 rfl (.tmp rfl) (fun w hw => ⟨_, rfl, _, ⟨(), rfl, rfl⟩, hw⟩)
    · simp only [Sum.elim_inl, Sum.elim_inr] at hm
      obtain ⟨rfl, s⟩ := hJ
      refine Go.use s ?_
      refine Go.r_block ?_
      refine Go.r_then ?_
      have he := Option.some.inj hm
      clear hm
      subst r
      exact Go.ret1 rfl (.tmp rfl) (fun w hw => ⟨_, rfl, _, ⟨(), rfl, rfl⟩, hw⟩)
set_option maxRecDepth 100000 in
theorem impl_listCode_tr {G : World} {F : List Res} (p0 : S_Square) (q1 : Value) (p1 : (List Int)) (hp1 : RdT (Enc.int .i64) G F q1 p1) {r : Int} (hm : impl_listCode p0 p1 = some r) : Tr Tryd.prog G 16 [(.agg (e_S_Square.cells p0).toArray), q1] F (fun u K => ∃ x : Unit, u = (.int .i64 r) ∧ K = F) := by
  unfold impl_listCode at hm
  refine Tr.body Tryd.func16 rfl Tryd.ntmps16 ?_
  refine W.seq ?_
  refine W.region ?_
  refine WL.x (R.box rfl (cells_agg _)) rfl fun b1 => ?_
  refine WL.q (R.assign rfl) rfl ?_
  refine WL.nil ?_
  refine Go.then_ ?_
  refine W.seq ?_
  refine W.block ?_
  refine W.seq ?_
  refine W.region ?_
  refine WL.q (R.load rfl (At.bx 0 rfl (Sub.refl _)) (lies_agg e_S_Square p0 ia29 sz29)) rfl ?_
  obtain ⟨o2, h3, hm⟩ := of_bind hm
  refine WL.x (R.call rfl en28 (impl_IsLoop_tr p0 h3)) rfl fun x4 => ?_
  refine WL.q (R.not rfl) rfl ?_
  refine WL.q (R.assign rfl) rfl ?_
  refine WL.nil ?_
  refine Go.then_ ?_
  by_cases h5 : o2 = true
  · rw [if_pos h5] at hm
    refine W.cond_f rfl (not_f h5) ?_
    refine W.seq ?_
    refine W.region ?_
    refine WL.q (R.load rfl (At.bx 0 rfl (Sub.refl _)) (lies_agg e_S_Square p0 ia29 sz29)) rfl ?_
    refine WL.q (R.move rfl) rfl ?_
    obtain ⟨o6, h7, hm⟩ := of_bind hm
    refine WL.x (R.call rfl en29 (impl_Square_isList_tr p0 q1 p1 (RdT.lift 1 rfl hp1) h7)) rfl fun x8 => ?_
    refine WL.q (R.not rfl) rfl ?_
    refine WL.q (R.assign rfl) rfl ?_
    refine WL.nil ?_
    refine Go.then_ ?_
    by_cases h9 : o6 = true
    · rw [if_pos h9] at hm
      refine W.cond_f rfl (not_f h9) ?_
      refine W.skip ?_
      refine Go.n_block ?_
      refine Go.then_ ?_
      refine W.seq ?_
      refine W.region ?_
      refine WL.q (R.assign rfl) rfl ?_
      refine WL.nil ?_
      refine Go.then_ ?_
      refine W.ret ?_
      have he := Option.some.inj hm
      clear hm
      subst r
      exact Go.ret1 rfl (.tmp rfl) (fun w hw => ⟨_, rfl, _, ⟨(), rfl, rfl⟩, hw.reord [] 1 rfl⟩)
    · rw [if_neg h9] at hm
      refine W.cond_t rfl (not_t (b_f h9)) ?_
      refine W.seq ?_
      refine W.region ?_
      refine WL.q (R.assign rfl) rfl ?_
      refine WL.nil ?_
      refine Go.then_ ?_
      refine W.ret ?_
      refine Go.r_block ?_
      refine Go.r_then ?_
      have he := Option.some.inj hm
      clear hm
      subst r
      exact Go.ret1 rfl (.tmp rfl) (fun w hw => ⟨_, rfl, _, ⟨(), rfl, rfl⟩, hw.reord [] 1 rfl⟩)
  · rw [if_neg h5] at hm
    refine W.cond_t rfl (not_t (b_f h5)) ?_
    refine W.seq ?_
    refine W.region ?_
    refine WL.q (R.assign rfl) rfl ?_
    refine WL.nil ?_
    refine Go.then_ ?_
    refine W.ret ?_
    refine Go.r_block ?_
    refine Go.r_then ?_
    have he := Option.some.inj hm
    clear hm
    subst r
    exact Go.ret1 rfl (.tmp rfl) (fun w hw => ⟨_, rfl, _, ⟨(), rfl, rfl⟩, hw.reord [] 1 rfl⟩)
set_option maxRecDepth 100000 in
theorem impl_Square_mapped_tr {G : World} {F : List Res} (p0 : S_Square) (g1 : FuncId) (fs1 cs1 : List Value) (f1 : Int → Option Int) (en_1 : Enters Tryd.prog g1) (hf1 : ∀ (L : List Res) (a0 : Int) (r : Int), f1 a0 = some r → Tr Tryd.prog G g1 (fs1 ++ [(.int .u8 a0)] ++ cs1) (L ++ F) (fun u K => ∃ x : Unit, u = (.int .u8 r) ∧ K = L ++ F)) {r : (Vector Int 10)} (hm : impl_Square_mapped p0 f1 = some r) : Tr Tryd.prog G 63 [(.agg (e_S_Square.cells p0).toArray), (.func (.func g1) fs1.toArray cs1.toArray)] F (fun u K => ∃ x : Unit, u = (.agg (((Enc.int .u8).arr 10).cells r).toArray) ∧ K = F) := by
  unfold impl_Square_mapped at hm
  refine Tr.body Tryd.func63 rfl Tryd.ntmps63 ?_
  refine W.seq ?_
  refine W.region ?_
  refine WL.x (R.box rfl (cells_agg _)) rfl fun b1 => ?_
  refine WL.x (al72) rfl fun b2 => ?_
  refine WL.nil ?_
  refine Go.then_ ?_
  refine W.seq ?_
  refine W.region ?_
  refine WL.q (bz72 rfl) rfl ?_
  refine WL.x (al72) rfl fun b3 => ?_
  refine WL.x0 (R.store_bx (i := 0) rfl rfl rfl (fits_agg ((Enc.int .u8).arr 10) (Vector.replicate 10 0) sz72) (Up.all ((Enc.int .u8).arr 10) _ _)) fun _ => ?_
  refine WL.nil ?_
  refine Go.then_ ?_
  refine W.seq ?_
  refine W.seq ?_
  refine W.region ?_
  refine WL.q (R.load rfl (At.bx 2 rfl (Sub.refl _)) (lies_agg e_S_Square p0 ia29 sz29)) rfl ?_
  obtain ⟨o4, h5, hm⟩ := of_bind hm
  refine WL.x (R.call rfl en43 (impl_Square_elements_tr p0 h5)) rfl fun x6 => ?_
  refine WL.q (R.lenT rfl el63 (RdT.at 0 rfl)) rfl ?_
  refine WL.q (R.move rfl) rfl ?_
  refine WL.nil ?_
  refine Go.then_ ?_
  refine W.block ?_
  obtain ⟨o8, hlo8, hm⟩ := of_bind hm
  refine W.loopx (fun (s7 : ((Vector Int 10) × Int)) a w => Sat G ((slT (Enc.int .u8) x6 o4) :: (bx b3 (((Enc.int .u8).arr 10).cells s7.1)) :: (bx b2 (((Enc.int .u8).arr 10).cells (Vector.replicate 10 0))) :: F) 23 [(1, (.func (.func g1) fs1.toArray cs1.toArray)), (4, (.pointer (some ⟨b2, 0, none⟩))), (5, (.pointer (some ⟨b3, 0, none⟩))), (10, x6), (11, (.int .i64 (o4.length : Int))), (12, (.int .i64 s7.2))] a w) (fun (o8 : (Vector Int 10)) e a w => And (e = (.exit 0)) (Sat G ((bx b3 (((Enc.int .u8).arr 10).cells o8)) :: (bx b2 (((Enc.int .u8).arr 10).cells (Vector.replicate 10 0))) :: F) 23 [(4, (.pointer (some ⟨b2, 0, none⟩))), (5, (.pointer (some ⟨b3, 0, none⟩)))] a w)) hlo8 (fun a w s => (Sat.mk (s.env.le ⟨rfl, rfl, rfl, rfl, rfl, rfl, trivial⟩) (s.mem.reord [0, 1, 2] 4 rfl))) ?_ ?_
  · clear hm
    intro s7 x hm a w hJ
    have s := hJ
    unfold impl_Square_mapped_L1 at hm
    refine W.use s ?_
    refine W.seq ?_
    refine W.region ?_
    refine WL.q (R.lss rfl rfl) rfl ?_
    refine WL.nil ?_
    refine Go.then_ ?_
    refine W.seq ?_
    by_cases h21 : s7.2 < (o4.length : Int)
    · rw [if_pos h21] at hm
      refine W.cond_t rfl (decide_eq_true h21) ?_
      refine W.skip ?_
      refine Go.then_ ?_
      refine W.seq ?_
      refine W.block ?_
      refine W.seq ?_
      refine W.region ?_
      obtain ⟨h22, hm⟩ := of_guard hm
      refine WL.q (R.idxT rfl rfl el63 (RdT.at 0 rfl) h22) rfl ?_
      refine WL.q (R.load rfl (At.elT (RdT.at 0 rfl) (by decide) h22) (Lies.one _ ia5)) rfl ?_
      refine WL.q (R.assign rfl) rfl ?_
      refine WL.nil ?_
      refine Go.then_ ?_
      refine W.region ?_
      refine WL.q (R.move rfl) rfl ?_
      refine WL.q (R.move rfl) rfl ?_
      refine WL.q (R.move rfl) rfl ?_
      obtain ⟨o23, h24, hm⟩ := of_bind hm
      refine WL.x (R.callAny (fs := fs1) (cs := cs1) (vs := [(.int .u8 (gl o4 s7.2))]) rfl rfl en_1 (hf1 [(slT (Enc.int .u8) x6 o4), (bx b3 (((Enc.int .u8).arr 10).cells s7.1)), (bx b2 (((Enc.int .u8).arr 10).cells (Vector.replicate 10 0)))] (gl o4 s7.2) _ h24)) rfl fun x25 => ?_
      obtain ⟨h26, hm⟩ := of_guard hm
      refine WL.q (R.indexArr rfl rfl un72 sz5 h26.1 h26.2) rfl ?_
      refine WL.x0 (R.store_bx (i := 1) rfl rfl rfl (fits_int sz5) (Up.trans (Sub.refl _) (up_arr (Enc.int .u8) (v := s7.1) o23 h26.1 h26.2) (Up.all ((Enc.int .u8).arr 10) _ _))) fun _ => ?_
      refine WL.nil ?_
      refine Go.n_block ?_
      refine Go.then_ ?_
      refine W.region ?_
      refine WL.q (R.add rfl rfl) rfl ?_
      refine WL.q (R.move rfl) rfl ?_
      refine WL.nil ?_
      have he := Option.some.inj hm
      clear hm
      subst x
      exact fun a w s => Exists.intro _ (And.intro rfl (Sat.mk (s.env.le ⟨rfl, rfl, rfl, rfl, rfl, rfl, trivial⟩) (s.mem)))
    · rw [if_neg h21] at hm
      refine W.cond_f rfl (decide_eq_false h21) ?_
      refine W.exit ?_
      refine Go.x_then ?_
      have he := Option.some.inj hm
      clear hm
      subst x
      exact fun a w s => Exists.intro _ (And.intro rfl (And.intro rfl (Sat.mk (s.env.le ⟨rfl, rfl, trivial⟩) (s.mem.reord [1, 2] 3 rfl))))
  · intro e a w hJ
    obtain ⟨rfl, s⟩ := hJ
    refine Go.use s ?_
    refine Go.x_block ?_
    refine Go.then_ ?_
    refine W.seq ?_
    refine W.region ?_
    refine WL.q (R.load rfl (At.bx 0 rfl (Sub.refl _)) (lies_agg ((Enc.int .u8).arr 10) o8 ia72 sz72)) rfl ?_
    refine WL.x0 (R.store_bx (i := 1) rfl rfl rfl (fits_agg ((Enc.int .u8).arr 10) o8 sz72) (Up.all ((Enc.int .u8).arr 10) _ _)) fun _ => ?_
    refine WL.nil ?_
    refine Go.then_ ?_
    refine W.ret ?_
    have he := Option.some.inj hm
    clear hm
    subst r
    exact Go.ret1 rfl (.cell rfl (At.bx 1 rfl (Sub.refl _)) (lies_agg ((Enc.int .u8).arr 10) o8 ia72 sz72)) (fun w hw => ⟨_, rfl, _, ⟨(), rfl, rfl⟩, hw.reord [] 2 rfl⟩)
set_option maxRecDepth 100000 in
theorem impl_Square_right_tr {G : World} {F : List Res} (p0 : S_Square) (p1 : Int) (p2 : Int) {r : Int} (hm : impl_Square_right p0 p1 p2 = some r) : Tr Tryd.prog G 55 [(.agg (e_S_Square.cells p0).toArray), (.int .u8 p1), (.int .u8 p2)] F (fun u K => ∃ x : Unit, u = (.int .u8 r) ∧ K = F) := by
  unfold impl_Square_right at hm
  refine Tr.body Tryd.func55 rfl Tryd.ntmps55 ?_
  refine W.seq ?_
  refine W.region ?_
  refine WL.x (R.box rfl (cells_agg _)) rfl fun b1 => ?_
  refine WL.q (R.assign rfl) rfl ?_
  refine WL.nil ?_
  refine Go.then_ ?_
  refine W.seq ?_
  refine W.region ?_
  refine WL.q (R.assign rfl) rfl ?_
  refine WL.nil ?_
  refine Go.then_ ?_
  refine W.seq ?_
  refine W.block ?_
  obtain ⟨o3, hlo3, hm⟩ := of_bind hm
  refine W.loopx (fun (s2 : Int) a w => Sat G ((bx b1 (e_S_Square.cells p0)) :: F) 19 [(1, (.int .u8 p1)), (2, (.int .u8 p2)), (3, (.pointer (some ⟨b1, 0, none⟩))), (6, (.int .u8 0)), (7, (.int .u8 s2))] a w) (fun (o3 : Int) e a w => And (e = (.exit 0)) (Sat G F 19 [(6, (.int .u8 0)), (7, (.int .u8 o3))] a w)) hlo3 (fun a w s => (Sat.mk (s.env.le ⟨rfl, rfl, rfl, rfl, rfl, trivial⟩) (s.mem))) ?_ ?_
  · clear hm
    intro s2 x hm a w hJ
    have s := hJ
    unfold impl_Square_right_L1 at hm
    refine W.use s ?_
    refine W.seq ?_
    refine W.seq ?_
    refine W.region ?_
    refine WL.q (R.move rfl) rfl ?_
    refine WL.q (R.move rfl) rfl ?_
    refine WL.q (R.fieldAddr rfl fa29_1) rfl ?_
    obtain ⟨h9, hm⟩ := of_guard hm
    refine WL.q (R.indexArr rfl rfl un27 sz22 h9.1 h9.2) rfl ?_
    obtain ⟨h10, hm⟩ := of_guard hm
    refine WL.q (R.indexArr rfl rfl un22 sz5 h10.1 h10.2) rfl ?_
    refine WL.q (R.load rfl (At.sub (At.sub (At.sub (At.bx 0 rfl (Sub.refl _)) (e_S_Square_s1 p0)) (sub_arr ((Enc.int .u8).arr 10) (v := p0.Table) h9.1 h9.2)) (sub_arr (Enc.int .u8) (v := gv p0.Table s2) h10.1 h10.2)) (Lies.one _ ia5)) rfl ?_
    refine WL.q (R.move rfl) rfl ?_
    refine WL.q (R.neq rfl rfl) rfl ?_
    refine WL.nil ?_
    refine Go.then_ ?_
    by_cases h11 : gv (gv p0.Table s2) p2 ≠ p1
    · rw [if_pos h11] at hm
      refine W.cond_t rfl (decide_eq_true h11) ?_
      refine W.skip ?_
      refine Go.then_ ?_
      refine W.block ?_
      refine W.region ?_
      refine WL.q (R.move rfl) rfl ?_
      refine WL.q (R.add rfl rfl) rfl ?_
      refine WL.q (R.assign rfl) rfl ?_
      refine WL.nil ?_
      refine Go.n_block ?_
      have he := Option.some.inj hm
      clear hm
      subst x
      exact fun a w s => Exists.intro _ (And.intro rfl (Sat.mk (s.env.le ⟨rfl, rfl, rfl, rfl, rfl, trivial⟩) (s.mem)))
    · rw [if_neg h11] at hm
      refine W.cond_f rfl (decide_eq_false h11) ?_
      refine W.exit ?_
      refine Go.x_then ?_
      have he := Option.some.inj hm
      clear hm
      subst x
      exact fun a w s => Exists.intro _ (And.intro rfl (And.intro rfl (Sat.mk (s.env.le ⟨rfl, rfl, trivial⟩) (s.mem.reord [] 1 rfl))))
  · intro e a w hJ
    obtain ⟨rfl, s⟩ := hJ
    refine Go.use s ?_
    refine Go.x_block ?_
    refine Go.then_ ?_
    refine W.seq ?_
    refine W.region ?_
    refine WL.q (R.move rfl) rfl ?_
    refine WL.q (R.assign rfl) rfl ?_
    refine WL.nil ?_
    refine Go.then_ ?_
    refine W.ret ?_
    have he := Option.some.inj hm
    clear hm
    subst r
    exact Go.ret1 rfl (.tmp rfl) (fun w hw => ⟨_, rfl, _, ⟨(), rfl, rfl⟩, hw⟩)
set_option maxRecDepth 100000 in
theorem impl_Square_turn_c1_tr {G : World} {F : List Res} (p0 : Int) (c1 : Nat) (p1 : S_Square) (hp1 : At G F (.pointer (some ⟨c1, 0, none⟩)) (e_S_Square.cells p1)) (c2 : Nat) (p2 : Int) (hp2 : At G F (.pointer (some ⟨c2, 0, none⟩)) ((Enc.int .u8).cells p2)) {r : Int} (hm : impl_Square_turn_c1 p0 p1 p2 = some r) : Tr Tryd.prog G 64 [(.int .u8 p0), (.pointer (some ⟨c1, 0, none⟩)), (.pointer (some ⟨c2, 0, none⟩))] F (fun u K => ∃ x : Unit, u = (.int .u8 r) ∧ K = F) := by
  unfold impl_Square_turn_c1 at hm
  refine Tr.body Tryd.func64 rfl Tryd.ntmps64 ?_
  refine W.seq ?_
  refine W.region ?_
  refine WL.q (R.assign rfl) rfl ?_
  refine WL.nil ?_
  refine Go.then_ ?_
  refine W.seq ?_
  obtain ⟨h1, hm⟩ := of_guard hm
  obtain ⟨h2, hm⟩ := of_guard hm
  obtain ⟨o3, h4, hm⟩ := of_bind hm
  refine W.join1 (fun a w => ∃ x5 : Unit, Sat G F 14 [(4, (.int .u8 o3))] a w) ?_ ?_
  · refine W.draw (n := 10) F F 10 (by kernel_rfl) rfl rfl (fun w hw => hw) (fun w hw => hw.drop 0) ?_
    refine WK.q (i := 0) rfl rfl (by kernel_rfl) calm_n (R.load rfl (At.lift 0 rfl hp1) (lies_agg e_S_Square p1 ia29 sz29)) rfl rfl ?_
    refine WK.q (i := 1) rfl rfl (by kernel_rfl) calm_n (R.load rfl (At.lift 0 rfl hp2) (Lies.one _ ia5)) rfl rfl ?_
    refine WK.q (i := 2) rfl rfl (by kernel_rfl) calm_n (R.move rfl) rfl rfl ?_
    refine WK.q (i := 3) rfl rfl (by kernel_rfl) calm_n (R.fieldAddr rfl fa29_1) rfl rfl ?_
    refine WK.q (i := 4) rfl rfl (by kernel_rfl) calm_n (R.indexArr rfl rfl un27 sz22 h1.1 h1.2) rfl rfl ?_
    refine WK.q (i := 5) rfl rfl (by kernel_rfl) calm_n (R.indexArr rfl rfl un22 sz5 h2.1 h2.2) rfl rfl ?_
    refine WK.q (i := 6) rfl rfl (by kernel_rfl) calm_n (R.load rfl (At.sub (At.sub (At.sub (At.lift 0 rfl hp1) (e_S_Square_s1 p1)) (sub_arr ((Enc.int .u8).arr 10) (v := p1.Table) h1.1 h1.2)) (sub_arr (Enc.int .u8) (v := gv p1.Table p2) h2.1 h2.2)) (Lies.one _ ia5)) rfl rfl ?_
    refine WK.x (i := 7) (by kernel_rfl) rfl (OpV.x (R.load rfl (At.lift 0 rfl hp2) (Lies.one _ ia5))) (fun _ w hw => hw) (fun _ _ _ w hw => hw) rfl rfl (by kernel_rfl) fun _ => ?_
    refine WK.x (i := 8) (by kernel_rfl) rfl (R.call rfl en55 (impl_Square_right_tr p1 (gv (gv p1.Table p2) p0) p2 h4)) (fun _ w hw => hw) (fun _ _ _ w hw => hw) rfl rfl (by kernel_rfl) fun x5 => ?_
    refine WK.x (i := 9) (by kernel_rfl) rfl (OpV.x (R.assign rfl)) (fun _ w hw => hw) (fun _ _ _ w hw => hw) rfl rfl (by kernel_rfl) fun _ => ?_
    refine WK.nil (by kernel_rfl) ?_
    exact fun a w s => And.intro rfl (Exists.intro x5 (Sat.mk (s.env.le ⟨rfl, trivial⟩) (s.mem)))
  · refine Go2.ex fun x5 => ?_
    refine Go2.sat ?_
    refine Go.then_ ?_
    refine W.ret ?_
    have he := Option.some.inj hm
    clear hm
    subst r
    exact Go.ret1 rfl (.tmp rfl) (fun w hw => ⟨_, rfl, _, ⟨(), rfl, rfl⟩, hw⟩)
set_option maxRecDepth 100000 in
theorem impl_Square_turn_tr {G : World} {F : List Res} (p0 : S_Square) (p1 : Int) {r : (Vector Int 10)} (hm : impl_Square_turn p0 p1 = some r) : Tr Tryd.prog G 51 [(.agg (e_S_Square.cells p0).toArray), (.int .u8 p1)] F (fun u K => ∃ x : Unit, u = (.agg (((Enc.int .u8).arr 10).cells r).toArray) ∧ K = F) := by
  unfold impl_Square_turn at hm
  refine Tr.body Tryd.func51 rfl Tryd.ntmps51 ?_
  refine W.seq ?_
  refine W.region ?_
  refine WL.x (R.box rfl (cells_agg _)) rfl fun b1 => ?_
  refine WL.x (R.box rfl rfl) rfl fun b2 => ?_
  refine WL.x (al72) rfl fun b3 => ?_
  refine WL.nil ?_
  refine Go.then_ ?_
  refine W.seq ?_
  refine W.region ?_
  refine WL.q (R.load rfl (At.bx 2 rfl (Sub.refl _)) (lies_agg e_S_Square p0 ia29 sz29)) rfl ?_
  refine WL.q (R.makeFunc (fs := []) (cs := [(.pointer (some ⟨b1, 0, none⟩)), (.pointer (some ⟨b2, 0, none⟩))]) rfl rfl) rfl ?_
  obtain ⟨o4, h5, hm⟩ := of_bind hm
  refine WL.x (R.call rfl en63 (impl_Square_mapped_tr p0 64 [] [(.pointer (some ⟨b1, 0, none⟩)), (.pointer (some ⟨b2, 0, none⟩))] (fun a0 => impl_Square_turn_c1 a0 p0 p1) en64 (fun L a0 r h => impl_Square_turn_c1_tr (F := L ++ ((bx b3 (((Enc.int .u8).arr 10).cells (Vector.replicate 10 0))) :: (bx b2 ((Enc.int .u8).cells p1)) :: (bx b1 (e_S_Square.cells p0)) :: F)) a0 b1 p0 (At.bx 2 rfl (Sub.refl _)).liftL b2 p1 (At.bx 1 rfl (Sub.refl _)).liftL h) h5)) rfl fun x6 => ?_
  refine WL.x0 (R.store_bx (i := 0) rfl rfl rfl (fits_agg ((Enc.int .u8).arr 10) o4 sz72) (Up.all ((Enc.int .u8).arr 10) _ _)) fun _ => ?_
  refine WL.nil ?_
  refine Go.then_ ?_
  refine W.ret ?_
  have he := Option.some.inj hm
  clear hm
  subst r
  exact Go.ret1 rfl (.cell rfl (At.bx 0 rfl (Sub.refl _)) (lies_agg ((Enc.int .u8).arr 10) o4 ia72 sz72)) (fun w hw => ⟨_, rfl, _, ⟨(), rfl, rfl⟩, hw.reord [] 3 rfl⟩)
set_option maxRecDepth 100000 in
theorem impl_Square_left_tr {G : World} {F : List Res} (p0 : S_Square) (p1 : Int) (p2 : Int) {r : Int} (hm : impl_Square_left p0 p1 p2 = some r) : Tr Tryd.prog G 54 [(.agg (e_S_Square.cells p0).toArray), (.int .u8 p1), (.int .u8 p2)] F (fun u K => ∃ x : Unit, u = (.int .u8 r) ∧ K = F) := by
  unfold impl_Square_left at hm
  refine Tr.body Tryd.func54 rfl Tryd.ntmps54 ?_
  refine W.seq ?_
  refine W.region ?_
  refine WL.x (R.box rfl (cells_agg _)) rfl fun b1 => ?_
  refine WL.q (R.assign rfl) rfl ?_
  refine WL.nil ?_
  refine Go.then_ ?_
  refine W.seq ?_
  refine W.region ?_
  refine WL.q (R.assign rfl) rfl ?_
  refine WL.nil ?_
  refine Go.then_ ?_
  refine W.seq ?_
  refine W.block ?_
  obtain ⟨o3, hlo3, hm⟩ := of_bind hm
  refine W.loopx (fun (s2 : Int) a w => Sat G ((bx b1 (e_S_Square.cells p0)) :: F) 19 [(1, (.int .u8 p1)), (2, (.int .u8 p2)), (3, (.pointer (some ⟨b1, 0, none⟩))), (6, (.int .u8 0)), (7, (.int .u8 s2))] a w) (fun (o3 : Int) e a w => And (e = (.exit 0)) (Sat G F 19 [(6, (.int .u8 0)), (7, (.int .u8 o3))] a w)) hlo3 (fun a w s => (Sat.mk (s.env.le ⟨rfl, rfl, rfl, rfl, rfl, trivial⟩) (s.mem))) ?_ ?_
  · clear hm
    intro s2 x hm a w hJ
    have s := hJ
    unfold impl_Square_left_L1 at hm
    refine W.use s ?_
    refine W.seq ?_
    refine W.seq ?_
    refine W.region ?_
    refine WL.q (R.move rfl) rfl ?_
    refine WL.q (R.move rfl) rfl ?_
    refine WL.q (R.fieldAddr rfl fa29_1) rfl ?_
    obtain ⟨h9, hm⟩ := of_guard hm
    refine WL.q (R.indexArr rfl rfl un27 sz22 h9.1 h9.2) rfl ?_
    obtain ⟨h10, hm⟩ := of_guard hm
    refine WL.q (R.indexArr rfl rfl un22 sz5 h10.1 h10.2) rfl ?_
    refine WL.q (R.load rfl (At.sub (At.sub (At.sub (At.bx 0 rfl (Sub.refl _)) (e_S_Square_s1 p0)) (sub_arr ((Enc.int .u8).arr 10) (v := p0.Table) h9.1 h9.2)) (sub_arr (Enc.int .u8) (v := gv p0.Table p1) h10.1 h10.2)) (Lies.one _ ia5)) rfl ?_
    refine WL.q (R.move rfl) rfl ?_
    refine WL.q (R.neq rfl rfl) rfl ?_
    refine WL.nil ?_
    refine Go.then_ ?_
    by_cases h11 : gv (gv p0.Table p1) s2 ≠ p2
    · rw [if_pos h11] at hm
      refine W.cond_t rfl (decide_eq_true h11) ?_
      refine W.skip ?_
      refine Go.then_ ?_
      refine W.block ?_
      refine W.region ?_
      refine WL.q (R.move rfl) rfl ?_
      refine WL.q (R.add rfl rfl) rfl ?_
      refine WL.q (R.assign rfl) rfl ?_
      refine WL.nil ?_
      refine Go.n_block ?_
      have he := Option.some.inj hm
      clear hm
      subst x
      exact fun a w s => Exists.intro _ (And.intro rfl (Sat.mk (s.env.le ⟨rfl, rfl, rfl, rfl, rfl, trivial⟩) (s.mem)))
    · rw [if_neg h11] at hm
      refine W.cond_f rfl (decide_eq_false h11) ?_
      refine W.exit ?_
      refine Go.x_then ?_
      have he := Option.some.inj hm
      clear hm
      subst x
      exact fun a w s => Exists.intro _ (And.intro rfl (And.intro rfl (Sat.mk (s.env.le ⟨rfl, rfl, trivial⟩) (s.mem.reord [] 1 rfl))))
  · intro e a w hJ
    obtain ⟨rfl, s⟩ := hJ
    refine Go.use s ?_
    refine Go.x_block ?_
    refine Go.then_ ?_
    refine W.seq ?_
    refine W.region ?_
    refine WL.q (R.move rfl) rfl ?_
    refine WL.q (R.assign rfl) rfl ?_
    refine WL.nil ?_
    refine Go.then_ ?_
    refine W.ret ?_
    have he := Option.some.inj hm
    clear hm
    subst r
    exact Go.ret1 rfl (.tmp rfl) (fun w hw => ⟨_, rfl, _, ⟨(), rfl, rfl⟩, hw⟩)
set_option maxRecDepth 100000 in
theorem impl_Square_leftInner_c1_tr {G : World} {F : List Res} (p0 : Int) (c1 : Nat) (p1 : S_Square) (hp1 : At G F (.pointer (some ⟨c1, 0, none⟩)) (e_S_Square.cells p1)) (c2 : Nat) (p2 : Int) (hp2 : At G F (.pointer (some ⟨c2, 0, none⟩)) ((Enc.int .u8).cells p2)) (c3 : Nat) (p3 : Int) (hp3 : At G F (.pointer (some ⟨c3, 0, none⟩)) ((Enc.int .u8).cells p3)) {r : Int} (hm : impl_Square_leftInner_c1 p0 p1 p2 p3 = some r) : Tr Tryd.prog G 65 [(.int .u8 p0), (.pointer (some ⟨c1, 0, none⟩)), (.pointer (some ⟨c2, 0, none⟩)), (.pointer (some ⟨c3, 0, none⟩))] F (fun u K => ∃ x : Unit, u = (.int .u8 r) ∧ K = F) := by
  unfold impl_Square_leftInner_c1 at hm
  refine Tr.body Tryd.func65 rfl Tryd.ntmps65 ?_
  refine W.seq ?_
  refine W.region ?_
  refine WL.q (R.assign rfl) rfl ?_
  refine WL.nil ?_
  refine Go.then_ ?_
  refine W.seq ?_
  obtain ⟨h1, hm⟩ := of_guard hm
  obtain ⟨h2, hm⟩ := of_guard hm
  obtain ⟨h3, hm⟩ := of_guard hm
  obtain ⟨h4, hm⟩ := of_guard hm
  obtain ⟨o5, h6, hm⟩ := of_bind hm
  refine W.join1 (fun a w => ∃ x7 : Unit, Sat G F 25 [(5, (.int .u8 o5))] a w) ?_ ?_
  · refine W.draw (n := 20) F F 20 (by kernel_rfl) rfl rfl (fun w hw => hw) (fun w hw => hw.drop 0) ?_
    refine WK.q (i := 0) rfl rfl (by kernel_rfl) calm_n (R.load rfl (At.lift 0 rfl hp1) (lies_agg e_S_Square p1 ia29 sz29)) rfl rfl ?_
    refine WK.q (i := 1) rfl rfl (by kernel_rfl) calm_n (R.load rfl (At.lift 0 rfl hp2) (Lies.one _ ia5)) rfl rfl ?_
    refine WK.q (i := 2) rfl rfl (by kernel_rfl) calm_n (R.load rfl (At.lift 0 rfl hp3) (Lies.one _ ia5)) rfl rfl ?_
    refine WK.q (i := 3) rfl rfl (by kernel_rfl) calm_n (R.fieldAddr rfl fa29_1) rfl rfl ?_
    refine WK.q (i := 4) rfl rfl (by kernel_rfl) calm_n (R.indexArr rfl rfl un27 sz22 h1.1 h1.2) rfl rfl ?_
    refine WK.q (i := 5) rfl rfl (by kernel_rfl) calm_n (R.indexArr rfl rfl un22 sz5 h2.1 h2.2) rfl rfl ?_
    refine WK.q (i := 6) rfl rfl (by kernel_rfl) calm_n (R.load rfl (At.sub (At.sub (At.sub (At.lift 0 rfl hp1) (e_S_Square_s1 p1)) (sub_arr ((Enc.int .u8).arr 10) (v := p1.Table) h1.1 h1.2)) (sub_arr (Enc.int .u8) (v := gv p1.Table p2) h2.1 h2.2)) (Lies.one _ ia5)) rfl rfl ?_
    refine WK.q (i := 7) rfl rfl (by kernel_rfl) calm_n (R.load rfl (At.lift 0 rfl hp2) (Lies.one _ ia5)) rfl rfl ?_
    refine WK.q (i := 8) rfl rfl (by kernel_rfl) calm_n (R.load rfl (At.lift 0 rfl hp3) (Lies.one _ ia5)) rfl rfl ?_
    refine WK.q (i := 9) rfl rfl (by kernel_rfl) calm_n (R.move rfl) rfl rfl ?_
    refine WK.q (i := 10) rfl rfl (by kernel_rfl) calm_n (R.fieldAddr rfl fa29_1) rfl rfl ?_
    refine WK.q (i := 11) rfl rfl (by kernel_rfl) calm_n (R.indexArr rfl rfl un27 sz22 h2.1 h2.2) rfl rfl ?_
    refine WK.q (i := 12) rfl rfl (by kernel_rfl) calm_n (R.indexArr rfl rfl un22 sz5 h3.1 h3.2) rfl rfl ?_
    refine WK.q (i := 13) rfl rfl (by kernel_rfl) calm_n (R.load rfl (At.sub (At.sub (At.sub (At.lift 0 rfl hp1) (e_S_Square_s1 p1)) (sub_arr ((Enc.int .u8).arr 10) (v := p1.Table) h2.1 h2.2)) (sub_arr (Enc.int .u8) (v := gv p1.Table p3) h3.1 h3.2)) (Lies.one _ ia5)) rfl rfl ?_
    refine WK.x (i := 14) (by kernel_rfl) rfl (OpV.x (R.fieldAddr rfl fa29_1)) (fun _ w hw => hw) (fun _ _ _ w hw => hw) rfl rfl (by kernel_rfl) fun _ => ?_
    refine WK.x (i := 15) (by kernel_rfl) rfl (OpV.x (R.indexArr rfl rfl un27 sz22 h1.1 h1.2)) (fun _ w hw => hw) (fun _ _ _ w hw => hw) rfl rfl (by kernel_rfl) fun _ => ?_
    refine WK.x (i := 16) (by kernel_rfl) rfl (OpV.x (R.indexArr rfl rfl un22 sz5 h4.1 h4.2)) (fun _ w hw => hw) (fun _ _ _ w hw => hw) rfl rfl (by kernel_rfl) fun _ => ?_
    refine WK.x (i := 17) (by kernel_rfl) rfl (OpV.x (R.load rfl (At.sub (At.sub (At.sub (At.lift 0 rfl hp1) (e_S_Square_s1 p1)) (sub_arr ((Enc.int .u8).arr 10) (v := p1.Table) h1.1 h1.2)) (sub_arr (Enc.int .u8) (v := gv p1.Table p2) h4.1 h4.2)) (Lies.one _ ia5))) (fun _ w hw => hw) (fun _ _ _ w hw => hw) rfl rfl (by kernel_rfl) fun _ => ?_
    refine WK.x (i := 18) (by kernel_rfl) rfl (R.call rfl en54 (impl_Square_left_tr p1 (gv (gv p1.Table p2) p3) (gv (gv p1.Table p2) (gv (gv p1.Table p3) p0)) h6)) (fun _ w hw => hw) (fun _ _ _ w hw => hw) rfl rfl (by kernel_rfl) fun x7 => ?_
    refine WK.x (i := 19) (by kernel_rfl) rfl (OpV.x (R.assign rfl)) (fun _ w hw => hw) (fun _ _ _ w hw => hw) rfl rfl (by kernel_rfl) fun _ => ?_
    refine WK.nil (by kernel_rfl) ?_
    exact fun a w s => And.intro rfl (Exists.intro x7 (Sat.mk (s.env.le ⟨rfl, trivial⟩) (s.mem)))
  · refine Go2.ex fun x7 => ?_
    refine Go2.sat ?_
    refine Go.then_ ?_
    refine W.ret ?_
    have he := Option.some.inj hm
    clear hm
    subst r
    exact Go.ret1 rfl (.tmp rfl) (fun w hw => ⟨_, rfl, _, ⟨(), rfl, rfl⟩, hw⟩)
set_option maxRecDepth 100000 in
theorem impl_Square_leftInner_tr {G : World} {F : List Res} (p0 : S_Square) (p1 : Int) (p2 : Int) {r : (Vector Int 10)} (hm : impl_Square_leftInner p0 p1 p2 = some r) : Tr Tryd.prog G 52 [(.agg (e_S_Square.cells p0).toArray), (.int .u8 p1), (.int .u8 p2)] F (fun u K => ∃ x : Unit, u = (.agg (((Enc.int .u8).arr 10).cells r).toArray) ∧ K = F) := by
  unfold impl_Square_leftInner at hm
  refine Tr.body Tryd.func52 rfl Tryd.ntmps52 ?_
  refine W.seq ?_
  refine W.region ?_
  refine WL.x (R.box rfl (cells_agg _)) rfl fun b1 => ?_
  refine WL.x (R.box rfl rfl) rfl fun b2 => ?_
  refine WL.x (R.box rfl rfl) rfl fun b3 => ?_
  refine WL.x (al72) rfl fun b4 => ?_
  refine WL.nil ?_
  refine Go.then_ ?_
  refine W.seq ?_
  refine W.region ?_
  refine WL.q (R.load rfl (At.bx 3 rfl (Sub.refl _)) (lies_agg e_S_Square p0 ia29 sz29)) rfl ?_
  refine WL.q (R.makeFunc (fs := []) (cs := [(.pointer (some ⟨b1, 0, none⟩)), (.pointer (some ⟨b3, 0, none⟩)), (.pointer (some ⟨b2, 0, none⟩))]) rfl rfl) rfl ?_
  obtain ⟨o5, h6, hm⟩ := of_bind hm
  refine WL.x (R.call rfl en63 (impl_Square_mapped_tr p0 65 [] [(.pointer (some ⟨b1, 0, none⟩)), (.pointer (some ⟨b3, 0, none⟩)), (.pointer (some ⟨b2, 0, none⟩))] (fun a0 => impl_Square_leftInner_c1 a0 p0 p2 p1) en65 (fun L a0 r h => impl_Square_leftInner_c1_tr (F := L ++ ((bx b4 (((Enc.int .u8).arr 10).cells (Vector.replicate 10 0))) :: (bx b3 ((Enc.int .u8).cells p2)) :: (bx b2 ((Enc.int .u8).cells p1)) :: (bx b1 (e_S_Square.cells p0)) :: F)) a0 b1 p0 (At.bx 3 rfl (Sub.refl _)).liftL b3 p2 (At.bx 1 rfl (Sub.refl _)).liftL b2 p1 (At.bx 2 rfl (Sub.refl _)).liftL h) h6)) rfl fun x7 => ?_
  refine WL.x0 (R.store_bx (i := 0) rfl rfl rfl (fits_agg ((Enc.int .u8).arr 10) o5 sz72) (Up.all ((Enc.int .u8).arr 10) _ _)) fun _ => ?_
  refine WL.nil ?_
  refine Go.then_ ?_
  refine W.ret ?_
  have he := Option.some.inj hm
  clear hm
  subst r
  exact Go.ret1 rfl (.cell rfl (At.bx 0 rfl (Sub.refl _)) (lies_agg ((Enc.int .u8).arr 10) o5 ia72 sz72)) (fun w hw => ⟨_, rfl, _, ⟨(), rfl, rfl⟩, hw.reord [] 4 rfl⟩)
set_option maxRecDepth 100000 in
theorem impl_Square_rightInner_c1_tr {G : World} {F : List Res} (p0 : Int) (c1 : Nat) (p1 : S_Square) (hp1 : At G F (.pointer (some ⟨c1, 0, none⟩)) (e_S_Square.cells p1)) (c2 : Nat) (p2 : Int) (hp2 : At G F (.pointer (some ⟨c2, 0, none⟩)) ((Enc.int .u8).cells p2)) (c3 : Nat) (p3 : Int) (hp3 : At G F (.pointer (some ⟨c3, 0, none⟩)) ((Enc.int .u8).cells p3)) {r : Int} (hm : impl_Square_rightInner_c1 p0 p1 p2 p3 = some r) : Tr Tryd.prog G 66 [(.int .u8 p0), (.pointer (some ⟨c1, 0, none⟩)), (.pointer (some ⟨c2, 0, none⟩)), (.pointer (some ⟨c3, 0, none⟩))] F (fun u K => ∃ x : Unit, u = (.int .u8 r) ∧ K = F) := by
  unfold impl_Square_rightInner_c1 at hm
  refine Tr.body Tryd.func66 rfl Tryd.ntmps66 ?_
  refine W.seq ?_
  refine W.region ?_
  refine WL.q (R.assign rfl) rfl ?_
  refine WL.nil ?_
  refine Go.then_ ?_
  refine W.seq ?_
  obtain ⟨h1, hm⟩ := of_guard hm
  obtain ⟨h2, hm⟩ := of_guard hm
  obtain ⟨h3, hm⟩ := of_guard hm
  obtain ⟨h4, hm⟩ := of_guard hm
  obtain ⟨o5, h6, hm⟩ := of_bind hm
  refine W.join1 (fun a w => ∃ x7 : Unit, Sat G F 25 [(5, (.int .u8 o5))] a w) ?_ ?_
  · refine W.draw (n := 20) F F 20 (by kernel_rfl) rfl rfl (fun w hw => hw) (fun w hw => hw.drop 0) ?_
    refine WK.q (i := 0) rfl rfl (by kernel_rfl) calm_n (R.load rfl (At.lift 0 rfl hp1) (lies_agg e_S_Square p1 ia29 sz29)) rfl rfl ?_
    refine WK.q (i := 1) rfl rfl (by kernel_rfl) calm_n (R.move rfl) rfl rfl ?_
    refine WK.q (i := 2) rfl rfl (by kernel_rfl) calm_n (R.load rfl (At.lift 0 rfl hp2) (Lies.one _ ia5)) rfl rfl ?_
    refine WK.q (i := 3) rfl rfl (by kernel_rfl) calm_n (R.fieldAddr rfl fa29_1) rfl rfl ?_
    refine WK.q (i := 4) rfl rfl (by kernel_rfl) calm_n (R.indexArr rfl rfl un27 sz22 h1.1 h1.2) rfl rfl ?_
    refine WK.q (i := 5) rfl rfl (by kernel_rfl) calm_n (R.indexArr rfl rfl un22 sz5 h2.1 h2.2) rfl rfl ?_
    refine WK.q (i := 6) rfl rfl (by kernel_rfl) calm_n (R.load rfl (At.sub (At.sub (At.sub (At.lift 0 rfl hp1) (e_S_Square_s1 p1)) (sub_arr ((Enc.int .u8).arr 10) (v := p1.Table) h1.1 h1.2)) (sub_arr (Enc.int .u8) (v := gv p1.Table p0) h2.1 h2.2)) (Lies.one _ ia5)) rfl rfl ?_
    refine WK.q (i := 7) rfl rfl (by kernel_rfl) calm_n (R.load rfl (At.lift 0 rfl hp3) (Lies.one _ ia5)) rfl rfl ?_
    refine WK.q (i := 8) rfl rfl (by kernel_rfl) calm_n (R.fieldAddr rfl fa29_1) rfl rfl ?_
    refine WK.q (i := 9) rfl rfl (by kernel_rfl) calm_n (R.indexArr rfl rfl un27 sz22 h3.1 h3.2) rfl rfl ?_
    refine WK.q (i := 10) rfl rfl (by kernel_rfl) calm_n (R.indexArr rfl rfl un22 sz5 h4.1 h4.2) rfl rfl ?_
    refine WK.q (i := 11) rfl rfl (by kernel_rfl) calm_n (R.load rfl (At.sub (At.sub (At.sub (At.lift 0 rfl hp1) (e_S_Square_s1 p1)) (sub_arr ((Enc.int .u8).arr 10) (v := p1.Table) h3.1 h3.2)) (sub_arr (Enc.int .u8) (v := gv p1.Table (gv (gv p1.Table p0) p2)) h4.1 h4.2)) (Lies.one _ ia5)) rfl rfl ?_
    refine WK.q (i := 12) rfl rfl (by kernel_rfl) calm_n (R.load rfl (At.lift 0 rfl hp2) (Lies.one _ ia5)) rfl rfl ?_
    refine WK.q (i := 13) rfl rfl (by kernel_rfl) calm_n (R.load rfl (At.lift 0 rfl hp3) (Lies.one _ ia5)) rfl rfl ?_
    refine WK.x (i := 14) (by kernel_rfl) rfl (OpV.x (R.fieldAddr rfl fa29_1)) (fun _ w hw => hw) (fun _ _ _ w hw => hw) rfl rfl (by kernel_rfl) fun _ => ?_
    refine WK.x (i := 15) (by kernel_rfl) rfl (OpV.x (R.indexArr rfl rfl un27 sz22 h2.1 h2.2)) (fun _ w hw => hw) (fun _ _ _ w hw => hw) rfl rfl (by kernel_rfl) fun _ => ?_
    refine WK.x (i := 16) (by kernel_rfl) rfl (OpV.x (R.indexArr rfl rfl un22 sz5 h4.1 h4.2)) (fun _ w hw => hw) (fun _ _ _ w hw => hw) rfl rfl (by kernel_rfl) fun _ => ?_
    refine WK.x (i := 17) (by kernel_rfl) rfl (OpV.x (R.load rfl (At.sub (At.sub (At.sub (At.lift 0 rfl hp1) (e_S_Square_s1 p1)) (sub_arr ((Enc.int .u8).arr 10) (v := p1.Table) h2.1 h2.2)) (sub_arr (Enc.int .u8) (v := gv p1.Table p2) h4.1 h4.2)) (Lies.one _ ia5))) (fun _ w hw => hw) (fun _ _ _ w hw => hw) rfl rfl (by kernel_rfl) fun _ => ?_
    refine WK.x (i := 18) (by kernel_rfl) rfl (R.call rfl en55 (impl_Square_right_tr p1 (gv (gv p1.Table (gv (gv p1.Table p0) p2)) p3) (gv (gv p1.Table p2) p3) h6)) (fun _ w hw => hw) (fun _ _ _ w hw => hw) rfl rfl (by kernel_rfl) fun x7 => ?_
    refine WK.x (i := 19) (by kernel_rfl) rfl (OpV.x (R.assign rfl)) (fun _ w hw => hw) (fun _ _ _ w hw => hw) rfl rfl (by kernel_rfl) fun _ => ?_
    refine WK.nil (by kernel_rfl) ?_
    exact fun a w s => And.intro rfl (Exists.intro x7 (Sat.mk (s.env.le ⟨rfl, trivial⟩) (s.mem)))
  · refine Go2.ex fun x7 => ?_
    refine Go2.sat ?_
    refine Go.then_ ?_
    refine W.ret ?_
    have he := Option.some.inj hm
    clear hm
    subst r
    exact Go.ret1 rfl (.tmp rfl) (fun w hw => ⟨_, rfl, _, ⟨(), rfl, rfl⟩, hw⟩)
set_option maxRecDepth 100000 in
theorem impl_Square_rightInner_tr {G : World} {F : List Res} (p0 : S_Square) (p1 : Int) (p2 : Int) {r : (Vector Int 10)} (hm : impl_Square_rightInner p0 p1 p2 = some r) : Tr Tryd.prog G 53 [(.agg (e_S_Square.cells p0).toArray), (.int .u8 p1), (.int .u8 p2)] F (fun u K => ∃ x : Unit, u = (.agg (((Enc.int .u8).arr 10).cells r).toArray) ∧ K = F) := by
  unfold impl_Square_rightInner at hm
  refine Tr.body Tryd.func53 rfl Tryd.ntmps53 ?_
  refine W.seq ?_
  refine W.region ?_
  refine WL.x (R.box rfl (cells_agg _)) rfl fun b1 => ?_
  refine WL.x (R.box rfl rfl) rfl fun b2 => ?_
  refine WL.x (R.box rfl rfl) rfl fun b3 => ?_
  refine WL.x (al72) rfl fun b4 => ?_
  refine WL.nil ?_
  refine Go.then_ ?_
  refine W.seq ?_
  refine W.region ?_
  refine WL.q (R.load rfl (At.bx 3 rfl (Sub.refl _)) (lies_agg e_S_Square p0 ia29 sz29)) rfl ?_
  refine WL.q (R.makeFunc (fs := []) (cs := [(.pointer (some ⟨b1, 0, none⟩)), (.pointer (some ⟨b2, 0, none⟩)), (.pointer (some ⟨b3, 0, none⟩))]) rfl rfl) rfl ?_
  obtain ⟨o5, h6, hm⟩ := of_bind hm
  refine WL.x (R.call rfl en63 (impl_Square_mapped_tr p0 66 [] [(.pointer (some ⟨b1, 0, none⟩)), (.pointer (some ⟨b2, 0, none⟩)), (.pointer (some ⟨b3, 0, none⟩))] (fun a0 => impl_Square_rightInner_c1 a0 p0 p1 p2) en66 (fun L a0 r h => impl_Square_rightInner_c1_tr (F := L ++ ((bx b4 (((Enc.int .u8).arr 10).cells (Vector.replicate 10 0))) :: (bx b3 ((Enc.int .u8).cells p2)) :: (bx b2 ((Enc.int .u8).cells p1)) :: (bx b1 (e_S_Square.cells p0)) :: F)) a0 b1 p0 (At.bx 3 rfl (Sub.refl _)).liftL b2 p1 (At.bx 2 rfl (Sub.refl _)).liftL b3 p2 (At.bx 1 rfl (Sub.refl _)).liftL h) h6)) rfl fun x7 => ?_
  refine WL.x0 (R.store_bx (i := 0) rfl rfl rfl (fits_agg ((Enc.int .u8).arr 10) o5 sz72) (Up.all ((Enc.int .u8).arr 10) _ _)) fun _ => ?_
  refine WL.nil ?_
  refine Go.then_ ?_
  refine W.ret ?_
  have he := Option.some.inj hm
  clear hm
  subst r
  exact Go.ret1 rfl (.cell rfl (At.bx 0 rfl (Sub.refl _)) (lies_agg ((Enc.int .u8).arr 10) o5 ia72 sz72)) (fun w hw => ⟨_, rfl, _, ⟨(), rfl, rfl⟩, hw.reord [] 4 rfl⟩)
set_option maxRecDepth 100000 in
theorem impl_Square_inner_tr {G : World} {F : List Res} (p0 : S_Square) {r : (List (Vector Int 10))} (hm : impl_Square_inner p0 = some r) : Tr Tryd.prog G 40 [(.agg (e_S_Square.cells p0).toArray)] F (fun u K => ∃ x : Value, u = x ∧ K = ((slT ((Enc.int .u8).arr 10) x r) :: F)) := by
  unfold impl_Square_inner at hm
  refine Tr.body Tryd.func40 rfl Tryd.ntmps40 ?_
  refine W.seq ?_
  refine W.region ?_
  refine WL.x (R.box rfl (cells_agg _)) rfl fun b1 => ?_
  refine WL.q (R.assign rfl) rfl ?_
  refine WL.nil ?_
  refine Go.then_ ?_
  refine W.seq ?_
  refine W.region ?_
  refine WL.x (R.buildT ([] : List (Vector Int 10)) el70 rfl rfl rfl rfl rfl (by decide) (by decide)) rfl fun v2 => ?_
  refine WL.q (R.assign rfl) rfl ?_
  refine WL.nil ?_
  refine Go.then_ ?_
  refine W.seq ?_
  refine W.seq ?_
  refine W.region ?_
  refine WL.q (R.load rfl (At.bx 1 rfl (Sub.refl _)) (lies_agg e_S_Square p0 ia29 sz29)) rfl ?_
  obtain ⟨o3, h4, hm⟩ := of_bind hm
  refine WL.x (R.call rfl en43 (impl_Square_elements_tr p0 h4)) rfl fun x5 => ?_
  refine WL.q (R.lenT rfl el63 (RdT.at 0 rfl)) rfl ?_
  refine WL.q (R.move rfl) rfl ?_
  refine WL.nil ?_
  refine Go.then_ ?_
  refine W.block ?_
  obtain ⟨o7, hlo7, hm⟩ := of_bind hm
  refine W.loopx (fun (s6 : ((List (Vector Int 10)) × Int)) a w => ∃ v109 : Value, Sat G ((slT ((Enc.int .u8).arr 10) v109 s6.1) :: (slT (Enc.int .u8) x5 o3) :: (bx b1 (e_S_Square.cells p0)) :: F) 43 [(1, (.pointer (some ⟨b1, 0, none⟩))), (2, (.slice none 0 0)), (3, v109), (10, x5), (11, (.int .i64 (o3.length : Int))), (12, (.int .i64 s6.2))] a w) (fun (o7 : (List (Vector Int 10))) e a w => And (e = (.exit 0)) (∃ v161 : Value, Sat G ((slT ((Enc.int .u8).arr 10) v161 o7) :: F) 43 [(2, (.slice none 0 0)), (3, v161)] a w)) hlo7 (fun a w s => (Exists.intro v2 (Sat.mk (s.env.le ⟨rfl, rfl, rfl, rfl, rfl, rfl, trivial⟩) (s.mem.reord [1, 0, 2] 3 rfl)))) ?_ ?_
  · clear hm
    intro s6 x hm a w hJ
    obtain ⟨v109, s⟩ := hJ
    unfold impl_Square_inner_L1 at hm
    refine W.use s ?_
    refine W.seq ?_
    refine W.region ?_
    refine WL.q (R.lss rfl rfl) rfl ?_
    refine WL.nil ?_
    refine Go.then_ ?_
    refine W.seq ?_
    by_cases h110 : s6.2 < (o3.length : Int)
    · rw [if_pos h110] at hm
      refine W.cond_t rfl (decide_eq_true h110) ?_
      refine W.skip ?_
      refine Go.then_ ?_
      refine W.seq ?_
      refine W.block ?_
      refine W.seq ?_
      refine W.region ?_
      obtain ⟨h111, hm⟩ := of_guard hm
      refine WL.q (R.idxT rfl rfl el63 (RdT.at 1 rfl) h111) rfl ?_
      refine WL.q (R.load rfl (At.elT (RdT.at 1 rfl) (by decide) h111) (Lies.one _ ia5)) rfl ?_
      refine WL.q (R.assign rfl) rfl ?_
      refine WL.nil ?_
      refine Go.then_ ?_
      refine W.seq ?_
      refine W.region ?_
      refine WL.q (R.move rfl) rfl ?_
      refine WL.q (R.load rfl (At.bx 2 rfl (Sub.refl _)) (lies_agg e_S_Square p0 ia29 sz29)) rfl ?_
      refine WL.q (R.move rfl) rfl ?_
      obtain ⟨o112, h113, hm⟩ := of_bind hm
      refine WL.x (R.call rfl en51 (impl_Square_turn_tr p0 (gl o3 s6.2) h113)) rfl fun x114 => ?_
      refine WL.x (R.buildT ([o112]) el70 rfl rfl rfl rfl (by simp [cells_agg]) (by decide) (by decide)) rfl fun v115 => ?_
      obtain ⟨h116, hm⟩ := of_guard hm
      refine WL.x (R.appendT 1 rfl rfl rfl el70 el70 (RdT.at 0 rfl) h116) rfl fun v117 => ?_
      refine WL.q (R.assign rfl) rfl ?_
      refine WL.nil ?_
      refine Go.then_ ?_
      refine W.seq ?_
      refine W.region ?_
      refine WL.q (R.load rfl (At.bx 3 rfl (Sub.refl _)) (lies_agg e_S_Square p0 ia29 sz29)) rfl ?_
      obtain ⟨o118, h119, hm⟩ := of_bind hm
      refine WL.x (R.call rfl en43 (impl_Square_elements_tr p0 h119)) rfl fun x120 => ?_
      refine WL.q (R.lenT rfl el63 (RdT.at 0 rfl)) rfl ?_
      refine WL.q (R.move rfl) rfl ?_
      refine WL.nil ?_
      refine Go.then_ ?_
      refine W.block ?_
      obtain ⟨o122, hlo122, hm⟩ := of_bind hm
      refine W.loopx (fun (s121 : ((List (Vector Int 10)) × Int)) a w => ∃ v146 : Value, Sat G ((slT ((Enc.int .u8).arr 10) v146 s121.1) :: (slT (Enc.int .u8) x120 o118) :: (slT (Enc.int .u8) x5 o3) :: (bx b1 (e_S_Square.cells p0)) :: F) 43 [(1, (.pointer (some ⟨b1, 0, none⟩))), (2, (.slice none 0 0)), (3, v146), (5, (.int .u8 (gl o3 s6.2))), (10, x5), (11, (.int .i64 (o3.length : Int))), (12, (.int .i64 s6.2)), (23, x120), (24, (.int .i64 (o118.length : Int))), (25, (.int .i64 s121.2))] a w) (fun (o122 : (List (Vector Int 10))) e a w => And (e = (.exit 2)) (∃ v159 : Value, Sat G ((slT ((Enc.int .u8).arr 10) v159 o122) :: (slT (Enc.int .u8) x5 o3) :: (bx b1 (e_S_Square.cells p0)) :: F) 43 [(1, (.pointer (some ⟨b1, 0, none⟩))), (2, (.slice none 0 0)), (3, v159), (10, x5), (11, (.int .i64 (o3.length : Int))), (12, (.int .i64 s6.2))] a w)) hlo122 (fun a w s => (Exists.intro v117 (Sat.mk (s.env.le ⟨rfl, rfl, rfl, rfl, rfl, rfl, rfl, rfl, rfl, rfl, trivial⟩) (s.mem.reord [2, 0, 3, 4] 5 rfl)))) ?_ ?_
      · clear hm
        intro s121 x hm a w hJ
        obtain ⟨v146, s⟩ := hJ
        unfold impl_Square_inner_L2 at hm
        refine W.use s ?_
        refine W.seq ?_
        refine W.region ?_
        refine WL.q (R.lss rfl rfl) rfl ?_
        refine WL.nil ?_
        refine Go.then_ ?_
        refine W.seq ?_
        by_cases h147 : s121.2 < (o118.length : Int)
        · rw [if_pos h147] at hm
          refine W.cond_t rfl (decide_eq_true h147) ?_
          refine W.skip ?_
          refine Go.then_ ?_
          refine W.seq ?_
          refine W.block ?_
          refine W.seq ?_
          refine W.region ?_
          obtain ⟨h148, hm⟩ := of_guard hm
          refine WL.q (R.idxT rfl rfl el63 (RdT.at 1 rfl) h148) rfl ?_
          refine WL.q (R.load rfl (At.elT (RdT.at 1 rfl) (by decide) h148) (Lies.one _ ia5)) rfl ?_
          refine WL.q (R.assign rfl) rfl ?_
          refine WL.nil ?_
          refine Go.then_ ?_
          obtain ⟨o149, h150, hm⟩ := of_bind hm
          obtain ⟨o152, h153, hm⟩ := of_bind hm
          obtain ⟨h156, hm⟩ := of_guard hm
          refine W.join1 (fun a w => ∃ x151 : Unit, ∃ x154 : Unit, ∃ v155 : Value, ∃ v157 : Value, Sat G ((slT ((Enc.int .u8).arr 10) v155 ([o149, o152])) :: (slT ((Enc.int .u8).arr 10) v157 (s121.1 ++ ([o149, o152]))) :: (slT (Enc.int .u8) x120 o118) :: (slT (Enc.int .u8) x5 o3) :: (bx b1 (e_S_Square.cells p0)) :: F) 43 [(1, (.pointer (some ⟨b1, 0, none⟩))), (2, (.slice none 0 0)), (3, v157), (5, (.int .u8 (gl o3 s6.2))), (10, x5), (11, (.int .i64 (o3.length : Int))), (12, (.int .i64 s6.2)), (23, x120), (24, (.int .i64 (o118.length : Int))), (25, (.int .i64 s121.2))] a w) ?_ ?_
          · refine W.draw (n := 12) ((slT (Enc.int .u8) x120 o118) :: (slT (Enc.int .u8) x5 o3) :: (bx b1 (e_S_Square.cells p0)) :: F) F 12 (by kernel_rfl) rfl rfl (fun w hw => hw.reord [1, 2, 3] 4 rfl) (fun w hw => hw.drop 4) ?_
            refine WK.q (i := 0) rfl rfl (by kernel_rfl) calm_n (R.move rfl) rfl rfl ?_
            refine WK.q (i := 1) rfl rfl (by kernel_rfl) calm_n (R.load rfl (At.bx 2 rfl (Sub.refl _)) (lies_agg e_S_Square p0 ia29 sz29)) rfl rfl ?_
            refine WK.q (i := 2) rfl rfl (by kernel_rfl) calm_n (R.move rfl) rfl rfl ?_
            refine WK.q (i := 3) rfl rfl (by kernel_rfl) calm_n (R.move rfl) rfl rfl ?_
            refine WK.q (i := 5) rfl rfl (by kernel_rfl) calm_n (R.load rfl (At.bx 2 rfl (Sub.refl _)) (lies_agg e_S_Square p0 ia29 sz29)) rfl rfl ?_
            refine WK.q (i := 6) rfl rfl (by kernel_rfl) calm_n (R.move rfl) rfl rfl ?_
            refine WK.q (i := 7) rfl rfl (by kernel_rfl) calm_n (R.move rfl) rfl rfl ?_
            refine WK.x (i := 4) (by kernel_rfl) rfl (R.call rfl en52 (impl_Square_leftInner_tr p0 (gl o3 s6.2) (gl o118 s121.2) h150)) (fun _ w hw => hw.reord [1, 2, 3] 4 rfl) (fun _ _ _ w hw => hw.reord [] 4 rfl) rfl rfl (by kernel_rfl) fun x151 => ?_
            refine WK.x (i := 8) (by kernel_rfl) rfl (R.call rfl en53 (impl_Square_rightInner_tr p0 (gl o3 s6.2) (gl o118 s121.2) h153)) (fun _ w hw => hw.reord [1, 2, 3] 4 rfl) (fun _ _ _ w hw => hw.reord [] 4 rfl) rfl rfl (by kernel_rfl) fun x154 => ?_
            refine WK.x (i := 9) (by kernel_rfl) rfl (R.buildT ([o149, o152]) el70 rfl rfl rfl rfl (by simp [cells_agg]) (by decide) (by decide)) (fun _ w hw => hw.reord [2, 3, 4] 5 rfl) (fun _ _ _ w hw => hw.reord [] 5 rfl) rfl rfl (by kernel_rfl) fun v155 => ?_
            refine WK.x (i := 10) (by kernel_rfl) rfl (R.appendT 1 rfl rfl rfl el70 el70 (RdT.at 0 rfl) h156) (fun _ w hw => hw.reord [2, 3, 4] 5 rfl) (fun _ _ _ w hw => hw.reord [] 5 rfl) rfl rfl (by kernel_rfl) fun v157 => ?_
            refine WK.x (i := 11) (by kernel_rfl) rfl (OpV.x (R.assign rfl)) (fun _ w hw => hw.reord [2, 3, 4] 5 rfl) (fun _ _ _ w hw => hw.reord [] 5 rfl) rfl rfl (by kernel_rfl) fun _ => ?_
            refine WK.nil (by kernel_rfl) ?_
            exact fun a w s => And.intro rfl (Exists.intro x151 (Exists.intro x154 (Exists.intro v155 (Exists.intro v157 (Sat.mk (s.env.le ⟨rfl, rfl, rfl, rfl, rfl, rfl, rfl, rfl, rfl, rfl, trivial⟩) (s.mem))))))
          · refine Go2.ex fun x151 => ?_
            refine Go2.ex fun x154 => ?_
            refine Go2.ex fun v155 => ?_
            refine Go2.ex fun v157 => ?_
            refine Go2.sat ?_
            refine Go.n_block ?_
            refine Go.then_ ?_
            refine W.region ?_
            refine WL.q (R.add rfl rfl) rfl ?_
            refine WL.q (R.move rfl) rfl ?_
            refine WL.nil ?_
            have he := Option.some.inj hm
            clear hm
            subst x
            exact fun a w s => Exists.intro _ (And.intro rfl (Exists.intro v157 (Sat.mk (s.env.le ⟨rfl, rfl, rfl, rfl, rfl, rfl, rfl, rfl, rfl, rfl, trivial⟩) (s.mem.reord [1, 2, 3, 4] 5 rfl))))
        · rw [if_neg h147] at hm
          refine W.cond_f rfl (decide_eq_false h147) ?_
          refine W.exit ?_
          refine Go.x_then ?_
          have he := Option.some.inj hm
          clear hm
          subst x
          exact fun a w s => Exists.intro _ (And.intro rfl (And.intro rfl (Exists.intro v146 (Sat.mk (s.env.le ⟨rfl, rfl, rfl, rfl, rfl, rfl, trivial⟩) (s.mem.reord [0, 2, 3] 4 rfl)))))
      · intro e a w hJ
        obtain ⟨rfl, v159, s⟩ := hJ
        refine Go.use s ?_
        refine Go.x_block ?_
        refine Go.n_block ?_
        refine Go.then_ ?_
        refine W.region ?_
        refine WL.q (R.add rfl rfl) rfl ?_
        refine WL.q (R.move rfl) rfl ?_
        refine WL.nil ?_
        have he := Option.some.inj hm
        clear hm
        subst x
        exact fun a w s => Exists.intro _ (And.intro rfl (Exists.intro v159 (Sat.mk (s.env.le ⟨rfl, rfl, rfl, rfl, rfl, rfl, trivial⟩) (s.mem))))
    · rw [if_neg h110] at hm
      refine W.cond_f rfl (decide_eq_false h110) ?_
      refine W.exit ?_
      refine Go.x_then ?_
      have he := Option.some.inj hm
      clear hm
      subst x
      exact fun a w s => Exists.intro _ (And.intro rfl (And.intro rfl (Exists.intro v109 (Sat.mk (s.env.le ⟨rfl, rfl, trivial⟩) (s.mem.reord [0] 3 rfl)))))
  · intro e a w hJ
    obtain ⟨rfl, v161, s⟩ := hJ
    refine Go.use s ?_
    refine Go.x_block ?_
    refine Go.then_ ?_
    refine W.seq ?_
    refine W.region ?_
    refine WL.q (R.move rfl) rfl ?_
    refine WL.q (R.assign rfl) rfl ?_
    refine WL.nil ?_
    refine Go.then_ ?_
    refine W.ret ?_
    have he := Option.some.inj hm
    clear hm
    subst r
    exact Go.ret1 rfl (.tmp rfl) (fun w hw => ⟨_, rfl, _, ⟨v161, rfl, rfl⟩, hw⟩)
set_option maxRecDepth 100000 in
theorem impl_set_has_tr {G : World} {F : List Res} (p0 : Int) (p1 : Int) {r : Bool} (hm : impl_set_has p0 p1 = some r) : Tr Tryd.prog G 48 [(.int .i64 p0), (.int .u8 p1)] F (fun u K => ∃ x : Unit, u = (.bool r) ∧ K = F) := by
  unfold impl_set_has at hm
  refine Tr.body Tryd.func48 rfl Tryd.ntmps48 ?_
  refine W.seq ?_
  refine W.region ?_
  refine WL.q (R.assign rfl) rfl ?_
  refine WL.nil ?_
  refine Go.then_ ?_
  refine W.seq ?_
  refine W.region ?_
  refine WL.q (R.move rfl) rfl ?_
  refine WL.q (R.move rfl) rfl ?_
  obtain ⟨h1, hm⟩ := of_guard hm
  refine WL.q (R.shr rfl rfl h1) rfl ?_
  refine WL.q (R.and rfl rfl) rfl ?_
  refine WL.q (R.eql rfl rfl) rfl ?_
  refine WL.q (R.assign rfl) rfl ?_
  refine WL.nil ?_
  refine Go.then_ ?_
  refine W.ret ?_
  have he := Option.some.inj hm
  clear hm
  subst r
  exact Go.ret1 rfl (.tmp rfl) (fun w hw => ⟨_, rfl, _, ⟨(), rfl, rfl⟩, hw⟩)
set_option maxRecDepth 100000 in
theorem impl_Square_generated_tr {G : World} {F : List Res} (p0 : S_Square) (p1 : Int) {r : Int} (hm : impl_Square_generated p0 p1 = some r) : Tr Tryd.prog G 41 [(.agg (e_S_Square.cells p0).toArray), (.int .i64 p1)] F (fun u K => ∃ x : Unit, u = (.int .i64 r) ∧ K = F) := by
  unfold impl_Square_generated at hm
  refine Tr.body Tryd.func41 rfl Tryd.ntmps41 ?_
  refine W.seq ?_
  refine W.region ?_
  refine WL.x (R.box rfl (cells_agg _)) rfl fun b1 => ?_
  refine WL.q (R.assign rfl) rfl ?_
  refine WL.nil ?_
  refine Go.then_ ?_
  refine W.seq ?_
  refine W.region ?_
  refine WL.q (R.move rfl) rfl ?_
  refine WL.q (R.or rfl rfl) rfl ?_
  refine WL.q (R.assign rfl) rfl ?_
  refine WL.nil ?_
  refine Go.then_ ?_
  refine W.block ?_
  obtain ⟨o3, hlo3, hm⟩ := of_bind hm
  refine W.loopx (fun (s2 : Int) a w => Sat G ((bx b1 (e_S_Square.cells p0)) :: F) 63 [(1, (.int .i64 s2)), (2, (.pointer (some ⟨b1, 0, none⟩))), (4, (.int .i64 0))] a w) (fun (o3 : Int) e a w => And (e = .ret) (Sat G F 63 [(4, (.int .i64 o3))] a w)) hlo3 (fun a w s => (Sat.mk (s.env.le ⟨rfl, rfl, rfl, trivial⟩) (s.mem))) ?_ ?_
  · clear hm
    intro s2 x hm a w hJ
    have s := hJ
    unfold impl_Square_generated_L1 at hm
    refine W.use s ?_
    refine W.block ?_
    refine W.seq ?_
    refine W.region ?_
    refine WL.q (R.move rfl) rfl ?_
    refine WL.q (R.assign rfl) rfl ?_
    refine WL.nil ?_
    refine Go.then_ ?_
    refine W.seq ?_
    refine W.seq ?_
    refine W.region ?_
    refine WL.q (R.load rfl (At.bx 0 rfl (Sub.refl _)) (lies_agg e_S_Square p0 ia29 sz29)) rfl ?_
    obtain ⟨o472, h473, hm⟩ := of_bind hm
    refine WL.x (R.call rfl en43 (impl_Square_elements_tr p0 h473)) rfl fun x474 => ?_
    refine WL.q (R.lenT rfl el63 (RdT.at 0 rfl)) rfl ?_
    refine WL.q (R.move rfl) rfl ?_
    refine WL.nil ?_
    refine Go.then_ ?_
    refine W.block ?_
    obtain ⟨o476, hlo476, hm⟩ := of_bind hm
    refine W.loopx (fun (s475 : (Int × Int)) a w => Sat G ((slT (Enc.int .u8) x474 o472) :: (bx b1 (e_S_Square.cells p0)) :: F) 63 [(1, (.int .i64 s2)), (2, (.pointer (some ⟨b1, 0, none⟩))), (4, (.int .i64 0)), (5, (.int .i64 s475.1)), (14, x474), (15, (.int .i64 (o472.length : Int))), (16, (.int .i64 s475.2))] a w) (fun (o476 : Int) e a w => And (e = (.exit 2)) (Sat G ((bx b1 (e_S_Square.cells p0)) :: F) 63 [(1, (.int .i64 s2)), (2, (.pointer (some ⟨b1, 0, none⟩))), (4, (.int .i64 0)), (5, (.int .i64 o476))] a w)) hlo476 (fun a w s => (Sat.mk (s.env.le ⟨rfl, rfl, rfl, rfl, rfl, rfl, rfl, trivial⟩) (s.mem))) ?_ ?_
    · clear hm
      intro s475 x hm a w hJ
      have s := hJ
      unfold impl_Square_generated_L2 at hm
      refine W.use s ?_
      refine W.seq ?_
      refine W.region ?_
      refine WL.q (R.lss rfl rfl) rfl ?_
      refine WL.nil ?_
      refine Go.then_ ?_
      refine W.seq ?_
      by_cases h629 : s475.2 < (o472.length : Int)
      · rw [if_pos h629] at hm
        refine W.cond_t rfl (decide_eq_true h629) ?_
        refine W.skip ?_
        refine Go.then_ ?_
        refine W.seq ?_
        refine W.block ?_
        refine W.seq ?_
        refine W.region ?_
        obtain ⟨h630, hm⟩ := of_guard hm
        refine WL.q (R.idxT rfl rfl el63 (RdT.at 0 rfl) h630) rfl ?_
        refine WL.q (R.load rfl (At.elT (RdT.at 0 rfl) (by decide) h630) (Lies.one _ ia5)) rfl ?_
        refine WL.q (R.assign rfl) rfl ?_
        refine WL.nil ?_
        refine Go.then_ ?_
        refine W.seq ?_
        refine W.region ?_
        refine WL.q (R.load rfl (At.bx 1 rfl (Sub.refl _)) (lies_agg e_S_Square p0 ia29 sz29)) rfl ?_
        obtain ⟨o631, h632, hm⟩ := of_bind hm
        refine WL.x (R.call rfl en43 (impl_Square_elements_tr p0 h632)) rfl fun x633 => ?_
        refine WL.q (R.lenT rfl el63 (RdT.at 0 rfl)) rfl ?_
        refine WL.q (R.move rfl) rfl ?_
        refine WL.nil ?_
        refine Go.then_ ?_
        refine W.block ?_
        obtain ⟨o635, hlo635, hm⟩ := of_bind hm
        refine W.loopx (fun (s634 : (Int × Int)) a w => Sat G ((slT (Enc.int .u8) x633 o631) :: (slT (Enc.int .u8) x474 o472) :: (bx b1 (e_S_Square.cells p0)) :: F) 63 [(1, (.int .i64 s2)), (2, (.pointer (some ⟨b1, 0, none⟩))), (4, (.int .i64 0)), (5, (.int .i64 s634.1)), (7, (.int .u8 (gl o472 s475.2))), (14, x474), (15, (.int .i64 (o472.length : Int))), (16, (.int .i64 s475.2)), (21, x633), (22, (.int .i64 (o631.length : Int))), (23, (.int .i64 s634.2))] a w) (fun (o635 : Int) e a w => And (e = (.exit 4)) (Sat G ((slT (Enc.int .u8) x474 o472) :: (bx b1 (e_S_Square.cells p0)) :: F) 63 [(1, (.int .i64 s2)), (2, (.pointer (some ⟨b1, 0, none⟩))), (4, (.int .i64 0)), (5, (.int .i64 o635)), (14, x474), (15, (.int .i64 (o472.length : Int))), (16, (.int .i64 s475.2))] a w)) hlo635 (fun a w s => (Sat.mk (s.env.le ⟨rfl, rfl, rfl, rfl, rfl, rfl, rfl, rfl, rfl, rfl, rfl, trivial⟩) (s.mem))) ?_ ?_
        · clear hm
          intro s634 x hm a w hJ
          have s := hJ
          unfold impl_Square_generated_L3 at hm
          refine W.use s ?_
          refine W.seq ?_
          refine W.region ?_
          refine WL.q (R.lss rfl rfl) rfl ?_
          refine WL.nil ?_
          refine Go.then_ ?_
          refine W.seq ?_
          by_cases h682 : s634.2 < (o631.length : Int)
          · rw [if_pos h682] at hm
            refine W.cond_t rfl (decide_eq_true h682) ?_
            refine W.skip ?_
            refine Go.then_ ?_
            obtain ⟨o704, hm, hmo704⟩ := of_bind hm
            refine W.seq ?_
            refine W.join (fun e a w => And (e = .normal) (Sat G ((slT (Enc.int .u8) x633 o631) :: (slT (Enc.int .u8) x474 o472) :: (bx b1 (e_S_Square.cells p0)) :: F) 63 [(1, (.int .i64 s2)), (2, (.pointer (some ⟨b1, 0, none⟩))), (4, (.int .i64 0)), (5, (.int .i64 o704)), (7, (.int .u8 (gl o472 s475.2))), (14, x474), (15, (.int .i64 (o472.length : Int))), (16, (.int .i64 s475.2)), (21, x633), (22, (.int .i64 (o631.length : Int))), (23, (.int .i64 s634.2))] a w)) ?_ ?_
            · refine W.block ?_
              refine W.seq ?_
              refine W.region ?_
              obtain ⟨h683, hm⟩ := of_guard hm
              refine WL.q (R.idxT rfl rfl el63 (RdT.at 0 rfl) h683) rfl ?_
              refine WL.q (R.load rfl (At.elT (RdT.at 0 rfl) (by decide) h683) (Lies.one _ ia5)) rfl ?_
              refine WL.q (R.assign rfl) rfl ?_
              refine WL.nil ?_
              refine Go.then_ ?_
              obtain ⟨o691, hm, hmo691⟩ := of_bind hm
              refine W.seq ?_
              refine W.join (fun e a w => And (e = .normal) (Sat G ((slT (Enc.int .u8) x633 o631) :: (slT (Enc.int .u8) x474 o472) :: (bx b1 (e_S_Square.cells p0)) :: F) 63 [(1, (.int .i64 s2)), (2, (.pointer (some ⟨b1, 0, none⟩))), (4, (.int .i64 0)), (5, (.int .i64 s634.1)), (7, (.int .u8 (gl o472 s475.2))), (9, (.int .u8 (gl o631 s634.2))), (14, x474), (15, (.int .i64 (o472.length : Int))), (16, (.int .i64 s475.2)), (21, x633), (22, (.int .i64 (o631.length : Int))), (23, (.int .i64 s634.2)), (34, (.bool o691))] a w)) ?_ ?_
              · refine W.region ?_
                refine WL.q (R.move rfl) rfl ?_
                refine WL.q (R.move rfl) rfl ?_
                obtain ⟨o684, h685, hm⟩ := of_bind hm
                refine WL.x (R.call rfl en48 (impl_set_has_tr s2 (gl o472 s475.2) h685)) rfl fun x686 => ?_
                refine WL.q (R.move rfl) rfl ?_
                by_cases h687 : o684 = true
                · rw [if_pos h687] at hm
                  refine WL.on rfl rfl h687 ?_
                  refine WL.q (R.move rfl) rfl ?_
                  refine WL.on rfl rfl h687 ?_
                  refine WL.q (R.move rfl) rfl ?_
                  obtain ⟨o688, h689, hm⟩ := of_bind hm
                  refine WL.on rfl rfl h687 ?_
                  refine WL.x (R.call rfl en48 (impl_set_has_tr s2 (gl o631 s634.2) h689)) rfl fun x690 => ?_
                  refine WL.q (R.pick_t rfl h687 rfl) rfl ?_
                  refine WL.nil ?_
                  have he := Option.some.inj hm
                  clear hm
                  subst o691
                  exact fun a w s => And.intro rfl (Sat.mk (s.env.le ⟨rfl, rfl, rfl, rfl, rfl, rfl, rfl, rfl, rfl, rfl, rfl, rfl, rfl, trivial⟩) (s.mem))
                · rw [if_neg h687] at hm
                  refine WL.off rfl rfl (b_f h687) rfl ?_
                  refine WL.off rfl rfl (b_f h687) rfl ?_
                  refine WL.off rfl rfl (b_f h687) rfl ?_
                  refine WL.q (R.pick_f rfl (b_f h687) rfl) rfl ?_
                  refine WL.nil ?_
                  have he := Option.some.inj hm
                  clear hm
                  subst o691
                  exact fun a w s => And.intro rfl (Sat.mk (s.env.le ⟨rfl, rfl, rfl, rfl, rfl, rfl, rfl, rfl, rfl, rfl, rfl, rfl, rfl, trivial⟩) (s.mem))
              · intro e a w hJ
                replace hm := hmo691
                clear hmo691
                obtain ⟨rfl, s⟩ := hJ
                refine Go.use s ?_
                refine Go.then_ ?_
                by_cases h692 : o691 = true
                · rw [if_pos h692] at hm
                  refine W.cond_t rfl h692 ?_
                  obtain ⟨h693, hm⟩ := of_guard hm
                  obtain ⟨h694, hm⟩ := of_guard hm
                  obtain ⟨h695, hm⟩ := of_guard hm
                  obtain ⟨o696, h697, hm⟩ := of_bind hm
                  obtain ⟨h699, hm⟩ := of_guard hm
                  obtain ⟨o700, h701, hm⟩ := of_bind hm
                  obtain ⟨h703, hm⟩ := of_guard hm
                  refine W.join1 (fun a w => ∃ x698 : Unit, ∃ x702 : Unit, Sat G ((slT (Enc.int .u8) x633 o631) :: (slT (Enc.int .u8) x474 o472) :: (bx b1 (e_S_Square.cells p0)) :: F) 63 [(1, (.int .i64 s2)), (2, (.pointer (some ⟨b1, 0, none⟩))), (4, (.int .i64 0)), (5, (.int .i64 (ior .i64 s634.1 (ior .i64 (ior .i64 (ishl .i64 1 (gv (gv p0.Table (gl o472 s475.2)) (gl o631 s634.2))) (ishl .i64 1 o696)) (ishl .i64 1 o700))))), (7, (.int .u8 (gl o472 s475.2))), (14, x474), (15, (.int .i64 (o472.length : Int))), (16, (.int .i64 s475.2)), (21, x633), (22, (.int .i64 (o631.length : Int))), (23, (.int .i64 s634.2))] a w) ?_ ?_
                  · refine W.draw (n := 22) ((slT (Enc.int .u8) x633 o631) :: (slT (Enc.int .u8) x474 o472) :: (bx b1 (e_S_Square.cells p0)) :: F) F 22 (by kernel_rfl) rfl rfl (fun w hw => hw) (fun w hw => hw.drop 3) ?_
                    refine WK.q (i := 0) rfl rfl (by kernel_rfl) calm_n (R.move rfl) rfl rfl ?_
                    refine WK.q (i := 1) rfl rfl (by kernel_rfl) calm_n (R.move rfl) rfl rfl ?_
                    refine WK.q (i := 2) rfl rfl (by kernel_rfl) calm_n (R.move rfl) rfl rfl ?_
                    refine WK.q (i := 3) rfl rfl (by kernel_rfl) calm_n (R.fieldAddr rfl fa29_1) rfl rfl ?_
                    refine WK.q (i := 4) rfl rfl (by kernel_rfl) calm_n (R.indexArr rfl rfl un27 sz22 h693.1 h693.2) rfl rfl ?_
                    refine WK.q (i := 5) rfl rfl (by kernel_rfl) calm_n (R.indexArr rfl rfl un22 sz5 h694.1 h694.2) rfl rfl ?_
                    refine WK.q (i := 6) rfl rfl (by kernel_rfl) calm_n (R.load rfl (At.sub (At.sub (At.sub (At.bx 2 rfl (Sub.refl _)) (e_S_Square_s1 p0)) (sub_arr ((Enc.int .u8).arr 10) (v := p0.Table) h693.1 h693.2)) (sub_arr (Enc.int .u8) (v := gv p0.Table (gl o472 s475.2)) h694.1 h694.2)) (Lies.one _ ia5)) rfl rfl ?_
                    refine WK.q (i := 7) rfl rfl (by kernel_rfl) calm_n (R.shl rfl rfl h695) rfl rfl ?_
                    refine WK.q (i := 8) rfl rfl (by kernel_rfl) calm_n (R.load rfl (At.bx 2 rfl (Sub.refl _)) (lies_agg e_S_Square p0 ia29 sz29)) rfl rfl ?_
                    refine WK.q (i := 9) rfl rfl (by kernel_rfl) calm_n (R.move rfl) rfl rfl ?_
                    refine WK.q (i := 10) rfl rfl (by kernel_rfl) calm_n (R.move rfl) rfl rfl ?_
                    refine WK.q (i := 14) rfl rfl (by kernel_rfl) calm_n (R.load rfl (At.bx 2 rfl (Sub.refl _)) (lies_agg e_S_Square p0 ia29 sz29)) rfl rfl ?_
                    refine WK.q (i := 15) rfl rfl (by kernel_rfl) calm_n (R.move rfl) rfl rfl ?_
                    refine WK.q (i := 16) rfl rfl (by kernel_rfl) calm_n (R.move rfl) rfl rfl ?_
                    refine WK.x (i := 11) (by kernel_rfl) rfl (R.call rfl en54 (impl_Square_left_tr p0 (gl o472 s475.2) (gl o631 s634.2) h697)) (fun _ w hw => hw) (fun _ _ _ w hw => hw.reord [] 3 rfl) rfl rfl (by kernel_rfl) fun x698 => ?_
                    refine WK.q (i := 12) rfl rfl (by kernel_rfl) calm_n (R.shl rfl rfl h699) rfl rfl ?_
                    refine WK.q (i := 13) rfl rfl (by kernel_rfl) calm_n (R.or rfl rfl) rfl rfl ?_
                    refine WK.x (i := 17) (by kernel_rfl) rfl (R.call rfl en55 (impl_Square_right_tr p0 (gl o472 s475.2) (gl o631 s634.2) h701)) (fun _ w hw => hw) (fun _ _ _ w hw => hw.reord [] 3 rfl) rfl rfl (by kernel_rfl) fun x702 => ?_
                    refine WK.x (i := 18) (by kernel_rfl) rfl (OpV.x (R.shl rfl rfl h703)) (fun _ w hw => hw) (fun _ _ _ w hw => hw.reord [] 3 rfl) rfl rfl (by kernel_rfl) fun _ => ?_
                    refine WK.x (i := 19) (by kernel_rfl) rfl (OpV.x (R.or rfl rfl)) (fun _ w hw => hw) (fun _ _ _ w hw => hw.reord [] 3 rfl) rfl rfl (by kernel_rfl) fun _ => ?_
                    refine WK.x (i := 20) (by kernel_rfl) rfl (OpV.x (R.or rfl rfl)) (fun _ w hw => hw) (fun _ _ _ w hw => hw.reord [] 3 rfl) rfl rfl (by kernel_rfl) fun _ => ?_
                    refine WK.x (i := 21) (by kernel_rfl) rfl (OpV.x (R.assign rfl)) (fun _ w hw => hw) (fun _ _ _ w hw => hw.reord [] 3 rfl) rfl rfl (by kernel_rfl) fun _ => ?_
                    refine WK.nil (by kernel_rfl) ?_
                    exact fun a w s => And.intro rfl (Exists.intro x698 (Exists.intro x702 (Sat.mk (s.env.le ⟨rfl, rfl, rfl, rfl, rfl, rfl, rfl, rfl, rfl, rfl, rfl, trivial⟩) (s.mem))))
                  · refine Go2.ex fun x698 => ?_
                    refine Go2.ex fun x702 => ?_
                    refine Go2.sat ?_
                    refine Go.n_block ?_
                    have he := Option.some.inj hm
                    clear hm
                    subst o704
                    exact fun a w s => And.intro rfl (Sat.mk (s.env.le ⟨rfl, rfl, rfl, rfl, rfl, rfl, rfl, rfl, rfl, rfl, rfl, trivial⟩) (s.mem))
                · rw [if_neg h692] at hm
                  refine W.cond_f rfl (b_f h692) ?_
                  refine W.skip ?_
                  refine Go.n_block ?_
                  have he := Option.some.inj hm
                  clear hm
                  subst o704
                  exact fun a w s => And.intro rfl (Sat.mk (s.env.le ⟨rfl, rfl, rfl, rfl, rfl, rfl, rfl, rfl, rfl, rfl, rfl, trivial⟩) (s.mem))
            · intro e a w hJ
              replace hm := hmo704
              clear hmo704
              obtain ⟨rfl, s⟩ := hJ
              refine Go.use s ?_
              refine Go.then_ ?_
              refine W.region ?_
              refine WL.q (R.add rfl rfl) rfl ?_
              refine WL.q (R.move rfl) rfl ?_
              refine WL.nil ?_
              have he := Option.some.inj hm
              clear hm
              subst x
              exact fun a w s => Exists.intro _ (And.intro rfl (Sat.mk (s.env.le ⟨rfl, rfl, rfl, rfl, rfl, rfl, rfl, rfl, rfl, rfl, rfl, trivial⟩) (s.mem)))
          · rw [if_neg h682] at hm
            refine W.cond_f rfl (decide_eq_false h682) ?_
            refine W.exit ?_
            refine Go.x_then ?_
            have he := Option.some.inj hm
            clear hm
            subst x
            exact fun a w s => Exists.intro _ (And.intro rfl (And.intro rfl (Sat.mk (s.env.le ⟨rfl, rfl, rfl, rfl, rfl, rfl, rfl, trivial⟩) (s.mem.reord [1, 2] 3 rfl))))
        · intro e a w hJ
          obtain ⟨rfl, s⟩ := hJ
          refine Go.use s ?_
          refine Go.x_block ?_
          refine Go.n_block ?_
          refine Go.then_ ?_
          refine W.region ?_
          refine WL.q (R.add rfl rfl) rfl ?_
          refine WL.q (R.move rfl) rfl ?_
          refine WL.nil ?_
          have he := Option.some.inj hm
          clear hm
          subst x
          exact fun a w s => Exists.intro _ (And.intro rfl (Sat.mk (s.env.le ⟨rfl, rfl, rfl, rfl, rfl, rfl, rfl, trivial⟩) (s.mem)))
      · rw [if_neg h629] at hm
        refine W.cond_f rfl (decide_eq_false h629) ?_
        refine W.exit ?_
        refine Go.x_then ?_
        have he := Option.some.inj hm
        clear hm
        subst x
        exact fun a w s => Exists.intro _ (And.intro rfl (And.intro rfl (Sat.mk (s.env.le ⟨rfl, rfl, rfl, rfl, trivial⟩) (s.mem.reord [1] 2 rfl))))
    · intro e a w hJ
      obtain ⟨rfl, s⟩ := hJ
      refine Go.use s ?_
      refine Go.x_block ?_
      refine Go.then_ ?_
      refine W.seq ?_
      refine W.seq ?_
      refine W.region ?_
      refine WL.q (R.move rfl) rfl ?_
      refine WL.q (R.move rfl) rfl ?_
      refine WL.q (R.eql rfl rfl) rfl ?_
      refine WL.nil ?_
      refine Go.then_ ?_
      by_cases h705 : o476 = s2
      · rw [if_pos h705] at hm
        refine W.cond_t rfl (decide_eq_true h705) ?_
        refine W.seq ?_
        refine W.region ?_
        refine WL.q (R.move rfl) rfl ?_
        refine WL.q (R.assign rfl) rfl ?_
        refine WL.nil ?_
        refine Go.then_ ?_
        refine W.ret ?_
        refine Go.r_then ?_
        refine Go.r_block ?_
        have he := Option.some.inj hm
        clear hm
        subst x
        exact fun a w s => Exists.intro _ (And.intro rfl (And.intro rfl (Sat.mk (s.env.le ⟨rfl, trivial⟩) (s.mem.reord [] 1 rfl))))
      · rw [if_neg h705] at hm
        refine W.cond_f rfl (decide_eq_false h705) ?_
        refine W.skip ?_
        refine Go.then_ ?_
        refine W.region ?_
        refine WL.q (R.move rfl) rfl ?_
        refine WL.q (R.assign rfl) rfl ?_
        refine WL.nil ?_
        refine Go.n_block ?_
        have he := Option.some.inj hm
        clear hm
        subst x
        exact fun a w s => Exists.intro _ (And.intro rfl (Sat.mk (s.env.le ⟨rfl, rfl, rfl, trivial⟩) (s.mem)))
  · intro e a w hJ
    obtain ⟨rfl, s⟩ := hJ
    refine Go.use s ?_
    refine Go.r_block ?_
    have he := Option.some.inj hm
    clear hm
    subst r
    exact Go.ret1 rfl (.tmp rfl) (fun w hw => ⟨_, rfl, _, ⟨(), rfl, rfl⟩, hw⟩)
set_option maxRecDepth 100000 in
theorem impl_led_tr {G : World} {F : List Res} (p0 : Int) (p1 : (Vector Int 10)) {r : Int} (hm : impl_led p0 p1 = some r) : Tr Tryd.prog G 42 [(.int .i64 p0), (.agg (((Enc.int .u8).arr 10).cells p1).toArray)] F (fun u K => ∃ x : Unit, u = (.int .i64 r) ∧ K = F) := by
  unfold impl_led at hm
  refine Tr.body Tryd.func42 rfl Tryd.ntmps42 ?_
  refine W.seq ?_
  refine W.region ?_
  refine WL.x (R.box rfl (cells_agg _)) rfl fun b1 => ?_
  refine WL.q (R.assign rfl) rfl ?_
  refine WL.nil ?_
  refine Go.then_ ?_
  refine W.seq ?_
  refine W.region ?_
  refine WL.q (R.assign rfl) rfl ?_
  refine WL.nil ?_
  refine Go.then_ ?_
  refine W.seq ?_
  refine W.seq ?_
  refine W.region ?_
  refine WL.q (R.move rfl) rfl ?_
  refine WL.nil ?_
  refine Go.then_ ?_
  refine W.block ?_
  obtain ⟨o3, hlo3, hm⟩ := of_bind hm
  refine W.loopx (fun (s2 : (Int × Int)) a w => Sat G ((bx b1 (((Enc.int .u8).arr 10).cells p1)) :: F) 21 [(0, (.int .i64 p0)), (3, (.pointer (some ⟨b1, 0, none⟩))), (4, (.int .i64 0)), (5, (.int .i64 s2.1)), (7, (.int .u8 s2.2))] a w) (fun (o3 : Int) e a w => And (e = (.exit 0)) (Sat G F 21 [(4, (.int .i64 0)), (5, (.int .i64 o3))] a w)) hlo3 (fun a w s => (Sat.mk (s.env.le ⟨rfl, rfl, rfl, rfl, rfl, trivial⟩) (s.mem))) ?_ ?_
  · clear hm
    intro s2 x hm a w hJ
    have s := hJ
    unfold impl_led_L1 at hm
    refine W.use s ?_
    refine W.seq ?_
    refine W.region ?_
    refine WL.q (R.lss rfl rfl) rfl ?_
    refine WL.nil ?_
    refine Go.then_ ?_
    refine W.seq ?_
    by_cases h19 : s2.2 < 10
    · rw [if_pos h19] at hm
      refine W.cond_t rfl (decide_eq_true h19) ?_
      refine W.skip ?_
      refine Go.then_ ?_
      obtain ⟨o26, hm, hmo26⟩ := of_bind hm
      refine W.seq ?_
      refine W.join (fun e a w => And (e = .normal) (Sat G ((bx b1 (((Enc.int .u8).arr 10).cells p1)) :: F) 21 [(0, (.int .i64 p0)), (3, (.pointer (some ⟨b1, 0, none⟩))), (4, (.int .i64 0)), (5, (.int .i64 o26)), (7, (.int .u8 s2.2))] a w)) ?_ ?_
      · refine W.block ?_
        refine W.seq ?_
        refine W.region ?_
        refine WL.q (R.move rfl) rfl ?_
        refine WL.q (R.assign rfl) rfl ?_
        refine WL.nil ?_
        refine Go.then_ ?_
        refine W.seq ?_
        refine W.region ?_
        refine WL.q (R.move rfl) rfl ?_
        refine WL.q (R.move rfl) rfl ?_
        obtain ⟨o20, h21, hm⟩ := of_bind hm
        refine WL.x (R.call rfl en48 (impl_set_has_tr p0 s2.2 h21)) rfl fun x22 => ?_
        refine WL.nil ?_
        refine Go.then_ ?_
        by_cases h23 : o20 = true
        · rw [if_pos h23] at hm
          refine W.cond_t rfl h23 ?_
          refine W.region ?_
          refine WL.q (R.move rfl) rfl ?_
          refine WL.q (R.move rfl) rfl ?_
          obtain ⟨h24, hm⟩ := of_guard hm
          refine WL.q (R.indexArr rfl rfl un72 sz5 h24.1 h24.2) rfl ?_
          refine WL.q (R.load rfl (At.sub (At.bx 0 rfl (Sub.refl _)) (sub_arr (Enc.int .u8) (v := p1) h24.1 h24.2)) (Lies.one _ ia5)) rfl ?_
          obtain ⟨h25, hm⟩ := of_guard hm
          refine WL.q (R.shl rfl rfl h25) rfl ?_
          refine WL.q (R.or rfl rfl) rfl ?_
          refine WL.q (R.assign rfl) rfl ?_
          refine WL.nil ?_
          refine Go.n_block ?_
          have he := Option.some.inj hm
          clear hm
          subst o26
          exact fun a w s => And.intro rfl (Sat.mk (s.env.le ⟨rfl, rfl, rfl, rfl, rfl, trivial⟩) (s.mem))
        · rw [if_neg h23] at hm
          refine W.cond_f rfl (b_f h23) ?_
          refine W.skip ?_
          refine Go.n_block ?_
          have he := Option.some.inj hm
          clear hm
          subst o26
          exact fun a w s => And.intro rfl (Sat.mk (s.env.le ⟨rfl, rfl, rfl, rfl, rfl, trivial⟩) (s.mem))
      · intro e a w hJ
        replace hm := hmo26
        clear hmo26
        obtain ⟨rfl, s⟩ := hJ
        refine Go.use s ?_
        refine Go.then_ ?_
        refine W.region ?_
        refine WL.q (R.add rfl rfl) rfl ?_
        refine WL.q (R.move rfl) rfl ?_
        refine WL.nil ?_
        have he := Option.some.inj hm
        clear hm
        subst x
        exact fun a w s => Exists.intro _ (And.intro rfl (Sat.mk (s.env.le ⟨rfl, rfl, rfl, rfl, rfl, trivial⟩) (s.mem)))
    · rw [if_neg h19] at hm
      refine W.cond_f rfl (decide_eq_false h19) ?_
      refine W.exit ?_
      refine Go.x_then ?_
      have he := Option.some.inj hm
      clear hm
      subst x
      exact fun a w s => Exists.intro _ (And.intro rfl (And.intro rfl (Sat.mk (s.env.le ⟨rfl, rfl, trivial⟩) (s.mem.reord [] 1 rfl))))
  · intro e a w hJ
    obtain ⟨rfl, s⟩ := hJ
    refine Go.use s ?_
    refine Go.x_block ?_
    refine Go.then_ ?_
    refine W.seq ?_
    refine W.region ?_
    refine WL.q (R.move rfl) rfl ?_
    refine WL.q (R.assign rfl) rfl ?_
    refine WL.nil ?_
    refine Go.then_ ?_
    refine W.ret ?_
    have he := Option.some.inj hm
    clear hm
    subst r
    exact Go.ret1 rfl (.tmp rfl) (fun w hw => ⟨_, rfl, _, ⟨(), rfl, rfl⟩, hw⟩)
set_option maxRecDepth 100000 in
theorem impl_Square_closure_tr {G : World} {F : List Res} (p0 : S_Square) (p1 : Int) {r : Int} (hm : impl_Square_closure p0 p1 = some r) : Tr Tryd.prog G 30 [(.agg (e_S_Square.cells p0).toArray), (.int .i64 p1)] F (fun u K => ∃ x : Unit, u = (.int .i64 r) ∧ K = F) := by
  unfold impl_Square_closure at hm
  refine Tr.body Tryd.func30 rfl Tryd.ntmps30 ?_
  refine W.seq ?_
  refine W.region ?_
  refine WL.x (R.box rfl (cells_agg _)) rfl fun b1 => ?_
  refine WL.q (R.assign rfl) rfl ?_
  refine WL.nil ?_
  refine Go.then_ ?_
  refine W.seq ?_
  refine W.region ?_
  refine WL.q (R.load rfl (At.bx 0 rfl (Sub.refl _)) (lies_agg e_S_Square p0 ia29 sz29)) rfl ?_
  obtain ⟨o2, h3, hm⟩ := of_bind hm
  refine WL.x (R.call rfl en40 (impl_Square_inner_tr p0 h3)) rfl fun x4 => ?_
  refine WL.q (R.assign rfl) rfl ?_
  refine WL.nil ?_
  refine Go.then_ ?_
  refine W.block ?_
  obtain ⟨o6, hlo6, hm⟩ := of_bind hm
  refine W.loopx (fun (s5 : Int) a w => Sat G ((slT ((Enc.int .u8).arr 10) x4 o2) :: (bx b1 (e_S_Square.cells p0)) :: F) 31 [(1, (.int .i64 s5)), (2, (.pointer (some ⟨b1, 0, none⟩))), (4, (.int .i64 0)), (5, x4)] a w) (fun (o6 : Int) e a w => And (e = .ret) (Sat G F 31 [(4, (.int .i64 o6))] a w)) hlo6 (fun a w s => (Sat.mk (s.env.le ⟨rfl, rfl, rfl, rfl, trivial⟩) (s.mem))) ?_ ?_
  · clear hm
    intro s5 x hm a w hJ
    have s := hJ
    unfold impl_Square_closure_L1 at hm
    refine W.use s ?_
    refine W.block ?_
    refine W.seq ?_
    refine W.region ?_
    refine WL.q (R.load rfl (At.bx 1 rfl (Sub.refl _)) (lies_agg e_S_Square p0 ia29 sz29)) rfl ?_
    refine WL.q (R.move rfl) rfl ?_
    obtain ⟨o55, h56, hm⟩ := of_bind hm
    refine WL.x (R.call rfl en41 (impl_Square_generated_tr p0 s5 h56)) rfl fun x57 => ?_
    refine WL.q (R.assign rfl) rfl ?_
    refine WL.nil ?_
    refine Go.then_ ?_
    refine W.seq ?_
    refine W.seq ?_
    refine W.region ?_
    refine WL.q (R.move rfl) rfl ?_
    refine WL.q (R.lenT rfl el70 (RdT.at 0 rfl)) rfl ?_
    refine WL.q (R.move rfl) rfl ?_
    refine WL.nil ?_
    refine Go.then_ ?_
    refine W.block ?_
    obtain ⟨o59, hlo59, hm⟩ := of_bind hm
    refine W.loopx (fun (s58 : (Int × Int)) a w => Sat G ((slT ((Enc.int .u8).arr 10) x4 o2) :: (bx b1 (e_S_Square.cells p0)) :: F) 31 [(1, (.int .i64 s5)), (2, (.pointer (some ⟨b1, 0, none⟩))), (4, (.int .i64 0)), (5, x4), (6, (.int .i64 s58.1)), (14, x4), (15, (.int .i64 (o2.length : Int))), (16, (.int .i64 s58.2))] a w) (fun (o59 : Int) e a w => And (e = (.exit 2)) (Sat G ((slT ((Enc.int .u8).arr 10) x4 o2) :: (bx b1 (e_S_Square.cells p0)) :: F) 31 [(1, (.int .i64 s5)), (2, (.pointer (some ⟨b1, 0, none⟩))), (4, (.int .i64 0)), (5, x4), (6, (.int .i64 o59))] a w)) hlo59 (fun a w s => (Sat.mk (s.env.le ⟨rfl, rfl, rfl, rfl, rfl, rfl, rfl, rfl, trivial⟩) (s.mem))) ?_ ?_
    · clear hm
      intro s58 x hm a w hJ
      have s := hJ
      unfold impl_Square_closure_L2 at hm
      refine W.use s ?_
      refine W.seq ?_
      refine W.region ?_
      refine WL.q (R.lss rfl rfl) rfl ?_
      refine WL.nil ?_
      refine Go.then_ ?_
      refine W.seq ?_
      by_cases h72 : s58.2 < (o2.length : Int)
      · rw [if_pos h72] at hm
        refine W.cond_t rfl (decide_eq_true h72) ?_
        refine W.skip ?_
        refine Go.then_ ?_
        refine W.seq ?_
        refine W.block ?_
        refine W.seq ?_
        refine W.region ?_
        obtain ⟨h73, hm⟩ := of_guard hm
        refine WL.q (R.idxT rfl rfl el70 (RdT.at 0 rfl) h73) rfl ?_
        refine WL.q (R.load rfl (At.elT (RdT.at 0 rfl) (by decide) h73) (lies_agg ((Enc.int .u8).arr 10) (gl o2 s58.2) ia72 sz72)) rfl ?_
        refine WL.x (al72) rfl fun b74 => ?_
        refine WL.x0 (R.store_bx (i := 0) rfl rfl rfl (fits_agg ((Enc.int .u8).arr 10) (gl o2 s58.2) sz72) (Up.all ((Enc.int .u8).arr 10) _ _)) fun _ => ?_
        refine WL.nil ?_
        refine Go.then_ ?_
        refine W.region ?_
        refine WL.q (R.move rfl) rfl ?_
        refine WL.q (R.move rfl) rfl ?_
        refine WL.q (R.load rfl (At.bx 0 rfl (Sub.refl _)) (lies_agg ((Enc.int .u8).arr 10) (gl o2 s58.2) ia72 sz72)) rfl ?_
        obtain ⟨o75, h76, hm⟩ := of_bind hm
        refine WL.x (R.call rfl en42 (impl_led_tr s58.1 (gl o2 s58.2) h76)) rfl fun x77 => ?_
        refine WL.q (R.or rfl rfl) rfl ?_
        refine WL.q (R.assign rfl) rfl ?_
        refine WL.nil ?_
        refine Go.n_block ?_
        refine Go.then_ ?_
        refine W.region ?_
        refine WL.q (R.add rfl rfl) rfl ?_
        refine WL.q (R.move rfl) rfl ?_
        refine WL.nil ?_
        have he := Option.some.inj hm
        clear hm
        subst x
        exact fun a w s => Exists.intro _ (And.intro rfl (Sat.mk (s.env.le ⟨rfl, rfl, rfl, rfl, rfl, rfl, rfl, rfl, trivial⟩) (s.mem.reord [1, 2] 3 rfl)))
      · rw [if_neg h72] at hm
        refine W.cond_f rfl (decide_eq_false h72) ?_
        refine W.exit ?_
        refine Go.x_then ?_
        have he := Option.some.inj hm
        clear hm
        subst x
        exact fun a w s => Exists.intro _ (And.intro rfl (And.intro rfl (Sat.mk (s.env.le ⟨rfl, rfl, rfl, rfl, rfl, trivial⟩) (s.mem))))
    · intro e a w hJ
      obtain ⟨rfl, s⟩ := hJ
      refine Go.use s ?_
      refine Go.x_block ?_
      refine Go.then_ ?_
      refine W.seq ?_
      refine W.seq ?_
      refine W.region ?_
      refine WL.q (R.move rfl) rfl ?_
      refine WL.q (R.move rfl) rfl ?_
      refine WL.q (R.eql rfl rfl) rfl ?_
      refine WL.nil ?_
      refine Go.then_ ?_
      by_cases h78 : o59 = s5
      · rw [if_pos h78] at hm
        refine W.cond_t rfl (decide_eq_true h78) ?_
        refine W.seq ?_
        refine W.region ?_
        refine WL.q (R.move rfl) rfl ?_
        refine WL.q (R.assign rfl) rfl ?_
        refine WL.nil ?_
        refine Go.then_ ?_
        refine W.ret ?_
        refine Go.r_then ?_
        refine Go.r_block ?_
        have he := Option.some.inj hm
        clear hm
        subst x
        exact fun a w s => Exists.intro _ (And.intro rfl (And.intro rfl (Sat.mk (s.env.le ⟨rfl, trivial⟩) (s.mem.reord [] 2 rfl))))
      · rw [if_neg h78] at hm
        refine W.cond_f rfl (decide_eq_false h78) ?_
        refine W.skip ?_
        refine Go.then_ ?_
        refine W.region ?_
        refine WL.q (R.move rfl) rfl ?_
        refine WL.q (R.assign rfl) rfl ?_
        refine WL.nil ?_
        refine Go.n_block ?_
        have he := Option.some.inj hm
        clear hm
        subst x
        exact fun a w s => Exists.intro _ (And.intro rfl (Sat.mk (s.env.le ⟨rfl, rfl, rfl, rfl, trivial⟩) (s.mem)))
  · intro e a w hJ
    obtain ⟨rfl, s⟩ := hJ
    refine Go.use s ?_
    refine Go.r_block ?_
    have he := Option.some.inj hm
    clear hm
    subst r
    exact Go.ret1 rfl (.tmp rfl) (fun w hw => ⟨_, rfl, _, ⟨(), rfl, rfl⟩, hw⟩)
set_option maxRecDepth 100000 in
theorem impl_Square_isNormal_tr {G : World} {F : List Res} (p0 : S_Square) (p1 : Int) {r : Bool} (hm : impl_Square_isNormal p0 p1 = some r) : Tr Tryd.prog G 17 [(.agg (e_S_Square.cells p0).toArray), (.int .i64 p1)] F (fun u K => ∃ x : Unit, u = (.bool r) ∧ K = F) := by
  unfold impl_Square_isNormal at hm
  refine Tr.body Tryd.func17 rfl Tryd.ntmps17 ?_
  refine W.seq ?_
  refine W.region ?_
  refine WL.x (R.box rfl (cells_agg _)) rfl fun b1 => ?_
  refine WL.q (R.assign rfl) rfl ?_
  refine WL.nil ?_
  refine Go.then_ ?_
  refine W.seq ?_
  refine W.region ?_
  refine WL.q (R.load rfl (At.bx 0 rfl (Sub.refl _)) (lies_agg e_S_Square p0 ia29 sz29)) rfl ?_
  refine WL.q (R.move rfl) rfl ?_
  obtain ⟨o2, h3, hm⟩ := of_bind hm
  refine WL.x (R.call rfl en30 (impl_Square_closure_tr p0 p1 h3)) rfl fun x4 => ?_
  refine WL.q (R.move rfl) rfl ?_
  refine WL.q (R.eql rfl rfl) rfl ?_
  refine WL.q (R.assign rfl) rfl ?_
  refine WL.nil ?_
  refine Go.then_ ?_
  refine W.ret ?_
  have he := Option.some.inj hm
  clear hm
  subst r
  exact Go.ret1 rfl (.tmp rfl) (fun w hw => ⟨_, rfl, _, ⟨(), rfl, rfl⟩, hw.reord [] 1 rfl⟩)
set_option maxRecDepth 100000 in
theorem impl_setOf_tr {G : World} {F : List Res} (q0 : Value) (p0 : (List Int)) (hp0 : RdT (Enc.int .i64) G F q0 p0) {r : Int} (hm : impl_setOf p0 = some r) : Tr Tryd.prog G 18 [q0] F (fun u K => ∃ x : Unit, u = (.int .i64 r) ∧ K = F) := by
  unfold impl_setOf at hm
  refine Tr.body Tryd.func18 rfl Tryd.ntmps18 ?_
  refine W.seq ?_
  refine W.region ?_
  refine WL.q (R.assign rfl) rfl ?_
  refine WL.nil ?_
  refine Go.then_ ?_
  refine W.seq ?_
  refine W.region ?_
  refine WL.q (R.assign rfl) rfl ?_
  refine WL.nil ?_
  refine Go.then_ ?_
  refine W.seq ?_
  refine W.seq ?_
  refine W.region ?_
  refine WL.q (R.move rfl) rfl ?_
  refine WL.q (R.lenT rfl el26 (RdT.lift 0 rfl hp0)) rfl ?_
  refine WL.q (R.move rfl) rfl ?_
  refine WL.nil ?_
  refine Go.then_ ?_
  refine W.block ?_
  obtain ⟨o2, hlo2, hm⟩ := of_bind hm
  refine W.loopx (fun (s1 : (Int × Int)) a w => Sat G F 18 [(2, (.int .i64 0)), (3, (.int .i64 s1.1)), (6, q0), (7, (.int .i64 (p0.length : Int))), (8, (.int .i64 s1.2))] a w) (fun (o2 : Int) e a w => And (e = (.exit 0)) (Sat G F 18 [(2, (.int .i64 0)), (3, (.int .i64 o2))] a w)) hlo2 (fun a w s => (Sat.mk (s.env.le ⟨rfl, rfl, rfl, rfl, rfl, trivial⟩) (s.mem))) ?_ ?_
  · clear hm
    intro s1 x hm a w hJ
    have s := hJ
    unfold impl_setOf_L1 at hm
    refine W.use s ?_
    refine W.seq ?_
    refine W.region ?_
    refine WL.q (R.lss rfl rfl) rfl ?_
    refine WL.nil ?_
    refine Go.then_ ?_
    refine W.seq ?_
    by_cases h9 : s1.2 < (p0.length : Int)
    · rw [if_pos h9] at hm
      refine W.cond_t rfl (decide_eq_true h9) ?_
      refine W.skip ?_
      refine Go.then_ ?_
      refine W.seq ?_
      refine W.block ?_
      refine W.seq ?_
      refine W.region ?_
      obtain ⟨h10, hm⟩ := of_guard hm
      refine WL.q (R.idxT rfl rfl el26 (RdT.lift 0 rfl hp0) h10) rfl ?_
      refine WL.q (R.load rfl (At.elT (RdT.lift 0 rfl hp0) (by decide) h10) (Lies.one _ ia2)) rfl ?_
      refine WL.q (R.assign rfl) rfl ?_
      refine WL.nil ?_
      refine Go.then_ ?_
      refine W.region ?_
      refine WL.q (R.move rfl) rfl ?_
      refine WL.q (R.move rfl) rfl ?_
      obtain ⟨h11, hm⟩ := of_guard hm
      refine WL.q (R.shl rfl rfl h11) rfl ?_
      refine WL.q (R.or rfl rfl) rfl ?_
      refine WL.q (R.assign rfl) rfl ?_
      refine WL.nil ?_
      refine Go.n_block ?_
      refine Go.then_ ?_
      refine W.region ?_
      refine WL.q (R.add rfl rfl) rfl ?_
      refine WL.q (R.move rfl) rfl ?_
      refine WL.nil ?_
      have he := Option.some.inj hm
      clear hm
      subst x
      exact fun a w s => Exists.intro _ (And.intro rfl (Sat.mk (s.env.le ⟨rfl, rfl, rfl, rfl, rfl, trivial⟩) (s.mem)))
    · rw [if_neg h9] at hm
      refine W.cond_f rfl (decide_eq_false h9) ?_
      refine W.exit ?_
      refine Go.x_then ?_
      have he := Option.some.inj hm
      clear hm
      subst x
      exact fun a w s => Exists.intro _ (And.intro rfl (And.intro rfl (Sat.mk (s.env.le ⟨rfl, rfl, trivial⟩) (s.mem))))
  · intro e a w hJ
    obtain ⟨rfl, s⟩ := hJ
    refine Go.use s ?_
    refine Go.x_block ?_
    refine Go.then_ ?_
    refine W.seq ?_
    refine W.region ?_
    refine WL.q (R.move rfl) rfl ?_
    refine WL.q (R.assign rfl) rfl ?_
    refine WL.nil ?_
    refine Go.then_ ?_
    refine W.ret ?_
    have he := Option.some.inj hm
    clear hm
    subst r
    exact Go.ret1 rfl (.tmp rfl) (fun w hw => ⟨_, rfl, _, ⟨(), rfl, rfl⟩, hw⟩)
set_option maxRecDepth 100000 in
theorem impl_Square_those_tr {G : World} {F : List Res} (p0 : S_Square) (g1 : FuncId) (fs1 cs1 : List Value) (f1 : Int → Option Bool) (en_1 : Enters Tryd.prog g1) (hf1 : ∀ (L : List Res) (a0 : Int) (r : Bool), f1 a0 = some r → Tr Tryd.prog G g1 (fs1 ++ [(.int .u8 a0)] ++ cs1) (L ++ F) (fun u K => ∃ x : Unit, u = (.bool r) ∧ K = L ++ F)) {r : Int} (hm : impl_Square_those p0 f1 = some r) : Tr Tryd.prog G 56 [(.agg (e_S_Square.cells p0).toArray), (.func (.func g1) fs1.toArray cs1.toArray)] F (fun u K => ∃ x : Unit, u = (.int .i64 r) ∧ K = F) := by
  unfold impl_Square_those at hm
  refine Tr.body Tryd.func56 rfl Tryd.ntmps56 ?_
  refine W.seq ?_
  refine W.region ?_
  refine WL.x (R.box rfl (cells_agg _)) rfl fun b1 => ?_
  refine WL.q (R.assign rfl) rfl ?_
  refine WL.nil ?_
  refine Go.then_ ?_
  refine W.seq ?_
  refine W.region ?_
  refine WL.q (R.assign rfl) rfl ?_
  refine WL.nil ?_
  refine Go.then_ ?_
  refine W.seq ?_
  refine W.seq ?_
  refine W.region ?_
  refine WL.q (R.load rfl (At.bx 0 rfl (Sub.refl _)) (lies_agg e_S_Square p0 ia29 sz29)) rfl ?_
  obtain ⟨o2, h3, hm⟩ := of_bind hm
  refine WL.x (R.call rfl en43 (impl_Square_elements_tr p0 h3)) rfl fun x4 => ?_
  refine WL.q (R.lenT rfl el63 (RdT.at 0 rfl)) rfl ?_
  refine WL.q (R.move rfl) rfl ?_
  refine WL.nil ?_
  refine Go.then_ ?_
  refine W.block ?_
  obtain ⟨o6, hlo6, hm⟩ := of_bind hm
  refine W.loopx (fun (s5 : (Int × Int)) a w => Sat G ((slT (Enc.int .u8) x4 o2) :: F) 24 [(1, (.func (.func g1) fs1.toArray cs1.toArray)), (4, (.int .i64 0)), (5, (.int .i64 s5.1)), (9, x4), (10, (.int .i64 (o2.length : Int))), (11, (.int .i64 s5.2))] a w) (fun (o6 : Int) e a w => And (e = (.exit 0)) (Sat G F 24 [(4, (.int .i64 0)), (5, (.int .i64 o6))] a w)) hlo6 (fun a w s => (Sat.mk (s.env.le ⟨rfl, rfl, rfl, rfl, rfl, rfl, trivial⟩) (s.mem.reord [0] 2 rfl))) ?_ ?_
  · clear hm
    intro s5 x hm a w hJ
    have s := hJ
    unfold impl_Square_those_L1 at hm
    refine W.use s ?_
    refine W.seq ?_
    refine W.region ?_
    refine WL.q (R.lss rfl rfl) rfl ?_
    refine WL.nil ?_
    refine Go.then_ ?_
    refine W.seq ?_
    by_cases h23 : s5.2 < (o2.length : Int)
    · rw [if_pos h23] at hm
      refine W.cond_t rfl (decide_eq_true h23) ?_
      refine W.skip ?_
      refine Go.then_ ?_
      obtain ⟨o30, hm, hmo30⟩ := of_bind hm
      refine W.seq ?_
      refine W.join (fun e a w => And (e = .normal) (Sat G ((slT (Enc.int .u8) x4 o2) :: F) 24 [(1, (.func (.func g1) fs1.toArray cs1.toArray)), (4, (.int .i64 0)), (5, (.int .i64 o30)), (9, x4), (10, (.int .i64 (o2.length : Int))), (11, (.int .i64 s5.2))] a w)) ?_ ?_
      · refine W.block ?_
        refine W.seq ?_
        refine W.region ?_
        obtain ⟨h24, hm⟩ := of_guard hm
        refine WL.q (R.idxT rfl rfl el63 (RdT.at 0 rfl) h24) rfl ?_
        refine WL.q (R.load rfl (At.elT (RdT.at 0 rfl) (by decide) h24) (Lies.one _ ia5)) rfl ?_
        refine WL.q (R.assign rfl) rfl ?_
        refine WL.nil ?_
        refine Go.then_ ?_
        refine W.seq ?_
        refine W.region ?_
        refine WL.q (R.move rfl) rfl ?_
        refine WL.q (R.move rfl) rfl ?_
        obtain ⟨o25, h26, hm⟩ := of_bind hm
        refine WL.x (R.callAny (fs := fs1) (cs := cs1) (vs := [(.int .u8 (gl o2 s5.2))]) rfl rfl en_1 (hf1 [(slT (Enc.int .u8) x4 o2)] (gl o2 s5.2) _ h26)) rfl fun x27 => ?_
        refine WL.nil ?_
        refine Go.then_ ?_
        by_cases h28 : o25 = true
        · rw [if_pos h28] at hm
          refine W.cond_t rfl h28 ?_
          refine W.region ?_
          refine WL.q (R.move rfl) rfl ?_
          refine WL.q (R.move rfl) rfl ?_
          obtain ⟨h29, hm⟩ := of_guard hm
          refine WL.q (R.shl rfl rfl h29) rfl ?_
          refine WL.q (R.or rfl rfl) rfl ?_
          refine WL.q (R.assign rfl) rfl ?_
          refine WL.nil ?_
          refine Go.n_block ?_
          have he := Option.some.inj hm
          clear hm
          subst o30
          exact fun a w s => And.intro rfl (Sat.mk (s.env.le ⟨rfl, rfl, rfl, rfl, rfl, rfl, trivial⟩) (s.mem))
        · rw [if_neg h28] at hm
          refine W.cond_f rfl (b_f h28) ?_
          refine W.skip ?_
          refine Go.n_block ?_
          have he := Option.some.inj hm
          clear hm
          subst o30
          exact fun a w s => And.intro rfl (Sat.mk (s.env.le ⟨rfl, rfl, rfl, rfl, rfl, rfl, trivial⟩) (s.mem))
      · intro e a w hJ
        replace hm := hmo30
        clear hmo30
        obtain ⟨rfl, s⟩ := hJ
        refine Go.use s ?_
        refine Go.then_ ?_
        refine W.region ?_
        refine WL.q (R.add rfl rfl) rfl ?_
        refine WL.q (R.move rfl) rfl ?_
        refine WL.nil ?_
        have he := Option.some.inj hm
        clear hm
        subst x
        exact fun a w s => Exists.intro _ (And.intro rfl (Sat.mk (s.env.le ⟨rfl, rfl, rfl, rfl, rfl, rfl, trivial⟩) (s.mem)))
    · rw [if_neg h23] at hm
      refine W.cond_f rfl (decide_eq_false h23) ?_
      refine W.exit ?_
      refine Go.x_then ?_
      have he := Option.some.inj hm
      clear hm
      subst x
      exact fun a w s => Exists.intro _ (And.intro rfl (And.intro rfl (Sat.mk (s.env.le ⟨rfl, rfl, trivial⟩) (s.mem.reord [] 1 rfl))))
  · intro e a w hJ
    obtain ⟨rfl, s⟩ := hJ
    refine Go.use s ?_
    refine Go.x_block ?_
    refine Go.then_ ?_
    refine W.seq ?_
    refine W.region ?_
    refine WL.q (R.move rfl) rfl ?_
    refine WL.q (R.assign rfl) rfl ?_
    refine WL.nil ?_
    refine Go.then_ ?_
    refine W.ret ?_
    have he := Option.some.inj hm
    clear hm
    subst r
    exact Go.ret1 rfl (.tmp rfl) (fun w hw => ⟨_, rfl, _, ⟨(), rfl, rfl⟩, hw⟩)
set_option maxRecDepth 100000 in
theorem impl_Square_coset_c1_tr {G : World} {F : List Res} (p0 : Int) (c1 : Nat) (p1 : Int) (hp1 : At G F (.pointer (some ⟨c1, 0, none⟩)) ((Enc.int .i64).cells p1)) (c2 : Nat) (p2 : S_Square) (hp2 : At G F (.pointer (some ⟨c2, 0, none⟩)) (e_S_Square.cells p2)) (c3 : Nat) (p3 : Int) (hp3 : At G F (.pointer (some ⟨c3, 0, none⟩)) ((Enc.int .u8).cells p3)) {r : Bool} (hm : impl_Square_coset_c1 p0 p1 p2 p3 = some r) : Tr Tryd.prog G 57 [(.int .u8 p0), (.pointer (some ⟨c1, 0, none⟩)), (.pointer (some ⟨c2, 0, none⟩)), (.pointer (some ⟨c3, 0, none⟩))] F (fun u K => ∃ x : Unit, u = (.bool r) ∧ K = F) := by
  unfold impl_Square_coset_c1 at hm
  refine Tr.body Tryd.func57 rfl Tryd.ntmps57 ?_
  refine W.seq ?_
  refine W.region ?_
  refine WL.q (R.assign rfl) rfl ?_
  refine WL.nil ?_
  refine Go.then_ ?_
  refine W.seq ?_
  obtain ⟨o1, h2, hm⟩ := of_bind hm
  obtain ⟨o4, h5, hm⟩ := of_bind hm
  refine W.join1 (fun a w => ∃ x3 : Unit, ∃ x6 : Unit, Sat G F 12 [(5, (.bool o4))] a w) ?_ ?_
  · refine W.draw (n := 7) F F 7 (by kernel_rfl) rfl rfl (fun w hw => hw) (fun w hw => hw.drop 0) ?_
    refine WK.q (i := 0) rfl rfl (by kernel_rfl) calm_n (R.load rfl (At.lift 0 rfl hp1) (Lies.one _ ia44)) rfl rfl ?_
    refine WK.q (i := 1) rfl rfl (by kernel_rfl) calm_n (R.load rfl (At.lift 0 rfl hp2) (lies_agg e_S_Square p2 ia29 sz29)) rfl rfl ?_
    refine WK.q (i := 2) rfl rfl (by kernel_rfl) calm_n (R.load rfl (At.lift 0 rfl hp3) (Lies.one _ ia5)) rfl rfl ?_
    refine WK.x (i := 3) (by kernel_rfl) rfl (OpV.x (R.move rfl)) (fun _ w hw => hw) (fun _ _ _ w hw => hw) rfl rfl (by kernel_rfl) fun _ => ?_
    refine WK.x (i := 4) (by kernel_rfl) rfl (R.call rfl en54 (impl_Square_left_tr p2 p3 p0 h2)) (fun _ w hw => hw) (fun _ _ _ w hw => hw) rfl rfl (by kernel_rfl) fun x3 => ?_
    refine WK.x (i := 5) (by kernel_rfl) rfl (R.call rfl en48 (impl_set_has_tr p1 o1 h5)) (fun _ w hw => hw) (fun _ _ _ w hw => hw) rfl rfl (by kernel_rfl) fun x6 => ?_
    refine WK.x (i := 6) (by kernel_rfl) rfl (OpV.x (R.assign rfl)) (fun _ w hw => hw) (fun _ _ _ w hw => hw) rfl rfl (by kernel_rfl) fun _ => ?_
    refine WK.nil (by kernel_rfl) ?_
    exact fun a w s => And.intro rfl (Exists.intro x3 (Exists.intro x6 (Sat.mk (s.env.le ⟨rfl, trivial⟩) (s.mem))))
  · refine Go2.ex fun x3 => ?_
    refine Go2.ex fun x6 => ?_
    refine Go2.sat ?_
    refine Go.then_ ?_
    refine W.ret ?_
    have he := Option.some.inj hm
    clear hm
    subst r
    exact Go.ret1 rfl (.tmp rfl) (fun w hw => ⟨_, rfl, _, ⟨(), rfl, rfl⟩, hw⟩)
set_option maxRecDepth 100000 in
theorem impl_Square_coset_tr {G : World} {F : List Res} (p0 : S_Square) (p1 : Int) (p2 : Int) {r : Int} (hm : impl_Square_coset p0 p1 p2 = some r) : Tr Tryd.prog G 44 [(.agg (e_S_Square.cells p0).toArray), (.int .u8 p1), (.int .i64 p2)] F (fun u K => ∃ x : Unit, u = (.int .i64 r) ∧ K = F) := by
  unfold impl_Square_coset at hm
  refine Tr.body Tryd.func44 rfl Tryd.ntmps44 ?_
  refine W.seq ?_
  refine W.region ?_
  refine WL.x (R.box rfl (cells_agg _)) rfl fun b1 => ?_
  refine WL.x (R.box rfl rfl) rfl fun b2 => ?_
  refine WL.x (R.box rfl rfl) rfl fun b3 => ?_
  refine WL.q (R.assign rfl) rfl ?_
  refine WL.nil ?_
  refine Go.then_ ?_
  refine W.seq ?_
  refine W.region ?_
  refine WL.q (R.load rfl (At.bx 2 rfl (Sub.refl _)) (lies_agg e_S_Square p0 ia29 sz29)) rfl ?_
  refine WL.q (R.makeFunc (fs := []) (cs := [(.pointer (some ⟨b3, 0, none⟩)), (.pointer (some ⟨b1, 0, none⟩)), (.pointer (some ⟨b2, 0, none⟩))]) rfl rfl) rfl ?_
  obtain ⟨o4, h5, hm⟩ := of_bind hm
  refine WL.x (R.call rfl en56 (impl_Square_those_tr p0 57 [] [(.pointer (some ⟨b3, 0, none⟩)), (.pointer (some ⟨b1, 0, none⟩)), (.pointer (some ⟨b2, 0, none⟩))] (fun a0 => impl_Square_coset_c1 a0 p2 p0 p1) en57 (fun L a0 r h => impl_Square_coset_c1_tr (F := L ++ ((bx b3 ((Enc.int .i64).cells p2)) :: (bx b2 ((Enc.int .u8).cells p1)) :: (bx b1 (e_S_Square.cells p0)) :: F)) a0 b3 p2 (At.bx 0 rfl (Sub.refl _)).liftL b1 p0 (At.bx 2 rfl (Sub.refl _)).liftL b2 p1 (At.bx 1 rfl (Sub.refl _)).liftL h) h5)) rfl fun x6 => ?_
  refine WL.q (R.assign rfl) rfl ?_
  refine WL.nil ?_
  refine Go.then_ ?_
  refine W.ret ?_
  have he := Option.some.inj hm
  clear hm
  subst r
  exact Go.ret1 rfl (.tmp rfl) (fun w hw => ⟨_, rfl, _, ⟨(), rfl, rfl⟩, hw.reord [] 3 rfl⟩)
set_option maxRecDepth 100000 in
theorem slices_insertionSortCmpFunc_impl_set_tr {G : World} {F : List Res} (q0 : Value) (p0 : (List Int)) (p1 : Int) (p2 : Int) (g3 : FuncId) (fs3 cs3 : List Value) (f3 : Int → Int → Option Int) (en_3 : Enters Tryd.prog g3) (hf3 : ∀ (L : List Res) (a0 : Int) (a1 : Int) (r : Int), f3 a0 a1 = some r → Tr Tryd.prog G g3 (fs3 ++ [(.int .i64 a0), (.int .i64 a1)] ++ cs3) (L ++ F) (fun u K => ∃ x : Unit, u = (.int .i64 r) ∧ K = L ++ F)) {r : (List Int)} (hm : slices_insertionSortCmpFunc_impl_set p0 p1 p2 f3 = some r) : Tr Tryd.prog G 67 [q0, (.int .i64 p1), (.int .i64 p2), (.func (.func g3) fs3.toArray cs3.toArray)] ((slT (Enc.int .i64) q0 p0) :: F) (fun u K => ∃ x : Unit, u = (.tuple #[]) ∧ K = ((slT (Enc.int .i64) q0 r) :: F)) := by
  unfold slices_insertionSortCmpFunc_impl_set at hm
  refine Tr.body Tryd.func67 rfl Tryd.ntmps67 ?_
  refine W.seq ?_
  refine W.region ?_
  refine WL.q (R.move rfl) rfl ?_
  refine WL.q (R.add rfl rfl) rfl ?_
  refine WL.q (R.assign rfl) rfl ?_
  refine WL.nil ?_
  refine Go.then_ ?_
  refine W.block ?_
  obtain ⟨o2, hlo2, hm⟩ := of_bind hm
  refine W.loopx (fun (s1 : ((List Int) × Int)) a w => Sat G ((slT (Enc.int .i64) q0 s1.1) :: F) 53 [(0, q0), (1, (.int .i64 p1)), (2, (.int .i64 p2)), (3, (.func (.func g3) fs3.toArray cs3.toArray)), (8, (.int .i64 s1.2))] a w) (fun (o2 : (List Int)) e a w => And (e = (.exit 0)) (Sat G ((slT (Enc.int .i64) q0 o2) :: F) 53 [] a w)) hlo2 (fun a w s => (Sat.mk (s.env.le ⟨rfl, rfl, rfl, rfl, rfl, trivial⟩) (s.mem))) ?_ ?_
  · clear hm
    intro s1 x hm a w hJ
    have s := hJ
    unfold slices_insertionSortCmpFunc_impl_set_L1 at hm
    refine W.use s ?_
    refine W.seq ?_
    refine W.seq ?_
    refine W.region ?_
    refine WL.q (R.move rfl) rfl ?_
    refine WL.q (R.move rfl) rfl ?_
    refine WL.q (R.lss rfl rfl) rfl ?_
    refine WL.nil ?_
    refine Go.then_ ?_
    by_cases h75 : s1.2 < p2
    · rw [if_pos h75] at hm
      refine W.cond_t rfl (decide_eq_true h75) ?_
      refine W.skip ?_
      refine Go.then_ ?_
      refine W.seq ?_
      refine W.block ?_
      refine W.seq ?_
      refine W.region ?_
      refine WL.q (R.move rfl) rfl ?_
      refine WL.q (R.assign rfl) rfl ?_
      refine WL.nil ?_
      refine Go.then_ ?_
      refine W.block ?_
      obtain ⟨o77, hlo77, hm⟩ := of_bind hm
      refine W.loopx (fun (s76 : ((List Int) × Int)) a w => Sat G ((slT (Enc.int .i64) q0 s76.1) :: F) 53 [(0, q0), (1, (.int .i64 p1)), (2, (.int .i64 p2)), (3, (.func (.func g3) fs3.toArray cs3.toArray)), (8, (.int .i64 s1.2)), (9, (.int .i64 s76.2))] a w) (fun (o77 : (List Int)) e a w => And (e = (.exit 2)) (Sat G ((slT (Enc.int .i64) q0 o77) :: F) 53 [(0, q0), (1, (.int .i64 p1)), (2, (.int .i64 p2)), (3, (.func (.func g3) fs3.toArray cs3.toArray)), (8, (.int .i64 s1.2))] a w)) hlo77 (fun a w s => (Sat.mk (s.env.le ⟨rfl, rfl, rfl, rfl, rfl, rfl, trivial⟩) (s.mem))) ?_ ?_
      · clear hm
        intro s76 x hm a w hJ
        have s := hJ
        unfold slices_insertionSortCmpFunc_impl_set_L2 at hm
        refine W.use s ?_
        refine W.seq ?_
        obtain ⟨o106, hm, hmo106⟩ := of_bind hm
        refine W.seq ?_
        refine W.join (fun e a w => And (e = .normal) (Sat G ((slT (Enc.int .i64) q0 s76.1) :: F) 53 [(0, q0), (1, (.int .i64 p1)), (2, (.int .i64 p2)), (3, (.func (.func g3) fs3.toArray cs3.toArray)), (8, (.int .i64 s1.2)), (9, (.int .i64 s76.2)), (34, (.bool o106))] a w)) ?_ ?_
        · by_cases h100 : p1 < s76.2
          · rw [if_pos h100] at hm
            obtain ⟨h101, hm⟩ := of_guard hm
            obtain ⟨h102, hm⟩ := of_guard hm
            obtain ⟨o103, h104, hm⟩ := of_bind hm
            refine W.join1 (fun a w => ∃ x105 : Unit, Sat G ((slT (Enc.int .i64) q0 s76.1) :: F) 53 [(0, q0), (1, (.int .i64 p1)), (2, (.int .i64 p2)), (3, (.func (.func g3) fs3.toArray cs3.toArray)), (8, (.int .i64 s1.2)), (9, (.int .i64 s76.2)), (22, (.func (.func g3) fs3.toArray cs3.toArray)), (23, q0), (24, (.int .i64 s76.2)), (26, (.int .i64 (gl s76.1 s76.2))), (27, q0), (28, (.int .i64 s76.2)), (29, (.int .i64 (IntKind.i64.wrap (s76.2 - 1)))), (31, (.int .i64 (gl s76.1 (IntKind.i64.wrap (s76.2 - 1))))), (32, (.int .i64 o103)), (33, (.bool (decide (o103 < 0)))), (34, (.bool (decide (o103 < 0))))] a w) ?_ ?_
            · refine W.draw (n := 17) ((slT (Enc.int .i64) q0 s76.1) :: F) F 17 (by kernel_rfl) rfl rfl (fun w hw => hw) (fun w hw => hw.drop 1) ?_
              refine WK.q (i := 0) rfl rfl (by kernel_rfl) calm_n (R.move rfl) rfl rfl ?_
              refine WK.x (i := 1) (by kernel_rfl) rfl (OpV.x (R.move rfl)) (fun _ w hw => hw) (fun _ _ _ w hw => hw.reord [] 1 rfl) rfl rfl (by kernel_rfl) fun _ => ?_
              refine WK.x (i := 2) (by kernel_rfl) rfl (OpV.x (R.gtr rfl rfl)) (fun _ w hw => hw) (fun _ _ _ w hw => hw.reord [] 1 rfl) rfl rfl (by kernel_rfl) fun _ => ?_
              refine WK.x (i := 3) (by kernel_rfl) rfl (OpV.x (R.move rfl)) (fun _ w hw => hw) (fun _ _ _ w hw => hw.reord [] 1 rfl) rfl rfl (by kernel_rfl) fun _ => ?_
              refine WK.qg (i := 4) rfl rfl rfl (decide_eq_true h100) (by kernel_rfl) calm_n (R.move rfl) rfl rfl ?_
              refine WK.qg (i := 5) rfl rfl rfl (decide_eq_true h100) (by kernel_rfl) calm_n (R.move rfl) rfl rfl ?_
              refine WK.qg (i := 6) rfl rfl rfl (decide_eq_true h100) (by kernel_rfl) calm_n (R.move rfl) rfl rfl ?_
              refine WK.qg (i := 7) rfl rfl rfl (decide_eq_true h100) (by kernel_rfl) calm_n (R.idxT rfl rfl el60 (RdT.at 0 rfl) h101) rfl rfl ?_
              refine WK.qg (i := 8) rfl rfl rfl (decide_eq_true h100) (by kernel_rfl) calm_n (R.load rfl (At.elT (RdT.at 0 rfl) (by decide) h101) (Lies.one _ ia44)) rfl rfl ?_
              refine WK.qg (i := 9) rfl rfl rfl (decide_eq_true h100) (by kernel_rfl) calm_n (R.move rfl) rfl rfl ?_
              refine WK.xg (i := 10) (by kernel_rfl) rfl rfl rfl (decide_eq_true h100) (OpV.x (R.move rfl)) (fun _ w hw => hw) (fun _ _ _ w hw => hw.reord [] 1 rfl) rfl rfl (by kernel_rfl) fun _ => ?_
              refine WK.xg (i := 11) (by kernel_rfl) rfl rfl rfl (decide_eq_true h100) (OpV.x (R.sub rfl rfl)) (fun _ w hw => hw) (fun _ _ _ w hw => hw.reord [] 1 rfl) rfl rfl (by kernel_rfl) fun _ => ?_
              refine WK.xg (i := 12) (by kernel_rfl) rfl rfl rfl (decide_eq_true h100) (OpV.x (R.idxT rfl rfl el60 (RdT.at 0 rfl) h102)) (fun _ w hw => hw) (fun _ _ _ w hw => hw.reord [] 1 rfl) rfl rfl (by kernel_rfl) fun _ => ?_
              refine WK.xg (i := 13) (by kernel_rfl) rfl rfl rfl (decide_eq_true h100) (OpV.x (R.load rfl (At.elT (RdT.at 0 rfl) (by decide) h102) (Lies.one _ ia44))) (fun _ w hw => hw) (fun _ _ _ w hw => hw.reord [] 1 rfl) rfl rfl (by kernel_rfl) fun _ => ?_
              refine WK.xg (i := 14) (by kernel_rfl) rfl rfl rfl (decide_eq_true h100) (R.callAny (fs := fs3) (cs := cs3) (vs := [(.int .i64 (gl s76.1 s76.2)), (.int .i64 (gl s76.1 (IntKind.i64.wrap (s76.2 - 1))))]) rfl rfl en_3 (hf3 [(slT (Enc.int .i64) q0 s76.1)] (gl s76.1 s76.2) (gl s76.1 (IntKind.i64.wrap (s76.2 - 1))) _ h104)) (fun _ w hw => hw) (fun _ _ _ w hw => hw.reord [] 1 rfl) rfl rfl (by kernel_rfl) fun x105 => ?_
              refine WK.xg (i := 15) (by kernel_rfl) rfl rfl rfl (decide_eq_true h100) (OpV.x (R.lss rfl rfl)) (fun _ w hw => hw) (fun _ _ _ w hw => hw.reord [] 1 rfl) rfl rfl (by kernel_rfl) fun _ => ?_
              refine WK.x (i := 16) (by kernel_rfl) rfl (OpV.x (R.pick_t rfl (decide_eq_true h100) rfl)) (fun _ w hw => hw) (fun _ _ _ w hw => hw.reord [] 1 rfl) rfl rfl (by kernel_rfl) fun _ => ?_
              refine WK.nil (by kernel_rfl) ?_
              exact fun a w s => And.intro rfl (Exists.intro x105 (Sat.mk (s.env.le ⟨rfl, rfl, rfl, rfl, rfl, rfl, rfl, rfl, rfl, rfl, rfl, rfl, rfl, rfl, rfl, rfl, rfl, trivial⟩) (s.mem)))
            · refine Go2.ex fun x105 => ?_
              refine Go2.sat ?_
              have he := Option.some.inj hm
              clear hm
              subst o106
              exact fun a w s => And.intro rfl (Sat.mk (s.env.le ⟨rfl, rfl, rfl, rfl, rfl, rfl, rfl, trivial⟩) (s.mem))
          · rw [if_neg h100] at hm
            refine W.join1 (fun a w => Sat G ((slT (Enc.int .i64) q0 s76.1) :: F) 53 [(0, q0), (1, (.int .i64 p1)), (2, (.int .i64 p2)), (3, (.func (.func g3) fs3.toArray cs3.toArray)), (8, (.int .i64 s1.2)), (9, (.int .i64 s76.2)), (34, (.bool false))] a w) ?_ ?_
            · refine W.draw (n := 17) ((slT (Enc.int .i64) q0 s76.1) :: F) F 17 (by kernel_rfl) rfl rfl (fun w hw => hw) (fun w hw => hw.drop 1) ?_
              refine WK.q (i := 0) rfl rfl (by kernel_rfl) calm_n (R.move rfl) rfl rfl ?_
              refine WK.x (i := 1) (by kernel_rfl) rfl (OpV.x (R.move rfl)) (fun _ w hw => hw) (fun _ _ _ w hw => hw.reord [] 1 rfl) rfl rfl (by kernel_rfl) fun _ => ?_
              refine WK.x (i := 2) (by kernel_rfl) rfl (OpV.x (R.gtr rfl rfl)) (fun _ w hw => hw) (fun _ _ _ w hw => hw.reord [] 1 rfl) rfl rfl (by kernel_rfl) fun _ => ?_
              refine WK.x (i := 3) (by kernel_rfl) rfl (OpV.x (R.move rfl)) (fun _ w hw => hw) (fun _ _ _ w hw => hw.reord [] 1 rfl) rfl rfl (by kernel_rfl) fun _ => ?_
              refine WK.qoff (i := 4) rfl rfl rfl (decide_eq_false h100) (by kernel_rfl) calm_n rfl rfl ?_
              refine WK.qoff (i := 5) rfl rfl rfl (decide_eq_false h100) (by kernel_rfl) calm_n rfl rfl ?_
              refine WK.qoff (i := 6) rfl rfl rfl (decide_eq_false h100) (by kernel_rfl) calm_n rfl rfl ?_
              refine WK.qoff (i := 7) rfl rfl rfl (decide_eq_false h100) (by kernel_rfl) calm_n rfl rfl ?_
              refine WK.qoff (i := 8) rfl rfl rfl (decide_eq_false h100) (by kernel_rfl) calm_n rfl rfl ?_
              refine WK.qoff (i := 9) rfl rfl rfl (decide_eq_false h100) (by kernel_rfl) calm_n rfl rfl ?_
              refine WK.qoff (i := 10) rfl rfl rfl (decide_eq_false h100) (by kernel_rfl) calm_n rfl rfl ?_
              refine WK.qoff (i := 11) rfl rfl rfl (decide_eq_false h100) (by kernel_rfl) calm_n rfl rfl ?_
              refine WK.qoff (i := 12) rfl rfl rfl (decide_eq_false h100) (by kernel_rfl) calm_n rfl rfl ?_
              refine WK.qoff (i := 13) rfl rfl rfl (decide_eq_false h100) (by kernel_rfl) calm_n rfl rfl ?_
              refine WK.qoff (i := 14) rfl rfl rfl (decide_eq_false h100) (by kernel_rfl) calm_n rfl rfl ?_
              refine WK.qoff (i := 15) rfl rfl rfl (decide_eq_false h100) (by kernel_rfl) calm_n rfl rfl ?_
              refine WK.x (i := 16) (by kernel_rfl) rfl (OpV.x (R.pick_f rfl (decide_eq_false h100) rfl)) (fun _ w hw => hw) (fun _ _ _ w hw => hw.reord [] 1 rfl) rfl rfl (by kernel_rfl) fun _ => ?_
              refine WK.nil (by kernel_rfl) ?_
              exact fun a w s => And.intro rfl (Sat.mk (s.env.le ⟨rfl, rfl, rfl, rfl, rfl, rfl, rfl, trivial⟩) (s.mem))
            · refine Go2.sat ?_
              have he := Option.some.inj hm
              clear hm
              subst o106
              exact fun a w s => And.intro rfl (Sat.mk (s.env.le ⟨rfl, rfl, rfl, rfl, rfl, rfl, rfl, trivial⟩) (s.mem))
        · intro e a w hJ
          replace hm := hmo106
          clear hmo106
          obtain ⟨rfl, s⟩ := hJ
          refine Go.use s ?_
          refine Go.then_ ?_
          by_cases h107 : o106 = true
          · rw [if_pos h107] at hm
            refine W.cond_t rfl h107 ?_
            refine W.skip ?_
            refine Go.then_ ?_
            refine W.seq ?_
            refine W.block ?_
            obtain ⟨h108, hm⟩ := of_guard hm
            obtain ⟨h109, hm⟩ := of_guard hm
            obtain ⟨h110, hm⟩ := of_guard hm
            refine W.join1 (fun a w => Sat G ((slT (Enc.int .i64) q0 (sls (sls s76.1 s76.2 (gl s76.1 (IntKind.i64.wrap (s76.2 - 1)))) (IntKind.i64.wrap (s76.2 - 1)) (gl s76.1 s76.2))) :: F) 53 [(0, q0), (1, (.int .i64 p1)), (2, (.int .i64 p2)), (3, (.func (.func g3) fs3.toArray cs3.toArray)), (8, (.int .i64 s1.2)), (9, (.int .i64 s76.2))] a w) ?_ ?_
            · refine W.draw (n := 18) F F 15 (by kernel_rfl) rfl rfl (fun w hw => hw.reord [] 1 rfl) (fun w hw => hw.drop 1) ?_
              refine WK.q (i := 0) rfl rfl (by kernel_rfl) calm_n (R.move rfl) rfl rfl ?_
              refine WK.q (i := 1) rfl rfl (by kernel_rfl) calm_n (R.move rfl) rfl rfl ?_
              refine WK.q (i := 2) rfl rfl (by kernel_rfl) calm_n (R.move rfl) rfl rfl ?_
              refine WK.q (i := 3) rfl rfl (by kernel_rfl) calm_n (R.move rfl) rfl rfl ?_
              refine WK.q (i := 4) rfl rfl (by kernel_rfl) calm_n (R.sub rfl rfl) rfl rfl ?_
              refine WK.q (i := 5) rfl rfl (by kernel_rfl) calm_n (R.move rfl) rfl rfl ?_
              refine WK.q (i := 6) rfl rfl (by kernel_rfl) calm_n (R.move rfl) rfl rfl ?_
              refine WK.q (i := 7) rfl rfl (by kernel_rfl) calm_n (R.sub rfl rfl) rfl rfl ?_
              refine WK.q (i := 10) rfl rfl (by kernel_rfl) calm_n (R.move rfl) rfl rfl ?_
              refine WK.q (i := 11) rfl rfl (by kernel_rfl) calm_n (R.move rfl) rfl rfl ?_
              refine WK.among (is := [8, 12]) (by kernel_rfl) rfl ?_
              refine WKa.x rfl (OpV.x (R.idxT rfl rfl el60 (RdT.at 0 rfl) h108)) (fun _ w hw => hw.reord [] 1 rfl) (fun _ _ _ w hw => hw.reord [] 1 rfl) rfl rfl (by kernel_rfl) (fun _ => ?_) ?_
              · refine WK.among (is := [9, 12]) (by kernel_rfl) rfl ?_
                refine WKa.x rfl (OpV.x (R.load rfl (At.elT (RdT.at 0 rfl) (by decide) h108) (Lies.one _ ia44))) (fun _ w hw => hw.reord [] 1 rfl) (fun _ _ _ w hw => hw.reord [] 1 rfl) rfl rfl (by kernel_rfl) (fun _ => ?_) ?_
                · refine WK.x (i := 12) (by kernel_rfl) rfl (OpV.x (R.idxT rfl rfl el60 (RdT.at 0 rfl) h109)) (fun _ w hw => hw.reord [] 1 rfl) (fun _ _ _ w hw => hw.reord [] 1 rfl) rfl rfl (by kernel_rfl) fun _ => ?_
                  refine WK.x (i := 13) (by kernel_rfl) rfl (OpV.x (R.load rfl (At.elT (RdT.at 0 rfl) (by decide) h109) (Lies.one _ ia44))) (fun _ w hw => hw.reord [] 1 rfl) (fun _ _ _ w hw => hw.reord [] 1 rfl) rfl rfl (by kernel_rfl) fun _ => ?_
                  refine WK.x (i := 14) (by kernel_rfl) rfl (OpV.x (R.idxT rfl rfl el60 (RdT.at 0 rfl) h109)) (fun _ w hw => hw.reord [] 1 rfl) (fun _ _ _ w hw => hw.reord [] 1 rfl) rfl rfl (by kernel_rfl) fun _ => ?_
                  refine WK.x0 (i := 15) (by kernel_rfl) rfl (R.storeT (i := 0) (gl s76.1 (IntKind.i64.wrap (s76.2 - 1))) rfl rfl rfl (fits_int sz44) (by decide) h109) (fun _ w hw => hw.reord [] 1 rfl) (fun h1 h2 => by cases h1) rfl (by kernel_rfl) fun _ => ?_
                  refine WK.x (i := 16) (by kernel_rfl) rfl (OpV.x (R.idxT rfl rfl el60 (RdT.at 0 rfl) h110)) (fun _ w hw => hw.reord [] 1 rfl) (fun h1 h2 => by cases h2) rfl rfl (by kernel_rfl) fun _ => ?_
                  refine WK.x0 (i := 17) (by kernel_rfl) rfl (R.storeT (i := 0) (gl s76.1 s76.2) rfl rfl rfl (fits_int sz44) (by decide) h110) (fun _ w hw => hw.reord [] 1 rfl) (fun h1 h2 => by cases h2) rfl (by kernel_rfl) fun _ => ?_
                  refine WK.nil (by kernel_rfl) ?_
                  exact fun a w s => And.intro rfl (Sat.mk (s.env.le ⟨rfl, rfl, rfl, rfl, rfl, rfl, trivial⟩) (s.mem))
                refine WKa.x rfl (OpV.x (R.idxT rfl rfl el60 (RdT.at 0 rfl) h109)) (fun _ w hw => hw.reord [] 1 rfl) (fun _ _ _ w hw => hw.reord [] 1 rfl) rfl rfl (by kernel_rfl) (fun _ => ?_) ?_
                · refine WK.among (is := [9, 13]) (by kernel_rfl) rfl ?_
                  refine WKa.x rfl (OpV.x (R.load rfl (At.elT (RdT.at 0 rfl) (by decide) h108) (Lies.one _ ia44))) (fun _ w hw => hw.reord [] 1 rfl) (fun _ _ _ w hw => hw.reord [] 1 rfl) rfl rfl (by kernel_rfl) (fun _ => ?_) ?_
                  · refine WK.x (i := 13) (by kernel_rfl) rfl (OpV.x (R.load rfl (At.elT (RdT.at 0 rfl) (by decide) h109) (Lies.one _ ia44))) (fun _ w hw => hw.reord [] 1 rfl) (fun _ _ _ w hw => hw.reord [] 1 rfl) rfl rfl (by kernel_rfl) fun _ => ?_
                    refine WK.x (i := 14) (by kernel_rfl) rfl (OpV.x (R.idxT rfl rfl el60 (RdT.at 0 rfl) h109)) (fun _ w hw => hw.reord [] 1 rfl) (fun _ _ _ w hw => hw.reord [] 1 rfl) rfl rfl (by kernel_rfl) fun _ => ?_
                    refine WK.x0 (i := 15) (by kernel_rfl) rfl (R.storeT (i := 0) (gl s76.1 (IntKind.i64.wrap (s76.2 - 1))) rfl rfl rfl (fits_int sz44) (by decide) h109) (fun _ w hw => hw.reord [] 1 rfl) (fun h1 h2 => by cases h1) rfl (by kernel_rfl) fun _ => ?_
                    refine WK.x (i := 16) (by kernel_rfl) rfl (OpV.x (R.idxT rfl rfl el60 (RdT.at 0 rfl) h110)) (fun _ w hw => hw.reord [] 1 rfl) (fun h1 h2 => by cases h2) rfl rfl (by kernel_rfl) fun _ => ?_
                    refine WK.x0 (i := 17) (by kernel_rfl) rfl (R.storeT (i := 0) (gl s76.1 s76.2) rfl rfl rfl (fits_int sz44) (by decide) h110) (fun _ w hw => hw.reord [] 1 rfl) (fun h1 h2 => by cases h2) rfl (by kernel_rfl) fun _ => ?_
                    refine WK.nil (by kernel_rfl) ?_
                    exact fun a w s => And.intro rfl (Sat.mk (s.env.le ⟨rfl, rfl, rfl, rfl, rfl, rfl, trivial⟩) (s.mem))
                  refine WKa.x rfl (OpV.x (R.load rfl (At.elT (RdT.at 0 rfl) (by decide) h109) (Lies.one _ ia44))) (fun _ w hw => hw.reord [] 1 rfl) (fun _ _ _ w hw => hw.reord [] 1 rfl) rfl rfl (by kernel_rfl) (fun _ => ?_) ?_
                  · refine WK.x (i := 9) (by kernel_rfl) rfl (OpV.x (R.load rfl (At.elT (RdT.at 0 rfl) (by decide) h108) (Lies.one _ ia44))) (fun _ w hw => hw.reord [] 1 rfl) (fun _ _ _ w hw => hw.reord [] 1 rfl) rfl rfl (by kernel_rfl) fun _ => ?_
                    refine WK.x (i := 14) (by kernel_rfl) rfl (OpV.x (R.idxT rfl rfl el60 (RdT.at 0 rfl) h109)) (fun _ w hw => hw.reord [] 1 rfl) (fun _ _ _ w hw => hw.reord [] 1 rfl) rfl rfl (by kernel_rfl) fun _ => ?_
                    refine WK.x0 (i := 15) (by kernel_rfl) rfl (R.storeT (i := 0) (gl s76.1 (IntKind.i64.wrap (s76.2 - 1))) rfl rfl rfl (fits_int sz44) (by decide) h109) (fun _ w hw => hw.reord [] 1 rfl) (fun h1 h2 => by cases h1) rfl (by kernel_rfl) fun _ => ?_
                    refine WK.x (i := 16) (by kernel_rfl) rfl (OpV.x (R.idxT rfl rfl el60 (RdT.at 0 rfl) h110)) (fun _ w hw => hw.reord [] 1 rfl) (fun h1 h2 => by cases h2) rfl rfl (by kernel_rfl) fun _ => ?_
                    refine WK.x0 (i := 17) (by kernel_rfl) rfl (R.storeT (i := 0) (gl s76.1 s76.2) rfl rfl rfl (fits_int sz44) (by decide) h110) (fun _ w hw => hw.reord [] 1 rfl) (fun h1 h2 => by cases h2) rfl (by kernel_rfl) fun _ => ?_
                    refine WK.nil (by kernel_rfl) ?_
                    exact fun a w s => And.intro rfl (Sat.mk (s.env.le ⟨rfl, rfl, rfl, rfl, rfl, rfl, trivial⟩) (s.mem))
                  exact WKa.nil
                exact WKa.nil
              refine WKa.x rfl (OpV.x (R.idxT rfl rfl el60 (RdT.at 0 rfl) h109)) (fun _ w hw => hw.reord [] 1 rfl) (fun _ _ _ w hw => hw.reord [] 1 rfl) rfl rfl (by kernel_rfl) (fun _ => ?_) ?_
              · refine WK.among (is := [8, 13]) (by kernel_rfl) rfl ?_
                refine WKa.x rfl (OpV.x (R.idxT rfl rfl el60 (RdT.at 0 rfl) h108)) (fun _ w hw => hw.reord [] 1 rfl) (fun _ _ _ w hw => hw.reord [] 1 rfl) rfl rfl (by kernel_rfl) (fun _ => ?_) ?_
                · refine WK.among (is := [9, 13]) (by kernel_rfl) rfl ?_
                  refine WKa.x rfl (OpV.x (R.load rfl (At.elT (RdT.at 0 rfl) (by decide) h108) (Lies.one _ ia44))) (fun _ w hw => hw.reord [] 1 rfl) (fun _ _ _ w hw => hw.reord [] 1 rfl) rfl rfl (by kernel_rfl) (fun _ => ?_) ?_
                  · refine WK.x (i := 13) (by kernel_rfl) rfl (OpV.x (R.load rfl (At.elT (RdT.at 0 rfl) (by decide) h109) (Lies.one _ ia44))) (fun _ w hw => hw.reord [] 1 rfl) (fun _ _ _ w hw => hw.reord [] 1 rfl) rfl rfl (by kernel_rfl) fun _ => ?_
                    refine WK.x (i := 14) (by kernel_rfl) rfl (OpV.x (R.idxT rfl rfl el60 (RdT.at 0 rfl) h109)) (fun _ w hw => hw.reord [] 1 rfl) (fun _ _ _ w hw => hw.reord [] 1 rfl) rfl rfl (by kernel_rfl) fun _ => ?_
                    refine WK.x0 (i := 15) (by kernel_rfl) rfl (R.storeT (i := 0) (gl s76.1 (IntKind.i64.wrap (s76.2 - 1))) rfl rfl rfl (fits_int sz44) (by decide) h109) (fun _ w hw => hw.reord [] 1 rfl) (fun h1 h2 => by cases h1) rfl (by kernel_rfl) fun _ => ?_
                    refine WK.x (i := 16) (by kernel_rfl) rfl (OpV.x (R.idxT rfl rfl el60 (RdT.at 0 rfl) h110)) (fun _ w hw => hw.reord [] 1 rfl) (fun h1 h2 => by cases h2) rfl rfl (by kernel_rfl) fun _ => ?_
                    refine WK.x0 (i := 17) (by kernel_rfl) rfl (R.storeT (i := 0) (gl s76.1 s76.2) rfl rfl rfl (fits_int sz44) (by decide) h110) (fun _ w hw => hw.reord [] 1 rfl) (fun h1 h2 => by cases h2) rfl (by kernel_rfl) fun _ => ?_
                    refine WK.nil (by kernel_rfl) ?_
                    exact fun a w s => And.intro rfl (Sat.mk (s.env.le ⟨rfl, rfl, rfl, rfl, rfl, rfl, trivial⟩) (s.mem))
                  refine WKa.x rfl (OpV.x (R.load rfl (At.elT (RdT.at 0 rfl) (by decide) h109) (Lies.one _ ia44))) (fun _ w hw => hw.reord [] 1 rfl) (fun _ _ _ w hw => hw.reord [] 1 rfl) rfl rfl (by kernel_rfl) (fun _ => ?_) ?_
                  · refine WK.x (i := 9) (by kernel_rfl) rfl (OpV.x (R.load rfl (At.elT (RdT.at 0 rfl) (by decide) h108) (Lies.one _ ia44))) (fun _ w hw => hw.reord [] 1 rfl) (fun _ _ _ w hw => hw.reord [] 1 rfl) rfl rfl (by kernel_rfl) fun _ => ?_
                    refine WK.x (i := 14) (by kernel_rfl) rfl (OpV.x (R.idxT rfl rfl el60 (RdT.at 0 rfl) h109)) (fun _ w hw => hw.reord [] 1 rfl) (fun _ _ _ w hw => hw.reord [] 1 rfl) rfl rfl (by kernel_rfl) fun _ => ?_
                    refine WK.x0 (i := 15) (by kernel_rfl) rfl (R.storeT (i := 0) (gl s76.1 (IntKind.i64.wrap (s76.2 - 1))) rfl rfl rfl (fits_int sz44) (by decide) h109) (fun _ w hw => hw.reord [] 1 rfl) (fun h1 h2 => by cases h1) rfl (by kernel_rfl) fun _ => ?_
                    refine WK.x (i := 16) (by kernel_rfl) rfl (OpV.x (R.idxT rfl rfl el60 (RdT.at 0 rfl) h110)) (fun _ w hw => hw.reord [] 1 rfl) (fun h1 h2 => by cases h2) rfl rfl (by kernel_rfl) fun _ => ?_
                    refine WK.x0 (i := 17) (by kernel_rfl) rfl (R.storeT (i := 0) (gl s76.1 s76.2) rfl rfl rfl (fits_int sz44) (by decide) h110) (fun _ w hw => hw.reord [] 1 rfl) (fun h1 h2 => by cases h2) rfl (by kernel_rfl) fun _ => ?_
                    refine WK.nil (by kernel_rfl) ?_
                    exact fun a w s => And.intro rfl (Sat.mk (s.env.le ⟨rfl, rfl, rfl, rfl, rfl, rfl, trivial⟩) (s.mem))
                  exact WKa.nil
                refine WKa.x rfl (OpV.x (R.load rfl (At.elT (RdT.at 0 rfl) (by decide) h109) (Lies.one _ ia44))) (fun _ w hw => hw.reord [] 1 rfl) (fun _ _ _ w hw => hw.reord [] 1 rfl) rfl rfl (by kernel_rfl) (fun _ => ?_) ?_
                · refine WK.x (i := 8) (by kernel_rfl) rfl (OpV.x (R.idxT rfl rfl el60 (RdT.at 0 rfl) h108)) (fun _ w hw => hw.reord [] 1 rfl) (fun _ _ _ w hw => hw.reord [] 1 rfl) rfl rfl (by kernel_rfl) fun _ => ?_
                  refine WK.x (i := 9) (by kernel_rfl) rfl (OpV.x (R.load rfl (At.elT (RdT.at 0 rfl) (by decide) h108) (Lies.one _ ia44))) (fun _ w hw => hw.reord [] 1 rfl) (fun _ _ _ w hw => hw.reord [] 1 rfl) rfl rfl (by kernel_rfl) fun _ => ?_
                  refine WK.x (i := 14) (by kernel_rfl) rfl (OpV.x (R.idxT rfl rfl el60 (RdT.at 0 rfl) h109)) (fun _ w hw => hw.reord [] 1 rfl) (fun _ _ _ w hw => hw.reord [] 1 rfl) rfl rfl (by kernel_rfl) fun _ => ?_
                  refine WK.x0 (i := 15) (by kernel_rfl) rfl (R.storeT (i := 0) (gl s76.1 (IntKind.i64.wrap (s76.2 - 1))) rfl rfl rfl (fits_int sz44) (by decide) h109) (fun _ w hw => hw.reord [] 1 rfl) (fun h1 h2 => by cases h1) rfl (by kernel_rfl) fun _ => ?_
                  refine WK.x (i := 16) (by kernel_rfl) rfl (OpV.x (R.idxT rfl rfl el60 (RdT.at 0 rfl) h110)) (fun _ w hw => hw.reord [] 1 rfl) (fun h1 h2 => by cases h2) rfl rfl (by kernel_rfl) fun _ => ?_
                  refine WK.x0 (i := 17) (by kernel_rfl) rfl (R.storeT (i := 0) (gl s76.1 s76.2) rfl rfl rfl (fits_int sz44) (by decide) h110) (fun _ w hw => hw.reord [] 1 rfl) (fun h1 h2 => by cases h2) rfl (by kernel_rfl) fun _ => ?_
                  refine WK.nil (by kernel_rfl) ?_
                  exact fun a w s => And.intro rfl (Sat.mk (s.env.le ⟨rfl, rfl, rfl, rfl, rfl, rfl, trivial⟩) (s.mem))
                exact WKa.nil
              exact WKa.nil
            · refine Go2.sat ?_
              refine Go.n_block ?_
              refine Go.then_ ?_
              refine W.region ?_
              refine WL.q (R.move rfl) rfl ?_
              refine WL.q (R.sub rfl rfl) rfl ?_
              refine WL.q (R.assign rfl) rfl ?_
              refine WL.nil ?_
              have he := Option.some.inj hm
              clear hm
              subst x
              exact fun a w s => Exists.intro _ (And.intro rfl (Sat.mk (s.env.le ⟨rfl, rfl, rfl, rfl, rfl, rfl, trivial⟩) (s.mem)))
          · rw [if_neg h107] at hm
            refine W.cond_f rfl (b_f h107) ?_
            refine W.exit ?_
            refine Go.x_then ?_
            have he := Option.some.inj hm
            clear hm
            subst x
            exact fun a w s => Exists.intro _ (And.intro rfl (And.intro rfl (Sat.mk (s.env.le ⟨rfl, rfl, rfl, rfl, rfl, trivial⟩) (s.mem))))
      · intro e a w hJ
        obtain ⟨rfl, s⟩ := hJ
        refine Go.use s ?_
        refine Go.x_block ?_
        refine Go.n_block ?_
        refine Go.then_ ?_
        refine W.region ?_
        refine WL.q (R.move rfl) rfl ?_
        refine WL.q (R.add rfl rfl) rfl ?_
        refine WL.q (R.assign rfl) rfl ?_
        refine WL.nil ?_
        have he := Option.some.inj hm
        clear hm
        subst x
        exact fun a w s => Exists.intro _ (And.intro rfl (Sat.mk (s.env.le ⟨rfl, rfl, rfl, rfl, rfl, trivial⟩) (s.mem)))
    · rw [if_neg h75] at hm
      refine W.cond_f rfl (decide_eq_false h75) ?_
      refine W.exit ?_
      refine Go.x_then ?_
      have he := Option.some.inj hm
      clear hm
      subst x
      exact fun a w s => Exists.intro _ (And.intro rfl (And.intro rfl (Sat.mk (s.env.le trivial) (s.mem))))
  · intro e a w hJ
    obtain ⟨rfl, s⟩ := hJ
    refine Go.use s ?_
    refine Go.x_block ?_
    have he := Option.some.inj hm
    clear hm
    subst r
    exact Go.ret0 (Or.inl rfl) rfl (fun w hw => ⟨_, rfl, _, ⟨(), rfl, rfl⟩, hw⟩)
set_option maxRecDepth 100000 in
theorem bits_Len64_tr {G : World} {F : List Res} (p0 : Int) {r : Int} (hm : bits_Len64 p0 = some r) : Tr Tryd.prog G 76 [(.int .u64 p0)] F (fun u K => ∃ x : Unit, u = (.int .i64 r) ∧ K = F) := by
  unfold bits_Len64 at hm
  refine Tr.body Tryd.func76 rfl Tryd.ntmps76 ?_
  refine W.seq ?_
  refine W.region ?_
  refine WL.q (R.assign rfl) rfl ?_
  refine WL.nil ?_
  refine Go.then_ ?_
  obtain ⟨o2, hm, hmo2⟩ := of_bind hm
  refine W.seq ?_
  refine W.join (fun e a w => And (e = .normal) (Sat G F 25 [(0, (.int .u64 o2.1)), (2, (.int .i64 o2.2))] a w)) ?_ ?_
  · refine W.seq ?_
    refine W.region ?_
    refine WL.q (R.move rfl) rfl ?_
    refine WL.q (R.geq rfl rfl) rfl ?_
    refine WL.nil ?_
    refine Go.then_ ?_
    by_cases h1 : 4294967296 ≤ p0
    · rw [if_pos h1] at hm
      refine W.cond_t rfl (decide_eq_true h1) ?_
      refine W.seq ?_
      refine W.region ?_
      refine WL.q (R.move rfl) rfl ?_
      refine WL.q (R.shr rfl rfl (by decide : (0 : Int) ≤ 32)) rfl ?_
      refine WL.q (R.assign rfl) rfl ?_
      refine WL.nil ?_
      refine Go.then_ ?_
      refine W.region ?_
      refine WL.q (R.assign rfl) rfl ?_
      refine WL.nil ?_
      have he := Option.some.inj hm
      clear hm
      subst o2
      exact fun a w s => And.intro rfl (Sat.mk (s.env.le ⟨rfl, rfl, trivial⟩) (s.mem))
    · rw [if_neg h1] at hm
      refine W.cond_f rfl (decide_eq_false h1) ?_
      refine W.skip ?_
      have he := Option.some.inj hm
      clear hm
      subst o2
      exact fun a w s => And.intro rfl (Sat.mk (s.env.le ⟨rfl, rfl, trivial⟩) (s.mem))
  · intro e a w hJ
    replace hm := hmo2
    clear hmo2
    obtain ⟨rfl, s⟩ := hJ
    refine Go.use s ?_
    refine Go.then_ ?_
    obtain ⟨o4, hm, hmo4⟩ := of_bind hm
    refine W.seq ?_
    refine W.join (fun e a w => And (e = .normal) (Sat G F 25 [(0, (.int .u64 o4.1)), (2, (.int .i64 o4.2))] a w)) ?_ ?_
    · refine W.seq ?_
      refine W.region ?_
      refine WL.q (R.move rfl) rfl ?_
      refine WL.q (R.geq rfl rfl) rfl ?_
      refine WL.nil ?_
      refine Go.then_ ?_
      by_cases h3 : 65536 ≤ o2.1
      · rw [if_pos h3] at hm
        refine W.cond_t rfl (decide_eq_true h3) ?_
        refine W.seq ?_
        refine W.region ?_
        refine WL.q (R.move rfl) rfl ?_
        refine WL.q (R.shr rfl rfl (by decide : (0 : Int) ≤ 16)) rfl ?_
        refine WL.q (R.assign rfl) rfl ?_
        refine WL.nil ?_
        refine Go.then_ ?_
        refine W.region ?_
        refine WL.q (R.move rfl) rfl ?_
        refine WL.q (R.add rfl rfl) rfl ?_
        refine WL.q (R.assign rfl) rfl ?_
        refine WL.nil ?_
        have he := Option.some.inj hm
        clear hm
        subst o4
        exact fun a w s => And.intro rfl (Sat.mk (s.env.le ⟨rfl, rfl, trivial⟩) (s.mem))
      · rw [if_neg h3] at hm
        refine W.cond_f rfl (decide_eq_false h3) ?_
        refine W.skip ?_
        have he := Option.some.inj hm
        clear hm
        subst o4
        exact fun a w s => And.intro rfl (Sat.mk (s.env.le ⟨rfl, rfl, trivial⟩) (s.mem))
    · intro e a w hJ
      replace hm := hmo4
      clear hmo4
      obtain ⟨rfl, s⟩ := hJ
      refine Go.use s ?_
      refine Go.then_ ?_
      obtain ⟨o6, hm, hmo6⟩ := of_bind hm
      refine W.seq ?_
      refine W.join (fun e a w => And (e = .normal) (Sat G F 25 [(0, (.int .u64 o6.1)), (2, (.int .i64 o6.2))] a w)) ?_ ?_
      · refine W.seq ?_
        refine W.region ?_
        refine WL.q (R.move rfl) rfl ?_
        refine WL.q (R.geq rfl rfl) rfl ?_
        refine WL.nil ?_
        refine Go.then_ ?_
        by_cases h5 : 256 ≤ o4.1
        · rw [if_pos h5] at hm
          refine W.cond_t rfl (decide_eq_true h5) ?_
          refine W.seq ?_
          refine W.region ?_
          refine WL.q (R.move rfl) rfl ?_
          refine WL.q (R.shr rfl rfl (by decide : (0 : Int) ≤ 8)) rfl ?_
          refine WL.q (R.assign rfl) rfl ?_
          refine WL.nil ?_
          refine Go.then_ ?_
          refine W.region ?_
          refine WL.q (R.move rfl) rfl ?_
          refine WL.q (R.add rfl rfl) rfl ?_
          refine WL.q (R.assign rfl) rfl ?_
          refine WL.nil ?_
          have he := Option.some.inj hm
          clear hm
          subst o6
          exact fun a w s => And.intro rfl (Sat.mk (s.env.le ⟨rfl, rfl, trivial⟩) (s.mem))
        · rw [if_neg h5] at hm
          refine W.cond_f rfl (decide_eq_false h5) ?_
          refine W.skip ?_
          have he := Option.some.inj hm
          clear hm
          subst o6
          exact fun a w s => And.intro rfl (Sat.mk (s.env.le ⟨rfl, rfl, trivial⟩) (s.mem))
      · intro e a w hJ
        replace hm := hmo6
        clear hmo6
        obtain ⟨rfl, s⟩ := hJ
        refine Go.use s ?_
        refine Go.then_ ?_
        refine W.seq ?_
        refine W.region ?_
        refine WL.q (R.move rfl) rfl ?_
        refine WL.q (R.move rfl) rfl ?_
        refine WL.q (R.conv rfl un5 us89) rfl ?_
        obtain ⟨h7, hm⟩ := of_guard hm
        refine WL.q (R.strIndex rfl rfl un9 h7.1 h7.2) rfl ?_
        refine WL.q (R.conv rfl un3 us5) rfl ?_
        refine WL.q (R.add rfl rfl) rfl ?_
        refine WL.q (R.assign rfl) rfl ?_
        refine WL.nil ?_
        refine Go.then_ ?_
        refine W.ret ?_
        have he := Option.some.inj hm
        clear hm
        subst r
        exact Go.ret1 rfl (.tmp rfl) (fun w hw => ⟨_, rfl, _, ⟨(), rfl, rfl⟩, hw⟩)
set_option maxRecDepth 100000 in
theorem bits_Len_tr {G : World} {F : List Res} (p0 : Int) {r : Int} (hm : bits_Len p0 = some r) : Tr Tryd.prog G 59 [(.int .u64 p0)] F (fun u K => ∃ x : Unit, u = (.int .i64 r) ∧ K = F) := by
  unfold bits_Len at hm
  refine Tr.body Tryd.func59 rfl Tryd.ntmps59 ?_
  refine W.seq ?_
  refine W.region ?_
  refine WL.q (R.assign rfl) rfl ?_
  refine WL.nil ?_
  refine Go.then_ ?_
  refine W.seq ?_
  refine W.cond_f rfl rfl ?_
  refine W.skip ?_
  refine Go.then_ ?_
  refine W.seq ?_
  refine W.region ?_
  refine WL.q (R.move rfl) rfl ?_
  obtain ⟨o1, h2, hm⟩ := of_bind hm
  refine WL.x (R.call rfl en76 (bits_Len64_tr p0 h2)) rfl fun x3 => ?_
  refine WL.q (R.assign rfl) rfl ?_
  refine WL.nil ?_
  refine Go.then_ ?_
  refine W.ret ?_
  have he := Option.some.inj hm
  clear hm
  subst r
  exact Go.ret1 rfl (.tmp rfl) (fun w hw => ⟨_, rfl, _, ⟨(), rfl, rfl⟩, hw⟩)
set_option maxRecDepth 100000 in
theorem slices_pdqsortCmpFunc_impl_set_tr {G : World} {F : List Res} (q0 : Value) (p0 : (List Int)) (p1 : Int) (p2 : Int) (p3 : Int) (g4 : FuncId) (fs4 cs4 : List Value) (f4 : Int → Int → Option Int) (en_4 : Enters Tryd.prog g4) (hf4 : ∀ (L : List Res) (a0 : Int) (a1 : Int) (r : Int), f4 a0 a1 = some r → Tr Tryd.prog G g4 (fs4 ++ [(.int .i64 a0), (.int .i64 a1)] ++ cs4) (L ++ F) (fun u K => ∃ x : Unit, u = (.int .i64 r) ∧ K = L ++ F)) {r : (List Int)} (hm : slices_pdqsortCmpFunc_impl_set p0 p1 p2 p3 f4 = some r) : Tr Tryd.prog G 58 [q0, (.int .i64 p1), (.int .i64 p2), (.int .i64 p3), (.func (.func g4) fs4.toArray cs4.toArray)] ((slT (Enc.int .i64) q0 p0) :: F) (fun u K => ∃ x : Unit, u = (.tuple #[]) ∧ K = ((slT (Enc.int .i64) q0 r) :: F)) := by
  unfold slices_pdqsortCmpFunc_impl_set at hm
  refine Tr.body Tryd.func58 rfl Tryd.ntmps58 ?_
  refine W.seq ?_
  refine W.region ?_
  refine WL.q (R.assign rfl) rfl ?_
  refine WL.nil ?_
  refine Go.then_ ?_
  refine W.seq ?_
  refine W.region ?_
  refine WL.q (R.assign rfl) rfl ?_
  refine WL.nil ?_
  refine Go.then_ ?_
  refine W.block ?_
  obtain ⟨o2, hlo2, hm⟩ := of_bind hm
  refine W.loopx (fun (s1 : Unit) a w => Sat G ((slT (Enc.int .i64) q0 p0) :: F) 148 [(0, q0), (1, (.int .i64 p1)), (2, (.int .i64 p2)), (3, (.int .i64 p3)), (4, (.func (.func g4) fs4.toArray cs4.toArray)), (10, (.bool true)), (11, (.bool true))] a w) (fun (o2 : (List Int)) e a w => And (e = .ret) (Sat G ((slT (Enc.int .i64) q0 o2) :: F) 148 [] a w)) hlo2 (fun a w s => (Sat.mk (s.env.le ⟨rfl, rfl, rfl, rfl, rfl, rfl, rfl, trivial⟩) (s.mem))) ?_ ?_
  · clear hm
    intro s1 x hm a w hJ
    have s := hJ
    unfold slices_pdqsortCmpFunc_impl_set_L1 at hm
    refine W.use s ?_
    refine W.block ?_
    refine W.seq ?_
    refine W.region ?_
    refine WL.q (R.move rfl) rfl ?_
    refine WL.q (R.move rfl) rfl ?_
    refine WL.q (R.sub rfl rfl) rfl ?_
    refine WL.q (R.assign rfl) rfl ?_
    refine WL.nil ?_
    refine Go.then_ ?_
    refine W.seq ?_
    refine W.seq ?_
    refine W.region ?_
    refine WL.q (R.move rfl) rfl ?_
    refine WL.q (R.leq rfl rfl) rfl ?_
    refine WL.nil ?_
    refine Go.then_ ?_
    by_cases h2008 : IntKind.i64.wrap (p2 - p1) ≤ 12
    · rw [if_pos h2008] at hm
      refine W.cond_t rfl (decide_eq_true h2008) ?_
      refine W.seq ?_
      refine W.region ?_
      refine WL.q (R.move rfl) rfl ?_
      refine WL.q (R.move rfl) rfl ?_
      refine WL.q (R.move rfl) rfl ?_
      refine WL.q (R.move rfl) rfl ?_
      obtain ⟨o2009, h2010, hm⟩ := of_bind hm
      refine WL.x ((R.call rfl en67 (slices_insertionSortCmpFunc_impl_set_tr (F := F) q0 p0 p1 p2 g4 fs4 cs4 f4 en_4 hf4 h2010)).weak (fun w hw => hw.reord [0] 1 rfl)) rfl fun x2011 => ?_
      refine WL.nil ?_
      refine Go.then_ ?_
      refine W.ret ?_
      refine Go.r_then ?_
      refine Go.r_block ?_
      have he := Option.some.inj hm
      clear hm
      subst x
      exact fun a w s => Exists.intro _ (And.intro rfl (And.intro rfl (Sat.mk (s.env.le trivial) (s.mem))))
    · rw [if_neg h2008] at hm
      refine W.cond_f rfl (decide_eq_false h2008) ?_
      refine W.skip ?_
      refine Go.then_ ?_
      refine W.seq ?_
      refine W.seq ?_
      refine W.region ?_
      refine WL.q (R.move rfl) rfl ?_
      refine WL.q (R.eql rfl rfl) rfl ?_
      refine WL.nil ?_
      refine Go.then_ ?_
      by_cases h2012 : p3 = 0
      · rw [if_pos h2012] at hm
        refine W.cond_t rfl (decide_eq_true h2012) ?_
        cases hm
      · rw [if_neg h2012] at hm
        refine W.cond_f rfl (decide_eq_false h2012) ?_
        cases hm
  · intro e a w hJ
    obtain ⟨rfl, s⟩ := hJ
    refine Go.use s ?_
    refine Go.r_block ?_
    have he := Option.some.inj hm
    clear hm
    subst r
    exact Go.ret0 (Or.inr rfl) rfl (fun w hw => ⟨_, rfl, _, ⟨(), rfl, rfl⟩, hw⟩)
set_option maxRecDepth 100000 in
theorem slices_SortFunc_impl_set_impl_set_tr {G : World} {F : List Res} (q0 : Value) (p0 : (List Int)) (g1 : FuncId) (fs1 cs1 : List Value) (f1 : Int → Int → Option Int) (en_1 : Enters Tryd.prog g1) (hf1 : ∀ (L : List Res) (a0 : Int) (a1 : Int) (r : Int), f1 a0 a1 = some r → Tr Tryd.prog G g1 (fs1 ++ [(.int .i64 a0), (.int .i64 a1)] ++ cs1) (L ++ F) (fun u K => ∃ x : Unit, u = (.int .i64 r) ∧ K = L ++ F)) {r : (List Int)} (hm : slices_SortFunc_impl_set_impl_set p0 f1 = some r) : Tr Tryd.prog G 45 [q0, (.func (.func g1) fs1.toArray cs1.toArray)] ((slT (Enc.int .i64) q0 p0) :: F) (fun u K => ∃ x : Unit, u = (.tuple #[]) ∧ K = ((slT (Enc.int .i64) q0 r) :: F)) := by
  unfold slices_SortFunc_impl_set_impl_set at hm
  refine Tr.body Tryd.func45 rfl Tryd.ntmps45 ?_
  refine W.seq ?_
  refine W.region ?_
  refine WL.q (R.move rfl) rfl ?_
  refine WL.q (R.lenT rfl el60 (RdT.at 0 rfl)) rfl ?_
  refine WL.q (R.assign rfl) rfl ?_
  refine WL.nil ?_
  refine Go.then_ ?_
  refine W.region ?_
  refine WL.q (R.move rfl) rfl ?_
  refine WL.q (R.move rfl) rfl ?_
  refine WL.q (R.move rfl) rfl ?_
  refine WL.q (R.conv rfl un78 us3) rfl ?_
  obtain ⟨o1, h2, hm⟩ := of_bind hm
  refine WL.x (R.call rfl en59 (bits_Len_tr (IntKind.u64.wrap (p0.length : Int)) h2)) rfl fun x3 => ?_
  refine WL.q (R.move rfl) rfl ?_
  obtain ⟨o4, h5, hm⟩ := of_bind hm
  refine WL.x ((R.call rfl en58 (slices_pdqsortCmpFunc_impl_set_tr (F := F) q0 p0 0 (p0.length : Int) o1 g1 fs1 cs1 f1 en_1 hf1 h5)).weak (fun w hw => hw.reord [0] 1 rfl)) rfl fun x6 => ?_
  refine WL.nil ?_
  have he := Option.some.inj hm
  clear hm
  subst r
  exact Go.ret0 (Or.inl rfl) rfl (fun w hw => ⟨_, rfl, _, ⟨(), rfl, rfl⟩, hw⟩)
set_option maxRecDepth 100000 in
theorem bits_TrailingZeros64_tr {G : World} {F : List Res} (hg1 : Gl G 1 (((Enc.int .u8).arr 64).cells tab_1)) (p0 : Int) {r : Int} (hm : bits_TrailingZeros64 p0 = some r) : Tr Tryd.prog G 61 [(.int .u64 p0)] F (fun u K => ∃ x : Unit, u = (.int .i64 r) ∧ K = F) := by
  unfold bits_TrailingZeros64 at hm
  refine Tr.body Tryd.func61 rfl Tryd.ntmps61 ?_
  refine W.seq ?_
  refine W.region ?_
  refine WL.q (R.assign rfl) rfl ?_
  refine WL.nil ?_
  refine Go.then_ ?_
  refine W.seq ?_
  refine W.seq ?_
  refine W.region ?_
  refine WL.q (R.move rfl) rfl ?_
  refine WL.q (R.eql rfl rfl) rfl ?_
  refine WL.nil ?_
  refine Go.then_ ?_
  by_cases h1 : p0 = 0
  · rw [if_pos h1] at hm
    refine W.cond_t rfl (decide_eq_true h1) ?_
    refine W.seq ?_
    refine W.region ?_
    refine WL.q (R.assign rfl) rfl ?_
    refine WL.nil ?_
    refine Go.then_ ?_
    refine W.ret ?_
    refine Go.r_then ?_
    have he := Option.some.inj hm
    clear hm
    subst r
    exact Go.ret1 rfl (.tmp rfl) (fun w hw => ⟨_, rfl, _, ⟨(), rfl, rfl⟩, hw⟩)
  · rw [if_neg h1] at hm
    refine W.cond_f rfl (decide_eq_false h1) ?_
    refine W.skip ?_
    refine Go.then_ ?_
    refine W.seq ?_
    refine W.region ?_
    refine WL.q (R.move rfl) rfl ?_
    refine WL.q (R.move rfl) rfl ?_
    refine WL.q (R.neg rfl) rfl ?_
    refine WL.q (R.and rfl rfl) rfl ?_
    refine WL.q (R.mul rfl rfl) rfl ?_
    refine WL.q (R.shr rfl rfl (by decide : (0 : Int) ≤ 58)) rfl ?_
    obtain ⟨h2, hm⟩ := of_guard hm
    refine WL.q (R.indexArr rfl rfl un102 sz5 h2.1 h2.2) rfl ?_
    refine WL.q (R.load rfl (At.sub (At.lift 0 rfl (At.glob hg1)) (sub_arr (Enc.int .u8) (v := tab_1) h2.1 h2.2)) (Lies.one _ ia5)) rfl ?_
    refine WL.q (R.conv rfl un3 us5) rfl ?_
    refine WL.q (R.assign rfl) rfl ?_
    refine WL.nil ?_
    refine Go.then_ ?_
    refine W.ret ?_
    have he := Option.some.inj hm
    clear hm
    subst r
    exact Go.ret1 rfl (.tmp rfl) (fun w hw => ⟨_, rfl, _, ⟨(), rfl, rfl⟩, hw⟩)
set_option maxRecDepth 100000 in
theorem bits_TrailingZeros_tr {G : World} {F : List Res} (hg1 : Gl G 1 (((Enc.int .u8).arr 64).cells tab_1)) (p0 : Int) {r : Int} (hm : bits_TrailingZeros p0 = some r) : Tr Tryd.prog G 47 [(.int .u64 p0)] F (fun u K => ∃ x : Unit, u = (.int .i64 r) ∧ K = F) := by
  unfold bits_TrailingZeros at hm
  refine Tr.body Tryd.func47 rfl Tryd.ntmps47 ?_
  refine W.seq ?_
  refine W.region ?_
  refine WL.q (R.assign rfl) rfl ?_
  refine WL.nil ?_
  refine Go.then_ ?_
  refine W.seq ?_
  refine W.cond_f rfl rfl ?_
  refine W.skip ?_
  refine Go.then_ ?_
  refine W.seq ?_
  refine W.region ?_
  refine WL.q (R.move rfl) rfl ?_
  obtain ⟨o1, h2, hm⟩ := of_bind hm
  refine WL.x (R.call rfl en61 (bits_TrailingZeros64_tr hg1 p0 h2)) rfl fun x3 => ?_
  refine WL.q (R.assign rfl) rfl ?_
  refine WL.nil ?_
  refine Go.then_ ?_
  refine W.ret ?_
  have he := Option.some.inj hm
  clear hm
  subst r
  exact Go.ret1 rfl (.tmp rfl) (fun w hw => ⟨_, rfl, _, ⟨(), rfl, rfl⟩, hw⟩)
set_option maxRecDepth 100000 in
theorem impl_Square_cosets_c1_tr {G : World} {F : List Res} (hg1 : Gl G 1 (((Enc.int .u8).arr 64).cells tab_1)) (p0 : Int) (p1 : Int) {r : Int} (hm : impl_Square_cosets_c1 p0 p1 = some r) : Tr Tryd.prog G 46 [(.int .i64 p0), (.int .i64 p1)] F (fun u K => ∃ x : Unit, u = (.int .i64 r) ∧ K = F) := by
  unfold impl_Square_cosets_c1 at hm
  refine Tr.body Tryd.func46 rfl Tryd.ntmps46 ?_
  refine W.seq ?_
  refine W.region ?_
  refine WL.q (R.assign rfl) rfl ?_
  refine WL.nil ?_
  refine Go.then_ ?_
  refine W.seq ?_
  refine W.region ?_
  refine WL.q (R.move rfl) rfl ?_
  refine WL.q (R.conv rfl un78 us44) rfl ?_
  obtain ⟨o1, h2, hm⟩ := of_bind hm
  refine WL.x (R.call rfl en47 (bits_TrailingZeros_tr hg1 (IntKind.u64.wrap p0) h2)) rfl fun x3 => ?_
  refine WL.q (R.move rfl) rfl ?_
  refine WL.q (R.conv rfl un78 us44) rfl ?_
  obtain ⟨o4, h5, hm⟩ := of_bind hm
  refine WL.x (R.call rfl en47 (bits_TrailingZeros_tr hg1 (IntKind.u64.wrap p1) h5)) rfl fun x6 => ?_
  refine WL.q (R.sub rfl rfl) rfl ?_
  refine WL.q (R.assign rfl) rfl ?_
  refine WL.nil ?_
  refine Go.then_ ?_
  refine W.ret ?_
  have he := Option.some.inj hm
  clear hm
  subst r
  exact Go.ret1 rfl (.tmp rfl) (fun w hw => ⟨_, rfl, _, ⟨(), rfl, rfl⟩, hw⟩)
set_option maxRecDepth 100000 in
theorem impl_Square_cosets_tr {G : World} {F : List Res} (hg1 : Gl G 1 (((Enc.int .u8).arr 64).cells tab_1)) (p0 : S_Square) (p1 : Int) {r : ((List Int) × Bool)} (hm : impl_Square_cosets p0 p1 = some r) : Tr Tryd.prog G 31 [(.agg (e_S_Square.cells p0).toArray), (.int .i64 p1)] F (fun u K => ∃ x : Value, u = (.tuple #[x, (.bool r.2)]) ∧ K = ((slT (Enc.int .i64) x r.1) :: F)) := by
  unfold impl_Square_cosets at hm
  refine Tr.body Tryd.func31 rfl Tryd.ntmps31 ?_
  refine W.seq ?_
  refine W.region ?_
  refine WL.x (R.box rfl (cells_agg _)) rfl fun b1 => ?_
  refine WL.q (R.assign rfl) rfl ?_
  refine WL.q (R.assign rfl) rfl ?_
  refine WL.nil ?_
  refine Go.then_ ?_
  refine W.seq ?_
  refine W.region ?_
  refine WL.x (R.buildT ([] : List Int) el60 rfl rfl rfl rfl rfl (by decide) (by decide)) rfl fun v2 => ?_
  refine WL.q (R.assign rfl) rfl ?_
  refine WL.nil ?_
  refine Go.then_ ?_
  refine W.seq ?_
  refine W.seq ?_
  refine W.region ?_
  refine WL.q (R.load rfl (At.bx 1 rfl (Sub.refl _)) (lies_agg e_S_Square p0 ia29 sz29)) rfl ?_
  obtain ⟨o3, h4, hm⟩ := of_bind hm
  refine WL.x (R.call rfl en43 (impl_Square_elements_tr p0 h4)) rfl fun x5 => ?_
  refine WL.q (R.lenT rfl el63 (RdT.at 0 rfl)) rfl ?_
  refine WL.q (R.move rfl) rfl ?_
  refine WL.nil ?_
  refine Go.then_ ?_
  refine W.block ?_
  obtain ⟨o7, hlo7, hm⟩ := of_bind hm
  refine W.loopx (fun (s6 : ((List Int) × Int)) a w => ∃ v65 : Value, Sat G ((slT (Enc.int .i64) v65 s6.1) :: (slT (Enc.int .u8) x5 o3) :: (bx b1 (e_S_Square.cells p0)) :: F) 49 [(1, (.int .i64 p1)), (2, (.pointer (some ⟨b1, 0, none⟩))), (4, (.slice none 0 0)), (5, (.bool false)), (6, v65), (15, x5), (16, (.int .i64 (o3.length : Int))), (17, (.int .i64 s6.2))] a w) (fun (o7 : (((List Int)) ⊕ (Unit))) e a w => (Sum.elim (fun o7 => And (e = (.exit 0)) (∃ v95 : Value, Sat G ((slT (Enc.int .i64) v95 o7) :: F) 49 [(4, (.slice none 0 0)), (5, (.bool false)), (6, v95)] a w)) (fun o7 => And (e = .ret) (Sat G F 49 [(4, (.slice none 0 0)), (5, (.bool false))] a w))) o7) hlo7 (fun a w s => (Exists.intro v2 (Sat.mk (s.env.le ⟨rfl, rfl, rfl, rfl, rfl, rfl, rfl, rfl, trivial⟩) (s.mem.reord [1, 0, 2] 3 rfl)))) ?_ ?_
  · clear hm
    intro s6 x hm a w hJ
    obtain ⟨v65, s⟩ := hJ
    unfold impl_Square_cosets_L1 at hm
    refine W.use s ?_
    refine W.seq ?_
    refine W.region ?_
    refine WL.q (R.lss rfl rfl) rfl ?_
    refine WL.nil ?_
    refine Go.then_ ?_
    refine W.seq ?_
    by_cases h66 : s6.2 < (o3.length : Int)
    · rw [if_pos h66] at hm
      refine W.cond_t rfl (decide_eq_true h66) ?_
      refine W.skip ?_
      refine Go.then_ ?_
      obtain ⟨o92, hm, hmo92⟩ := of_bind hm
      refine W.seq ?_
      refine W.join (fun e a w => (Sum.elim (fun o92 => And (e = .normal) (∃ v93 : Value, Sat G ((slT (Enc.int .i64) v93 o92) :: (slT (Enc.int .u8) x5 o3) :: (bx b1 (e_S_Square.cells p0)) :: F) 49 [(1, (.int .i64 p1)), (2, (.pointer (some ⟨b1, 0, none⟩))), (4, (.slice none 0 0)), (5, (.bool false)), (6, v93), (15, x5), (16, (.int .i64 (o3.length : Int))), (17, (.int .i64 s6.2))] a w)) (fun o92 => And (e = .ret) (Sat G F 49 [(4, (.slice none 0 0)), (5, (.bool false))] a w))) o92) ?_ ?_
      · refine W.block ?_
        refine W.seq ?_
        refine W.region ?_
        obtain ⟨h67, hm⟩ := of_guard hm
        refine WL.q (R.idxT rfl rfl el63 (RdT.at 1 rfl) h67) rfl ?_
        refine WL.q (R.load rfl (At.elT (RdT.at 1 rfl) (by decide) h67) (Lies.one _ ia5)) rfl ?_
        refine WL.q (R.assign rfl) rfl ?_
        refine WL.nil ?_
        refine Go.then_ ?_
        refine W.seq ?_
        refine W.region ?_
        refine WL.q (R.load rfl (At.bx 2 rfl (Sub.refl _)) (lies_agg e_S_Square p0 ia29 sz29)) rfl ?_
        refine WL.q (R.move rfl) rfl ?_
        refine WL.q (R.move rfl) rfl ?_
        obtain ⟨o68, h69, hm⟩ := of_bind hm
        refine WL.x (R.call rfl en44 (impl_Square_coset_tr p0 (gl o3 s6.2) p1 h69)) rfl fun x70 => ?_
        refine WL.q (R.assign rfl) rfl ?_
        refine WL.q (R.assign rfl) rfl ?_
        refine WL.nil ?_
        refine Go.then_ ?_
        refine W.seq ?_
        refine W.seq ?_
        refine W.region ?_
        refine WL.q (R.move rfl) rfl ?_
        refine WL.q (R.lenT rfl el60 (RdT.at 0 rfl)) rfl ?_
        refine WL.q (R.move rfl) rfl ?_
        refine WL.nil ?_
        refine Go.then_ ?_
        refine W.block ?_
        obtain ⟨o72, hlo72, hm⟩ := of_bind hm
        refine W.loopx (fun (s71 : (Bool × Int)) a w => Sat G ((slT (Enc.int .i64) v65 s6.1) :: (slT (Enc.int .u8) x5 o3) :: (bx b1 (e_S_Square.cells p0)) :: F) 49 [(1, (.int .i64 p1)), (2, (.pointer (some ⟨b1, 0, none⟩))), (4, (.slice none 0 0)), (5, (.bool false)), (6, v65), (9, (.int .i64 o68)), (10, (.bool s71.1)), (15, x5), (16, (.int .i64 (o3.length : Int))), (17, (.int .i64 s6.2)), (25, v65), (26, (.int .i64 (s6.1.length : Int))), (27, (.int .i64 s71.2))] a w) (fun (o72 : ((Bool) ⊕ (Unit))) e a w => (Sum.elim (fun o72 => And (e = (.exit 2)) (Sat G ((slT (Enc.int .i64) v65 s6.1) :: (slT (Enc.int .u8) x5 o3) :: (bx b1 (e_S_Square.cells p0)) :: F) 49 [(1, (.int .i64 p1)), (2, (.pointer (some ⟨b1, 0, none⟩))), (4, (.slice none 0 0)), (5, (.bool false)), (6, v65), (9, (.int .i64 o68)), (10, (.bool o72)), (15, x5), (16, (.int .i64 (o3.length : Int))), (17, (.int .i64 s6.2))] a w)) (fun o72 => And (e = .ret) (Sat G F 49 [(4, (.slice none 0 0)), (5, (.bool false))] a w))) o72) hlo72 (fun a w s => (Sat.mk (s.env.le ⟨rfl, rfl, rfl, rfl, rfl, rfl, rfl, rfl, rfl, rfl, rfl, rfl, rfl, trivial⟩) (s.mem))) ?_ ?_
        · clear hm
          intro s71 x hm a w hJ
          have s := hJ
          unfold impl_Square_cosets_L2 at hm
          refine W.use s ?_
          refine W.seq ?_
          refine W.region ?_
          refine WL.q (R.lss rfl rfl) rfl ?_
          refine WL.nil ?_
          refine Go.then_ ?_
          refine W.seq ?_
          by_cases h83 : s71.2 < (s6.1.length : Int)
          · rw [if_pos h83] at hm
            refine W.cond_t rfl (decide_eq_true h83) ?_
            refine W.skip ?_
            refine Go.then_ ?_
            obtain ⟨o87, hm, hmo87⟩ := of_bind hm
            refine W.seq ?_
            refine W.join (fun e a w => (Sum.elim (fun o87 => And (e = .normal) (Sat G ((slT (Enc.int .i64) v65 s6.1) :: (slT (Enc.int .u8) x5 o3) :: (bx b1 (e_S_Square.cells p0)) :: F) 49 [(1, (.int .i64 p1)), (2, (.pointer (some ⟨b1, 0, none⟩))), (4, (.slice none 0 0)), (5, (.bool false)), (6, v65), (9, (.int .i64 o68)), (10, (.bool o87)), (15, x5), (16, (.int .i64 (o3.length : Int))), (17, (.int .i64 s6.2)), (25, v65), (26, (.int .i64 (s6.1.length : Int))), (27, (.int .i64 s71.2))] a w)) (fun o87 => And (e = .ret) (Sat G F 49 [(4, (.slice none 0 0)), (5, (.bool false))] a w))) o87) ?_ ?_
            · refine W.block ?_
              refine W.seq ?_
              refine W.region ?_
              obtain ⟨h84, hm⟩ := of_guard hm
              refine WL.q (R.idxT rfl rfl el60 (RdT.at 0 rfl) h84) rfl ?_
              refine WL.q (R.load rfl (At.elT (RdT.at 0 rfl) (by decide) h84) (Lies.one _ ia44)) rfl ?_
              refine WL.q (R.assign rfl) rfl ?_
              refine WL.nil ?_
              refine Go.then_ ?_
              refine W.seq ?_
              refine W.region ?_
              refine WL.q (R.move rfl) rfl ?_
              refine WL.q (R.move rfl) rfl ?_
              refine WL.q (R.eql rfl rfl) rfl ?_
              refine WL.nil ?_
              refine Go.then_ ?_
              by_cases h85 : o68 = gl s6.1 s71.2
              · rw [if_pos h85] at hm
                refine W.cond_t rfl (decide_eq_true h85) ?_
                refine W.region ?_
                refine WL.q (R.assign rfl) rfl ?_
                refine WL.nil ?_
                refine Go.n_block ?_
                have he := Option.some.inj hm
                clear hm
                subst o87
                exact fun a w s => And.intro rfl (Sat.mk (s.env.le ⟨rfl, rfl, rfl, rfl, rfl, rfl, rfl, rfl, rfl, rfl, rfl, rfl, rfl, trivial⟩) (s.mem))
              · rw [if_neg h85] at hm
                refine W.cond_f rfl (decide_eq_false h85) ?_
                refine W.seq ?_
                refine W.region ?_
                refine WL.q (R.move rfl) rfl ?_
                refine WL.q (R.move rfl) rfl ?_
                refine WL.q (R.and rfl rfl) rfl ?_
                refine WL.q (R.neq rfl rfl) rfl ?_
                refine WL.nil ?_
                refine Go.then_ ?_
                by_cases h86 : iand .i64 o68 (gl s6.1 s71.2) ≠ 0
                · rw [if_pos h86] at hm
                  refine W.cond_t rfl (decide_eq_true h86) ?_
                  refine W.seq ?_
                  refine W.region ?_
                  refine WL.q (R.assign rfl) rfl ?_
                  refine WL.q (R.assign rfl) rfl ?_
                  refine WL.nil ?_
                  refine Go.then_ ?_
                  refine W.ret ?_
                  refine Go.r_block ?_
                  have he := Option.some.inj hm
                  clear hm
                  subst o87
                  exact fun a w s => And.intro rfl (Sat.mk (s.env.le ⟨rfl, rfl, trivial⟩) (s.mem.reord [] 3 rfl))
                · rw [if_neg h86] at hm
                  refine W.cond_f rfl (decide_eq_false h86) ?_
                  refine W.skip ?_
                  refine Go.n_block ?_
                  have he := Option.some.inj hm
                  clear hm
                  subst o87
                  exact fun a w s => And.intro rfl (Sat.mk (s.env.le ⟨rfl, rfl, rfl, rfl, rfl, rfl, rfl, rfl, rfl, rfl, rfl, rfl, rfl, trivial⟩) (s.mem))
            · intro e a w hJ
              replace hm := hmo87
              clear hmo87
              rcases o87 with o87 | o87
              · simp only [Sum.elim_inl, Sum.elim_inr] at hm
                obtain ⟨rfl, s⟩ := hJ
                refine Go.use s ?_
                refine Go.then_ ?_
                refine W.region ?_
                refine WL.q (R.add rfl rfl) rfl ?_
                refine WL.q (R.move rfl) rfl ?_
                refine WL.nil ?_
                have he := Option.some.inj hm
                clear hm
                subst x
                exact fun a w s => Exists.intro _ (And.intro rfl (Sat.mk (s.env.le ⟨rfl, rfl, rfl, rfl, rfl, rfl, rfl, rfl, rfl, rfl, rfl, rfl, rfl, trivial⟩) (s.mem)))
              · simp only [Sum.elim_inl, Sum.elim_inr] at hm
                obtain ⟨rfl, s⟩ := hJ
                refine Go.use s ?_
                refine Go.r_then ?_
                have he := Option.some.inj hm
                clear hm
                subst x
                exact fun a w s => Exists.intro _ (And.intro rfl (And.intro rfl (Sat.mk (s.env.le ⟨rfl, rfl, trivial⟩) (s.mem))))
          · rw [if_neg h83] at hm
            refine W.cond_f rfl (decide_eq_false h83) ?_
            refine W.exit ?_
            refine Go.x_then ?_
            have he := Option.some.inj hm
            clear hm
            subst x
            exact fun a w s => Exists.intro _ (And.intro rfl (And.intro rfl (Sat.mk (s.env.le ⟨rfl, rfl, rfl, rfl, rfl, rfl, rfl, rfl, rfl, rfl, trivial⟩) (s.mem))))
        · intro e a w hJ
          rcases o72 with o72 | o72
          · simp only [Sum.elim_inl, Sum.elim_inr] at hm
            obtain ⟨rfl, s⟩ := hJ
            refine Go.use s ?_
            refine Go.x_block ?_
            refine Go.then_ ?_
            refine W.seq ?_
            refine W.region ?_
            refine WL.q (R.move rfl) rfl ?_
            refine WL.q (R.not rfl) rfl ?_
            refine WL.nil ?_
            refine Go.then_ ?_
            by_cases h88 : o72 = true
            · rw [if_pos h88] at hm
              refine W.cond_f rfl (not_f h88) ?_
              refine W.skip ?_
              refine Go.n_block ?_
              have he := Option.some.inj hm
              clear hm
              subst o92
              exact fun a w s => And.intro rfl (Exists.intro v65 (Sat.mk (s.env.le ⟨rfl, rfl, rfl, rfl, rfl, rfl, rfl, rfl, trivial⟩) (s.mem)))
            · rw [if_neg h88] at hm
              refine W.cond_t rfl (not_t (b_f h88)) ?_
              refine W.region ?_
              refine WL.q (R.move rfl) rfl ?_
              refine WL.q (R.move rfl) rfl ?_
              refine WL.x (R.buildT ([o68]) el60 rfl rfl rfl rfl rfl (by decide) (by decide)) rfl fun v89 => ?_
              obtain ⟨h90, hm⟩ := of_guard hm
              refine WL.x (R.appendT 1 rfl rfl rfl el60 el60 (RdT.at 0 rfl) h90) rfl fun v91 => ?_
              refine WL.q (R.assign rfl) rfl ?_
              refine WL.nil ?_
              refine Go.n_block ?_
              have he := Option.some.inj hm
              clear hm
              subst o92
              exact fun a w s => And.intro rfl (Exists.intro v91 (Sat.mk (s.env.le ⟨rfl, rfl, rfl, rfl, rfl, rfl, rfl, rfl, trivial⟩) (s.mem.reord [1, 2, 3] 4 rfl)))
          · simp only [Sum.elim_inl, Sum.elim_inr] at hm
            obtain ⟨rfl, s⟩ := hJ
            refine Go.use s ?_
            refine Go.r_block ?_
            refine Go.r_then ?_
            refine Go.r_block ?_
            have he := Option.some.inj hm
            clear hm
            subst o92
            exact fun a w s => And.intro rfl (Sat.mk (s.env.le ⟨rfl, rfl, trivial⟩) (s.mem))
      · intro e a w hJ
        replace hm := hmo92
        clear hmo92
        rcases o92 with o92 | o92
        · simp only [Sum.elim_inl, Sum.elim_inr] at hm
          obtain ⟨rfl, v93, s⟩ := hJ
          refine Go.use s ?_
          refine Go.then_ ?_
          refine W.region ?_
          refine WL.q (R.add rfl rfl) rfl ?_
          refine WL.q (R.move rfl) rfl ?_
          refine WL.nil ?_
          have he := Option.some.inj hm
          clear hm
          subst x
          exact fun a w s => Exists.intro _ (And.intro rfl (Exists.intro v93 (Sat.mk (s.env.le ⟨rfl, rfl, rfl, rfl, rfl, rfl, rfl, rfl, trivial⟩) (s.mem))))
        · simp only [Sum.elim_inl, Sum.elim_inr] at hm
          obtain ⟨rfl, s⟩ := hJ
          refine Go.use s ?_
          refine Go.r_then ?_
          have he := Option.some.inj hm
          clear hm
          subst x
          exact fun a w s => Exists.intro _ (And.intro rfl (And.intro rfl (Sat.mk (s.env.le ⟨rfl, rfl, trivial⟩) (s.mem))))
    · rw [if_neg h66] at hm
      refine W.cond_f rfl (decide_eq_false h66) ?_
      refine W.exit ?_
      refine Go.x_then ?_
      have he := Option.some.inj hm
      clear hm
      subst x
      exact fun a w s => Exists.intro _ (And.intro rfl (And.intro rfl (Exists.intro v65 (Sat.mk (s.env.le ⟨rfl, rfl, rfl, trivial⟩) (s.mem.reord [0] 3 rfl)))))
  · intro e a w hJ
    rcases o7 with o7 | o7
    · simp only [Sum.elim_inl, Sum.elim_inr] at hm
      obtain ⟨rfl, v95, s⟩ := hJ
      refine Go.use s ?_
      refine Go.x_block ?_
      refine Go.then_ ?_
      refine W.seq ?_
      refine W.region ?_
      refine WL.q (R.move rfl) rfl ?_
      obtain ⟨o96, h97, hm⟩ := of_bind hm
      refine WL.x ((R.call rfl en45 (slices_SortFunc_impl_set_impl_set_tr (F := F) v95 o7 46 [] [] (fun a0 a1 => impl_Square_cosets_c1 a0 a1) en46 (fun L a0 a1 r h => impl_Square_cosets_c1_tr (F := L ++ F) hg1 a0 a1 h) h97)).weak (fun w hw => hw.reord [0] 1 rfl)) rfl fun x98 => ?_
      refine WL.nil ?_
      refine Go.then_ ?_
      refine W.seq ?_
      refine W.region ?_
      refine WL.q (R.move rfl) rfl ?_
      refine WL.q (R.assign rfl) rfl ?_
      refine WL.q (R.assign rfl) rfl ?_
      refine WL.nil ?_
      refine Go.then_ ?_
      refine W.ret ?_
      have he := Option.some.inj hm
      clear hm
      subst r
      exact Go.ret2 rfl (.tmp rfl) (.tmp rfl) (fun w hw => ⟨_, rfl, _, ⟨v95, rfl, rfl⟩, hw⟩)
    · simp only [Sum.elim_inl, Sum.elim_inr] at hm
      obtain ⟨rfl, s⟩ := hJ
      refine Go.use s ?_
      refine Go.r_block ?_
      refine Go.r_then ?_
      have he := Option.some.inj hm
      clear hm
      subst r
      exact Go.ret2 rfl (.tmp rfl) (.tmp rfl) (fun w hw => ⟨_, rfl, _, ⟨(.slice none 0 0), rfl, rfl⟩, (hw.addNil (Enc.int .i64))⟩)
set_option maxRecDepth 100000 in
theorem impl_set_list_tr {G : World} {F : List Res} (p0 : Int) {r : (List Int)} (hm : impl_set_list p0 = some r) : Tr Tryd.prog G 32 [(.int .i64 p0)] F (fun u K => ∃ x : Value, u = x ∧ K = ((slT (Enc.int .i64) x r) :: F)) := by
  unfold impl_set_list at hm
  refine Tr.body Tryd.func32 rfl Tryd.ntmps32 ?_
  refine W.seq ?_
  refine W.region ?_
  refine WL.q (R.assign rfl) rfl ?_
  refine WL.nil ?_
  refine Go.then_ ?_
  refine W.seq ?_
  refine W.region ?_
  refine WL.x (R.buildT ([] : List Int) el26 rfl rfl rfl rfl rfl (by decide) (by decide)) rfl fun v1 => ?_
  refine WL.q (R.assign rfl) rfl ?_
  refine WL.nil ?_
  refine Go.then_ ?_
  refine W.seq ?_
  refine W.seq ?_
  refine W.region ?_
  refine WL.q (R.move rfl) rfl ?_
  refine WL.nil ?_
  refine Go.then_ ?_
  refine W.block ?_
  obtain ⟨o3, hlo3, hm⟩ := of_bind hm
  refine W.loopx (fun (s2 : ((List Int) × Int)) a w => ∃ v25 : Value, Sat G ((slT (Enc.int .i64) v25 s2.1) :: F) 19 [(0, (.int .i64 p0)), (2, (.slice none 0 0)), (3, v25), (6, (.int .i64 s2.2))] a w) (fun (o3 : (List Int)) e a w => And (e = (.exit 0)) (∃ v37 : Value, Sat G ((slT (Enc.int .i64) v37 o3) :: F) 19 [(2, (.slice none 0 0)), (3, v37)] a w)) hlo3 (fun a w s => (Exists.intro v1 (Sat.mk (s.env.le ⟨rfl, rfl, rfl, rfl, trivial⟩) (s.mem)))) ?_ ?_
  · clear hm
    intro s2 x hm a w hJ
    obtain ⟨v25, s⟩ := hJ
    unfold impl_set_list_L1 at hm
    refine W.use s ?_
    refine W.seq ?_
    refine W.region ?_
    refine WL.q (R.lss rfl rfl) rfl ?_
    refine WL.nil ?_
    refine Go.then_ ?_
    refine W.seq ?_
    by_cases h26 : s2.2 < 10
    · rw [if_pos h26] at hm
      refine W.cond_t rfl (decide_eq_true h26) ?_
      refine W.skip ?_
      refine Go.then_ ?_
      obtain ⟨o34, hm, hmo34⟩ := of_bind hm
      refine W.seq ?_
      refine W.join (fun e a w => And (e = .normal) (∃ v35 : Value, Sat G ((slT (Enc.int .i64) v35 o34) :: F) 19 [(0, (.int .i64 p0)), (2, (.slice none 0 0)), (3, v35), (6, (.int .i64 s2.2))] a w)) ?_ ?_
      · refine W.block ?_
        refine W.seq ?_
        refine W.region ?_
        refine WL.q (R.move rfl) rfl ?_
        refine WL.q (R.assign rfl) rfl ?_
        refine WL.nil ?_
        refine Go.then_ ?_
        refine W.seq ?_
        refine W.region ?_
        refine WL.q (R.move rfl) rfl ?_
        refine WL.q (R.move rfl) rfl ?_
        refine WL.q (R.conv rfl un5 us2) rfl ?_
        obtain ⟨o27, h28, hm⟩ := of_bind hm
        refine WL.x (R.call rfl en48 (impl_set_has_tr p0 (IntKind.u8.wrap s2.2) h28)) rfl fun x29 => ?_
        refine WL.nil ?_
        refine Go.then_ ?_
        by_cases h30 : o27 = true
        · rw [if_pos h30] at hm
          refine W.cond_t rfl h30 ?_
          refine W.region ?_
          refine WL.q (R.move rfl) rfl ?_
          refine WL.q (R.move rfl) rfl ?_
          refine WL.x (R.buildT ([s2.2]) el26 rfl rfl rfl rfl rfl (by decide) (by decide)) rfl fun v31 => ?_
          obtain ⟨h32, hm⟩ := of_guard hm
          refine WL.x (R.appendT 1 rfl rfl rfl el26 el26 (RdT.at 0 rfl) h32) rfl fun v33 => ?_
          refine WL.q (R.assign rfl) rfl ?_
          refine WL.nil ?_
          refine Go.n_block ?_
          have he := Option.some.inj hm
          clear hm
          subst o34
          exact fun a w s => And.intro rfl (Exists.intro v33 (Sat.mk (s.env.le ⟨rfl, rfl, rfl, rfl, trivial⟩) (s.mem.reord [1] 2 rfl)))
        · rw [if_neg h30] at hm
          refine W.cond_f rfl (b_f h30) ?_
          refine W.skip ?_
          refine Go.n_block ?_
          have he := Option.some.inj hm
          clear hm
          subst o34
          exact fun a w s => And.intro rfl (Exists.intro v25 (Sat.mk (s.env.le ⟨rfl, rfl, rfl, rfl, trivial⟩) (s.mem)))
      · intro e a w hJ
        replace hm := hmo34
        clear hmo34
        obtain ⟨rfl, v35, s⟩ := hJ
        refine Go.use s ?_
        refine Go.then_ ?_
        refine W.region ?_
        refine WL.q (R.add rfl rfl) rfl ?_
        refine WL.q (R.move rfl) rfl ?_
        refine WL.nil ?_
        have he := Option.some.inj hm
        clear hm
        subst x
        exact fun a w s => Exists.intro _ (And.intro rfl (Exists.intro v35 (Sat.mk (s.env.le ⟨rfl, rfl, rfl, rfl, trivial⟩) (s.mem))))
    · rw [if_neg h26] at hm
      refine W.cond_f rfl (decide_eq_false h26) ?_
      refine W.exit ?_
      refine Go.x_then ?_
      have he := Option.some.inj hm
      clear hm
      subst x
      exact fun a w s => Exists.intro _ (And.intro rfl (And.intro rfl (Exists.intro v25 (Sat.mk (s.env.le ⟨rfl, rfl, trivial⟩) (s.mem)))))
  · intro e a w hJ
    obtain ⟨rfl, v37, s⟩ := hJ
    refine Go.use s ?_
    refine Go.x_block ?_
    refine Go.then_ ?_
    refine W.seq ?_
    refine W.region ?_
    refine WL.q (R.move rfl) rfl ?_
    refine WL.q (R.assign rfl) rfl ?_
    refine WL.nil ?_
    refine Go.then_ ?_
    refine W.ret ?_
    have he := Option.some.inj hm
    clear hm
    subst r
    exact Go.ret1 rfl (.tmp rfl) (fun w hw => ⟨_, rfl, _, ⟨v37, rfl, rfl⟩, hw⟩)
set_option maxRecDepth 100000 in
theorem impl_made_tr {G : World} {F : List Res} (p0 : Int) (g1 : FuncId) (fs1 cs1 : List Value) (f1 : Int → Int → Option Int) (en_1 : Enters Tryd.prog g1) (hf1 : ∀ (L : List Res) (a0 : Int) (a1 : Int) (r : Int), f1 a0 a1 = some r → Tr Tryd.prog G g1 (fs1 ++ [(.int .u8 a0), (.int .u8 a1)] ++ cs1) (L ++ F) (fun u K => ∃ x : Unit, u = (.int .u8 r) ∧ K = L ++ F)) {r : S_Square} (hm : impl_made p0 f1 = some r) : Tr Tryd.prog G 33 [(.int .i64 p0), (.func (.func g1) fs1.toArray cs1.toArray)] F (fun u K => ∃ x : Unit, u = (.agg (e_S_Square.cells r).toArray) ∧ K = F) := by
  unfold impl_made at hm
  refine Tr.body Tryd.func33 rfl Tryd.ntmps33 ?_
  refine W.seq ?_
  refine W.region ?_
  refine WL.x (al29) rfl fun b1 => ?_
  refine WL.nil ?_
  refine Go.then_ ?_
  refine W.seq ?_
  refine W.region ?_
  refine WL.q (R.move rfl) rfl ?_
  refine WL.q (bs29_0 rfl) rfl ?_
  refine WL.x (al29) rfl fun b2 => ?_
  refine WL.x0 (R.store_bx (i := 0) rfl rfl rfl (fits_agg e_S_Square (⟨p0, (Vector.replicate 10 (Vector.replicate 10 0))⟩ : S_Square) sz29) (Up.all e_S_Square _ _)) fun _ => ?_
  refine WL.nil ?_
  refine Go.then_ ?_
  refine W.seq ?_
  refine W.seq ?_
  refine W.region ?_
  refine WL.q (R.load rfl (At.bx 0 rfl (Sub.refl _)) (lies_agg e_S_Square (⟨p0, (Vector.replicate 10 (Vector.replicate 10 0))⟩ : S_Square) ia29 sz29)) rfl ?_
  obtain ⟨o3, h4, hm⟩ := of_bind hm
  refine WL.x (R.call rfl en43 (impl_Square_elements_tr (⟨p0, (Vector.replicate 10 (Vector.replicate 10 0))⟩ : S_Square) h4)) rfl fun x5 => ?_
  refine WL.q (R.lenT rfl el63 (RdT.at 0 rfl)) rfl ?_
  refine WL.q (R.move rfl) rfl ?_
  refine WL.nil ?_
  refine Go.then_ ?_
  refine W.block ?_
  obtain ⟨o7, hlo7, hm⟩ := of_bind hm
  refine W.loopx (fun (s6 : (S_Square × Int)) a w => Sat G ((slT (Enc.int .u8) x5 o3) :: (bx b2 (e_S_Square.cells s6.1)) :: (bx b1 (e_S_Square.cells z_S_Square)) :: F) 38 [(1, (.func (.func g1) fs1.toArray cs1.toArray)), (4, (.pointer (some ⟨b1, 0, none⟩))), (5, (.pointer (some ⟨b2, 0, none⟩))), (13, x5), (14, (.int .i64 (o3.length : Int))), (15, (.int .i64 s6.2))] a w) (fun (o7 : S_Square) e a w => And (e = (.exit 0)) (Sat G ((bx b2 (e_S_Square.cells o7)) :: (bx b1 (e_S_Square.cells z_S_Square)) :: F) 38 [(4, (.pointer (some ⟨b1, 0, none⟩))), (5, (.pointer (some ⟨b2, 0, none⟩)))] a w)) hlo7 (fun a w s => (Sat.mk (s.env.le ⟨rfl, rfl, rfl, rfl, rfl, rfl, trivial⟩) (s.mem))) ?_ ?_
  · clear hm
    intro s6 x hm a w hJ
    have s := hJ
    unfold impl_made_L1 at hm
    refine W.use s ?_
    refine W.seq ?_
    refine W.region ?_
    refine WL.q (R.lss rfl rfl) rfl ?_
    refine WL.nil ?_
    refine Go.then_ ?_
    refine W.seq ?_
    by_cases h64 : s6.2 < (o3.length : Int)
    · rw [if_pos h64] at hm
      refine W.cond_t rfl (decide_eq_true h64) ?_
      refine W.skip ?_
      refine Go.then_ ?_
      refine W.seq ?_
      refine W.block ?_
      refine W.seq ?_
      refine W.region ?_
      obtain ⟨h65, hm⟩ := of_guard hm
      refine WL.q (R.idxT rfl rfl el63 (RdT.at 0 rfl) h65) rfl ?_
      refine WL.q (R.load rfl (At.elT (RdT.at 0 rfl) (by decide) h65) (Lies.one _ ia5)) rfl ?_
      refine WL.q (R.assign rfl) rfl ?_
      refine WL.nil ?_
      refine Go.then_ ?_
      refine W.seq ?_
      refine W.region ?_
      refine WL.q (R.load rfl (At.bx 1 rfl (Sub.refl _)) (lies_agg e_S_Square s6.1 ia29 sz29)) rfl ?_
      obtain ⟨o66, h67, hm⟩ := of_bind hm
      refine WL.x (R.call rfl en43 (impl_Square_elements_tr s6.1 h67)) rfl fun x68 => ?_
      refine WL.q (R.lenT rfl el63 (RdT.at 0 rfl)) rfl ?_
      refine WL.q (R.move rfl) rfl ?_
      refine WL.nil ?_
      refine Go.then_ ?_
      refine W.block ?_
      obtain ⟨o70, hlo70, hm⟩ := of_bind hm
      refine W.loopx (fun (s69 : (S_Square × Int)) a w => Sat G ((slT (Enc.int .u8) x68 o66) :: (slT (Enc.int .u8) x5 o3) :: (bx b2 (e_S_Square.cells s69.1)) :: (bx b1 (e_S_Square.cells z_S_Square)) :: F) 38 [(1, (.func (.func g1) fs1.toArray cs1.toArray)), (4, (.pointer (some ⟨b1, 0, none⟩))), (5, (.pointer (some ⟨b2, 0, none⟩))), (7, (.int .u8 (gl o3 s6.2))), (13, x5), (14, (.int .i64 (o3.length : Int))), (15, (.int .i64 s6.2)), (20, x68), (21, (.int .i64 (o66.length : Int))), (22, (.int .i64 s69.2))] a w) (fun (o70 : S_Square) e a w => And (e = (.exit 2)) (Sat G ((slT (Enc.int .u8) x5 o3) :: (bx b2 (e_S_Square.cells o70)) :: (bx b1 (e_S_Square.cells z_S_Square)) :: F) 38 [(1, (.func (.func g1) fs1.toArray cs1.toArray)), (4, (.pointer (some ⟨b1, 0, none⟩))), (5, (.pointer (some ⟨b2, 0, none⟩))), (13, x5), (14, (.int .i64 (o3.length : Int))), (15, (.int .i64 s6.2))] a w)) hlo70 (fun a w s => (Sat.mk (s.env.le ⟨rfl, rfl, rfl, rfl, rfl, rfl, rfl, rfl, rfl, rfl, trivial⟩) (s.mem))) ?_ ?_
      · clear hm
        intro s69 x hm a w hJ
        have s := hJ
        unfold impl_made_L2 at hm
        refine W.use s ?_
        refine W.seq ?_
        refine W.region ?_
        refine WL.q (R.lss rfl rfl) rfl ?_
        refine WL.nil ?_
        refine Go.then_ ?_
        refine W.seq ?_
        by_cases h85 : s69.2 < (o66.length : Int)
        · rw [if_pos h85] at hm
          refine W.cond_t rfl (decide_eq_true h85) ?_
          refine W.skip ?_
          refine Go.then_ ?_
          refine W.seq ?_
          refine W.block ?_
          refine W.seq ?_
          refine W.region ?_
          obtain ⟨h86, hm⟩ := of_guard hm
          refine WL.q (R.idxT rfl rfl el63 (RdT.at 0 rfl) h86) rfl ?_
          refine WL.q (R.load rfl (At.elT (RdT.at 0 rfl) (by decide) h86) (Lies.one _ ia5)) rfl ?_
          refine WL.q (R.assign rfl) rfl ?_
          refine WL.nil ?_
          refine Go.then_ ?_
          obtain ⟨o87, h88, hm⟩ := of_bind hm
          obtain ⟨h90, hm⟩ := of_guard hm
          obtain ⟨h91, hm⟩ := of_guard hm
          refine W.join1 (fun a w => ∃ x89 : Unit, Sat G ((slT (Enc.int .u8) x68 o66) :: (slT (Enc.int .u8) x5 o3) :: (bx b2 (e_S_Square.cells ({ s69.1 with Table := sv s69.1.Table (gl o3 s6.2) (sv (gv s69.1.Table (gl o3 s6.2)) (gl o66 s69.2) o87) }))) :: (bx b1 (e_S_Square.cells z_S_Square)) :: F) 38 [(1, (.func (.func g1) fs1.toArray cs1.toArray)), (4, (.pointer (some ⟨b1, 0, none⟩))), (5, (.pointer (some ⟨b2, 0, none⟩))), (7, (.int .u8 (gl o3 s6.2))), (13, x5), (14, (.int .i64 (o3.length : Int))), (15, (.int .i64 s6.2)), (20, x68), (21, (.int .i64 (o66.length : Int))), (22, (.int .i64 s69.2))] a w) ?_ ?_
          · refine W.draw (n := 10) ((slT (Enc.int .u8) x68 o66) :: (slT (Enc.int .u8) x5 o3) :: (bx b1 (e_S_Square.cells z_S_Square)) :: F) F 10 (by kernel_rfl) rfl rfl (fun w hw => hw.reord [0, 1, 3] 4 rfl) (fun w hw => hw.drop 4) ?_
            refine WK.q (i := 0) rfl rfl (by kernel_rfl) calm_n (R.move rfl) rfl rfl ?_
            refine WK.q (i := 1) rfl rfl (by kernel_rfl) calm_n (R.move rfl) rfl rfl ?_
            refine WK.q (i := 2) rfl rfl (by kernel_rfl) calm_n (R.move rfl) rfl rfl ?_
            refine WK.q (i := 3) rfl rfl (by kernel_rfl) calm_n (R.move rfl) rfl rfl ?_
            refine WK.q (i := 4) rfl rfl (by kernel_rfl) calm_n (R.move rfl) rfl rfl ?_
            refine WK.q (i := 6) rfl rfl (by kernel_rfl) calm_n (R.fieldAddr rfl fa29_1) rfl rfl ?_
            refine WK.q (i := 7) rfl rfl (by kernel_rfl) calm_n (R.indexArr rfl rfl un27 sz22 h90.1 h90.2) rfl rfl ?_
            refine WK.x (i := 5) (by kernel_rfl) rfl (R.callAny (fs := fs1) (cs := cs1) (vs := [(.int .u8 (gl o3 s6.2)), (.int .u8 (gl o66 s69.2))]) rfl rfl en_1 (hf1 [(slT (Enc.int .u8) x68 o66), (slT (Enc.int .u8) x5 o3), (bx b2 (e_S_Square.cells s69.1)), (bx b1 (e_S_Square.cells z_S_Square))] (gl o3 s6.2) (gl o66 s69.2) _ h88)) (fun _ w hw => hw.reord [0, 1, 3] 4 rfl) (fun _ _ _ w hw => hw.reord [] 4 rfl) rfl rfl (by kernel_rfl) fun x89 => ?_
            refine WK.x (i := 8) (by kernel_rfl) rfl (OpV.x (R.indexArr rfl rfl un22 sz5 h91.1 h91.2)) (fun _ w hw => hw.reord [0, 1, 3] 4 rfl) (fun _ _ _ w hw => hw.reord [] 4 rfl) rfl rfl (by kernel_rfl) fun _ => ?_
            refine WK.x0 (i := 9) (by kernel_rfl) rfl (R.store_bx (i := 2) rfl rfl rfl (fits_int sz5) (Up.trans (Sub.trans (Sub.trans (Sub.refl _) (e_S_Square_s1 s69.1)) (sub_arr ((Enc.int .u8).arr 10) (v := s69.1.Table) h90.1 h90.2)) (up_arr (Enc.int .u8) (v := gv s69.1.Table (gl o3 s6.2)) o87 h91.1 h91.2) (Up.trans (Sub.trans (Sub.refl _) (e_S_Square_s1 s69.1)) (up_arr ((Enc.int .u8).arr 10) (v := s69.1.Table) (sv (gv s69.1.Table (gl o3 s6.2)) (gl o66 s69.2) o87) h90.1 h90.2) (Up.trans (Sub.refl _) (e_S_Square_u1 s69.1 (sv s69.1.Table (gl o3 s6.2) (sv (gv s69.1.Table (gl o3 s6.2)) (gl o66 s69.2) o87))) (Up.all e_S_Square _ _))))) (fun _ w hw => hw.reord [0, 1, 3] 4 rfl) (fun _ _ _ w hw => hw.reord [] 4 rfl) rfl (by kernel_rfl) fun _ => ?_
            refine WK.nil (by kernel_rfl) ?_
            exact fun a w s => And.intro rfl (Exists.intro x89 (Sat.mk (s.env.le ⟨rfl, rfl, rfl, rfl, rfl, rfl, rfl, rfl, rfl, rfl, trivial⟩) (s.mem)))
          · refine Go2.ex fun x89 => ?_
            refine Go2.sat ?_
            refine Go.n_block ?_
            refine Go.then_ ?_
            refine W.region ?_
            refine WL.q (R.add rfl rfl) rfl ?_
            refine WL.q (R.move rfl) rfl ?_
            refine WL.nil ?_
            have he := Option.some.inj hm
            clear hm
            subst x
            exact fun a w s => Exists.intro _ (And.intro rfl (Sat.mk (s.env.le ⟨rfl, rfl, rfl, rfl, rfl, rfl, rfl, rfl, rfl, rfl, trivial⟩) (s.mem)))
        · rw [if_neg h85] at hm
          refine W.cond_f rfl (decide_eq_false h85) ?_
          refine W.exit ?_
          refine Go.x_then ?_
          have he := Option.some.inj hm
          clear hm
          subst x
          exact fun a w s => Exists.intro _ (And.intro rfl (And.intro rfl (Sat.mk (s.env.le ⟨rfl, rfl, rfl, rfl, rfl, rfl, trivial⟩) (s.mem.reord [1, 2, 3] 4 rfl))))
      · intro e a w hJ
        obtain ⟨rfl, s⟩ := hJ
        refine Go.use s ?_
        refine Go.x_block ?_
        refine Go.n_block ?_
        refine Go.then_ ?_
        refine W.region ?_
        refine WL.q (R.add rfl rfl) rfl ?_
        refine WL.q (R.move rfl) rfl ?_
        refine WL.nil ?_
        have he := Option.some.inj hm
        clear hm
        subst x
        exact fun a w s => Exists.intro _ (And.intro rfl (Sat.mk (s.env.le ⟨rfl, rfl, rfl, rfl, rfl, rfl, trivial⟩) (s.mem)))
    · rw [if_neg h64] at hm
      refine W.cond_f rfl (decide_eq_false h64) ?_
      refine W.exit ?_
      refine Go.x_then ?_
      have he := Option.some.inj hm
      clear hm
      subst x
      exact fun a w s => Exists.intro _ (And.intro rfl (And.intro rfl (Sat.mk (s.env.le ⟨rfl, rfl, trivial⟩) (s.mem.reord [1, 2] 3 rfl))))
  · intro e a w hJ
    obtain ⟨rfl, s⟩ := hJ
    refine Go.use s ?_
    refine Go.x_block ?_
    refine Go.then_ ?_
    refine W.seq ?_
    refine W.region ?_
    refine WL.q (R.load rfl (At.bx 0 rfl (Sub.refl _)) (lies_agg e_S_Square o7 ia29 sz29)) rfl ?_
    refine WL.x0 (R.store_bx (i := 1) rfl rfl rfl (fits_agg e_S_Square o7 sz29) (Up.all e_S_Square _ _)) fun _ => ?_
    refine WL.nil ?_
    refine Go.then_ ?_
    refine W.ret ?_
    have he := Option.some.inj hm
    clear hm
    subst r
    exact Go.ret1 rfl (.cell rfl (At.bx 1 rfl (Sub.refl _)) (lies_agg e_S_Square o7 ia29 sz29)) (fun w hw => ⟨_, rfl, _, ⟨(), rfl, rfl⟩, hw.reord [] 2 rfl⟩)
set_option maxRecDepth 100000 in
theorem impl_Square_quotient_c1_tr {G : World} {F : List Res} (p0 : Int) (p1 : Int) (c2 : Nat) (q2 : Value) (p2 : (List Int)) (hp2 : At G F (.pointer (some ⟨c2, 0, none⟩)) [q2]) (hq2 : RdT (Enc.int .i64) G F q2 p2) (c3 : Nat) (p3 : S_Square) (hp3 : At G F (.pointer (some ⟨c3, 0, none⟩)) (e_S_Square.cells p3)) (c4 : Nat) (q4 : Value) (p4 : (List Int)) (hp4 : At G F (.pointer (some ⟨c4, 0, none⟩)) [q4]) (hq4 : RdT (Enc.int .u8) G F q4 p4) {r : Int} (hm : impl_Square_quotient_c1 p0 p1 p2 p3 p4 = some r) : Tr Tryd.prog G 34 [(.int .u8 p0), (.int .u8 p1), (.pointer (some ⟨c2, 0, none⟩)), (.pointer (some ⟨c3, 0, none⟩)), (.pointer (some ⟨c4, 0, none⟩))] F (fun u K => ∃ x : Unit, u = (.int .u8 r) ∧ K = F) := by
  unfold impl_Square_quotient_c1 at hm
  refine Tr.body Tryd.func34 rfl Tryd.ntmps34 ?_
  refine W.seq ?_
  refine W.region ?_
  refine WL.q (R.assign rfl) rfl ?_
  refine WL.nil ?_
  refine Go.then_ ?_
  refine W.seq ?_
  obtain ⟨h1, hm⟩ := of_guard hm
  obtain ⟨h2, hm⟩ := of_guard hm
  obtain ⟨h3, hm⟩ := of_guard hm
  obtain ⟨h4, hm⟩ := of_guard hm
  obtain ⟨h5, hm⟩ := of_guard hm
  refine W.join1 (fun a w => Sat G F 24 [(7, (.int .u8 (IntKind.u8.wrap (gl p2 (gv (gv p3.Table (gl p4 p0)) (gl p4 p1))))))] a w) ?_ ?_
  · refine W.draw (n := 17) F F 17 (by kernel_rfl) rfl rfl (fun w hw => hw) (fun w hw => hw.drop 0) ?_
    refine WK.q (i := 0) rfl rfl (by kernel_rfl) calm_n (R.load rfl (At.lift 0 rfl hp2) (Lies.one _ ia26)) rfl rfl ?_
    refine WK.q (i := 1) rfl rfl (by kernel_rfl) calm_n (R.load rfl (At.lift 0 rfl hp4) (Lies.one _ ia63)) rfl rfl ?_
    refine WK.q (i := 2) rfl rfl (by kernel_rfl) calm_n (R.move rfl) rfl rfl ?_
    refine WK.q (i := 3) rfl rfl (by kernel_rfl) calm_n (R.idxT rfl rfl el63 (RdT.lift 0 rfl hq4) h1) rfl rfl ?_
    refine WK.q (i := 4) rfl rfl (by kernel_rfl) calm_n (R.load rfl (At.elT (RdT.lift 0 rfl hq4) (by decide) h1) (Lies.one _ ia5)) rfl rfl ?_
    refine WK.q (i := 5) rfl rfl (by kernel_rfl) calm_n (R.load rfl (At.lift 0 rfl hp4) (Lies.one _ ia63)) rfl rfl ?_
    refine WK.q (i := 6) rfl rfl (by kernel_rfl) calm_n (R.move rfl) rfl rfl ?_
    refine WK.q (i := 7) rfl rfl (by kernel_rfl) calm_n (R.idxT rfl rfl el63 (RdT.lift 0 rfl hq4) h2) rfl rfl ?_
    refine WK.q (i := 8) rfl rfl (by kernel_rfl) calm_n (R.load rfl (At.elT (RdT.lift 0 rfl hq4) (by decide) h2) (Lies.one _ ia5)) rfl rfl ?_
    refine WK.x (i := 9) (by kernel_rfl) rfl (OpV.x (R.fieldAddr rfl fa29_1)) (fun _ w hw => hw) (fun _ _ _ w hw => hw) rfl rfl (by kernel_rfl) fun _ => ?_
    refine WK.x (i := 10) (by kernel_rfl) rfl (OpV.x (R.indexArr rfl rfl un27 sz22 h3.1 h3.2)) (fun _ w hw => hw) (fun _ _ _ w hw => hw) rfl rfl (by kernel_rfl) fun _ => ?_
    refine WK.x (i := 11) (by kernel_rfl) rfl (OpV.x (R.indexArr rfl rfl un22 sz5 h4.1 h4.2)) (fun _ w hw => hw) (fun _ _ _ w hw => hw) rfl rfl (by kernel_rfl) fun _ => ?_
    refine WK.x (i := 12) (by kernel_rfl) rfl (OpV.x (R.load rfl (At.sub (At.sub (At.sub (At.lift 0 rfl hp3) (e_S_Square_s1 p3)) (sub_arr ((Enc.int .u8).arr 10) (v := p3.Table) h3.1 h3.2)) (sub_arr (Enc.int .u8) (v := gv p3.Table (gl p4 p0)) h4.1 h4.2)) (Lies.one _ ia5))) (fun _ w hw => hw) (fun _ _ _ w hw => hw) rfl rfl (by kernel_rfl) fun _ => ?_
    refine WK.x (i := 13) (by kernel_rfl) rfl (OpV.x (R.idxT rfl rfl el26 (RdT.lift 0 rfl hq2) h5)) (fun _ w hw => hw) (fun _ _ _ w hw => hw) rfl rfl (by kernel_rfl) fun _ => ?_
    refine WK.x (i := 14) (by kernel_rfl) rfl (OpV.x (R.load rfl (At.elT (RdT.lift 0 rfl hq2) (by decide) h5) (Lies.one _ ia2))) (fun _ w hw => hw) (fun _ _ _ w hw => hw) rfl rfl (by kernel_rfl) fun _ => ?_
    refine WK.x (i := 15) (by kernel_rfl) rfl (OpV.x (R.conv rfl un5 us2)) (fun _ w hw => hw) (fun _ _ _ w hw => hw) rfl rfl (by kernel_rfl) fun _ => ?_
    refine WK.x (i := 16) (by kernel_rfl) rfl (OpV.x (R.assign rfl)) (fun _ w hw => hw) (fun _ _ _ w hw => hw) rfl rfl (by kernel_rfl) fun _ => ?_
    refine WK.nil (by kernel_rfl) ?_
    exact fun a w s => And.intro rfl (Sat.mk (s.env.le ⟨rfl, trivial⟩) (s.mem))
  · refine Go2.sat ?_
    refine Go.then_ ?_
    refine W.ret ?_
    have he := Option.some.inj hm
    clear hm
    subst r
    exact Go.ret1 rfl (.tmp rfl) (fun w hw => ⟨_, rfl, _, ⟨(), rfl, rfl⟩, hw⟩)
set_option maxRecDepth 100000 in
theorem impl_Square_quotient_tr {G : World} {F : List Res} (hg1 : Gl G 1 (((Enc.int .u8).arr 64).cells tab_1)) (p0 : S_Square) (p1 : Int) {r : (S_Square × (List Int))} (hm : impl_Square_quotient p0 p1 = some r) : Tr Tryd.prog G 19 [(.agg (e_S_Square.cells p0).toArray), (.int .i64 p1)] F (fun u K => ∃ x : Value, u = (.tuple #[(.agg (e_S_Square.cells r.1).toArray), x]) ∧ K = ((slT (Enc.int .i64) x r.2) :: F)) := by
  unfold impl_Square_quotient at hm
  refine Tr.body Tryd.func19 rfl Tryd.ntmps19 ?_
  refine W.seq ?_
  refine W.region ?_
  refine WL.x (R.box rfl (cells_agg _)) rfl fun b1 => ?_
  refine WL.x (al29) rfl fun b2 => ?_
  refine WL.q (R.assign rfl) rfl ?_
  refine WL.nil ?_
  refine Go.then_ ?_
  refine W.seq ?_
  refine W.region ?_
  refine WL.q (R.load rfl (At.bx 1 rfl (Sub.refl _)) (lies_agg e_S_Square p0 ia29 sz29)) rfl ?_
  refine WL.q (R.move rfl) rfl ?_
  obtain ⟨o3, h4, hm⟩ := of_bind hm
  refine WL.x (R.call rfl en31 (impl_Square_cosets_tr hg1 p0 p1 h4)) rfl fun x5 => ?_
  refine WL.q (R.move rfl) rfl ?_
  refine WL.q (R.extract rfl rfl) rfl ?_
  refine WL.q (R.extract rfl rfl) rfl ?_
  refine WL.q (R.assign rfl) rfl ?_
  refine WL.q (R.assign rfl) rfl ?_
  refine WL.nil ?_
  refine Go.then_ ?_
  refine W.seq ?_
  refine W.region ?_
  refine WL.q (R.fieldAddr rfl fa29_0) rfl ?_
  refine WL.q (R.load rfl (At.sub (At.bx 2 rfl (Sub.refl _)) (e_S_Square_s0 p0)) (Lies.one _ ia2)) rfl ?_
  obtain ⟨h6, hm⟩ := of_guard hm
  refine WL.x (R.makeT el26 rfl h6) rfl fun v7 => ?_
  refine WL.x (R.buildT ([] : List Int) el63 rfl rfl rfl rfl rfl (by decide) (by decide)) rfl fun v8 => ?_
  refine WL.x (al26) rfl fun b9 => ?_
  refine WL.x (al63) rfl fun b10 => ?_
  refine WL.x0 (R.store_var (i := 1) rfl rfl rfl (RdT.at 3 rfl) sz26 rfl) fun _ => ?_
  refine WL.x0 (R.store_var (i := 0) rfl rfl rfl (RdT.at 2 rfl) sz63 rfl) fun _ => ?_
  refine WL.nil ?_
  refine Go.then_ ?_
  refine W.seq ?_
  refine W.seq ?_
  refine W.region ?_
  refine WL.q (R.move rfl) rfl ?_
  refine WL.q (R.lenT rfl el60 (RdT.at 4 rfl)) rfl ?_
  refine WL.q (R.move rfl) rfl ?_
  refine WL.nil ?_
  refine Go.then_ ?_
  refine W.block ?_
  obtain ⟨o12, hlo12, hm⟩ := of_bind hm
  refine W.loopx (fun (s11 : ((List Int) × (List Int) × Int)) a w => ∃ v60 : Value, Sat G ((slT (Enc.int .u8) v60 s11.1) :: (bx b10 [v60]) :: (bx b9 [v7]) :: (slT (Enc.int .i64) v7 s11.2.1) :: (slT (Enc.int .i64) x5 o3.1) :: (bx b2 (e_S_Square.cells z_S_Square)) :: (bx b1 (e_S_Square.cells p0)) :: F) 57 [(2, (.pointer (some ⟨b1, 0, none⟩))), (4, (.pointer (some ⟨b2, 0, none⟩))), (5, (.slice none 0 0)), (6, x5), (8, (.pointer (some ⟨b9, 0, none⟩))), (9, (.pointer (some ⟨b10, 0, none⟩))), (24, x5), (25, (.int .i64 (o3.1.length : Int))), (26, (.int .i64 s11.2.2))] a w) (fun (o12 : ((List Int) × (List Int))) e a w => And (e = (.exit 0)) (∃ v85 : Value, Sat G ((slT (Enc.int .u8) v85 o12.1) :: (bx b10 [v85]) :: (bx b9 [v7]) :: (slT (Enc.int .i64) v7 o12.2) :: (slT (Enc.int .i64) x5 o3.1) :: (bx b2 (e_S_Square.cells z_S_Square)) :: (bx b1 (e_S_Square.cells p0)) :: F) 57 [(2, (.pointer (some ⟨b1, 0, none⟩))), (4, (.pointer (some ⟨b2, 0, none⟩))), (5, (.slice none 0 0)), (6, x5), (8, (.pointer (some ⟨b9, 0, none⟩))), (9, (.pointer (some ⟨b10, 0, none⟩)))] a w)) hlo12 (fun a w s => (Exists.intro v8 (Sat.mk (s.env.le ⟨rfl, rfl, rfl, rfl, rfl, rfl, rfl, rfl, rfl, trivial⟩) (s.mem.reord [2, 0, 1, 3, 4, 5, 6] 7 rfl)))) ?_ ?_
  · clear hm
    intro s11 x hm a w hJ
    obtain ⟨v60, s⟩ := hJ
    unfold impl_Square_quotient_L1 at hm
    refine W.use s ?_
    refine W.seq ?_
    refine W.region ?_
    refine WL.q (R.lss rfl rfl) rfl ?_
    refine WL.nil ?_
    refine Go.then_ ?_
    refine W.seq ?_
    by_cases h61 : s11.2.2 < (o3.1.length : Int)
    · rw [if_pos h61] at hm
      refine W.cond_t rfl (decide_eq_true h61) ?_
      refine W.skip ?_
      refine Go.then_ ?_
      refine W.seq ?_
      refine W.block ?_
      refine W.seq ?_
      refine W.region ?_
      refine WL.q (R.move rfl) rfl ?_
      obtain ⟨h62, hm⟩ := of_guard hm
      refine WL.q (R.idxT rfl rfl el60 (RdT.at 4 rfl) h62) rfl ?_
      refine WL.q (R.load rfl (At.elT (RdT.at 4 rfl) (by decide) h62) (Lies.one _ ia44)) rfl ?_
      refine WL.q (R.assign rfl) rfl ?_
      refine WL.q (R.assign rfl) rfl ?_
      refine WL.nil ?_
      refine Go.then_ ?_
      refine W.seq ?_
      refine W.seq ?_
      refine W.region ?_
      refine WL.q (R.move rfl) rfl ?_
      obtain ⟨o63, h64, hm⟩ := of_bind hm
      refine WL.x (R.call rfl en32 (impl_set_list_tr (gl o3.1 s11.2.2) h64)) rfl fun x65 => ?_
      refine WL.q (R.lenT rfl el26 (RdT.at 0 rfl)) rfl ?_
      refine WL.q (R.move rfl) rfl ?_
      refine WL.nil ?_
      refine Go.then_ ?_
      refine W.block ?_
      obtain ⟨o67, hlo67, hm⟩ := of_bind hm
      refine W.loopx (fun (s66 : ((List Int) × Int)) a w => Sat G ((slT (Enc.int .i64) x65 o63) :: (slT (Enc.int .u8) v60 s11.1) :: (bx b10 [v60]) :: (bx b9 [v7]) :: (slT (Enc.int .i64) v7 s66.1) :: (slT (Enc.int .i64) x5 o3.1) :: (bx b2 (e_S_Square.cells z_S_Square)) :: (bx b1 (e_S_Square.cells p0)) :: F) 57 [(2, (.pointer (some ⟨b1, 0, none⟩))), (4, (.pointer (some ⟨b2, 0, none⟩))), (5, (.slice none 0 0)), (6, x5), (8, (.pointer (some ⟨b9, 0, none⟩))), (9, (.pointer (some ⟨b10, 0, none⟩))), (10, (.int .i64 s11.2.2)), (11, (.int .i64 (gl o3.1 s11.2.2))), (24, x5), (25, (.int .i64 (o3.1.length : Int))), (26, (.int .i64 s11.2.2)), (32, x65), (33, (.int .i64 (o63.length : Int))), (34, (.int .i64 s66.2))] a w) (fun (o67 : (List Int)) e a w => And (e = (.exit 2)) (Sat G ((slT (Enc.int .u8) v60 s11.1) :: (bx b10 [v60]) :: (bx b9 [v7]) :: (slT (Enc.int .i64) v7 o67) :: (slT (Enc.int .i64) x5 o3.1) :: (bx b2 (e_S_Square.cells z_S_Square)) :: (bx b1 (e_S_Square.cells p0)) :: F) 57 [(2, (.pointer (some ⟨b1, 0, none⟩))), (4, (.pointer (some ⟨b2, 0, none⟩))), (5, (.slice none 0 0)), (6, x5), (8, (.pointer (some ⟨b9, 0, none⟩))), (9, (.pointer (some ⟨b10, 0, none⟩))), (11, (.int .i64 (gl o3.1 s11.2.2))), (24, x5), (25, (.int .i64 (o3.1.length : Int))), (26, (.int .i64 s11.2.2))] a w)) hlo67 (fun a w s => (Sat.mk (s.env.le ⟨rfl, rfl, rfl, rfl, rfl, rfl, rfl, rfl, rfl, rfl, rfl, rfl, rfl, rfl, trivial⟩) (s.mem))) ?_ ?_
      · clear hm
        intro s66 x hm a w hJ
        have s := hJ
        unfold impl_Square_quotient_L2 at hm
        refine W.use s ?_
        refine W.seq ?_
        refine W.region ?_
        refine WL.q (R.lss rfl rfl) rfl ?_
        refine WL.nil ?_
        refine Go.then_ ?_
        refine W.seq ?_
        by_cases h74 : s66.2 < (o63.length : Int)
        · rw [if_pos h74] at hm
          refine W.cond_t rfl (decide_eq_true h74) ?_
          refine W.skip ?_
          refine Go.then_ ?_
          refine W.seq ?_
          refine W.block ?_
          refine W.seq ?_
          refine W.region ?_
          obtain ⟨h75, hm⟩ := of_guard hm
          refine WL.q (R.idxT rfl rfl el26 (RdT.at 0 rfl) h75) rfl ?_
          refine WL.q (R.load rfl (At.elT (RdT.at 0 rfl) (by decide) h75) (Lies.one _ ia2)) rfl ?_
          refine WL.q (R.assign rfl) rfl ?_
          refine WL.nil ?_
          refine Go.then_ ?_
          refine W.region ?_
          refine WL.q (R.load rfl (At.bx 3 rfl (Sub.refl _)) (Lies.one _ ia26)) rfl ?_
          refine WL.q (R.move rfl) rfl ?_
          refine WL.q (R.move rfl) rfl ?_
          obtain ⟨h76, hm⟩ := of_guard hm
          refine WL.q (R.idxT rfl rfl el26 (RdT.at 4 rfl) h76) rfl ?_
          refine WL.x0 (R.storeT (i := 4) s11.2.2 rfl rfl rfl (fits_int sz2) (by decide) h76) fun _ => ?_
          refine WL.nil ?_
          refine Go.n_block ?_
          refine Go.then_ ?_
          refine W.region ?_
          refine WL.q (R.add rfl rfl) rfl ?_
          refine WL.q (R.move rfl) rfl ?_
          refine WL.nil ?_
          have he := Option.some.inj hm
          clear hm
          subst x
          exact fun a w s => Exists.intro _ (And.intro rfl (Sat.mk (s.env.le ⟨rfl, rfl, rfl, rfl, rfl, rfl, rfl, rfl, rfl, rfl, rfl, rfl, rfl, rfl, trivial⟩) (s.mem)))
        · rw [if_neg h74] at hm
          refine W.cond_f rfl (decide_eq_false h74) ?_
          refine W.exit ?_
          refine Go.x_then ?_
          have he := Option.some.inj hm
          clear hm
          subst x
          exact fun a w s => Exists.intro _ (And.intro rfl (And.intro rfl (Sat.mk (s.env.le ⟨rfl, rfl, rfl, rfl, rfl, rfl, rfl, rfl, rfl, rfl, trivial⟩) (s.mem.reord [1, 2, 3, 4, 5, 6, 7] 8 rfl))))
      · intro e a w hJ
        obtain ⟨rfl, s⟩ := hJ
        refine Go.use s ?_
        refine Go.x_block ?_
        refine Go.then_ ?_
        obtain ⟨o77, h78, hm⟩ := of_bind hm
        obtain ⟨h80, hm⟩ := of_guard hm
        obtain ⟨h82, hm⟩ := of_guard hm
        refine W.join1 (fun a w => ∃ x79 : Value, ∃ v81 : Value, ∃ v83 : Value, Sat G ((slT (Enc.int .u8) v81 ([IntKind.u8.wrap (gl o77 0)])) :: (slT (Enc.int .i64) x79 o77) :: (slT (Enc.int .u8) v83 (s11.1 ++ ([IntKind.u8.wrap (gl o77 0)]))) :: (bx b10 [v83]) :: (bx b9 [v7]) :: (slT (Enc.int .i64) v7 o67) :: (slT (Enc.int .i64) x5 o3.1) :: (bx b2 (e_S_Square.cells z_S_Square)) :: (bx b1 (e_S_Square.cells p0)) :: F) 57 [(2, (.pointer (some ⟨b1, 0, none⟩))), (4, (.pointer (some ⟨b2, 0, none⟩))), (5, (.slice none 0 0)), (6, x5), (8, (.pointer (some ⟨b9, 0, none⟩))), (9, (.pointer (some ⟨b10, 0, none⟩))), (24, x5), (25, (.int .i64 (o3.1.length : Int))), (26, (.int .i64 s11.2.2))] a w) ?_ ?_
        · refine W.draw (n := 9) ((bx b9 [v7]) :: (slT (Enc.int .i64) v7 o67) :: (slT (Enc.int .i64) x5 o3.1) :: (bx b2 (e_S_Square.cells z_S_Square)) :: (bx b1 (e_S_Square.cells p0)) :: F) F 8 (by kernel_rfl) rfl rfl (fun w hw => hw.reord [2, 3, 4, 5, 6] 7 rfl) (fun w hw => hw.drop 7) ?_
          refine WK.more (F1' := ((bx b9 [v7]) :: (slT (Enc.int .i64) v7 o67) :: (slT (Enc.int .i64) x5 o3.1) :: (bx b2 (e_S_Square.cells z_S_Square)) :: (bx b1 (e_S_Square.cells p0)) :: F)) (F2' := ((bx b10 [v60]) :: (bx b9 [v7]) :: (slT (Enc.int .i64) v7 o67) :: (slT (Enc.int .i64) x5 o3.1) :: (bx b2 (e_S_Square.cells z_S_Square)) :: (bx b1 (e_S_Square.cells p0)) :: F)) (fun w hw => hw.reord [2, 3, 4, 5, 6] 7 rfl) (fun w hw _ => hw.reord [1, 2, 3, 4, 5, 6] 7 rfl) (fun w hw => hw) (fun w hw => hw.reord [] 6 rfl) ?_
          refine WK.q2 (i := 0) rfl rfl (by kernel_rfl) calm_n (R.load rfl (At.bx 0 rfl (Sub.refl _)) (Lies.one _ ia63)) rfl rfl ?_
          refine WK.x (i := 1) (by kernel_rfl) rfl (OpV.x (R.move rfl)) (fun _ w hw => hw.reord [2, 3, 4, 5, 6] 7 rfl) (fun _ _ _ w hw => hw.reord [1, 2, 3, 4, 5, 6] 7 rfl) rfl rfl (by kernel_rfl) fun _ => ?_
          refine WK.x (i := 2) (by kernel_rfl) rfl (R.call rfl en32 (impl_set_list_tr (gl o3.1 s11.2.2) h78)) (fun _ w hw => hw.reord [3, 4, 5, 6, 7] 8 rfl) (fun _ _ _ w hw => hw.reord [2, 3, 4, 5, 6, 7] 8 rfl) rfl rfl (by kernel_rfl) fun x79 => ?_
          refine WK.x (i := 3) (by kernel_rfl) rfl (OpV.x (R.idxT rfl rfl el26 (RdT.at 0 rfl) h80)) (fun _ w hw => hw.reord [3, 4, 5, 6, 7] 8 rfl) (fun _ _ _ w hw => hw.reord [2, 3, 4, 5, 6, 7] 8 rfl) rfl rfl (by kernel_rfl) fun _ => ?_
          refine WK.x (i := 4) (by kernel_rfl) rfl (OpV.x (R.load rfl (At.elT (RdT.at 0 rfl) (by decide) h80) (Lies.one _ ia2))) (fun _ w hw => hw.reord [3, 4, 5, 6, 7] 8 rfl) (fun _ _ _ w hw => hw.reord [2, 3, 4, 5, 6, 7] 8 rfl) rfl rfl (by kernel_rfl) fun _ => ?_
          refine WK.x (i := 5) (by kernel_rfl) rfl (OpV.x (R.conv rfl un5 us2)) (fun _ w hw => hw.reord [3, 4, 5, 6, 7] 8 rfl) (fun _ _ _ w hw => hw.reord [2, 3, 4, 5, 6, 7] 8 rfl) rfl rfl (by kernel_rfl) fun _ => ?_
          refine WK.x (i := 6) (by kernel_rfl) rfl (R.buildT ([IntKind.u8.wrap (gl o77 0)]) el63 rfl rfl rfl rfl rfl (by decide) (by decide)) (fun _ w hw => hw.reord [4, 5, 6, 7, 8] 9 rfl) (fun _ _ _ w hw => hw.reord [3, 4, 5, 6, 7, 8] 9 rfl) rfl rfl (by kernel_rfl) fun v81 => ?_
          refine WK.x (i := 7) (by kernel_rfl) rfl (R.appendT 2 rfl rfl rfl el63 el63 (RdT.at 0 rfl) h82) (fun _ w hw => hw.reord [4, 5, 6, 7, 8] 9 rfl) (fun _ _ _ w hw => hw.reord [3, 4, 5, 6, 7, 8] 9 rfl) rfl rfl (by kernel_rfl) fun v83 => ?_
          refine WK.x0 (i := 8) (by kernel_rfl) rfl (R.store_var (i := 3) rfl rfl rfl (RdT.at 2 rfl) sz63 rfl) (fun _ w hw => hw.reord [4, 5, 6, 7, 8] 9 rfl) (fun h1 h2 => by cases h1) rfl (by kernel_rfl) fun _ => ?_
          refine WK.nil (by kernel_rfl) ?_
          exact fun a w s => And.intro rfl (Exists.intro x79 (Exists.intro v81 (Exists.intro v83 (Sat.mk (s.env.le ⟨rfl, rfl, rfl, rfl, rfl, rfl, rfl, rfl, rfl, trivial⟩) (s.mem)))))
        · refine Go2.ex fun x79 => ?_
          refine Go2.ex fun v81 => ?_
          refine Go2.ex fun v83 => ?_
          refine Go2.sat ?_
          refine Go.n_block ?_
          refine Go.then_ ?_
          refine W.region ?_
          refine WL.q (R.add rfl rfl) rfl ?_
          refine WL.q (R.move rfl) rfl ?_
          refine WL.nil ?_
          have he := Option.some.inj hm
          clear hm
          subst x
          exact fun a w s => Exists.intro _ (And.intro rfl (Exists.intro v83 (Sat.mk (s.env.le ⟨rfl, rfl, rfl, rfl, rfl, rfl, rfl, rfl, rfl, trivial⟩) (s.mem.reord [2, 3, 4, 5, 6, 7, 8] 9 rfl))))
    · rw [if_neg h61] at hm
      refine W.cond_f rfl (decide_eq_false h61) ?_
      refine W.exit ?_
      refine Go.x_then ?_
      have he := Option.some.inj hm
      clear hm
      subst x
      exact fun a w s => Exists.intro _ (And.intro rfl (And.intro rfl (Exists.intro v60 (Sat.mk (s.env.le ⟨rfl, rfl, rfl, rfl, rfl, rfl, trivial⟩) (s.mem)))))
  · intro e a w hJ
    obtain ⟨rfl, v85, s⟩ := hJ
    refine Go.use s ?_
    refine Go.x_block ?_
    refine Go.then_ ?_
    refine W.seq ?_
    obtain ⟨o86, h87, hm⟩ := of_bind hm
    refine W.join1 (fun a w => ∃ x88 : Unit, Sat G ((slT (Enc.int .u8) v85 o12.1) :: (bx b10 [v85]) :: (bx b9 [v7]) :: (slT (Enc.int .i64) v7 o12.2) :: (slT (Enc.int .i64) x5 o3.1) :: (bx b2 (e_S_Square.cells o86)) :: (bx b1 (e_S_Square.cells p0)) :: F) 57 [(4, (.pointer (some ⟨b2, 0, none⟩))), (5, v7)] a w) ?_ ?_
    · refine W.draw (n := 7) ((slT (Enc.int .u8) v85 o12.1) :: (bx b10 [v85]) :: (bx b9 [v7]) :: (slT (Enc.int .i64) v7 o12.2) :: (slT (Enc.int .i64) x5 o3.1) :: (bx b1 (e_S_Square.cells p0)) :: F) F 7 (by kernel_rfl) rfl rfl (fun w hw => hw.reord [0, 1, 2, 3, 4, 6] 7 rfl) (fun w hw => hw.drop 7) ?_
      refine WK.q (i := 0) rfl rfl (by kernel_rfl) calm_n (R.move rfl) rfl rfl ?_
      refine WK.q (i := 1) rfl rfl (by kernel_rfl) calm_n (R.lenT rfl el60 (RdT.at 4 rfl)) rfl rfl ?_
      refine WK.q (i := 2) rfl rfl (by kernel_rfl) calm_n (R.makeFunc (fs := []) (cs := [(.pointer (some ⟨b9, 0, none⟩)), (.pointer (some ⟨b1, 0, none⟩)), (.pointer (some ⟨b10, 0, none⟩))]) rfl rfl) rfl rfl ?_
      refine WK.q (i := 4) rfl rfl (by kernel_rfl) calm_n (R.load rfl (At.bx 2 rfl (Sub.refl _)) (Lies.one _ ia26)) rfl rfl ?_
      refine WK.x (i := 3) (by kernel_rfl) rfl (R.call rfl en33 (impl_made_tr (o3.1.length : Int) 34 [] [(.pointer (some ⟨b9, 0, none⟩)), (.pointer (some ⟨b1, 0, none⟩)), (.pointer (some ⟨b10, 0, none⟩))] (fun a0 a1 => impl_Square_quotient_c1 a0 a1 o12.2 p0 o12.1) en34 (fun L a0 a1 r h => impl_Square_quotient_c1_tr (F := L ++ ((slT (Enc.int .u8) v85 o12.1) :: (bx b10 [v85]) :: (bx b9 [v7]) :: (slT (Enc.int .i64) v7 o12.2) :: (slT (Enc.int .i64) x5 o3.1) :: (bx b2 (e_S_Square.cells z_S_Square)) :: (bx b1 (e_S_Square.cells p0)) :: F)) a0 a1 b9 v7 o12.2 (At.bx 2 rfl (Sub.refl _)).liftL (RdT.liftL (RdT.at 3 rfl)) b1 p0 (At.bx 6 rfl (Sub.refl _)).liftL b10 v85 o12.1 (At.bx 1 rfl (Sub.refl _)).liftL (RdT.liftL (RdT.at 0 rfl)) h) h87)) (fun _ w hw => hw.reord [0, 1, 2, 3, 4, 6] 7 rfl) (fun _ _ _ w hw => hw.reord [] 7 rfl) rfl rfl (by kernel_rfl) fun x88 => ?_
      refine WK.x0 (i := 5) (by kernel_rfl) rfl (R.store_bx (i := 5) rfl rfl rfl (fits_agg e_S_Square o86 sz29) (Up.all e_S_Square _ _)) (fun _ w hw => hw.reord [0, 1, 2, 3, 4, 6] 7 rfl) (fun _ _ _ w hw => hw.reord [] 7 rfl) rfl (by kernel_rfl) fun _ => ?_
      refine WK.x (i := 6) (by kernel_rfl) rfl (OpV.x (R.assign rfl)) (fun _ w hw => hw.reord [0, 1, 2, 3, 4, 6] 7 rfl) (fun _ _ _ w hw => hw.reord [] 7 rfl) rfl rfl (by kernel_rfl) fun _ => ?_
      refine WK.nil (by kernel_rfl) ?_
      exact fun a w s => And.intro rfl (Exists.intro x88 (Sat.mk (s.env.le ⟨rfl, rfl, trivial⟩) (s.mem)))
    · refine Go2.ex fun x88 => ?_
      refine Go2.sat ?_
      refine Go.then_ ?_
      refine W.ret ?_
      have he := Option.some.inj hm
      clear hm
      subst r
      exact Go.ret2 rfl (.cell rfl (At.bx 5 rfl (Sub.refl _)) (lies_agg e_S_Square o86 ia29 sz29)) (.tmp rfl) (fun w hw => ⟨_, rfl, _, ⟨v7, rfl, rfl⟩, hw.reord [3] 7 rfl⟩)
set_option maxRecDepth 100000 in
theorem impl_QuotientLoop_tr {G : World} {F : List Res} (hg1 : Gl G 1 (((Enc.int .u8).arr 64).cells tab_1)) (p0 : S_Square) (q1 : Value) (p1 : (List Int)) (hp1 : RdT (Enc.int .i64) G F q1 p1) {r : (S_Square × (List Int) × Int)} (hm : impl_QuotientLoop p0 p1 = some r) : Tr Tryd.prog G 7 [(.agg (e_S_Square.cells p0).toArray), q1] F (fun u K => ∃ x : Value, u = (.tuple #[(.agg (e_S_Square.cells r.1).toArray), x, (.int .i64 r.2.2)]) ∧ K = ((slT (Enc.int .i64) x r.2.1) :: F)) := by
  unfold impl_QuotientLoop at hm
  refine Tr.body Tryd.func7 rfl Tryd.ntmps7 ?_
  refine W.seq ?_
  refine W.region ?_
  refine WL.x (R.box rfl (cells_agg _)) rfl fun b1 => ?_
  refine WL.x (al29) rfl fun b2 => ?_
  refine WL.q (R.assign rfl) rfl ?_
  refine WL.q (R.assign rfl) rfl ?_
  refine WL.nil ?_
  refine Go.then_ ?_
  refine W.seq ?_
  refine W.seq ?_
  refine W.region ?_
  refine WL.q (R.load rfl (At.bx 1 rfl (Sub.refl _)) (lies_agg e_S_Square p0 ia29 sz29)) rfl ?_
  refine WL.q (R.move rfl) rfl ?_
  obtain ⟨o3, h4, hm⟩ := of_bind hm
  refine WL.x (R.call rfl en16 (impl_listCode_tr p0 q1 p1 (RdT.lift 2 rfl hp1) h4)) rfl fun x5 => ?_
  refine WL.q (R.assign rfl) rfl ?_
  refine WL.nil ?_
  refine Go.then_ ?_
  refine W.seq ?_
  refine W.region ?_
  refine WL.q (R.move rfl) rfl ?_
  refine WL.q (R.neq rfl rfl) rfl ?_
  refine WL.nil ?_
  refine Go.then_ ?_
  by_cases h6 : o3 ≠ 0
  · rw [if_pos h6] at hm
    refine W.cond_t rfl (decide_eq_true h6) ?_
    refine W.seq ?_
    refine W.region ?_
    refine WL.q (bz29 rfl) rfl ?_
    refine WL.q (R.move rfl) rfl ?_
    refine WL.x0 (R.store_bx (i := 0) rfl rfl rfl (fits_agg e_S_Square z_S_Square sz29) (Up.all e_S_Square _ _)) fun _ => ?_
    refine WL.q (R.assign rfl) rfl ?_
    refine WL.q (R.assign rfl) rfl ?_
    refine WL.nil ?_
    refine Go.then_ ?_
    refine W.ret ?_
    refine Go.r_then ?_
    have he := Option.some.inj hm
    clear hm
    subst r
    exact Go.ret3 rfl (.cell rfl (At.bx 0 rfl (Sub.refl _)) (lies_agg e_S_Square z_S_Square ia29 sz29)) (.tmp rfl) (.tmp rfl) (fun w hw => ⟨_, rfl, _, ⟨(.slice none 0 0), rfl, rfl⟩, (hw.addNil (Enc.int .i64)).reord [0] 3 rfl⟩)
  · rw [if_neg h6] at hm
    refine W.cond_f rfl (decide_eq_false h6) ?_
    refine W.skip ?_
    refine Go.then_ ?_
    refine W.seq ?_
    refine W.seq ?_
    obtain ⟨o7, h8, hm⟩ := of_bind hm
    obtain ⟨o10, h11, hm⟩ := of_bind hm
    refine W.join1 (fun a w => ∃ x9 : Unit, ∃ x12 : Unit, Sat G ((bx b2 (e_S_Square.cells z_S_Square)) :: (bx b1 (e_S_Square.cells p0)) :: F) 32 [(1, q1), (2, (.pointer (some ⟨b1, 0, none⟩))), (4, (.pointer (some ⟨b2, 0, none⟩))), (5, (.slice none 0 0)), (6, (.int .i64 0)), (21, (.bool (!o10)))] a w) ?_ ?_
    · refine W.draw (n := 5) ((bx b2 (e_S_Square.cells z_S_Square)) :: (bx b1 (e_S_Square.cells p0)) :: F) F 5 (by kernel_rfl) rfl rfl (fun w hw => hw) (fun w hw => hw.drop 2) ?_
      refine WK.q (i := 0) rfl rfl (by kernel_rfl) calm_n (R.load rfl (At.bx 1 rfl (Sub.refl _)) (lies_agg e_S_Square p0 ia29 sz29)) rfl rfl ?_
      refine WK.x (i := 1) (by kernel_rfl) rfl (OpV.x (R.move rfl)) (fun _ w hw => hw) (fun _ _ _ w hw => hw.reord [] 2 rfl) rfl rfl (by kernel_rfl) fun _ => ?_
      refine WK.x (i := 2) (by kernel_rfl) rfl (R.call rfl en18 (impl_setOf_tr q1 p1 (RdT.lift 2 rfl hp1) h8)) (fun _ w hw => hw) (fun _ _ _ w hw => hw.reord [] 2 rfl) rfl rfl (by kernel_rfl) fun x9 => ?_
      refine WK.x (i := 3) (by kernel_rfl) rfl (R.call rfl en17 (impl_Square_isNormal_tr p0 o7 h11)) (fun _ w hw => hw) (fun _ _ _ w hw => hw.reord [] 2 rfl) rfl rfl (by kernel_rfl) fun x12 => ?_
      refine WK.x (i := 4) (by kernel_rfl) rfl (OpV.x (R.not rfl)) (fun _ w hw => hw) (fun _ _ _ w hw => hw.reord [] 2 rfl) rfl rfl (by kernel_rfl) fun _ => ?_
      refine WK.nil (by kernel_rfl) ?_
      exact fun a w s => And.intro rfl (Exists.intro x9 (Exists.intro x12 (Sat.mk (s.env.le ⟨rfl, rfl, rfl, rfl, rfl, rfl, trivial⟩) (s.mem))))
    · refine Go2.ex fun x9 => ?_
      refine Go2.ex fun x12 => ?_
      refine Go2.sat ?_
      refine Go.then_ ?_
      by_cases h13 : o10 = true
      · rw [if_pos h13] at hm
        refine W.cond_f rfl (not_f h13) ?_
        refine W.skip ?_
        refine Go.then_ ?_
        refine W.seq ?_
        obtain ⟨o14, h15, hm⟩ := of_bind hm
        obtain ⟨o17, h18, hm⟩ := of_bind hm
        refine W.join1 (fun a w => ∃ x16 : Unit, ∃ x19 : Value, ∃ b20 : Nat, Sat G ((bx b20 (e_S_Square.cells o17.1)) :: (slT (Enc.int .i64) x19 o17.2) :: (bx b2 (e_S_Square.cells z_S_Square)) :: (bx b1 (e_S_Square.cells p0)) :: F) 32 [(4, (.pointer (some ⟨b2, 0, none⟩))), (5, (.slice none 0 0)), (6, (.int .i64 0)), (8, (.pointer (some ⟨b20, 0, none⟩))), (9, x19)] a w) ?_ ?_
        · refine W.draw (n := 10) ((bx b2 (e_S_Square.cells z_S_Square)) :: (bx b1 (e_S_Square.cells p0)) :: F) F 10 (by kernel_rfl) rfl rfl (fun w hw => hw) (fun w hw => hw.drop 2) ?_
          refine WK.q (i := 0) rfl rfl (by kernel_rfl) calm_n (R.load rfl (At.bx 1 rfl (Sub.refl _)) (lies_agg e_S_Square p0 ia29 sz29)) rfl rfl ?_
          refine WK.q (i := 1) rfl rfl (by kernel_rfl) calm_n (R.move rfl) rfl rfl ?_
          refine WK.among (is := [2, 7]) (by kernel_rfl) rfl ?_
          refine WKa.x rfl (R.call rfl en18 (impl_setOf_tr q1 p1 (RdT.lift 2 rfl hp1) h15)) (fun _ w hw => hw) (fun _ _ _ w hw => hw.reord [] 2 rfl) rfl rfl (by kernel_rfl) (fun x16 => ?_) ?_
          · refine WK.among (is := [3, 7]) (by kernel_rfl) rfl ?_
            refine WKa.x rfl (R.call rfl en19 (impl_Square_quotient_tr hg1 p0 o14 h18)) (fun _ w hw => hw.reord [1, 2] 3 rfl) (fun _ _ _ w hw => hw.reord [] 3 rfl) rfl rfl (by kernel_rfl) (fun x19 => ?_) ?_
            · refine WK.q (i := 4) rfl rfl (by kernel_rfl) calm_n (R.move rfl) rfl rfl ?_
              refine WK.q (i := 5) rfl rfl (by kernel_rfl) calm_n (R.extract rfl rfl) rfl rfl ?_
              refine WK.q (i := 6) rfl rfl (by kernel_rfl) calm_n (R.extract rfl rfl) rfl rfl ?_
              refine WK.x (i := 7) (by kernel_rfl) rfl (al29) (fun _ w hw => hw.reord [2, 3] 4 rfl) (fun _ _ _ w hw => hw.reord [] 4 rfl) rfl rfl (by kernel_rfl) fun b20 => ?_
              refine WK.x0 (i := 8) (by kernel_rfl) rfl (R.store_bx (i := 0) rfl rfl rfl (fits_agg e_S_Square o17.1 sz29) (Up.all e_S_Square _ _)) (fun _ w hw => hw.reord [2, 3] 4 rfl) (fun _ _ _ w hw => hw.reord [] 4 rfl) rfl (by kernel_rfl) fun _ => ?_
              refine WK.x (i := 9) (by kernel_rfl) rfl (OpV.x (R.assign rfl)) (fun _ w hw => hw.reord [2, 3] 4 rfl) (fun _ _ _ w hw => hw.reord [] 4 rfl) rfl rfl (by kernel_rfl) fun _ => ?_
              refine WK.nil (by kernel_rfl) ?_
              exact fun a w s => And.intro rfl (Exists.intro x16 (Exists.intro x19 (Exists.intro b20 (Sat.mk (s.env.le ⟨rfl, rfl, rfl, rfl, rfl, trivial⟩) (s.mem)))))
            refine WKa.x rfl (al29) (fun _ w hw => hw.reord [1, 2] 3 rfl) (fun _ _ _ w hw => hw.reord [] 3 rfl) rfl rfl (by kernel_rfl) (fun b20 => ?_) ?_
            · refine WK.x (i := 3) (by kernel_rfl) rfl (R.call rfl en19 (impl_Square_quotient_tr hg1 p0 o14 h18)) (fun _ w hw => hw.reord [2, 3] 4 rfl) (fun _ _ _ w hw => hw.reord [] 4 rfl) rfl rfl (by kernel_rfl) fun x19 => ?_
              refine WK.x (i := 4) (by kernel_rfl) rfl (OpV.x (R.move rfl)) (fun _ w hw => hw.reord [2, 3] 4 rfl) (fun _ _ _ w hw => hw.reord [] 4 rfl) rfl rfl (by kernel_rfl) fun _ => ?_
              refine WK.q (i := 5) rfl rfl (by kernel_rfl) calm_n (R.extract rfl rfl) rfl rfl ?_
              refine WK.q (i := 6) rfl rfl (by kernel_rfl) calm_n (R.extract rfl rfl) rfl rfl ?_
              refine WK.x0 (i := 8) (by kernel_rfl) rfl (R.store_bx (i := 1) rfl rfl rfl (fits_agg e_S_Square o17.1 sz29) (Up.all e_S_Square _ _)) (fun _ w hw => hw.reord [2, 3] 4 rfl) (fun _ _ _ w hw => hw.reord [] 4 rfl) rfl (by kernel_rfl) fun _ => ?_
              refine WK.x (i := 9) (by kernel_rfl) rfl (OpV.x (R.assign rfl)) (fun _ w hw => hw.reord [2, 3] 4 rfl) (fun _ _ _ w hw => hw.reord [] 4 rfl) rfl rfl (by kernel_rfl) fun _ => ?_
              refine WK.nil (by kernel_rfl) ?_
              exact fun a w s => And.intro rfl (Exists.intro x16 (Exists.intro x19 (Exists.intro b20 (Sat.mk (s.env.le ⟨rfl, rfl, rfl, rfl, rfl, trivial⟩) (s.mem.reord [1, 0, 2, 3] 4 rfl)))))
            exact WKa.nil
          refine WKa.x rfl (al29) (fun _ w hw => hw.reord [1, 2] 3 rfl) (fun _ _ _ w hw => hw.reord [] 3 rfl) rfl rfl (by kernel_rfl) (fun b20 => ?_) ?_
          · refine WK.x (i := 2) (by kernel_rfl) rfl (R.call rfl en18 (impl_setOf_tr q1 p1 (RdT.lift 3 rfl hp1) h15)) (fun _ w hw => hw.reord [1, 2] 3 rfl) (fun _ _ _ w hw => hw.reord [] 3 rfl) rfl rfl (by kernel_rfl) fun x16 => ?_
            refine WK.x (i := 3) (by kernel_rfl) rfl (R.call rfl en19 (impl_Square_quotient_tr hg1 p0 o14 h18)) (fun _ w hw => hw.reord [2, 3] 4 rfl) (fun _ _ _ w hw => hw.reord [] 4 rfl) rfl rfl (by kernel_rfl) fun x19 => ?_
            refine WK.x (i := 4) (by kernel_rfl) rfl (OpV.x (R.move rfl)) (fun _ w hw => hw.reord [2, 3] 4 rfl) (fun _ _ _ w hw => hw.reord [] 4 rfl) rfl rfl (by kernel_rfl) fun _ => ?_
            refine WK.q (i := 5) rfl rfl (by kernel_rfl) calm_n (R.extract rfl rfl) rfl rfl ?_
            refine WK.q (i := 6) rfl rfl (by kernel_rfl) calm_n (R.extract rfl rfl) rfl rfl ?_
            refine WK.x0 (i := 8) (by kernel_rfl) rfl (R.store_bx (i := 1) rfl rfl rfl (fits_agg e_S_Square o17.1 sz29) (Up.all e_S_Square _ _)) (fun _ w hw => hw.reord [2, 3] 4 rfl) (fun _ _ _ w hw => hw.reord [] 4 rfl) rfl (by kernel_rfl) fun _ => ?_
            refine WK.x (i := 9) (by kernel_rfl) rfl (OpV.x (R.assign rfl)) (fun _ w hw => hw.reord [2, 3] 4 rfl) (fun _ _ _ w hw => hw.reord [] 4 rfl) rfl rfl (by kernel_rfl) fun _ => ?_
            refine WK.nil (by kernel_rfl) ?_
            exact fun a w s => And.intro rfl (Exists.intro x16 (Exists.intro x19 (Exists.intro b20 (Sat.mk (s.env.le ⟨rfl, rfl, rfl, rfl, rfl, trivial⟩) (s.mem.reord [1, 0, 2, 3] 4 rfl)))))
          exact WKa.nil
        · refine Go2.ex fun x16 => ?_
          refine Go2.ex fun x19 => ?_
          refine Go2.ex fun b20 => ?_
          refine Go2.sat ?_
          refine Go.then_ ?_
          refine W.seq ?_
          refine W.region ?_
          refine WL.q (R.load rfl (At.bx 0 rfl (Sub.refl _)) (lies_agg e_S_Square o17.1 ia29 sz29)) rfl ?_
          refine WL.q (R.move rfl) rfl ?_
          refine WL.x0 (R.store_bx (i := 2) rfl rfl rfl (fits_agg e_S_Square o17.1 sz29) (Up.all e_S_Square _ _)) fun _ => ?_
          refine WL.q (R.assign rfl) rfl ?_
          refine WL.q (R.assign rfl) rfl ?_
          refine WL.nil ?_
          refine Go.then_ ?_
          refine W.ret ?_
          have he := Option.some.inj hm
          clear hm
          subst r
          exact Go.ret3 rfl (.cell rfl (At.bx 2 rfl (Sub.refl _)) (lies_agg e_S_Square o17.1 ia29 sz29)) (.tmp rfl) (.tmp rfl) (fun w hw => ⟨_, rfl, _, ⟨x19, rfl, rfl⟩, hw.reord [1] 4 rfl⟩)
      · rw [if_neg h13] at hm
        refine W.cond_t rfl (not_t (b_f h13)) ?_
        refine W.seq ?_
        refine W.region ?_
        refine WL.q (bz29 rfl) rfl ?_
        refine WL.x0 (R.store_bx (i := 0) rfl rfl rfl (fits_agg e_S_Square z_S_Square sz29) (Up.all e_S_Square _ _)) fun _ => ?_
        refine WL.q (R.assign rfl) rfl ?_
        refine WL.q (R.assign rfl) rfl ?_
        refine WL.nil ?_
        refine Go.then_ ?_
        refine W.ret ?_
        refine Go.r_then ?_
        have he := Option.some.inj hm
        clear hm
        subst r
        exact Go.ret3 rfl (.cell rfl (At.bx 0 rfl (Sub.refl _)) (lies_agg e_S_Square z_S_Square ia29 sz29)) (.tmp rfl) (.tmp rfl) (fun w hw => ⟨_, rfl, _, ⟨(.slice none 0 0), rfl, rfl⟩, (hw.addNil (Enc.int .i64)).reord [0] 3 rfl⟩)
set_option maxRecDepth 100000 in
theorem laws_eqByteA10_tr {G : World} {F : List Res} (p0 : (Vector Int 10)) (p1 : (Vector Int 10)) {r : Bool} (hm : laws_eqByteA10 p0 p1 = some r) : Tr Tryd.prog G 35 [(.agg (((Enc.int .u8).arr 10).cells p0).toArray), (.agg (((Enc.int .u8).arr 10).cells p1).toArray)] F (fun u K => ∃ x : Unit, u = (.bool r) ∧ K = F) := by
  unfold laws_eqByteA10 at hm
  refine Tr.body Tryd.func35 rfl Tryd.ntmps35 ?_
  refine W.seq ?_
  refine W.region ?_
  refine WL.x (R.box rfl (cells_agg _)) rfl fun b1 => ?_
  refine WL.x (R.box rfl (cells_agg _)) rfl fun b2 => ?_
  refine WL.q (R.assign rfl) rfl ?_
  refine WL.nil ?_
  refine Go.then_ ?_
  refine W.seq ?_
  refine W.seq ?_
  refine W.region ?_
  refine WL.q (R.assign rfl) rfl ?_
  refine WL.nil ?_
  refine Go.then_ ?_
  refine W.block ?_
  obtain ⟨o4, hlo4, hm⟩ := of_bind hm
  refine W.loopx (fun (s3 : Int) a w => Sat G ((bx b2 (((Enc.int .u8).arr 10).cells p1)) :: (bx b1 (((Enc.int .u8).arr 10).cells p0)) :: F) 17 [(2, (.pointer (some ⟨b1, 0, none⟩))), (3, (.pointer (some ⟨b2, 0, none⟩))), (4, (.bool false)), (5, (.int .i64 s3))] a w) (fun (o4 : ((Unit) ⊕ (Unit))) e a w => (Sum.elim (fun o4 => And (e = (.exit 0)) (Sat G F 17 [(4, (.bool false))] a w)) (fun o4 => And (e = .ret) (Sat G F 17 [(4, (.bool false))] a w))) o4) hlo4 (fun a w s => (Sat.mk (s.env.le ⟨rfl, rfl, rfl, rfl, trivial⟩) (s.mem))) ?_ ?_
  · clear hm
    intro s3 x hm a w hJ
    have s := hJ
    unfold laws_eqByteA10_L1 at hm
    refine W.use s ?_
    refine W.seq ?_
    refine W.seq ?_
    refine W.region ?_
    refine WL.q (R.move rfl) rfl ?_
    refine WL.q (R.lss rfl rfl) rfl ?_
    refine WL.nil ?_
    refine Go.then_ ?_
    by_cases h10 : s3 < 10
    · rw [if_pos h10] at hm
      refine W.cond_t rfl (decide_eq_true h10) ?_
      refine W.skip ?_
      refine Go.then_ ?_
      refine W.seq ?_
      refine W.block ?_
      refine W.seq ?_
      obtain ⟨h11, hm⟩ := of_guard hm
      refine W.join1 (fun a w => Sat G ((bx b2 (((Enc.int .u8).arr 10).cells p1)) :: (bx b1 (((Enc.int .u8).arr 10).cells p0)) :: F) 17 [(2, (.pointer (some ⟨b1, 0, none⟩))), (3, (.pointer (some ⟨b2, 0, none⟩))), (4, (.bool false)), (5, (.int .i64 s3)), (16, (.bool (decide (gv p0 s3 ≠ gv p1 s3))))] a w) ?_ ?_
      · refine W.draw (n := 7) ((bx b2 (((Enc.int .u8).arr 10).cells p1)) :: (bx b1 (((Enc.int .u8).arr 10).cells p0)) :: F) F 7 (by kernel_rfl) rfl rfl (fun w hw => hw) (fun w hw => hw.drop 2) ?_
        refine WK.q (i := 0) rfl rfl (by kernel_rfl) calm_n (R.move rfl) rfl rfl ?_
        refine WK.q (i := 1) rfl rfl (by kernel_rfl) calm_n (R.indexArr rfl rfl un22 sz5 h11.1 h11.2) rfl rfl ?_
        refine WK.q (i := 2) rfl rfl (by kernel_rfl) calm_n (R.load rfl (At.sub (At.bx 1 rfl (Sub.refl _)) (sub_arr (Enc.int .u8) (v := p0) h11.1 h11.2)) (Lies.one _ ia5)) rfl rfl ?_
        refine WK.x (i := 3) (by kernel_rfl) rfl (OpV.x (R.move rfl)) (fun _ w hw => hw) (fun _ _ _ w hw => hw.reord [] 2 rfl) rfl rfl (by kernel_rfl) fun _ => ?_
        refine WK.x (i := 4) (by kernel_rfl) rfl (OpV.x (R.indexArr rfl rfl un22 sz5 h11.1 h11.2)) (fun _ w hw => hw) (fun _ _ _ w hw => hw.reord [] 2 rfl) rfl rfl (by kernel_rfl) fun _ => ?_
        refine WK.x (i := 5) (by kernel_rfl) rfl (OpV.x (R.load rfl (At.sub (At.bx 0 rfl (Sub.refl _)) (sub_arr (Enc.int .u8) (v := p1) h11.1 h11.2)) (Lies.one _ ia5))) (fun _ w hw => hw) (fun _ _ _ w hw => hw.reord [] 2 rfl) rfl rfl (by kernel_rfl) fun _ => ?_
        refine WK.x (i := 6) (by kernel_rfl) rfl (OpV.x (R.neq rfl rfl)) (fun _ w hw => hw) (fun _ _ _ w hw => hw.reord [] 2 rfl) rfl rfl (by kernel_rfl) fun _ => ?_
        refine WK.nil (by kernel_rfl) ?_
        exact fun a w s => And.intro rfl (Sat.mk (s.env.le ⟨rfl, rfl, rfl, rfl, rfl, trivial⟩) (s.mem))
      · refine Go2.sat ?_
        refine Go.then_ ?_
        by_cases h12 : gv p0 s3 ≠ gv p1 s3
        · rw [if_pos h12] at hm
          refine W.cond_t rfl (decide_eq_true h12) ?_
          refine W.seq ?_
          refine W.region ?_
          refine WL.q (R.assign rfl) rfl ?_
          refine WL.nil ?_
          refine Go.then_ ?_
          refine W.ret ?_
          refine Go.r_block ?_
          refine Go.r_then ?_
          have he := Option.some.inj hm
          clear hm
          subst x
          exact fun a w s => Exists.intro _ (And.intro rfl (And.intro rfl (Sat.mk (s.env.le ⟨rfl, trivial⟩) (s.mem.reord [] 2 rfl))))
        · rw [if_neg h12] at hm
          refine W.cond_f rfl (decide_eq_false h12) ?_
          refine W.skip ?_
          refine Go.n_block ?_
          refine Go.then_ ?_
          refine W.region ?_
          refine WL.q (R.move rfl) rfl ?_
          refine WL.q (R.add rfl rfl) rfl ?_
          refine WL.q (R.assign rfl) rfl ?_
          refine WL.nil ?_
          have he := Option.some.inj hm
          clear hm
          subst x
          exact fun a w s => Exists.intro _ (And.intro rfl (Sat.mk (s.env.le ⟨rfl, rfl, rfl, rfl, trivial⟩) (s.mem)))
    · rw [if_neg h10] at hm
      refine W.cond_f rfl (decide_eq_false h10) ?_
      refine W.exit ?_
      refine Go.x_then ?_
      have he := Option.some.inj hm
      clear hm
      subst x
      exact fun a w s => Exists.intro _ (And.intro rfl (And.intro rfl (Sat.mk (s.env.le ⟨rfl, trivial⟩) (s.mem.reord [] 2 rfl))))
  · intro e a w hJ
    rcases o4 with o4 | o4
    · simp only [Sum.elim_inl, Sum.elim_inr] at hm
      obtain ⟨rfl, s⟩ := hJ
      refine Go.use s ?_
      refine Go.x_block ?_
      refine Go.then_ ?_
      refine W.seq ?_
      refine W.region ?_
      refine WL.q (R.assign rfl) rfl ?_
      refine WL.nil ?_
      refine Go.then_ ?_
      refine W.ret ?_
      have he := Option.some.inj hm
      clear hm
      subst r
      exact Go.ret1 rfl (.tmp rfl) (fun w hw => ⟨_, rfl, _, ⟨(), rfl, rfl⟩, hw⟩)
    · simp only [Sum.elim_inl, Sum.elim_inr] at hm
      obtain ⟨rfl, s⟩ := hJ
      refine Go.use s ?_
      refine Go.r_block ?_
      refine Go.r_then ?_
      have he := Option.some.inj hm
      clear hm
      subst r
      exact Go.ret1 rfl (.tmp rfl) (fun w hw => ⟨_, rfl, _, ⟨(), rfl, rfl⟩, hw⟩)
set_option maxRecDepth 100000 in
theorem laws_eqTable_tr {G : World} {F : List Res} (p0 : (Vector (Vector Int 10) 10)) (p1 : (Vector (Vector Int 10) 10)) {r : Bool} (hm : laws_eqTable p0 p1 = some r) : Tr Tryd.prog G 20 [(.agg ((((Enc.int .u8).arr 10).arr 10).cells p0).toArray), (.agg ((((Enc.int .u8).arr 10).arr 10).cells p1).toArray)] F (fun u K => ∃ x : Unit, u = (.bool r) ∧ K = F) := by
  unfold laws_eqTable at hm
  refine Tr.body Tryd.func20 rfl Tryd.ntmps20 ?_
  refine W.seq ?_
  refine W.region ?_
  refine WL.x (R.box rfl (cells_agg _)) rfl fun b1 => ?_
  refine WL.x (R.box rfl (cells_agg _)) rfl fun b2 => ?_
  refine WL.q (R.assign rfl) rfl ?_
  refine WL.nil ?_
  refine Go.then_ ?_
  refine W.seq ?_
  refine W.seq ?_
  refine W.region ?_
  refine WL.q (R.assign rfl) rfl ?_
  refine WL.nil ?_
  refine Go.then_ ?_
  refine W.block ?_
  obtain ⟨o4, hlo4, hm⟩ := of_bind hm
  refine W.loopx (fun (s3 : Int) a w => Sat G ((bx b2 ((((Enc.int .u8).arr 10).arr 10).cells p1)) :: (bx b1 ((((Enc.int .u8).arr 10).arr 10).cells p0)) :: F) 18 [(2, (.pointer (some ⟨b1, 0, none⟩))), (3, (.pointer (some ⟨b2, 0, none⟩))), (4, (.bool false)), (5, (.int .i64 s3))] a w) (fun (o4 : ((Unit) ⊕ (Unit))) e a w => (Sum.elim (fun o4 => And (e = (.exit 0)) (Sat G F 18 [(4, (.bool false))] a w)) (fun o4 => And (e = .ret) (Sat G F 18 [(4, (.bool false))] a w))) o4) hlo4 (fun a w s => (Sat.mk (s.env.le ⟨rfl, rfl, rfl, rfl, trivial⟩) (s.mem))) ?_ ?_
  · clear hm
    intro s3 x hm a w hJ
    have s := hJ
    unfold laws_eqTable_L1 at hm
    refine W.use s ?_
    refine W.seq ?_
    refine W.seq ?_
    refine W.region ?_
    refine WL.q (R.move rfl) rfl ?_
    refine WL.q (R.lss rfl rfl) rfl ?_
    refine WL.nil ?_
    refine Go.then_ ?_
    by_cases h16 : s3 < 10
    · rw [if_pos h16] at hm
      refine W.cond_t rfl (decide_eq_true h16) ?_
      refine W.skip ?_
      refine Go.then_ ?_
      refine W.seq ?_
      refine W.block ?_
      refine W.seq ?_
      obtain ⟨h17, hm⟩ := of_guard hm
      obtain ⟨o18, h19, hm⟩ := of_bind hm
      refine W.join1 (fun a w => ∃ x20 : Unit, Sat G ((bx b2 ((((Enc.int .u8).arr 10).arr 10).cells p1)) :: (bx b1 ((((Enc.int .u8).arr 10).arr 10).cells p0)) :: F) 18 [(2, (.pointer (some ⟨b1, 0, none⟩))), (3, (.pointer (some ⟨b2, 0, none⟩))), (4, (.bool false)), (5, (.int .i64 s3)), (17, (.bool (!o18)))] a w) ?_ ?_
      · refine W.draw (n := 8) ((bx b2 ((((Enc.int .u8).arr 10).arr 10).cells p1)) :: (bx b1 ((((Enc.int .u8).arr 10).arr 10).cells p0)) :: F) F 8 (by kernel_rfl) rfl rfl (fun w hw => hw) (fun w hw => hw.drop 2) ?_
        refine WK.q (i := 0) rfl rfl (by kernel_rfl) calm_n (R.move rfl) rfl rfl ?_
        refine WK.q (i := 1) rfl rfl (by kernel_rfl) calm_n (R.indexArr rfl rfl un27 sz22 h17.1 h17.2) rfl rfl ?_
        refine WK.q (i := 2) rfl rfl (by kernel_rfl) calm_n (R.load rfl (At.sub (At.bx 1 rfl (Sub.refl _)) (sub_arr ((Enc.int .u8).arr 10) (v := p0) h17.1 h17.2)) (lies_agg ((Enc.int .u8).arr 10) (gv p0 s3) ia22 sz22)) rfl rfl ?_
        refine WK.x (i := 3) (by kernel_rfl) rfl (OpV.x (R.move rfl)) (fun _ w hw => hw) (fun _ _ _ w hw => hw.reord [] 2 rfl) rfl rfl (by kernel_rfl) fun _ => ?_
        refine WK.x (i := 4) (by kernel_rfl) rfl (OpV.x (R.indexArr rfl rfl un27 sz22 h17.1 h17.2)) (fun _ w hw => hw) (fun _ _ _ w hw => hw.reord [] 2 rfl) rfl rfl (by kernel_rfl) fun _ => ?_
        refine WK.x (i := 5) (by kernel_rfl) rfl (OpV.x (R.load rfl (At.sub (At.bx 0 rfl (Sub.refl _)) (sub_arr ((Enc.int .u8).arr 10) (v := p1) h17.1 h17.2)) (lies_agg ((Enc.int .u8).arr 10) (gv p1 s3) ia22 sz22))) (fun _ w hw => hw) (fun _ _ _ w hw => hw.reord [] 2 rfl) rfl rfl (by kernel_rfl) fun _ => ?_
        refine WK.x (i := 6) (by kernel_rfl) rfl (R.call rfl en35 (laws_eqByteA10_tr (gv p0 s3) (gv p1 s3) h19)) (fun _ w hw => hw) (fun _ _ _ w hw => hw.reord [] 2 rfl) rfl rfl (by kernel_rfl) fun x20 => ?_
        refine WK.x (i := 7) (by kernel_rfl) rfl (OpV.x (R.not rfl)) (fun _ w hw => hw) (fun _ _ _ w hw => hw.reord [] 2 rfl) rfl rfl (by kernel_rfl) fun _ => ?_
        refine WK.nil (by kernel_rfl) ?_
        exact fun a w s => And.intro rfl (Exists.intro x20 (Sat.mk (s.env.le ⟨rfl, rfl, rfl, rfl, rfl, trivial⟩) (s.mem)))
      · refine Go2.ex fun x20 => ?_
        refine Go2.sat ?_
        refine Go.then_ ?_
        by_cases h21 : o18 = true
        · rw [if_pos h21] at hm
          refine W.cond_f rfl (not_f h21) ?_
          refine W.skip ?_
          refine Go.n_block ?_
          refine Go.then_ ?_
          refine W.region ?_
          refine WL.q (R.move rfl) rfl ?_
          refine WL.q (R.add rfl rfl) rfl ?_
          refine WL.q (R.assign rfl) rfl ?_
          refine WL.nil ?_
          have he := Option.some.inj hm
          clear hm
          subst x
          exact fun a w s => Exists.intro _ (And.intro rfl (Sat.mk (s.env.le ⟨rfl, rfl, rfl, rfl, trivial⟩) (s.mem)))
        · rw [if_neg h21] at hm
          refine W.cond_t rfl (not_t (b_f h21)) ?_
          refine W.seq ?_
          refine W.region ?_
          refine WL.q (R.assign rfl) rfl ?_
          refine WL.nil ?_
          refine Go.then_ ?_
          refine W.ret ?_
          refine Go.r_block ?_
          refine Go.r_then ?_
          have he := Option.some.inj hm
          clear hm
          subst x
          exact fun a w s => Exists.intro _ (And.intro rfl (And.intro rfl (Sat.mk (s.env.le ⟨rfl, trivial⟩) (s.mem.reord [] 2 rfl))))
    · rw [if_neg h16] at hm
      refine W.cond_f rfl (decide_eq_false h16) ?_
      refine W.exit ?_
      refine Go.x_then ?_
      have he := Option.some.inj hm
      clear hm
      subst x
      exact fun a w s => Exists.intro _ (And.intro rfl (And.intro rfl (Sat.mk (s.env.le ⟨rfl, trivial⟩) (s.mem.reord [] 2 rfl))))
  · intro e a w hJ
    rcases o4 with o4 | o4
    · simp only [Sum.elim_inl, Sum.elim_inr] at hm
      obtain ⟨rfl, s⟩ := hJ
      refine Go.use s ?_
      refine Go.x_block ?_
      refine Go.then_ ?_
      refine W.seq ?_
      refine W.region ?_
      refine WL.q (R.assign rfl) rfl ?_
      refine WL.nil ?_
      refine Go.then_ ?_
      refine W.ret ?_
      have he := Option.some.inj hm
      clear hm
      subst r
      exact Go.ret1 rfl (.tmp rfl) (fun w hw => ⟨_, rfl, _, ⟨(), rfl, rfl⟩, hw⟩)
    · simp only [Sum.elim_inl, Sum.elim_inr] at hm
      obtain ⟨rfl, s⟩ := hJ
      refine Go.use s ?_
      refine Go.r_block ?_
      refine Go.r_then ?_
      have he := Option.some.inj hm
      clear hm
      subst r
      exact Go.ret1 rfl (.tmp rfl) (fun w hw => ⟨_, rfl, _, ⟨(), rfl, rfl⟩, hw⟩)
set_option maxRecDepth 100000 in
theorem laws_eqSquare_tr {G : World} {F : List Res} (p0 : S_Square) (p1 : S_Square) {r : Bool} (hm : laws_eqSquare p0 p1 = some r) : Tr Tryd.prog G 8 [(.agg (e_S_Square.cells p0).toArray), (.agg (e_S_Square.cells p1).toArray)] F (fun u K => ∃ x : Unit, u = (.bool r) ∧ K = F) := by
  unfold laws_eqSquare at hm
  refine Tr.body Tryd.func8 rfl Tryd.ntmps8 ?_
  refine W.seq ?_
  refine W.region ?_
  refine WL.x (R.box rfl (cells_agg _)) rfl fun b1 => ?_
  refine WL.x (R.box rfl (cells_agg _)) rfl fun b2 => ?_
  refine WL.q (R.assign rfl) rfl ?_
  refine WL.nil ?_
  refine Go.then_ ?_
  refine W.seq ?_
  refine W.seq ?_
  refine W.region ?_
  refine WL.q (R.fieldAddr rfl fa29_0) rfl ?_
  refine WL.q (R.load rfl (At.sub (At.bx 1 rfl (Sub.refl _)) (e_S_Square_s0 p0)) (Lies.one _ ia2)) rfl ?_
  refine WL.q (R.fieldAddr rfl fa29_0) rfl ?_
  refine WL.q (R.load rfl (At.sub (At.bx 0 rfl (Sub.refl _)) (e_S_Square_s0 p1)) (Lies.one _ ia2)) rfl ?_
  refine WL.q (R.neq rfl rfl) rfl ?_
  refine WL.nil ?_
  refine Go.then_ ?_
  by_cases h3 : p0.Order ≠ p1.Order
  · rw [if_pos h3] at hm
    refine W.cond_t rfl (decide_eq_true h3) ?_
    refine W.seq ?_
    refine W.region ?_
    refine WL.q (R.assign rfl) rfl ?_
    refine WL.nil ?_
    refine Go.then_ ?_
    refine W.ret ?_
    refine Go.r_then ?_
    have he := Option.some.inj hm
    clear hm
    subst r
    exact Go.ret1 rfl (.tmp rfl) (fun w hw => ⟨_, rfl, _, ⟨(), rfl, rfl⟩, hw.reord [] 2 rfl⟩)
  · rw [if_neg h3] at hm
    refine W.cond_f rfl (decide_eq_false h3) ?_
    refine W.skip ?_
    refine Go.then_ ?_
    refine W.seq ?_
    refine W.seq ?_
    refine W.region ?_
    refine WL.q (R.fieldAddr rfl fa29_1) rfl ?_
    refine WL.q (R.load rfl (At.sub (At.bx 1 rfl (Sub.refl _)) (e_S_Square_s1 p0)) (lies_agg (((Enc.int .u8).arr 10).arr 10) p0.Table ia27 sz27)) rfl ?_
    refine WL.q (R.fieldAddr rfl fa29_1) rfl ?_
    refine WL.q (R.load rfl (At.sub (At.bx 0 rfl (Sub.refl _)) (e_S_Square_s1 p1)) (lies_agg (((Enc.int .u8).arr 10).arr 10) p1.Table ia27 sz27)) rfl ?_
    obtain ⟨o4, h5, hm⟩ := of_bind hm
    refine WL.x (R.call rfl en20 (laws_eqTable_tr p0.Table p1.Table h5)) rfl fun x6 => ?_
    refine WL.q (R.not rfl) rfl ?_
    refine WL.nil ?_
    refine Go.then_ ?_
    by_cases h7 : o4 = true
    · rw [if_pos h7] at hm
      refine W.cond_f rfl (not_f h7) ?_
      refine W.skip ?_
      refine Go.then_ ?_
      refine W.seq ?_
      refine W.region ?_
      refine WL.q (R.assign rfl) rfl ?_
      refine WL.nil ?_
      refine Go.then_ ?_
      refine W.ret ?_
      have he := Option.some.inj hm
      clear hm
      subst r
      exact Go.ret1 rfl (.tmp rfl) (fun w hw => ⟨_, rfl, _, ⟨(), rfl, rfl⟩, hw.reord [] 2 rfl⟩)
    · rw [if_neg h7] at hm
      refine W.cond_t rfl (not_t (b_f h7)) ?_
      refine W.seq ?_
      refine W.region ?_
      refine WL.q (R.assign rfl) rfl ?_
      refine WL.nil ?_
      refine Go.then_ ?_
      refine W.ret ?_
      refine Go.r_then ?_
      have he := Option.some.inj hm
      clear hm
      subst r
      exact Go.ret1 rfl (.tmp rfl) (fun w hw => ⟨_, rfl, _, ⟨(), rfl, rfl⟩, hw.reord [] 2 rfl⟩)
end Go.Proofs.YtppjhbjcemnfmaaDoor
