/- Printed by a program of the claim's own: the walks: what the machine's calls answer is what the plain functions answer. No condition. -/
import Derived.Test.YtekmmbgbhjeoaaaZT
set_option linter.unusedVariables false
set_option linter.unusedSimpArgs false
namespace Go.Proofs.Ytekmmbgbhjeoaaa
open Go Go.Sx Go.Mi
set_option maxRecDepth 100000 in
theorem spec_l01In_tr {G : World} {F : List Res} (p0 : Int) (p1 : Int) (p2 : Int) {r : Bool} (hm : spec_l01In p0 p1 p2 = some r) : Tr Try.prog G 31 [(.int .i64 p0), (.int .i64 p1), (.int .i64 p2)] F (fun u K => ∃ x : Unit, u = (.bool r) ∧ K = F) := by
  unfold spec_l01In at hm
  refine Tr.body Try.func31 rfl Try.ntmps31 ?_
  refine W.seq ?_
  refine W.region ?_
  refine WL.q (R.assign rfl) rfl ?_
  refine WL.nil ?_
  refine Go.then_ ?_
  obtain ⟨o2, hm, hmo2⟩ := of_bind hm
  refine W.seq ?_
  refine W.join (fun e a w => And (e = .normal) (Sat G F 15 [(6, (.bool o2))] a w)) ?_ ?_
  · refine W.region ?_
    refine WL.q (R.move rfl) rfl ?_
    refine WL.q (R.move rfl) rfl ?_
    refine WL.q (R.geq rfl rfl) rfl ?_
    refine WL.q (R.move rfl) rfl ?_
    by_cases h1 : p1 ≤ p0
    · rw [if_pos h1] at hm
      refine WL.on rfl rfl (decide_eq_true h1) ?_
      refine WL.q (R.move rfl) rfl ?_
      refine WL.on rfl rfl (decide_eq_true h1) ?_
      refine WL.q (R.move rfl) rfl ?_
      refine WL.on rfl rfl (decide_eq_true h1) ?_
      refine WL.q (R.leq rfl rfl) rfl ?_
      refine WL.q (R.pick_t rfl (decide_eq_true h1) rfl) rfl ?_
      refine WL.q (R.assign rfl) rfl ?_
      refine WL.nil ?_
      have he := Option.some.inj hm
      clear hm
      subst o2
      exact fun a w s => And.intro rfl (Sat.mk (s.env.le ⟨rfl, trivial⟩) (s.mem))
    · rw [if_neg h1] at hm
      refine WL.off rfl rfl (decide_eq_false h1) rfl ?_
      refine WL.off rfl rfl (decide_eq_false h1) rfl ?_
      refine WL.off rfl rfl (decide_eq_false h1) rfl ?_
      refine WL.q (R.pick_f rfl (decide_eq_false h1) rfl) rfl ?_
      refine WL.q (R.assign rfl) rfl ?_
      refine WL.nil ?_
      have he := Option.some.inj hm
      clear hm
      subst o2
      exact fun a w s => And.intro rfl (Sat.mk (s.env.le ⟨rfl, trivial⟩) (s.mem))
  · intro e a w hJ
    replace hm := hmo2
    clear hmo2
    obtain ⟨rfl, s⟩ := hJ
    refine Go.use s ?_
    refine Go.then_ ?_
    refine W.ret ?_
    have he := Option.some.inj hm
    clear hm
    subst r
    exact Go.ret1 rfl (.tmp rfl) (fun w hw => ⟨_, rfl, _, ⟨(), rfl, rfl⟩, hw⟩)
set_option maxRecDepth 100000 in
theorem spec_l01Perm_tr {G : World} {F : List Res} (p0 : (Vector Int 10)) (p1 : Int) {r : Bool} (hm : spec_l01Perm p0 p1 = some r) : Tr Try.prog G 47 [(.agg (((Enc.int .u8).arr 10).cells p0).toArray), (.int .i64 p1)] F (fun u K => ∃ x : Unit, u = (.bool r) ∧ K = F) := by
  unfold spec_l01Perm at hm
  refine Tr.body Try.func47 rfl Try.ntmps47 ?_
  refine W.seq ?_
  refine W.region ?_
  refine WL.x (R.box rfl (cells_agg _)) rfl fun b1 => ?_
  refine WL.q (R.assign rfl) rfl ?_
  refine WL.nil ?_
  refine Go.then_ ?_
  refine W.seq ?_
  refine W.seq ?_
  refine W.region ?_
  refine WL.q (R.move rfl) rfl ?_
  obtain ⟨o2, h3, hm⟩ := of_bind hm
  refine WL.x (R.call rfl en31 (spec_l01In_tr p1 1 10 h3)) rfl fun x4 => ?_
  refine WL.q (R.not rfl) rfl ?_
  refine WL.nil ?_
  refine Go.then_ ?_
  by_cases h5 : o2 = true
  · rw [if_pos h5] at hm
    refine W.cond_f rfl (not_f h5) ?_
    refine W.skip ?_
    refine Go.then_ ?_
    refine W.seq ?_
    refine W.region ?_
    refine WL.q (bz71 rfl) rfl ?_
    refine WL.x (al71) rfl fun b6 => ?_
    refine WL.x0 (R.store_bx (i := 0) rfl rfl rfl (fits_agg (Enc.bool.arr 10) (Vector.replicate 10 false) sz71) (Up.all (Enc.bool.arr 10) _ _)) fun _ => ?_
    refine WL.nil ?_
    refine Go.then_ ?_
    refine W.seq ?_
    refine W.seq ?_
    refine W.region ?_
    refine WL.q (R.assign rfl) rfl ?_
    refine WL.nil ?_
    refine Go.then_ ?_
    refine W.block ?_
    obtain ⟨o8, hlo8, hm⟩ := of_bind hm
    refine W.loopx (fun (s7 : ((Vector Bool 10) × Int)) a w => Sat G ((bx b6 ((Enc.bool.arr 10).cells s7.1)) :: (bx b1 (((Enc.int .u8).arr 10).cells p0)) :: F) 41 [(1, (.int .i64 p1)), (2, (.pointer (some ⟨b1, 0, none⟩))), (4, (.bool false)), (5, (.pointer (some ⟨b6, 0, none⟩))), (6, (.int .i64 s7.2))] a w) (fun (o8 : ((Unit) ⊕ (Unit))) e a w => (Sum.elim (fun o8 => And (e = (.exit 0)) (Sat G F 41 [(4, (.bool false))] a w)) (fun o8 => And (e = .ret) (Sat G F 41 [(4, (.bool false))] a w))) o8) hlo8 (fun a w s => (Sat.mk (s.env.le ⟨rfl, rfl, rfl, rfl, rfl, trivial⟩) (s.mem))) ?_ ?_
    · clear hm
      intro s7 x hm a w hJ
      have s := hJ
      unfold spec_l01Perm_L1 at hm
      refine W.use s ?_
      refine W.seq ?_
      refine W.seq ?_
      refine W.region ?_
      refine WL.q (R.move rfl) rfl ?_
      refine WL.q (R.lss rfl rfl) rfl ?_
      refine WL.nil ?_
      refine Go.then_ ?_
      by_cases h30 : s7.2 < 10
      · rw [if_pos h30] at hm
        refine W.cond_t rfl (decide_eq_true h30) ?_
        refine W.skip ?_
        refine Go.then_ ?_
        obtain ⟨o41, hm, hmo41⟩ := of_bind hm
        refine W.seq ?_
        refine W.join (fun e a w => (Sum.elim (fun o41 => And (e = .normal) (Sat G ((bx b6 ((Enc.bool.arr 10).cells o41)) :: (bx b1 (((Enc.int .u8).arr 10).cells p0)) :: F) 41 [(1, (.int .i64 p1)), (2, (.pointer (some ⟨b1, 0, none⟩))), (4, (.bool false)), (5, (.pointer (some ⟨b6, 0, none⟩))), (6, (.int .i64 s7.2))] a w)) (fun o41 => And (e = .ret) (Sat G F 41 [(4, (.bool false))] a w))) o41) ?_ ?_
        · refine W.block ?_
          refine W.block ?_
          refine W.seq ?_
          refine W.region ?_
          refine WL.q (R.move rfl) rfl ?_
          refine WL.q (R.move rfl) rfl ?_
          refine WL.q (R.geq rfl rfl) rfl ?_
          refine WL.q (R.assign rfl) rfl ?_
          refine WL.nil ?_
          refine Go.then_ ?_
          by_cases h31 : p1 ≤ s7.2
          · rw [if_pos h31] at hm
            refine W.cond_t rfl (decide_eq_true h31) ?_
            refine W.seq ?_
            refine W.region ?_
            refine WL.q (R.move rfl) rfl ?_
            obtain ⟨h32, hm⟩ := of_guard hm
            refine WL.q (R.indexArr rfl rfl un70 sz5 h32.1 h32.2) rfl ?_
            refine WL.q (R.load rfl (At.sub (At.bx 1 rfl (Sub.refl _)) (sub_arr (Enc.int .u8) (v := p0) h32.1 h32.2)) (Lies.one _ ia5)) rfl ?_
            refine WL.q (R.neq rfl rfl) rfl ?_
            refine WL.nil ?_
            refine Go.then_ ?_
            by_cases h33 : gv p0 s7.2 ≠ 0
            · rw [if_pos h33] at hm
              refine W.cond_t rfl (decide_eq_true h33) ?_
              refine W.seq ?_
              refine W.region ?_
              refine WL.q (R.assign rfl) rfl ?_
              refine WL.nil ?_
              refine Go.then_ ?_
              refine W.ret ?_
              refine Go.r_block ?_
              refine Go.r_block ?_
              have he := Option.some.inj hm
              clear hm
              subst o41
              exact fun a w s => And.intro rfl (Sat.mk (s.env.le ⟨rfl, trivial⟩) (s.mem.reord [] 2 rfl))
            · rw [if_neg h33] at hm
              refine W.cond_f rfl (decide_eq_false h33) ?_
              refine W.skip ?_
              refine Go.n_block ?_
              refine Go.n_block ?_
              have he := Option.some.inj hm
              clear hm
              subst o41
              exact fun a w s => And.intro rfl (Sat.mk (s.env.le ⟨rfl, rfl, rfl, rfl, rfl, trivial⟩) (s.mem))
          · rw [if_neg h31] at hm
            refine W.cond_f rfl (decide_eq_false h31) ?_
            obtain ⟨o37, hm, hmo37⟩ := of_bind hm
            refine W.seq ?_
            refine W.join (fun e a w => And (e = .normal) (Sat G ((bx b6 ((Enc.bool.arr 10).cells s7.1)) :: (bx b1 (((Enc.int .u8).arr 10).cells p0)) :: F) 41 [(1, (.int .i64 p1)), (2, (.pointer (some ⟨b1, 0, none⟩))), (4, (.bool false)), (5, (.pointer (some ⟨b6, 0, none⟩))), (6, (.int .i64 s7.2)), (27, (.bool o37))] a w)) ?_ ?_
            · refine W.region ?_
              refine WL.q (R.move rfl) rfl ?_
              obtain ⟨h34, hm⟩ := of_guard hm
              refine WL.q (R.indexArr rfl rfl un70 sz5 h34.1 h34.2) rfl ?_
              refine WL.q (R.load rfl (At.sub (At.bx 1 rfl (Sub.refl _)) (sub_arr (Enc.int .u8) (v := p0) h34.1 h34.2)) (Lies.one _ ia5)) rfl ?_
              refine WL.q (R.conv rfl un2 us5) rfl ?_
              refine WL.q (R.move rfl) rfl ?_
              refine WL.q (R.geq rfl rfl) rfl ?_
              refine WL.q (R.move rfl) rfl ?_
              by_cases h35 : p1 ≤ IntKind.i64.wrap (gv p0 s7.2)
              · rw [if_pos h35] at hm
                refine WL.off rfl rfl (decide_eq_true h35) rfl ?_
                refine WL.off rfl rfl (decide_eq_true h35) rfl ?_
                refine WL.off rfl rfl (decide_eq_true h35) rfl ?_
                refine WL.off rfl rfl (decide_eq_true h35) rfl ?_
                refine WL.off rfl rfl (decide_eq_true h35) rfl ?_
                refine WL.q (R.pick_t rfl (decide_eq_true h35) rfl) rfl ?_
                refine WL.q (R.assign rfl) rfl ?_
                refine WL.nil ?_
                have he := Option.some.inj hm
                clear hm
                subst o37
                exact fun a w s => And.intro rfl (Sat.mk (s.env.le ⟨rfl, rfl, rfl, rfl, rfl, rfl, trivial⟩) (s.mem))
              · rw [if_neg h35] at hm
                refine WL.on rfl rfl (decide_eq_false h35) ?_
                refine WL.q (R.move rfl) rfl ?_
                refine WL.on rfl rfl (decide_eq_false h35) ?_
                refine WL.q (R.indexArr rfl rfl un70 sz5 h34.1 h34.2) rfl ?_
                refine WL.on rfl rfl (decide_eq_false h35) ?_
                refine WL.q (R.load rfl (At.sub (At.bx 1 rfl (Sub.refl _)) (sub_arr (Enc.int .u8) (v := p0) h34.1 h34.2)) (Lies.one _ ia5)) rfl ?_
                obtain ⟨h36, hm⟩ := of_guard hm
                refine WL.on rfl rfl (decide_eq_false h35) ?_
                refine WL.q (R.indexArr rfl rfl un71 sz4 h36.1 h36.2) rfl ?_
                refine WL.on rfl rfl (decide_eq_false h35) ?_
                refine WL.q (R.load rfl (At.sub (At.bx 0 rfl (Sub.refl _)) (sub_arr Enc.bool (v := s7.1) h36.1 h36.2)) (Lies.one _ ia4)) rfl ?_
                refine WL.q (R.pick_f rfl (decide_eq_false h35) rfl) rfl ?_
                refine WL.q (R.assign rfl) rfl ?_
                refine WL.nil ?_
                have he := Option.some.inj hm
                clear hm
                subst o37
                exact fun a w s => And.intro rfl (Sat.mk (s.env.le ⟨rfl, rfl, rfl, rfl, rfl, rfl, trivial⟩) (s.mem))
            · intro e a w hJ
              replace hm := hmo37
              clear hmo37
              obtain ⟨rfl, s⟩ := hJ
              refine Go.use s ?_
              refine Go.then_ ?_
              by_cases h38 : o37 = true
              · rw [if_pos h38] at hm
                refine W.cond_t rfl h38 ?_
                refine W.seq ?_
                refine W.region ?_
                refine WL.q (R.assign rfl) rfl ?_
                refine WL.nil ?_
                refine Go.then_ ?_
                refine W.ret ?_
                refine Go.r_block ?_
                refine Go.r_block ?_
                have he := Option.some.inj hm
                clear hm
                subst o41
                exact fun a w s => And.intro rfl (Sat.mk (s.env.le ⟨rfl, trivial⟩) (s.mem.reord [] 2 rfl))
              · rw [if_neg h38] at hm
                refine W.cond_f rfl (b_f h38) ?_
                refine W.region ?_
                refine WL.q (R.move rfl) rfl ?_
                obtain ⟨h39, hm⟩ := of_guard hm
                refine WL.q (R.indexArr rfl rfl un70 sz5 h39.1 h39.2) rfl ?_
                refine WL.q (R.load rfl (At.sub (At.bx 1 rfl (Sub.refl _)) (sub_arr (Enc.int .u8) (v := p0) h39.1 h39.2)) (Lies.one _ ia5)) rfl ?_
                obtain ⟨h40, hm⟩ := of_guard hm
                refine WL.q (R.indexArr rfl rfl un71 sz4 h40.1 h40.2) rfl ?_
                refine WL.x0 (R.store_bx (i := 0) rfl rfl rfl (fits_bool sz4) (Up.trans (Sub.refl _) (up_arr Enc.bool (v := s7.1) true h40.1 h40.2) (Up.all (Enc.bool.arr 10) _ _))) fun _ => ?_
                refine WL.nil ?_
                refine Go.n_block ?_
                refine Go.n_block ?_
                have he := Option.some.inj hm
                clear hm
                subst o41
                exact fun a w s => And.intro rfl (Sat.mk (s.env.le ⟨rfl, rfl, rfl, rfl, rfl, trivial⟩) (s.mem))
        · intro e a w hJ
          replace hm := hmo41
          clear hmo41
          rcases o41 with o41 | o41
          · simp only [Sum.elim_inl, Sum.elim_inr] at hm
            obtain ⟨rfl, s⟩ := hJ
            refine Go.use s ?_
            refine Go.then_ ?_
            refine W.region ?_
            refine WL.q (R.move rfl) rfl ?_
            refine WL.q (R.add rfl rfl) rfl ?_
            refine WL.q (R.assign rfl) rfl ?_
            refine WL.nil ?_
            have he := Option.some.inj hm
            clear hm
            subst x
            exact fun a w s => Exists.intro _ (And.intro rfl (Sat.mk (s.env.le ⟨rfl, rfl, rfl, rfl, rfl, trivial⟩) (s.mem)))
          · simp only [Sum.elim_inl, Sum.elim_inr] at hm
            obtain ⟨rfl, s⟩ := hJ
            refine Go.use s ?_
            refine Go.r_then ?_
            have he := Option.some.inj hm
            clear hm
            subst x
            exact fun a w s => Exists.intro _ (And.intro rfl (And.intro rfl (Sat.mk (s.env.le ⟨rfl, trivial⟩) (s.mem))))
      · rw [if_neg h30] at hm
        refine W.cond_f rfl (decide_eq_false h30) ?_
        refine W.exit ?_
        refine Go.x_then ?_
        have he := Option.some.inj hm
        clear hm
        subst x
        exact fun a w s => Exists.intro _ (And.intro rfl (And.intro rfl (Sat.mk (s.env.le ⟨rfl, trivial⟩) (s.mem.reord [] 2 rfl))))
    · intro e a w hJ
      rcases o8 with o8 | o8
      · simp only [Sum.elim_inl, Sum.elim_inr] at hm
        obtain ⟨rfl, s⟩ := hJ
        refine Go.use s ?_
        refine Go.x_block ?_
        refine Go.then_ ?_
        refine W.seq ?_
        refine W.region ?_
        refine WL.q (R.assign rfl) rfl ?_
        refine WL.nil ?_
        refine Go.then_ ?_
        refine W.ret ?_
        have he := Option.some.inj hm
        clear hm
        subst r
        exact Go.ret1 rfl (.tmp rfl) (fun w hw => ⟨_, rfl, _, ⟨(), rfl, rfl⟩, hw⟩)
      · simp only [Sum.elim_inl, Sum.elim_inr] at hm
        obtain ⟨rfl, s⟩ := hJ
        refine Go.use s ?_
        refine Go.r_block ?_
        refine Go.r_then ?_
        have he := Option.some.inj hm
        clear hm
        subst r
        exact Go.ret1 rfl (.tmp rfl) (fun w hw => ⟨_, rfl, _, ⟨(), rfl, rfl⟩, hw⟩)
  · rw [if_neg h5] at hm
    refine W.cond_t rfl (not_t (b_f h5)) ?_
    refine W.seq ?_
    refine W.region ?_
    refine WL.q (R.assign rfl) rfl ?_
    refine WL.nil ?_
    refine Go.then_ ?_
    refine W.ret ?_
    refine Go.r_then ?_
    have he := Option.some.inj hm
    clear hm
    subst r
    exact Go.ret1 rfl (.tmp rfl) (fun w hw => ⟨_, rfl, _, ⟨(), rfl, rfl⟩, hw.reord [] 1 rfl⟩)
set_option maxRecDepth 100000 in
theorem spec_l01Rows_tr {G : World} {F : List Res} (p0 : (Vector (Vector Int 10) 10)) (p1 : Int) {r : Bool} (hm : spec_l01Rows p0 p1 = some r) : Tr Try.prog G 32 [(.agg ((((Enc.int .u8).arr 10).arr 10).cells p0).toArray), (.int .i64 p1)] F (fun u K => ∃ x : Unit, u = (.bool r) ∧ K = F) := by
  unfold spec_l01Rows at hm
  refine Tr.body Try.func32 rfl Try.ntmps32 ?_
  refine W.seq ?_
  refine W.region ?_
  refine WL.x (R.box rfl (cells_agg _)) rfl fun b1 => ?_
  refine WL.q (R.assign rfl) rfl ?_
  refine WL.nil ?_
  refine Go.then_ ?_
  refine W.seq ?_
  refine W.seq ?_
  refine W.region ?_
  refine WL.q (R.assign rfl) rfl ?_
  refine WL.nil ?_
  refine Go.then_ ?_
  refine W.block ?_
  obtain ⟨o3, hlo3, hm⟩ := of_bind hm
  refine W.loopx (fun (s2 : Int) a w => Sat G ((bx b1 ((((Enc.int .u8).arr 10).arr 10).cells p0)) :: F) 33 [(1, (.int .i64 p1)), (2, (.pointer (some ⟨b1, 0, none⟩))), (4, (.bool false)), (5, (.int .i64 s2))] a w) (fun (o3 : ((Unit) ⊕ (Unit))) e a w => (Sum.elim (fun o3 => And (e = (.exit 0)) (Sat G F 33 [(4, (.bool false))] a w)) (fun o3 => And (e = .ret) (Sat G F 33 [(4, (.bool false))] a w))) o3) hlo3 (fun a w s => (Sat.mk (s.env.le ⟨rfl, rfl, rfl, rfl, trivial⟩) (s.mem))) ?_ ?_
  · clear hm
    intro s2 x hm a w hJ
    have s := hJ
    unfold spec_l01Rows_L1 at hm
    refine W.use s ?_
    refine W.seq ?_
    refine W.seq ?_
    refine W.region ?_
    refine WL.q (R.move rfl) rfl ?_
    refine WL.q (R.lss rfl rfl) rfl ?_
    refine WL.nil ?_
    refine Go.then_ ?_
    by_cases h26 : s2 < 10
    · rw [if_pos h26] at hm
      refine W.cond_t rfl (decide_eq_true h26) ?_
      refine W.skip ?_
      refine Go.then_ ?_
      refine W.seq ?_
      refine W.block ?_
      obtain ⟨o36, hm, hmo36⟩ := of_bind hm
      refine W.seq ?_
      refine W.join (fun e a w => And (e = .normal) (Sat G ((bx b1 ((((Enc.int .u8).arr 10).arr 10).cells p0)) :: F) 33 [(1, (.int .i64 p1)), (2, (.pointer (some ⟨b1, 0, none⟩))), (4, (.bool false)), (5, (.int .i64 s2)), (32, (.bool o36))] a w)) ?_ ?_
      · refine W.region ?_
        refine WL.q (R.move rfl) rfl ?_
        refine WL.q (R.move rfl) rfl ?_
        refine WL.q (R.lss rfl rfl) rfl ?_
        refine WL.q (R.move rfl) rfl ?_
        by_cases h27 : s2 < p1
        · rw [if_pos h27] at hm
          refine WL.on rfl rfl (decide_eq_true h27) ?_
          refine WL.q (R.move rfl) rfl ?_
          obtain ⟨h28, hm⟩ := of_guard hm
          refine WL.on rfl rfl (decide_eq_true h27) ?_
          refine WL.q (R.indexArr rfl rfl un29 sz22 h28.1 h28.2) rfl ?_
          refine WL.on rfl rfl (decide_eq_true h27) ?_
          refine WL.q (R.load rfl (At.sub (At.bx 0 rfl (Sub.refl _)) (sub_arr ((Enc.int .u8).arr 10) (v := p0) h28.1 h28.2)) (lies_agg ((Enc.int .u8).arr 10) (gv p0 s2) ia22 sz22)) rfl ?_
          refine WL.on rfl rfl (decide_eq_true h27) ?_
          refine WL.q (R.move rfl) rfl ?_
          obtain ⟨o29, h30, hm⟩ := of_bind hm
          refine WL.on rfl rfl (decide_eq_true h27) ?_
          refine WL.x (R.call rfl en47 (spec_l01Perm_tr (gv p0 s2) p1 h30)) rfl fun x31 => ?_
          refine WL.on rfl rfl (decide_eq_true h27) ?_
          refine WL.q (R.not rfl) rfl ?_
          refine WL.q (R.pick_t rfl (decide_eq_true h27) rfl) rfl ?_
          refine WL.q (R.move rfl) rfl ?_
          by_cases h32 : o29 = true
          · rw [if_pos h32] at hm
            refine WL.on rfl rfl (not_f h32) ?_
            refine WL.q (R.move rfl) rfl ?_
            refine WL.on rfl rfl (not_f h32) ?_
            refine WL.q (R.move rfl) rfl ?_
            refine WL.on rfl rfl (not_f h32) ?_
            refine WL.q (R.geq rfl rfl) rfl ?_
            refine WL.on rfl rfl (not_f h32) ?_
            refine WL.q (R.move rfl) rfl ?_
            by_cases h33 : p1 ≤ s2
            · rw [if_pos h33] at hm
              refine WL.on rfl rfl (decide_eq_true h33) ?_
              refine WL.q (R.move rfl) rfl ?_
              refine WL.on rfl rfl (decide_eq_true h33) ?_
              refine WL.q (R.indexArr rfl rfl un29 sz22 h28.1 h28.2) rfl ?_
              refine WL.on rfl rfl (decide_eq_true h33) ?_
              refine WL.q (R.load rfl (At.sub (At.bx 0 rfl (Sub.refl _)) (sub_arr ((Enc.int .u8).arr 10) (v := p0) h28.1 h28.2)) (lies_agg ((Enc.int .u8).arr 10) (gv p0 s2) ia22 sz22)) rfl ?_
              refine WL.on rfl rfl (decide_eq_true h33) ?_
              refine WL.q (bz22 rfl) rfl ?_
              refine WL.on rfl rfl (decide_eq_true h33) ?_
              refine WL.q (R.aggNeq rfl rfl (EqE.arr (e := (Enc.int .u8)) (EqE.int un5) un22 sz5 (fun x => (Lies.one _ ia5))) (by decide) eg22) rfl ?_
              refine WL.on rfl rfl (not_f h32) ?_
              refine WL.q (R.pick_t rfl (decide_eq_true h33) rfl) rfl ?_
              refine WL.q (R.pick_f rfl (not_f h32) rfl) rfl ?_
              refine WL.nil ?_
              have he := Option.some.inj hm
              clear hm
              subst o36
              exact fun a w s => And.intro rfl (Sat.mk (s.env.le ⟨rfl, rfl, rfl, rfl, rfl, trivial⟩) (s.mem))
            · rw [if_neg h33] at hm
              refine WL.off rfl rfl (decide_eq_false h33) rfl ?_
              refine WL.off rfl rfl (decide_eq_false h33) rfl ?_
              refine WL.off rfl rfl (decide_eq_false h33) rfl ?_
              refine WL.off rfl rfl (decide_eq_false h33) rfl ?_
              refine WL.off rfl rfl (decide_eq_false h33) rfl ?_
              refine WL.on rfl rfl (not_f h32) ?_
              refine WL.q (R.pick_f rfl (decide_eq_false h33) rfl) rfl ?_
              refine WL.q (R.pick_f rfl (not_f h32) rfl) rfl ?_
              refine WL.nil ?_
              have he := Option.some.inj hm
              clear hm
              subst o36
              exact fun a w s => And.intro rfl (Sat.mk (s.env.le ⟨rfl, rfl, rfl, rfl, rfl, trivial⟩) (s.mem))
          · rw [if_neg h32] at hm
            refine WL.off rfl rfl (not_t (b_f h32)) rfl ?_
            refine WL.off rfl rfl (not_t (b_f h32)) rfl ?_
            refine WL.off rfl rfl (not_t (b_f h32)) rfl ?_
            refine WL.off rfl rfl (not_t (b_f h32)) rfl ?_
            refine WL.off_u rfl rfl rfl ?_
            refine WL.off_u rfl rfl rfl ?_
            refine WL.off_u rfl rfl rfl ?_
            refine WL.off_u rfl rfl rfl ?_
            refine WL.off_u rfl rfl rfl ?_
            refine WL.off rfl rfl (not_t (b_f h32)) rfl ?_
            refine WL.q (R.pick_t rfl (not_t (b_f h32)) rfl) rfl ?_
            refine WL.nil ?_
            have he := Option.some.inj hm
            clear hm
            subst o36
            exact fun a w s => And.intro rfl (Sat.mk (s.env.le ⟨rfl, rfl, rfl, rfl, rfl, trivial⟩) (s.mem))
        · rw [if_neg h27] at hm
          refine WL.off rfl rfl (decide_eq_false h27) rfl ?_
          refine WL.off rfl rfl (decide_eq_false h27) rfl ?_
          refine WL.off rfl rfl (decide_eq_false h27) rfl ?_
          refine WL.off rfl rfl (decide_eq_false h27) rfl ?_
          refine WL.off rfl rfl (decide_eq_false h27) rfl ?_
          refine WL.off rfl rfl (decide_eq_false h27) rfl ?_
          refine WL.q (R.pick_f rfl (decide_eq_false h27) rfl) rfl ?_
          refine WL.q (R.move rfl) rfl ?_
          refine WL.on rfl rfl rfl ?_
          refine WL.q (R.move rfl) rfl ?_
          refine WL.on rfl rfl rfl ?_
          refine WL.q (R.move rfl) rfl ?_
          refine WL.on rfl rfl rfl ?_
          refine WL.q (R.geq rfl rfl) rfl ?_
          refine WL.on rfl rfl rfl ?_
          refine WL.q (R.move rfl) rfl ?_
          by_cases h34 : p1 ≤ s2
          · rw [if_pos h34] at hm
            refine WL.on rfl rfl (decide_eq_true h34) ?_
            refine WL.q (R.move rfl) rfl ?_
            obtain ⟨h35, hm⟩ := of_guard hm
            refine WL.on rfl rfl (decide_eq_true h34) ?_
            refine WL.q (R.indexArr rfl rfl un29 sz22 h35.1 h35.2) rfl ?_
            refine WL.on rfl rfl (decide_eq_true h34) ?_
            refine WL.q (R.load rfl (At.sub (At.bx 0 rfl (Sub.refl _)) (sub_arr ((Enc.int .u8).arr 10) (v := p0) h35.1 h35.2)) (lies_agg ((Enc.int .u8).arr 10) (gv p0 s2) ia22 sz22)) rfl ?_
            refine WL.on rfl rfl (decide_eq_true h34) ?_
            refine WL.q (bz22 rfl) rfl ?_
            refine WL.on rfl rfl (decide_eq_true h34) ?_
            refine WL.q (R.aggNeq rfl rfl (EqE.arr (e := (Enc.int .u8)) (EqE.int un5) un22 sz5 (fun x => (Lies.one _ ia5))) (by decide) eg22) rfl ?_
            refine WL.on rfl rfl rfl ?_
            refine WL.q (R.pick_t rfl (decide_eq_true h34) rfl) rfl ?_
            refine WL.q (R.pick_f rfl rfl rfl) rfl ?_
            refine WL.nil ?_
            have he := Option.some.inj hm
            clear hm
            subst o36
            exact fun a w s => And.intro rfl (Sat.mk (s.env.le ⟨rfl, rfl, rfl, rfl, rfl, trivial⟩) (s.mem))
          · rw [if_neg h34] at hm
            refine WL.off rfl rfl (decide_eq_false h34) rfl ?_
            refine WL.off rfl rfl (decide_eq_false h34) rfl ?_
            refine WL.off rfl rfl (decide_eq_false h34) rfl ?_
            refine WL.off rfl rfl (decide_eq_false h34) rfl ?_
            refine WL.off rfl rfl (decide_eq_false h34) rfl ?_
            refine WL.on rfl rfl rfl ?_
            refine WL.q (R.pick_f rfl (decide_eq_false h34) rfl) rfl ?_
            refine WL.q (R.pick_f rfl rfl rfl) rfl ?_
            refine WL.nil ?_
            have he := Option.some.inj hm
            clear hm
            subst o36
            exact fun a w s => And.intro rfl (Sat.mk (s.env.le ⟨rfl, rfl, rfl, rfl, rfl, trivial⟩) (s.mem))
      · intro e a w hJ
        replace hm := hmo36
        clear hmo36
        obtain ⟨rfl, s⟩ := hJ
        refine Go.use s ?_
        refine Go.then_ ?_
        by_cases h37 : o36 = true
        · rw [if_pos h37] at hm
          refine W.cond_t rfl h37 ?_
          refine W.seq ?_
          refine W.region ?_
          refine WL.q (R.assign rfl) rfl ?_
          refine WL.nil ?_
          refine Go.then_ ?_
          refine W.ret ?_
          refine Go.r_block ?_
          refine Go.r_then ?_
          have he := Option.some.inj hm
          clear hm
          subst x
          exact fun a w s => Exists.intro _ (And.intro rfl (And.intro rfl (Sat.mk (s.env.le ⟨rfl, trivial⟩) (s.mem.reord [] 1 rfl))))
        · rw [if_neg h37] at hm
          refine W.cond_f rfl (b_f h37) ?_
          refine W.skip ?_
          refine Go.n_block ?_
          refine Go.then_ ?_
          refine W.region ?_
          refine WL.q (R.move rfl) rfl ?_
          refine WL.q (R.add rfl rfl) rfl ?_
          refine WL.q (R.assign rfl) rfl ?_
          refine WL.nil ?_
          have he := Option.some.inj hm
          clear hm
          subst x
          exact fun a w s => Exists.intro _ (And.intro rfl (Sat.mk (s.env.le ⟨rfl, rfl, rfl, rfl, trivial⟩) (s.mem)))
    · rw [if_neg h26] at hm
      refine W.cond_f rfl (decide_eq_false h26) ?_
      refine W.exit ?_
      refine Go.x_then ?_
      have he := Option.some.inj hm
      clear hm
      subst x
      exact fun a w s => Exists.intro _ (And.intro rfl (And.intro rfl (Sat.mk (s.env.le ⟨rfl, trivial⟩) (s.mem.reord [] 1 rfl))))
  · intro e a w hJ
    rcases o3 with o3 | o3
    · simp only [Sum.elim_inl, Sum.elim_inr] at hm
      obtain ⟨rfl, s⟩ := hJ
      refine Go.use s ?_
      refine Go.x_block ?_
      refine Go.then_ ?_
      refine W.seq ?_
      refine W.region ?_
      refine WL.q (R.assign rfl) rfl ?_
      refine WL.nil ?_
      refine Go.then_ ?_
      refine W.ret ?_
      have he := Option.some.inj hm
      clear hm
      subst r
      exact Go.ret1 rfl (.tmp rfl) (fun w hw => ⟨_, rfl, _, ⟨(), rfl, rfl⟩, hw⟩)
    · simp only [Sum.elim_inl, Sum.elim_inr] at hm
      obtain ⟨rfl, s⟩ := hJ
      refine Go.use s ?_
      refine Go.r_block ?_
      refine Go.r_then ?_
      have he := Option.some.inj hm
      clear hm
      subst r
      exact Go.ret1 rfl (.tmp rfl) (fun w hw => ⟨_, rfl, _, ⟨(), rfl, rfl⟩, hw⟩)
set_option maxRecDepth 100000 in
theorem spec_l01Turned_tr {G : World} {F : List Res} (p0 : (Vector (Vector Int 10) 10)) {r : (Vector (Vector Int 10) 10)} (hm : spec_l01Turned p0 = some r) : Tr Try.prog G 33 [(.agg ((((Enc.int .u8).arr 10).arr 10).cells p0).toArray)] F (fun u K => ∃ x : Unit, u = (.agg ((((Enc.int .u8).arr 10).arr 10).cells r).toArray) ∧ K = F) := by
  unfold spec_l01Turned at hm
  refine Tr.body Try.func33 rfl Try.ntmps33 ?_
  refine W.seq ?_
  refine W.region ?_
  refine WL.x (R.box rfl (cells_agg _)) rfl fun b1 => ?_
  refine WL.x (al29) rfl fun b2 => ?_
  refine WL.nil ?_
  refine Go.then_ ?_
  refine W.seq ?_
  refine W.region ?_
  refine WL.q (bz29 rfl) rfl ?_
  refine WL.x (al29) rfl fun b3 => ?_
  refine WL.x0 (R.store_bx (i := 0) rfl rfl rfl (fits_agg (((Enc.int .u8).arr 10).arr 10) (Vector.replicate 10 (Vector.replicate 10 0)) sz29) (Up.all (((Enc.int .u8).arr 10).arr 10) _ _)) fun _ => ?_
  refine WL.nil ?_
  refine Go.then_ ?_
  refine W.seq ?_
  refine W.seq ?_
  refine W.region ?_
  refine WL.q (R.assign rfl) rfl ?_
  refine WL.nil ?_
  refine Go.then_ ?_
  refine W.block ?_
  obtain ⟨o5, hlo5, hm⟩ := of_bind hm
  refine W.loopx (fun (s4 : ((Vector (Vector Int 10) 10) × Int)) a w => Sat G ((bx b3 ((((Enc.int .u8).arr 10).arr 10).cells s4.1)) :: (bx b2 ((((Enc.int .u8).arr 10).arr 10).cells (Vector.replicate 10 (Vector.replicate 10 0)))) :: (bx b1 ((((Enc.int .u8).arr 10).arr 10).cells p0)) :: F) 25 [(1, (.pointer (some ⟨b1, 0, none⟩))), (2, (.pointer (some ⟨b2, 0, none⟩))), (3, (.pointer (some ⟨b3, 0, none⟩))), (4, (.int .i64 s4.2))] a w) (fun (o5 : (Vector (Vector Int 10) 10)) e a w => And (e = (.exit 0)) (Sat G ((bx b3 ((((Enc.int .u8).arr 10).arr 10).cells o5)) :: (bx b2 ((((Enc.int .u8).arr 10).arr 10).cells (Vector.replicate 10 (Vector.replicate 10 0)))) :: F) 25 [(2, (.pointer (some ⟨b2, 0, none⟩))), (3, (.pointer (some ⟨b3, 0, none⟩)))] a w)) hlo5 (fun a w s => (Sat.mk (s.env.le ⟨rfl, rfl, rfl, rfl, trivial⟩) (s.mem))) ?_ ?_
  · clear hm
    intro s4 x hm a w hJ
    have s := hJ
    unfold spec_l01Turned_L1 at hm
    refine W.use s ?_
    refine W.seq ?_
    refine W.seq ?_
    refine W.region ?_
    refine WL.q (R.move rfl) rfl ?_
    refine WL.q (R.lss rfl rfl) rfl ?_
    refine WL.nil ?_
    refine Go.then_ ?_
    by_cases h24 : s4.2 < 10
    · rw [if_pos h24] at hm
      refine W.cond_t rfl (decide_eq_true h24) ?_
      refine W.skip ?_
      refine Go.then_ ?_
      refine W.seq ?_
      refine W.block ?_
      refine W.seq ?_
      refine W.region ?_
      refine WL.q (R.assign rfl) rfl ?_
      refine WL.nil ?_
      refine Go.then_ ?_
      refine W.block ?_
      obtain ⟨o26, hlo26, hm⟩ := of_bind hm
      refine W.loopx (fun (s25 : ((Vector (Vector Int 10) 10) × Int)) a w => Sat G ((bx b3 ((((Enc.int .u8).arr 10).arr 10).cells s25.1)) :: (bx b2 ((((Enc.int .u8).arr 10).arr 10).cells (Vector.replicate 10 (Vector.replicate 10 0)))) :: (bx b1 ((((Enc.int .u8).arr 10).arr 10).cells p0)) :: F) 25 [(1, (.pointer (some ⟨b1, 0, none⟩))), (2, (.pointer (some ⟨b2, 0, none⟩))), (3, (.pointer (some ⟨b3, 0, none⟩))), (4, (.int .i64 s4.2)), (5, (.int .i64 s25.2))] a w) (fun (o26 : (Vector (Vector Int 10) 10)) e a w => And (e = (.exit 2)) (Sat G ((bx b3 ((((Enc.int .u8).arr 10).arr 10).cells o26)) :: (bx b2 ((((Enc.int .u8).arr 10).arr 10).cells (Vector.replicate 10 (Vector.replicate 10 0)))) :: (bx b1 ((((Enc.int .u8).arr 10).arr 10).cells p0)) :: F) 25 [(1, (.pointer (some ⟨b1, 0, none⟩))), (2, (.pointer (some ⟨b2, 0, none⟩))), (3, (.pointer (some ⟨b3, 0, none⟩))), (4, (.int .i64 s4.2))] a w)) hlo26 (fun a w s => (Sat.mk (s.env.le ⟨rfl, rfl, rfl, rfl, rfl, trivial⟩) (s.mem))) ?_ ?_
      · clear hm
        intro s25 x hm a w hJ
        have s := hJ
        unfold spec_l01Turned_L2 at hm
        refine W.use s ?_
        refine W.seq ?_
        refine W.seq ?_
        refine W.region ?_
        refine WL.q (R.move rfl) rfl ?_
        refine WL.q (R.lss rfl rfl) rfl ?_
        refine WL.nil ?_
        refine Go.then_ ?_
        by_cases h32 : s25.2 < 10
        · rw [if_pos h32] at hm
          refine W.cond_t rfl (decide_eq_true h32) ?_
          refine W.skip ?_
          refine Go.then_ ?_
          refine W.seq ?_
          refine W.block ?_
          obtain ⟨h33, hm⟩ := of_guard hm
          obtain ⟨h34, hm⟩ := of_guard hm
          refine W.join1 (fun a w => Sat G ((bx b3 ((((Enc.int .u8).arr 10).arr 10).cells (sv s25.1 s25.2 (sv (gv s25.1 s25.2) s4.2 (gv (gv p0 s4.2) s25.2))))) :: (bx b2 ((((Enc.int .u8).arr 10).arr 10).cells (Vector.replicate 10 (Vector.replicate 10 0)))) :: (bx b1 ((((Enc.int .u8).arr 10).arr 10).cells p0)) :: F) 25 [(1, (.pointer (some ⟨b1, 0, none⟩))), (2, (.pointer (some ⟨b2, 0, none⟩))), (3, (.pointer (some ⟨b3, 0, none⟩))), (4, (.int .i64 s4.2)), (5, (.int .i64 s25.2))] a w) ?_ ?_
          · refine W.draw (n := 10) ((bx b2 ((((Enc.int .u8).arr 10).arr 10).cells (Vector.replicate 10 (Vector.replicate 10 0)))) :: (bx b1 ((((Enc.int .u8).arr 10).arr 10).cells p0)) :: F) F 10 (by kernel_rfl) rfl rfl (fun w hw => hw.reord [1, 2] 3 rfl) (fun w hw => hw.drop 3) ?_
            refine WK.q (i := 0) rfl rfl (by kernel_rfl) calm_n (R.move rfl) rfl rfl ?_
            refine WK.q (i := 1) rfl rfl (by kernel_rfl) calm_n (R.move rfl) rfl rfl ?_
            refine WK.q (i := 2) rfl rfl (by kernel_rfl) calm_n (R.move rfl) rfl rfl ?_
            refine WK.q (i := 3) rfl rfl (by kernel_rfl) calm_n (R.move rfl) rfl rfl ?_
            refine WK.q (i := 4) rfl rfl (by kernel_rfl) calm_n (R.indexArr rfl rfl un29 sz22 h33.1 h33.2) rfl rfl ?_
            refine WK.q (i := 5) rfl rfl (by kernel_rfl) calm_n (R.indexArr rfl rfl un22 sz5 h34.1 h34.2) rfl rfl ?_
            refine WK.q (i := 6) rfl rfl (by kernel_rfl) calm_n (R.load rfl (At.sub (At.sub (At.bx 1 rfl (Sub.refl _)) (sub_arr ((Enc.int .u8).arr 10) (v := p0) h33.1 h33.2)) (sub_arr (Enc.int .u8) (v := gv p0 s4.2) h34.1 h34.2)) (Lies.one _ ia5)) rfl rfl ?_
            refine WK.x (i := 7) (by kernel_rfl) rfl (OpV.x (R.indexArr rfl rfl un29 sz22 h34.1 h34.2)) (fun _ w hw => hw.reord [1, 2] 3 rfl) (fun _ _ _ w hw => hw.reord [] 3 rfl) rfl rfl (by kernel_rfl) fun _ => ?_
            refine WK.x (i := 8) (by kernel_rfl) rfl (OpV.x (R.indexArr rfl rfl un22 sz5 h33.1 h33.2)) (fun _ w hw => hw.reord [1, 2] 3 rfl) (fun _ _ _ w hw => hw.reord [] 3 rfl) rfl rfl (by kernel_rfl) fun _ => ?_
            refine WK.x0 (i := 9) (by kernel_rfl) rfl (R.store_bx (i := 0) rfl rfl rfl (fits_int sz5) (Up.trans (Sub.trans (Sub.refl _) (sub_arr ((Enc.int .u8).arr 10) (v := s25.1) h34.1 h34.2)) (up_arr (Enc.int .u8) (v := gv s25.1 s25.2) (gv (gv p0 s4.2) s25.2) h33.1 h33.2) (Up.trans (Sub.refl _) (up_arr ((Enc.int .u8).arr 10) (v := s25.1) (sv (gv s25.1 s25.2) s4.2 (gv (gv p0 s4.2) s25.2)) h34.1 h34.2) (Up.all (((Enc.int .u8).arr 10).arr 10) _ _)))) (fun _ w hw => hw.reord [1, 2] 3 rfl) (fun _ _ _ w hw => hw.reord [] 3 rfl) rfl (by kernel_rfl) fun _ => ?_
            refine WK.nil (by kernel_rfl) ?_
            exact fun a w s => And.intro rfl (Sat.mk (s.env.le ⟨rfl, rfl, rfl, rfl, rfl, trivial⟩) (s.mem))
          · refine Go2.sat ?_
            refine Go.n_block ?_
            refine Go.then_ ?_
            refine W.region ?_
            refine WL.q (R.move rfl) rfl ?_
            refine WL.q (R.add rfl rfl) rfl ?_
            refine WL.q (R.assign rfl) rfl ?_
            refine WL.nil ?_
            have he := Option.some.inj hm
            clear hm
            subst x
            exact fun a w s => Exists.intro _ (And.intro rfl (Sat.mk (s.env.le ⟨rfl, rfl, rfl, rfl, rfl, trivial⟩) (s.mem)))
        · rw [if_neg h32] at hm
          refine W.cond_f rfl (decide_eq_false h32) ?_
          refine W.exit ?_
          refine Go.x_then ?_
          have he := Option.some.inj hm
          clear hm
          subst x
          exact fun a w s => Exists.intro _ (And.intro rfl (And.intro rfl (Sat.mk (s.env.le ⟨rfl, rfl, rfl, rfl, trivial⟩) (s.mem))))
      · intro e a w hJ
        obtain ⟨rfl, s⟩ := hJ
        refine Go.use s ?_
        refine Go.x_block ?_
        refine Go.n_block ?_
        refine Go.then_ ?_
        refine W.region ?_
        refine WL.q (R.move rfl) rfl ?_
        refine WL.q (R.add rfl rfl) rfl ?_
        refine WL.q (R.assign rfl) rfl ?_
        refine WL.nil ?_
        have he := Option.some.inj hm
        clear hm
        subst x
        exact fun a w s => Exists.intro _ (And.intro rfl (Sat.mk (s.env.le ⟨rfl, rfl, rfl, rfl, trivial⟩) (s.mem)))
    · rw [if_neg h24] at hm
      refine W.cond_f rfl (decide_eq_false h24) ?_
      refine W.exit ?_
      refine Go.x_then ?_
      have he := Option.some.inj hm
      clear hm
      subst x
      exact fun a w s => Exists.intro _ (And.intro rfl (And.intro rfl (Sat.mk (s.env.le ⟨rfl, rfl, trivial⟩) (s.mem.reord [0, 1] 3 rfl))))
  · intro e a w hJ
    obtain ⟨rfl, s⟩ := hJ
    refine Go.use s ?_
    refine Go.x_block ?_
    refine Go.then_ ?_
    refine W.seq ?_
    refine W.region ?_
    refine WL.q (R.load rfl (At.bx 0 rfl (Sub.refl _)) (lies_agg (((Enc.int .u8).arr 10).arr 10) o5 ia29 sz29)) rfl ?_
    refine WL.x0 (R.store_bx (i := 1) rfl rfl rfl (fits_agg (((Enc.int .u8).arr 10).arr 10) o5 sz29) (Up.all (((Enc.int .u8).arr 10).arr 10) _ _)) fun _ => ?_
    refine WL.nil ?_
    refine Go.then_ ?_
    refine W.ret ?_
    have he := Option.some.inj hm
    clear hm
    subst r
    exact Go.ret1 rfl (.cell rfl (At.bx 1 rfl (Sub.refl _)) (lies_agg (((Enc.int .u8).arr 10).arr 10) o5 ia29 sz29)) (fun w hw => ⟨_, rfl, _, ⟨(), rfl, rfl⟩, hw.reord [] 2 rfl⟩)
set_option maxRecDepth 100000 in
theorem spec_l01Is_tr {G : World} {F : List Res} (p0 : S_Square) {r : Bool} (hm : spec_l01Is p0 = some r) : Tr Try.prog G 19 [(.agg (e_S_Square.cells p0).toArray)] F (fun u K => ∃ x : Unit, u = (.bool r) ∧ K = F) := by
  unfold spec_l01Is at hm
  refine Tr.body Try.func19 rfl Try.ntmps19 ?_
  refine W.seq ?_
  refine W.region ?_
  refine WL.x (R.box rfl (cells_agg _)) rfl fun b1 => ?_
  refine WL.q (R.assign rfl) rfl ?_
  refine WL.nil ?_
  refine Go.then_ ?_
  obtain ⟨o16, hm, hmo16⟩ := of_bind hm
  refine W.seq ?_
  refine W.join (fun e a w => And (e = .normal) (Sat G F 21 [(2, (.bool o16))] a w)) ?_ ?_
  · obtain ⟨o2, h3, hm⟩ := of_bind hm
    by_cases h5 : o2 = true
    · rw [if_pos h5] at hm
      obtain ⟨o6, h7, hm⟩ := of_bind hm
      by_cases h9 : o6 = true
      · rw [if_pos h9] at hm
        obtain ⟨o10, h11, hm⟩ := of_bind hm
        obtain ⟨o13, h14, hm⟩ := of_bind hm
        refine W.join1 (fun a w => ∃ x4 : Unit, ∃ x8 : Unit, ∃ x12 : Unit, ∃ x15 : Unit, Sat G ((bx b1 (e_S_Square.cells p0)) :: F) 21 [(2, (.bool o13))] a w) ?_ ?_
        · refine W.draw (n := 19) ((bx b1 (e_S_Square.cells p0)) :: F) F 19 (by kernel_rfl) rfl rfl (fun w hw => hw) (fun w hw => hw.drop 1) ?_
          refine WK.x (i := 0) (by kernel_rfl) rfl (OpV.x (R.fieldAddr rfl fa31_0)) (fun _ w hw => hw) (fun _ _ _ w hw => hw.reord [] 1 rfl) rfl rfl (by kernel_rfl) fun _ => ?_
          refine WK.x (i := 1) (by kernel_rfl) rfl (OpV.x (R.load rfl (At.sub (At.bx 0 rfl (Sub.refl _)) (e_S_Square_s0 p0)) (Lies.one _ ia2))) (fun _ w hw => hw) (fun _ _ _ w hw => hw.reord [] 1 rfl) rfl rfl (by kernel_rfl) fun _ => ?_
          refine WK.x (i := 2) (by kernel_rfl) rfl (R.call rfl en31 (spec_l01In_tr p0.Order 1 10 h3)) (fun _ w hw => hw) (fun _ _ _ w hw => hw.reord [] 1 rfl) rfl rfl (by kernel_rfl) fun x4 => ?_
          refine WK.x (i := 3) (by kernel_rfl) rfl (OpV.x (R.move rfl)) (fun _ w hw => hw) (fun _ _ _ w hw => hw.reord [] 1 rfl) rfl rfl (by kernel_rfl) fun _ => ?_
          refine WK.qg (i := 4) rfl rfl rfl h5 (by kernel_rfl) calm_n (R.fieldAddr rfl fa31_1) rfl rfl ?_
          refine WK.qg (i := 5) rfl rfl rfl h5 (by kernel_rfl) calm_n (R.load rfl (At.sub (At.bx 0 rfl (Sub.refl _)) (e_S_Square_s1 p0)) (lies_agg (((Enc.int .u8).arr 10).arr 10) p0.Table ia29 sz29)) rfl rfl ?_
          refine WK.xg (i := 6) (by kernel_rfl) rfl rfl rfl h5 (OpV.x (R.fieldAddr rfl fa31_0)) (fun _ w hw => hw) (fun _ _ _ w hw => hw.reord [] 1 rfl) rfl rfl (by kernel_rfl) fun _ => ?_
          refine WK.xg (i := 7) (by kernel_rfl) rfl rfl rfl h5 (OpV.x (R.load rfl (At.sub (At.bx 0 rfl (Sub.refl _)) (e_S_Square_s0 p0)) (Lies.one _ ia2))) (fun _ w hw => hw) (fun _ _ _ w hw => hw.reord [] 1 rfl) rfl rfl (by kernel_rfl) fun _ => ?_
          refine WK.xg (i := 8) (by kernel_rfl) rfl rfl rfl h5 (R.call rfl en32 (spec_l01Rows_tr p0.Table p0.Order h7)) (fun _ w hw => hw) (fun _ _ _ w hw => hw.reord [] 1 rfl) rfl rfl (by kernel_rfl) fun x8 => ?_
          refine WK.x (i := 9) (by kernel_rfl) rfl (OpV.x (R.pick_t rfl h5 rfl)) (fun _ w hw => hw) (fun _ _ _ w hw => hw.reord [] 1 rfl) rfl rfl (by kernel_rfl) fun _ => ?_
          refine WK.x (i := 10) (by kernel_rfl) rfl (OpV.x (R.move rfl)) (fun _ w hw => hw) (fun _ _ _ w hw => hw.reord [] 1 rfl) rfl rfl (by kernel_rfl) fun _ => ?_
          refine WK.qg (i := 11) rfl rfl rfl h9 (by kernel_rfl) calm_n (R.fieldAddr rfl fa31_1) rfl rfl ?_
          refine WK.qg (i := 12) rfl rfl rfl h9 (by kernel_rfl) calm_n (R.load rfl (At.sub (At.bx 0 rfl (Sub.refl _)) (e_S_Square_s1 p0)) (lies_agg (((Enc.int .u8).arr 10).arr 10) p0.Table ia29 sz29)) rfl rfl ?_
          refine WK.qg (i := 14) rfl rfl rfl h9 (by kernel_rfl) calm_n (R.fieldAddr rfl fa31_0) rfl rfl ?_
          refine WK.qg (i := 15) rfl rfl rfl h9 (by kernel_rfl) calm_n (R.load rfl (At.sub (At.bx 0 rfl (Sub.refl _)) (e_S_Square_s0 p0)) (Lies.one _ ia2)) rfl rfl ?_
          refine WK.xg (i := 13) (by kernel_rfl) rfl rfl rfl h9 (R.call rfl en33 (spec_l01Turned_tr p0.Table h11)) (fun _ w hw => hw) (fun _ _ _ w hw => hw.reord [] 1 rfl) rfl rfl (by kernel_rfl) fun x12 => ?_
          refine WK.xg (i := 16) (by kernel_rfl) rfl rfl rfl h9 (R.call rfl en32 (spec_l01Rows_tr o10 p0.Order h14)) (fun _ w hw => hw) (fun _ _ _ w hw => hw.reord [] 1 rfl) rfl rfl (by kernel_rfl) fun x15 => ?_
          refine WK.x (i := 17) (by kernel_rfl) rfl (OpV.x (R.pick_t rfl h9 rfl)) (fun _ w hw => hw) (fun _ _ _ w hw => hw.reord [] 1 rfl) rfl rfl (by kernel_rfl) fun _ => ?_
          refine WK.x (i := 18) (by kernel_rfl) rfl (OpV.x (R.assign rfl)) (fun _ w hw => hw) (fun _ _ _ w hw => hw.reord [] 1 rfl) rfl rfl (by kernel_rfl) fun _ => ?_
          refine WK.nil (by kernel_rfl) ?_
          exact fun a w s => And.intro rfl (Exists.intro x4 (Exists.intro x8 (Exists.intro x12 (Exists.intro x15 (Sat.mk (s.env.le ⟨rfl, trivial⟩) (s.mem))))))
        · refine Go2.ex fun x4 => ?_
          refine Go2.ex fun x8 => ?_
          refine Go2.ex fun x12 => ?_
          refine Go2.ex fun x15 => ?_
          refine Go2.sat ?_
          have he := Option.some.inj hm
          clear hm
          subst o16
          exact fun a w s => And.intro rfl (Sat.mk (s.env.le ⟨rfl, trivial⟩) (s.mem.reord [] 1 rfl))
      · rw [if_neg h9] at hm
        refine W.join1 (fun a w => ∃ x4 : Unit, ∃ x8 : Unit, Sat G ((bx b1 (e_S_Square.cells p0)) :: F) 21 [(2, (.bool false))] a w) ?_ ?_
        · refine W.draw (n := 19) ((bx b1 (e_S_Square.cells p0)) :: F) F 19 (by kernel_rfl) rfl rfl (fun w hw => hw) (fun w hw => hw.drop 1) ?_
          refine WK.x (i := 0) (by kernel_rfl) rfl (OpV.x (R.fieldAddr rfl fa31_0)) (fun _ w hw => hw) (fun _ _ _ w hw => hw.reord [] 1 rfl) rfl rfl (by kernel_rfl) fun _ => ?_
          refine WK.x (i := 1) (by kernel_rfl) rfl (OpV.x (R.load rfl (At.sub (At.bx 0 rfl (Sub.refl _)) (e_S_Square_s0 p0)) (Lies.one _ ia2))) (fun _ w hw => hw) (fun _ _ _ w hw => hw.reord [] 1 rfl) rfl rfl (by kernel_rfl) fun _ => ?_
          refine WK.x (i := 2) (by kernel_rfl) rfl (R.call rfl en31 (spec_l01In_tr p0.Order 1 10 h3)) (fun _ w hw => hw) (fun _ _ _ w hw => hw.reord [] 1 rfl) rfl rfl (by kernel_rfl) fun x4 => ?_
          refine WK.x (i := 3) (by kernel_rfl) rfl (OpV.x (R.move rfl)) (fun _ w hw => hw) (fun _ _ _ w hw => hw.reord [] 1 rfl) rfl rfl (by kernel_rfl) fun _ => ?_
          refine WK.qg (i := 4) rfl rfl rfl h5 (by kernel_rfl) calm_n (R.fieldAddr rfl fa31_1) rfl rfl ?_
          refine WK.qg (i := 5) rfl rfl rfl h5 (by kernel_rfl) calm_n (R.load rfl (At.sub (At.bx 0 rfl (Sub.refl _)) (e_S_Square_s1 p0)) (lies_agg (((Enc.int .u8).arr 10).arr 10) p0.Table ia29 sz29)) rfl rfl ?_
          refine WK.xg (i := 6) (by kernel_rfl) rfl rfl rfl h5 (OpV.x (R.fieldAddr rfl fa31_0)) (fun _ w hw => hw) (fun _ _ _ w hw => hw.reord [] 1 rfl) rfl rfl (by kernel_rfl) fun _ => ?_
          refine WK.xg (i := 7) (by kernel_rfl) rfl rfl rfl h5 (OpV.x (R.load rfl (At.sub (At.bx 0 rfl (Sub.refl _)) (e_S_Square_s0 p0)) (Lies.one _ ia2))) (fun _ w hw => hw) (fun _ _ _ w hw => hw.reord [] 1 rfl) rfl rfl (by kernel_rfl) fun _ => ?_
          refine WK.xg (i := 8) (by kernel_rfl) rfl rfl rfl h5 (R.call rfl en32 (spec_l01Rows_tr p0.Table p0.Order h7)) (fun _ w hw => hw) (fun _ _ _ w hw => hw.reord [] 1 rfl) rfl rfl (by kernel_rfl) fun x8 => ?_
          refine WK.x (i := 9) (by kernel_rfl) rfl (OpV.x (R.pick_t rfl h5 rfl)) (fun _ w hw => hw) (fun _ _ _ w hw => hw.reord [] 1 rfl) rfl rfl (by kernel_rfl) fun _ => ?_
          refine WK.x (i := 10) (by kernel_rfl) rfl (OpV.x (R.move rfl)) (fun _ w hw => hw) (fun _ _ _ w hw => hw.reord [] 1 rfl) rfl rfl (by kernel_rfl) fun _ => ?_
          refine WK.qoff (i := 11) rfl rfl rfl (b_f h9) (by kernel_rfl) calm_n rfl rfl ?_
          refine WK.qoff (i := 12) rfl rfl rfl (b_f h9) (by kernel_rfl) calm_n rfl rfl ?_
          refine WK.qoff (i := 13) rfl rfl rfl (b_f h9) (by kernel_rfl) calm_n rfl rfl ?_
          refine WK.qoff (i := 14) rfl rfl rfl (b_f h9) (by kernel_rfl) calm_n rfl rfl ?_
          refine WK.qoff (i := 15) rfl rfl rfl (b_f h9) (by kernel_rfl) calm_n rfl rfl ?_
          refine WK.qoff (i := 16) rfl rfl rfl (b_f h9) (by kernel_rfl) calm_n rfl rfl ?_
          refine WK.x (i := 17) (by kernel_rfl) rfl (OpV.x (R.pick_f rfl (b_f h9) rfl)) (fun _ w hw => hw) (fun _ _ _ w hw => hw.reord [] 1 rfl) rfl rfl (by kernel_rfl) fun _ => ?_
          refine WK.x (i := 18) (by kernel_rfl) rfl (OpV.x (R.assign rfl)) (fun _ w hw => hw) (fun _ _ _ w hw => hw.reord [] 1 rfl) rfl rfl (by kernel_rfl) fun _ => ?_
          refine WK.nil (by kernel_rfl) ?_
          exact fun a w s => And.intro rfl (Exists.intro x4 (Exists.intro x8 (Sat.mk (s.env.le ⟨rfl, trivial⟩) (s.mem))))
        · refine Go2.ex fun x4 => ?_
          refine Go2.ex fun x8 => ?_
          refine Go2.sat ?_
          have he := Option.some.inj hm
          clear hm
          subst o16
          exact fun a w s => And.intro rfl (Sat.mk (s.env.le ⟨rfl, trivial⟩) (s.mem.reord [] 1 rfl))
    · rw [if_neg h5] at hm
      refine W.join1 (fun a w => ∃ x4 : Unit, Sat G ((bx b1 (e_S_Square.cells p0)) :: F) 21 [(2, (.bool false))] a w) ?_ ?_
      · refine W.draw (n := 19) ((bx b1 (e_S_Square.cells p0)) :: F) F 19 (by kernel_rfl) rfl rfl (fun w hw => hw) (fun w hw => hw.drop 1) ?_
        refine WK.x (i := 0) (by kernel_rfl) rfl (OpV.x (R.fieldAddr rfl fa31_0)) (fun _ w hw => hw) (fun _ _ _ w hw => hw.reord [] 1 rfl) rfl rfl (by kernel_rfl) fun _ => ?_
        refine WK.x (i := 1) (by kernel_rfl) rfl (OpV.x (R.load rfl (At.sub (At.bx 0 rfl (Sub.refl _)) (e_S_Square_s0 p0)) (Lies.one _ ia2))) (fun _ w hw => hw) (fun _ _ _ w hw => hw.reord [] 1 rfl) rfl rfl (by kernel_rfl) fun _ => ?_
        refine WK.x (i := 2) (by kernel_rfl) rfl (R.call rfl en31 (spec_l01In_tr p0.Order 1 10 h3)) (fun _ w hw => hw) (fun _ _ _ w hw => hw.reord [] 1 rfl) rfl rfl (by kernel_rfl) fun x4 => ?_
        refine WK.x (i := 3) (by kernel_rfl) rfl (OpV.x (R.move rfl)) (fun _ w hw => hw) (fun _ _ _ w hw => hw.reord [] 1 rfl) rfl rfl (by kernel_rfl) fun _ => ?_
        refine WK.qoff (i := 4) rfl rfl rfl (b_f h5) (by kernel_rfl) calm_n rfl rfl ?_
        refine WK.qoff (i := 5) rfl rfl rfl (b_f h5) (by kernel_rfl) calm_n rfl rfl ?_
        refine WK.qoff (i := 6) rfl rfl rfl (b_f h5) (by kernel_rfl) calm_n rfl rfl ?_
        refine WK.qoff (i := 7) rfl rfl rfl (b_f h5) (by kernel_rfl) calm_n rfl rfl ?_
        refine WK.qoff (i := 8) rfl rfl rfl (b_f h5) (by kernel_rfl) calm_n rfl rfl ?_
        refine WK.x (i := 9) (by kernel_rfl) rfl (OpV.x (R.pick_f rfl (b_f h5) rfl)) (fun _ w hw => hw) (fun _ _ _ w hw => hw.reord [] 1 rfl) rfl rfl (by kernel_rfl) fun _ => ?_
        refine WK.x (i := 10) (by kernel_rfl) rfl (OpV.x (R.move rfl)) (fun _ w hw => hw) (fun _ _ _ w hw => hw.reord [] 1 rfl) rfl rfl (by kernel_rfl) fun _ => ?_
        refine WK.qoff (i := 11) rfl rfl rfl rfl (by kernel_rfl) calm_n rfl rfl ?_
        refine WK.qoff (i := 12) rfl rfl rfl rfl (by kernel_rfl) calm_n rfl rfl ?_
        refine WK.qoff (i := 13) rfl rfl rfl rfl (by kernel_rfl) calm_n rfl rfl ?_
        refine WK.qoff (i := 14) rfl rfl rfl rfl (by kernel_rfl) calm_n rfl rfl ?_
        refine WK.qoff (i := 15) rfl rfl rfl rfl (by kernel_rfl) calm_n rfl rfl ?_
        refine WK.qoff (i := 16) rfl rfl rfl rfl (by kernel_rfl) calm_n rfl rfl ?_
        refine WK.x (i := 17) (by kernel_rfl) rfl (OpV.x (R.pick_f rfl rfl rfl)) (fun _ w hw => hw) (fun _ _ _ w hw => hw.reord [] 1 rfl) rfl rfl (by kernel_rfl) fun _ => ?_
        refine WK.x (i := 18) (by kernel_rfl) rfl (OpV.x (R.assign rfl)) (fun _ w hw => hw) (fun _ _ _ w hw => hw.reord [] 1 rfl) rfl rfl (by kernel_rfl) fun _ => ?_
        refine WK.nil (by kernel_rfl) ?_
        exact fun a w s => And.intro rfl (Exists.intro x4 (Sat.mk (s.env.le ⟨rfl, trivial⟩) (s.mem)))
      · refine Go2.ex fun x4 => ?_
        refine Go2.sat ?_
        have he := Option.some.inj hm
        clear hm
        subst o16
        exact fun a w s => And.intro rfl (Sat.mk (s.env.le ⟨rfl, trivial⟩) (s.mem.reord [] 1 rfl))
  · intro e a w hJ
    replace hm := hmo16
    clear hmo16
    obtain ⟨rfl, s⟩ := hJ
    refine Go.use s ?_
    refine Go.then_ ?_
    refine W.ret ?_
    have he := Option.some.inj hm
    clear hm
    subst r
    exact Go.ret1 rfl (.tmp rfl) (fun w hw => ⟨_, rfl, _, ⟨(), rfl, rfl⟩, hw⟩)
set_option maxRecDepth 100000 in
theorem spec_l01Loop_tr {G : World} {F : List Res} (p0 : S_Square) {r : Bool} (hm : spec_l01Loop p0 = some r) : Tr Try.prog G 10 [(.agg (e_S_Square.cells p0).toArray)] F (fun u K => ∃ x : Unit, u = (.bool r) ∧ K = F) := by
  unfold spec_l01Loop at hm
  refine Tr.body Try.func10 rfl Try.ntmps10 ?_
  refine W.seq ?_
  refine W.region ?_
  refine WL.x (R.box rfl (cells_agg _)) rfl fun b1 => ?_
  refine WL.q (R.assign rfl) rfl ?_
  refine WL.nil ?_
  refine Go.then_ ?_
  refine W.seq ?_
  refine W.seq ?_
  refine W.region ?_
  refine WL.q (R.load rfl (At.bx 0 rfl (Sub.refl _)) (lies_agg e_S_Square p0 ia31 sz31)) rfl ?_
  obtain ⟨o2, h3, hm⟩ := of_bind hm
  refine WL.x (R.call rfl en19 (spec_l01Is_tr p0 h3)) rfl fun x4 => ?_
  refine WL.q (R.not rfl) rfl ?_
  refine WL.nil ?_
  refine Go.then_ ?_
  by_cases h5 : o2 = true
  · rw [if_pos h5] at hm
    refine W.cond_f rfl (not_f h5) ?_
    refine W.skip ?_
    refine Go.then_ ?_
    refine W.seq ?_
    refine W.seq ?_
    refine W.region ?_
    refine WL.q (R.assign rfl) rfl ?_
    refine WL.nil ?_
    refine Go.then_ ?_
    refine W.block ?_
    obtain ⟨o7, hlo7, hm⟩ := of_bind hm
    refine W.loopx (fun (s6 : Int) a w => Sat G ((bx b1 (e_S_Square.cells p0)) :: F) 31 [(1, (.pointer (some ⟨b1, 0, none⟩))), (2, (.bool false)), (3, (.int .i64 s6))] a w) (fun (o7 : ((Unit) ⊕ (Unit))) e a w => (Sum.elim (fun o7 => And (e = (.exit 0)) (Sat G F 31 [(2, (.bool false))] a w)) (fun o7 => And (e = .ret) (Sat G F 31 [(2, (.bool false))] a w))) o7) hlo7 (fun a w s => (Sat.mk (s.env.le ⟨rfl, rfl, rfl, trivial⟩) (s.mem))) ?_ ?_
    · clear hm
      intro s6 x hm a w hJ
      have s := hJ
      unfold spec_l01Loop_L1 at hm
      refine W.use s ?_
      refine W.seq ?_
      refine W.seq ?_
      refine W.region ?_
      refine WL.q (R.move rfl) rfl ?_
      refine WL.q (R.fieldAddr rfl fa31_0) rfl ?_
      refine WL.q (R.load rfl (At.sub (At.bx 0 rfl (Sub.refl _)) (e_S_Square_s0 p0)) (Lies.one _ ia2)) rfl ?_
      refine WL.q (R.lss rfl rfl) rfl ?_
      refine WL.nil ?_
      refine Go.then_ ?_
      by_cases h17 : s6 < p0.Order
      · rw [if_pos h17] at hm
        refine W.cond_t rfl (decide_eq_true h17) ?_
        refine W.skip ?_
        refine Go.then_ ?_
        refine W.seq ?_
        refine W.block ?_
        obtain ⟨o20, hm, hmo20⟩ := of_bind hm
        refine W.seq ?_
        refine W.join (fun e a w => And (e = .normal) (Sat G ((bx b1 (e_S_Square.cells p0)) :: F) 31 [(1, (.pointer (some ⟨b1, 0, none⟩))), (2, (.bool false)), (3, (.int .i64 s6)), (30, (.bool o20))] a w)) ?_ ?_
        · refine W.region ?_
          refine WL.q (R.move rfl) rfl ?_
          refine WL.q (R.fieldAddr rfl fa31_1) rfl ?_
          refine WL.q (R.indexArr rfl rfl un29 sz22 (by decide : (0 : Int) ≤ 0 ∧ (0 : Int) < 10).1 (by decide : (0 : Int) ≤ 0 ∧ (0 : Int) < 10).2) rfl ?_
          obtain ⟨h18, hm⟩ := of_guard hm
          refine WL.q (R.indexArr rfl rfl un22 sz5 h18.1 h18.2) rfl ?_
          refine WL.q (R.load rfl (At.sub (At.sub (At.sub (At.bx 0 rfl (Sub.refl _)) (e_S_Square_s1 p0)) (sub_arr ((Enc.int .u8).arr 10) (v := p0.Table) (by decide : (0 : Int) ≤ 0 ∧ (0 : Int) < 10).1 (by decide : (0 : Int) ≤ 0 ∧ (0 : Int) < 10).2)) (sub_arr (Enc.int .u8) (v := gv p0.Table 0) h18.1 h18.2)) (Lies.one _ ia5)) rfl ?_
          refine WL.q (R.move rfl) rfl ?_
          refine WL.q (R.conv rfl un5 us2) rfl ?_
          refine WL.q (R.neq rfl rfl) rfl ?_
          refine WL.q (R.move rfl) rfl ?_
          by_cases h19 : gv (gv p0.Table 0) s6 ≠ IntKind.u8.wrap s6
          · rw [if_pos h19] at hm
            refine WL.off rfl rfl (decide_eq_true h19) rfl ?_
            refine WL.off rfl rfl (decide_eq_true h19) rfl ?_
            refine WL.off rfl rfl (decide_eq_true h19) rfl ?_
            refine WL.off rfl rfl (decide_eq_true h19) rfl ?_
            refine WL.off rfl rfl (decide_eq_true h19) rfl ?_
            refine WL.off rfl rfl (decide_eq_true h19) rfl ?_
            refine WL.off rfl rfl (decide_eq_true h19) rfl ?_
            refine WL.off rfl rfl (decide_eq_true h19) rfl ?_
            refine WL.q (R.pick_t rfl (decide_eq_true h19) rfl) rfl ?_
            refine WL.nil ?_
            have he := Option.some.inj hm
            clear hm
            subst o20
            exact fun a w s => And.intro rfl (Sat.mk (s.env.le ⟨rfl, rfl, rfl, rfl, trivial⟩) (s.mem))
          · rw [if_neg h19] at hm
            refine WL.on rfl rfl (decide_eq_false h19) ?_
            refine WL.q (R.move rfl) rfl ?_
            refine WL.on rfl rfl (decide_eq_false h19) ?_
            refine WL.q (R.fieldAddr rfl fa31_1) rfl ?_
            refine WL.on rfl rfl (decide_eq_false h19) ?_
            refine WL.q (R.indexArr rfl rfl un29 sz22 h18.1 h18.2) rfl ?_
            refine WL.on rfl rfl (decide_eq_false h19) ?_
            refine WL.q (R.indexArr rfl rfl un22 sz5 (by decide : (0 : Int) ≤ 0 ∧ (0 : Int) < 10).1 (by decide : (0 : Int) ≤ 0 ∧ (0 : Int) < 10).2) rfl ?_
            refine WL.on rfl rfl (decide_eq_false h19) ?_
            refine WL.q (R.load rfl (At.sub (At.sub (At.sub (At.bx 0 rfl (Sub.refl _)) (e_S_Square_s1 p0)) (sub_arr ((Enc.int .u8).arr 10) (v := p0.Table) h18.1 h18.2)) (sub_arr (Enc.int .u8) (v := gv p0.Table s6) (by decide : (0 : Int) ≤ 0 ∧ (0 : Int) < 10).1 (by decide : (0 : Int) ≤ 0 ∧ (0 : Int) < 10).2)) (Lies.one _ ia5)) rfl ?_
            refine WL.on rfl rfl (decide_eq_false h19) ?_
            refine WL.q (R.move rfl) rfl ?_
            refine WL.on rfl rfl (decide_eq_false h19) ?_
            refine WL.q (R.conv rfl un5 us2) rfl ?_
            refine WL.on rfl rfl (decide_eq_false h19) ?_
            refine WL.q (R.neq rfl rfl) rfl ?_
            refine WL.q (R.pick_f rfl (decide_eq_false h19) rfl) rfl ?_
            refine WL.nil ?_
            have he := Option.some.inj hm
            clear hm
            subst o20
            exact fun a w s => And.intro rfl (Sat.mk (s.env.le ⟨rfl, rfl, rfl, rfl, trivial⟩) (s.mem))
        · intro e a w hJ
          replace hm := hmo20
          clear hmo20
          obtain ⟨rfl, s⟩ := hJ
          refine Go.use s ?_
          refine Go.then_ ?_
          by_cases h21 : o20 = true
          · rw [if_pos h21] at hm
            refine W.cond_t rfl h21 ?_
            refine W.seq ?_
            refine W.region ?_
            refine WL.q (R.assign rfl) rfl ?_
            refine WL.nil ?_
            refine Go.then_ ?_
            refine W.ret ?_
            refine Go.r_block ?_
            refine Go.r_then ?_
            have he := Option.some.inj hm
            clear hm
            subst x
            exact fun a w s => Exists.intro _ (And.intro rfl (And.intro rfl (Sat.mk (s.env.le ⟨rfl, trivial⟩) (s.mem.reord [] 1 rfl))))
          · rw [if_neg h21] at hm
            refine W.cond_f rfl (b_f h21) ?_
            refine W.skip ?_
            refine Go.n_block ?_
            refine Go.then_ ?_
            refine W.region ?_
            refine WL.q (R.move rfl) rfl ?_
            refine WL.q (R.add rfl rfl) rfl ?_
            refine WL.q (R.assign rfl) rfl ?_
            refine WL.nil ?_
            have he := Option.some.inj hm
            clear hm
            subst x
            exact fun a w s => Exists.intro _ (And.intro rfl (Sat.mk (s.env.le ⟨rfl, rfl, rfl, trivial⟩) (s.mem)))
      · rw [if_neg h17] at hm
        refine W.cond_f rfl (decide_eq_false h17) ?_
        refine W.exit ?_
        refine Go.x_then ?_
        have he := Option.some.inj hm
        clear hm
        subst x
        exact fun a w s => Exists.intro _ (And.intro rfl (And.intro rfl (Sat.mk (s.env.le ⟨rfl, trivial⟩) (s.mem.reord [] 1 rfl))))
    · intro e a w hJ
      rcases o7 with o7 | o7
      · simp only [Sum.elim_inl, Sum.elim_inr] at hm
        obtain ⟨rfl, s⟩ := hJ
        refine Go.use s ?_
        refine Go.x_block ?_
        refine Go.then_ ?_
        refine W.seq ?_
        refine W.region ?_
        refine WL.q (R.assign rfl) rfl ?_
        refine WL.nil ?_
        refine Go.then_ ?_
        refine W.ret ?_
        have he := Option.some.inj hm
        clear hm
        subst r
        exact Go.ret1 rfl (.tmp rfl) (fun w hw => ⟨_, rfl, _, ⟨(), rfl, rfl⟩, hw⟩)
      · simp only [Sum.elim_inl, Sum.elim_inr] at hm
        obtain ⟨rfl, s⟩ := hJ
        refine Go.use s ?_
        refine Go.r_block ?_
        refine Go.r_then ?_
        have he := Option.some.inj hm
        clear hm
        subst r
        exact Go.ret1 rfl (.tmp rfl) (fun w hw => ⟨_, rfl, _, ⟨(), rfl, rfl⟩, hw⟩)
  · rw [if_neg h5] at hm
    refine W.cond_t rfl (not_t (b_f h5)) ?_
    refine W.seq ?_
    refine W.region ?_
    refine WL.q (R.assign rfl) rfl ?_
    refine WL.nil ?_
    refine Go.then_ ?_
    refine W.ret ?_
    refine Go.r_then ?_
    have he := Option.some.inj hm
    clear hm
    subst r
    exact Go.ret1 rfl (.tmp rfl) (fun w hw => ⟨_, rfl, _, ⟨(), rfl, rfl⟩, hw.reord [] 1 rfl⟩)
set_option maxRecDepth 100000 in
theorem spec_l06Ahead_tr {G : World} {F : List Res} (q0 : Value) (p0 : (List Int)) (hp0 : RdT (Enc.int .i64) G F q0 p0) (q1 : Value) (p1 : (List Int)) (hp1 : RdT (Enc.int .i64) G F q1 p1) {r : Bool} (hm : spec_l06Ahead p0 p1 = some r) : Tr Try.prog G 34 [q0, q1] F (fun u K => ∃ x : Unit, u = (.bool r) ∧ K = F) := by
  unfold spec_l06Ahead at hm
  refine Tr.body Try.func34 rfl Try.ntmps34 ?_
  refine W.seq ?_
  refine W.region ?_
  refine WL.q (R.assign rfl) rfl ?_
  refine WL.nil ?_
  refine Go.then_ ?_
  refine W.seq ?_
  refine W.seq ?_
  refine W.region ?_
  refine WL.q (R.move rfl) rfl ?_
  refine WL.q (R.lenT rfl el43 (RdT.lift 0 rfl hp0)) rfl ?_
  refine WL.q (R.move rfl) rfl ?_
  refine WL.q (R.lenT rfl el43 (RdT.lift 0 rfl hp1)) rfl ?_
  refine WL.q (R.neq rfl rfl) rfl ?_
  refine WL.nil ?_
  refine Go.then_ ?_
  by_cases h1 : (p0.length : Int) ≠ (p1.length : Int)
  · rw [if_pos h1] at hm
    refine W.cond_t rfl (decide_eq_true h1) ?_
    refine W.seq ?_
    refine W.region ?_
    refine WL.q (R.move rfl) rfl ?_
    refine WL.q (R.lenT rfl el43 (RdT.lift 0 rfl hp0)) rfl ?_
    refine WL.q (R.move rfl) rfl ?_
    refine WL.q (R.lenT rfl el43 (RdT.lift 0 rfl hp1)) rfl ?_
    refine WL.q (R.lss rfl rfl) rfl ?_
    refine WL.q (R.assign rfl) rfl ?_
    refine WL.nil ?_
    refine Go.then_ ?_
    refine W.ret ?_
    refine Go.r_then ?_
    have he := Option.some.inj hm
    clear hm
    subst r
    exact Go.ret1 rfl (.tmp rfl) (fun w hw => ⟨_, rfl, _, ⟨(), rfl, rfl⟩, hw⟩)
  · rw [if_neg h1] at hm
    refine W.cond_f rfl (decide_eq_false h1) ?_
    refine W.skip ?_
    refine Go.then_ ?_
    refine W.seq ?_
    refine W.seq ?_
    refine W.region ?_
    refine WL.q (R.assign rfl) rfl ?_
    refine WL.nil ?_
    refine Go.then_ ?_
    refine W.block ?_
    obtain ⟨o3, hlo3, hm⟩ := of_bind hm
    refine W.loopx (fun (s2 : Int) a w => Sat G F 40 [(0, q0), (1, q1), (4, (.bool false)), (5, (.int .i64 s2))] a w) (fun (o3 : ((Unit) ⊕ (Bool))) e a w => (Sum.elim (fun o3 => And (e = (.exit 0)) (Sat G F 40 [(4, (.bool false))] a w)) (fun o3 => And (e = .ret) (Sat G F 40 [(4, (.bool o3))] a w))) o3) hlo3 (fun a w s => (Sat.mk (s.env.le ⟨rfl, rfl, rfl, rfl, trivial⟩) (s.mem))) ?_ ?_
    · clear hm
      intro s2 x hm a w hJ
      have s := hJ
      unfold spec_l06Ahead_L1 at hm
      refine W.use s ?_
      refine W.seq ?_
      refine W.seq ?_
      refine W.region ?_
      refine WL.q (R.move rfl) rfl ?_
      refine WL.q (R.move rfl) rfl ?_
      refine WL.q (R.lenT rfl el43 (RdT.lift 0 rfl hp0)) rfl ?_
      refine WL.q (R.lss rfl rfl) rfl ?_
      refine WL.nil ?_
      refine Go.then_ ?_
      by_cases h12 : s2 < (p0.length : Int)
      · rw [if_pos h12] at hm
        refine W.cond_t rfl (decide_eq_true h12) ?_
        refine W.skip ?_
        refine Go.then_ ?_
        refine W.seq ?_
        refine W.block ?_
        refine W.seq ?_
        obtain ⟨h13, hm⟩ := of_guard hm
        obtain ⟨h14, hm⟩ := of_guard hm
        refine W.join1 (fun a w => Sat G F 40 [(0, q0), (1, q1), (4, (.bool false)), (5, (.int .i64 s2)), (30, (.bool (decide (gl p0 s2 ≠ gl p1 s2))))] a w) ?_ ?_
        · refine W.draw (n := 9) F F 9 (by kernel_rfl) rfl rfl (fun w hw => hw) (fun w hw => hw.drop 0) ?_
          refine WK.q (i := 0) rfl rfl (by kernel_rfl) calm_n (R.move rfl) rfl rfl ?_
          refine WK.q (i := 1) rfl rfl (by kernel_rfl) calm_n (R.move rfl) rfl rfl ?_
          refine WK.q (i := 2) rfl rfl (by kernel_rfl) calm_n (R.idxT rfl rfl el43 (RdT.lift 0 rfl hp0) h13) rfl rfl ?_
          refine WK.q (i := 3) rfl rfl (by kernel_rfl) calm_n (R.load rfl (At.elT (RdT.lift 0 rfl hp0) (by decide) h13) (Lies.one _ ia2)) rfl rfl ?_
          refine WK.q (i := 4) rfl rfl (by kernel_rfl) calm_n (R.move rfl) rfl rfl ?_
          refine WK.x (i := 5) (by kernel_rfl) rfl (OpV.x (R.move rfl)) (fun _ w hw => hw) (fun _ _ _ w hw => hw) rfl rfl (by kernel_rfl) fun _ => ?_
          refine WK.x (i := 6) (by kernel_rfl) rfl (OpV.x (R.idxT rfl rfl el43 (RdT.lift 0 rfl hp1) h14)) (fun _ w hw => hw) (fun _ _ _ w hw => hw) rfl rfl (by kernel_rfl) fun _ => ?_
          refine WK.x (i := 7) (by kernel_rfl) rfl (OpV.x (R.load rfl (At.elT (RdT.lift 0 rfl hp1) (by decide) h14) (Lies.one _ ia2))) (fun _ w hw => hw) (fun _ _ _ w hw => hw) rfl rfl (by kernel_rfl) fun _ => ?_
          refine WK.x (i := 8) (by kernel_rfl) rfl (OpV.x (R.neq rfl rfl)) (fun _ w hw => hw) (fun _ _ _ w hw => hw) rfl rfl (by kernel_rfl) fun _ => ?_
          refine WK.nil (by kernel_rfl) ?_
          exact fun a w s => And.intro rfl (Sat.mk (s.env.le ⟨rfl, rfl, rfl, rfl, rfl, trivial⟩) (s.mem))
        · refine Go2.sat ?_
          refine Go.then_ ?_
          by_cases h15 : gl p0 s2 ≠ gl p1 s2
          · rw [if_pos h15] at hm
            refine W.cond_t rfl (decide_eq_true h15) ?_
            refine W.seq ?_
            refine W.join1 (fun a w => Sat G F 40 [(0, q0), (1, q1), (4, (.bool (decide (gl p0 s2 < gl p1 s2)))), (5, (.int .i64 s2))] a w) ?_ ?_
            · refine W.draw (n := 10) F F 10 (by kernel_rfl) rfl rfl (fun w hw => hw) (fun w hw => hw.drop 0) ?_
              refine WK.q (i := 0) rfl rfl (by kernel_rfl) calm_n (R.move rfl) rfl rfl ?_
              refine WK.q (i := 1) rfl rfl (by kernel_rfl) calm_n (R.move rfl) rfl rfl ?_
              refine WK.q (i := 2) rfl rfl (by kernel_rfl) calm_n (R.idxT rfl rfl el43 (RdT.lift 0 rfl hp0) h13) rfl rfl ?_
              refine WK.q (i := 3) rfl rfl (by kernel_rfl) calm_n (R.load rfl (At.elT (RdT.lift 0 rfl hp0) (by decide) h13) (Lies.one _ ia2)) rfl rfl ?_
              refine WK.q (i := 4) rfl rfl (by kernel_rfl) calm_n (R.move rfl) rfl rfl ?_
              refine WK.x (i := 5) (by kernel_rfl) rfl (OpV.x (R.move rfl)) (fun _ w hw => hw) (fun _ _ _ w hw => hw) rfl rfl (by kernel_rfl) fun _ => ?_
              refine WK.x (i := 6) (by kernel_rfl) rfl (OpV.x (R.idxT rfl rfl el43 (RdT.lift 0 rfl hp1) h14)) (fun _ w hw => hw) (fun _ _ _ w hw => hw) rfl rfl (by kernel_rfl) fun _ => ?_
              refine WK.x (i := 7) (by kernel_rfl) rfl (OpV.x (R.load rfl (At.elT (RdT.lift 0 rfl hp1) (by decide) h14) (Lies.one _ ia2))) (fun _ w hw => hw) (fun _ _ _ w hw => hw) rfl rfl (by kernel_rfl) fun _ => ?_
              refine WK.x (i := 8) (by kernel_rfl) rfl (OpV.x (R.lss rfl rfl)) (fun _ w hw => hw) (fun _ _ _ w hw => hw) rfl rfl (by kernel_rfl) fun _ => ?_
              refine WK.x (i := 9) (by kernel_rfl) rfl (OpV.x (R.assign rfl)) (fun _ w hw => hw) (fun _ _ _ w hw => hw) rfl rfl (by kernel_rfl) fun _ => ?_
              refine WK.nil (by kernel_rfl) ?_
              exact fun a w s => And.intro rfl (Sat.mk (s.env.le ⟨rfl, rfl, rfl, rfl, trivial⟩) (s.mem))
            · refine Go2.sat ?_
              refine Go.then_ ?_
              refine W.ret ?_
              refine Go.r_block ?_
              refine Go.r_then ?_
              have he := Option.some.inj hm
              clear hm
              subst x
              exact fun a w s => Exists.intro _ (And.intro rfl (And.intro rfl (Sat.mk (s.env.le ⟨rfl, trivial⟩) (s.mem))))
          · rw [if_neg h15] at hm
            refine W.cond_f rfl (decide_eq_false h15) ?_
            refine W.skip ?_
            refine Go.n_block ?_
            refine Go.then_ ?_
            refine W.region ?_
            refine WL.q (R.move rfl) rfl ?_
            refine WL.q (R.add rfl rfl) rfl ?_
            refine WL.q (R.assign rfl) rfl ?_
            refine WL.nil ?_
            have he := Option.some.inj hm
            clear hm
            subst x
            exact fun a w s => Exists.intro _ (And.intro rfl (Sat.mk (s.env.le ⟨rfl, rfl, rfl, rfl, trivial⟩) (s.mem)))
      · rw [if_neg h12] at hm
        refine W.cond_f rfl (decide_eq_false h12) ?_
        refine W.exit ?_
        refine Go.x_then ?_
        have he := Option.some.inj hm
        clear hm
        subst x
        exact fun a w s => Exists.intro _ (And.intro rfl (And.intro rfl (Sat.mk (s.env.le ⟨rfl, trivial⟩) (s.mem))))
    · intro e a w hJ
      rcases o3 with o3 | o3
      · simp only [Sum.elim_inl, Sum.elim_inr] at hm
        obtain ⟨rfl, s⟩ := hJ
        refine Go.use s ?_
        refine Go.x_block ?_
        refine Go.then_ ?_
        refine W.seq ?_
        refine W.region ?_
        refine WL.q (R.assign rfl) rfl ?_
        refine WL.nil ?_
        refine Go.then_ ?_
        refine W.ret ?_
        have he := Option.some.inj hm
        clear hm
        subst r
        exact Go.ret1 rfl (.tmp rfl) (fun w hw => ⟨_, rfl, _, ⟨(), rfl, rfl⟩, hw⟩)
      · simp only [Sum.elim_inl, Sum.elim_inr] at hm
        obtain ⟨rfl, s⟩ := hJ
        refine Go.use s ?_
        refine Go.r_block ?_
        refine Go.r_then ?_
        have he := Option.some.inj hm
        clear hm
        subst r
        exact Go.ret1 rfl (.tmp rfl) (fun w hw => ⟨_, rfl, _, ⟨(), rfl, rfl⟩, hw⟩)
set_option maxRecDepth 100000 in
theorem spec_l01Same2_tr {G : World} {F : List Res} (q0 : Value) (p0 : (List Int)) (hp0 : RdT (Enc.int .i64) G F q0 p0) (q1 : Value) (p1 : (List Int)) (hp1 : RdT (Enc.int .i64) G F q1 p1) {r : Bool} (hm : spec_l01Same2 p0 p1 = some r) : Tr Try.prog G 35 [q0, q1] F (fun u K => ∃ x : Unit, u = (.bool r) ∧ K = F) := by
  unfold spec_l01Same2 at hm
  refine Tr.body Try.func35 rfl Try.ntmps35 ?_
  refine W.seq ?_
  refine W.region ?_
  refine WL.q (R.assign rfl) rfl ?_
  refine WL.nil ?_
  refine Go.then_ ?_
  refine W.seq ?_
  refine W.seq ?_
  refine W.region ?_
  refine WL.q (R.move rfl) rfl ?_
  refine WL.q (R.lenT rfl el43 (RdT.lift 0 rfl hp0)) rfl ?_
  refine WL.q (R.move rfl) rfl ?_
  refine WL.q (R.lenT rfl el43 (RdT.lift 0 rfl hp1)) rfl ?_
  refine WL.q (R.neq rfl rfl) rfl ?_
  refine WL.nil ?_
  refine Go.then_ ?_
  by_cases h1 : (p0.length : Int) ≠ (p1.length : Int)
  · rw [if_pos h1] at hm
    refine W.cond_t rfl (decide_eq_true h1) ?_
    refine W.seq ?_
    refine W.region ?_
    refine WL.q (R.assign rfl) rfl ?_
    refine WL.nil ?_
    refine Go.then_ ?_
    refine W.ret ?_
    refine Go.r_then ?_
    have he := Option.some.inj hm
    clear hm
    subst r
    exact Go.ret1 rfl (.tmp rfl) (fun w hw => ⟨_, rfl, _, ⟨(), rfl, rfl⟩, hw⟩)
  · rw [if_neg h1] at hm
    refine W.cond_f rfl (decide_eq_false h1) ?_
    refine W.skip ?_
    refine Go.then_ ?_
    refine W.seq ?_
    refine W.seq ?_
    refine W.region ?_
    refine WL.q (R.assign rfl) rfl ?_
    refine WL.nil ?_
    refine Go.then_ ?_
    refine W.block ?_
    obtain ⟨o3, hlo3, hm⟩ := of_bind hm
    refine W.loopx (fun (s2 : Int) a w => Sat G F 26 [(0, q0), (1, q1), (4, (.bool false)), (5, (.int .i64 s2))] a w) (fun (o3 : ((Unit) ⊕ (Unit))) e a w => (Sum.elim (fun o3 => And (e = (.exit 0)) (Sat G F 26 [(4, (.bool false))] a w)) (fun o3 => And (e = .ret) (Sat G F 26 [(4, (.bool false))] a w))) o3) hlo3 (fun a w s => (Sat.mk (s.env.le ⟨rfl, rfl, rfl, rfl, trivial⟩) (s.mem))) ?_ ?_
    · clear hm
      intro s2 x hm a w hJ
      have s := hJ
      unfold spec_l01Same2_L1 at hm
      refine W.use s ?_
      refine W.seq ?_
      refine W.seq ?_
      refine W.region ?_
      refine WL.q (R.move rfl) rfl ?_
      refine WL.q (R.move rfl) rfl ?_
      refine WL.q (R.lenT rfl el43 (RdT.lift 0 rfl hp0)) rfl ?_
      refine WL.q (R.lss rfl rfl) rfl ?_
      refine WL.nil ?_
      refine Go.then_ ?_
      by_cases h12 : s2 < (p0.length : Int)
      · rw [if_pos h12] at hm
        refine W.cond_t rfl (decide_eq_true h12) ?_
        refine W.skip ?_
        refine Go.then_ ?_
        refine W.seq ?_
        refine W.block ?_
        refine W.seq ?_
        obtain ⟨h13, hm⟩ := of_guard hm
        obtain ⟨h14, hm⟩ := of_guard hm
        refine W.join1 (fun a w => Sat G F 26 [(0, q0), (1, q1), (4, (.bool false)), (5, (.int .i64 s2)), (25, (.bool (decide (gl p0 s2 ≠ gl p1 s2))))] a w) ?_ ?_
        · refine W.draw (n := 9) F F 9 (by kernel_rfl) rfl rfl (fun w hw => hw) (fun w hw => hw.drop 0) ?_
          refine WK.q (i := 0) rfl rfl (by kernel_rfl) calm_n (R.move rfl) rfl rfl ?_
          refine WK.q (i := 1) rfl rfl (by kernel_rfl) calm_n (R.move rfl) rfl rfl ?_
          refine WK.q (i := 2) rfl rfl (by kernel_rfl) calm_n (R.idxT rfl rfl el43 (RdT.lift 0 rfl hp0) h13) rfl rfl ?_
          refine WK.q (i := 3) rfl rfl (by kernel_rfl) calm_n (R.load rfl (At.elT (RdT.lift 0 rfl hp0) (by decide) h13) (Lies.one _ ia2)) rfl rfl ?_
          refine WK.q (i := 4) rfl rfl (by kernel_rfl) calm_n (R.move rfl) rfl rfl ?_
          refine WK.x (i := 5) (by kernel_rfl) rfl (OpV.x (R.move rfl)) (fun _ w hw => hw) (fun _ _ _ w hw => hw) rfl rfl (by kernel_rfl) fun _ => ?_
          refine WK.x (i := 6) (by kernel_rfl) rfl (OpV.x (R.idxT rfl rfl el43 (RdT.lift 0 rfl hp1) h14)) (fun _ w hw => hw) (fun _ _ _ w hw => hw) rfl rfl (by kernel_rfl) fun _ => ?_
          refine WK.x (i := 7) (by kernel_rfl) rfl (OpV.x (R.load rfl (At.elT (RdT.lift 0 rfl hp1) (by decide) h14) (Lies.one _ ia2))) (fun _ w hw => hw) (fun _ _ _ w hw => hw) rfl rfl (by kernel_rfl) fun _ => ?_
          refine WK.x (i := 8) (by kernel_rfl) rfl (OpV.x (R.neq rfl rfl)) (fun _ w hw => hw) (fun _ _ _ w hw => hw) rfl rfl (by kernel_rfl) fun _ => ?_
          refine WK.nil (by kernel_rfl) ?_
          exact fun a w s => And.intro rfl (Sat.mk (s.env.le ⟨rfl, rfl, rfl, rfl, rfl, trivial⟩) (s.mem))
        · refine Go2.sat ?_
          refine Go.then_ ?_
          by_cases h15 : gl p0 s2 ≠ gl p1 s2
          · rw [if_pos h15] at hm
            refine W.cond_t rfl (decide_eq_true h15) ?_
            refine W.seq ?_
            refine W.region ?_
            refine WL.q (R.assign rfl) rfl ?_
            refine WL.nil ?_
            refine Go.then_ ?_
            refine W.ret ?_
            refine Go.r_block ?_
            refine Go.r_then ?_
            have he := Option.some.inj hm
            clear hm
            subst x
            exact fun a w s => Exists.intro _ (And.intro rfl (And.intro rfl (Sat.mk (s.env.le ⟨rfl, trivial⟩) (s.mem))))
          · rw [if_neg h15] at hm
            refine W.cond_f rfl (decide_eq_false h15) ?_
            refine W.skip ?_
            refine Go.n_block ?_
            refine Go.then_ ?_
            refine W.region ?_
            refine WL.q (R.move rfl) rfl ?_
            refine WL.q (R.add rfl rfl) rfl ?_
            refine WL.q (R.assign rfl) rfl ?_
            refine WL.nil ?_
            have he := Option.some.inj hm
            clear hm
            subst x
            exact fun a w s => Exists.intro _ (And.intro rfl (Sat.mk (s.env.le ⟨rfl, rfl, rfl, rfl, trivial⟩) (s.mem)))
      · rw [if_neg h12] at hm
        refine W.cond_f rfl (decide_eq_false h12) ?_
        refine W.exit ?_
        refine Go.x_then ?_
        have he := Option.some.inj hm
        clear hm
        subst x
        exact fun a w s => Exists.intro _ (And.intro rfl (And.intro rfl (Sat.mk (s.env.le ⟨rfl, trivial⟩) (s.mem))))
    · intro e a w hJ
      rcases o3 with o3 | o3
      · simp only [Sum.elim_inl, Sum.elim_inr] at hm
        obtain ⟨rfl, s⟩ := hJ
        refine Go.use s ?_
        refine Go.x_block ?_
        refine Go.then_ ?_
        refine W.seq ?_
        refine W.region ?_
        refine WL.q (R.assign rfl) rfl ?_
        refine WL.nil ?_
        refine Go.then_ ?_
        refine W.ret ?_
        have he := Option.some.inj hm
        clear hm
        subst r
        exact Go.ret1 rfl (.tmp rfl) (fun w hw => ⟨_, rfl, _, ⟨(), rfl, rfl⟩, hw⟩)
      · simp only [Sum.elim_inl, Sum.elim_inr] at hm
        obtain ⟨rfl, s⟩ := hJ
        refine Go.use s ?_
        refine Go.r_block ?_
        refine Go.r_then ?_
        have he := Option.some.inj hm
        clear hm
        subst r
        exact Go.ret1 rfl (.tmp rfl) (fun w hw => ⟨_, rfl, _, ⟨(), rfl, rfl⟩, hw⟩)
set_option maxRecDepth 100000 in
theorem spec_l06Insert_tr {G : World} {F : List Res} (q0 : Value) (qs_0 : List Value) (p0 : (List (List Int))) (q1 : Value) (p1 : (List Int)) {r : (List (List Int))} (hm : spec_l06Insert p0 p1 = some r) : Tr Try.prog G 20 [q0, q1] ((nr (Enc.int .i64) q0 qs_0 p0) :: (slT (Enc.int .i64) q1 p1) :: F) (fun u K => ∃ x : (Value × List Value), u = x.1 ∧ K = ((nr (Enc.int .i64) x.1 x.2 r) :: F)) := by
  unfold spec_l06Insert at hm
  refine Tr.body Try.func20 rfl Try.ntmps20 ?_
  refine W.seq ?_
  refine W.region ?_
  refine WL.q (R.assign rfl) rfl ?_
  refine WL.nil ?_
  refine Go.then_ ?_
  refine W.seq ?_
  refine W.region ?_
  refine WL.q (R.assign rfl) rfl ?_
  refine WL.nil ?_
  refine Go.then_ ?_
  refine W.seq ?_
  refine W.block ?_
  obtain ⟨o2, hlo2, hm⟩ := of_bind hm
  refine W.loopx (fun (s1 : Int) a w => Sat G ((nr (Enc.int .i64) q0 qs_0 p0) :: (slT (Enc.int .i64) q1 p1) :: F) 47 [(0, q0), (1, q1), (4, (.slice none 0 0)), (5, (.int .i64 s1))] a w) (fun (o2 : Int) e a w => And (e = (.exit 0)) (Sat G ((nr (Enc.int .i64) q0 qs_0 p0) :: (slT (Enc.int .i64) q1 p1) :: F) 47 [(0, q0), (1, q1), (4, (.slice none 0 0)), (5, (.int .i64 o2))] a w)) hlo2 (fun a w s => (Sat.mk (s.env.le ⟨rfl, rfl, rfl, rfl, trivial⟩) (s.mem))) ?_ ?_
  · clear hm
    intro s1 x hm a w hJ
    have s := hJ
    unfold spec_l06Insert_L1 at hm
    refine W.use s ?_
    refine W.seq ?_
    obtain ⟨o22, hm, hmo22⟩ := of_bind hm
    refine W.seq ?_
    refine W.join (fun e a w => And (e = .normal) (Sat G ((nr (Enc.int .i64) q0 qs_0 p0) :: (slT (Enc.int .i64) q1 p1) :: F) 47 [(0, q0), (1, q1), (4, (.slice none 0 0)), (5, (.int .i64 s1)), (18, (.bool o22))] a w)) ?_ ?_
    · refine W.region ?_
      refine WL.q (R.move rfl) rfl ?_
      refine WL.q (R.move rfl) rfl ?_
      refine WL.q (R.lenN rfl nl26 (RdN.atR 0 rfl)) rfl ?_
      refine WL.q (R.lss rfl rfl) rfl ?_
      refine WL.q (R.move rfl) rfl ?_
      by_cases h17 : s1 < (p0.length : Int)
      · rw [if_pos h17] at hm
        refine WL.on rfl rfl (decide_eq_true h17) ?_
        refine WL.q (R.move rfl) rfl ?_
        refine WL.on rfl rfl (decide_eq_true h17) ?_
        refine WL.q (R.move rfl) rfl ?_
        obtain ⟨h18, hm⟩ := of_guard hm
        refine WL.on rfl rfl (decide_eq_true h17) ?_
        refine WL.q (R.idxN rfl rfl nl26 (RdN.atR 0 rfl) h18) rfl ?_
        refine WL.on rfl rfl (decide_eq_true h17) ?_
        refine WL.q (R.load rfl (At.elN (RdN.atR 0 rfl) h18) (Lies.one _ ia43)) rfl ?_
        refine WL.on rfl rfl (decide_eq_true h17) ?_
        refine WL.q (R.move rfl) rfl ?_
        obtain ⟨o19, h20, hm⟩ := of_bind hm
        refine WL.on rfl rfl (decide_eq_true h17) ?_
        refine WL.x (R.call rfl en34 (spec_l06Ahead_tr (gl qs_0 s1) (gl p0 s1) (RdN.inner (RdN.atR 0 rfl) h18) q1 p1 (RdT.at 1 rfl) h20)) rfl fun x21 => ?_
        refine WL.q (R.pick_t rfl (decide_eq_true h17) rfl) rfl ?_
        refine WL.nil ?_
        have he := Option.some.inj hm
        clear hm
        subst o22
        exact fun a w s => And.intro rfl (Sat.mk (s.env.le ⟨rfl, rfl, rfl, rfl, rfl, trivial⟩) (s.mem))
      · rw [if_neg h17] at hm
        refine WL.off rfl rfl (decide_eq_false h17) rfl ?_
        refine WL.off rfl rfl (decide_eq_false h17) rfl ?_
        refine WL.off rfl rfl (decide_eq_false h17) rfl ?_
        refine WL.off rfl rfl (decide_eq_false h17) rfl ?_
        refine WL.off rfl rfl (decide_eq_false h17) rfl ?_
        refine WL.off rfl rfl (decide_eq_false h17) rfl ?_
        refine WL.q (R.pick_f rfl (decide_eq_false h17) rfl) rfl ?_
        refine WL.nil ?_
        have he := Option.some.inj hm
        clear hm
        subst o22
        exact fun a w s => And.intro rfl (Sat.mk (s.env.le ⟨rfl, rfl, rfl, rfl, rfl, trivial⟩) (s.mem))
    · intro e a w hJ
      replace hm := hmo22
      clear hmo22
      obtain ⟨rfl, s⟩ := hJ
      refine Go.use s ?_
      refine Go.then_ ?_
      by_cases h23 : o22 = true
      · rw [if_pos h23] at hm
        refine W.cond_t rfl h23 ?_
        refine W.skip ?_
        refine Go.then_ ?_
        refine W.block ?_
        refine W.region ?_
        refine WL.q (R.move rfl) rfl ?_
        refine WL.q (R.add rfl rfl) rfl ?_
        refine WL.q (R.assign rfl) rfl ?_
        refine WL.nil ?_
        refine Go.n_block ?_
        have he := Option.some.inj hm
        clear hm
        subst x
        exact fun a w s => Exists.intro _ (And.intro rfl (Sat.mk (s.env.le ⟨rfl, rfl, rfl, rfl, trivial⟩) (s.mem)))
      · rw [if_neg h23] at hm
        refine W.cond_f rfl (b_f h23) ?_
        refine W.exit ?_
        refine Go.x_then ?_
        have he := Option.some.inj hm
        clear hm
        subst x
        exact fun a w s => Exists.intro _ (And.intro rfl (And.intro rfl (Sat.mk (s.env.le ⟨rfl, rfl, rfl, rfl, trivial⟩) (s.mem))))
  · intro e a w hJ
    obtain ⟨rfl, s⟩ := hJ
    refine Go.use s ?_
    refine Go.x_block ?_
    refine Go.then_ ?_
    refine W.seq ?_
    obtain ⟨o29, hm, hmo29⟩ := of_bind hm
    refine W.seq ?_
    refine W.join (fun e a w => And (e = .normal) (Sat G ((nr (Enc.int .i64) q0 qs_0 p0) :: (slT (Enc.int .i64) q1 p1) :: F) 47 [(0, q0), (1, q1), (4, (.slice none 0 0)), (5, (.int .i64 o2)), (32, (.bool o29))] a w)) ?_ ?_
    · refine W.region ?_
      refine WL.q (R.move rfl) rfl ?_
      refine WL.q (R.move rfl) rfl ?_
      refine WL.q (R.lenN rfl nl26 (RdN.atR 0 rfl)) rfl ?_
      refine WL.q (R.lss rfl rfl) rfl ?_
      refine WL.q (R.move rfl) rfl ?_
      by_cases h24 : o2 < (p0.length : Int)
      · rw [if_pos h24] at hm
        refine WL.on rfl rfl (decide_eq_true h24) ?_
        refine WL.q (R.move rfl) rfl ?_
        refine WL.on rfl rfl (decide_eq_true h24) ?_
        refine WL.q (R.move rfl) rfl ?_
        obtain ⟨h25, hm⟩ := of_guard hm
        refine WL.on rfl rfl (decide_eq_true h24) ?_
        refine WL.q (R.idxN rfl rfl nl26 (RdN.atR 0 rfl) h25) rfl ?_
        refine WL.on rfl rfl (decide_eq_true h24) ?_
        refine WL.q (R.load rfl (At.elN (RdN.atR 0 rfl) h25) (Lies.one _ ia43)) rfl ?_
        refine WL.on rfl rfl (decide_eq_true h24) ?_
        refine WL.q (R.move rfl) rfl ?_
        obtain ⟨o26, h27, hm⟩ := of_bind hm
        refine WL.on rfl rfl (decide_eq_true h24) ?_
        refine WL.x (R.call rfl en35 (spec_l01Same2_tr (gl qs_0 o2) (gl p0 o2) (RdN.inner (RdN.atR 0 rfl) h25) q1 p1 (RdT.at 1 rfl) h27)) rfl fun x28 => ?_
        refine WL.q (R.pick_t rfl (decide_eq_true h24) rfl) rfl ?_
        refine WL.nil ?_
        have he := Option.some.inj hm
        clear hm
        subst o29
        exact fun a w s => And.intro rfl (Sat.mk (s.env.le ⟨rfl, rfl, rfl, rfl, rfl, trivial⟩) (s.mem))
      · rw [if_neg h24] at hm
        refine WL.off rfl rfl (decide_eq_false h24) rfl ?_
        refine WL.off rfl rfl (decide_eq_false h24) rfl ?_
        refine WL.off rfl rfl (decide_eq_false h24) rfl ?_
        refine WL.off rfl rfl (decide_eq_false h24) rfl ?_
        refine WL.off rfl rfl (decide_eq_false h24) rfl ?_
        refine WL.off rfl rfl (decide_eq_false h24) rfl ?_
        refine WL.q (R.pick_f rfl (decide_eq_false h24) rfl) rfl ?_
        refine WL.nil ?_
        have he := Option.some.inj hm
        clear hm
        subst o29
        exact fun a w s => And.intro rfl (Sat.mk (s.env.le ⟨rfl, rfl, rfl, rfl, rfl, trivial⟩) (s.mem))
    · intro e a w hJ
      replace hm := hmo29
      clear hmo29
      obtain ⟨rfl, s⟩ := hJ
      refine Go.use s ?_
      refine Go.then_ ?_
      by_cases h30 : o29 = true
      · rw [if_pos h30] at hm
        refine W.cond_t rfl h30 ?_
        refine W.seq ?_
        refine W.region ?_
        refine WL.q (R.move rfl) rfl ?_
        refine WL.q (R.assign rfl) rfl ?_
        refine WL.nil ?_
        refine Go.then_ ?_
        refine W.ret ?_
        refine Go.r_then ?_
        have he := Option.some.inj hm
        clear hm
        subst r
        exact Go.ret1 rfl (.tmp rfl) (fun w hw => ⟨_, rfl, _, ⟨(q0, qs_0), rfl, rfl⟩, hw.reord [0] 2 rfl⟩)
      · rw [if_neg h30] at hm
        refine W.cond_f rfl (b_f h30) ?_
        refine W.skip ?_
        refine Go.then_ ?_
        refine W.seq ?_
        refine W.region ?_
        refine WL.q (R.move rfl) rfl ?_
        refine WL.x (R.build1 (e := (Enc.int .i64)) nl26 rfl rfl (RdT.at 1 rfl)) rfl fun v31 => ?_
        refine WL.q (R.move rfl) rfl ?_
        refine WL.q (R.move rfl) rfl ?_
        obtain ⟨h32, hm⟩ := of_guard hm
        refine WL.q (R.cutN rfl nl26 (RdN.atR 1 rfl) h32 (.at rfl) .no) rfl ?_
        obtain ⟨h34, hm⟩ := of_guard hm
        refine WL.x ((R.appendRR (e := (Enc.int .i64)) (F := F) (l := o2) (k := (p0.length : Int)) rfl rfl nl26 nl26 h32 h34).weak (fun w hw => (hw.reord [0, 2, 1] 3 rfl).nestR1.reord [0, 1] 2 rfl)) rfl fun v33 => ?_
        refine WL.q (R.assign rfl) rfl ?_
        refine WL.nil ?_
        refine Go.then_ ?_
        refine W.seq ?_
        refine W.region ?_
        refine WL.x (R.buildN (e := (Enc.int .i64)) nl26 rfl rfl) rfl fun v35 => ?_
        refine WL.q (R.move rfl) rfl ?_
        refine WL.q (R.move rfl) rfl ?_
        obtain ⟨h36, hm⟩ := of_guard hm
        refine WL.q (R.cutN rfl nl26 (RdN.atR 2 rfl) h36 .no (.at rfl)) rfl ?_
        obtain ⟨h38, hm⟩ := of_guard hm
        refine WL.x ((R.appendRR (e := (Enc.int .i64)) (F := ((nr (Enc.int .i64) v33 (([q1]) ++ (subl qs_0 o2 (p0.length : Int))) (([p1]) ++ (subl p0 o2 (p0.length : Int)))) :: F)) (l := 0) (k := o2) rfl rfl nl26 nl26 h36 h38).weak (fun w hw => (hw).sealN.reord [0, 2, 1] 3 rfl)) rfl fun v37 => ?_
        refine WL.q (R.move rfl) rfl ?_
        obtain ⟨h40, hm⟩ := of_guard hm
        refine WL.x ((R.appendRA (e := (Enc.int .i64)) (F := ((nr (Enc.int .i64) q0 qs_0 p0) :: F)) rfl rfl nl26 nl26 h40).weak (fun w hw => hw.reord [0, 2, 1] 3 rfl)) rfl fun v39 => ?_
        refine WL.q (R.assign rfl) rfl ?_
        refine WL.nil ?_
        refine Go.then_ ?_
        refine W.ret ?_
        have he := Option.some.inj hm
        clear hm
        subst r
        exact Go.ret1 rfl (.tmp rfl) (fun w hw => ⟨_, rfl, _, ⟨(v39, (([]) ++ (subl qs_0 0 o2)) ++ (([q1]) ++ (subl qs_0 o2 (p0.length : Int)))), rfl, rfl⟩, hw.reord [0] 3 rfl⟩)
set_option maxRecDepth 100000 in
theorem spec_l06Told_tr {G : World} {F : List Res} (p0 : (Vector Int 10)) (p1 : Int) {r : (List (List Int))} (hm : spec_l06Told p0 p1 = some r) : Tr Try.prog G 36 [(.agg (((Enc.int .i64).arr 10).cells p0).toArray), (.int .i64 p1)] F (fun u K => ∃ x : (Value × List Value), u = x.1 ∧ K = ((ns (Enc.int .i64) x.1 x.2 r) :: F)) := by
  unfold spec_l06Told at hm
  refine Tr.body Try.func36 rfl Try.ntmps36 ?_
  refine W.seq ?_
  refine W.region ?_
  refine WL.x (R.box rfl (cells_agg _)) rfl fun b1 => ?_
  refine WL.q (R.assign rfl) rfl ?_
  refine WL.nil ?_
  refine Go.then_ ?_
  refine W.seq ?_
  refine W.region ?_
  refine WL.x (R.buildN (e := (Enc.int .i64)) nl26 rfl rfl) rfl fun v2 => ?_
  refine WL.q (bz71 rfl) rfl ?_
  refine WL.x (al71) rfl fun b3 => ?_
  refine WL.q (R.assign rfl) rfl ?_
  refine WL.x0 (R.store_bx (i := 0) rfl rfl rfl (fits_agg (Enc.bool.arr 10) (Vector.replicate 10 false) sz71) (Up.all (Enc.bool.arr 10) _ _)) fun _ => ?_
  refine WL.nil ?_
  refine Go.then_ ?_
  refine W.seq ?_
  refine W.seq ?_
  refine W.region ?_
  refine WL.q (R.assign rfl) rfl ?_
  refine WL.nil ?_
  refine Go.then_ ?_
  refine W.block ?_
  obtain ⟨o5, hlo5, hm⟩ := of_bind hm
  refine W.loopx (fun (s4 : ((Vector Bool 10) × (List (List Int)) × Int)) a w => ∃ v119 : Value, ∃ v120 : List Value, Sat G ((ns (Enc.int .i64) v119 v120 s4.2.1) :: (bx b3 ((Enc.bool.arr 10).cells s4.1)) :: (bx b1 (((Enc.int .i64).arr 10).cells p0)) :: F) 61 [(1, (.int .i64 p1)), (2, (.pointer (some ⟨b1, 0, none⟩))), (4, (.slice none 0 0)), (5, v119), (6, (.pointer (some ⟨b3, 0, none⟩))), (7, (.int .i64 s4.2.2))] a w) (fun (o5 : (List (List Int))) e a w => And (e = (.exit 0)) (∃ v181 : Value, ∃ v182 : List Value, Sat G ((ns (Enc.int .i64) v181 v182 o5) :: F) 61 [(4, (.slice none 0 0)), (5, v181)] a w)) hlo5 (fun a w s => (Exists.intro v2 (Exists.intro ([]) (Sat.mk (s.env.le ⟨rfl, rfl, rfl, rfl, rfl, rfl, trivial⟩) (s.mem.reord [1, 0, 2] 3 rfl))))) ?_ ?_
  · clear hm
    intro s4 x hm a w hJ
    obtain ⟨v119, v120, s⟩ := hJ
    unfold spec_l06Told_L1 at hm
    refine W.use s ?_
    refine W.seq ?_
    refine W.seq ?_
    refine W.region ?_
    refine WL.q (R.move rfl) rfl ?_
    refine WL.q (R.move rfl) rfl ?_
    refine WL.q (R.lss rfl rfl) rfl ?_
    refine WL.nil ?_
    refine Go.then_ ?_
    by_cases h121 : s4.2.2 < p1
    · rw [if_pos h121] at hm
      refine W.cond_t rfl (decide_eq_true h121) ?_
      refine W.skip ?_
      refine Go.then_ ?_
      obtain ⟨o176, hm, hmo176⟩ := of_bind hm
      refine W.seq ?_
      refine W.join (fun e a w => And (e = .normal) (∃ v177 : Value, ∃ v178 : List Value, Sat G ((ns (Enc.int .i64) v177 v178 o176.2) :: (bx b3 ((Enc.bool.arr 10).cells o176.1)) :: (bx b1 (((Enc.int .i64).arr 10).cells p0)) :: F) 61 [(1, (.int .i64 p1)), (2, (.pointer (some ⟨b1, 0, none⟩))), (4, (.slice none 0 0)), (5, v177), (6, (.pointer (some ⟨b3, 0, none⟩))), (7, (.int .i64 s4.2.2))] a w)) ?_ ?_
      · refine W.block ?_
        refine W.seq ?_
        refine W.region ?_
        refine WL.x (R.buildT ([] : List Int) el43 rfl rfl rfl rfl rfl (by decide) (by decide)) rfl fun v122 => ?_
        refine WL.q (R.assign rfl) rfl ?_
        refine WL.nil ?_
        refine Go.then_ ?_
        refine W.seq ?_
        refine W.seq ?_
        refine W.region ?_
        refine WL.q (R.move rfl) rfl ?_
        refine WL.q (R.assign rfl) rfl ?_
        refine WL.nil ?_
        refine Go.then_ ?_
        refine W.block ?_
        obtain ⟨o124, hlo124, hm⟩ := of_bind hm
        refine W.loopx (fun (s123 : ((List Int) × Int)) a w => ∃ v146 : Value, Sat G ((slT (Enc.int .i64) v146 s123.1) :: (ns (Enc.int .i64) v119 v120 s4.2.1) :: (bx b3 ((Enc.bool.arr 10).cells s4.1)) :: (bx b1 (((Enc.int .i64).arr 10).cells p0)) :: F) 61 [(1, (.int .i64 p1)), (2, (.pointer (some ⟨b1, 0, none⟩))), (4, (.slice none 0 0)), (5, v119), (6, (.pointer (some ⟨b3, 0, none⟩))), (7, (.int .i64 s4.2.2)), (8, v146), (9, (.int .i64 s123.2))] a w) (fun (o124 : (List Int)) e a w => And (e = (.exit 2)) (∃ v160 : Value, Sat G ((slT (Enc.int .i64) v160 o124) :: (ns (Enc.int .i64) v119 v120 s4.2.1) :: (bx b3 ((Enc.bool.arr 10).cells s4.1)) :: (bx b1 (((Enc.int .i64).arr 10).cells p0)) :: F) 61 [(1, (.int .i64 p1)), (2, (.pointer (some ⟨b1, 0, none⟩))), (4, (.slice none 0 0)), (5, v119), (6, (.pointer (some ⟨b3, 0, none⟩))), (7, (.int .i64 s4.2.2)), (8, v160)] a w)) hlo124 (fun a w s => (Exists.intro v122 (Sat.mk (s.env.le ⟨rfl, rfl, rfl, rfl, rfl, rfl, rfl, rfl, trivial⟩) (s.mem)))) ?_ ?_
        · clear hm
          intro s123 x hm a w hJ
          obtain ⟨v146, s⟩ := hJ
          unfold spec_l06Told_L2 at hm
          refine W.use s ?_
          refine W.seq ?_
          obtain ⟨o149, hm, hmo149⟩ := of_bind hm
          refine W.seq ?_
          refine W.join (fun e a w => And (e = .normal) (Sat G ((slT (Enc.int .i64) v146 s123.1) :: (ns (Enc.int .i64) v119 v120 s4.2.1) :: (bx b3 ((Enc.bool.arr 10).cells s4.1)) :: (bx b1 (((Enc.int .i64).arr 10).cells p0)) :: F) 61 [(1, (.int .i64 p1)), (2, (.pointer (some ⟨b1, 0, none⟩))), (4, (.slice none 0 0)), (5, v119), (6, (.pointer (some ⟨b3, 0, none⟩))), (7, (.int .i64 s4.2.2)), (8, v146), (9, (.int .i64 s123.2)), (28, (.bool o149))] a w)) ?_ ?_
          · refine W.region ?_
            refine WL.q (R.move rfl) rfl ?_
            refine WL.q (R.move rfl) rfl ?_
            refine WL.q (R.lss rfl rfl) rfl ?_
            refine WL.q (R.move rfl) rfl ?_
            by_cases h147 : s123.2 < p1
            · rw [if_pos h147] at hm
              refine WL.on rfl rfl (decide_eq_true h147) ?_
              refine WL.q (R.move rfl) rfl ?_
              obtain ⟨h148, hm⟩ := of_guard hm
              refine WL.on rfl rfl (decide_eq_true h147) ?_
              refine WL.q (R.indexArr rfl rfl un71 sz4 h148.1 h148.2) rfl ?_
              refine WL.on rfl rfl (decide_eq_true h147) ?_
              refine WL.q (R.load rfl (At.sub (At.bx 2 rfl (Sub.refl _)) (sub_arr Enc.bool (v := s4.1) h148.1 h148.2)) (Lies.one _ ia4)) rfl ?_
              refine WL.on rfl rfl (decide_eq_true h147) ?_
              refine WL.q (R.not rfl) rfl ?_
              refine WL.q (R.pick_t rfl (decide_eq_true h147) rfl) rfl ?_
              refine WL.nil ?_
              have he := Option.some.inj hm
              clear hm
              subst o149
              exact fun a w s => And.intro rfl (Sat.mk (s.env.le ⟨rfl, rfl, rfl, rfl, rfl, rfl, rfl, rfl, rfl, trivial⟩) (s.mem))
            · rw [if_neg h147] at hm
              refine WL.off rfl rfl (decide_eq_false h147) rfl ?_
              refine WL.off rfl rfl (decide_eq_false h147) rfl ?_
              refine WL.off rfl rfl (decide_eq_false h147) rfl ?_
              refine WL.off rfl rfl (decide_eq_false h147) rfl ?_
              refine WL.q (R.pick_f rfl (decide_eq_false h147) rfl) rfl ?_
              refine WL.nil ?_
              have he := Option.some.inj hm
              clear hm
              subst o149
              exact fun a w s => And.intro rfl (Sat.mk (s.env.le ⟨rfl, rfl, rfl, rfl, rfl, rfl, rfl, rfl, rfl, trivial⟩) (s.mem))
          · intro e a w hJ
            replace hm := hmo149
            clear hmo149
            obtain ⟨rfl, s⟩ := hJ
            refine Go.use s ?_
            refine Go.then_ ?_
            by_cases h150 : o149 = true
            · rw [if_pos h150] at hm
              refine W.cond_t rfl h150 ?_
              refine W.skip ?_
              refine Go.then_ ?_
              obtain ⟨o157, hm, hmo157⟩ := of_bind hm
              refine W.seq ?_
              refine W.join (fun e a w => And (e = .normal) (∃ v158 : Value, Sat G ((slT (Enc.int .i64) v158 o157) :: (ns (Enc.int .i64) v119 v120 s4.2.1) :: (bx b3 ((Enc.bool.arr 10).cells s4.1)) :: (bx b1 (((Enc.int .i64).arr 10).cells p0)) :: F) 61 [(1, (.int .i64 p1)), (2, (.pointer (some ⟨b1, 0, none⟩))), (4, (.slice none 0 0)), (5, v119), (6, (.pointer (some ⟨b3, 0, none⟩))), (7, (.int .i64 s4.2.2)), (8, v158), (9, (.int .i64 s123.2))] a w)) ?_ ?_
              · refine W.block ?_
                refine W.seq ?_
                obtain ⟨h151, hm⟩ := of_guard hm
                obtain ⟨h152, hm⟩ := of_guard hm
                refine W.join1 (fun a w => Sat G ((slT (Enc.int .i64) v146 s123.1) :: (ns (Enc.int .i64) v119 v120 s4.2.1) :: (bx b3 ((Enc.bool.arr 10).cells s4.1)) :: (bx b1 (((Enc.int .i64).arr 10).cells p0)) :: F) 61 [(1, (.int .i64 p1)), (2, (.pointer (some ⟨b1, 0, none⟩))), (4, (.slice none 0 0)), (5, v119), (6, (.pointer (some ⟨b3, 0, none⟩))), (7, (.int .i64 s4.2.2)), (8, v146), (9, (.int .i64 s123.2)), (37, (.bool (decide (gv p0 s123.2 = gv p0 s4.2.2))))] a w) ?_ ?_
                · refine W.draw (n := 7) ((slT (Enc.int .i64) v146 s123.1) :: (ns (Enc.int .i64) v119 v120 s4.2.1) :: (bx b3 ((Enc.bool.arr 10).cells s4.1)) :: (bx b1 (((Enc.int .i64).arr 10).cells p0)) :: F) F 7 (by kernel_rfl) rfl rfl (fun w hw => hw) (fun w hw => hw.drop 4) ?_
                  refine WK.q (i := 0) rfl rfl (by kernel_rfl) calm_n (R.move rfl) rfl rfl ?_
                  refine WK.q (i := 1) rfl rfl (by kernel_rfl) calm_n (R.indexArr rfl rfl un60 sz2 h151.1 h151.2) rfl rfl ?_
                  refine WK.q (i := 2) rfl rfl (by kernel_rfl) calm_n (R.load rfl (At.sub (At.bx 3 rfl (Sub.refl _)) (sub_arr (Enc.int .i64) (v := p0) h151.1 h151.2)) (Lies.one _ ia2)) rfl rfl ?_
                  refine WK.x (i := 3) (by kernel_rfl) rfl (OpV.x (R.move rfl)) (fun _ w hw => hw) (fun _ _ _ w hw => hw.reord [] 4 rfl) rfl rfl (by kernel_rfl) fun _ => ?_
                  refine WK.x (i := 4) (by kernel_rfl) rfl (OpV.x (R.indexArr rfl rfl un60 sz2 h152.1 h152.2)) (fun _ w hw => hw) (fun _ _ _ w hw => hw.reord [] 4 rfl) rfl rfl (by kernel_rfl) fun _ => ?_
                  refine WK.x (i := 5) (by kernel_rfl) rfl (OpV.x (R.load rfl (At.sub (At.bx 3 rfl (Sub.refl _)) (sub_arr (Enc.int .i64) (v := p0) h152.1 h152.2)) (Lies.one _ ia2))) (fun _ w hw => hw) (fun _ _ _ w hw => hw.reord [] 4 rfl) rfl rfl (by kernel_rfl) fun _ => ?_
                  refine WK.x (i := 6) (by kernel_rfl) rfl (OpV.x (R.eql rfl rfl)) (fun _ w hw => hw) (fun _ _ _ w hw => hw.reord [] 4 rfl) rfl rfl (by kernel_rfl) fun _ => ?_
                  refine WK.nil (by kernel_rfl) ?_
                  exact fun a w s => And.intro rfl (Sat.mk (s.env.le ⟨rfl, rfl, rfl, rfl, rfl, rfl, rfl, rfl, rfl, trivial⟩) (s.mem))
                · refine Go2.sat ?_
                  refine Go.then_ ?_
                  by_cases h153 : gv p0 s123.2 = gv p0 s4.2.2
                  · rw [if_pos h153] at hm
                    refine W.cond_t rfl (decide_eq_true h153) ?_
                    refine W.region ?_
                    refine WL.q (R.move rfl) rfl ?_
                    refine WL.q (R.move rfl) rfl ?_
                    refine WL.x (R.buildT ([s123.2]) el43 rfl rfl rfl rfl rfl (by decide) (by decide)) rfl fun v154 => ?_
                    obtain ⟨h155, hm⟩ := of_guard hm
                    refine WL.x (R.appendT 1 rfl rfl rfl el43 el43 (RdT.at 0 rfl) h155) rfl fun v156 => ?_
                    refine WL.q (R.assign rfl) rfl ?_
                    refine WL.nil ?_
                    refine Go.n_block ?_
                    have he := Option.some.inj hm
                    clear hm
                    subst o157
                    exact fun a w s => And.intro rfl (Exists.intro v156 (Sat.mk (s.env.le ⟨rfl, rfl, rfl, rfl, rfl, rfl, rfl, rfl, trivial⟩) (s.mem.reord [1, 2, 3, 4] 5 rfl)))
                  · rw [if_neg h153] at hm
                    refine W.cond_f rfl (decide_eq_false h153) ?_
                    refine W.skip ?_
                    refine Go.n_block ?_
                    have he := Option.some.inj hm
                    clear hm
                    subst o157
                    exact fun a w s => And.intro rfl (Exists.intro v146 (Sat.mk (s.env.le ⟨rfl, rfl, rfl, rfl, rfl, rfl, rfl, rfl, trivial⟩) (s.mem)))
              · intro e a w hJ
                replace hm := hmo157
                clear hmo157
                obtain ⟨rfl, v158, s⟩ := hJ
                refine Go.use s ?_
                refine Go.then_ ?_
                refine W.region ?_
                refine WL.q (R.move rfl) rfl ?_
                refine WL.q (R.add rfl rfl) rfl ?_
                refine WL.q (R.assign rfl) rfl ?_
                refine WL.nil ?_
                have he := Option.some.inj hm
                clear hm
                subst x
                exact fun a w s => Exists.intro _ (And.intro rfl (Exists.intro v158 (Sat.mk (s.env.le ⟨rfl, rfl, rfl, rfl, rfl, rfl, rfl, rfl, trivial⟩) (s.mem))))
            · rw [if_neg h150] at hm
              refine W.cond_f rfl (b_f h150) ?_
              refine W.exit ?_
              refine Go.x_then ?_
              have he := Option.some.inj hm
              clear hm
              subst x
              exact fun a w s => Exists.intro _ (And.intro rfl (And.intro rfl (Exists.intro v146 (Sat.mk (s.env.le ⟨rfl, rfl, rfl, rfl, rfl, rfl, rfl, trivial⟩) (s.mem)))))
        · intro e a w hJ
          obtain ⟨rfl, v160, s⟩ := hJ
          refine Go.use s ?_
          refine Go.x_block ?_
          refine Go.then_ ?_
          refine W.seq ?_
          refine W.seq ?_
          refine W.region ?_
          refine WL.q (R.assign rfl) rfl ?_
          refine WL.nil ?_
          refine Go.then_ ?_
          refine W.block ?_
          obtain ⟨o162, hlo162, hm⟩ := of_bind hm
          refine W.loopx (fun (s161 : ((Vector Bool 10) × Int)) a w => Sat G ((slT (Enc.int .i64) v160 o124) :: (ns (Enc.int .i64) v119 v120 s4.2.1) :: (bx b3 ((Enc.bool.arr 10).cells s161.1)) :: (bx b1 (((Enc.int .i64).arr 10).cells p0)) :: F) 61 [(1, (.int .i64 p1)), (2, (.pointer (some ⟨b1, 0, none⟩))), (4, (.slice none 0 0)), (5, v119), (6, (.pointer (some ⟨b3, 0, none⟩))), (7, (.int .i64 s4.2.2)), (8, v160), (10, (.int .i64 s161.2))] a w) (fun (o162 : (Vector Bool 10)) e a w => And (e = (.exit 4)) (Sat G ((slT (Enc.int .i64) v160 o124) :: (ns (Enc.int .i64) v119 v120 s4.2.1) :: (bx b3 ((Enc.bool.arr 10).cells o162)) :: (bx b1 (((Enc.int .i64).arr 10).cells p0)) :: F) 61 [(1, (.int .i64 p1)), (2, (.pointer (some ⟨b1, 0, none⟩))), (4, (.slice none 0 0)), (5, v119), (6, (.pointer (some ⟨b3, 0, none⟩))), (7, (.int .i64 s4.2.2)), (8, v160)] a w)) hlo162 (fun a w s => (Sat.mk (s.env.le ⟨rfl, rfl, rfl, rfl, rfl, rfl, rfl, rfl, trivial⟩) (s.mem))) ?_ ?_
          · clear hm
            intro s161 x hm a w hJ
            have s := hJ
            unfold spec_l06Told_L3 at hm
            refine W.use s ?_
            refine W.seq ?_
            refine W.seq ?_
            refine W.region ?_
            refine WL.q (R.move rfl) rfl ?_
            refine WL.q (R.move rfl) rfl ?_
            refine WL.q (R.lenT rfl el43 (RdT.at 0 rfl)) rfl ?_
            refine WL.q (R.lss rfl rfl) rfl ?_
            refine WL.nil ?_
            refine Go.then_ ?_
            by_cases h169 : s161.2 < (o124.length : Int)
            · rw [if_pos h169] at hm
              refine W.cond_t rfl (decide_eq_true h169) ?_
              refine W.skip ?_
              refine Go.then_ ?_
              refine W.seq ?_
              refine W.block ?_
              refine W.region ?_
              refine WL.q (R.move rfl) rfl ?_
              refine WL.q (R.move rfl) rfl ?_
              obtain ⟨h170, hm⟩ := of_guard hm
              refine WL.q (R.idxT rfl rfl el43 (RdT.at 0 rfl) h170) rfl ?_
              refine WL.q (R.load rfl (At.elT (RdT.at 0 rfl) (by decide) h170) (Lies.one _ ia2)) rfl ?_
              obtain ⟨h171, hm⟩ := of_guard hm
              refine WL.q (R.indexArr rfl rfl un71 sz4 h171.1 h171.2) rfl ?_
              refine WL.x0 (R.store_bx (i := 2) rfl rfl rfl (fits_bool sz4) (Up.trans (Sub.refl _) (up_arr Enc.bool (v := s161.1) true h171.1 h171.2) (Up.all (Enc.bool.arr 10) _ _))) fun _ => ?_
              refine WL.nil ?_
              refine Go.n_block ?_
              refine Go.then_ ?_
              refine W.region ?_
              refine WL.q (R.move rfl) rfl ?_
              refine WL.q (R.add rfl rfl) rfl ?_
              refine WL.q (R.assign rfl) rfl ?_
              refine WL.nil ?_
              have he := Option.some.inj hm
              clear hm
              subst x
              exact fun a w s => Exists.intro _ (And.intro rfl (Sat.mk (s.env.le ⟨rfl, rfl, rfl, rfl, rfl, rfl, rfl, rfl, trivial⟩) (s.mem)))
            · rw [if_neg h169] at hm
              refine W.cond_f rfl (decide_eq_false h169) ?_
              refine W.exit ?_
              refine Go.x_then ?_
              have he := Option.some.inj hm
              clear hm
              subst x
              exact fun a w s => Exists.intro _ (And.intro rfl (And.intro rfl (Sat.mk (s.env.le ⟨rfl, rfl, rfl, rfl, rfl, rfl, rfl, trivial⟩) (s.mem))))
          · intro e a w hJ
            obtain ⟨rfl, s⟩ := hJ
            refine Go.use s ?_
            refine Go.x_block ?_
            refine Go.then_ ?_
            refine W.seq ?_
            refine W.region ?_
            refine WL.q (R.move rfl) rfl ?_
            refine WL.q (R.lenT rfl el43 (RdT.at 0 rfl)) rfl ?_
            refine WL.q (R.gtr rfl rfl) rfl ?_
            refine WL.nil ?_
            refine Go.then_ ?_
            by_cases h172 : 0 < (o124.length : Int)
            · rw [if_pos h172] at hm
              refine W.cond_t rfl (decide_eq_true h172) ?_
              refine W.region ?_
              refine WL.q (R.move rfl) rfl ?_
              refine WL.q (R.move rfl) rfl ?_
              refine WL.x (R.build1 (e := (Enc.int .i64)) nl26 rfl rfl (RdT.at 0 rfl)) rfl fun v173 => ?_
              obtain ⟨h174, hm⟩ := of_guard hm
              refine WL.x ((R.appendN (e := (Enc.int .i64)) (F := ((sl v173 1 1 [v160]) :: (bx b3 ((Enc.bool.arr 10).cells o162)) :: (bx b1 (((Enc.int .i64).arr 10).cells p0)) :: F)) (xs := o124) rfl rfl nl26 nl26 (Rds.at 0 rfl) h174).weak (fun w hw => hw.reord [2, 1, 0, 3, 4] 5 rfl)) rfl fun v175 => ?_
              refine WL.q (R.assign rfl) rfl ?_
              refine WL.nil ?_
              refine Go.n_block ?_
              have he := Option.some.inj hm
              clear hm
              subst o176
              exact fun a w s => And.intro rfl (Exists.intro v175 (Exists.intro (v120 ++ [v160]) (Sat.mk (s.env.le ⟨rfl, rfl, rfl, rfl, rfl, rfl, trivial⟩) (s.mem.reord [0, 2, 3] 4 rfl))))
            · rw [if_neg h172] at hm
              refine W.cond_f rfl (decide_eq_false h172) ?_
              refine W.skip ?_
              refine Go.n_block ?_
              have he := Option.some.inj hm
              clear hm
              subst o176
              exact fun a w s => And.intro rfl (Exists.intro v119 (Exists.intro v120 (Sat.mk (s.env.le ⟨rfl, rfl, rfl, rfl, rfl, rfl, trivial⟩) (s.mem.reord [1, 2, 3] 4 rfl))))
      · intro e a w hJ
        replace hm := hmo176
        clear hmo176
        obtain ⟨rfl, v177, v178, s⟩ := hJ
        refine Go.use s ?_
        refine Go.then_ ?_
        refine W.region ?_
        refine WL.q (R.move rfl) rfl ?_
        refine WL.q (R.add rfl rfl) rfl ?_
        refine WL.q (R.assign rfl) rfl ?_
        refine WL.nil ?_
        have he := Option.some.inj hm
        clear hm
        subst x
        exact fun a w s => Exists.intro _ (And.intro rfl (Exists.intro v177 (Exists.intro v178 (Sat.mk (s.env.le ⟨rfl, rfl, rfl, rfl, rfl, rfl, trivial⟩) (s.mem)))))
    · rw [if_neg h121] at hm
      refine W.cond_f rfl (decide_eq_false h121) ?_
      refine W.exit ?_
      refine Go.x_then ?_
      have he := Option.some.inj hm
      clear hm
      subst x
      exact fun a w s => Exists.intro _ (And.intro rfl (And.intro rfl (Exists.intro v119 (Exists.intro v120 (Sat.mk (s.env.le ⟨rfl, rfl, trivial⟩) (s.mem.reord [0] 3 rfl))))))
  · intro e a w hJ
    obtain ⟨rfl, v181, v182, s⟩ := hJ
    refine Go.use s ?_
    refine Go.x_block ?_
    refine Go.then_ ?_
    refine W.seq ?_
    refine W.region ?_
    refine WL.q (R.move rfl) rfl ?_
    refine WL.q (R.assign rfl) rfl ?_
    refine WL.nil ?_
    refine Go.then_ ?_
    refine W.ret ?_
    have he := Option.some.inj hm
    clear hm
    subst r
    exact Go.ret1 rfl (.tmp rfl) (fun w hw => ⟨_, rfl, _, ⟨(v181, v182), rfl, rfl⟩, hw⟩)
set_option maxRecDepth 100000 in
theorem spec_l06Classes_tr {G : World} {F : List Res} (p0 : S_Square) (q1 : Value) (p1 : (List (Vector Int 2))) {r : (Vector Int 10)} (hm : spec_l06Classes p0 p1 = some r) : Tr Try.prog G 37 [(.agg (e_S_Square.cells p0).toArray), q1] ((slT ((Enc.int .i64).arr 2) q1 p1) :: F) (fun u K => ∃ x : Unit, u = (.agg (((Enc.int .i64).arr 10).cells r).toArray) ∧ K = F) := by
  unfold spec_l06Classes at hm
  refine Tr.body Try.func37 rfl Try.ntmps37 ?_
  refine W.seq ?_
  refine W.region ?_
  refine WL.x (R.box rfl (cells_agg _)) rfl fun b1 => ?_
  refine WL.x (al60) rfl fun b2 => ?_
  refine WL.nil ?_
  refine Go.then_ ?_
  refine W.seq ?_
  refine W.region ?_
  refine WL.q (bz60 rfl) rfl ?_
  refine WL.x (al60) rfl fun b3 => ?_
  refine WL.x0 (R.store_bx (i := 0) rfl rfl rfl (fits_agg ((Enc.int .i64).arr 10) (Vector.replicate 10 0) sz60) (Up.all ((Enc.int .i64).arr 10) _ _)) fun _ => ?_
  refine WL.nil ?_
  refine Go.then_ ?_
  refine W.seq ?_
  refine W.seq ?_
  refine W.region ?_
  refine WL.q (R.assign rfl) rfl ?_
  refine WL.nil ?_
  refine Go.then_ ?_
  refine W.block ?_
  obtain ⟨o5, hlo5, hm⟩ := of_bind hm
  refine W.loopx (fun (s4 : ((Vector Int 10) × Int)) a w => Sat G ((bx b3 (((Enc.int .i64).arr 10).cells s4.1)) :: (bx b2 (((Enc.int .i64).arr 10).cells (Vector.replicate 10 0))) :: (bx b1 (e_S_Square.cells p0)) :: (slT ((Enc.int .i64).arr 2) q1 p1) :: F) 103 [(1, q1), (2, (.pointer (some ⟨b1, 0, none⟩))), (4, (.pointer (some ⟨b2, 0, none⟩))), (5, (.pointer (some ⟨b3, 0, none⟩))), (6, (.int .i64 s4.2))] a w) (fun (o5 : (Vector Int 10)) e a w => And (e = (.exit 0)) (Sat G ((bx b3 (((Enc.int .i64).arr 10).cells o5)) :: (bx b2 (((Enc.int .i64).arr 10).cells (Vector.replicate 10 0))) :: (bx b1 (e_S_Square.cells p0)) :: (slT ((Enc.int .i64).arr 2) q1 p1) :: F) 103 [(1, q1), (2, (.pointer (some ⟨b1, 0, none⟩))), (4, (.pointer (some ⟨b2, 0, none⟩))), (5, (.pointer (some ⟨b3, 0, none⟩)))] a w)) hlo5 (fun a w s => (Sat.mk (s.env.le ⟨rfl, rfl, rfl, rfl, rfl, trivial⟩) (s.mem))) ?_ ?_
  · clear hm
    intro s4 x hm a w hJ
    have s := hJ
    unfold spec_l06Classes_L1 at hm
    refine W.use s ?_
    refine W.seq ?_
    refine W.seq ?_
    refine W.region ?_
    refine WL.q (R.move rfl) rfl ?_
    refine WL.q (R.fieldAddr rfl fa31_0) rfl ?_
    refine WL.q (R.load rfl (At.sub (At.bx 2 rfl (Sub.refl _)) (e_S_Square_s0 p0)) (Lies.one _ ia2)) rfl ?_
    refine WL.q (R.lss rfl rfl) rfl ?_
    refine WL.nil ?_
    refine Go.then_ ?_
    by_cases h9 : s4.2 < p0.Order
    · rw [if_pos h9] at hm
      refine W.cond_t rfl (decide_eq_true h9) ?_
      refine W.skip ?_
      refine Go.then_ ?_
      refine W.seq ?_
      refine W.block ?_
      refine W.region ?_
      refine WL.q (R.move rfl) rfl ?_
      refine WL.q (R.move rfl) rfl ?_
      obtain ⟨h10, hm⟩ := of_guard hm
      refine WL.q (R.indexArr rfl rfl un60 sz2 h10.1 h10.2) rfl ?_
      refine WL.x0 (R.store_bx (i := 0) rfl rfl rfl (fits_int sz2) (Up.trans (Sub.refl _) (up_arr (Enc.int .i64) (v := s4.1) s4.2 h10.1 h10.2) (Up.all ((Enc.int .i64).arr 10) _ _))) fun _ => ?_
      refine WL.nil ?_
      refine Go.n_block ?_
      refine Go.then_ ?_
      refine W.region ?_
      refine WL.q (R.move rfl) rfl ?_
      refine WL.q (R.add rfl rfl) rfl ?_
      refine WL.q (R.assign rfl) rfl ?_
      refine WL.nil ?_
      have he := Option.some.inj hm
      clear hm
      subst x
      exact fun a w s => Exists.intro _ (And.intro rfl (Sat.mk (s.env.le ⟨rfl, rfl, rfl, rfl, rfl, trivial⟩) (s.mem)))
    · rw [if_neg h9] at hm
      refine W.cond_f rfl (decide_eq_false h9) ?_
      refine W.exit ?_
      refine Go.x_then ?_
      have he := Option.some.inj hm
      clear hm
      subst x
      exact fun a w s => Exists.intro _ (And.intro rfl (And.intro rfl (Sat.mk (s.env.le ⟨rfl, rfl, rfl, rfl, trivial⟩) (s.mem))))
  · intro e a w hJ
    obtain ⟨rfl, s⟩ := hJ
    refine Go.use s ?_
    refine Go.x_block ?_
    refine Go.then_ ?_
    refine W.seq ?_
    refine W.seq ?_
    refine W.region ?_
    refine WL.q (R.assign rfl) rfl ?_
    refine WL.nil ?_
    refine Go.then_ ?_
    refine W.block ?_
    obtain ⟨o12, hlo12, hm⟩ := of_bind hm
    refine W.loopx (fun (s11 : ((Vector Int 10) × (List (Vector Int 2)) × Int)) a w => ∃ v94 : Value, Sat G ((slT ((Enc.int .i64).arr 2) v94 s11.2.1) :: (bx b3 (((Enc.int .i64).arr 10).cells s11.1)) :: (bx b2 (((Enc.int .i64).arr 10).cells (Vector.replicate 10 0))) :: (bx b1 (e_S_Square.cells p0)) :: F) 103 [(1, v94), (2, (.pointer (some ⟨b1, 0, none⟩))), (4, (.pointer (some ⟨b2, 0, none⟩))), (5, (.pointer (some ⟨b3, 0, none⟩))), (7, (.int .i64 s11.2.2))] a w) (fun (o12 : (Vector Int 10)) e a w => And (e = (.exit 2)) (Sat G ((bx b3 (((Enc.int .i64).arr 10).cells o12)) :: (bx b2 (((Enc.int .i64).arr 10).cells (Vector.replicate 10 0))) :: F) 103 [(4, (.pointer (some ⟨b2, 0, none⟩))), (5, (.pointer (some ⟨b3, 0, none⟩)))] a w)) hlo12 (fun a w s => (Exists.intro q1 (Sat.mk (s.env.le ⟨rfl, rfl, rfl, rfl, rfl, trivial⟩) (s.mem.reord [3, 0, 1, 2] 4 rfl)))) ?_ ?_
    · clear hm
      intro s11 x hm a w hJ
      obtain ⟨v94, s⟩ := hJ
      unfold spec_l06Classes_L2 at hm
      refine W.use s ?_
      refine W.seq ?_
      refine W.seq ?_
      refine W.region ?_
      refine WL.q (R.move rfl) rfl ?_
      refine WL.q (R.move rfl) rfl ?_
      refine WL.q (R.lenT rfl el57 (RdT.at 0 rfl)) rfl ?_
      refine WL.q (R.lss rfl rfl) rfl ?_
      refine WL.nil ?_
      refine Go.then_ ?_
      by_cases h95 : s11.2.2 < (s11.2.1.length : Int)
      · rw [if_pos h95] at hm
        refine W.cond_t rfl (decide_eq_true h95) ?_
        refine W.skip ?_
        refine Go.then_ ?_
        obtain ⟨o133, hm, hmo133⟩ := of_bind hm
        refine W.seq ?_
        refine W.join (fun e a w => And (e = .normal) (∃ v134 : Value, Sat G ((slT ((Enc.int .i64).arr 2) v134 o133.2) :: (bx b3 (((Enc.int .i64).arr 10).cells o133.1)) :: (bx b2 (((Enc.int .i64).arr 10).cells (Vector.replicate 10 0))) :: (bx b1 (e_S_Square.cells p0)) :: F) 103 [(1, v134), (2, (.pointer (some ⟨b1, 0, none⟩))), (4, (.pointer (some ⟨b2, 0, none⟩))), (5, (.pointer (some ⟨b3, 0, none⟩))), (7, (.int .i64 s11.2.2))] a w)) ?_ ?_
        · refine W.block ?_
          refine W.seq ?_
          obtain ⟨h96, hm⟩ := of_guard hm
          refine W.join1 (fun a w => Sat G ((slT ((Enc.int .i64).arr 2) v94 s11.2.1) :: (bx b3 (((Enc.int .i64).arr 10).cells s11.1)) :: (bx b2 (((Enc.int .i64).arr 10).cells (Vector.replicate 10 0))) :: (bx b1 (e_S_Square.cells p0)) :: F) 103 [(1, v94), (2, (.pointer (some ⟨b1, 0, none⟩))), (4, (.pointer (some ⟨b2, 0, none⟩))), (5, (.pointer (some ⟨b3, 0, none⟩))), (7, (.int .i64 s11.2.2)), (8, (.int .i64 (gv (gl s11.2.1 s11.2.2) 0))), (9, (.int .i64 (gv (gl s11.2.1 s11.2.2) 1)))] a w) ?_ ?_
          · refine W.draw (n := 12) ((slT ((Enc.int .i64).arr 2) v94 s11.2.1) :: (bx b3 (((Enc.int .i64).arr 10).cells s11.1)) :: (bx b2 (((Enc.int .i64).arr 10).cells (Vector.replicate 10 0))) :: (bx b1 (e_S_Square.cells p0)) :: F) F 12 (by kernel_rfl) rfl rfl (fun w hw => hw) (fun w hw => hw.drop 4) ?_
            refine WK.q (i := 0) rfl rfl (by kernel_rfl) calm_n (R.move rfl) rfl rfl ?_
            refine WK.q (i := 1) rfl rfl (by kernel_rfl) calm_n (R.move rfl) rfl rfl ?_
            refine WK.q (i := 2) rfl rfl (by kernel_rfl) calm_n (R.idxT rfl rfl el57 (RdT.at 0 rfl) h96) rfl rfl ?_
            refine WK.q (i := 3) rfl rfl (by kernel_rfl) calm_n (R.indexEp rfl rfl (RdT.addr (RdT.at 0 rfl) h96) un58 sz2 (by decide : (0 : Int) ≤ 0 ∧ (0 : Int) < 2).1 (by decide : (0 : Int) ≤ 0 ∧ (0 : Int) < 2).2) rfl rfl ?_
            refine WK.q (i := 4) rfl rfl (by kernel_rfl) calm_n (R.load rfl (At.rd (by exact (RdT.at 0 rfl)) (Enc.ne (Enc.int .i64) _ (by decide)) (Sub.trans (sub_list ((Enc.int .i64).arr 2) (xs := s11.2.1) h96.1 h96.2) (sub_arr (Enc.int .i64) (v := gl s11.2.1 s11.2.2) (by decide : (0 : Int) ≤ 0 ∧ (0 : Int) < 2).1 (by decide : (0 : Int) ≤ 0 ∧ (0 : Int) < 2).2))) (Lies.one _ ia2)) rfl rfl ?_
            refine WK.q (i := 5) rfl rfl (by kernel_rfl) calm_n (R.move rfl) rfl rfl ?_
            refine WK.q (i := 6) rfl rfl (by kernel_rfl) calm_n (R.move rfl) rfl rfl ?_
            refine WK.q (i := 7) rfl rfl (by kernel_rfl) calm_n (R.idxT rfl rfl el57 (RdT.at 0 rfl) h96) rfl rfl ?_
            refine WK.q (i := 8) rfl rfl (by kernel_rfl) calm_n (R.indexEp rfl rfl (RdT.addr (RdT.at 0 rfl) h96) un58 sz2 (by decide : (0 : Int) ≤ 1 ∧ (1 : Int) < 2).1 (by decide : (0 : Int) ≤ 1 ∧ (1 : Int) < 2).2) rfl rfl ?_
            refine WK.q (i := 9) rfl rfl (by kernel_rfl) calm_n (R.load rfl (At.rd (by exact (RdT.at 0 rfl)) (Enc.ne (Enc.int .i64) _ (by decide)) (Sub.trans (sub_list ((Enc.int .i64).arr 2) (xs := s11.2.1) h96.1 h96.2) (sub_arr (Enc.int .i64) (v := gl s11.2.1 s11.2.2) (by decide : (0 : Int) ≤ 1 ∧ (1 : Int) < 2).1 (by decide : (0 : Int) ≤ 1 ∧ (1 : Int) < 2).2))) (Lies.one _ ia2)) rfl rfl ?_
            refine WK.x (i := 10) (by kernel_rfl) rfl (OpV.x (R.assign rfl)) (fun _ w hw => hw) (fun _ _ _ w hw => hw.reord [] 4 rfl) rfl rfl (by kernel_rfl) fun _ => ?_
            refine WK.x (i := 11) (by kernel_rfl) rfl (OpV.x (R.assign rfl)) (fun _ w hw => hw) (fun _ _ _ w hw => hw.reord [] 4 rfl) rfl rfl (by kernel_rfl) fun _ => ?_
            refine WK.nil (by kernel_rfl) ?_
            exact fun a w s => And.intro rfl (Sat.mk (s.env.le ⟨rfl, rfl, rfl, rfl, rfl, rfl, rfl, trivial⟩) (s.mem))
          · refine Go2.sat ?_
            refine Go.then_ ?_
            refine W.seq ?_
            obtain ⟨h97, hm⟩ := of_guard hm
            obtain ⟨h98, hm⟩ := of_guard hm
            refine W.join1 (fun a w => Sat G ((slT ((Enc.int .i64).arr 2) v94 s11.2.1) :: (bx b3 (((Enc.int .i64).arr 10).cells s11.1)) :: (bx b2 (((Enc.int .i64).arr 10).cells (Vector.replicate 10 0))) :: (bx b1 (e_S_Square.cells p0)) :: F) 103 [(1, v94), (2, (.pointer (some ⟨b1, 0, none⟩))), (4, (.pointer (some ⟨b2, 0, none⟩))), (5, (.pointer (some ⟨b3, 0, none⟩))), (7, (.int .i64 s11.2.2)), (8, (.int .i64 (gv (gl s11.2.1 s11.2.2) 0))), (9, (.int .i64 (gv (gl s11.2.1 s11.2.2) 1))), (10, (.int .i64 (gv s11.1 (gv (gl s11.2.1 s11.2.2) 0)))), (11, (.int .i64 (gv s11.1 (gv (gl s11.2.1 s11.2.2) 1))))] a w) ?_ ?_
            · refine W.draw (n := 8) ((slT ((Enc.int .i64).arr 2) v94 s11.2.1) :: (bx b3 (((Enc.int .i64).arr 10).cells s11.1)) :: (bx b2 (((Enc.int .i64).arr 10).cells (Vector.replicate 10 0))) :: (bx b1 (e_S_Square.cells p0)) :: F) F 8 (by kernel_rfl) rfl rfl (fun w hw => hw) (fun w hw => hw.drop 4) ?_
              refine WK.q (i := 0) rfl rfl (by kernel_rfl) calm_n (R.move rfl) rfl rfl ?_
              refine WK.q (i := 1) rfl rfl (by kernel_rfl) calm_n (R.indexArr rfl rfl un60 sz2 h97.1 h97.2) rfl rfl ?_
              refine WK.q (i := 2) rfl rfl (by kernel_rfl) calm_n (R.load rfl (At.sub (At.bx 1 rfl (Sub.refl _)) (sub_arr (Enc.int .i64) (v := s11.1) h97.1 h97.2)) (Lies.one _ ia2)) rfl rfl ?_
              refine WK.q (i := 3) rfl rfl (by kernel_rfl) calm_n (R.move rfl) rfl rfl ?_
              refine WK.q (i := 4) rfl rfl (by kernel_rfl) calm_n (R.indexArr rfl rfl un60 sz2 h98.1 h98.2) rfl rfl ?_
              refine WK.q (i := 5) rfl rfl (by kernel_rfl) calm_n (R.load rfl (At.sub (At.bx 1 rfl (Sub.refl _)) (sub_arr (Enc.int .i64) (v := s11.1) h98.1 h98.2)) (Lies.one _ ia2)) rfl rfl ?_
              refine WK.x (i := 6) (by kernel_rfl) rfl (OpV.x (R.assign rfl)) (fun _ w hw => hw) (fun _ _ _ w hw => hw.reord [] 4 rfl) rfl rfl (by kernel_rfl) fun _ => ?_
              refine WK.x (i := 7) (by kernel_rfl) rfl (OpV.x (R.assign rfl)) (fun _ w hw => hw) (fun _ _ _ w hw => hw.reord [] 4 rfl) rfl rfl (by kernel_rfl) fun _ => ?_
              refine WK.nil (by kernel_rfl) ?_
              exact fun a w s => And.intro rfl (Sat.mk (s.env.le ⟨rfl, rfl, rfl, rfl, rfl, rfl, rfl, rfl, rfl, trivial⟩) (s.mem))
            · refine Go2.sat ?_
              refine Go.then_ ?_
              refine W.seq ?_
              refine W.seq ?_
              refine W.region ?_
              refine WL.q (R.move rfl) rfl ?_
              refine WL.q (R.move rfl) rfl ?_
              refine WL.q (R.eql rfl rfl) rfl ?_
              refine WL.nil ?_
              refine Go.then_ ?_
              by_cases h99 : gv s11.1 (gv (gl s11.2.1 s11.2.2) 0) = gv s11.1 (gv (gl s11.2.1 s11.2.2) 1)
              · rw [if_pos h99] at hm
                refine W.cond_t rfl (decide_eq_true h99) ?_
                refine W.exit ?_
                refine Go.x_then ?_
                refine Go.x_block ?_
                have he := Option.some.inj hm
                clear hm
                subst o133
                exact fun a w s => And.intro rfl (Exists.intro v94 (Sat.mk (s.env.le ⟨rfl, rfl, rfl, rfl, rfl, trivial⟩) (s.mem)))
              · rw [if_neg h99] at hm
                refine W.cond_f rfl (decide_eq_false h99) ?_
                refine W.skip ?_
                refine Go.then_ ?_
                refine W.seq ?_
                refine W.seq ?_
                refine W.region ?_
                refine WL.q (R.assign rfl) rfl ?_
                refine WL.nil ?_
                refine Go.then_ ?_
                refine W.block ?_
                obtain ⟨o101, hlo101, hm⟩ := of_bind hm
                refine W.loopx (fun (s100 : ((Vector Int 10) × Int)) a w => Sat G ((slT ((Enc.int .i64).arr 2) v94 s11.2.1) :: (bx b3 (((Enc.int .i64).arr 10).cells s100.1)) :: (bx b2 (((Enc.int .i64).arr 10).cells (Vector.replicate 10 0))) :: (bx b1 (e_S_Square.cells p0)) :: F) 103 [(1, v94), (2, (.pointer (some ⟨b1, 0, none⟩))), (4, (.pointer (some ⟨b2, 0, none⟩))), (5, (.pointer (some ⟨b3, 0, none⟩))), (7, (.int .i64 s11.2.2)), (8, (.int .i64 (gv (gl s11.2.1 s11.2.2) 0))), (9, (.int .i64 (gv (gl s11.2.1 s11.2.2) 1))), (10, (.int .i64 (gv s11.1 (gv (gl s11.2.1 s11.2.2) 0)))), (11, (.int .i64 (gv s11.1 (gv (gl s11.2.1 s11.2.2) 1)))), (12, (.int .i64 s100.2))] a w) (fun (o101 : (Vector Int 10)) e a w => And (e = (.exit 4)) (Sat G ((slT ((Enc.int .i64).arr 2) v94 s11.2.1) :: (bx b3 (((Enc.int .i64).arr 10).cells o101)) :: (bx b2 (((Enc.int .i64).arr 10).cells (Vector.replicate 10 0))) :: (bx b1 (e_S_Square.cells p0)) :: F) 103 [(1, v94), (2, (.pointer (some ⟨b1, 0, none⟩))), (4, (.pointer (some ⟨b2, 0, none⟩))), (5, (.pointer (some ⟨b3, 0, none⟩))), (7, (.int .i64 s11.2.2)), (8, (.int .i64 (gv (gl s11.2.1 s11.2.2) 0))), (9, (.int .i64 (gv (gl s11.2.1 s11.2.2) 1)))] a w)) hlo101 (fun a w s => (Sat.mk (s.env.le ⟨rfl, rfl, rfl, rfl, rfl, rfl, rfl, rfl, rfl, rfl, trivial⟩) (s.mem))) ?_ ?_
                · clear hm
                  intro s100 x hm a w hJ
                  have s := hJ
                  unfold spec_l06Classes_L3 at hm
                  refine W.use s ?_
                  refine W.seq ?_
                  refine W.seq ?_
                  refine W.region ?_
                  refine WL.q (R.move rfl) rfl ?_
                  refine WL.q (R.fieldAddr rfl fa31_0) rfl ?_
                  refine WL.q (R.load rfl (At.sub (At.bx 3 rfl (Sub.refl _)) (e_S_Square_s0 p0)) (Lies.one _ ia2)) rfl ?_
                  refine WL.q (R.lss rfl rfl) rfl ?_
                  refine WL.nil ?_
                  refine Go.then_ ?_
                  by_cases h109 : s100.2 < p0.Order
                  · rw [if_pos h109] at hm
                    refine W.cond_t rfl (decide_eq_true h109) ?_
                    refine W.skip ?_
                    refine Go.then_ ?_
                    obtain ⟨o112, hm, hmo112⟩ := of_bind hm
                    refine W.seq ?_
                    refine W.join (fun e a w => And (e = .normal) (Sat G ((slT ((Enc.int .i64).arr 2) v94 s11.2.1) :: (bx b3 (((Enc.int .i64).arr 10).cells o112)) :: (bx b2 (((Enc.int .i64).arr 10).cells (Vector.replicate 10 0))) :: (bx b1 (e_S_Square.cells p0)) :: F) 103 [(1, v94), (2, (.pointer (some ⟨b1, 0, none⟩))), (4, (.pointer (some ⟨b2, 0, none⟩))), (5, (.pointer (some ⟨b3, 0, none⟩))), (7, (.int .i64 s11.2.2)), (8, (.int .i64 (gv (gl s11.2.1 s11.2.2) 0))), (9, (.int .i64 (gv (gl s11.2.1 s11.2.2) 1))), (10, (.int .i64 (gv s11.1 (gv (gl s11.2.1 s11.2.2) 0)))), (11, (.int .i64 (gv s11.1 (gv (gl s11.2.1 s11.2.2) 1)))), (12, (.int .i64 s100.2))] a w)) ?_ ?_
                    · refine W.block ?_
                      refine W.seq ?_
                      refine W.region ?_
                      refine WL.q (R.move rfl) rfl ?_
                      obtain ⟨h110, hm⟩ := of_guard hm
                      refine WL.q (R.indexArr rfl rfl un60 sz2 h110.1 h110.2) rfl ?_
                      refine WL.q (R.load rfl (At.sub (At.bx 1 rfl (Sub.refl _)) (sub_arr (Enc.int .i64) (v := s100.1) h110.1 h110.2)) (Lies.one _ ia2)) rfl ?_
                      refine WL.q (R.move rfl) rfl ?_
                      refine WL.q (R.eql rfl rfl) rfl ?_
                      refine WL.nil ?_
                      refine Go.then_ ?_
                      by_cases h111 : gv s100.1 s100.2 = gv s11.1 (gv (gl s11.2.1 s11.2.2) 1)
                      · rw [if_pos h111] at hm
                        refine W.cond_t rfl (decide_eq_true h111) ?_
                        refine W.region ?_
                        refine WL.q (R.move rfl) rfl ?_
                        refine WL.q (R.move rfl) rfl ?_
                        refine WL.q (R.indexArr rfl rfl un60 sz2 h110.1 h110.2) rfl ?_
                        refine WL.x0 (R.store_bx (i := 1) rfl rfl rfl (fits_int sz2) (Up.trans (Sub.refl _) (up_arr (Enc.int .i64) (v := s100.1) (gv s11.1 (gv (gl s11.2.1 s11.2.2) 0)) h110.1 h110.2) (Up.all ((Enc.int .i64).arr 10) _ _))) fun _ => ?_
                        refine WL.nil ?_
                        refine Go.n_block ?_
                        have he := Option.some.inj hm
                        clear hm
                        subst o112
                        exact fun a w s => And.intro rfl (Sat.mk (s.env.le ⟨rfl, rfl, rfl, rfl, rfl, rfl, rfl, rfl, rfl, rfl, trivial⟩) (s.mem))
                      · rw [if_neg h111] at hm
                        refine W.cond_f rfl (decide_eq_false h111) ?_
                        refine W.skip ?_
                        refine Go.n_block ?_
                        have he := Option.some.inj hm
                        clear hm
                        subst o112
                        exact fun a w s => And.intro rfl (Sat.mk (s.env.le ⟨rfl, rfl, rfl, rfl, rfl, rfl, rfl, rfl, rfl, rfl, trivial⟩) (s.mem))
                    · intro e a w hJ
                      replace hm := hmo112
                      clear hmo112
                      obtain ⟨rfl, s⟩ := hJ
                      refine Go.use s ?_
                      refine Go.then_ ?_
                      refine W.region ?_
                      refine WL.q (R.move rfl) rfl ?_
                      refine WL.q (R.add rfl rfl) rfl ?_
                      refine WL.q (R.assign rfl) rfl ?_
                      refine WL.nil ?_
                      have he := Option.some.inj hm
                      clear hm
                      subst x
                      exact fun a w s => Exists.intro _ (And.intro rfl (Sat.mk (s.env.le ⟨rfl, rfl, rfl, rfl, rfl, rfl, rfl, rfl, rfl, rfl, trivial⟩) (s.mem)))
                  · rw [if_neg h109] at hm
                    refine W.cond_f rfl (decide_eq_false h109) ?_
                    refine W.exit ?_
                    refine Go.x_then ?_
                    have he := Option.some.inj hm
                    clear hm
                    subst x
                    exact fun a w s => Exists.intro _ (And.intro rfl (And.intro rfl (Sat.mk (s.env.le ⟨rfl, rfl, rfl, rfl, rfl, rfl, rfl, trivial⟩) (s.mem))))
                · intro e a w hJ
                  obtain ⟨rfl, s⟩ := hJ
                  refine Go.use s ?_
                  refine Go.x_block ?_
                  refine Go.then_ ?_
                  refine W.seq ?_
                  refine W.region ?_
                  refine WL.q (R.assign rfl) rfl ?_
                  refine WL.nil ?_
                  refine Go.then_ ?_
                  refine W.block ?_
                  obtain ⟨o114, hlo114, hm⟩ := of_bind hm
                  refine W.loopx (fun (s113 : ((List (Vector Int 2)) × Int)) a w => ∃ v125 : Value, Sat G ((slT ((Enc.int .i64).arr 2) v125 s113.1) :: (bx b3 (((Enc.int .i64).arr 10).cells o101)) :: (bx b2 (((Enc.int .i64).arr 10).cells (Vector.replicate 10 0))) :: (bx b1 (e_S_Square.cells p0)) :: F) 103 [(1, v125), (2, (.pointer (some ⟨b1, 0, none⟩))), (4, (.pointer (some ⟨b2, 0, none⟩))), (5, (.pointer (some ⟨b3, 0, none⟩))), (7, (.int .i64 s11.2.2)), (8, (.int .i64 (gv (gl s11.2.1 s11.2.2) 0))), (9, (.int .i64 (gv (gl s11.2.1 s11.2.2) 1))), (13, (.int .i64 s113.2))] a w) (fun (o114 : (List (Vector Int 2))) e a w => And (e = (.exit 6)) (∃ v132 : Value, Sat G ((slT ((Enc.int .i64).arr 2) v132 o114) :: (bx b3 (((Enc.int .i64).arr 10).cells o101)) :: (bx b2 (((Enc.int .i64).arr 10).cells (Vector.replicate 10 0))) :: (bx b1 (e_S_Square.cells p0)) :: F) 103 [(1, v132), (2, (.pointer (some ⟨b1, 0, none⟩))), (4, (.pointer (some ⟨b2, 0, none⟩))), (5, (.pointer (some ⟨b3, 0, none⟩))), (7, (.int .i64 s11.2.2))] a w)) hlo114 (fun a w s => (Exists.intro v94 (Sat.mk (s.env.le ⟨rfl, rfl, rfl, rfl, rfl, rfl, rfl, rfl, trivial⟩) (s.mem)))) ?_ ?_
                  · clear hm
                    intro s113 x hm a w hJ
                    obtain ⟨v125, s⟩ := hJ
                    unfold spec_l06Classes_L4 at hm
                    refine W.use s ?_
                    refine W.seq ?_
                    refine W.seq ?_
                    refine W.region ?_
                    refine WL.q (R.move rfl) rfl ?_
                    refine WL.q (R.fieldAddr rfl fa31_0) rfl ?_
                    refine WL.q (R.load rfl (At.sub (At.bx 3 rfl (Sub.refl _)) (e_S_Square_s0 p0)) (Lies.one _ ia2)) rfl ?_
                    refine WL.q (R.lss rfl rfl) rfl ?_
                    refine WL.nil ?_
                    refine Go.then_ ?_
                    by_cases h126 : s113.2 < p0.Order
                    · rw [if_pos h126] at hm
                      refine W.cond_t rfl (decide_eq_true h126) ?_
                      refine W.skip ?_
                      refine Go.then_ ?_
                      refine W.seq ?_
                      refine W.block ?_
                      obtain ⟨h127, hm⟩ := of_guard hm
                      obtain ⟨h129, hm⟩ := of_guard hm
                      refine W.join1 (fun a w => ∃ v128 : Value, ∃ v130 : Value, Sat G ((slT ((Enc.int .i64).arr 2) v128 ([(#v[IntKind.i64.wrap (gv (gv p0.Table (gv (gl s11.2.1 s11.2.2) 0)) s113.2), IntKind.i64.wrap (gv (gv p0.Table (gv (gl s11.2.1 s11.2.2) 1)) s113.2)] : (Vector Int 2)), (#v[IntKind.i64.wrap (gv (gv p0.Table s113.2) (gv (gl s11.2.1 s11.2.2) 0)), IntKind.i64.wrap (gv (gv p0.Table s113.2) (gv (gl s11.2.1 s11.2.2) 1))] : (Vector Int 2))])) :: (slT ((Enc.int .i64).arr 2) v130 (s113.1 ++ ([(#v[IntKind.i64.wrap (gv (gv p0.Table (gv (gl s11.2.1 s11.2.2) 0)) s113.2), IntKind.i64.wrap (gv (gv p0.Table (gv (gl s11.2.1 s11.2.2) 1)) s113.2)] : (Vector Int 2)), (#v[IntKind.i64.wrap (gv (gv p0.Table s113.2) (gv (gl s11.2.1 s11.2.2) 0)), IntKind.i64.wrap (gv (gv p0.Table s113.2) (gv (gl s11.2.1 s11.2.2) 1))] : (Vector Int 2))]))) :: (bx b3 (((Enc.int .i64).arr 10).cells o101)) :: (bx b2 (((Enc.int .i64).arr 10).cells (Vector.replicate 10 0))) :: (bx b1 (e_S_Square.cells p0)) :: F) 103 [(1, v130), (2, (.pointer (some ⟨b1, 0, none⟩))), (4, (.pointer (some ⟨b2, 0, none⟩))), (5, (.pointer (some ⟨b3, 0, none⟩))), (7, (.int .i64 s11.2.2)), (8, (.int .i64 (gv (gl s11.2.1 s11.2.2) 0))), (9, (.int .i64 (gv (gl s11.2.1 s11.2.2) 1))), (13, (.int .i64 s113.2))] a w) ?_ ?_
                      · refine W.draw (n := 34) ((bx b3 (((Enc.int .i64).arr 10).cells o101)) :: (bx b2 (((Enc.int .i64).arr 10).cells (Vector.replicate 10 0))) :: (bx b1 (e_S_Square.cells p0)) :: F) F 34 (by kernel_rfl) rfl rfl (fun w hw => hw.reord [1, 2, 3] 4 rfl) (fun w hw => hw.drop 4) ?_
                        refine WK.q (i := 0) rfl rfl (by kernel_rfl) calm_n (R.move rfl) rfl rfl ?_
                        refine WK.q (i := 1) rfl rfl (by kernel_rfl) calm_n (R.move rfl) rfl rfl ?_
                        refine WK.q (i := 2) rfl rfl (by kernel_rfl) calm_n (R.move rfl) rfl rfl ?_
                        refine WK.q (i := 3) rfl rfl (by kernel_rfl) calm_n (R.fieldAddr rfl fa31_1) rfl rfl ?_
                        refine WK.q (i := 4) rfl rfl (by kernel_rfl) calm_n (R.indexArr rfl rfl un29 sz22 h97.1 h97.2) rfl rfl ?_
                        refine WK.q (i := 5) rfl rfl (by kernel_rfl) calm_n (R.indexArr rfl rfl un22 sz5 h127.1 h127.2) rfl rfl ?_
                        refine WK.q (i := 6) rfl rfl (by kernel_rfl) calm_n (R.load rfl (At.sub (At.sub (At.sub (At.bx 2 rfl (Sub.refl _)) (e_S_Square_s1 p0)) (sub_arr ((Enc.int .u8).arr 10) (v := p0.Table) h97.1 h97.2)) (sub_arr (Enc.int .u8) (v := gv p0.Table (gv (gl s11.2.1 s11.2.2) 0)) h127.1 h127.2)) (Lies.one _ ia5)) rfl rfl ?_
                        refine WK.q (i := 7) rfl rfl (by kernel_rfl) calm_n (R.conv rfl un2 us5) rfl rfl ?_
                        refine WK.q (i := 8) rfl rfl (by kernel_rfl) calm_n (R.move rfl) rfl rfl ?_
                        refine WK.q (i := 9) rfl rfl (by kernel_rfl) calm_n (R.move rfl) rfl rfl ?_
                        refine WK.q (i := 10) rfl rfl (by kernel_rfl) calm_n (R.fieldAddr rfl fa31_1) rfl rfl ?_
                        refine WK.q (i := 11) rfl rfl (by kernel_rfl) calm_n (R.indexArr rfl rfl un29 sz22 h98.1 h98.2) rfl rfl ?_
                        refine WK.q (i := 12) rfl rfl (by kernel_rfl) calm_n (R.indexArr rfl rfl un22 sz5 h127.1 h127.2) rfl rfl ?_
                        refine WK.q (i := 13) rfl rfl (by kernel_rfl) calm_n (R.load rfl (At.sub (At.sub (At.sub (At.bx 2 rfl (Sub.refl _)) (e_S_Square_s1 p0)) (sub_arr ((Enc.int .u8).arr 10) (v := p0.Table) h98.1 h98.2)) (sub_arr (Enc.int .u8) (v := gv p0.Table (gv (gl s11.2.1 s11.2.2) 1)) h127.1 h127.2)) (Lies.one _ ia5)) rfl rfl ?_
                        refine WK.q (i := 14) rfl rfl (by kernel_rfl) calm_n (R.conv rfl un2 us5) rfl rfl ?_
                        refine WK.q (i := 15) rfl rfl (by kernel_rfl) calm_n (ba58 rfl) rfl rfl ?_
                        refine WK.q (i := 16) rfl rfl (by kernel_rfl) calm_n (R.move rfl) rfl rfl ?_
                        refine WK.q (i := 17) rfl rfl (by kernel_rfl) calm_n (R.move rfl) rfl rfl ?_
                        refine WK.q (i := 18) rfl rfl (by kernel_rfl) calm_n (R.fieldAddr rfl fa31_1) rfl rfl ?_
                        refine WK.q (i := 19) rfl rfl (by kernel_rfl) calm_n (R.indexArr rfl rfl un29 sz22 h127.1 h127.2) rfl rfl ?_
                        refine WK.q (i := 20) rfl rfl (by kernel_rfl) calm_n (R.indexArr rfl rfl un22 sz5 h97.1 h97.2) rfl rfl ?_
                        refine WK.q (i := 21) rfl rfl (by kernel_rfl) calm_n (R.load rfl (At.sub (At.sub (At.sub (At.bx 2 rfl (Sub.refl _)) (e_S_Square_s1 p0)) (sub_arr ((Enc.int .u8).arr 10) (v := p0.Table) h127.1 h127.2)) (sub_arr (Enc.int .u8) (v := gv p0.Table s113.2) h97.1 h97.2)) (Lies.one _ ia5)) rfl rfl ?_
                        refine WK.q (i := 22) rfl rfl (by kernel_rfl) calm_n (R.conv rfl un2 us5) rfl rfl ?_
                        refine WK.q (i := 23) rfl rfl (by kernel_rfl) calm_n (R.move rfl) rfl rfl ?_
                        refine WK.q (i := 24) rfl rfl (by kernel_rfl) calm_n (R.move rfl) rfl rfl ?_
                        refine WK.x (i := 25) (by kernel_rfl) rfl (OpV.x (R.fieldAddr rfl fa31_1)) (fun _ w hw => hw.reord [1, 2, 3] 4 rfl) (fun _ _ _ w hw => hw.reord [] 4 rfl) rfl rfl (by kernel_rfl) fun _ => ?_
                        refine WK.x (i := 26) (by kernel_rfl) rfl (OpV.x (R.indexArr rfl rfl un29 sz22 h127.1 h127.2)) (fun _ w hw => hw.reord [1, 2, 3] 4 rfl) (fun _ _ _ w hw => hw.reord [] 4 rfl) rfl rfl (by kernel_rfl) fun _ => ?_
                        refine WK.x (i := 27) (by kernel_rfl) rfl (OpV.x (R.indexArr rfl rfl un22 sz5 h98.1 h98.2)) (fun _ w hw => hw.reord [1, 2, 3] 4 rfl) (fun _ _ _ w hw => hw.reord [] 4 rfl) rfl rfl (by kernel_rfl) fun _ => ?_
                        refine WK.x (i := 28) (by kernel_rfl) rfl (OpV.x (R.load rfl (At.sub (At.sub (At.sub (At.bx 3 rfl (Sub.refl _)) (e_S_Square_s1 p0)) (sub_arr ((Enc.int .u8).arr 10) (v := p0.Table) h127.1 h127.2)) (sub_arr (Enc.int .u8) (v := gv p0.Table s113.2) h98.1 h98.2)) (Lies.one _ ia5))) (fun _ w hw => hw.reord [1, 2, 3] 4 rfl) (fun _ _ _ w hw => hw.reord [] 4 rfl) rfl rfl (by kernel_rfl) fun _ => ?_
                        refine WK.x (i := 29) (by kernel_rfl) rfl (OpV.x (R.conv rfl un2 us5)) (fun _ w hw => hw.reord [1, 2, 3] 4 rfl) (fun _ _ _ w hw => hw.reord [] 4 rfl) rfl rfl (by kernel_rfl) fun _ => ?_
                        refine WK.x (i := 30) (by kernel_rfl) rfl (OpV.x (ba58 rfl)) (fun _ w hw => hw.reord [1, 2, 3] 4 rfl) (fun _ _ _ w hw => hw.reord [] 4 rfl) rfl rfl (by kernel_rfl) fun _ => ?_
                        refine WK.x (i := 31) (by kernel_rfl) rfl (R.buildT ([(#v[IntKind.i64.wrap (gv (gv p0.Table (gv (gl s11.2.1 s11.2.2) 0)) s113.2), IntKind.i64.wrap (gv (gv p0.Table (gv (gl s11.2.1 s11.2.2) 1)) s113.2)] : (Vector Int 2)), (#v[IntKind.i64.wrap (gv (gv p0.Table s113.2) (gv (gl s11.2.1 s11.2.2) 0)), IntKind.i64.wrap (gv (gv p0.Table s113.2) (gv (gl s11.2.1 s11.2.2) 1))] : (Vector Int 2))]) el57 rfl rfl rfl rfl (by simp [cells_agg]) (by decide) (by decide)) (fun _ w hw => hw.reord [2, 3, 4] 5 rfl) (fun _ _ _ w hw => hw.reord [] 5 rfl) rfl rfl (by kernel_rfl) fun v128 => ?_
                        refine WK.x (i := 32) (by kernel_rfl) rfl (R.appendT 1 rfl rfl rfl el57 el57 (RdT.at 0 rfl) h129) (fun _ w hw => hw.reord [2, 3, 4] 5 rfl) (fun _ _ _ w hw => hw.reord [] 5 rfl) rfl rfl (by kernel_rfl) fun v130 => ?_
                        refine WK.x (i := 33) (by kernel_rfl) rfl (OpV.x (R.assign rfl)) (fun _ w hw => hw.reord [2, 3, 4] 5 rfl) (fun _ _ _ w hw => hw.reord [] 5 rfl) rfl rfl (by kernel_rfl) fun _ => ?_
                        refine WK.nil (by kernel_rfl) ?_
                        exact fun a w s => And.intro rfl (Exists.intro v128 (Exists.intro v130 (Sat.mk (s.env.le ⟨rfl, rfl, rfl, rfl, rfl, rfl, rfl, rfl, trivial⟩) (s.mem))))
                      · refine Go2.ex fun v128 => ?_
                        refine Go2.ex fun v130 => ?_
                        refine Go2.sat ?_
                        refine Go.n_block ?_
                        refine Go.then_ ?_
                        refine W.region ?_
                        refine WL.q (R.move rfl) rfl ?_
                        refine WL.q (R.add rfl rfl) rfl ?_
                        refine WL.q (R.assign rfl) rfl ?_
                        refine WL.nil ?_
                        have he := Option.some.inj hm
                        clear hm
                        subst x
                        exact fun a w s => Exists.intro _ (And.intro rfl (Exists.intro v130 (Sat.mk (s.env.le ⟨rfl, rfl, rfl, rfl, rfl, rfl, rfl, rfl, trivial⟩) (s.mem.reord [1, 2, 3, 4] 5 rfl))))
                    · rw [if_neg h126] at hm
                      refine W.cond_f rfl (decide_eq_false h126) ?_
                      refine W.exit ?_
                      refine Go.x_then ?_
                      have he := Option.some.inj hm
                      clear hm
                      subst x
                      exact fun a w s => Exists.intro _ (And.intro rfl (And.intro rfl (Exists.intro v125 (Sat.mk (s.env.le ⟨rfl, rfl, rfl, rfl, rfl, trivial⟩) (s.mem)))))
                  · intro e a w hJ
                    obtain ⟨rfl, v132, s⟩ := hJ
                    refine Go.use s ?_
                    refine Go.x_block ?_
                    refine Go.n_block ?_
                    have he := Option.some.inj hm
                    clear hm
                    subst o133
                    exact fun a w s => And.intro rfl (Exists.intro v132 (Sat.mk (s.env.le ⟨rfl, rfl, rfl, rfl, rfl, trivial⟩) (s.mem)))
        · intro e a w hJ
          replace hm := hmo133
          clear hmo133
          obtain ⟨rfl, v134, s⟩ := hJ
          refine Go.use s ?_
          refine Go.then_ ?_
          refine W.region ?_
          refine WL.q (R.move rfl) rfl ?_
          refine WL.q (R.add rfl rfl) rfl ?_
          refine WL.q (R.assign rfl) rfl ?_
          refine WL.nil ?_
          have he := Option.some.inj hm
          clear hm
          subst x
          exact fun a w s => Exists.intro _ (And.intro rfl (Exists.intro v134 (Sat.mk (s.env.le ⟨rfl, rfl, rfl, rfl, rfl, trivial⟩) (s.mem))))
      · rw [if_neg h95] at hm
        refine W.cond_f rfl (decide_eq_false h95) ?_
        refine W.exit ?_
        refine Go.x_then ?_
        have he := Option.some.inj hm
        clear hm
        subst x
        exact fun a w s => Exists.intro _ (And.intro rfl (And.intro rfl (Sat.mk (s.env.le ⟨rfl, rfl, trivial⟩) (s.mem.reord [1, 2] 4 rfl))))
    · intro e a w hJ
      obtain ⟨rfl, s⟩ := hJ
      refine Go.use s ?_
      refine Go.x_block ?_
      refine Go.then_ ?_
      refine W.seq ?_
      refine W.region ?_
      refine WL.q (R.load rfl (At.bx 0 rfl (Sub.refl _)) (lies_agg ((Enc.int .i64).arr 10) o12 ia60 sz60)) rfl ?_
      refine WL.x0 (R.store_bx (i := 1) rfl rfl rfl (fits_agg ((Enc.int .i64).arr 10) o12 sz60) (Up.all ((Enc.int .i64).arr 10) _ _)) fun _ => ?_
      refine WL.nil ?_
      refine Go.then_ ?_
      refine W.ret ?_
      have he := Option.some.inj hm
      clear hm
      subst r
      exact Go.ret1 rfl (.cell rfl (At.bx 1 rfl (Sub.refl _)) (lies_agg ((Enc.int .i64).arr 10) o12 ia60 sz60)) (fun w hw => ⟨_, rfl, _, ⟨(), rfl, rfl⟩, hw.reord [] 2 rfl⟩)
set_option maxRecDepth 100000 in
theorem spec_l06Closure_tr {G : World} {F : List Res} (p0 : S_Square) (q1 : Value) (p1 : (List Int)) (hp1 : RdT (Enc.int .i64) G F q1 p1) {r : (List Int)} (hm : spec_l06Closure p0 p1 = some r) : Tr Try.prog G 21 [(.agg (e_S_Square.cells p0).toArray), q1] F (fun u K => ∃ x : Value, u = x ∧ K = ((slT (Enc.int .i64) x r) :: F)) := by
  unfold spec_l06Closure at hm
  refine Tr.body Try.func21 rfl Try.ntmps21 ?_
  refine W.seq ?_
  refine W.region ?_
  refine WL.x (R.box rfl (cells_agg _)) rfl fun b1 => ?_
  refine WL.q (R.assign rfl) rfl ?_
  refine WL.nil ?_
  refine Go.then_ ?_
  refine W.seq ?_
  refine W.region ?_
  refine WL.x (R.buildT ([] : List (Vector Int 2)) el57 rfl rfl rfl rfl rfl (by decide) (by decide)) rfl fun v2 => ?_
  refine WL.q (R.assign rfl) rfl ?_
  refine WL.nil ?_
  refine Go.then_ ?_
  refine W.seq ?_
  refine W.seq ?_
  refine W.region ?_
  refine WL.q (R.assign rfl) rfl ?_
  refine WL.nil ?_
  refine Go.then_ ?_
  refine W.block ?_
  obtain ⟨o4, hlo4, hm⟩ := of_bind hm
  refine W.loopx (fun (s3 : ((List (Vector Int 2)) × Int)) a w => ∃ v16 : Value, Sat G ((slT ((Enc.int .i64).arr 2) v16 s3.1) :: (bx b1 (e_S_Square.cells p0)) :: F) 30 [(1, q1), (2, (.pointer (some ⟨b1, 0, none⟩))), (4, (.slice none 0 0)), (5, v16), (6, (.int .i64 s3.2))] a w) (fun (o4 : (List (Vector Int 2))) e a w => And (e = (.exit 0)) (∃ v23 : Value, Sat G ((slT ((Enc.int .i64).arr 2) v23 o4) :: (bx b1 (e_S_Square.cells p0)) :: F) 30 [(2, (.pointer (some ⟨b1, 0, none⟩))), (4, (.slice none 0 0)), (5, v23)] a w)) hlo4 (fun a w s => (Exists.intro v2 (Sat.mk (s.env.le ⟨rfl, rfl, rfl, rfl, rfl, trivial⟩) (s.mem)))) ?_ ?_
  · clear hm
    intro s3 x hm a w hJ
    obtain ⟨v16, s⟩ := hJ
    unfold spec_l06Closure_L1 at hm
    refine W.use s ?_
    refine W.seq ?_
    refine W.seq ?_
    refine W.region ?_
    refine WL.q (R.move rfl) rfl ?_
    refine WL.q (R.move rfl) rfl ?_
    refine WL.q (R.lenT rfl el43 (RdT.lift 2 rfl hp1)) rfl ?_
    refine WL.q (R.lss rfl rfl) rfl ?_
    refine WL.nil ?_
    refine Go.then_ ?_
    by_cases h17 : s3.2 < (p1.length : Int)
    · rw [if_pos h17] at hm
      refine W.cond_t rfl (decide_eq_true h17) ?_
      refine W.skip ?_
      refine Go.then_ ?_
      refine W.seq ?_
      refine W.block ?_
      refine W.region ?_
      refine WL.q (R.move rfl) rfl ?_
      refine WL.q (R.move rfl) rfl ?_
      refine WL.q (R.move rfl) rfl ?_
      obtain ⟨h18, hm⟩ := of_guard hm
      refine WL.q (R.idxT rfl rfl el43 (RdT.lift 2 rfl hp1) h18) rfl ?_
      refine WL.q (R.load rfl (At.elT (RdT.lift 2 rfl hp1) (by decide) h18) (Lies.one _ ia2)) rfl ?_
      refine WL.q (ba58 rfl) rfl ?_
      refine WL.x (R.buildT ([(#v[0, gl p1 s3.2] : (Vector Int 2))]) el57 rfl rfl rfl rfl (by simp [cells_agg]) (by decide) (by decide)) rfl fun v19 => ?_
      obtain ⟨h20, hm⟩ := of_guard hm
      refine WL.x (R.appendT 1 rfl rfl rfl el57 el57 (RdT.at 0 rfl) h20) rfl fun v21 => ?_
      refine WL.q (R.assign rfl) rfl ?_
      refine WL.nil ?_
      refine Go.n_block ?_
      refine Go.then_ ?_
      refine W.region ?_
      refine WL.q (R.move rfl) rfl ?_
      refine WL.q (R.add rfl rfl) rfl ?_
      refine WL.q (R.assign rfl) rfl ?_
      refine WL.nil ?_
      have he := Option.some.inj hm
      clear hm
      subst x
      exact fun a w s => Exists.intro _ (And.intro rfl (Exists.intro v21 (Sat.mk (s.env.le ⟨rfl, rfl, rfl, rfl, rfl, trivial⟩) (s.mem.reord [1, 2] 3 rfl))))
    · rw [if_neg h17] at hm
      refine W.cond_f rfl (decide_eq_false h17) ?_
      refine W.exit ?_
      refine Go.x_then ?_
      have he := Option.some.inj hm
      clear hm
      subst x
      exact fun a w s => Exists.intro _ (And.intro rfl (And.intro rfl (Exists.intro v16 (Sat.mk (s.env.le ⟨rfl, rfl, rfl, trivial⟩) (s.mem)))))
  · intro e a w hJ
    obtain ⟨rfl, v23, s⟩ := hJ
    refine Go.use s ?_
    refine Go.x_block ?_
    refine Go.then_ ?_
    refine W.seq ?_
    obtain ⟨o24, h25, hm⟩ := of_bind hm
    obtain ⟨o27, h28, hm⟩ := of_bind hm
    obtain ⟨h30, hm⟩ := of_guard hm
    refine W.join1 (fun a w => ∃ x26 : Unit, ∃ x29 : (Value × List Value), Sat G ((ns (Enc.int .i64) x29.1 x29.2 o27) :: (bx b1 (e_S_Square.cells p0)) :: F) 30 [(4, (gl x29.2 0))] a w) ?_ ?_
    · refine W.draw (n := 9) ((bx b1 (e_S_Square.cells p0)) :: F) F 9 (by kernel_rfl) rfl rfl (fun w hw => hw.reord [1] 2 rfl) (fun w hw => hw.drop 2) ?_
      refine WK.q (i := 0) rfl rfl (by kernel_rfl) calm_n (R.load rfl (At.bx 0 rfl (Sub.refl _)) (lies_agg e_S_Square p0 ia31 sz31)) rfl rfl ?_
      refine WK.q (i := 1) rfl rfl (by kernel_rfl) calm_n (R.move rfl) rfl rfl ?_
      refine WK.q (i := 3) rfl rfl (by kernel_rfl) calm_n (R.fieldAddr rfl fa31_0) rfl rfl ?_
      refine WK.q (i := 4) rfl rfl (by kernel_rfl) calm_n (R.load rfl (At.sub (At.bx 0 rfl (Sub.refl _)) (e_S_Square_s0 p0)) (Lies.one _ ia2)) rfl rfl ?_
      refine WK.x (i := 2) (by kernel_rfl) rfl ((R.call rfl en37 (spec_l06Classes_tr (F := ((bx b1 (e_S_Square.cells p0)) :: F)) p0 v23 o4 h25)).weak (fun w hw => hw.reord [0, 1] 2 rfl)) (fun _ w hw => hw) (fun _ _ _ w hw => hw.reord [] 1 rfl) rfl rfl (by kernel_rfl) fun x26 => ?_
      refine WK.x (i := 5) (by kernel_rfl) rfl (R.call rfl en36 (spec_l06Told_tr o24 p0.Order h28)) (fun _ w hw => hw.reord [1] 2 rfl) (fun _ _ _ w hw => hw.reord [] 2 rfl) rfl rfl (by kernel_rfl) fun x29 => ?_
      refine WK.x (i := 6) (by kernel_rfl) rfl (OpV.x (R.idxN rfl rfl nl26 (RdN.at 0 rfl) h30)) (fun _ w hw => hw.reord [1] 2 rfl) (fun _ _ _ w hw => hw.reord [] 2 rfl) rfl rfl (by kernel_rfl) fun _ => ?_
      refine WK.x (i := 7) (by kernel_rfl) rfl (OpV.x (R.load rfl (At.elN (RdN.at 0 rfl) h30) (Lies.one _ ia43))) (fun _ w hw => hw.reord [1] 2 rfl) (fun _ _ _ w hw => hw.reord [] 2 rfl) rfl rfl (by kernel_rfl) fun _ => ?_
      refine WK.x (i := 8) (by kernel_rfl) rfl (OpV.x (R.assign rfl)) (fun _ w hw => hw.reord [1] 2 rfl) (fun _ _ _ w hw => hw.reord [] 2 rfl) rfl rfl (by kernel_rfl) fun _ => ?_
      refine WK.nil (by kernel_rfl) ?_
      exact fun a w s => And.intro rfl (Exists.intro x26 (Exists.intro x29 (Sat.mk (s.env.le ⟨rfl, trivial⟩) (s.mem))))
    · refine Go2.ex fun x26 => ?_
      refine Go2.ex fun x29 => ?_
      refine Go2.sat ?_
      refine Go.then_ ?_
      refine W.ret ?_
      have he := Option.some.inj hm
      clear hm
      subst r
      exact Go.ret1 rfl (.tmp rfl) (fun w hw => ⟨_, rfl, _, ⟨(gl x29.2 0), rfl, rfl⟩, ((hw.reord [0, 1] 2 rfl).inner h30).reord [0] 2 rfl⟩)
set_option maxRecDepth 100000 in
theorem spec_l01Own_tr {G : World} {F : List Res} (q0 : Value) (p0 : (List Int)) (hp0 : RdT (Enc.int .i64) G F q0 p0) {r : (List Int)} (hm : spec_l01Own p0 = some r) : Tr Try.prog G 22 [q0] F (fun u K => ∃ x : Value, u = x ∧ K = ((slT (Enc.int .i64) x r) :: F)) := by
  unfold spec_l01Own at hm
  refine Tr.body Try.func22 rfl Try.ntmps22 ?_
  refine W.seq ?_
  refine W.region ?_
  refine WL.q (R.assign rfl) rfl ?_
  refine WL.nil ?_
  refine Go.then_ ?_
  refine W.seq ?_
  refine W.region ?_
  refine WL.x (R.buildT ([] : List Int) el43 rfl rfl rfl rfl rfl (by decide) (by decide)) rfl fun v1 => ?_
  refine WL.q (R.move rfl) rfl ?_
  obtain ⟨h2, hm⟩ := of_guard hm
  refine WL.x (R.appendT 0 rfl rfl rfl el43 el43 (RdT.lift 1 rfl hp0) h2) rfl fun v3 => ?_
  refine WL.q (R.assign rfl) rfl ?_
  refine WL.nil ?_
  refine Go.then_ ?_
  refine W.ret ?_
  have he := Option.some.inj hm
  clear hm
  subst r
  exact Go.ret1 rfl (.tmp rfl) (fun w hw => ⟨_, rfl, _, ⟨v3, rfl, rfl⟩, hw⟩)
set_option maxRecDepth 100000 in
theorem spec_l06All_tr {G : World} {F : List Res} (p0 : S_Square) {r : (List (List Int))} (hm : spec_l06All p0 = some r) : Tr Try.prog G 11 [(.agg (e_S_Square.cells p0).toArray)] F (fun u K => ∃ x : (Value × List Value), u = x.1 ∧ K = ((nr (Enc.int .i64) x.1 x.2 r) :: F)) := by
  unfold spec_l06All at hm
  refine Tr.body Try.func11 rfl Try.ntmps11 ?_
  refine W.seq ?_
  refine W.region ?_
  refine WL.x (R.box rfl (cells_agg _)) rfl fun b1 => ?_
  refine WL.q (R.assign rfl) rfl ?_
  refine WL.nil ?_
  refine Go.then_ ?_
  refine W.seq ?_
  refine W.region ?_
  refine WL.x (R.buildT ([0]) el43 rfl rfl rfl rfl rfl (by decide) (by decide)) rfl fun v2 => ?_
  refine WL.x (R.build1 (e := (Enc.int .i64)) nl26 rfl rfl (RdT.at 0 rfl)) rfl fun v3 => ?_
  refine WL.x ((OpV.x (R.assign rfl)).weak (fun w hw => (hw.reord [0, 1, 2] 3 rfl).nestR1)) rfl fun _ => ?_
  refine WL.nil ?_
  refine Go.then_ ?_
  refine W.seq ?_
  refine W.seq ?_
  refine W.region ?_
  refine WL.q (R.assign rfl) rfl ?_
  refine WL.nil ?_
  refine Go.then_ ?_
  refine W.block ?_
  obtain ⟨o5, hlo5, hm⟩ := of_bind hm
  refine W.loopx (fun (s4 : ((List (List Int)) × Int)) a w => ∃ v114 : Value, ∃ v115 : List Value, Sat G ((nr (Enc.int .i64) v114 v115 s4.1) :: (bx b1 (e_S_Square.cells p0)) :: F) 33 [(1, (.pointer (some ⟨b1, 0, none⟩))), (2, (.slice none 0 0)), (3, v114), (4, (.int .i64 s4.2))] a w) (fun (o5 : (List (List Int))) e a w => And (e = (.exit 0)) (∃ v171 : Value, ∃ v172 : List Value, Sat G ((nr (Enc.int .i64) v171 v172 o5) :: F) 33 [(2, (.slice none 0 0)), (3, v171)] a w)) hlo5 (fun a w s => (Exists.intro v3 (Exists.intro ([v2]) (Sat.mk (s.env.le ⟨rfl, rfl, rfl, rfl, trivial⟩) (s.mem))))) ?_ ?_
  · clear hm
    intro s4 x hm a w hJ
    obtain ⟨v114, v115, s⟩ := hJ
    unfold spec_l06All_L1 at hm
    refine W.use s ?_
    refine W.seq ?_
    refine W.seq ?_
    refine W.region ?_
    refine WL.q (R.move rfl) rfl ?_
    refine WL.q (R.move rfl) rfl ?_
    refine WL.q (R.lenN rfl nl26 (RdN.atR 0 rfl)) rfl ?_
    refine WL.q (R.lss rfl rfl) rfl ?_
    refine WL.nil ?_
    refine Go.then_ ?_
    by_cases h116 : s4.2 < (s4.1.length : Int)
    · rw [if_pos h116] at hm
      refine W.cond_t rfl (decide_eq_true h116) ?_
      refine W.skip ?_
      refine Go.then_ ?_
      refine W.seq ?_
      refine W.block ?_
      refine W.seq ?_
      refine W.region ?_
      refine WL.q (R.assign rfl) rfl ?_
      refine WL.nil ?_
      refine Go.then_ ?_
      refine W.block ?_
      obtain ⟨o118, hlo118, hm⟩ := of_bind hm
      refine W.loopx (fun (s117 : ((List (List Int)) × Int)) a w => ∃ v149 : Value, ∃ v150 : List Value, Sat G ((nr (Enc.int .i64) v149 v150 s117.1) :: (bx b1 (e_S_Square.cells p0)) :: F) 33 [(1, (.pointer (some ⟨b1, 0, none⟩))), (2, (.slice none 0 0)), (3, v149), (4, (.int .i64 s4.2)), (5, (.int .i64 s117.2))] a w) (fun (o118 : (List (List Int))) e a w => And (e = (.exit 2)) (∃ v167 : Value, ∃ v168 : List Value, Sat G ((nr (Enc.int .i64) v167 v168 o118) :: (bx b1 (e_S_Square.cells p0)) :: F) 33 [(1, (.pointer (some ⟨b1, 0, none⟩))), (2, (.slice none 0 0)), (3, v167), (4, (.int .i64 s4.2))] a w)) hlo118 (fun a w s => (Exists.intro v114 (Exists.intro v115 (Sat.mk (s.env.le ⟨rfl, rfl, rfl, rfl, rfl, trivial⟩) (s.mem))))) ?_ ?_
      · clear hm
        intro s117 x hm a w hJ
        obtain ⟨v149, v150, s⟩ := hJ
        unfold spec_l06All_L2 at hm
        refine W.use s ?_
        refine W.seq ?_
        refine W.seq ?_
        refine W.region ?_
        refine WL.q (R.move rfl) rfl ?_
        refine WL.q (R.fieldAddr rfl fa31_0) rfl ?_
        refine WL.q (R.load rfl (At.sub (At.bx 1 rfl (Sub.refl _)) (e_S_Square_s0 p0)) (Lies.one _ ia2)) rfl ?_
        refine WL.q (R.lss rfl rfl) rfl ?_
        refine WL.nil ?_
        refine Go.then_ ?_
        by_cases h151 : s117.2 < p0.Order
        · rw [if_pos h151] at hm
          refine W.cond_t rfl (decide_eq_true h151) ?_
          refine W.skip ?_
          refine Go.then_ ?_
          refine W.seq ?_
          refine W.block ?_
          obtain ⟨h152, hm⟩ := of_guard hm
          obtain ⟨o153, h154, hm⟩ := of_bind hm
          obtain ⟨h157, hm⟩ := of_guard hm
          obtain ⟨o159, h160, hm⟩ := of_bind hm
          obtain ⟨o162, h163, hm⟩ := of_bind hm
          refine W.join1 (fun a w => ∃ x155 : Value, ∃ v156 : Value, ∃ v158 : Value, ∃ x161 : Value, ∃ x164 : (Value × List Value), Sat G ((nr (Enc.int .i64) x164.1 x164.2 o162) :: (slT (Enc.int .i64) v156 ([s117.2])) :: (slT (Enc.int .i64) v158 (o153 ++ ([s117.2]))) :: (bx b1 (e_S_Square.cells p0)) :: F) 33 [(1, (.pointer (some ⟨b1, 0, none⟩))), (2, (.slice none 0 0)), (3, x164.1), (4, (.int .i64 s4.2)), (5, (.int .i64 s117.2))] a w) ?_ ?_
          · refine W.draw (n := 13) ((bx b1 (e_S_Square.cells p0)) :: F) F 13 (by kernel_rfl) rfl rfl (fun w hw => hw.reord [1] 2 rfl) (fun w hw => hw.drop 2) ?_
            refine WK.q (i := 0) rfl rfl (by kernel_rfl) calm_n (R.move rfl) rfl rfl ?_
            refine WK.q (i := 1) rfl rfl (by kernel_rfl) calm_n (R.load rfl (At.bx 0 rfl (Sub.refl _)) (lies_agg e_S_Square p0 ia31 sz31)) rfl rfl ?_
            refine WK.q (i := 2) rfl rfl (by kernel_rfl) calm_n (R.move rfl) rfl rfl ?_
            refine WK.q (i := 3) rfl rfl (by kernel_rfl) calm_n (R.move rfl) rfl rfl ?_
            refine WK.q (i := 7) rfl rfl (by kernel_rfl) calm_n (R.move rfl) rfl rfl ?_
            refine WK.among (is := [4, 8]) (by kernel_rfl) rfl ?_
            refine WKa.x rfl (OpV.x (R.idxN rfl rfl nl26 (RdN.atR 0 rfl) h152)) (fun _ w hw => hw.reord [1] 2 rfl) (fun _ _ _ w hw => hw.reord [] 2 rfl) rfl rfl (by kernel_rfl) (fun _ => ?_) ?_
            · refine WK.among (is := [5, 8]) (by kernel_rfl) rfl ?_
              refine WKa.x rfl (OpV.x (R.load rfl (At.elN (RdN.atR 0 rfl) h152) (Lies.one _ ia43))) (fun _ w hw => hw.reord [1] 2 rfl) (fun _ _ _ w hw => hw.reord [] 2 rfl) rfl rfl (by kernel_rfl) (fun _ => ?_) ?_
              · refine WK.among (is := [6, 8]) (by kernel_rfl) rfl ?_
                refine WKa.x rfl (R.call rfl en22 (spec_l01Own_tr (gl v150 s4.2) (gl s117.1 s4.2) (RdN.inner (RdN.atR 0 rfl) h152) h154)) (fun _ w hw => hw.reord [2] 3 rfl) (fun _ _ _ w hw => hw.reord [] 3 rfl) rfl rfl (by kernel_rfl) (fun x155 => ?_) ?_
                · refine WK.x (i := 8) (by kernel_rfl) rfl (R.buildT ([s117.2]) el43 rfl rfl rfl rfl rfl (by decide) (by decide)) (fun _ w hw => hw.reord [3] 4 rfl) (fun _ _ _ w hw => hw.reord [] 4 rfl) rfl rfl (by kernel_rfl) fun v156 => ?_
                  refine WK.x (i := 9) (by kernel_rfl) rfl (R.appendT 1 rfl rfl rfl el43 el43 (RdT.at 0 rfl) h157) (fun _ w hw => hw.reord [3] 4 rfl) (fun _ _ _ w hw => hw.reord [] 4 rfl) rfl rfl (by kernel_rfl) fun v158 => ?_
                  refine WK.x (i := 10) (by kernel_rfl) rfl (R.call rfl en21 (spec_l06Closure_tr p0 v158 (o153 ++ ([s117.2])) (RdT.at 1 rfl) h160)) (fun _ w hw => hw.reord [4] 5 rfl) (fun _ _ _ w hw => hw.reord [] 5 rfl) rfl rfl (by kernel_rfl) fun x161 => ?_
                  refine WK.x (i := 11) (by kernel_rfl) rfl ((R.call rfl en20 (spec_l06Insert_tr (F := ((slT (Enc.int .i64) v156 ([s117.2])) :: (slT (Enc.int .i64) v158 (o153 ++ ([s117.2]))) :: (bx b1 (e_S_Square.cells p0)) :: F)) v149 v150 s117.1 x161 o159 h163)).weak (fun w hw => hw.reord [3, 0, 1, 2, 4] 5 rfl)) (fun _ w hw => hw.reord [3] 4 rfl) (fun _ _ _ w hw => hw.reord [] 4 rfl) rfl rfl (by kernel_rfl) fun x164 => ?_
                  refine WK.x (i := 12) (by kernel_rfl) rfl (OpV.x (R.assign rfl)) (fun _ w hw => hw.reord [3] 4 rfl) (fun _ _ _ w hw => hw.reord [] 4 rfl) rfl rfl (by kernel_rfl) fun _ => ?_
                  refine WK.nil (by kernel_rfl) ?_
                  exact fun a w s => And.intro rfl (Exists.intro x155 (Exists.intro v156 (Exists.intro v158 (Exists.intro x161 (Exists.intro x164 (Sat.mk (s.env.le ⟨rfl, rfl, rfl, rfl, rfl, trivial⟩) (s.mem)))))))
                refine WKa.x rfl (R.buildT ([s117.2]) el43 rfl rfl rfl rfl rfl (by decide) (by decide)) (fun _ w hw => hw.reord [2] 3 rfl) (fun _ _ _ w hw => hw.reord [] 3 rfl) rfl rfl (by kernel_rfl) (fun v156 => ?_) ?_
                · refine WK.x (i := 6) (by kernel_rfl) rfl (R.call rfl en22 (spec_l01Own_tr (gl v150 s4.2) (gl s117.1 s4.2) (RdN.inner (RdN.atR 1 rfl) h152) h154)) (fun _ w hw => hw.reord [3] 4 rfl) (fun _ _ _ w hw => hw.reord [] 4 rfl) rfl rfl (by kernel_rfl) fun x155 => ?_
                  refine WK.x (i := 9) (by kernel_rfl) rfl (R.appendT 0 rfl rfl rfl el43 el43 (RdT.at 1 rfl) h157) (fun _ w hw => hw.reord [3] 4 rfl) (fun _ _ _ w hw => hw.reord [] 4 rfl) rfl rfl (by kernel_rfl) fun v158 => ?_
                  refine WK.x (i := 10) (by kernel_rfl) rfl (R.call rfl en21 (spec_l06Closure_tr p0 v158 (o153 ++ ([s117.2])) (RdT.at 0 rfl) h160)) (fun _ w hw => hw.reord [4] 5 rfl) (fun _ _ _ w hw => hw.reord [] 5 rfl) rfl rfl (by kernel_rfl) fun x161 => ?_
                  refine WK.x (i := 11) (by kernel_rfl) rfl ((R.call rfl en20 (spec_l06Insert_tr (F := ((slT (Enc.int .i64) v158 (o153 ++ ([s117.2]))) :: (slT (Enc.int .i64) v156 ([s117.2])) :: (bx b1 (e_S_Square.cells p0)) :: F)) v149 v150 s117.1 x161 o159 h163)).weak (fun w hw => hw.reord [3, 0, 1, 2, 4] 5 rfl)) (fun _ w hw => hw.reord [3] 4 rfl) (fun _ _ _ w hw => hw.reord [] 4 rfl) rfl rfl (by kernel_rfl) fun x164 => ?_
                  refine WK.x (i := 12) (by kernel_rfl) rfl (OpV.x (R.assign rfl)) (fun _ w hw => hw.reord [3] 4 rfl) (fun _ _ _ w hw => hw.reord [] 4 rfl) rfl rfl (by kernel_rfl) fun _ => ?_
                  refine WK.nil (by kernel_rfl) ?_
                  exact fun a w s => And.intro rfl (Exists.intro x155 (Exists.intro v156 (Exists.intro v158 (Exists.intro x161 (Exists.intro x164 (Sat.mk (s.env.le ⟨rfl, rfl, rfl, rfl, rfl, trivial⟩) (s.mem.reord [0, 2, 1, 3] 4 rfl)))))))
                exact WKa.nil
              refine WKa.x rfl (R.buildT ([s117.2]) el43 rfl rfl rfl rfl rfl (by decide) (by decide)) (fun _ w hw => hw.reord [2] 3 rfl) (fun _ _ _ w hw => hw.reord [] 3 rfl) rfl rfl (by kernel_rfl) (fun v156 => ?_) ?_
              · refine WK.x (i := 5) (by kernel_rfl) rfl (OpV.x (R.load rfl (At.elN (RdN.atR 1 rfl) h152) (Lies.one _ ia43))) (fun _ w hw => hw.reord [2] 3 rfl) (fun _ _ _ w hw => hw.reord [] 3 rfl) rfl rfl (by kernel_rfl) fun _ => ?_
                refine WK.x (i := 6) (by kernel_rfl) rfl (R.call rfl en22 (spec_l01Own_tr (gl v150 s4.2) (gl s117.1 s4.2) (RdN.inner (RdN.atR 1 rfl) h152) h154)) (fun _ w hw => hw.reord [3] 4 rfl) (fun _ _ _ w hw => hw.reord [] 4 rfl) rfl rfl (by kernel_rfl) fun x155 => ?_
                refine WK.x (i := 9) (by kernel_rfl) rfl (R.appendT 0 rfl rfl rfl el43 el43 (RdT.at 1 rfl) h157) (fun _ w hw => hw.reord [3] 4 rfl) (fun _ _ _ w hw => hw.reord [] 4 rfl) rfl rfl (by kernel_rfl) fun v158 => ?_
                refine WK.x (i := 10) (by kernel_rfl) rfl (R.call rfl en21 (spec_l06Closure_tr p0 v158 (o153 ++ ([s117.2])) (RdT.at 0 rfl) h160)) (fun _ w hw => hw.reord [4] 5 rfl) (fun _ _ _ w hw => hw.reord [] 5 rfl) rfl rfl (by kernel_rfl) fun x161 => ?_
                refine WK.x (i := 11) (by kernel_rfl) rfl ((R.call rfl en20 (spec_l06Insert_tr (F := ((slT (Enc.int .i64) v158 (o153 ++ ([s117.2]))) :: (slT (Enc.int .i64) v156 ([s117.2])) :: (bx b1 (e_S_Square.cells p0)) :: F)) v149 v150 s117.1 x161 o159 h163)).weak (fun w hw => hw.reord [3, 0, 1, 2, 4] 5 rfl)) (fun _ w hw => hw.reord [3] 4 rfl) (fun _ _ _ w hw => hw.reord [] 4 rfl) rfl rfl (by kernel_rfl) fun x164 => ?_
                refine WK.x (i := 12) (by kernel_rfl) rfl (OpV.x (R.assign rfl)) (fun _ w hw => hw.reord [3] 4 rfl) (fun _ _ _ w hw => hw.reord [] 4 rfl) rfl rfl (by kernel_rfl) fun _ => ?_
                refine WK.nil (by kernel_rfl) ?_
                exact fun a w s => And.intro rfl (Exists.intro x155 (Exists.intro v156 (Exists.intro v158 (Exists.intro x161 (Exists.intro x164 (Sat.mk (s.env.le ⟨rfl, rfl, rfl, rfl, rfl, trivial⟩) (s.mem.reord [0, 2, 1, 3] 4 rfl)))))))
              exact WKa.nil
            refine WKa.x rfl (R.buildT ([s117.2]) el43 rfl rfl rfl rfl rfl (by decide) (by decide)) (fun _ w hw => hw.reord [2] 3 rfl) (fun _ _ _ w hw => hw.reord [] 3 rfl) rfl rfl (by kernel_rfl) (fun v156 => ?_) ?_
            · refine WK.x (i := 4) (by kernel_rfl) rfl (OpV.x (R.idxN rfl rfl nl26 (RdN.atR 1 rfl) h152)) (fun _ w hw => hw.reord [2] 3 rfl) (fun _ _ _ w hw => hw.reord [] 3 rfl) rfl rfl (by kernel_rfl) fun _ => ?_
              refine WK.x (i := 5) (by kernel_rfl) rfl (OpV.x (R.load rfl (At.elN (RdN.atR 1 rfl) h152) (Lies.one _ ia43))) (fun _ w hw => hw.reord [2] 3 rfl) (fun _ _ _ w hw => hw.reord [] 3 rfl) rfl rfl (by kernel_rfl) fun _ => ?_
              refine WK.x (i := 6) (by kernel_rfl) rfl (R.call rfl en22 (spec_l01Own_tr (gl v150 s4.2) (gl s117.1 s4.2) (RdN.inner (RdN.atR 1 rfl) h152) h154)) (fun _ w hw => hw.reord [3] 4 rfl) (fun _ _ _ w hw => hw.reord [] 4 rfl) rfl rfl (by kernel_rfl) fun x155 => ?_
              refine WK.x (i := 9) (by kernel_rfl) rfl (R.appendT 0 rfl rfl rfl el43 el43 (RdT.at 1 rfl) h157) (fun _ w hw => hw.reord [3] 4 rfl) (fun _ _ _ w hw => hw.reord [] 4 rfl) rfl rfl (by kernel_rfl) fun v158 => ?_
              refine WK.x (i := 10) (by kernel_rfl) rfl (R.call rfl en21 (spec_l06Closure_tr p0 v158 (o153 ++ ([s117.2])) (RdT.at 0 rfl) h160)) (fun _ w hw => hw.reord [4] 5 rfl) (fun _ _ _ w hw => hw.reord [] 5 rfl) rfl rfl (by kernel_rfl) fun x161 => ?_
              refine WK.x (i := 11) (by kernel_rfl) rfl ((R.call rfl en20 (spec_l06Insert_tr (F := ((slT (Enc.int .i64) v158 (o153 ++ ([s117.2]))) :: (slT (Enc.int .i64) v156 ([s117.2])) :: (bx b1 (e_S_Square.cells p0)) :: F)) v149 v150 s117.1 x161 o159 h163)).weak (fun w hw => hw.reord [3, 0, 1, 2, 4] 5 rfl)) (fun _ w hw => hw.reord [3] 4 rfl) (fun _ _ _ w hw => hw.reord [] 4 rfl) rfl rfl (by kernel_rfl) fun x164 => ?_
              refine WK.x (i := 12) (by kernel_rfl) rfl (OpV.x (R.assign rfl)) (fun _ w hw => hw.reord [3] 4 rfl) (fun _ _ _ w hw => hw.reord [] 4 rfl) rfl rfl (by kernel_rfl) fun _ => ?_
              refine WK.nil (by kernel_rfl) ?_
              exact fun a w s => And.intro rfl (Exists.intro x155 (Exists.intro v156 (Exists.intro v158 (Exists.intro x161 (Exists.intro x164 (Sat.mk (s.env.le ⟨rfl, rfl, rfl, rfl, rfl, trivial⟩) (s.mem.reord [0, 2, 1, 3] 4 rfl)))))))
            exact WKa.nil
          · refine Go2.ex fun x155 => ?_
            refine Go2.ex fun v156 => ?_
            refine Go2.ex fun v158 => ?_
            refine Go2.ex fun x161 => ?_
            refine Go2.ex fun x164 => ?_
            refine Go2.sat ?_
            refine Go.n_block ?_
            refine Go.then_ ?_
            refine W.region ?_
            refine WL.q (R.move rfl) rfl ?_
            refine WL.q (R.add rfl rfl) rfl ?_
            refine WL.q (R.assign rfl) rfl ?_
            refine WL.nil ?_
            have he := Option.some.inj hm
            clear hm
            subst x
            exact fun a w s => Exists.intro _ (And.intro rfl (Exists.intro x164.1 (Exists.intro x164.2 (Sat.mk (s.env.le ⟨rfl, rfl, rfl, rfl, rfl, trivial⟩) (s.mem.reord [0, 3] 4 rfl)))))
        · rw [if_neg h151] at hm
          refine W.cond_f rfl (decide_eq_false h151) ?_
          refine W.exit ?_
          refine Go.x_then ?_
          have he := Option.some.inj hm
          clear hm
          subst x
          exact fun a w s => Exists.intro _ (And.intro rfl (And.intro rfl (Exists.intro v149 (Exists.intro v150 (Sat.mk (s.env.le ⟨rfl, rfl, rfl, rfl, trivial⟩) (s.mem))))))
      · intro e a w hJ
        obtain ⟨rfl, v167, v168, s⟩ := hJ
        refine Go.use s ?_
        refine Go.x_block ?_
        refine Go.n_block ?_
        refine Go.then_ ?_
        refine W.region ?_
        refine WL.q (R.move rfl) rfl ?_
        refine WL.q (R.add rfl rfl) rfl ?_
        refine WL.q (R.assign rfl) rfl ?_
        refine WL.nil ?_
        have he := Option.some.inj hm
        clear hm
        subst x
        exact fun a w s => Exists.intro _ (And.intro rfl (Exists.intro v167 (Exists.intro v168 (Sat.mk (s.env.le ⟨rfl, rfl, rfl, rfl, trivial⟩) (s.mem)))))
    · rw [if_neg h116] at hm
      refine W.cond_f rfl (decide_eq_false h116) ?_
      refine W.exit ?_
      refine Go.x_then ?_
      have he := Option.some.inj hm
      clear hm
      subst x
      exact fun a w s => Exists.intro _ (And.intro rfl (And.intro rfl (Exists.intro v114 (Exists.intro v115 (Sat.mk (s.env.le ⟨rfl, rfl, trivial⟩) (s.mem.reord [0] 2 rfl))))))
  · intro e a w hJ
    obtain ⟨rfl, v171, v172, s⟩ := hJ
    refine Go.use s ?_
    refine Go.x_block ?_
    refine Go.then_ ?_
    refine W.seq ?_
    refine W.region ?_
    refine WL.q (R.move rfl) rfl ?_
    refine WL.q (R.assign rfl) rfl ?_
    refine WL.nil ?_
    refine Go.then_ ?_
    refine W.ret ?_
    have he := Option.some.inj hm
    clear hm
    subst r
    exact Go.ret1 rfl (.tmp rfl) (fun w hw => ⟨_, rfl, _, ⟨(v171, v172), rfl, rfl⟩, hw⟩)
set_option maxRecDepth 100000 in
theorem spec_AllNormal_tr {G : World} {F : List Res} (p0 : S_Square) {r : ((List (List Int)) × Int)} (hm : spec_AllNormal p0 = some r) : Tr Try.prog G 4 [(.agg (e_S_Square.cells p0).toArray)] F (fun u K => ∃ x : (Value × List Value), u = (.tuple #[x.1, (.int .i64 r.2)]) ∧ K = ((nr (Enc.int .i64) x.1 x.2 r.1) :: F)) := by
  unfold spec_AllNormal at hm
  refine Tr.body Try.func4 rfl Try.ntmps4 ?_
  refine W.seq ?_
  refine W.region ?_
  refine WL.x (R.box rfl (cells_agg _)) rfl fun b1 => ?_
  refine WL.q (R.assign rfl) rfl ?_
  refine WL.q (R.assign rfl) rfl ?_
  refine WL.nil ?_
  refine Go.then_ ?_
  refine W.seq ?_
  refine W.seq ?_
  refine W.region ?_
  refine WL.q (R.load rfl (At.bx 0 rfl (Sub.refl _)) (lies_agg e_S_Square p0 ia31 sz31)) rfl ?_
  obtain ⟨o2, h3, hm⟩ := of_bind hm
  refine WL.x (R.call rfl en10 (spec_l01Loop_tr p0 h3)) rfl fun x4 => ?_
  refine WL.q (R.not rfl) rfl ?_
  refine WL.nil ?_
  refine Go.then_ ?_
  by_cases h5 : o2 = true
  · rw [if_pos h5] at hm
    refine W.cond_f rfl (not_f h5) ?_
    refine W.skip ?_
    refine Go.then_ ?_
    refine W.seq ?_
    refine W.region ?_
    refine WL.q (R.load rfl (At.bx 0 rfl (Sub.refl _)) (lies_agg e_S_Square p0 ia31 sz31)) rfl ?_
    obtain ⟨o6, h7, hm⟩ := of_bind hm
    refine WL.x (R.call rfl en11 (spec_l06All_tr p0 h7)) rfl fun x8 => ?_
    refine WL.q (R.assign rfl) rfl ?_
    refine WL.q (R.assign rfl) rfl ?_
    refine WL.nil ?_
    refine Go.then_ ?_
    refine W.ret ?_
    have he := Option.some.inj hm
    clear hm
    subst r
    exact Go.ret2 rfl (.tmp rfl) (.tmp rfl) (fun w hw => ⟨_, rfl, _, ⟨(x8.1, x8.2), rfl, rfl⟩, hw.reord [0] 2 rfl⟩)
  · rw [if_neg h5] at hm
    refine W.cond_t rfl (not_t (b_f h5)) ?_
    refine W.seq ?_
    refine W.region ?_
    refine WL.q (R.assign rfl) rfl ?_
    refine WL.q (R.assign rfl) rfl ?_
    refine WL.nil ?_
    refine Go.then_ ?_
    refine W.ret ?_
    refine Go.r_then ?_
    have he := Option.some.inj hm
    clear hm
    subst r
    exact Go.ret2 rfl (.tmp rfl) (.tmp rfl) (fun w hw => ⟨_, rfl, _, ⟨((.slice none 0 0), []), rfl, rfl⟩, (hw.addNilR (Enc.int .i64)).reord [0] 2 rfl⟩)
set_option maxRecDepth 100000 in
theorem laws_toByteA10_tr {G : World} {F : List Res} (p0 : (Vector Int 10)) {r : (Vector Int 10)} (hm : laws_toByteA10 p0 = some r) : Tr Try.prog G 23 [(.agg (((Enc.int .u8).arr 10).cells p0).toArray)] F (fun u K => ∃ x : Unit, u = (.agg (((Enc.int .u8).arr 10).cells r).toArray) ∧ K = F) := by
  unfold laws_toByteA10 at hm
  refine Tr.body Try.func23 rfl Try.ntmps23 ?_
  refine W.seq ?_
  refine W.region ?_
  refine WL.x (R.box rfl (cells_agg _)) rfl fun b1 => ?_
  refine WL.x (al22) rfl fun b2 => ?_
  refine WL.nil ?_
  refine Go.then_ ?_
  refine W.seq ?_
  refine W.region ?_
  refine WL.x (al22) rfl fun b3 => ?_
  refine WL.nil ?_
  refine Go.then_ ?_
  refine W.seq ?_
  refine W.seq ?_
  refine W.region ?_
  refine WL.q (R.assign rfl) rfl ?_
  refine WL.nil ?_
  refine Go.then_ ?_
  refine W.block ?_
  obtain ⟨o5, hlo5, hm⟩ := of_bind hm
  refine W.loopx (fun (s4 : ((Vector Int 10) × Int)) a w => Sat G ((bx b3 (((Enc.int .u8).arr 10).cells s4.1)) :: (bx b2 (((Enc.int .u8).arr 10).cells (Vector.replicate 10 0))) :: (bx b1 (((Enc.int .u8).arr 10).cells p0)) :: F) 15 [(1, (.pointer (some ⟨b1, 0, none⟩))), (2, (.pointer (some ⟨b2, 0, none⟩))), (3, (.pointer (some ⟨b3, 0, none⟩))), (4, (.int .i64 s4.2))] a w) (fun (o5 : (Vector Int 10)) e a w => And (e = (.exit 0)) (Sat G ((bx b3 (((Enc.int .u8).arr 10).cells o5)) :: (bx b2 (((Enc.int .u8).arr 10).cells (Vector.replicate 10 0))) :: F) 15 [(2, (.pointer (some ⟨b2, 0, none⟩))), (3, (.pointer (some ⟨b3, 0, none⟩)))] a w)) hlo5 (fun a w s => (Sat.mk (s.env.le ⟨rfl, rfl, rfl, rfl, trivial⟩) (s.mem))) ?_ ?_
  · clear hm
    intro s4 x hm a w hJ
    have s := hJ
    unfold laws_toByteA10_L1 at hm
    refine W.use s ?_
    refine W.seq ?_
    refine W.seq ?_
    refine W.region ?_
    refine WL.q (R.move rfl) rfl ?_
    refine WL.q (R.lss rfl rfl) rfl ?_
    refine WL.nil ?_
    refine Go.then_ ?_
    by_cases h9 : s4.2 < 10
    · rw [if_pos h9] at hm
      refine W.cond_t rfl (decide_eq_true h9) ?_
      refine W.skip ?_
      refine Go.then_ ?_
      refine W.seq ?_
      refine W.block ?_
      refine W.region ?_
      refine WL.q (R.move rfl) rfl ?_
      refine WL.q (R.move rfl) rfl ?_
      obtain ⟨h10, hm⟩ := of_guard hm
      refine WL.q (R.indexArr rfl rfl un22 sz5 h10.1 h10.2) rfl ?_
      refine WL.q (R.load rfl (At.sub (At.bx 2 rfl (Sub.refl _)) (sub_arr (Enc.int .u8) (v := p0) h10.1 h10.2)) (Lies.one _ ia5)) rfl ?_
      refine WL.q (R.indexArr rfl rfl un22 sz5 h10.1 h10.2) rfl ?_
      refine WL.x0 (R.store_bx (i := 0) rfl rfl rfl (fits_int sz5) (Up.trans (Sub.refl _) (up_arr (Enc.int .u8) (v := s4.1) (gv p0 s4.2) h10.1 h10.2) (Up.all ((Enc.int .u8).arr 10) _ _))) fun _ => ?_
      refine WL.nil ?_
      refine Go.n_block ?_
      refine Go.then_ ?_
      refine W.region ?_
      refine WL.q (R.move rfl) rfl ?_
      refine WL.q (R.add rfl rfl) rfl ?_
      refine WL.q (R.assign rfl) rfl ?_
      refine WL.nil ?_
      have he := Option.some.inj hm
      clear hm
      subst x
      exact fun a w s => Exists.intro _ (And.intro rfl (Sat.mk (s.env.le ⟨rfl, rfl, rfl, rfl, trivial⟩) (s.mem)))
    · rw [if_neg h9] at hm
      refine W.cond_f rfl (decide_eq_false h9) ?_
      refine W.exit ?_
      refine Go.x_then ?_
      have he := Option.some.inj hm
      clear hm
      subst x
      exact fun a w s => Exists.intro _ (And.intro rfl (And.intro rfl (Sat.mk (s.env.le ⟨rfl, rfl, trivial⟩) (s.mem.reord [0, 1] 3 rfl))))
  · intro e a w hJ
    obtain ⟨rfl, s⟩ := hJ
    refine Go.use s ?_
    refine Go.x_block ?_
    refine Go.then_ ?_
    refine W.seq ?_
    refine W.region ?_
    refine WL.q (R.load rfl (At.bx 0 rfl (Sub.refl _)) (lies_agg ((Enc.int .u8).arr 10) o5 ia22 sz22)) rfl ?_
    refine WL.x0 (R.store_bx (i := 1) rfl rfl rfl (fits_agg ((Enc.int .u8).arr 10) o5 sz22) (Up.all ((Enc.int .u8).arr 10) _ _)) fun _ => ?_
    refine WL.nil ?_
    refine Go.then_ ?_
    refine W.ret ?_
    have he := Option.some.inj hm
    clear hm
    subst r
    exact Go.ret1 rfl (.cell rfl (At.bx 1 rfl (Sub.refl _)) (lies_agg ((Enc.int .u8).arr 10) o5 ia22 sz22)) (fun w hw => ⟨_, rfl, _, ⟨(), rfl, rfl⟩, hw.reord [] 2 rfl⟩)
set_option maxRecDepth 100000 in
theorem laws_toTable_tr {G : World} {F : List Res} (p0 : (Vector (Vector Int 10) 10)) {r : (Vector (Vector Int 10) 10)} (hm : laws_toTable p0 = some r) : Tr Try.prog G 12 [(.agg ((((Enc.int .u8).arr 10).arr 10).cells p0).toArray)] F (fun u K => ∃ x : Unit, u = (.agg ((((Enc.int .u8).arr 10).arr 10).cells r).toArray) ∧ K = F) := by
  unfold laws_toTable at hm
  refine Tr.body Try.func12 rfl Try.ntmps12 ?_
  refine W.seq ?_
  refine W.region ?_
  refine WL.x (R.box rfl (cells_agg _)) rfl fun b1 => ?_
  refine WL.x (al29) rfl fun b2 => ?_
  refine WL.nil ?_
  refine Go.then_ ?_
  refine W.seq ?_
  refine W.region ?_
  refine WL.x (al29) rfl fun b3 => ?_
  refine WL.nil ?_
  refine Go.then_ ?_
  refine W.seq ?_
  refine W.seq ?_
  refine W.region ?_
  refine WL.q (R.assign rfl) rfl ?_
  refine WL.nil ?_
  refine Go.then_ ?_
  refine W.block ?_
  obtain ⟨o5, hlo5, hm⟩ := of_bind hm
  refine W.loopx (fun (s4 : ((Vector (Vector Int 10) 10) × Int)) a w => Sat G ((bx b3 ((((Enc.int .u8).arr 10).arr 10).cells s4.1)) :: (bx b2 ((((Enc.int .u8).arr 10).arr 10).cells (Vector.replicate 10 (Vector.replicate 10 0)))) :: (bx b1 ((((Enc.int .u8).arr 10).arr 10).cells p0)) :: F) 16 [(1, (.pointer (some ⟨b1, 0, none⟩))), (2, (.pointer (some ⟨b2, 0, none⟩))), (3, (.pointer (some ⟨b3, 0, none⟩))), (4, (.int .i64 s4.2))] a w) (fun (o5 : (Vector (Vector Int 10) 10)) e a w => And (e = (.exit 0)) (Sat G ((bx b3 ((((Enc.int .u8).arr 10).arr 10).cells o5)) :: (bx b2 ((((Enc.int .u8).arr 10).arr 10).cells (Vector.replicate 10 (Vector.replicate 10 0)))) :: F) 16 [(2, (.pointer (some ⟨b2, 0, none⟩))), (3, (.pointer (some ⟨b3, 0, none⟩)))] a w)) hlo5 (fun a w s => (Sat.mk (s.env.le ⟨rfl, rfl, rfl, rfl, trivial⟩) (s.mem))) ?_ ?_
  · clear hm
    intro s4 x hm a w hJ
    have s := hJ
    unfold laws_toTable_L1 at hm
    refine W.use s ?_
    refine W.seq ?_
    refine W.seq ?_
    refine W.region ?_
    refine WL.q (R.move rfl) rfl ?_
    refine WL.q (R.lss rfl rfl) rfl ?_
    refine WL.nil ?_
    refine Go.then_ ?_
    by_cases h15 : s4.2 < 10
    · rw [if_pos h15] at hm
      refine W.cond_t rfl (decide_eq_true h15) ?_
      refine W.skip ?_
      refine Go.then_ ?_
      refine W.seq ?_
      refine W.block ?_
      refine W.region ?_
      refine WL.q (R.move rfl) rfl ?_
      refine WL.q (R.move rfl) rfl ?_
      obtain ⟨h16, hm⟩ := of_guard hm
      refine WL.q (R.indexArr rfl rfl un23 sz22 h16.1 h16.2) rfl ?_
      refine WL.q (R.load rfl (At.sub (At.bx 2 rfl (Sub.refl _)) (sub_arr ((Enc.int .u8).arr 10) (v := p0) h16.1 h16.2)) (lies_agg ((Enc.int .u8).arr 10) (gv p0 s4.2) ia22 sz22)) rfl ?_
      obtain ⟨o17, h18, hm⟩ := of_bind hm
      refine WL.x (R.call rfl en23 (laws_toByteA10_tr (gv p0 s4.2) h18)) rfl fun x19 => ?_
      refine WL.q (R.indexArr rfl rfl un29 sz22 h16.1 h16.2) rfl ?_
      refine WL.x0 (R.store_bx (i := 0) rfl rfl rfl (fits_agg ((Enc.int .u8).arr 10) o17 sz22) (Up.trans (Sub.refl _) (up_arr ((Enc.int .u8).arr 10) (v := s4.1) o17 h16.1 h16.2) (Up.all (((Enc.int .u8).arr 10).arr 10) _ _))) fun _ => ?_
      refine WL.nil ?_
      refine Go.n_block ?_
      refine Go.then_ ?_
      refine W.region ?_
      refine WL.q (R.move rfl) rfl ?_
      refine WL.q (R.add rfl rfl) rfl ?_
      refine WL.q (R.assign rfl) rfl ?_
      refine WL.nil ?_
      have he := Option.some.inj hm
      clear hm
      subst x
      exact fun a w s => Exists.intro _ (And.intro rfl (Sat.mk (s.env.le ⟨rfl, rfl, rfl, rfl, trivial⟩) (s.mem)))
    · rw [if_neg h15] at hm
      refine W.cond_f rfl (decide_eq_false h15) ?_
      refine W.exit ?_
      refine Go.x_then ?_
      have he := Option.some.inj hm
      clear hm
      subst x
      exact fun a w s => Exists.intro _ (And.intro rfl (And.intro rfl (Sat.mk (s.env.le ⟨rfl, rfl, trivial⟩) (s.mem.reord [0, 1] 3 rfl))))
  · intro e a w hJ
    obtain ⟨rfl, s⟩ := hJ
    refine Go.use s ?_
    refine Go.x_block ?_
    refine Go.then_ ?_
    refine W.seq ?_
    refine W.region ?_
    refine WL.q (R.load rfl (At.bx 0 rfl (Sub.refl _)) (lies_agg (((Enc.int .u8).arr 10).arr 10) o5 ia29 sz29)) rfl ?_
    refine WL.x0 (R.store_bx (i := 1) rfl rfl rfl (fits_agg (((Enc.int .u8).arr 10).arr 10) o5 sz29) (Up.all (((Enc.int .u8).arr 10).arr 10) _ _)) fun _ => ?_
    refine WL.nil ?_
    refine Go.then_ ?_
    refine W.ret ?_
    have he := Option.some.inj hm
    clear hm
    subst r
    exact Go.ret1 rfl (.cell rfl (At.bx 1 rfl (Sub.refl _)) (lies_agg (((Enc.int .u8).arr 10).arr 10) o5 ia29 sz29)) (fun w hw => ⟨_, rfl, _, ⟨(), rfl, rfl⟩, hw.reord [] 2 rfl⟩)
set_option maxRecDepth 100000 in
theorem laws_toSquare_tr {G : World} {F : List Res} (p0 : S_Square) {r : S_Square} (hm : laws_toSquare p0 = some r) : Tr Try.prog G 5 [(.agg (e_S_Square.cells p0).toArray)] F (fun u K => ∃ x : Unit, u = (.agg (e_S_Square.cells r).toArray) ∧ K = F) := by
  unfold laws_toSquare at hm
  refine Tr.body Try.func5 rfl Try.ntmps5 ?_
  refine W.seq ?_
  refine W.region ?_
  refine WL.x (R.box rfl (cells_agg _)) rfl fun b1 => ?_
  refine WL.x (al31) rfl fun b2 => ?_
  refine WL.nil ?_
  refine Go.then_ ?_
  refine W.seq ?_
  refine W.region ?_
  refine WL.x (al31) rfl fun b3 => ?_
  refine WL.nil ?_
  refine Go.then_ ?_
  refine W.seq ?_
  refine W.region ?_
  refine WL.q (R.fieldAddr rfl fa25_0) rfl ?_
  refine WL.q (R.load rfl (At.sub (At.bx 2 rfl (Sub.refl _)) (e_S_Square_s0 p0)) (Lies.one _ ia2)) rfl ?_
  refine WL.q (R.fieldAddr rfl fa31_0) rfl ?_
  refine WL.x0 (R.store_bx (i := 0) rfl rfl rfl (fits_int sz2) (Up.trans (Sub.refl _) (e_S_Square_u0 z_S_Square p0.Order) (Up.all e_S_Square _ _))) fun _ => ?_
  refine WL.nil ?_
  refine Go.then_ ?_
  refine W.seq ?_
  refine W.region ?_
  refine WL.q (R.fieldAddr rfl fa25_1) rfl ?_
  refine WL.q (R.load rfl (At.sub (At.bx 2 rfl (Sub.refl _)) (e_S_Square_s1 p0)) (lies_agg (((Enc.int .u8).arr 10).arr 10) p0.Table ia23 sz23)) rfl ?_
  obtain ⟨o4, h5, hm⟩ := of_bind hm
  refine WL.x (R.call rfl en12 (laws_toTable_tr p0.Table h5)) rfl fun x6 => ?_
  refine WL.q (R.fieldAddr rfl fa31_1) rfl ?_
  refine WL.x0 (R.store_bx (i := 0) rfl rfl rfl (fits_agg (((Enc.int .u8).arr 10).arr 10) o4 sz29) (Up.trans (Sub.refl _) (e_S_Square_u1 ({ z_S_Square with Order := p0.Order }) o4) (Up.all e_S_Square _ _))) fun _ => ?_
  refine WL.nil ?_
  refine Go.then_ ?_
  refine W.seq ?_
  refine W.region ?_
  refine WL.q (R.load rfl (At.bx 0 rfl (Sub.refl _)) (lies_agg e_S_Square ({ { z_S_Square with Order := p0.Order } with Table := o4 }) ia31 sz31)) rfl ?_
  refine WL.x0 (R.store_bx (i := 1) rfl rfl rfl (fits_agg e_S_Square ({ { z_S_Square with Order := p0.Order } with Table := o4 }) sz31) (Up.all e_S_Square _ _)) fun _ => ?_
  refine WL.nil ?_
  refine Go.then_ ?_
  refine W.ret ?_
  have he := Option.some.inj hm
  clear hm
  subst r
  exact Go.ret1 rfl (.cell rfl (At.bx 1 rfl (Sub.refl _)) (lies_agg e_S_Square ({ { z_S_Square with Order := p0.Order } with Table := o4 }) ia31 sz31)) (fun w hw => ⟨_, rfl, _, ⟨(), rfl, rfl⟩, hw.reord [] 3 rfl⟩)
set_option maxRecDepth 100000 in
theorem impl_within_tr {G : World} {F : List Res} (p0 : Int) (p1 : Int) (p2 : Int) {r : Bool} (hm : impl_within p0 p1 p2 = some r) : Tr Try.prog G 38 [(.int .i64 p0), (.int .i64 p1), (.int .i64 p2)] F (fun u K => ∃ x : Unit, u = (.bool r) ∧ K = F) := by
  unfold impl_within at hm
  refine Tr.body Try.func38 rfl Try.ntmps38 ?_
  refine W.seq ?_
  refine W.region ?_
  refine WL.q (R.assign rfl) rfl ?_
  refine WL.nil ?_
  refine Go.then_ ?_
  obtain ⟨o2, hm, hmo2⟩ := of_bind hm
  refine W.seq ?_
  refine W.join (fun e a w => And (e = .normal) (Sat G F 15 [(6, (.bool o2))] a w)) ?_ ?_
  · refine W.region ?_
    refine WL.q (R.move rfl) rfl ?_
    refine WL.q (R.move rfl) rfl ?_
    refine WL.q (R.geq rfl rfl) rfl ?_
    refine WL.q (R.move rfl) rfl ?_
    by_cases h1 : p1 ≤ p0
    · rw [if_pos h1] at hm
      refine WL.on rfl rfl (decide_eq_true h1) ?_
      refine WL.q (R.move rfl) rfl ?_
      refine WL.on rfl rfl (decide_eq_true h1) ?_
      refine WL.q (R.move rfl) rfl ?_
      refine WL.on rfl rfl (decide_eq_true h1) ?_
      refine WL.q (R.leq rfl rfl) rfl ?_
      refine WL.q (R.pick_t rfl (decide_eq_true h1) rfl) rfl ?_
      refine WL.q (R.assign rfl) rfl ?_
      refine WL.nil ?_
      have he := Option.some.inj hm
      clear hm
      subst o2
      exact fun a w s => And.intro rfl (Sat.mk (s.env.le ⟨rfl, trivial⟩) (s.mem))
    · rw [if_neg h1] at hm
      refine WL.off rfl rfl (decide_eq_false h1) rfl ?_
      refine WL.off rfl rfl (decide_eq_false h1) rfl ?_
      refine WL.off rfl rfl (decide_eq_false h1) rfl ?_
      refine WL.q (R.pick_f rfl (decide_eq_false h1) rfl) rfl ?_
      refine WL.q (R.assign rfl) rfl ?_
      refine WL.nil ?_
      have he := Option.some.inj hm
      clear hm
      subst o2
      exact fun a w s => And.intro rfl (Sat.mk (s.env.le ⟨rfl, trivial⟩) (s.mem))
  · intro e a w hJ
    replace hm := hmo2
    clear hmo2
    obtain ⟨rfl, s⟩ := hJ
    refine Go.use s ?_
    refine Go.then_ ?_
    refine W.ret ?_
    have he := Option.some.inj hm
    clear hm
    subst r
    exact Go.ret1 rfl (.tmp rfl) (fun w hw => ⟨_, rfl, _, ⟨(), rfl, rfl⟩, hw⟩)
set_option maxRecDepth 100000 in
theorem impl_IsSquare_tr {G : World} {F : List Res} (p0 : S_Square) {r : Bool} (hm : impl_IsSquare p0 = some r) : Tr Try.prog G 24 [(.agg (e_S_Square.cells p0).toArray)] F (fun u K => ∃ x : Unit, u = (.bool r) ∧ K = F) := by
  unfold impl_IsSquare at hm
  refine Tr.body Try.func24 rfl Try.ntmps24 ?_
  refine W.seq ?_
  refine W.region ?_
  refine WL.x (R.box rfl (cells_agg _)) rfl fun b1 => ?_
  refine WL.q (R.assign rfl) rfl ?_
  refine WL.nil ?_
  refine Go.then_ ?_
  refine W.seq ?_
  refine W.seq ?_
  refine W.region ?_
  refine WL.q (R.fieldAddr rfl fa31_0) rfl ?_
  refine WL.q (R.load rfl (At.sub (At.bx 0 rfl (Sub.refl _)) (e_S_Square_s0 p0)) (Lies.one _ ia2)) rfl ?_
  obtain ⟨o2, h3, hm⟩ := of_bind hm
  refine WL.x (R.call rfl en38 (impl_within_tr p0.Order 1 10 h3)) rfl fun x4 => ?_
  refine WL.q (R.not rfl) rfl ?_
  refine WL.nil ?_
  refine Go.then_ ?_
  by_cases h5 : o2 = true
  · rw [if_pos h5] at hm
    refine W.cond_f rfl (not_f h5) ?_
    refine W.skip ?_
    refine Go.then_ ?_
    refine W.seq ?_
    refine W.region ?_
    refine WL.q (R.fieldAddr rfl fa31_0) rfl ?_
    refine WL.q (R.load rfl (At.sub (At.bx 0 rfl (Sub.refl _)) (e_S_Square_s0 p0)) (Lies.one _ ia2)) rfl ?_
    refine WL.q (R.assign rfl) rfl ?_
    refine WL.nil ?_
    refine Go.then_ ?_
    refine W.seq ?_
    refine W.seq ?_
    refine W.region ?_
    refine WL.q (R.move rfl) rfl ?_
    refine WL.nil ?_
    refine Go.then_ ?_
    refine W.block ?_
    obtain ⟨o7, hlo7, hm⟩ := of_bind hm
    refine W.loopx (fun (s6 : Int) a w => Sat G ((bx b1 (e_S_Square.cells p0)) :: F) 102 [(1, (.pointer (some ⟨b1, 0, none⟩))), (2, (.bool false)), (3, (.int .i64 p0.Order)), (14, (.int .i64 s6))] a w) (fun (o7 : ((Unit) ⊕ (Unit))) e a w => (Sum.elim (fun o7 => And (e = (.exit 0)) (Sat G F 102 [(2, (.bool false))] a w)) (fun o7 => And (e = .ret) (Sat G F 102 [(2, (.bool false))] a w))) o7) hlo7 (fun a w s => (Sat.mk (s.env.le ⟨rfl, rfl, rfl, rfl, trivial⟩) (s.mem))) ?_ ?_
    · clear hm
      intro s6 x hm a w hJ
      have s := hJ
      unfold impl_IsSquare_L1 at hm
      refine W.use s ?_
      refine W.seq ?_
      refine W.region ?_
      refine WL.q (R.lss rfl rfl) rfl ?_
      refine WL.nil ?_
      refine Go.then_ ?_
      refine W.seq ?_
      by_cases h133 : s6 < 10
      · rw [if_pos h133] at hm
        refine W.cond_t rfl (decide_eq_true h133) ?_
        refine W.skip ?_
        refine Go.then_ ?_
        refine W.seq ?_
        refine W.block ?_
        refine W.seq ?_
        refine W.region ?_
        refine WL.q (R.move rfl) rfl ?_
        refine WL.q (R.assign rfl) rfl ?_
        refine WL.nil ?_
        refine Go.then_ ?_
        refine W.seq ?_
        refine W.region ?_
        refine WL.q (R.assign rfl) rfl ?_
        refine WL.q (R.assign rfl) rfl ?_
        refine WL.nil ?_
        refine Go.then_ ?_
        refine W.seq ?_
        refine W.seq ?_
        refine W.region ?_
        refine WL.q (R.move rfl) rfl ?_
        refine WL.nil ?_
        refine Go.then_ ?_
        refine W.block ?_
        obtain ⟨o135, hlo135, hm⟩ := of_bind hm
        refine W.loopx (fun (s134 : (Int × Int × Int)) a w => Sat G ((bx b1 (e_S_Square.cells p0)) :: F) 102 [(1, (.pointer (some ⟨b1, 0, none⟩))), (2, (.bool false)), (3, (.int .i64 p0.Order)), (4, (.int .i64 s6)), (5, (.int .i64 s134.1)), (6, (.int .i64 s134.2.1)), (14, (.int .i64 s6)), (17, (.int .i64 s134.2.2))] a w) (fun (o135 : (((Int × Int)) ⊕ (Unit))) e a w => (Sum.elim (fun o135 => And (e = (.exit 2)) (Sat G ((bx b1 (e_S_Square.cells p0)) :: F) 102 [(1, (.pointer (some ⟨b1, 0, none⟩))), (2, (.bool false)), (3, (.int .i64 p0.Order)), (4, (.int .i64 s6)), (5, (.int .i64 o135.1)), (6, (.int .i64 o135.2)), (14, (.int .i64 s6))] a w)) (fun o135 => And (e = .ret) (Sat G F 102 [(2, (.bool false))] a w))) o135) hlo135 (fun a w s => (Sat.mk (s.env.le ⟨rfl, rfl, rfl, rfl, rfl, rfl, rfl, rfl, trivial⟩) (s.mem))) ?_ ?_
        · clear hm
          intro s134 x hm a w hJ
          have s := hJ
          unfold impl_IsSquare_L2 at hm
          refine W.use s ?_
          refine W.seq ?_
          refine W.region ?_
          refine WL.q (R.lss rfl rfl) rfl ?_
          refine WL.nil ?_
          refine Go.then_ ?_
          refine W.seq ?_
          by_cases h176 : s134.2.2 < 10
          · rw [if_pos h176] at hm
            refine W.cond_t rfl (decide_eq_true h176) ?_
            refine W.skip ?_
            refine Go.then_ ?_
            obtain ⟨o197, hm, hmo197⟩ := of_bind hm
            refine W.seq ?_
            refine W.join (fun e a w => (Sum.elim (fun o197 => And (e = .normal) (Sat G ((bx b1 (e_S_Square.cells p0)) :: F) 102 [(1, (.pointer (some ⟨b1, 0, none⟩))), (2, (.bool false)), (3, (.int .i64 p0.Order)), (4, (.int .i64 s6)), (5, (.int .i64 o197.1)), (6, (.int .i64 o197.2)), (14, (.int .i64 s6)), (17, (.int .i64 s134.2.2))] a w)) (fun o197 => And (e = .ret) (Sat G F 102 [(2, (.bool false))] a w))) o197) ?_ ?_
            · refine W.block ?_
              refine W.seq ?_
              refine W.region ?_
              refine WL.q (R.move rfl) rfl ?_
              refine WL.q (R.assign rfl) rfl ?_
              refine WL.nil ?_
              refine Go.then_ ?_
              refine W.seq ?_
              obtain ⟨o183, hm, hmo183⟩ := of_bind hm
              refine W.seq ?_
              refine W.join (fun e a w => And (e = .normal) (Sat G ((bx b1 (e_S_Square.cells p0)) :: F) 102 [(1, (.pointer (some ⟨b1, 0, none⟩))), (2, (.bool false)), (3, (.int .i64 p0.Order)), (4, (.int .i64 s6)), (5, (.int .i64 s134.1)), (6, (.int .i64 s134.2.1)), (7, (.int .i64 s134.2.2)), (14, (.int .i64 s6)), (17, (.int .i64 s134.2.2)), (36, (.bool o183))] a w)) ?_ ?_
              · refine W.region ?_
                refine WL.q (R.move rfl) rfl ?_
                refine WL.q (R.move rfl) rfl ?_
                refine WL.q (R.geq rfl rfl) rfl ?_
                refine WL.q (R.move rfl) rfl ?_
                by_cases h177 : p0.Order ≤ s6
                · rw [if_pos h177] at hm
                  refine WL.off rfl rfl (decide_eq_true h177) rfl ?_
                  refine WL.off rfl rfl (decide_eq_true h177) rfl ?_
                  refine WL.off rfl rfl (decide_eq_true h177) rfl ?_
                  refine WL.q (R.pick_t rfl (decide_eq_true h177) rfl) rfl ?_
                  refine WL.q (R.move rfl) rfl ?_
                  refine WL.on rfl rfl rfl ?_
                  refine WL.q (R.move rfl) rfl ?_
                  refine WL.on rfl rfl rfl ?_
                  refine WL.q (R.move rfl) rfl ?_
                  refine WL.on rfl rfl rfl ?_
                  refine WL.q (R.fieldAddr rfl fa31_1) rfl ?_
                  obtain ⟨h178, hm⟩ := of_guard hm
                  refine WL.on rfl rfl rfl ?_
                  refine WL.q (R.indexArr rfl rfl un29 sz22 h178.1 h178.2) rfl ?_
                  obtain ⟨h179, hm⟩ := of_guard hm
                  refine WL.on rfl rfl rfl ?_
                  refine WL.q (R.indexArr rfl rfl un22 sz5 h179.1 h179.2) rfl ?_
                  refine WL.on rfl rfl rfl ?_
                  refine WL.q (R.load rfl (At.sub (At.sub (At.sub (At.bx 0 rfl (Sub.refl _)) (e_S_Square_s1 p0)) (sub_arr ((Enc.int .u8).arr 10) (v := p0.Table) h178.1 h178.2)) (sub_arr (Enc.int .u8) (v := gv p0.Table s6) h179.1 h179.2)) (Lies.one _ ia5)) rfl ?_
                  refine WL.on rfl rfl rfl ?_
                  refine WL.q (R.neq rfl rfl) rfl ?_
                  refine WL.q (R.pick_t rfl rfl rfl) rfl ?_
                  refine WL.nil ?_
                  have he := Option.some.inj hm
                  clear hm
                  subst o183
                  exact fun a w s => And.intro rfl (Sat.mk (s.env.le ⟨rfl, rfl, rfl, rfl, rfl, rfl, rfl, rfl, rfl, rfl, trivial⟩) (s.mem))
                · rw [if_neg h177] at hm
                  refine WL.on rfl rfl (decide_eq_false h177) ?_
                  refine WL.q (R.move rfl) rfl ?_
                  refine WL.on rfl rfl (decide_eq_false h177) ?_
                  refine WL.q (R.move rfl) rfl ?_
                  refine WL.on rfl rfl (decide_eq_false h177) ?_
                  refine WL.q (R.geq rfl rfl) rfl ?_
                  refine WL.q (R.pick_f rfl (decide_eq_false h177) rfl) rfl ?_
                  refine WL.q (R.move rfl) rfl ?_
                  by_cases h180 : p0.Order ≤ s134.2.2
                  · rw [if_pos h180] at hm
                    refine WL.on rfl rfl (decide_eq_true h180) ?_
                    refine WL.q (R.move rfl) rfl ?_
                    refine WL.on rfl rfl (decide_eq_true h180) ?_
                    refine WL.q (R.move rfl) rfl ?_
                    refine WL.on rfl rfl (decide_eq_true h180) ?_
                    refine WL.q (R.fieldAddr rfl fa31_1) rfl ?_
                    obtain ⟨h181, hm⟩ := of_guard hm
                    refine WL.on rfl rfl (decide_eq_true h180) ?_
                    refine WL.q (R.indexArr rfl rfl un29 sz22 h181.1 h181.2) rfl ?_
                    obtain ⟨h182, hm⟩ := of_guard hm
                    refine WL.on rfl rfl (decide_eq_true h180) ?_
                    refine WL.q (R.indexArr rfl rfl un22 sz5 h182.1 h182.2) rfl ?_
                    refine WL.on rfl rfl (decide_eq_true h180) ?_
                    refine WL.q (R.load rfl (At.sub (At.sub (At.sub (At.bx 0 rfl (Sub.refl _)) (e_S_Square_s1 p0)) (sub_arr ((Enc.int .u8).arr 10) (v := p0.Table) h181.1 h181.2)) (sub_arr (Enc.int .u8) (v := gv p0.Table s6) h182.1 h182.2)) (Lies.one _ ia5)) rfl ?_
                    refine WL.on rfl rfl (decide_eq_true h180) ?_
                    refine WL.q (R.neq rfl rfl) rfl ?_
                    refine WL.q (R.pick_t rfl (decide_eq_true h180) rfl) rfl ?_
                    refine WL.nil ?_
                    have he := Option.some.inj hm
                    clear hm
                    subst o183
                    exact fun a w s => And.intro rfl (Sat.mk (s.env.le ⟨rfl, rfl, rfl, rfl, rfl, rfl, rfl, rfl, rfl, rfl, trivial⟩) (s.mem))
                  · rw [if_neg h180] at hm
                    refine WL.off rfl rfl (decide_eq_false h180) rfl ?_
                    refine WL.off rfl rfl (decide_eq_false h180) rfl ?_
                    refine WL.off rfl rfl (decide_eq_false h180) rfl ?_
                    refine WL.off rfl rfl (decide_eq_false h180) rfl ?_
                    refine WL.off rfl rfl (decide_eq_false h180) rfl ?_
                    refine WL.off rfl rfl (decide_eq_false h180) rfl ?_
                    refine WL.off rfl rfl (decide_eq_false h180) rfl ?_
                    refine WL.q (R.pick_f rfl (decide_eq_false h180) rfl) rfl ?_
                    refine WL.nil ?_
                    have he := Option.some.inj hm
                    clear hm
                    subst o183
                    exact fun a w s => And.intro rfl (Sat.mk (s.env.le ⟨rfl, rfl, rfl, rfl, rfl, rfl, rfl, rfl, rfl, rfl, trivial⟩) (s.mem))
              · intro e a w hJ
                replace hm := hmo183
                clear hmo183
                obtain ⟨rfl, s⟩ := hJ
                refine Go.use s ?_
                refine Go.then_ ?_
                by_cases h184 : o183 = true
                · rw [if_pos h184] at hm
                  refine W.cond_t rfl h184 ?_
                  refine W.seq ?_
                  refine W.region ?_
                  refine WL.q (R.assign rfl) rfl ?_
                  refine WL.nil ?_
                  refine Go.then_ ?_
                  refine W.ret ?_
                  refine Go.r_then ?_
                  refine Go.r_block ?_
                  have he := Option.some.inj hm
                  clear hm
                  subst o197
                  exact fun a w s => And.intro rfl (Sat.mk (s.env.le ⟨rfl, trivial⟩) (s.mem.reord [] 1 rfl))
                · rw [if_neg h184] at hm
                  refine W.cond_f rfl (b_f h184) ?_
                  refine W.skip ?_
                  refine Go.then_ ?_
                  obtain ⟨o186, hm, hmo186⟩ := of_bind hm
                  refine W.seq ?_
                  refine W.join (fun e a w => And (e = .normal) (Sat G ((bx b1 (e_S_Square.cells p0)) :: F) 102 [(1, (.pointer (some ⟨b1, 0, none⟩))), (2, (.bool false)), (3, (.int .i64 p0.Order)), (4, (.int .i64 s6)), (5, (.int .i64 s134.1)), (6, (.int .i64 s134.2.1)), (7, (.int .i64 s134.2.2)), (14, (.int .i64 s6)), (17, (.int .i64 s134.2.2)), (44, (.bool o186))] a w)) ?_ ?_
                  · refine W.region ?_
                    refine WL.q (R.move rfl) rfl ?_
                    refine WL.q (R.move rfl) rfl ?_
                    refine WL.q (R.lss rfl rfl) rfl ?_
                    refine WL.q (R.move rfl) rfl ?_
                    by_cases h185 : s6 < p0.Order
                    · rw [if_pos h185] at hm
                      refine WL.on rfl rfl (decide_eq_true h185) ?_
                      refine WL.q (R.move rfl) rfl ?_
                      refine WL.on rfl rfl (decide_eq_true h185) ?_
                      refine WL.q (R.move rfl) rfl ?_
                      refine WL.on rfl rfl (decide_eq_true h185) ?_
                      refine WL.q (R.lss rfl rfl) rfl ?_
                      refine WL.q (R.pick_t rfl (decide_eq_true h185) rfl) rfl ?_
                      refine WL.nil ?_
                      have he := Option.some.inj hm
                      clear hm
                      subst o186
                      exact fun a w s => And.intro rfl (Sat.mk (s.env.le ⟨rfl, rfl, rfl, rfl, rfl, rfl, rfl, rfl, rfl, rfl, trivial⟩) (s.mem))
                    · rw [if_neg h185] at hm
                      refine WL.off rfl rfl (decide_eq_false h185) rfl ?_
                      refine WL.off rfl rfl (decide_eq_false h185) rfl ?_
                      refine WL.off rfl rfl (decide_eq_false h185) rfl ?_
                      refine WL.q (R.pick_f rfl (decide_eq_false h185) rfl) rfl ?_
                      refine WL.nil ?_
                      have he := Option.some.inj hm
                      clear hm
                      subst o186
                      exact fun a w s => And.intro rfl (Sat.mk (s.env.le ⟨rfl, rfl, rfl, rfl, rfl, rfl, rfl, rfl, rfl, rfl, trivial⟩) (s.mem))
                  · intro e a w hJ
                    replace hm := hmo186
                    clear hmo186
                    obtain ⟨rfl, s⟩ := hJ
                    refine Go.use s ?_
                    refine Go.then_ ?_
                    by_cases h187 : o186 = true
                    · rw [if_pos h187] at hm
                      refine W.cond_t rfl h187 ?_
                      refine W.seq ?_
                      obtain ⟨o191, hm, hmo191⟩ := of_bind hm
                      refine W.seq ?_
                      refine W.join (fun e a w => And (e = .normal) (Sat G ((bx b1 (e_S_Square.cells p0)) :: F) 102 [(1, (.pointer (some ⟨b1, 0, none⟩))), (2, (.bool false)), (3, (.int .i64 p0.Order)), (4, (.int .i64 s6)), (5, (.int .i64 s134.1)), (6, (.int .i64 s134.2.1)), (7, (.int .i64 s134.2.2)), (14, (.int .i64 s6)), (17, (.int .i64 s134.2.2)), (64, (.bool o191))] a w)) ?_ ?_
                      · refine W.region ?_
                        refine WL.q (R.move rfl) rfl ?_
                        refine WL.q (R.move rfl) rfl ?_
                        refine WL.q (R.fieldAddr rfl fa31_1) rfl ?_
                        obtain ⟨h188, hm⟩ := of_guard hm
                        refine WL.q (R.indexArr rfl rfl un29 sz22 h188.1 h188.2) rfl ?_
                        obtain ⟨h189, hm⟩ := of_guard hm
                        refine WL.q (R.indexArr rfl rfl un22 sz5 h189.1 h189.2) rfl ?_
                        refine WL.q (R.load rfl (At.sub (At.sub (At.sub (At.bx 0 rfl (Sub.refl _)) (e_S_Square_s1 p0)) (sub_arr ((Enc.int .u8).arr 10) (v := p0.Table) h188.1 h188.2)) (sub_arr (Enc.int .u8) (v := gv p0.Table s6) h189.1 h189.2)) (Lies.one _ ia5)) rfl ?_
                        refine WL.q (R.conv rfl un3 us5) rfl ?_
                        refine WL.q (R.move rfl) rfl ?_
                        refine WL.q (R.geq rfl rfl) rfl ?_
                        refine WL.q (R.move rfl) rfl ?_
                        by_cases h190 : p0.Order ≤ IntKind.i64.wrap (gv (gv p0.Table s6) s134.2.2)
                        · rw [if_pos h190] at hm
                          refine WL.off rfl rfl (decide_eq_true h190) rfl ?_
                          refine WL.off rfl rfl (decide_eq_true h190) rfl ?_
                          refine WL.off rfl rfl (decide_eq_true h190) rfl ?_
                          refine WL.off rfl rfl (decide_eq_true h190) rfl ?_
                          refine WL.off rfl rfl (decide_eq_true h190) rfl ?_
                          refine WL.off rfl rfl (decide_eq_true h190) rfl ?_
                          refine WL.off rfl rfl (decide_eq_true h190) rfl ?_
                          refine WL.off rfl rfl (decide_eq_true h190) rfl ?_
                          refine WL.off rfl rfl (decide_eq_true h190) rfl ?_
                          refine WL.q (R.pick_t rfl (decide_eq_true h190) rfl) rfl ?_
                          refine WL.nil ?_
                          have he := Option.some.inj hm
                          clear hm
                          subst o191
                          exact fun a w s => And.intro rfl (Sat.mk (s.env.le ⟨rfl, rfl, rfl, rfl, rfl, rfl, rfl, rfl, rfl, rfl, trivial⟩) (s.mem))
                        · rw [if_neg h190] at hm
                          refine WL.on rfl rfl (decide_eq_false h190) ?_
                          refine WL.q (R.move rfl) rfl ?_
                          refine WL.on rfl rfl (decide_eq_false h190) ?_
                          refine WL.q (R.move rfl) rfl ?_
                          refine WL.on rfl rfl (decide_eq_false h190) ?_
                          refine WL.q (R.fieldAddr rfl fa31_1) rfl ?_
                          refine WL.on rfl rfl (decide_eq_false h190) ?_
                          refine WL.q (R.indexArr rfl rfl un29 sz22 h189.1 h189.2) rfl ?_
                          refine WL.on rfl rfl (decide_eq_false h190) ?_
                          refine WL.q (R.indexArr rfl rfl un22 sz5 h188.1 h188.2) rfl ?_
                          refine WL.on rfl rfl (decide_eq_false h190) ?_
                          refine WL.q (R.load rfl (At.sub (At.sub (At.sub (At.bx 0 rfl (Sub.refl _)) (e_S_Square_s1 p0)) (sub_arr ((Enc.int .u8).arr 10) (v := p0.Table) h189.1 h189.2)) (sub_arr (Enc.int .u8) (v := gv p0.Table s134.2.2) h188.1 h188.2)) (Lies.one _ ia5)) rfl ?_
                          refine WL.on rfl rfl (decide_eq_false h190) ?_
                          refine WL.q (R.conv rfl un3 us5) rfl ?_
                          refine WL.on rfl rfl (decide_eq_false h190) ?_
                          refine WL.q (R.move rfl) rfl ?_
                          refine WL.on rfl rfl (decide_eq_false h190) ?_
                          refine WL.q (R.geq rfl rfl) rfl ?_
                          refine WL.q (R.pick_f rfl (decide_eq_false h190) rfl) rfl ?_
                          refine WL.nil ?_
                          have he := Option.some.inj hm
                          clear hm
                          subst o191
                          exact fun a w s => And.intro rfl (Sat.mk (s.env.le ⟨rfl, rfl, rfl, rfl, rfl, rfl, rfl, rfl, rfl, rfl, trivial⟩) (s.mem))
                      · intro e a w hJ
                        replace hm := hmo191
                        clear hmo191
                        obtain ⟨rfl, s⟩ := hJ
                        refine Go.use s ?_
                        refine Go.then_ ?_
                        by_cases h192 : o191 = true
                        · rw [if_pos h192] at hm
                          refine W.cond_t rfl h192 ?_
                          refine W.seq ?_
                          refine W.region ?_
                          refine WL.q (R.assign rfl) rfl ?_
                          refine WL.nil ?_
                          refine Go.then_ ?_
                          refine W.ret ?_
                          refine Go.r_then ?_
                          refine Go.r_block ?_
                          have he := Option.some.inj hm
                          clear hm
                          subst o197
                          exact fun a w s => And.intro rfl (Sat.mk (s.env.le ⟨rfl, trivial⟩) (s.mem.reord [] 1 rfl))
                        · rw [if_neg h192] at hm
                          refine W.cond_f rfl (b_f h192) ?_
                          refine W.skip ?_
                          refine Go.then_ ?_
                          refine W.seq ?_
                          refine W.region ?_
                          refine WL.q (R.move rfl) rfl ?_
                          refine WL.q (R.move rfl) rfl ?_
                          refine WL.q (R.move rfl) rfl ?_
                          refine WL.q (R.fieldAddr rfl fa31_1) rfl ?_
                          obtain ⟨h193, hm⟩ := of_guard hm
                          refine WL.q (R.indexArr rfl rfl un29 sz22 h193.1 h193.2) rfl ?_
                          obtain ⟨h194, hm⟩ := of_guard hm
                          refine WL.q (R.indexArr rfl rfl un22 sz5 h194.1 h194.2) rfl ?_
                          refine WL.q (R.load rfl (At.sub (At.sub (At.sub (At.bx 0 rfl (Sub.refl _)) (e_S_Square_s1 p0)) (sub_arr ((Enc.int .u8).arr 10) (v := p0.Table) h193.1 h193.2)) (sub_arr (Enc.int .u8) (v := gv p0.Table s6) h194.1 h194.2)) (Lies.one _ ia5)) rfl ?_
                          obtain ⟨h195, hm⟩ := of_guard hm
                          refine WL.q (R.shl rfl rfl h195) rfl ?_
                          refine WL.q (R.or rfl rfl) rfl ?_
                          refine WL.q (R.assign rfl) rfl ?_
                          refine WL.nil ?_
                          refine Go.then_ ?_
                          refine W.region ?_
                          refine WL.q (R.move rfl) rfl ?_
                          refine WL.q (R.move rfl) rfl ?_
                          refine WL.q (R.move rfl) rfl ?_
                          refine WL.q (R.fieldAddr rfl fa31_1) rfl ?_
                          refine WL.q (R.indexArr rfl rfl un29 sz22 h194.1 h194.2) rfl ?_
                          refine WL.q (R.indexArr rfl rfl un22 sz5 h193.1 h193.2) rfl ?_
                          refine WL.q (R.load rfl (At.sub (At.sub (At.sub (At.bx 0 rfl (Sub.refl _)) (e_S_Square_s1 p0)) (sub_arr ((Enc.int .u8).arr 10) (v := p0.Table) h194.1 h194.2)) (sub_arr (Enc.int .u8) (v := gv p0.Table s134.2.2) h193.1 h193.2)) (Lies.one _ ia5)) rfl ?_
                          obtain ⟨h196, hm⟩ := of_guard hm
                          refine WL.q (R.shl rfl rfl h196) rfl ?_
                          refine WL.q (R.or rfl rfl) rfl ?_
                          refine WL.q (R.assign rfl) rfl ?_
                          refine WL.nil ?_
                          refine Go.n_block ?_
                          have he := Option.some.inj hm
                          clear hm
                          subst o197
                          exact fun a w s => And.intro rfl (Sat.mk (s.env.le ⟨rfl, rfl, rfl, rfl, rfl, rfl, rfl, rfl, trivial⟩) (s.mem))
                    · rw [if_neg h187] at hm
                      refine W.cond_f rfl (b_f h187) ?_
                      refine W.skip ?_
                      refine Go.n_block ?_
                      have he := Option.some.inj hm
                      clear hm
                      subst o197
                      exact fun a w s => And.intro rfl (Sat.mk (s.env.le ⟨rfl, rfl, rfl, rfl, rfl, rfl, rfl, rfl, trivial⟩) (s.mem))
            · intro e a w hJ
              replace hm := hmo197
              clear hmo197
              rcases o197 with o197 | o197
              · simp only [Sum.elim_inl, Sum.elim_inr] at hm
                obtain ⟨rfl, s⟩ := hJ
                refine Go.use s ?_
                refine Go.then_ ?_
                refine W.region ?_
                refine WL.q (R.add rfl rfl) rfl ?_
                refine WL.q (R.move rfl) rfl ?_
                refine WL.nil ?_
                have he := Option.some.inj hm
                clear hm
                subst x
                exact fun a w s => Exists.intro _ (And.intro rfl (Sat.mk (s.env.le ⟨rfl, rfl, rfl, rfl, rfl, rfl, rfl, rfl, trivial⟩) (s.mem)))
              · simp only [Sum.elim_inl, Sum.elim_inr] at hm
                obtain ⟨rfl, s⟩ := hJ
                refine Go.use s ?_
                refine Go.r_then ?_
                have he := Option.some.inj hm
                clear hm
                subst x
                exact fun a w s => Exists.intro _ (And.intro rfl (And.intro rfl (Sat.mk (s.env.le ⟨rfl, trivial⟩) (s.mem))))
          · rw [if_neg h176] at hm
            refine W.cond_f rfl (decide_eq_false h176) ?_
            refine W.exit ?_
            refine Go.x_then ?_
            have he := Option.some.inj hm
            clear hm
            subst x
            exact fun a w s => Exists.intro _ (And.intro rfl (And.intro rfl (Sat.mk (s.env.le ⟨rfl, rfl, rfl, rfl, rfl, rfl, rfl, trivial⟩) (s.mem))))
        · intro e a w hJ
          rcases o135 with o135 | o135
          · simp only [Sum.elim_inl, Sum.elim_inr] at hm
            obtain ⟨rfl, s⟩ := hJ
            refine Go.use s ?_
            refine Go.x_block ?_
            refine Go.then_ ?_
            obtain ⟨o201, hm, hmo201⟩ := of_bind hm
            refine W.seq ?_
            refine W.join (fun e a w => And (e = .normal) (Sat G ((bx b1 (e_S_Square.cells p0)) :: F) 102 [(1, (.pointer (some ⟨b1, 0, none⟩))), (2, (.bool false)), (3, (.int .i64 p0.Order)), (14, (.int .i64 s6)), (100, (.bool o201))] a w)) ?_ ?_
            · refine W.region ?_
              refine WL.q (R.move rfl) rfl ?_
              refine WL.q (R.move rfl) rfl ?_
              refine WL.q (R.lss rfl rfl) rfl ?_
              refine WL.q (R.move rfl) rfl ?_
              by_cases h198 : s6 < p0.Order
              · rw [if_pos h198] at hm
                refine WL.on rfl rfl (decide_eq_true h198) ?_
                refine WL.q (R.move rfl) rfl ?_
                refine WL.on rfl rfl (decide_eq_true h198) ?_
                refine WL.q (R.move rfl) rfl ?_
                obtain ⟨h199, hm⟩ := of_guard hm
                refine WL.on rfl rfl (decide_eq_true h198) ?_
                refine WL.q (R.shl rfl rfl h199) rfl ?_
                refine WL.on rfl rfl (decide_eq_true h198) ?_
                refine WL.q (R.sub rfl rfl) rfl ?_
                refine WL.on rfl rfl (decide_eq_true h198) ?_
                refine WL.q (R.neq rfl rfl) rfl ?_
                refine WL.on rfl rfl (decide_eq_true h198) ?_
                refine WL.q (R.move rfl) rfl ?_
                by_cases h200 : o135.1 ≠ IntKind.i64.wrap ((ishl .i64 1 p0.Order) - 1)
                · rw [if_pos h200] at hm
                  refine WL.off rfl rfl (decide_eq_true h200) rfl ?_
                  refine WL.off rfl rfl (decide_eq_true h200) rfl ?_
                  refine WL.off rfl rfl (decide_eq_true h200) rfl ?_
                  refine WL.off rfl rfl (decide_eq_true h200) rfl ?_
                  refine WL.off rfl rfl (decide_eq_true h200) rfl ?_
                  refine WL.on rfl rfl (decide_eq_true h198) ?_
                  refine WL.q (R.pick_t rfl (decide_eq_true h200) rfl) rfl ?_
                  refine WL.q (R.pick_t rfl (decide_eq_true h198) rfl) rfl ?_
                  refine WL.nil ?_
                  have he := Option.some.inj hm
                  clear hm
                  subst o201
                  exact fun a w s => And.intro rfl (Sat.mk (s.env.le ⟨rfl, rfl, rfl, rfl, rfl, trivial⟩) (s.mem))
                · rw [if_neg h200] at hm
                  refine WL.on rfl rfl (decide_eq_false h200) ?_
                  refine WL.q (R.move rfl) rfl ?_
                  refine WL.on rfl rfl (decide_eq_false h200) ?_
                  refine WL.q (R.move rfl) rfl ?_
                  refine WL.on rfl rfl (decide_eq_false h200) ?_
                  refine WL.q (R.shl rfl rfl h199) rfl ?_
                  refine WL.on rfl rfl (decide_eq_false h200) ?_
                  refine WL.q (R.sub rfl rfl) rfl ?_
                  refine WL.on rfl rfl (decide_eq_false h200) ?_
                  refine WL.q (R.neq rfl rfl) rfl ?_
                  refine WL.on rfl rfl (decide_eq_true h198) ?_
                  refine WL.q (R.pick_f rfl (decide_eq_false h200) rfl) rfl ?_
                  refine WL.q (R.pick_t rfl (decide_eq_true h198) rfl) rfl ?_
                  refine WL.nil ?_
                  have he := Option.some.inj hm
                  clear hm
                  subst o201
                  exact fun a w s => And.intro rfl (Sat.mk (s.env.le ⟨rfl, rfl, rfl, rfl, rfl, trivial⟩) (s.mem))
              · rw [if_neg h198] at hm
                refine WL.off rfl rfl (decide_eq_false h198) rfl ?_
                refine WL.off rfl rfl (decide_eq_false h198) rfl ?_
                refine WL.off rfl rfl (decide_eq_false h198) rfl ?_
                refine WL.off rfl rfl (decide_eq_false h198) rfl ?_
                refine WL.off rfl rfl (decide_eq_false h198) rfl ?_
                refine WL.off rfl rfl (decide_eq_false h198) rfl ?_
                refine WL.off_u rfl rfl rfl ?_
                refine WL.off_u rfl rfl rfl ?_
                refine WL.off_u rfl rfl rfl ?_
                refine WL.off_u rfl rfl rfl ?_
                refine WL.off_u rfl rfl rfl ?_
                refine WL.off rfl rfl (decide_eq_false h198) rfl ?_
                refine WL.q (R.pick_f rfl (decide_eq_false h198) rfl) rfl ?_
                refine WL.nil ?_
                have he := Option.some.inj hm
                clear hm
                subst o201
                exact fun a w s => And.intro rfl (Sat.mk (s.env.le ⟨rfl, rfl, rfl, rfl, rfl, trivial⟩) (s.mem))
            · intro e a w hJ
              replace hm := hmo201
              clear hmo201
              obtain ⟨rfl, s⟩ := hJ
              refine Go.use s ?_
              refine Go.then_ ?_
              by_cases h202 : o201 = true
              · rw [if_pos h202] at hm
                refine W.cond_t rfl h202 ?_
                refine W.seq ?_
                refine W.region ?_
                refine WL.q (R.assign rfl) rfl ?_
                refine WL.nil ?_
                refine Go.then_ ?_
                refine W.ret ?_
                refine Go.r_block ?_
                refine Go.r_then ?_
                have he := Option.some.inj hm
                clear hm
                subst x
                exact fun a w s => Exists.intro _ (And.intro rfl (And.intro rfl (Sat.mk (s.env.le ⟨rfl, trivial⟩) (s.mem.reord [] 1 rfl))))
              · rw [if_neg h202] at hm
                refine W.cond_f rfl (b_f h202) ?_
                refine W.skip ?_
                refine Go.n_block ?_
                refine Go.then_ ?_
                refine W.region ?_
                refine WL.q (R.add rfl rfl) rfl ?_
                refine WL.q (R.move rfl) rfl ?_
                refine WL.nil ?_
                have he := Option.some.inj hm
                clear hm
                subst x
                exact fun a w s => Exists.intro _ (And.intro rfl (Sat.mk (s.env.le ⟨rfl, rfl, rfl, rfl, trivial⟩) (s.mem)))
          · simp only [Sum.elim_inl, Sum.elim_inr] at hm
            obtain ⟨rfl, s⟩ := hJ
            refine Go.use s ?_
            refine Go.r_block ?_
            refine Go.r_then ?_
            refine Go.r_block ?_
            refine Go.r_then ?_
            have he := Option.some.inj hm
            clear hm
            subst x
            exact fun a w s => Exists.intro _ (And.intro rfl (And.intro rfl (Sat.mk (s.env.le ⟨rfl, trivial⟩) (s.mem))))
      · rw [if_neg h133] at hm
        refine W.cond_f rfl (decide_eq_false h133) ?_
        refine W.exit ?_
        refine Go.x_then ?_
        have he := Option.some.inj hm
        clear hm
        subst x
        exact fun a w s => Exists.intro _ (And.intro rfl (And.intro rfl (Sat.mk (s.env.le ⟨rfl, trivial⟩) (s.mem.reord [] 1 rfl))))
    · intro e a w hJ
      rcases o7 with o7 | o7
      · simp only [Sum.elim_inl, Sum.elim_inr] at hm
        obtain ⟨rfl, s⟩ := hJ
        refine Go.use s ?_
        refine Go.x_block ?_
        refine Go.then_ ?_
        refine W.seq ?_
        refine W.region ?_
        refine WL.q (R.assign rfl) rfl ?_
        refine WL.nil ?_
        refine Go.then_ ?_
        refine W.ret ?_
        have he := Option.some.inj hm
        clear hm
        subst r
        exact Go.ret1 rfl (.tmp rfl) (fun w hw => ⟨_, rfl, _, ⟨(), rfl, rfl⟩, hw⟩)
      · simp only [Sum.elim_inl, Sum.elim_inr] at hm
        obtain ⟨rfl, s⟩ := hJ
        refine Go.use s ?_
        refine Go.r_block ?_
        refine Go.r_then ?_
        have he := Option.some.inj hm
        clear hm
        subst r
        exact Go.ret1 rfl (.tmp rfl) (fun w hw => ⟨_, rfl, _, ⟨(), rfl, rfl⟩, hw⟩)
  · rw [if_neg h5] at hm
    refine W.cond_t rfl (not_t (b_f h5)) ?_
    refine W.seq ?_
    refine W.region ?_
    refine WL.q (R.assign rfl) rfl ?_
    refine WL.nil ?_
    refine Go.then_ ?_
    refine W.ret ?_
    refine Go.r_then ?_
    have he := Option.some.inj hm
    clear hm
    subst r
    exact Go.ret1 rfl (.tmp rfl) (fun w hw => ⟨_, rfl, _, ⟨(), rfl, rfl⟩, hw.reord [] 1 rfl⟩)
set_option maxRecDepth 100000 in
theorem impl_Square_elements_tr {G : World} {F : List Res} (p0 : S_Square) {r : (List Int)} (hm : impl_Square_elements p0 = some r) : Tr Try.prog G 39 [(.agg (e_S_Square.cells p0).toArray)] F (fun u K => ∃ x : Value, u = x ∧ K = ((slT (Enc.int .u8) x r) :: F)) := by
  unfold impl_Square_elements at hm
  refine Tr.body Try.func39 rfl Try.ntmps39 ?_
  refine W.seq ?_
  refine W.region ?_
  refine WL.x (R.box rfl (cells_agg _)) rfl fun b1 => ?_
  refine WL.q (R.assign rfl) rfl ?_
  refine WL.nil ?_
  refine Go.then_ ?_
  refine W.seq ?_
  refine W.region ?_
  refine WL.x (R.buildT ([] : List Int) el62 rfl rfl rfl rfl rfl (by decide) (by decide)) rfl fun v2 => ?_
  refine WL.q (R.assign rfl) rfl ?_
  refine WL.nil ?_
  refine Go.then_ ?_
  refine W.seq ?_
  refine W.seq ?_
  refine W.region ?_
  refine WL.q (R.fieldAddr rfl fa31_0) rfl ?_
  refine WL.q (R.load rfl (At.sub (At.bx 1 rfl (Sub.refl _)) (e_S_Square_s0 p0)) (Lies.one _ ia2)) rfl ?_
  refine WL.q (R.conv rfl un5 us2) rfl ?_
  refine WL.q (R.move rfl) rfl ?_
  refine WL.nil ?_
  refine Go.then_ ?_
  refine W.block ?_
  obtain ⟨o4, hlo4, hm⟩ := of_bind hm
  refine W.loopx (fun (s3 : ((List Int) × Int)) a w => ∃ v14 : Value, Sat G ((slT (Enc.int .u8) v14 s3.1) :: F) 18 [(2, (.slice none 0 0)), (3, v14), (8, (.int .u8 (IntKind.u8.wrap p0.Order))), (9, (.int .u8 s3.2))] a w) (fun (o4 : (List Int)) e a w => And (e = (.exit 0)) (∃ v20 : Value, Sat G ((slT (Enc.int .u8) v20 o4) :: F) 18 [(2, (.slice none 0 0)), (3, v20)] a w)) hlo4 (fun a w s => (Exists.intro v2 (Sat.mk (s.env.le ⟨rfl, rfl, rfl, rfl, trivial⟩) (s.mem.reord [0] 2 rfl)))) ?_ ?_
  · clear hm
    intro s3 x hm a w hJ
    obtain ⟨v14, s⟩ := hJ
    unfold impl_Square_elements_L1 at hm
    refine W.use s ?_
    refine W.seq ?_
    refine W.region ?_
    refine WL.q (R.lss rfl rfl) rfl ?_
    refine WL.nil ?_
    refine Go.then_ ?_
    refine W.seq ?_
    by_cases h15 : s3.2 < IntKind.u8.wrap p0.Order
    · rw [if_pos h15] at hm
      refine W.cond_t rfl (decide_eq_true h15) ?_
      refine W.skip ?_
      refine Go.then_ ?_
      refine W.seq ?_
      refine W.block ?_
      refine W.seq ?_
      refine W.region ?_
      refine WL.q (R.move rfl) rfl ?_
      refine WL.q (R.assign rfl) rfl ?_
      refine WL.nil ?_
      refine Go.then_ ?_
      refine W.region ?_
      refine WL.q (R.move rfl) rfl ?_
      refine WL.q (R.move rfl) rfl ?_
      refine WL.x (R.buildT ([s3.2]) el62 rfl rfl rfl rfl rfl (by decide) (by decide)) rfl fun v16 => ?_
      obtain ⟨h17, hm⟩ := of_guard hm
      refine WL.x (R.appendT 1 rfl rfl rfl el62 el62 (RdT.at 0 rfl) h17) rfl fun v18 => ?_
      refine WL.q (R.assign rfl) rfl ?_
      refine WL.nil ?_
      refine Go.n_block ?_
      refine Go.then_ ?_
      refine W.region ?_
      refine WL.q (R.add rfl rfl) rfl ?_
      refine WL.q (R.move rfl) rfl ?_
      refine WL.nil ?_
      have he := Option.some.inj hm
      clear hm
      subst x
      exact fun a w s => Exists.intro _ (And.intro rfl (Exists.intro v18 (Sat.mk (s.env.le ⟨rfl, rfl, rfl, rfl, trivial⟩) (s.mem.reord [1] 2 rfl))))
    · rw [if_neg h15] at hm
      refine W.cond_f rfl (decide_eq_false h15) ?_
      refine W.exit ?_
      refine Go.x_then ?_
      have he := Option.some.inj hm
      clear hm
      subst x
      exact fun a w s => Exists.intro _ (And.intro rfl (And.intro rfl (Exists.intro v14 (Sat.mk (s.env.le ⟨rfl, rfl, trivial⟩) (s.mem)))))
  · intro e a w hJ
    obtain ⟨rfl, v20, s⟩ := hJ
    refine Go.use s ?_
    refine Go.x_block ?_
    refine Go.then_ ?_
    refine W.seq ?_
    refine W.region ?_
    refine WL.q (R.move rfl) rfl ?_
    refine WL.q (R.assign rfl) rfl ?_
    refine WL.nil ?_
    refine Go.then_ ?_
    refine W.ret ?_
    have he := Option.some.inj hm
    clear hm
    subst r
    exact Go.ret1 rfl (.tmp rfl) (fun w hw => ⟨_, rfl, _, ⟨v20, rfl, rfl⟩, hw⟩)
set_option maxRecDepth 100000 in
theorem impl_Square_isUnit_tr {G : World} {F : List Res} (p0 : S_Square) (p1 : Int) {r : Bool} (hm : impl_Square_isUnit p0 p1 = some r) : Tr Try.prog G 25 [(.agg (e_S_Square.cells p0).toArray), (.int .u8 p1)] F (fun u K => ∃ x : Unit, u = (.bool r) ∧ K = F) := by
  unfold impl_Square_isUnit at hm
  refine Tr.body Try.func25 rfl Try.ntmps25 ?_
  refine W.seq ?_
  refine W.region ?_
  refine WL.x (R.box rfl (cells_agg _)) rfl fun b1 => ?_
  refine WL.q (R.assign rfl) rfl ?_
  refine WL.nil ?_
  refine Go.then_ ?_
  refine W.seq ?_
  refine W.seq ?_
  refine W.region ?_
  refine WL.q (R.load rfl (At.bx 0 rfl (Sub.refl _)) (lies_agg e_S_Square p0 ia31 sz31)) rfl ?_
  obtain ⟨o2, h3, hm⟩ := of_bind hm
  refine WL.x (R.call rfl en39 (impl_Square_elements_tr p0 h3)) rfl fun x4 => ?_
  refine WL.q (R.lenT rfl el62 (RdT.at 0 rfl)) rfl ?_
  refine WL.q (R.move rfl) rfl ?_
  refine WL.nil ?_
  refine Go.then_ ?_
  refine W.block ?_
  obtain ⟨o6, hlo6, hm⟩ := of_bind hm
  refine W.loopx (fun (s5 : Int) a w => Sat G ((slT (Enc.int .u8) x4 o2) :: (bx b1 (e_S_Square.cells p0)) :: F) 33 [(1, (.int .u8 p1)), (2, (.pointer (some ⟨b1, 0, none⟩))), (4, (.bool false)), (8, x4), (9, (.int .i64 (o2.length : Int))), (10, (.int .i64 s5))] a w) (fun (o6 : ((Unit) ⊕ (Unit))) e a w => (Sum.elim (fun o6 => And (e = (.exit 0)) (Sat G F 33 [(4, (.bool false))] a w)) (fun o6 => And (e = .ret) (Sat G F 33 [(4, (.bool false))] a w))) o6) hlo6 (fun a w s => (Sat.mk (s.env.le ⟨rfl, rfl, rfl, rfl, rfl, rfl, trivial⟩) (s.mem))) ?_ ?_
  · clear hm
    intro s5 x hm a w hJ
    have s := hJ
    unfold impl_Square_isUnit_L1 at hm
    refine W.use s ?_
    refine W.seq ?_
    refine W.region ?_
    refine WL.q (R.lss rfl rfl) rfl ?_
    refine WL.nil ?_
    refine Go.then_ ?_
    refine W.seq ?_
    by_cases h21 : s5 < (o2.length : Int)
    · rw [if_pos h21] at hm
      refine W.cond_t rfl (decide_eq_true h21) ?_
      refine W.skip ?_
      refine Go.then_ ?_
      refine W.seq ?_
      refine W.block ?_
      refine W.seq ?_
      refine W.region ?_
      obtain ⟨h22, hm⟩ := of_guard hm
      refine WL.q (R.idxT rfl rfl el62 (RdT.at 0 rfl) h22) rfl ?_
      refine WL.q (R.load rfl (At.elT (RdT.at 0 rfl) (by decide) h22) (Lies.one _ ia5)) rfl ?_
      refine WL.q (R.assign rfl) rfl ?_
      refine WL.nil ?_
      refine Go.then_ ?_
      obtain ⟨o26, hm, hmo26⟩ := of_bind hm
      refine W.seq ?_
      refine W.join (fun e a w => And (e = .normal) (Sat G ((slT (Enc.int .u8) x4 o2) :: (bx b1 (e_S_Square.cells p0)) :: F) 33 [(1, (.int .u8 p1)), (2, (.pointer (some ⟨b1, 0, none⟩))), (4, (.bool false)), (8, x4), (9, (.int .i64 (o2.length : Int))), (10, (.int .i64 s5)), (31, (.bool o26))] a w)) ?_ ?_
      · refine W.region ?_
        refine WL.q (R.move rfl) rfl ?_
        refine WL.q (R.move rfl) rfl ?_
        refine WL.q (R.fieldAddr rfl fa31_1) rfl ?_
        obtain ⟨h23, hm⟩ := of_guard hm
        refine WL.q (R.indexArr rfl rfl un29 sz22 h23.1 h23.2) rfl ?_
        obtain ⟨h24, hm⟩ := of_guard hm
        refine WL.q (R.indexArr rfl rfl un22 sz5 h24.1 h24.2) rfl ?_
        refine WL.q (R.load rfl (At.sub (At.sub (At.sub (At.bx 1 rfl (Sub.refl _)) (e_S_Square_s1 p0)) (sub_arr ((Enc.int .u8).arr 10) (v := p0.Table) h23.1 h23.2)) (sub_arr (Enc.int .u8) (v := gv p0.Table p1) h24.1 h24.2)) (Lies.one _ ia5)) rfl ?_
        refine WL.q (R.move rfl) rfl ?_
        refine WL.q (R.neq rfl rfl) rfl ?_
        refine WL.q (R.move rfl) rfl ?_
        by_cases h25 : gv (gv p0.Table p1) (gl o2 s5) ≠ gl o2 s5
        · rw [if_pos h25] at hm
          refine WL.off rfl rfl (decide_eq_true h25) rfl ?_
          refine WL.off rfl rfl (decide_eq_true h25) rfl ?_
          refine WL.off rfl rfl (decide_eq_true h25) rfl ?_
          refine WL.off rfl rfl (decide_eq_true h25) rfl ?_
          refine WL.off rfl rfl (decide_eq_true h25) rfl ?_
          refine WL.off rfl rfl (decide_eq_true h25) rfl ?_
          refine WL.off rfl rfl (decide_eq_true h25) rfl ?_
          refine WL.off rfl rfl (decide_eq_true h25) rfl ?_
          refine WL.q (R.pick_t rfl (decide_eq_true h25) rfl) rfl ?_
          refine WL.nil ?_
          have he := Option.some.inj hm
          clear hm
          subst o26
          exact fun a w s => And.intro rfl (Sat.mk (s.env.le ⟨rfl, rfl, rfl, rfl, rfl, rfl, rfl, trivial⟩) (s.mem))
        · rw [if_neg h25] at hm
          refine WL.on rfl rfl (decide_eq_false h25) ?_
          refine WL.q (R.move rfl) rfl ?_
          refine WL.on rfl rfl (decide_eq_false h25) ?_
          refine WL.q (R.move rfl) rfl ?_
          refine WL.on rfl rfl (decide_eq_false h25) ?_
          refine WL.q (R.fieldAddr rfl fa31_1) rfl ?_
          refine WL.on rfl rfl (decide_eq_false h25) ?_
          refine WL.q (R.indexArr rfl rfl un29 sz22 h24.1 h24.2) rfl ?_
          refine WL.on rfl rfl (decide_eq_false h25) ?_
          refine WL.q (R.indexArr rfl rfl un22 sz5 h23.1 h23.2) rfl ?_
          refine WL.on rfl rfl (decide_eq_false h25) ?_
          refine WL.q (R.load rfl (At.sub (At.sub (At.sub (At.bx 1 rfl (Sub.refl _)) (e_S_Square_s1 p0)) (sub_arr ((Enc.int .u8).arr 10) (v := p0.Table) h24.1 h24.2)) (sub_arr (Enc.int .u8) (v := gv p0.Table (gl o2 s5)) h23.1 h23.2)) (Lies.one _ ia5)) rfl ?_
          refine WL.on rfl rfl (decide_eq_false h25) ?_
          refine WL.q (R.move rfl) rfl ?_
          refine WL.on rfl rfl (decide_eq_false h25) ?_
          refine WL.q (R.neq rfl rfl) rfl ?_
          refine WL.q (R.pick_f rfl (decide_eq_false h25) rfl) rfl ?_
          refine WL.nil ?_
          have he := Option.some.inj hm
          clear hm
          subst o26
          exact fun a w s => And.intro rfl (Sat.mk (s.env.le ⟨rfl, rfl, rfl, rfl, rfl, rfl, rfl, trivial⟩) (s.mem))
      · intro e a w hJ
        replace hm := hmo26
        clear hmo26
        obtain ⟨rfl, s⟩ := hJ
        refine Go.use s ?_
        refine Go.then_ ?_
        by_cases h27 : o26 = true
        · rw [if_pos h27] at hm
          refine W.cond_t rfl h27 ?_
          refine W.seq ?_
          refine W.region ?_
          refine WL.q (R.assign rfl) rfl ?_
          refine WL.nil ?_
          refine Go.then_ ?_
          refine W.ret ?_
          refine Go.r_block ?_
          refine Go.r_then ?_
          have he := Option.some.inj hm
          clear hm
          subst x
          exact fun a w s => Exists.intro _ (And.intro rfl (And.intro rfl (Sat.mk (s.env.le ⟨rfl, trivial⟩) (s.mem.reord [] 2 rfl))))
        · rw [if_neg h27] at hm
          refine W.cond_f rfl (b_f h27) ?_
          refine W.skip ?_
          refine Go.n_block ?_
          refine Go.then_ ?_
          refine W.region ?_
          refine WL.q (R.add rfl rfl) rfl ?_
          refine WL.q (R.move rfl) rfl ?_
          refine WL.nil ?_
          have he := Option.some.inj hm
          clear hm
          subst x
          exact fun a w s => Exists.intro _ (And.intro rfl (Sat.mk (s.env.le ⟨rfl, rfl, rfl, rfl, rfl, rfl, trivial⟩) (s.mem)))
    · rw [if_neg h21] at hm
      refine W.cond_f rfl (decide_eq_false h21) ?_
      refine W.exit ?_
      refine Go.x_then ?_
      have he := Option.some.inj hm
      clear hm
      subst x
      exact fun a w s => Exists.intro _ (And.intro rfl (And.intro rfl (Sat.mk (s.env.le ⟨rfl, trivial⟩) (s.mem.reord [] 2 rfl))))
  · intro e a w hJ
    rcases o6 with o6 | o6
    · simp only [Sum.elim_inl, Sum.elim_inr] at hm
      obtain ⟨rfl, s⟩ := hJ
      refine Go.use s ?_
      refine Go.x_block ?_
      refine Go.then_ ?_
      refine W.seq ?_
      refine W.region ?_
      refine WL.q (R.assign rfl) rfl ?_
      refine WL.nil ?_
      refine Go.then_ ?_
      refine W.ret ?_
      have he := Option.some.inj hm
      clear hm
      subst r
      exact Go.ret1 rfl (.tmp rfl) (fun w hw => ⟨_, rfl, _, ⟨(), rfl, rfl⟩, hw⟩)
    · simp only [Sum.elim_inl, Sum.elim_inr] at hm
      obtain ⟨rfl, s⟩ := hJ
      refine Go.use s ?_
      refine Go.r_block ?_
      refine Go.r_then ?_
      have he := Option.some.inj hm
      clear hm
      subst r
      exact Go.ret1 rfl (.tmp rfl) (fun w hw => ⟨_, rfl, _, ⟨(), rfl, rfl⟩, hw⟩)
set_option maxRecDepth 100000 in
theorem impl_IsLoop_tr {G : World} {F : List Res} (p0 : S_Square) {r : Bool} (hm : impl_IsLoop p0 = some r) : Tr Try.prog G 13 [(.agg (e_S_Square.cells p0).toArray)] F (fun u K => ∃ x : Unit, u = (.bool r) ∧ K = F) := by
  unfold impl_IsLoop at hm
  refine Tr.body Try.func13 rfl Try.ntmps13 ?_
  refine W.seq ?_
  refine W.region ?_
  refine WL.x (R.box rfl (cells_agg _)) rfl fun b1 => ?_
  refine WL.q (R.assign rfl) rfl ?_
  refine WL.nil ?_
  refine Go.then_ ?_
  obtain ⟨o9, hm, hmo9⟩ := of_bind hm
  refine W.seq ?_
  refine W.join (fun e a w => And (e = .normal) (Sat G F 9 [(2, (.bool o9))] a w)) ?_ ?_
  · refine W.region ?_
    refine WL.q (R.load rfl (At.bx 0 rfl (Sub.refl _)) (lies_agg e_S_Square p0 ia31 sz31)) rfl ?_
    obtain ⟨o2, h3, hm⟩ := of_bind hm
    refine WL.x (R.call rfl en24 (impl_IsSquare_tr p0 h3)) rfl fun x4 => ?_
    refine WL.q (R.move rfl) rfl ?_
    by_cases h5 : o2 = true
    · rw [if_pos h5] at hm
      refine WL.on rfl rfl h5 ?_
      refine WL.q (R.load rfl (At.bx 0 rfl (Sub.refl _)) (lies_agg e_S_Square p0 ia31 sz31)) rfl ?_
      obtain ⟨o6, h7, hm⟩ := of_bind hm
      refine WL.on rfl rfl h5 ?_
      refine WL.x (R.call rfl en25 (impl_Square_isUnit_tr p0 0 h7)) rfl fun x8 => ?_
      refine WL.q (R.pick_t rfl h5 rfl) rfl ?_
      refine WL.q (R.assign rfl) rfl ?_
      refine WL.nil ?_
      have he := Option.some.inj hm
      clear hm
      subst o9
      exact fun a w s => And.intro rfl (Sat.mk (s.env.le ⟨rfl, trivial⟩) (s.mem.reord [] 1 rfl))
    · rw [if_neg h5] at hm
      refine WL.off rfl rfl (b_f h5) rfl ?_
      refine WL.off rfl rfl (b_f h5) rfl ?_
      refine WL.q (R.pick_f rfl (b_f h5) rfl) rfl ?_
      refine WL.q (R.assign rfl) rfl ?_
      refine WL.nil ?_
      have he := Option.some.inj hm
      clear hm
      subst o9
      exact fun a w s => And.intro rfl (Sat.mk (s.env.le ⟨rfl, trivial⟩) (s.mem.reord [] 1 rfl))
  · intro e a w hJ
    replace hm := hmo9
    clear hmo9
    obtain ⟨rfl, s⟩ := hJ
    refine Go.use s ?_
    refine Go.then_ ?_
    refine W.ret ?_
    have he := Option.some.inj hm
    clear hm
    subst r
    exact Go.ret1 rfl (.tmp rfl) (fun w hw => ⟨_, rfl, _, ⟨(), rfl, rfl⟩, hw⟩)
set_option maxRecDepth 100000 in
theorem impl_set_has_tr {G : World} {F : List Res} (p0 : Int) (p1 : Int) {r : Bool} (hm : impl_set_has p0 p1 = some r) : Tr Try.prog G 40 [(.int .i64 p0), (.int .u8 p1)] F (fun u K => ∃ x : Unit, u = (.bool r) ∧ K = F) := by
  unfold impl_set_has at hm
  refine Tr.body Try.func40 rfl Try.ntmps40 ?_
  refine W.seq ?_
  refine W.region ?_
  refine WL.q (R.assign rfl) rfl ?_
  refine WL.nil ?_
  refine Go.then_ ?_
  refine W.seq ?_
  refine W.region ?_
  refine WL.q (R.move rfl) rfl ?_
  refine WL.q (R.move rfl) rfl ?_
  obtain ⟨h1, hm⟩ := of_guard hm
  refine WL.q (R.shr rfl rfl h1) rfl ?_
  refine WL.q (R.and rfl rfl) rfl ?_
  refine WL.q (R.eql rfl rfl) rfl ?_
  refine WL.q (R.assign rfl) rfl ?_
  refine WL.nil ?_
  refine Go.then_ ?_
  refine W.ret ?_
  have he := Option.some.inj hm
  clear hm
  subst r
  exact Go.ret1 rfl (.tmp rfl) (fun w hw => ⟨_, rfl, _, ⟨(), rfl, rfl⟩, hw⟩)
set_option maxRecDepth 100000 in
theorem impl_set_list_tr {G : World} {F : List Res} (p0 : Int) {r : (List Int)} (hm : impl_set_list p0 = some r) : Tr Try.prog G 26 [(.int .i64 p0)] F (fun u K => ∃ x : Value, u = x ∧ K = ((slT (Enc.int .i64) x r) :: F)) := by
  unfold impl_set_list at hm
  refine Tr.body Try.func26 rfl Try.ntmps26 ?_
  refine W.seq ?_
  refine W.region ?_
  refine WL.q (R.assign rfl) rfl ?_
  refine WL.nil ?_
  refine Go.then_ ?_
  refine W.seq ?_
  refine W.region ?_
  refine WL.x (R.buildT ([] : List Int) el43 rfl rfl rfl rfl rfl (by decide) (by decide)) rfl fun v1 => ?_
  refine WL.q (R.assign rfl) rfl ?_
  refine WL.nil ?_
  refine Go.then_ ?_
  refine W.seq ?_
  refine W.seq ?_
  refine W.region ?_
  refine WL.q (R.move rfl) rfl ?_
  refine WL.nil ?_
  refine Go.then_ ?_
  refine W.block ?_
  obtain ⟨o3, hlo3, hm⟩ := of_bind hm
  refine W.loopx (fun (s2 : ((List Int) × Int)) a w => ∃ v25 : Value, Sat G ((slT (Enc.int .i64) v25 s2.1) :: F) 19 [(0, (.int .i64 p0)), (2, (.slice none 0 0)), (3, v25), (6, (.int .i64 s2.2))] a w) (fun (o3 : (List Int)) e a w => And (e = (.exit 0)) (∃ v37 : Value, Sat G ((slT (Enc.int .i64) v37 o3) :: F) 19 [(2, (.slice none 0 0)), (3, v37)] a w)) hlo3 (fun a w s => (Exists.intro v1 (Sat.mk (s.env.le ⟨rfl, rfl, rfl, rfl, trivial⟩) (s.mem)))) ?_ ?_
  · clear hm
    intro s2 x hm a w hJ
    obtain ⟨v25, s⟩ := hJ
    unfold impl_set_list_L1 at hm
    refine W.use s ?_
    refine W.seq ?_
    refine W.region ?_
    refine WL.q (R.lss rfl rfl) rfl ?_
    refine WL.nil ?_
    refine Go.then_ ?_
    refine W.seq ?_
    by_cases h26 : s2.2 < 10
    · rw [if_pos h26] at hm
      refine W.cond_t rfl (decide_eq_true h26) ?_
      refine W.skip ?_
      refine Go.then_ ?_
      obtain ⟨o34, hm, hmo34⟩ := of_bind hm
      refine W.seq ?_
      refine W.join (fun e a w => And (e = .normal) (∃ v35 : Value, Sat G ((slT (Enc.int .i64) v35 o34) :: F) 19 [(0, (.int .i64 p0)), (2, (.slice none 0 0)), (3, v35), (6, (.int .i64 s2.2))] a w)) ?_ ?_
      · refine W.block ?_
        refine W.seq ?_
        refine W.region ?_
        refine WL.q (R.move rfl) rfl ?_
        refine WL.q (R.assign rfl) rfl ?_
        refine WL.nil ?_
        refine Go.then_ ?_
        refine W.seq ?_
        refine W.region ?_
        refine WL.q (R.move rfl) rfl ?_
        refine WL.q (R.move rfl) rfl ?_
        refine WL.q (R.conv rfl un5 us2) rfl ?_
        obtain ⟨o27, h28, hm⟩ := of_bind hm
        refine WL.x (R.call rfl en40 (impl_set_has_tr p0 (IntKind.u8.wrap s2.2) h28)) rfl fun x29 => ?_
        refine WL.nil ?_
        refine Go.then_ ?_
        by_cases h30 : o27 = true
        · rw [if_pos h30] at hm
          refine W.cond_t rfl h30 ?_
          refine W.region ?_
          refine WL.q (R.move rfl) rfl ?_
          refine WL.q (R.move rfl) rfl ?_
          refine WL.x (R.buildT ([s2.2]) el43 rfl rfl rfl rfl rfl (by decide) (by decide)) rfl fun v31 => ?_
          obtain ⟨h32, hm⟩ := of_guard hm
          refine WL.x (R.appendT 1 rfl rfl rfl el43 el43 (RdT.at 0 rfl) h32) rfl fun v33 => ?_
          refine WL.q (R.assign rfl) rfl ?_
          refine WL.nil ?_
          refine Go.n_block ?_
          have he := Option.some.inj hm
          clear hm
          subst o34
          exact fun a w s => And.intro rfl (Exists.intro v33 (Sat.mk (s.env.le ⟨rfl, rfl, rfl, rfl, trivial⟩) (s.mem.reord [1] 2 rfl)))
        · rw [if_neg h30] at hm
          refine W.cond_f rfl (b_f h30) ?_
          refine W.skip ?_
          refine Go.n_block ?_
          have he := Option.some.inj hm
          clear hm
          subst o34
          exact fun a w s => And.intro rfl (Exists.intro v25 (Sat.mk (s.env.le ⟨rfl, rfl, rfl, rfl, trivial⟩) (s.mem)))
      · intro e a w hJ
        replace hm := hmo34
        clear hmo34
        obtain ⟨rfl, v35, s⟩ := hJ
        refine Go.use s ?_
        refine Go.then_ ?_
        refine W.region ?_
        refine WL.q (R.add rfl rfl) rfl ?_
        refine WL.q (R.move rfl) rfl ?_
        refine WL.nil ?_
        have he := Option.some.inj hm
        clear hm
        subst x
        exact fun a w s => Exists.intro _ (And.intro rfl (Exists.intro v35 (Sat.mk (s.env.le ⟨rfl, rfl, rfl, rfl, trivial⟩) (s.mem))))
    · rw [if_neg h26] at hm
      refine W.cond_f rfl (decide_eq_false h26) ?_
      refine W.exit ?_
      refine Go.x_then ?_
      have he := Option.some.inj hm
      clear hm
      subst x
      exact fun a w s => Exists.intro _ (And.intro rfl (And.intro rfl (Exists.intro v25 (Sat.mk (s.env.le ⟨rfl, rfl, trivial⟩) (s.mem)))))
  · intro e a w hJ
    obtain ⟨rfl, v37, s⟩ := hJ
    refine Go.use s ?_
    refine Go.x_block ?_
    refine Go.then_ ?_
    refine W.seq ?_
    refine W.region ?_
    refine WL.q (R.move rfl) rfl ?_
    refine WL.q (R.assign rfl) rfl ?_
    refine WL.nil ?_
    refine Go.then_ ?_
    refine W.ret ?_
    have he := Option.some.inj hm
    clear hm
    subst r
    exact Go.ret1 rfl (.tmp rfl) (fun w hw => ⟨_, rfl, _, ⟨v37, rfl, rfl⟩, hw⟩)
set_option maxRecDepth 100000 in
theorem impl_listsOf_tr {G : World} {F : List Res} (q0 : Value) (p0 : (List Int)) (hp0 : RdT (Enc.int .i64) G F q0 p0) {r : (List (List Int))} (hm : impl_listsOf p0 = some r) : Tr Try.prog G 14 [q0] F (fun u K => ∃ x : (Value × List Value), u = x.1 ∧ K = ((ns (Enc.int .i64) x.1 x.2 r) :: F)) := by
  unfold impl_listsOf at hm
  refine Tr.body Try.func14 rfl Try.ntmps14 ?_
  refine W.seq ?_
  refine W.region ?_
  refine WL.q (R.assign rfl) rfl ?_
  refine WL.nil ?_
  refine Go.then_ ?_
  refine W.seq ?_
  refine W.region ?_
  refine WL.x (R.buildN (e := (Enc.int .i64)) nl26 rfl rfl) rfl fun v1 => ?_
  refine WL.q (R.assign rfl) rfl ?_
  refine WL.nil ?_
  refine Go.then_ ?_
  refine W.seq ?_
  refine W.seq ?_
  refine W.region ?_
  refine WL.q (R.move rfl) rfl ?_
  refine WL.q (R.lenT rfl el40 (RdT.lift 1 rfl hp0)) rfl ?_
  refine WL.q (R.move rfl) rfl ?_
  refine WL.nil ?_
  refine Go.then_ ?_
  refine W.block ?_
  obtain ⟨o3, hlo3, hm⟩ := of_bind hm
  refine W.loopx (fun (s2 : ((List (List Int)) × Int)) a w => ∃ v22 : Value, ∃ v23 : List Value, Sat G ((ns (Enc.int .i64) v22 v23 s2.1) :: F) 20 [(2, (.slice none 0 0)), (3, v22), (7, q0), (8, (.int .i64 (p0.length : Int))), (9, (.int .i64 s2.2))] a w) (fun (o3 : (List (List Int))) e a w => And (e = (.exit 0)) (∃ v34 : Value, ∃ v35 : List Value, Sat G ((ns (Enc.int .i64) v34 v35 o3) :: F) 20 [(2, (.slice none 0 0)), (3, v34)] a w)) hlo3 (fun a w s => (Exists.intro v1 (Exists.intro ([]) (Sat.mk (s.env.le ⟨rfl, rfl, rfl, rfl, rfl, trivial⟩) (s.mem))))) ?_ ?_
  · clear hm
    intro s2 x hm a w hJ
    obtain ⟨v22, v23, s⟩ := hJ
    unfold impl_listsOf_L1 at hm
    refine W.use s ?_
    refine W.seq ?_
    refine W.region ?_
    refine WL.q (R.lss rfl rfl) rfl ?_
    refine WL.nil ?_
    refine Go.then_ ?_
    refine W.seq ?_
    by_cases h24 : s2.2 < (p0.length : Int)
    · rw [if_pos h24] at hm
      refine W.cond_t rfl (decide_eq_true h24) ?_
      refine W.skip ?_
      refine Go.then_ ?_
      refine W.seq ?_
      refine W.block ?_
      refine W.seq ?_
      refine W.region ?_
      obtain ⟨h25, hm⟩ := of_guard hm
      refine WL.q (R.idxT rfl rfl el40 (RdT.lift 1 rfl hp0) h25) rfl ?_
      refine WL.q (R.load rfl (At.elT (RdT.lift 1 rfl hp0) (by decide) h25) (Lies.one _ ia50)) rfl ?_
      refine WL.q (R.assign rfl) rfl ?_
      refine WL.nil ?_
      refine Go.then_ ?_
      refine W.region ?_
      refine WL.q (R.move rfl) rfl ?_
      refine WL.q (R.move rfl) rfl ?_
      obtain ⟨o26, h27, hm⟩ := of_bind hm
      refine WL.x (R.call rfl en26 (impl_set_list_tr (gl p0 s2.2) h27)) rfl fun x28 => ?_
      refine WL.x (R.build1 (e := (Enc.int .i64)) nl26 rfl rfl (RdT.at 0 rfl)) rfl fun v29 => ?_
      obtain ⟨h30, hm⟩ := of_guard hm
      refine WL.x ((R.appendN (e := (Enc.int .i64)) (F := ((sl v29 1 1 [x28]) :: F)) (xs := o26) rfl rfl nl26 nl26 (Rds.at 0 rfl) h30).weak (fun w hw => hw.reord [2, 1, 0] 3 rfl)) rfl fun v31 => ?_
      refine WL.q (R.assign rfl) rfl ?_
      refine WL.nil ?_
      refine Go.n_block ?_
      refine Go.then_ ?_
      refine W.region ?_
      refine WL.q (R.add rfl rfl) rfl ?_
      refine WL.q (R.move rfl) rfl ?_
      refine WL.nil ?_
      have he := Option.some.inj hm
      clear hm
      subst x
      exact fun a w s => Exists.intro _ (And.intro rfl (Exists.intro v31 (Exists.intro (v23 ++ [x28]) (Sat.mk (s.env.le ⟨rfl, rfl, rfl, rfl, rfl, trivial⟩) (s.mem.reord [0] 2 rfl)))))
    · rw [if_neg h24] at hm
      refine W.cond_f rfl (decide_eq_false h24) ?_
      refine W.exit ?_
      refine Go.x_then ?_
      have he := Option.some.inj hm
      clear hm
      subst x
      exact fun a w s => Exists.intro _ (And.intro rfl (And.intro rfl (Exists.intro v22 (Exists.intro v23 (Sat.mk (s.env.le ⟨rfl, rfl, trivial⟩) (s.mem))))))
  · intro e a w hJ
    obtain ⟨rfl, v34, v35, s⟩ := hJ
    refine Go.use s ?_
    refine Go.x_block ?_
    refine Go.then_ ?_
    refine W.seq ?_
    refine W.region ?_
    refine WL.q (R.move rfl) rfl ?_
    refine WL.q (R.assign rfl) rfl ?_
    refine WL.nil ?_
    refine Go.then_ ?_
    refine W.ret ?_
    have he := Option.some.inj hm
    clear hm
    subst r
    exact Go.ret1 rfl (.tmp rfl) (fun w hw => ⟨_, rfl, _, ⟨(v34, v35), rfl, rfl⟩, hw⟩)
end Go.Proofs.Ytekmmbgbhjeoaaa
