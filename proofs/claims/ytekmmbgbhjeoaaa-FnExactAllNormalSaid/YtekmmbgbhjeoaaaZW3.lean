/- Printed by a program of the claim's own: the walks: what the machine's calls answer is what the plain functions answer. No condition. -/
import Derived.Test.YtekmmbgbhjeoaaaZW2
set_option linter.unusedVariables false
set_option linter.unusedSimpArgs false
namespace Go.Proofs.Ytekmmbgbhjeoaaa
open Go Go.Sx Go.Mi
set_option maxRecDepth 100000 in
theorem slices_pdqsortCmpFunc_impl_set_n_tr {G : World} (n : Nat) : ∀ {F : List Res} (q0 : Value) (p0 : (List Int)) (p1 : Int) (p2 : Int) (p3 : Int) (g4 : FuncId) (fs4 cs4 : List Value) (f4 : Int → Int → Option Int) (en_4 : Enters Try.prog g4) (hf4 : ∀ (L : List Res) (a0 : Int) (a1 : Int) (r : Int), f4 a0 a1 = some r → Tr Try.prog G g4 (fs4 ++ [(.int .i64 a0), (.int .i64 a1)] ++ cs4) (L ++ F) (fun u K => ∃ x : Unit, u = (.int .i64 r) ∧ K = L ++ F)) {r : (List Int)}, slices_pdqsortCmpFunc_impl_set_n n p0 p1 p2 p3 f4 = some r → Tr Try.prog G 49 [q0, (.int .i64 p1), (.int .i64 p2), (.int .i64 p3), (.func (.func g4) fs4.toArray cs4.toArray)] ((slT (Enc.int .i64) q0 p0) :: F) (fun u K => ∃ x : Unit, u = (.tuple #[]) ∧ K = ((slT (Enc.int .i64) q0 r) :: F)) := by
  induction n with
  | zero => intro F q0 p0 p1 p2 p3 g4 fs4 cs4 f4 en_4 hf4 r hm; cases hm
  | succ n ih49 =>
    intro F q0 p0 p1 p2 p3 g4 fs4 cs4 f4 en_4 hf4 r hm
    replace hm : slices_pdqsortCmpFunc_impl_set_B (slices_pdqsortCmpFunc_impl_set_n n) p0 p1 p2 p3 f4 = some r := hm
    unfold slices_pdqsortCmpFunc_impl_set_B at hm
    refine Tr.body Try.func49 rfl Try.ntmps49 ?_
    refine W.seq ?_
    refine W.region ?_
    refine WL.q (R.assign rfl) rfl ?_
    refine WL.nil ?_
    refine Go.then_ ?_
    refine W.seq ?_
    refine W.region ?_
    refine WL.q (R.assign rfl) rfl ?_
    refine WL.nil ?_
    refine Go.then_ ?_
    refine W.block ?_
    obtain ⟨o2, hlo2, hm⟩ := of_bind hm
    refine W.loopx (fun (s1 : ((List Int) × Int × Int × Int × Bool × Bool)) a w => Sat G ((slT (Enc.int .i64) q0 s1.1) :: F) 148 [(0, q0), (1, (.int .i64 s1.2.1)), (2, (.int .i64 s1.2.2.1)), (3, (.int .i64 s1.2.2.2.1)), (4, (.func (.func g4) fs4.toArray cs4.toArray)), (10, (.bool s1.2.2.2.2.1)), (11, (.bool s1.2.2.2.2.2))] a w) (fun (o2 : (List Int)) e a w => And (e = .ret) (Sat G ((slT (Enc.int .i64) q0 o2) :: F) 148 [] a w)) hlo2 (fun a w s => (Sat.mk (s.env.le ⟨rfl, rfl, rfl, rfl, rfl, rfl, rfl, trivial⟩) (s.mem))) ?_ ?_
    · clear hm
      intro s1 x hm a w hJ
      have s := hJ
      unfold slices_pdqsortCmpFunc_impl_set_L1 at hm
      refine W.use s ?_
      refine W.block ?_
      refine W.seq ?_
      refine W.region ?_
      refine WL.q (R.move rfl) rfl ?_
      refine WL.q (R.move rfl) rfl ?_
      refine WL.q (R.sub rfl rfl) rfl ?_
      refine WL.q (R.assign rfl) rfl ?_
      refine WL.nil ?_
      refine Go.then_ ?_
      refine W.seq ?_
      refine W.seq ?_
      refine W.region ?_
      refine WL.q (R.move rfl) rfl ?_
      refine WL.q (R.leq rfl rfl) rfl ?_
      refine WL.nil ?_
      refine Go.then_ ?_
      by_cases h148 : IntKind.i64.wrap (s1.2.2.1 - s1.2.1) ≤ 12
      · rw [if_pos h148] at hm
        refine W.cond_t rfl (decide_eq_true h148) ?_
        refine W.seq ?_
        refine W.region ?_
        refine WL.q (R.move rfl) rfl ?_
        refine WL.q (R.move rfl) rfl ?_
        refine WL.q (R.move rfl) rfl ?_
        refine WL.q (R.move rfl) rfl ?_
        obtain ⟨o149, h150, hm⟩ := of_bind hm
        refine WL.x ((R.call rfl en57 (slices_insertionSortCmpFunc_impl_set_tr (F := F) q0 s1.1 s1.2.1 s1.2.2.1 g4 fs4 cs4 f4 en_4 hf4 h150)).weak (fun w hw => hw.reord [0] 1 rfl)) rfl fun x151 => ?_
        refine WL.nil ?_
        refine Go.then_ ?_
        refine W.ret ?_
        refine Go.r_then ?_
        refine Go.r_block ?_
        have he := Option.some.inj hm
        clear hm
        subst x
        exact fun a w s => Exists.intro _ (And.intro rfl (And.intro rfl (Sat.mk (s.env.le trivial) (s.mem))))
      · rw [if_neg h148] at hm
        refine W.cond_f rfl (decide_eq_false h148) ?_
        refine W.skip ?_
        refine Go.then_ ?_
        refine W.seq ?_
        refine W.seq ?_
        refine W.region ?_
        refine WL.q (R.move rfl) rfl ?_
        refine WL.q (R.eql rfl rfl) rfl ?_
        refine WL.nil ?_
        refine Go.then_ ?_
        by_cases h152 : s1.2.2.2.1 = 0
        · rw [if_pos h152] at hm
          refine W.cond_t rfl (decide_eq_true h152) ?_
          refine W.seq ?_
          refine W.region ?_
          refine WL.q (R.move rfl) rfl ?_
          refine WL.q (R.move rfl) rfl ?_
          refine WL.q (R.move rfl) rfl ?_
          refine WL.q (R.move rfl) rfl ?_
          obtain ⟨o153, h154, hm⟩ := of_bind hm
          refine WL.x ((R.call rfl en58 (slices_heapSortCmpFunc_impl_set_tr (F := F) q0 s1.1 s1.2.1 s1.2.2.1 g4 fs4 cs4 f4 en_4 hf4 h154)).weak (fun w hw => hw.reord [0] 1 rfl)) rfl fun x155 => ?_
          refine WL.nil ?_
          refine Go.then_ ?_
          refine W.ret ?_
          refine Go.r_then ?_
          refine Go.r_block ?_
          have he := Option.some.inj hm
          clear hm
          subst x
          exact fun a w s => Exists.intro _ (And.intro rfl (And.intro rfl (Sat.mk (s.env.le trivial) (s.mem))))
        · rw [if_neg h152] at hm
          refine W.cond_f rfl (decide_eq_false h152) ?_
          refine W.skip ?_
          refine Go.then_ ?_
          obtain ⟨o160, hm, hmo160⟩ := of_bind hm
          refine W.seq ?_
          refine W.join (fun e a w => And (e = .normal) (Sat G ((slT (Enc.int .i64) q0 o160.1) :: F) 148 [(0, q0), (1, (.int .i64 s1.2.1)), (2, (.int .i64 s1.2.2.1)), (3, (.int .i64 o160.2)), (4, (.func (.func g4) fs4.toArray cs4.toArray)), (10, (.bool s1.2.2.2.2.1)), (11, (.bool s1.2.2.2.2.2)), (12, (.int .i64 (IntKind.i64.wrap (s1.2.2.1 - s1.2.1))))] a w)) ?_ ?_
          · refine W.seq ?_
            refine W.region ?_
            refine WL.q (R.move rfl) rfl ?_
            refine WL.q (R.not rfl) rfl ?_
            refine WL.nil ?_
            refine Go.then_ ?_
            by_cases h156 : s1.2.2.2.2.1 = true
            · rw [if_pos h156] at hm
              refine W.cond_f rfl (not_f h156) ?_
              refine W.skip ?_
              have he := Option.some.inj hm
              clear hm
              subst o160
              exact fun a w s => And.intro rfl (Sat.mk (s.env.le ⟨rfl, rfl, rfl, rfl, rfl, rfl, rfl, rfl, trivial⟩) (s.mem))
            · rw [if_neg h156] at hm
              refine W.cond_t rfl (not_t (b_f h156)) ?_
              refine W.seq ?_
              refine W.region ?_
              refine WL.q (R.move rfl) rfl ?_
              refine WL.q (R.move rfl) rfl ?_
              refine WL.q (R.move rfl) rfl ?_
              refine WL.q (R.move rfl) rfl ?_
              obtain ⟨o157, h158, hm⟩ := of_bind hm
              refine WL.x ((R.call rfl en59 (slices_breakPatternsCmpFunc_impl_set_tr (F := F) q0 s1.1 s1.2.1 s1.2.2.1 g4 fs4 cs4 f4 en_4 hf4 h158)).weak (fun w hw => hw.reord [0] 1 rfl)) rfl fun x159 => ?_
              refine WL.nil ?_
              refine Go.then_ ?_
              refine W.region ?_
              refine WL.q (R.move rfl) rfl ?_
              refine WL.q (R.sub rfl rfl) rfl ?_
              refine WL.q (R.assign rfl) rfl ?_
              refine WL.nil ?_
              have he := Option.some.inj hm
              clear hm
              subst o160
              exact fun a w s => And.intro rfl (Sat.mk (s.env.le ⟨rfl, rfl, rfl, rfl, rfl, rfl, rfl, rfl, trivial⟩) (s.mem))
          · intro e a w hJ
            replace hm := hmo160
            clear hmo160
            obtain ⟨rfl, s⟩ := hJ
            refine Go.use s ?_
            refine Go.then_ ?_
            refine W.seq ?_
            refine W.region ?_
            refine WL.q (R.move rfl) rfl ?_
            refine WL.q (R.move rfl) rfl ?_
            refine WL.q (R.move rfl) rfl ?_
            refine WL.q (R.move rfl) rfl ?_
            obtain ⟨o161, h162, hm⟩ := of_bind hm
            refine WL.x (R.call rfl en60 (slices_choosePivotCmpFunc_impl_set_tr q0 o160.1 (RdT.at 0 rfl) s1.2.1 s1.2.2.1 g4 fs4 cs4 f4 en_4 (fun L a0 a1 r h => by have q := hf4 (L ++ [(slT (Enc.int .i64) q0 o160.1)]) a0 a1 r h; simpa only [List.append_assoc, List.cons_append, List.nil_append] using q) h162)) rfl fun x163 => ?_
            refine WL.q (R.move rfl) rfl ?_
            refine WL.q (R.extract rfl rfl) rfl ?_
            refine WL.q (R.extract rfl rfl) rfl ?_
            refine WL.q (R.assign rfl) rfl ?_
            refine WL.q (R.assign rfl) rfl ?_
            refine WL.nil ?_
            refine Go.then_ ?_
            obtain ⟨o168, hm, hmo168⟩ := of_bind hm
            refine W.seq ?_
            refine W.join (fun e a w => And (e = .normal) (Sat G ((slT (Enc.int .i64) q0 o168.1) :: F) 148 [(0, q0), (1, (.int .i64 s1.2.1)), (2, (.int .i64 s1.2.2.1)), (3, (.int .i64 o160.2)), (4, (.func (.func g4) fs4.toArray cs4.toArray)), (10, (.bool s1.2.2.2.2.1)), (11, (.bool s1.2.2.2.2.2)), (12, (.int .i64 (IntKind.i64.wrap (s1.2.2.1 - s1.2.1)))), (13, (.int .i64 o168.2.1)), (14, (.int .i64 o168.2.2))] a w)) ?_ ?_
            · refine W.seq ?_
              refine W.region ?_
              refine WL.q (R.move rfl) rfl ?_
              refine WL.q (R.eql rfl rfl) rfl ?_
              refine WL.nil ?_
              refine Go.then_ ?_
              by_cases h164 : o161.2 = 2
              · rw [if_pos h164] at hm
                refine W.cond_t rfl (decide_eq_true h164) ?_
                refine W.seq ?_
                refine W.region ?_
                refine WL.q (R.move rfl) rfl ?_
                refine WL.q (R.move rfl) rfl ?_
                refine WL.q (R.move rfl) rfl ?_
                refine WL.q (R.move rfl) rfl ?_
                obtain ⟨o165, h166, hm⟩ := of_bind hm
                refine WL.x ((R.call rfl en61 (slices_reverseRangeCmpFunc_impl_set_tr (F := F) q0 o160.1 s1.2.1 s1.2.2.1 g4 fs4 cs4 f4 en_4 hf4 h166)).weak (fun w hw => hw.reord [0] 1 rfl)) rfl fun x167 => ?_
                refine WL.nil ?_
                refine Go.then_ ?_
                refine W.seq ?_
                refine W.region ?_
                refine WL.q (R.move rfl) rfl ?_
                refine WL.q (R.sub rfl rfl) rfl ?_
                refine WL.q (R.move rfl) rfl ?_
                refine WL.q (R.move rfl) rfl ?_
                refine WL.q (R.sub rfl rfl) rfl ?_
                refine WL.q (R.sub rfl rfl) rfl ?_
                refine WL.q (R.assign rfl) rfl ?_
                refine WL.nil ?_
                refine Go.then_ ?_
                refine W.region ?_
                refine WL.q (R.assign rfl) rfl ?_
                refine WL.nil ?_
                have he := Option.some.inj hm
                clear hm
                subst o168
                exact fun a w s => And.intro rfl (Sat.mk (s.env.le ⟨rfl, rfl, rfl, rfl, rfl, rfl, rfl, rfl, rfl, rfl, trivial⟩) (s.mem))
              · rw [if_neg h164] at hm
                refine W.cond_f rfl (decide_eq_false h164) ?_
                refine W.skip ?_
                have he := Option.some.inj hm
                clear hm
                subst o168
                exact fun a w s => And.intro rfl (Sat.mk (s.env.le ⟨rfl, rfl, rfl, rfl, rfl, rfl, rfl, rfl, rfl, rfl, trivial⟩) (s.mem))
            · intro e a w hJ
              replace hm := hmo168
              clear hmo168
              obtain ⟨rfl, s⟩ := hJ
              refine Go.use s ?_
              refine Go.then_ ?_
              obtain ⟨o177, hm, hmo177⟩ := of_bind hm
              refine W.seq ?_
              refine W.join (fun e a w => (Sum.elim (fun o177 => And (e = .normal) (Sat G ((slT (Enc.int .i64) q0 o177) :: F) 148 [(0, q0), (1, (.int .i64 s1.2.1)), (2, (.int .i64 s1.2.2.1)), (3, (.int .i64 o160.2)), (4, (.func (.func g4) fs4.toArray cs4.toArray)), (10, (.bool s1.2.2.2.2.1)), (11, (.bool s1.2.2.2.2.2)), (12, (.int .i64 (IntKind.i64.wrap (s1.2.2.1 - s1.2.1)))), (13, (.int .i64 o168.2.1))] a w)) (fun o177 => And (e = .ret) (Sat G ((slT (Enc.int .i64) q0 o177) :: F) 148 [] a w))) o177) ?_ ?_
              · obtain ⟨o171, hm, hmo171⟩ := of_bind hm
                refine W.seq ?_
                refine W.join (fun e a w => And (e = .normal) (Sat G ((slT (Enc.int .i64) q0 o168.1) :: F) 148 [(0, q0), (1, (.int .i64 s1.2.1)), (2, (.int .i64 s1.2.2.1)), (3, (.int .i64 o160.2)), (4, (.func (.func g4) fs4.toArray cs4.toArray)), (10, (.bool s1.2.2.2.2.1)), (11, (.bool s1.2.2.2.2.2)), (12, (.int .i64 (IntKind.i64.wrap (s1.2.2.1 - s1.2.1)))), (13, (.int .i64 o168.2.1)), (75, (.bool o171))] a w)) ?_ ?_
                · refine W.region ?_
                  refine WL.q (R.move rfl) rfl ?_
                  refine WL.q (R.move rfl) rfl ?_
                  by_cases h169 : s1.2.2.2.2.1 = true
                  · rw [if_pos h169] at hm
                    refine WL.on rfl rfl h169 ?_
                    refine WL.q (R.move rfl) rfl ?_
                    refine WL.q (R.pick_t rfl h169 rfl) rfl ?_
                    refine WL.q (R.move rfl) rfl ?_
                    by_cases h170 : s1.2.2.2.2.2 = true
                    · rw [if_pos h170] at hm
                      refine WL.on rfl rfl h170 ?_
                      refine WL.q (R.move rfl) rfl ?_
                      refine WL.on rfl rfl h170 ?_
                      refine WL.q (R.eql rfl rfl) rfl ?_
                      refine WL.q (R.pick_t rfl h170 rfl) rfl ?_
                      refine WL.nil ?_
                      have he := Option.some.inj hm
                      clear hm
                      subst o171
                      exact fun a w s => And.intro rfl (Sat.mk (s.env.le ⟨rfl, rfl, rfl, rfl, rfl, rfl, rfl, rfl, rfl, rfl, trivial⟩) (s.mem))
                    · rw [if_neg h170] at hm
                      refine WL.off rfl rfl (b_f h170) rfl ?_
                      refine WL.off rfl rfl (b_f h170) rfl ?_
                      refine WL.q (R.pick_f rfl (b_f h170) rfl) rfl ?_
                      refine WL.nil ?_
                      have he := Option.some.inj hm
                      clear hm
                      subst o171
                      exact fun a w s => And.intro rfl (Sat.mk (s.env.le ⟨rfl, rfl, rfl, rfl, rfl, rfl, rfl, rfl, rfl, rfl, trivial⟩) (s.mem))
                  · rw [if_neg h169] at hm
                    refine WL.off rfl rfl (b_f h169) rfl ?_
                    refine WL.q (R.pick_f rfl (b_f h169) rfl) rfl ?_
                    refine WL.q (R.move rfl) rfl ?_
                    refine WL.off rfl rfl rfl rfl ?_
                    refine WL.off rfl rfl rfl rfl ?_
                    refine WL.q (R.pick_f rfl rfl rfl) rfl ?_
                    refine WL.nil ?_
                    have he := Option.some.inj hm
                    clear hm
                    subst o171
                    exact fun a w s => And.intro rfl (Sat.mk (s.env.le ⟨rfl, rfl, rfl, rfl, rfl, rfl, rfl, rfl, rfl, rfl, trivial⟩) (s.mem))
                · intro e a w hJ
                  replace hm := hmo171
                  clear hmo171
                  obtain ⟨rfl, s⟩ := hJ
                  refine Go.use s ?_
                  refine Go.then_ ?_
                  by_cases h172 : o171 = true
                  · rw [if_pos h172] at hm
                    refine W.cond_t rfl h172 ?_
                    refine W.seq ?_
                    refine W.region ?_
                    refine WL.q (R.move rfl) rfl ?_
                    refine WL.q (R.move rfl) rfl ?_
                    refine WL.q (R.move rfl) rfl ?_
                    refine WL.q (R.move rfl) rfl ?_
                    obtain ⟨o173, h174, hm⟩ := of_bind hm
                    refine WL.x ((R.call rfl en62 (slices_partialInsertionSortCmpFunc_impl_set_tr (F := F) q0 o168.1 s1.2.1 s1.2.2.1 g4 fs4 cs4 f4 en_4 hf4 h174)).weak (fun w hw => hw.reord [0] 1 rfl)) rfl fun x175 => ?_
                    refine WL.nil ?_
                    refine Go.then_ ?_
                    by_cases h176 : o173.1 = true
                    · rw [if_pos h176] at hm
                      refine W.cond_t rfl h176 ?_
                      refine W.ret ?_
                      have he := Option.some.inj hm
                      clear hm
                      subst o177
                      exact fun a w s => And.intro rfl (Sat.mk (s.env.le trivial) (s.mem))
                    · rw [if_neg h176] at hm
                      refine W.cond_f rfl (b_f h176) ?_
                      refine W.skip ?_
                      have he := Option.some.inj hm
                      clear hm
                      subst o177
                      exact fun a w s => And.intro rfl (Sat.mk (s.env.le ⟨rfl, rfl, rfl, rfl, rfl, rfl, rfl, rfl, rfl, trivial⟩) (s.mem))
                  · rw [if_neg h172] at hm
                    refine W.cond_f rfl (b_f h172) ?_
                    refine W.skip ?_
                    have he := Option.some.inj hm
                    clear hm
                    subst o177
                    exact fun a w s => And.intro rfl (Sat.mk (s.env.le ⟨rfl, rfl, rfl, rfl, rfl, rfl, rfl, rfl, rfl, trivial⟩) (s.mem))
              · intro e a w hJ
                replace hm := hmo177
                clear hmo177
                rcases o177 with o177 | o177
                · simp only [Sum.elim_inl, Sum.elim_inr] at hm
                  obtain ⟨rfl, s⟩ := hJ
                  refine Go.use s ?_
                  refine Go.then_ ?_
                  refine W.seq ?_
                  obtain ⟨o184, hm, hmo184⟩ := of_bind hm
                  refine W.seq ?_
                  refine W.join (fun e a w => And (e = .normal) (Sat G ((slT (Enc.int .i64) q0 o177) :: F) 148 [(0, q0), (1, (.int .i64 s1.2.1)), (2, (.int .i64 s1.2.2.1)), (3, (.int .i64 o160.2)), (4, (.func (.func g4) fs4.toArray cs4.toArray)), (10, (.bool s1.2.2.2.2.1)), (11, (.bool s1.2.2.2.2.2)), (12, (.int .i64 (IntKind.i64.wrap (s1.2.2.1 - s1.2.1)))), (13, (.int .i64 o168.2.1)), (97, (.bool o184))] a w)) ?_ ?_
                  · by_cases h178 : 0 < s1.2.1
                    · rw [if_pos h178] at hm
                      obtain ⟨h179, hm⟩ := of_guard hm
                      obtain ⟨h180, hm⟩ := of_guard hm
                      obtain ⟨o181, h182, hm⟩ := of_bind hm
                      refine W.join1 (fun a w => ∃ x183 : Unit, Sat G ((slT (Enc.int .i64) q0 o177) :: F) 148 [(0, q0), (1, (.int .i64 s1.2.1)), (2, (.int .i64 s1.2.2.1)), (3, (.int .i64 o160.2)), (4, (.func (.func g4) fs4.toArray cs4.toArray)), (10, (.bool s1.2.2.2.2.1)), (11, (.bool s1.2.2.2.2.2)), (12, (.int .i64 (IntKind.i64.wrap (s1.2.2.1 - s1.2.1)))), (13, (.int .i64 o168.2.1)), (84, (.func (.func g4) fs4.toArray cs4.toArray)), (85, q0), (86, (.int .i64 s1.2.1)), (87, (.int .i64 (IntKind.i64.wrap (s1.2.1 - 1)))), (89, (.int .i64 (gl o177 (IntKind.i64.wrap (s1.2.1 - 1))))), (90, q0), (91, (.int .i64 o168.2.1)), (93, (.int .i64 (gl o177 o168.2.1))), (94, (.int .i64 o181)), (95, (.bool (decide (o181 < 0)))), (96, (.bool (!(decide (o181 < 0))))), (97, (.bool (!(decide (o181 < 0)))))] a w) ?_ ?_
                      · refine W.draw (n := 17) ((slT (Enc.int .i64) q0 o177) :: F) F 17 (by kernel_rfl) rfl rfl (fun w hw => hw) (fun w hw => hw.drop 1) ?_
                        refine WK.x (i := 0) (by kernel_rfl) rfl (OpV.x (R.move rfl)) (fun _ w hw => hw) (fun _ _ _ w hw => hw.reord [] 1 rfl) rfl rfl (by kernel_rfl) fun _ => ?_
                        refine WK.x (i := 1) (by kernel_rfl) rfl (OpV.x (R.gtr rfl rfl)) (fun _ w hw => hw) (fun _ _ _ w hw => hw.reord [] 1 rfl) rfl rfl (by kernel_rfl) fun _ => ?_
                        refine WK.x (i := 2) (by kernel_rfl) rfl (OpV.x (R.move rfl)) (fun _ w hw => hw) (fun _ _ _ w hw => hw.reord [] 1 rfl) rfl rfl (by kernel_rfl) fun _ => ?_
                        refine WK.qg (i := 3) rfl rfl rfl (decide_eq_true h178) (by kernel_rfl) calm_n (R.move rfl) rfl rfl ?_
                        refine WK.qg (i := 4) rfl rfl rfl (decide_eq_true h178) (by kernel_rfl) calm_n (R.move rfl) rfl rfl ?_
                        refine WK.qg (i := 5) rfl rfl rfl (decide_eq_true h178) (by kernel_rfl) calm_n (R.move rfl) rfl rfl ?_
                        refine WK.qg (i := 6) rfl rfl rfl (decide_eq_true h178) (by kernel_rfl) calm_n (R.sub rfl rfl) rfl rfl ?_
                        refine WK.qg (i := 7) rfl rfl rfl (decide_eq_true h178) (by kernel_rfl) calm_n (R.idxT rfl rfl el40 (RdT.at 0 rfl) h179) rfl rfl ?_
                        refine WK.qg (i := 8) rfl rfl rfl (decide_eq_true h178) (by kernel_rfl) calm_n (R.load rfl (At.elT (RdT.at 0 rfl) (by decide) h179) (Lies.one _ ia50)) rfl rfl ?_
                        refine WK.qg (i := 9) rfl rfl rfl (decide_eq_true h178) (by kernel_rfl) calm_n (R.move rfl) rfl rfl ?_
                        refine WK.xg (i := 10) (by kernel_rfl) rfl rfl rfl (decide_eq_true h178) (OpV.x (R.move rfl)) (fun _ w hw => hw) (fun _ _ _ w hw => hw.reord [] 1 rfl) rfl rfl (by kernel_rfl) fun _ => ?_
                        refine WK.xg (i := 11) (by kernel_rfl) rfl rfl rfl (decide_eq_true h178) (OpV.x (R.idxT rfl rfl el40 (RdT.at 0 rfl) h180)) (fun _ w hw => hw) (fun _ _ _ w hw => hw.reord [] 1 rfl) rfl rfl (by kernel_rfl) fun _ => ?_
                        refine WK.xg (i := 12) (by kernel_rfl) rfl rfl rfl (decide_eq_true h178) (OpV.x (R.load rfl (At.elT (RdT.at 0 rfl) (by decide) h180) (Lies.one _ ia50))) (fun _ w hw => hw) (fun _ _ _ w hw => hw.reord [] 1 rfl) rfl rfl (by kernel_rfl) fun _ => ?_
                        refine WK.xg (i := 13) (by kernel_rfl) rfl rfl rfl (decide_eq_true h178) (R.callAny (fs := fs4) (cs := cs4) (vs := [(.int .i64 (gl o177 (IntKind.i64.wrap (s1.2.1 - 1)))), (.int .i64 (gl o177 o168.2.1))]) rfl rfl en_4 (hf4 [(slT (Enc.int .i64) q0 o177)] (gl o177 (IntKind.i64.wrap (s1.2.1 - 1))) (gl o177 o168.2.1) _ h182)) (fun _ w hw => hw) (fun _ _ _ w hw => hw.reord [] 1 rfl) rfl rfl (by kernel_rfl) fun x183 => ?_
                        refine WK.xg (i := 14) (by kernel_rfl) rfl rfl rfl (decide_eq_true h178) (OpV.x (R.lss rfl rfl)) (fun _ w hw => hw) (fun _ _ _ w hw => hw.reord [] 1 rfl) rfl rfl (by kernel_rfl) fun _ => ?_
                        refine WK.xg (i := 15) (by kernel_rfl) rfl rfl rfl (decide_eq_true h178) (OpV.x (R.not rfl)) (fun _ w hw => hw) (fun _ _ _ w hw => hw.reord [] 1 rfl) rfl rfl (by kernel_rfl) fun _ => ?_
                        refine WK.x (i := 16) (by kernel_rfl) rfl (OpV.x (R.pick_t rfl (decide_eq_true h178) rfl)) (fun _ w hw => hw) (fun _ _ _ w hw => hw.reord [] 1 rfl) rfl rfl (by kernel_rfl) fun _ => ?_
                        refine WK.nil (by kernel_rfl) ?_
                        exact fun a w s => And.intro rfl (Exists.intro x183 (Sat.mk (s.env.le ⟨rfl, rfl, rfl, rfl, rfl, rfl, rfl, rfl, rfl, rfl, rfl, rfl, rfl, rfl, rfl, rfl, rfl, rfl, rfl, rfl, rfl, trivial⟩) (s.mem)))
                      · refine Go2.ex fun x183 => ?_
                        refine Go2.sat ?_
                        have he := Option.some.inj hm
                        clear hm
                        subst o184
                        exact fun a w s => And.intro rfl (Sat.mk (s.env.le ⟨rfl, rfl, rfl, rfl, rfl, rfl, rfl, rfl, rfl, rfl, trivial⟩) (s.mem))
                    · rw [if_neg h178] at hm
                      refine W.join1 (fun a w => Sat G ((slT (Enc.int .i64) q0 o177) :: F) 148 [(0, q0), (1, (.int .i64 s1.2.1)), (2, (.int .i64 s1.2.2.1)), (3, (.int .i64 o160.2)), (4, (.func (.func g4) fs4.toArray cs4.toArray)), (10, (.bool s1.2.2.2.2.1)), (11, (.bool s1.2.2.2.2.2)), (12, (.int .i64 (IntKind.i64.wrap (s1.2.2.1 - s1.2.1)))), (13, (.int .i64 o168.2.1)), (97, (.bool false))] a w) ?_ ?_
                      · refine W.draw (n := 17) ((slT (Enc.int .i64) q0 o177) :: F) F 17 (by kernel_rfl) rfl rfl (fun w hw => hw) (fun w hw => hw.drop 1) ?_
                        refine WK.x (i := 0) (by kernel_rfl) rfl (OpV.x (R.move rfl)) (fun _ w hw => hw) (fun _ _ _ w hw => hw.reord [] 1 rfl) rfl rfl (by kernel_rfl) fun _ => ?_
                        refine WK.x (i := 1) (by kernel_rfl) rfl (OpV.x (R.gtr rfl rfl)) (fun _ w hw => hw) (fun _ _ _ w hw => hw.reord [] 1 rfl) rfl rfl (by kernel_rfl) fun _ => ?_
                        refine WK.x (i := 2) (by kernel_rfl) rfl (OpV.x (R.move rfl)) (fun _ w hw => hw) (fun _ _ _ w hw => hw.reord [] 1 rfl) rfl rfl (by kernel_rfl) fun _ => ?_
                        refine WK.qoff (i := 3) rfl rfl rfl (decide_eq_false h178) (by kernel_rfl) calm_n rfl rfl ?_
                        refine WK.qoff (i := 4) rfl rfl rfl (decide_eq_false h178) (by kernel_rfl) calm_n rfl rfl ?_
                        refine WK.qoff (i := 5) rfl rfl rfl (decide_eq_false h178) (by kernel_rfl) calm_n rfl rfl ?_
                        refine WK.qoff (i := 6) rfl rfl rfl (decide_eq_false h178) (by kernel_rfl) calm_n rfl rfl ?_
                        refine WK.qoff (i := 7) rfl rfl rfl (decide_eq_false h178) (by kernel_rfl) calm_n rfl rfl ?_
                        refine WK.qoff (i := 8) rfl rfl rfl (decide_eq_false h178) (by kernel_rfl) calm_n rfl rfl ?_
                        refine WK.qoff (i := 9) rfl rfl rfl (decide_eq_false h178) (by kernel_rfl) calm_n rfl rfl ?_
                        refine WK.qoff (i := 10) rfl rfl rfl (decide_eq_false h178) (by kernel_rfl) calm_n rfl rfl ?_
                        refine WK.qoff (i := 11) rfl rfl rfl (decide_eq_false h178) (by kernel_rfl) calm_n rfl rfl ?_
                        refine WK.qoff (i := 12) rfl rfl rfl (decide_eq_false h178) (by kernel_rfl) calm_n rfl rfl ?_
                        refine WK.qoff (i := 13) rfl rfl rfl (decide_eq_false h178) (by kernel_rfl) calm_n rfl rfl ?_
                        refine WK.qoff (i := 14) rfl rfl rfl (decide_eq_false h178) (by kernel_rfl) calm_n rfl rfl ?_
                        refine WK.qoff (i := 15) rfl rfl rfl (decide_eq_false h178) (by kernel_rfl) calm_n rfl rfl ?_
                        refine WK.x (i := 16) (by kernel_rfl) rfl (OpV.x (R.pick_f rfl (decide_eq_false h178) rfl)) (fun _ w hw => hw) (fun _ _ _ w hw => hw.reord [] 1 rfl) rfl rfl (by kernel_rfl) fun _ => ?_
                        refine WK.nil (by kernel_rfl) ?_
                        exact fun a w s => And.intro rfl (Sat.mk (s.env.le ⟨rfl, rfl, rfl, rfl, rfl, rfl, rfl, rfl, rfl, rfl, trivial⟩) (s.mem))
                      · refine Go2.sat ?_
                        have he := Option.some.inj hm
                        clear hm
                        subst o184
                        exact fun a w s => And.intro rfl (Sat.mk (s.env.le ⟨rfl, rfl, rfl, rfl, rfl, rfl, rfl, rfl, rfl, rfl, trivial⟩) (s.mem))
                  · intro e a w hJ
                    replace hm := hmo184
                    clear hmo184
                    obtain ⟨rfl, s⟩ := hJ
                    refine Go.use s ?_
                    refine Go.then_ ?_
                    by_cases h185 : o184 = true
                    · rw [if_pos h185] at hm
                      refine W.cond_t rfl h185 ?_
                      refine W.seq ?_
                      refine W.region ?_
                      refine WL.q (R.move rfl) rfl ?_
                      refine WL.q (R.move rfl) rfl ?_
                      refine WL.q (R.move rfl) rfl ?_
                      refine WL.q (R.move rfl) rfl ?_
                      refine WL.q (R.move rfl) rfl ?_
                      obtain ⟨o186, h187, hm⟩ := of_bind hm
                      refine WL.x ((R.call rfl en63 (slices_partitionEqualCmpFunc_impl_set_tr (F := F) q0 o177 s1.2.1 s1.2.2.1 o168.2.1 g4 fs4 cs4 f4 en_4 hf4 h187)).weak (fun w hw => hw.reord [0] 1 rfl)) rfl fun x188 => ?_
                      refine WL.q (R.assign rfl) rfl ?_
                      refine WL.nil ?_
                      refine Go.then_ ?_
                      refine W.seq ?_
                      refine W.region ?_
                      refine WL.q (R.move rfl) rfl ?_
                      refine WL.q (R.assign rfl) rfl ?_
                      refine WL.nil ?_
                      refine Go.then_ ?_
                      refine W.exit ?_
                      refine Go.x_then ?_
                      refine Go.x_block ?_
                      have he := Option.some.inj hm
                      clear hm
                      subst x
                      exact fun a w s => Exists.intro _ (And.intro rfl (Sat.mk (s.env.le ⟨rfl, rfl, rfl, rfl, rfl, rfl, rfl, trivial⟩) (s.mem)))
                    · rw [if_neg h185] at hm
                      refine W.cond_f rfl (b_f h185) ?_
                      refine W.skip ?_
                      refine Go.then_ ?_
                      refine W.seq ?_
                      refine W.region ?_
                      refine WL.q (R.move rfl) rfl ?_
                      refine WL.q (R.move rfl) rfl ?_
                      refine WL.q (R.move rfl) rfl ?_
                      refine WL.q (R.move rfl) rfl ?_
                      refine WL.q (R.move rfl) rfl ?_
                      obtain ⟨o189, h190, hm⟩ := of_bind hm
                      refine WL.x ((R.call rfl en64 (slices_partitionCmpFunc_impl_set_tr (F := F) q0 o177 s1.2.1 s1.2.2.1 o168.2.1 g4 fs4 cs4 f4 en_4 hf4 h190)).weak (fun w hw => hw.reord [0] 1 rfl)) rfl fun x191 => ?_
                      refine WL.q (R.move rfl) rfl ?_
                      refine WL.q (R.extract rfl rfl) rfl ?_
                      refine WL.q (R.extract rfl rfl) rfl ?_
                      refine WL.q (R.assign rfl) rfl ?_
                      refine WL.q (R.assign rfl) rfl ?_
                      refine WL.nil ?_
                      refine Go.then_ ?_
                      refine W.seq ?_
                      refine W.region ?_
                      refine WL.q (R.move rfl) rfl ?_
                      refine WL.q (R.assign rfl) rfl ?_
                      refine WL.nil ?_
                      refine Go.then_ ?_
                      refine W.seq ?_
                      refine W.region ?_
                      refine WL.q (R.move rfl) rfl ?_
                      refine WL.q (R.move rfl) rfl ?_
                      refine WL.q (R.sub rfl rfl) rfl ?_
                      refine WL.q (R.move rfl) rfl ?_
                      refine WL.q (R.move rfl) rfl ?_
                      refine WL.q (R.sub rfl rfl) rfl ?_
                      refine WL.q (R.assign rfl) rfl ?_
                      refine WL.q (R.assign rfl) rfl ?_
                      refine WL.nil ?_
                      refine Go.then_ ?_
                      refine W.seq ?_
                      refine W.region ?_
                      refine WL.q (R.move rfl) rfl ?_
                      refine WL.q (R.quo rfl rfl (by decide : (8 : Int) ≠ 0)) rfl ?_
                      refine WL.q (R.assign rfl) rfl ?_
                      refine WL.nil ?_
                      refine Go.then_ ?_
                      refine W.seq ?_
                      refine W.region ?_
                      refine WL.q (R.move rfl) rfl ?_
                      refine WL.q (R.move rfl) rfl ?_
                      refine WL.q (R.lss rfl rfl) rfl ?_
                      refine WL.nil ?_
                      refine Go.then_ ?_
                      by_cases h192 : IntKind.i64.wrap (o189.1 - s1.2.1) < IntKind.i64.wrap (s1.2.2.1 - o189.1)
                      · rw [if_pos h192] at hm
                        refine W.cond_t rfl (decide_eq_true h192) ?_
                        refine W.seq ?_
                        refine W.region ?_
                        refine WL.q (R.move rfl) rfl ?_
                        refine WL.q (R.move rfl) rfl ?_
                        refine WL.q (R.geq rfl rfl) rfl ?_
                        refine WL.q (R.assign rfl) rfl ?_
                        refine WL.nil ?_
                        refine Go.then_ ?_
                        refine W.seq ?_
                        refine W.region ?_
                        refine WL.q (R.move rfl) rfl ?_
                        refine WL.q (R.move rfl) rfl ?_
                        refine WL.q (R.move rfl) rfl ?_
                        refine WL.q (R.move rfl) rfl ?_
                        refine WL.q (R.move rfl) rfl ?_
                        obtain ⟨o193, h194, hm⟩ := of_bind hm
                        refine WL.x ((R.call rfl en49 (ih49 (F := F) q0 o189.2.2 s1.2.1 o189.1 o160.2 g4 fs4 cs4 f4 en_4 hf4 h194)).weak (fun w hw => hw.reord [0] 1 rfl)) rfl fun x195 => ?_
                        refine WL.nil ?_
                        refine Go.then_ ?_
                        refine W.region ?_
                        refine WL.q (R.move rfl) rfl ?_
                        refine WL.q (R.add rfl rfl) rfl ?_
                        refine WL.q (R.assign rfl) rfl ?_
                        refine WL.nil ?_
                        refine Go.n_block ?_
                        have he := Option.some.inj hm
                        clear hm
                        subst x
                        exact fun a w s => Exists.intro _ (And.intro rfl (Sat.mk (s.env.le ⟨rfl, rfl, rfl, rfl, rfl, rfl, rfl, trivial⟩) (s.mem)))
                      · rw [if_neg h192] at hm
                        refine W.cond_f rfl (decide_eq_false h192) ?_
                        refine W.seq ?_
                        refine W.region ?_
                        refine WL.q (R.move rfl) rfl ?_
                        refine WL.q (R.move rfl) rfl ?_
                        refine WL.q (R.geq rfl rfl) rfl ?_
                        refine WL.q (R.assign rfl) rfl ?_
                        refine WL.nil ?_
                        refine Go.then_ ?_
                        refine W.seq ?_
                        refine W.region ?_
                        refine WL.q (R.move rfl) rfl ?_
                        refine WL.q (R.move rfl) rfl ?_
                        refine WL.q (R.add rfl rfl) rfl ?_
                        refine WL.q (R.move rfl) rfl ?_
                        refine WL.q (R.move rfl) rfl ?_
                        refine WL.q (R.move rfl) rfl ?_
                        obtain ⟨o196, h197, hm⟩ := of_bind hm
                        refine WL.x ((R.call rfl en49 (ih49 (F := F) q0 o189.2.2 (IntKind.i64.wrap (o189.1 + 1)) s1.2.2.1 o160.2 g4 fs4 cs4 f4 en_4 hf4 h197)).weak (fun w hw => hw.reord [0] 1 rfl)) rfl fun x198 => ?_
                        refine WL.nil ?_
                        refine Go.then_ ?_
                        refine W.region ?_
                        refine WL.q (R.move rfl) rfl ?_
                        refine WL.q (R.assign rfl) rfl ?_
                        refine WL.nil ?_
                        refine Go.n_block ?_
                        have he := Option.some.inj hm
                        clear hm
                        subst x
                        exact fun a w s => Exists.intro _ (And.intro rfl (Sat.mk (s.env.le ⟨rfl, rfl, rfl, rfl, rfl, rfl, rfl, trivial⟩) (s.mem)))
                · simp only [Sum.elim_inl, Sum.elim_inr] at hm
                  obtain ⟨rfl, s⟩ := hJ
                  refine Go.use s ?_
                  refine Go.r_then ?_
                  refine Go.r_block ?_
                  have he := Option.some.inj hm
                  clear hm
                  subst x
                  exact fun a w s => Exists.intro _ (And.intro rfl (And.intro rfl (Sat.mk (s.env.le trivial) (s.mem))))
    · intro e a w hJ
      obtain ⟨rfl, s⟩ := hJ
      refine Go.use s ?_
      refine Go.r_block ?_
      have he := Option.some.inj hm
      clear hm
      subst r
      exact Go.ret0 (Or.inr rfl) rfl (fun w hw => ⟨_, rfl, _, ⟨(), rfl, rfl⟩, hw⟩)
theorem slices_pdqsortCmpFunc_impl_set_tr {G : World} {F : List Res} (q0 : Value) (p0 : (List Int)) (p1 : Int) (p2 : Int) (p3 : Int) (g4 : FuncId) (fs4 cs4 : List Value) (f4 : Int → Int → Option Int) (en_4 : Enters Try.prog g4) (hf4 : ∀ (L : List Res) (a0 : Int) (a1 : Int) (r : Int), f4 a0 a1 = some r → Tr Try.prog G g4 (fs4 ++ [(.int .i64 a0), (.int .i64 a1)] ++ cs4) (L ++ F) (fun u K => ∃ x : Unit, u = (.int .i64 r) ∧ K = L ++ F)) {r : (List Int)} (hm : slices_pdqsortCmpFunc_impl_set p0 p1 p2 p3 f4 = some r) : Tr Try.prog G 49 [q0, (.int .i64 p1), (.int .i64 p2), (.int .i64 p3), (.func (.func g4) fs4.toArray cs4.toArray)] ((slT (Enc.int .i64) q0 p0) :: F) (fun u K => ∃ x : Unit, u = (.tuple #[]) ∧ K = ((slT (Enc.int .i64) q0 r) :: F)) := slices_pdqsortCmpFunc_impl_set_n_tr  fuel q0 p0 p1 p2 p3 g4 fs4 cs4 f4 en_4 hf4 hm
set_option maxRecDepth 100000 in
theorem slices_SortFunc_impl_set_impl_set_tr {G : World} {F : List Res} (q0 : Value) (p0 : (List Int)) (g1 : FuncId) (fs1 cs1 : List Value) (f1 : Int → Int → Option Int) (en_1 : Enters Try.prog g1) (hf1 : ∀ (L : List Res) (a0 : Int) (a1 : Int) (r : Int), f1 a0 a1 = some r → Tr Try.prog G g1 (fs1 ++ [(.int .i64 a0), (.int .i64 a1)] ++ cs1) (L ++ F) (fun u K => ∃ x : Unit, u = (.int .i64 r) ∧ K = L ++ F)) {r : (List Int)} (hm : slices_SortFunc_impl_set_impl_set p0 f1 = some r) : Tr Try.prog G 44 [q0, (.func (.func g1) fs1.toArray cs1.toArray)] ((slT (Enc.int .i64) q0 p0) :: F) (fun u K => ∃ x : Unit, u = (.tuple #[]) ∧ K = ((slT (Enc.int .i64) q0 r) :: F)) := by
  unfold slices_SortFunc_impl_set_impl_set at hm
  refine Tr.body Try.func44 rfl Try.ntmps44 ?_
  refine W.seq ?_
  refine W.region ?_
  refine WL.q (R.move rfl) rfl ?_
  refine WL.q (R.lenT rfl el40 (RdT.at 0 rfl)) rfl ?_
  refine WL.q (R.assign rfl) rfl ?_
  refine WL.nil ?_
  refine Go.then_ ?_
  refine W.region ?_
  refine WL.q (R.move rfl) rfl ?_
  refine WL.q (R.move rfl) rfl ?_
  refine WL.q (R.move rfl) rfl ?_
  refine WL.q (R.conv rfl un74 us3) rfl ?_
  obtain ⟨o1, h2, hm⟩ := of_bind hm
  refine WL.x (R.call rfl en50 (bits_Len_tr (IntKind.u64.wrap (p0.length : Int)) h2)) rfl fun x3 => ?_
  refine WL.q (R.move rfl) rfl ?_
  obtain ⟨o4, h5, hm⟩ := of_bind hm
  refine WL.x ((R.call rfl en49 (slices_pdqsortCmpFunc_impl_set_tr (F := F) q0 p0 0 (p0.length : Int) o1 g1 fs1 cs1 f1 en_1 hf1 h5)).weak (fun w hw => hw.reord [0] 1 rfl)) rfl fun x6 => ?_
  refine WL.nil ?_
  have he := Option.some.inj hm
  clear hm
  subst r
  exact Go.ret0 (Or.inl rfl) rfl (fun w hw => ⟨_, rfl, _, ⟨(), rfl, rfl⟩, hw⟩)
set_option maxRecDepth 100000 in
theorem bits_OnesCount32_tr {G : World} {F : List Res} (p0 : Int) {r : Int} (hm : bits_OnesCount32 p0 = some r) : Tr Try.prog G 77 [(.int .u32 p0)] F (fun u K => ∃ x : Unit, u = (.int .i64 r) ∧ K = F) := by
  unfold bits_OnesCount32 at hm
  refine Tr.body Try.func77 rfl Try.ntmps77 ?_
  refine W.seq ?_
  refine W.region ?_
  refine WL.q (R.assign rfl) rfl ?_
  refine WL.nil ?_
  refine Go.then_ ?_
  refine W.seq ?_
  obtain ⟨h1, hm⟩ := of_guard hm
  obtain ⟨h2, hm⟩ := of_guard hm
  obtain ⟨h3, hm⟩ := of_guard hm
  obtain ⟨h4, hm⟩ := of_guard hm
  refine W.join1 (fun a w => Sat G F 21 [(2, (.int .i64 (IntKind.i64.wrap (IntKind.u8.wrap ((IntKind.u8.wrap ((IntKind.u8.wrap ((bt sc_1 (ishr .u32 p0 24)) + (bt sc_1 (iand .u32 (ishr .u32 p0 16) 255)))) + (bt sc_1 (iand .u32 (ishr .u32 p0 8) 255)))) + (bt sc_1 (iand .u32 p0 255)))))))] a w) ?_ ?_
  · refine W.draw (n := 19) F F 19 (by kernel_rfl) rfl rfl (fun w hw => hw) (fun w hw => hw.drop 0) ?_
    refine WK.q (i := 0) rfl rfl (by kernel_rfl) calm_n (R.move rfl) rfl rfl ?_
    refine WK.q (i := 1) rfl rfl (by kernel_rfl) calm_n (R.shr rfl rfl (by decide : (0 : Int) ≤ 24)) rfl rfl ?_
    refine WK.q (i := 2) rfl rfl (by kernel_rfl) calm_n (R.strIndex rfl rfl un9 h1.1 h1.2) rfl rfl ?_
    refine WK.q (i := 3) rfl rfl (by kernel_rfl) calm_n (R.move rfl) rfl rfl ?_
    refine WK.q (i := 4) rfl rfl (by kernel_rfl) calm_n (R.shr rfl rfl (by decide : (0 : Int) ≤ 16)) rfl rfl ?_
    refine WK.q (i := 5) rfl rfl (by kernel_rfl) calm_n (R.and rfl rfl) rfl rfl ?_
    refine WK.q (i := 6) rfl rfl (by kernel_rfl) calm_n (R.strIndex rfl rfl un9 h2.1 h2.2) rfl rfl ?_
    refine WK.q (i := 7) rfl rfl (by kernel_rfl) calm_n (R.add rfl rfl) rfl rfl ?_
    refine WK.q (i := 8) rfl rfl (by kernel_rfl) calm_n (R.move rfl) rfl rfl ?_
    refine WK.q (i := 9) rfl rfl (by kernel_rfl) calm_n (R.shr rfl rfl (by decide : (0 : Int) ≤ 8)) rfl rfl ?_
    refine WK.q (i := 10) rfl rfl (by kernel_rfl) calm_n (R.and rfl rfl) rfl rfl ?_
    refine WK.q (i := 11) rfl rfl (by kernel_rfl) calm_n (R.strIndex rfl rfl un9 h3.1 h3.2) rfl rfl ?_
    refine WK.q (i := 12) rfl rfl (by kernel_rfl) calm_n (R.add rfl rfl) rfl rfl ?_
    refine WK.x (i := 13) (by kernel_rfl) rfl (OpV.x (R.move rfl)) (fun _ w hw => hw) (fun _ _ _ w hw => hw) rfl rfl (by kernel_rfl) fun _ => ?_
    refine WK.x (i := 14) (by kernel_rfl) rfl (OpV.x (R.and rfl rfl)) (fun _ w hw => hw) (fun _ _ _ w hw => hw) rfl rfl (by kernel_rfl) fun _ => ?_
    refine WK.x (i := 15) (by kernel_rfl) rfl (OpV.x (R.strIndex rfl rfl un9 h4.1 h4.2)) (fun _ w hw => hw) (fun _ _ _ w hw => hw) rfl rfl (by kernel_rfl) fun _ => ?_
    refine WK.x (i := 16) (by kernel_rfl) rfl (OpV.x (R.add rfl rfl)) (fun _ w hw => hw) (fun _ _ _ w hw => hw) rfl rfl (by kernel_rfl) fun _ => ?_
    refine WK.x (i := 17) (by kernel_rfl) rfl (OpV.x (R.conv rfl un3 us5)) (fun _ w hw => hw) (fun _ _ _ w hw => hw) rfl rfl (by kernel_rfl) fun _ => ?_
    refine WK.x (i := 18) (by kernel_rfl) rfl (OpV.x (R.assign rfl)) (fun _ w hw => hw) (fun _ _ _ w hw => hw) rfl rfl (by kernel_rfl) fun _ => ?_
    refine WK.nil (by kernel_rfl) ?_
    exact fun a w s => And.intro rfl (Sat.mk (s.env.le ⟨rfl, trivial⟩) (s.mem))
  · refine Go2.sat ?_
    refine Go.then_ ?_
    refine W.ret ?_
    have he := Option.some.inj hm
    clear hm
    subst r
    exact Go.ret1 rfl (.tmp rfl) (fun w hw => ⟨_, rfl, _, ⟨(), rfl, rfl⟩, hw⟩)
set_option maxRecDepth 100000 in
theorem bits_OnesCount64_tr {G : World} {F : List Res} (p0 : Int) {r : Int} (hm : bits_OnesCount64 p0 = some r) : Tr Try.prog G 78 [(.int .u64 p0)] F (fun u K => ∃ x : Unit, u = (.int .i64 r) ∧ K = F) := by
  unfold bits_OnesCount64 at hm
  refine Tr.body Try.func78 rfl Try.ntmps78 ?_
  refine W.seq ?_
  refine W.region ?_
  refine WL.q (R.assign rfl) rfl ?_
  refine WL.nil ?_
  refine Go.then_ ?_
  refine W.seq ?_
  refine W.region ?_
  refine WL.q (R.move rfl) rfl ?_
  refine WL.q (R.shr rfl rfl (by decide : (0 : Int) ≤ 1)) rfl ?_
  refine WL.q (R.and rfl rfl) rfl ?_
  refine WL.q (R.move rfl) rfl ?_
  refine WL.q (R.and rfl rfl) rfl ?_
  refine WL.q (R.add rfl rfl) rfl ?_
  refine WL.q (R.assign rfl) rfl ?_
  refine WL.nil ?_
  refine Go.then_ ?_
  refine W.seq ?_
  refine W.region ?_
  refine WL.q (R.move rfl) rfl ?_
  refine WL.q (R.shr rfl rfl (by decide : (0 : Int) ≤ 2)) rfl ?_
  refine WL.q (R.and rfl rfl) rfl ?_
  refine WL.q (R.move rfl) rfl ?_
  refine WL.q (R.and rfl rfl) rfl ?_
  refine WL.q (R.add rfl rfl) rfl ?_
  refine WL.q (R.assign rfl) rfl ?_
  refine WL.nil ?_
  refine Go.then_ ?_
  refine W.seq ?_
  refine W.region ?_
  refine WL.q (R.move rfl) rfl ?_
  refine WL.q (R.shr rfl rfl (by decide : (0 : Int) ≤ 4)) rfl ?_
  refine WL.q (R.move rfl) rfl ?_
  refine WL.q (R.add rfl rfl) rfl ?_
  refine WL.q (R.and rfl rfl) rfl ?_
  refine WL.q (R.assign rfl) rfl ?_
  refine WL.nil ?_
  refine Go.then_ ?_
  refine W.seq ?_
  refine W.region ?_
  refine WL.q (R.move rfl) rfl ?_
  refine WL.q (R.move rfl) rfl ?_
  refine WL.q (R.shr rfl rfl (by decide : (0 : Int) ≤ 8)) rfl ?_
  refine WL.q (R.add rfl rfl) rfl ?_
  refine WL.q (R.assign rfl) rfl ?_
  refine WL.nil ?_
  refine Go.then_ ?_
  refine W.seq ?_
  refine W.region ?_
  refine WL.q (R.move rfl) rfl ?_
  refine WL.q (R.move rfl) rfl ?_
  refine WL.q (R.shr rfl rfl (by decide : (0 : Int) ≤ 16)) rfl ?_
  refine WL.q (R.add rfl rfl) rfl ?_
  refine WL.q (R.assign rfl) rfl ?_
  refine WL.nil ?_
  refine Go.then_ ?_
  refine W.seq ?_
  refine W.region ?_
  refine WL.q (R.move rfl) rfl ?_
  refine WL.q (R.move rfl) rfl ?_
  refine WL.q (R.shr rfl rfl (by decide : (0 : Int) ≤ 32)) rfl ?_
  refine WL.q (R.add rfl rfl) rfl ?_
  refine WL.q (R.assign rfl) rfl ?_
  refine WL.nil ?_
  refine Go.then_ ?_
  refine W.seq ?_
  refine W.region ?_
  refine WL.q (R.move rfl) rfl ?_
  refine WL.q (R.conv rfl un3 us92) rfl ?_
  refine WL.q (R.and rfl rfl) rfl ?_
  refine WL.q (R.assign rfl) rfl ?_
  refine WL.nil ?_
  refine Go.then_ ?_
  refine W.ret ?_
  have he := Option.some.inj hm
  clear hm
  subst r
  exact Go.ret1 rfl (.tmp rfl) (fun w hw => ⟨_, rfl, _, ⟨(), rfl, rfl⟩, hw⟩)
set_option maxRecDepth 100000 in
theorem bits_OnesCount_tr {G : World} {F : List Res} (p0 : Int) {r : Int} (hm : bits_OnesCount p0 = some r) : Tr Try.prog G 67 [(.int .u64 p0)] F (fun u K => ∃ x : Unit, u = (.int .i64 r) ∧ K = F) := by
  unfold bits_OnesCount at hm
  refine Tr.body Try.func67 rfl Try.ntmps67 ?_
  refine W.seq ?_
  refine W.region ?_
  refine WL.q (R.assign rfl) rfl ?_
  refine WL.nil ?_
  refine Go.then_ ?_
  refine W.seq ?_
  refine W.cond_f rfl rfl ?_
  refine W.skip ?_
  refine Go.then_ ?_
  refine W.seq ?_
  refine W.region ?_
  refine WL.q (R.move rfl) rfl ?_
  obtain ⟨o1, h2, hm⟩ := of_bind hm
  refine WL.x (R.call rfl en78 (bits_OnesCount64_tr p0 h2)) rfl fun x3 => ?_
  refine WL.q (R.assign rfl) rfl ?_
  refine WL.nil ?_
  refine Go.then_ ?_
  refine W.ret ?_
  have he := Option.some.inj hm
  clear hm
  subst r
  exact Go.ret1 rfl (.tmp rfl) (fun w hw => ⟨_, rfl, _, ⟨(), rfl, rfl⟩, hw⟩)
set_option maxRecDepth 100000 in
theorem impl_set_size_tr {G : World} {F : List Res} (p0 : Int) {r : Int} (hm : impl_set_size p0 = some r) : Tr Try.prog G 51 [(.int .i64 p0)] F (fun u K => ∃ x : Unit, u = (.int .i64 r) ∧ K = F) := by
  unfold impl_set_size at hm
  refine Tr.body Try.func51 rfl Try.ntmps51 ?_
  refine W.seq ?_
  refine W.region ?_
  refine WL.q (R.assign rfl) rfl ?_
  refine WL.nil ?_
  refine Go.then_ ?_
  refine W.seq ?_
  refine W.region ?_
  refine WL.q (R.move rfl) rfl ?_
  refine WL.q (R.conv rfl un74 us50) rfl ?_
  obtain ⟨o1, h2, hm⟩ := of_bind hm
  refine WL.x (R.call rfl en67 (bits_OnesCount_tr (IntKind.u64.wrap p0) h2)) rfl fun x3 => ?_
  refine WL.q (R.assign rfl) rfl ?_
  refine WL.nil ?_
  refine Go.then_ ?_
  refine W.ret ?_
  have he := Option.some.inj hm
  clear hm
  subst r
  exact Go.ret1 rfl (.tmp rfl) (fun w hw => ⟨_, rfl, _, ⟨(), rfl, rfl⟩, hw⟩)
set_option maxRecDepth 100000 in
theorem cmp_isNaN_int64_tr {G : World} {F : List Res} (p0 : Int) {r : Bool} (hm : cmp_isNaN_int64 p0 = some r) : Tr Try.prog G 79 [(.int .i64 p0)] F (fun u K => ∃ x : Unit, u = (.bool r) ∧ K = F) := by
  unfold cmp_isNaN_int64 at hm
  refine Tr.body Try.func79 rfl Try.ntmps79 ?_
  refine W.seq ?_
  refine W.region ?_
  refine WL.q (R.assign rfl) rfl ?_
  refine WL.nil ?_
  refine Go.then_ ?_
  refine W.seq ?_
  refine W.region ?_
  refine WL.q (R.move rfl) rfl ?_
  refine WL.q (R.move rfl) rfl ?_
  refine WL.q (R.neq rfl rfl) rfl ?_
  refine WL.q (R.assign rfl) rfl ?_
  refine WL.nil ?_
  refine Go.then_ ?_
  refine W.ret ?_
  have he := Option.some.inj hm
  clear hm
  subst r
  exact Go.ret1 rfl (.tmp rfl) (fun w hw => ⟨_, rfl, _, ⟨(), rfl, rfl⟩, hw⟩)
set_option maxRecDepth 100000 in
theorem cmp_Compare_int64_tr {G : World} {F : List Res} (p0 : Int) (p1 : Int) {r : Int} (hm : cmp_Compare_int64 p0 p1 = some r) : Tr Try.prog G 68 [(.int .i64 p0), (.int .i64 p1)] F (fun u K => ∃ x : Unit, u = (.int .i64 r) ∧ K = F) := by
  unfold cmp_Compare_int64 at hm
  refine Tr.body Try.func68 rfl Try.ntmps68 ?_
  refine W.seq ?_
  refine W.region ?_
  refine WL.q (R.assign rfl) rfl ?_
  refine WL.nil ?_
  refine Go.then_ ?_
  refine W.seq ?_
  refine W.region ?_
  refine WL.q (R.move rfl) rfl ?_
  obtain ⟨o1, h2, hm⟩ := of_bind hm
  refine WL.x (R.call rfl en79 (cmp_isNaN_int64_tr p0 h2)) rfl fun x3 => ?_
  refine WL.q (R.assign rfl) rfl ?_
  refine WL.nil ?_
  refine Go.then_ ?_
  refine W.seq ?_
  refine W.region ?_
  refine WL.q (R.move rfl) rfl ?_
  obtain ⟨o4, h5, hm⟩ := of_bind hm
  refine WL.x (R.call rfl en79 (cmp_isNaN_int64_tr p1 h5)) rfl fun x6 => ?_
  refine WL.q (R.assign rfl) rfl ?_
  refine WL.nil ?_
  refine Go.then_ ?_
  refine W.seq ?_
  refine W.seq ?_
  refine W.region ?_
  refine WL.q (R.move rfl) rfl ?_
  refine WL.nil ?_
  refine Go.then_ ?_
  by_cases h7 : o1 = true
  · rw [if_pos h7] at hm
    refine W.cond_t rfl h7 ?_
    refine W.seq ?_
    refine W.seq ?_
    refine W.region ?_
    refine WL.q (R.move rfl) rfl ?_
    refine WL.nil ?_
    refine Go.then_ ?_
    by_cases h8 : o4 = true
    · rw [if_pos h8] at hm
      refine W.cond_t rfl h8 ?_
      refine W.seq ?_
      refine W.region ?_
      refine WL.q (R.assign rfl) rfl ?_
      refine WL.nil ?_
      refine Go.then_ ?_
      refine W.ret ?_
      refine Go.r_then ?_
      refine Go.r_then ?_
      have he := Option.some.inj hm
      clear hm
      subst r
      exact Go.ret1 rfl (.tmp rfl) (fun w hw => ⟨_, rfl, _, ⟨(), rfl, rfl⟩, hw⟩)
    · rw [if_neg h8] at hm
      refine W.cond_f rfl (b_f h8) ?_
      refine W.skip ?_
      refine Go.then_ ?_
      refine W.seq ?_
      refine W.region ?_
      refine WL.q (R.assign rfl) rfl ?_
      refine WL.nil ?_
      refine Go.then_ ?_
      refine W.ret ?_
      refine Go.r_then ?_
      have he := Option.some.inj hm
      clear hm
      subst r
      exact Go.ret1 rfl (.tmp rfl) (fun w hw => ⟨_, rfl, _, ⟨(), rfl, rfl⟩, hw⟩)
  · rw [if_neg h7] at hm
    refine W.cond_f rfl (b_f h7) ?_
    refine W.skip ?_
    refine Go.then_ ?_
    refine W.seq ?_
    refine W.seq ?_
    refine W.region ?_
    refine WL.q (R.move rfl) rfl ?_
    refine WL.nil ?_
    refine Go.then_ ?_
    by_cases h9 : o4 = true
    · rw [if_pos h9] at hm
      refine W.cond_t rfl h9 ?_
      refine W.seq ?_
      refine W.region ?_
      refine WL.q (R.assign rfl) rfl ?_
      refine WL.nil ?_
      refine Go.then_ ?_
      refine W.ret ?_
      refine Go.r_then ?_
      have he := Option.some.inj hm
      clear hm
      subst r
      exact Go.ret1 rfl (.tmp rfl) (fun w hw => ⟨_, rfl, _, ⟨(), rfl, rfl⟩, hw⟩)
    · rw [if_neg h9] at hm
      refine W.cond_f rfl (b_f h9) ?_
      refine W.skip ?_
      refine Go.then_ ?_
      refine W.seq ?_
      refine W.seq ?_
      refine W.region ?_
      refine WL.q (R.move rfl) rfl ?_
      refine WL.q (R.move rfl) rfl ?_
      refine WL.q (R.lss rfl rfl) rfl ?_
      refine WL.nil ?_
      refine Go.then_ ?_
      by_cases h10 : p0 < p1
      · rw [if_pos h10] at hm
        refine W.cond_t rfl (decide_eq_true h10) ?_
        refine W.seq ?_
        refine W.region ?_
        refine WL.q (R.assign rfl) rfl ?_
        refine WL.nil ?_
        refine Go.then_ ?_
        refine W.ret ?_
        refine Go.r_then ?_
        have he := Option.some.inj hm
        clear hm
        subst r
        exact Go.ret1 rfl (.tmp rfl) (fun w hw => ⟨_, rfl, _, ⟨(), rfl, rfl⟩, hw⟩)
      · rw [if_neg h10] at hm
        refine W.cond_f rfl (decide_eq_false h10) ?_
        refine W.skip ?_
        refine Go.then_ ?_
        refine W.seq ?_
        refine W.seq ?_
        refine W.region ?_
        refine WL.q (R.move rfl) rfl ?_
        refine WL.q (R.move rfl) rfl ?_
        refine WL.q (R.gtr rfl rfl) rfl ?_
        refine WL.nil ?_
        refine Go.then_ ?_
        by_cases h11 : p1 < p0
        · rw [if_pos h11] at hm
          refine W.cond_t rfl (decide_eq_true h11) ?_
          refine W.seq ?_
          refine W.region ?_
          refine WL.q (R.assign rfl) rfl ?_
          refine WL.nil ?_
          refine Go.then_ ?_
          refine W.ret ?_
          refine Go.r_then ?_
          have he := Option.some.inj hm
          clear hm
          subst r
          exact Go.ret1 rfl (.tmp rfl) (fun w hw => ⟨_, rfl, _, ⟨(), rfl, rfl⟩, hw⟩)
        · rw [if_neg h11] at hm
          refine W.cond_f rfl (decide_eq_false h11) ?_
          refine W.skip ?_
          refine Go.then_ ?_
          refine W.seq ?_
          refine W.region ?_
          refine WL.q (R.assign rfl) rfl ?_
          refine WL.nil ?_
          refine Go.then_ ?_
          refine W.ret ?_
          have he := Option.some.inj hm
          clear hm
          subst r
          exact Go.ret1 rfl (.tmp rfl) (fun w hw => ⟨_, rfl, _, ⟨(), rfl, rfl⟩, hw⟩)
set_option maxRecDepth 100000 in
theorem slices_Compare_int64_int64_tr {G : World} {F : List Res} (q0 : Value) (p0 : (List Int)) (hp0 : RdT (Enc.int .i64) G F q0 p0) (q1 : Value) (p1 : (List Int)) (hp1 : RdT (Enc.int .i64) G F q1 p1) {r : Int} (hm : slices_Compare_int64_int64 p0 p1 = some r) : Tr Try.prog G 52 [q0, q1] F (fun u K => ∃ x : Unit, u = (.int .i64 r) ∧ K = F) := by
  unfold slices_Compare_int64_int64 at hm
  refine Tr.body Try.func52 rfl Try.ntmps52 ?_
  refine W.seq ?_
  refine W.region ?_
  refine WL.q (R.assign rfl) rfl ?_
  refine WL.nil ?_
  refine Go.then_ ?_
  refine W.seq ?_
  refine W.seq ?_
  refine W.region ?_
  refine WL.q (R.move rfl) rfl ?_
  refine WL.q (R.lenT rfl el43 (RdT.lift 0 rfl hp0)) rfl ?_
  refine WL.q (R.move rfl) rfl ?_
  refine WL.nil ?_
  refine Go.then_ ?_
  refine W.block ?_
  obtain ⟨o2, hlo2, hm⟩ := of_bind hm
  refine W.loopx (fun (s1 : Int) a w => Sat G F 36 [(0, q0), (1, q1), (4, (.int .i64 0)), (9, q0), (10, (.int .i64 (p0.length : Int))), (11, (.int .i64 s1))] a w) (fun (o2 : ((Unit) ⊕ (Int))) e a w => (Sum.elim (fun o2 => And (e = (.exit 0)) (Sat G F 36 [(0, q0), (1, q1), (4, (.int .i64 0))] a w)) (fun o2 => And (e = .ret) (Sat G F 36 [(4, (.int .i64 o2))] a w))) o2) hlo2 (fun a w s => (Sat.mk (s.env.le ⟨rfl, rfl, rfl, rfl, rfl, rfl, trivial⟩) (s.mem))) ?_ ?_
  · clear hm
    intro s1 x hm a w hJ
    have s := hJ
    unfold slices_Compare_int64_int64_L1 at hm
    refine W.use s ?_
    refine W.seq ?_
    refine W.region ?_
    refine WL.q (R.lss rfl rfl) rfl ?_
    refine WL.nil ?_
    refine Go.then_ ?_
    refine W.seq ?_
    by_cases h19 : s1 < (p0.length : Int)
    · rw [if_pos h19] at hm
      refine W.cond_t rfl (decide_eq_true h19) ?_
      refine W.skip ?_
      refine Go.then_ ?_
      refine W.seq ?_
      refine W.block ?_
      refine W.seq ?_
      refine W.region ?_
      refine WL.q (R.move rfl) rfl ?_
      obtain ⟨h20, hm⟩ := of_guard hm
      refine WL.q (R.idxT rfl rfl el43 (RdT.lift 0 rfl hp0) h20) rfl ?_
      refine WL.q (R.load rfl (At.elT (RdT.lift 0 rfl hp0) (by decide) h20) (Lies.one _ ia2)) rfl ?_
      refine WL.q (R.assign rfl) rfl ?_
      refine WL.q (R.assign rfl) rfl ?_
      refine WL.nil ?_
      refine Go.then_ ?_
      refine W.seq ?_
      refine W.seq ?_
      refine W.region ?_
      refine WL.q (R.move rfl) rfl ?_
      refine WL.q (R.move rfl) rfl ?_
      refine WL.q (R.lenT rfl el43 (RdT.lift 0 rfl hp1)) rfl ?_
      refine WL.q (R.geq rfl rfl) rfl ?_
      refine WL.nil ?_
      refine Go.then_ ?_
      by_cases h21 : (p1.length : Int) ≤ s1
      · rw [if_pos h21] at hm
        refine W.cond_t rfl (decide_eq_true h21) ?_
        refine W.seq ?_
        refine W.region ?_
        refine WL.q (R.assign rfl) rfl ?_
        refine WL.nil ?_
        refine Go.then_ ?_
        refine W.ret ?_
        refine Go.r_then ?_
        refine Go.r_block ?_
        refine Go.r_then ?_
        have he := Option.some.inj hm
        clear hm
        subst x
        exact fun a w s => Exists.intro _ (And.intro rfl (And.intro rfl (Sat.mk (s.env.le ⟨rfl, trivial⟩) (s.mem))))
      · rw [if_neg h21] at hm
        refine W.cond_f rfl (decide_eq_false h21) ?_
        refine W.skip ?_
        refine Go.then_ ?_
        refine W.seq ?_
        refine W.region ?_
        refine WL.q (R.move rfl) rfl ?_
        refine WL.q (R.move rfl) rfl ?_
        obtain ⟨h22, hm⟩ := of_guard hm
        refine WL.q (R.idxT rfl rfl el43 (RdT.lift 0 rfl hp1) h22) rfl ?_
        refine WL.q (R.load rfl (At.elT (RdT.lift 0 rfl hp1) (by decide) h22) (Lies.one _ ia2)) rfl ?_
        refine WL.q (R.assign rfl) rfl ?_
        refine WL.nil ?_
        refine Go.then_ ?_
        refine W.seq ?_
        refine W.region ?_
        refine WL.q (R.move rfl) rfl ?_
        refine WL.q (R.move rfl) rfl ?_
        obtain ⟨o23, h24, hm⟩ := of_bind hm
        refine WL.x (R.call rfl en68 (cmp_Compare_int64_tr (gl p0 s1) (gl p1 s1) h24)) rfl fun x25 => ?_
        refine WL.q (R.assign rfl) rfl ?_
        refine WL.nil ?_
        refine Go.then_ ?_
        refine W.seq ?_
        refine W.region ?_
        refine WL.q (R.move rfl) rfl ?_
        refine WL.q (R.neq rfl rfl) rfl ?_
        refine WL.nil ?_
        refine Go.then_ ?_
        by_cases h26 : o23 ≠ 0
        · rw [if_pos h26] at hm
          refine W.cond_t rfl (decide_eq_true h26) ?_
          refine W.seq ?_
          refine W.region ?_
          refine WL.q (R.move rfl) rfl ?_
          refine WL.q (R.assign rfl) rfl ?_
          refine WL.nil ?_
          refine Go.then_ ?_
          refine W.ret ?_
          refine Go.r_block ?_
          refine Go.r_then ?_
          have he := Option.some.inj hm
          clear hm
          subst x
          exact fun a w s => Exists.intro _ (And.intro rfl (And.intro rfl (Sat.mk (s.env.le ⟨rfl, trivial⟩) (s.mem))))
        · rw [if_neg h26] at hm
          refine W.cond_f rfl (decide_eq_false h26) ?_
          refine W.skip ?_
          refine Go.n_block ?_
          refine Go.then_ ?_
          refine W.region ?_
          refine WL.q (R.add rfl rfl) rfl ?_
          refine WL.q (R.move rfl) rfl ?_
          refine WL.nil ?_
          have he := Option.some.inj hm
          clear hm
          subst x
          exact fun a w s => Exists.intro _ (And.intro rfl (Sat.mk (s.env.le ⟨rfl, rfl, rfl, rfl, rfl, rfl, trivial⟩) (s.mem)))
    · rw [if_neg h19] at hm
      refine W.cond_f rfl (decide_eq_false h19) ?_
      refine W.exit ?_
      refine Go.x_then ?_
      have he := Option.some.inj hm
      clear hm
      subst x
      exact fun a w s => Exists.intro _ (And.intro rfl (And.intro rfl (Sat.mk (s.env.le ⟨rfl, rfl, rfl, trivial⟩) (s.mem))))
  · intro e a w hJ
    rcases o2 with o2 | o2
    · simp only [Sum.elim_inl, Sum.elim_inr] at hm
      obtain ⟨rfl, s⟩ := hJ
      refine Go.use s ?_
      refine Go.x_block ?_
      refine Go.then_ ?_
      refine W.seq ?_
      refine W.seq ?_
      refine W.region ?_
      refine WL.q (R.move rfl) rfl ?_
      refine WL.q (R.lenT rfl el43 (RdT.lift 0 rfl hp0)) rfl ?_
      refine WL.q (R.move rfl) rfl ?_
      refine WL.q (R.lenT rfl el43 (RdT.lift 0 rfl hp1)) rfl ?_
      refine WL.q (R.lss rfl rfl) rfl ?_
      refine WL.nil ?_
      refine Go.then_ ?_
      by_cases h27 : (p0.length : Int) < (p1.length : Int)
      · rw [if_pos h27] at hm
        refine W.cond_t rfl (decide_eq_true h27) ?_
        refine W.seq ?_
        refine W.region ?_
        refine WL.q (R.assign rfl) rfl ?_
        refine WL.nil ?_
        refine Go.then_ ?_
        refine W.ret ?_
        refine Go.r_then ?_
        have he := Option.some.inj hm
        clear hm
        subst r
        exact Go.ret1 rfl (.tmp rfl) (fun w hw => ⟨_, rfl, _, ⟨(), rfl, rfl⟩, hw⟩)
      · rw [if_neg h27] at hm
        refine W.cond_f rfl (decide_eq_false h27) ?_
        refine W.skip ?_
        refine Go.then_ ?_
        refine W.seq ?_
        refine W.region ?_
        refine WL.q (R.assign rfl) rfl ?_
        refine WL.nil ?_
        refine Go.then_ ?_
        refine W.ret ?_
        have he := Option.some.inj hm
        clear hm
        subst r
        exact Go.ret1 rfl (.tmp rfl) (fun w hw => ⟨_, rfl, _, ⟨(), rfl, rfl⟩, hw⟩)
    · simp only [Sum.elim_inl, Sum.elim_inr] at hm
      obtain ⟨rfl, s⟩ := hJ
      refine Go.use s ?_
      refine Go.r_block ?_
      refine Go.r_then ?_
      have he := Option.some.inj hm
      clear hm
      subst r
      exact Go.ret1 rfl (.tmp rfl) (fun w hw => ⟨_, rfl, _, ⟨(), rfl, rfl⟩, hw⟩)
set_option maxRecDepth 100000 in
theorem impl_compareSets_tr {G : World} {F : List Res} (p0 : Int) (p1 : Int) {r : Int} (hm : impl_compareSets p0 p1 = some r) : Tr Try.prog G 45 [(.int .i64 p0), (.int .i64 p1)] F (fun u K => ∃ x : Unit, u = (.int .i64 r) ∧ K = F) := by
  unfold impl_compareSets at hm
  refine Tr.body Try.func45 rfl Try.ntmps45 ?_
  refine W.seq ?_
  refine W.region ?_
  refine WL.q (R.assign rfl) rfl ?_
  refine WL.nil ?_
  refine Go.then_ ?_
  refine W.seq ?_
  refine W.seq ?_
  refine W.region ?_
  refine WL.q (R.move rfl) rfl ?_
  obtain ⟨o1, h2, hm⟩ := of_bind hm
  refine WL.x (R.call rfl en51 (impl_set_size_tr p0 h2)) rfl fun x3 => ?_
  refine WL.q (R.move rfl) rfl ?_
  obtain ⟨o4, h5, hm⟩ := of_bind hm
  refine WL.x (R.call rfl en51 (impl_set_size_tr p1 h5)) rfl fun x6 => ?_
  refine WL.q (R.neq rfl rfl) rfl ?_
  refine WL.nil ?_
  refine Go.then_ ?_
  by_cases h7 : o1 ≠ o4
  · rw [if_pos h7] at hm
    refine W.cond_t rfl (decide_eq_true h7) ?_
    refine W.seq ?_
    refine W.region ?_
    refine WL.q (R.move rfl) rfl ?_
    obtain ⟨o8, h9, hm⟩ := of_bind hm
    refine WL.x (R.call rfl en51 (impl_set_size_tr p0 h9)) rfl fun x10 => ?_
    refine WL.q (R.move rfl) rfl ?_
    obtain ⟨o11, h12, hm⟩ := of_bind hm
    refine WL.x (R.call rfl en51 (impl_set_size_tr p1 h12)) rfl fun x13 => ?_
    refine WL.q (R.sub rfl rfl) rfl ?_
    refine WL.q (R.assign rfl) rfl ?_
    refine WL.nil ?_
    refine Go.then_ ?_
    refine W.ret ?_
    refine Go.r_then ?_
    have he := Option.some.inj hm
    clear hm
    subst r
    exact Go.ret1 rfl (.tmp rfl) (fun w hw => ⟨_, rfl, _, ⟨(), rfl, rfl⟩, hw⟩)
  · rw [if_neg h7] at hm
    refine W.cond_f rfl (decide_eq_false h7) ?_
    refine W.skip ?_
    refine Go.then_ ?_
    refine W.seq ?_
    refine W.region ?_
    refine WL.q (R.move rfl) rfl ?_
    obtain ⟨o14, h15, hm⟩ := of_bind hm
    refine WL.x (R.call rfl en26 (impl_set_list_tr p0 h15)) rfl fun x16 => ?_
    refine WL.q (R.move rfl) rfl ?_
    obtain ⟨o17, h18, hm⟩ := of_bind hm
    refine WL.x (R.call rfl en26 (impl_set_list_tr p1 h18)) rfl fun x19 => ?_
    obtain ⟨o20, h21, hm⟩ := of_bind hm
    refine WL.x (R.call rfl en52 (slices_Compare_int64_int64_tr x16 o14 (RdT.at 1 rfl) x19 o17 (RdT.at 0 rfl) h21)) rfl fun x22 => ?_
    refine WL.q (R.assign rfl) rfl ?_
    refine WL.nil ?_
    refine Go.then_ ?_
    refine W.ret ?_
    have he := Option.some.inj hm
    clear hm
    subst r
    exact Go.ret1 rfl (.tmp rfl) (fun w hw => ⟨_, rfl, _, ⟨(), rfl, rfl⟩, hw.reord [] 2 rfl⟩)
set_option maxRecDepth 100000 in
theorem impl_Square_subloops_tr {G : World} {F : List Res} (p0 : S_Square) {r : (List Int)} (hm : impl_Square_subloops p0 = some r) : Tr Try.prog G 28 [(.agg (e_S_Square.cells p0).toArray)] F (fun u K => ∃ x : Value, u = x ∧ K = ((slT (Enc.int .i64) x r) :: F)) := by
  unfold impl_Square_subloops at hm
  refine Tr.body Try.func28 rfl Try.ntmps28 ?_
  refine W.seq ?_
  refine W.region ?_
  refine WL.x (R.box rfl (cells_agg _)) rfl fun b1 => ?_
  refine WL.q (R.assign rfl) rfl ?_
  refine WL.nil ?_
  refine Go.then_ ?_
  refine W.seq ?_
  refine W.region ?_
  refine WL.x (R.buildT ([] : List Int) el40 rfl rfl rfl rfl rfl (by decide) (by decide)) rfl fun v2 => ?_
  refine WL.q (R.assign rfl) rfl ?_
  refine WL.nil ?_
  refine Go.then_ ?_
  refine W.seq ?_
  refine W.seq ?_
  refine W.region ?_
  refine WL.q (R.assign rfl) rfl ?_
  refine WL.nil ?_
  refine Go.then_ ?_
  refine W.block ?_
  obtain ⟨o4, hlo4, hm⟩ := of_bind hm
  refine W.loopx (fun (s3 : ((List Int) × Int)) a w => ∃ v32 : Value, Sat G ((slT (Enc.int .i64) v32 s3.1) :: (bx b1 (e_S_Square.cells p0)) :: F) 22 [(1, (.pointer (some ⟨b1, 0, none⟩))), (2, (.slice none 0 0)), (3, v32), (4, (.int .i64 s3.2))] a w) (fun (o4 : (List Int)) e a w => And (e = (.exit 0)) (∃ v47 : Value, Sat G ((slT (Enc.int .i64) v47 o4) :: F) 22 [(2, (.slice none 0 0)), (3, v47)] a w)) hlo4 (fun a w s => (Exists.intro v2 (Sat.mk (s.env.le ⟨rfl, rfl, rfl, rfl, trivial⟩) (s.mem)))) ?_ ?_
  · clear hm
    intro s3 x hm a w hJ
    obtain ⟨v32, s⟩ := hJ
    unfold impl_Square_subloops_L1 at hm
    refine W.use s ?_
    refine W.seq ?_
    refine W.seq ?_
    refine W.region ?_
    refine WL.q (R.move rfl) rfl ?_
    refine WL.q (R.load rfl (At.bx 1 rfl (Sub.refl _)) (lies_agg e_S_Square p0 ia31 sz31)) rfl ?_
    obtain ⟨o33, h34, hm⟩ := of_bind hm
    refine WL.x (R.call rfl en42 (impl_Square_all_tr p0 h34)) rfl fun x35 => ?_
    refine WL.q (R.leq rfl rfl) rfl ?_
    refine WL.nil ?_
    refine Go.then_ ?_
    by_cases h36 : s3.2 ≤ o33
    · rw [if_pos h36] at hm
      refine W.cond_t rfl (decide_eq_true h36) ?_
      refine W.skip ?_
      refine Go.then_ ?_
      obtain ⟨o44, hm, hmo44⟩ := of_bind hm
      refine W.seq ?_
      refine W.join (fun e a w => And (e = .normal) (∃ v45 : Value, Sat G ((slT (Enc.int .i64) v45 o44) :: (bx b1 (e_S_Square.cells p0)) :: F) 22 [(1, (.pointer (some ⟨b1, 0, none⟩))), (2, (.slice none 0 0)), (3, v45), (4, (.int .i64 s3.2))] a w)) ?_ ?_
      · refine W.block ?_
        refine W.seq ?_
        refine W.region ?_
        refine WL.q (R.load rfl (At.bx 1 rfl (Sub.refl _)) (lies_agg e_S_Square p0 ia31 sz31)) rfl ?_
        refine WL.q (R.move rfl) rfl ?_
        obtain ⟨o37, h38, hm⟩ := of_bind hm
        refine WL.x (R.call rfl en43 (impl_Square_isSubloop_tr p0 s3.2 h38)) rfl fun x39 => ?_
        refine WL.nil ?_
        refine Go.then_ ?_
        by_cases h40 : o37 = true
        · rw [if_pos h40] at hm
          refine W.cond_t rfl h40 ?_
          refine W.region ?_
          refine WL.q (R.move rfl) rfl ?_
          refine WL.q (R.move rfl) rfl ?_
          refine WL.x (R.buildT ([s3.2]) el40 rfl rfl rfl rfl rfl (by decide) (by decide)) rfl fun v41 => ?_
          obtain ⟨h42, hm⟩ := of_guard hm
          refine WL.x (R.appendT 1 rfl rfl rfl el40 el40 (RdT.at 0 rfl) h42) rfl fun v43 => ?_
          refine WL.q (R.assign rfl) rfl ?_
          refine WL.nil ?_
          refine Go.n_block ?_
          have he := Option.some.inj hm
          clear hm
          subst o44
          exact fun a w s => And.intro rfl (Exists.intro v43 (Sat.mk (s.env.le ⟨rfl, rfl, rfl, rfl, trivial⟩) (s.mem.reord [1, 2] 3 rfl)))
        · rw [if_neg h40] at hm
          refine W.cond_f rfl (b_f h40) ?_
          refine W.skip ?_
          refine Go.n_block ?_
          have he := Option.some.inj hm
          clear hm
          subst o44
          exact fun a w s => And.intro rfl (Exists.intro v32 (Sat.mk (s.env.le ⟨rfl, rfl, rfl, rfl, trivial⟩) (s.mem)))
      · intro e a w hJ
        replace hm := hmo44
        clear hmo44
        obtain ⟨rfl, v45, s⟩ := hJ
        refine Go.use s ?_
        refine Go.then_ ?_
        refine W.region ?_
        refine WL.q (R.move rfl) rfl ?_
        refine WL.q (R.add rfl rfl) rfl ?_
        refine WL.q (R.assign rfl) rfl ?_
        refine WL.nil ?_
        have he := Option.some.inj hm
        clear hm
        subst x
        exact fun a w s => Exists.intro _ (And.intro rfl (Exists.intro v45 (Sat.mk (s.env.le ⟨rfl, rfl, rfl, rfl, trivial⟩) (s.mem))))
    · rw [if_neg h36] at hm
      refine W.cond_f rfl (decide_eq_false h36) ?_
      refine W.exit ?_
      refine Go.x_then ?_
      have he := Option.some.inj hm
      clear hm
      subst x
      exact fun a w s => Exists.intro _ (And.intro rfl (And.intro rfl (Exists.intro v32 (Sat.mk (s.env.le ⟨rfl, rfl, trivial⟩) (s.mem.reord [0] 2 rfl)))))
  · intro e a w hJ
    obtain ⟨rfl, v47, s⟩ := hJ
    refine Go.use s ?_
    refine Go.x_block ?_
    refine Go.then_ ?_
    refine W.seq ?_
    refine W.region ?_
    refine WL.q (R.move rfl) rfl ?_
    obtain ⟨o48, h49, hm⟩ := of_bind hm
    refine WL.x ((R.call rfl en44 (slices_SortFunc_impl_set_impl_set_tr (F := F) v47 o4 45 [] [] (fun a0 a1 => impl_compareSets a0 a1) en45 (fun L a0 a1 r h => impl_compareSets_tr (F := L ++ F) a0 a1 h) h49)).weak (fun w hw => hw.reord [0] 1 rfl)) rfl fun x50 => ?_
    refine WL.nil ?_
    refine Go.then_ ?_
    refine W.seq ?_
    refine W.region ?_
    refine WL.q (R.move rfl) rfl ?_
    refine WL.q (R.assign rfl) rfl ?_
    refine WL.nil ?_
    refine Go.then_ ?_
    refine W.ret ?_
    have he := Option.some.inj hm
    clear hm
    subst r
    exact Go.ret1 rfl (.tmp rfl) (fun w hw => ⟨_, rfl, _, ⟨v47, rfl, rfl⟩, hw⟩)
set_option maxRecDepth 100000 in
theorem impl_Square_mapped_tr {G : World} {F : List Res} (p0 : S_Square) (g1 : FuncId) (fs1 cs1 : List Value) (f1 : Int → Option Int) (en_1 : Enters Try.prog g1) (hf1 : ∀ (L : List Res) (a0 : Int) (r : Int), f1 a0 = some r → Tr Try.prog G g1 (fs1 ++ [(.int .u8 a0)] ++ cs1) (L ++ F) (fun u K => ∃ x : Unit, u = (.int .u8 r) ∧ K = L ++ F)) {r : (Vector Int 10)} (hm : impl_Square_mapped p0 f1 = some r) : Tr Try.prog G 80 [(.agg (e_S_Square.cells p0).toArray), (.func (.func g1) fs1.toArray cs1.toArray)] F (fun u K => ∃ x : Unit, u = (.agg (((Enc.int .u8).arr 10).cells r).toArray) ∧ K = F) := by
  unfold impl_Square_mapped at hm
  refine Tr.body Try.func80 rfl Try.ntmps80 ?_
  refine W.seq ?_
  refine W.region ?_
  refine WL.x (R.box rfl (cells_agg _)) rfl fun b1 => ?_
  refine WL.x (al70) rfl fun b2 => ?_
  refine WL.nil ?_
  refine Go.then_ ?_
  refine W.seq ?_
  refine W.region ?_
  refine WL.q (bz70 rfl) rfl ?_
  refine WL.x (al70) rfl fun b3 => ?_
  refine WL.x0 (R.store_bx (i := 0) rfl rfl rfl (fits_agg ((Enc.int .u8).arr 10) (Vector.replicate 10 0) sz70) (Up.all ((Enc.int .u8).arr 10) _ _)) fun _ => ?_
  refine WL.nil ?_
  refine Go.then_ ?_
  refine W.seq ?_
  refine W.seq ?_
  refine W.region ?_
  refine WL.q (R.load rfl (At.bx 2 rfl (Sub.refl _)) (lies_agg e_S_Square p0 ia31 sz31)) rfl ?_
  obtain ⟨o4, h5, hm⟩ := of_bind hm
  refine WL.x (R.call rfl en39 (impl_Square_elements_tr p0 h5)) rfl fun x6 => ?_
  refine WL.q (R.lenT rfl el62 (RdT.at 0 rfl)) rfl ?_
  refine WL.q (R.move rfl) rfl ?_
  refine WL.nil ?_
  refine Go.then_ ?_
  refine W.block ?_
  obtain ⟨o8, hlo8, hm⟩ := of_bind hm
  refine W.loopx (fun (s7 : ((Vector Int 10) × Int)) a w => Sat G ((slT (Enc.int .u8) x6 o4) :: (bx b3 (((Enc.int .u8).arr 10).cells s7.1)) :: (bx b2 (((Enc.int .u8).arr 10).cells (Vector.replicate 10 0))) :: F) 23 [(1, (.func (.func g1) fs1.toArray cs1.toArray)), (4, (.pointer (some ⟨b2, 0, none⟩))), (5, (.pointer (some ⟨b3, 0, none⟩))), (10, x6), (11, (.int .i64 (o4.length : Int))), (12, (.int .i64 s7.2))] a w) (fun (o8 : (Vector Int 10)) e a w => And (e = (.exit 0)) (Sat G ((bx b3 (((Enc.int .u8).arr 10).cells o8)) :: (bx b2 (((Enc.int .u8).arr 10).cells (Vector.replicate 10 0))) :: F) 23 [(4, (.pointer (some ⟨b2, 0, none⟩))), (5, (.pointer (some ⟨b3, 0, none⟩)))] a w)) hlo8 (fun a w s => (Sat.mk (s.env.le ⟨rfl, rfl, rfl, rfl, rfl, rfl, trivial⟩) (s.mem.reord [0, 1, 2] 4 rfl))) ?_ ?_
  · clear hm
    intro s7 x hm a w hJ
    have s := hJ
    unfold impl_Square_mapped_L1 at hm
    refine W.use s ?_
    refine W.seq ?_
    refine W.region ?_
    refine WL.q (R.lss rfl rfl) rfl ?_
    refine WL.nil ?_
    refine Go.then_ ?_
    refine W.seq ?_
    by_cases h21 : s7.2 < (o4.length : Int)
    · rw [if_pos h21] at hm
      refine W.cond_t rfl (decide_eq_true h21) ?_
      refine W.skip ?_
      refine Go.then_ ?_
      refine W.seq ?_
      refine W.block ?_
      refine W.seq ?_
      refine W.region ?_
      obtain ⟨h22, hm⟩ := of_guard hm
      refine WL.q (R.idxT rfl rfl el62 (RdT.at 0 rfl) h22) rfl ?_
      refine WL.q (R.load rfl (At.elT (RdT.at 0 rfl) (by decide) h22) (Lies.one _ ia5)) rfl ?_
      refine WL.q (R.assign rfl) rfl ?_
      refine WL.nil ?_
      refine Go.then_ ?_
      refine W.region ?_
      refine WL.q (R.move rfl) rfl ?_
      refine WL.q (R.move rfl) rfl ?_
      refine WL.q (R.move rfl) rfl ?_
      obtain ⟨o23, h24, hm⟩ := of_bind hm
      refine WL.x (R.callAny (fs := fs1) (cs := cs1) (vs := [(.int .u8 (gl o4 s7.2))]) rfl rfl en_1 (hf1 [(slT (Enc.int .u8) x6 o4), (bx b3 (((Enc.int .u8).arr 10).cells s7.1)), (bx b2 (((Enc.int .u8).arr 10).cells (Vector.replicate 10 0)))] (gl o4 s7.2) _ h24)) rfl fun x25 => ?_
      obtain ⟨h26, hm⟩ := of_guard hm
      refine WL.q (R.indexArr rfl rfl un70 sz5 h26.1 h26.2) rfl ?_
      refine WL.x0 (R.store_bx (i := 1) rfl rfl rfl (fits_int sz5) (Up.trans (Sub.refl _) (up_arr (Enc.int .u8) (v := s7.1) o23 h26.1 h26.2) (Up.all ((Enc.int .u8).arr 10) _ _))) fun _ => ?_
      refine WL.nil ?_
      refine Go.n_block ?_
      refine Go.then_ ?_
      refine W.region ?_
      refine WL.q (R.add rfl rfl) rfl ?_
      refine WL.q (R.move rfl) rfl ?_
      refine WL.nil ?_
      have he := Option.some.inj hm
      clear hm
      subst x
      exact fun a w s => Exists.intro _ (And.intro rfl (Sat.mk (s.env.le ⟨rfl, rfl, rfl, rfl, rfl, rfl, trivial⟩) (s.mem)))
    · rw [if_neg h21] at hm
      refine W.cond_f rfl (decide_eq_false h21) ?_
      refine W.exit ?_
      refine Go.x_then ?_
      have he := Option.some.inj hm
      clear hm
      subst x
      exact fun a w s => Exists.intro _ (And.intro rfl (And.intro rfl (Sat.mk (s.env.le ⟨rfl, rfl, trivial⟩) (s.mem.reord [1, 2] 3 rfl))))
  · intro e a w hJ
    obtain ⟨rfl, s⟩ := hJ
    refine Go.use s ?_
    refine Go.x_block ?_
    refine Go.then_ ?_
    refine W.seq ?_
    refine W.region ?_
    refine WL.q (R.load rfl (At.bx 0 rfl (Sub.refl _)) (lies_agg ((Enc.int .u8).arr 10) o8 ia70 sz70)) rfl ?_
    refine WL.x0 (R.store_bx (i := 1) rfl rfl rfl (fits_agg ((Enc.int .u8).arr 10) o8 sz70) (Up.all ((Enc.int .u8).arr 10) _ _)) fun _ => ?_
    refine WL.nil ?_
    refine Go.then_ ?_
    refine W.ret ?_
    have he := Option.some.inj hm
    clear hm
    subst r
    exact Go.ret1 rfl (.cell rfl (At.bx 1 rfl (Sub.refl _)) (lies_agg ((Enc.int .u8).arr 10) o8 ia70 sz70)) (fun w hw => ⟨_, rfl, _, ⟨(), rfl, rfl⟩, hw.reord [] 2 rfl⟩)
set_option maxRecDepth 100000 in
theorem impl_Square_turn_c1_tr {G : World} {F : List Res} (p0 : Int) (c1 : Nat) (p1 : S_Square) (hp1 : At G F (.pointer (some ⟨c1, 0, none⟩)) (e_S_Square.cells p1)) (c2 : Nat) (p2 : Int) (hp2 : At G F (.pointer (some ⟨c2, 0, none⟩)) ((Enc.int .u8).cells p2)) {r : Int} (hm : impl_Square_turn_c1 p0 p1 p2 = some r) : Tr Try.prog G 81 [(.int .u8 p0), (.pointer (some ⟨c1, 0, none⟩)), (.pointer (some ⟨c2, 0, none⟩))] F (fun u K => ∃ x : Unit, u = (.int .u8 r) ∧ K = F) := by
  unfold impl_Square_turn_c1 at hm
  refine Tr.body Try.func81 rfl Try.ntmps81 ?_
  refine W.seq ?_
  refine W.region ?_
  refine WL.q (R.assign rfl) rfl ?_
  refine WL.nil ?_
  refine Go.then_ ?_
  refine W.seq ?_
  obtain ⟨h1, hm⟩ := of_guard hm
  obtain ⟨h2, hm⟩ := of_guard hm
  obtain ⟨o3, h4, hm⟩ := of_bind hm
  refine W.join1 (fun a w => ∃ x5 : Unit, Sat G F 14 [(4, (.int .u8 o3))] a w) ?_ ?_
  · refine W.draw (n := 10) F F 10 (by kernel_rfl) rfl rfl (fun w hw => hw) (fun w hw => hw.drop 0) ?_
    refine WK.q (i := 0) rfl rfl (by kernel_rfl) calm_n (R.load rfl (At.lift 0 rfl hp1) (lies_agg e_S_Square p1 ia31 sz31)) rfl rfl ?_
    refine WK.q (i := 1) rfl rfl (by kernel_rfl) calm_n (R.load rfl (At.lift 0 rfl hp2) (Lies.one _ ia5)) rfl rfl ?_
    refine WK.q (i := 2) rfl rfl (by kernel_rfl) calm_n (R.move rfl) rfl rfl ?_
    refine WK.q (i := 3) rfl rfl (by kernel_rfl) calm_n (R.fieldAddr rfl fa31_1) rfl rfl ?_
    refine WK.q (i := 4) rfl rfl (by kernel_rfl) calm_n (R.indexArr rfl rfl un29 sz22 h1.1 h1.2) rfl rfl ?_
    refine WK.q (i := 5) rfl rfl (by kernel_rfl) calm_n (R.indexArr rfl rfl un22 sz5 h2.1 h2.2) rfl rfl ?_
    refine WK.q (i := 6) rfl rfl (by kernel_rfl) calm_n (R.load rfl (At.sub (At.sub (At.sub (At.lift 0 rfl hp1) (e_S_Square_s1 p1)) (sub_arr ((Enc.int .u8).arr 10) (v := p1.Table) h1.1 h1.2)) (sub_arr (Enc.int .u8) (v := gv p1.Table p2) h2.1 h2.2)) (Lies.one _ ia5)) rfl rfl ?_
    refine WK.x (i := 7) (by kernel_rfl) rfl (OpV.x (R.load rfl (At.lift 0 rfl hp2) (Lies.one _ ia5))) (fun _ w hw => hw) (fun _ _ _ w hw => hw) rfl rfl (by kernel_rfl) fun _ => ?_
    refine WK.x (i := 8) (by kernel_rfl) rfl (R.call rfl en56 (impl_Square_right_tr p1 (gv (gv p1.Table p2) p0) p2 h4)) (fun _ w hw => hw) (fun _ _ _ w hw => hw) rfl rfl (by kernel_rfl) fun x5 => ?_
    refine WK.x (i := 9) (by kernel_rfl) rfl (OpV.x (R.assign rfl)) (fun _ w hw => hw) (fun _ _ _ w hw => hw) rfl rfl (by kernel_rfl) fun _ => ?_
    refine WK.nil (by kernel_rfl) ?_
    exact fun a w s => And.intro rfl (Exists.intro x5 (Sat.mk (s.env.le ⟨rfl, trivial⟩) (s.mem)))
  · refine Go2.ex fun x5 => ?_
    refine Go2.sat ?_
    refine Go.then_ ?_
    refine W.ret ?_
    have he := Option.some.inj hm
    clear hm
    subst r
    exact Go.ret1 rfl (.tmp rfl) (fun w hw => ⟨_, rfl, _, ⟨(), rfl, rfl⟩, hw⟩)
set_option maxRecDepth 100000 in
theorem impl_Square_turn_tr {G : World} {F : List Res} (p0 : S_Square) (p1 : Int) {r : (Vector Int 10)} (hm : impl_Square_turn p0 p1 = some r) : Tr Try.prog G 69 [(.agg (e_S_Square.cells p0).toArray), (.int .u8 p1)] F (fun u K => ∃ x : Unit, u = (.agg (((Enc.int .u8).arr 10).cells r).toArray) ∧ K = F) := by
  unfold impl_Square_turn at hm
  refine Tr.body Try.func69 rfl Try.ntmps69 ?_
  refine W.seq ?_
  refine W.region ?_
  refine WL.x (R.box rfl (cells_agg _)) rfl fun b1 => ?_
  refine WL.x (R.box rfl rfl) rfl fun b2 => ?_
  refine WL.x (al70) rfl fun b3 => ?_
  refine WL.nil ?_
  refine Go.then_ ?_
  refine W.seq ?_
  refine W.region ?_
  refine WL.q (R.load rfl (At.bx 2 rfl (Sub.refl _)) (lies_agg e_S_Square p0 ia31 sz31)) rfl ?_
  refine WL.q (R.makeFunc (fs := []) (cs := [(.pointer (some ⟨b1, 0, none⟩)), (.pointer (some ⟨b2, 0, none⟩))]) rfl rfl) rfl ?_
  obtain ⟨o4, h5, hm⟩ := of_bind hm
  refine WL.x (R.call rfl en80 (impl_Square_mapped_tr p0 81 [] [(.pointer (some ⟨b1, 0, none⟩)), (.pointer (some ⟨b2, 0, none⟩))] (fun a0 => impl_Square_turn_c1 a0 p0 p1) en81 (fun L a0 r h => impl_Square_turn_c1_tr (F := L ++ ((bx b3 (((Enc.int .u8).arr 10).cells (Vector.replicate 10 0))) :: (bx b2 ((Enc.int .u8).cells p1)) :: (bx b1 (e_S_Square.cells p0)) :: F)) a0 b1 p0 (At.bx 2 rfl (Sub.refl _)).liftL b2 p1 (At.bx 1 rfl (Sub.refl _)).liftL h) h5)) rfl fun x6 => ?_
  refine WL.x0 (R.store_bx (i := 0) rfl rfl rfl (fits_agg ((Enc.int .u8).arr 10) o4 sz70) (Up.all ((Enc.int .u8).arr 10) _ _)) fun _ => ?_
  refine WL.nil ?_
  refine Go.then_ ?_
  refine W.ret ?_
  have he := Option.some.inj hm
  clear hm
  subst r
  exact Go.ret1 rfl (.cell rfl (At.bx 0 rfl (Sub.refl _)) (lies_agg ((Enc.int .u8).arr 10) o4 ia70 sz70)) (fun w hw => ⟨_, rfl, _, ⟨(), rfl, rfl⟩, hw.reord [] 3 rfl⟩)
set_option maxRecDepth 100000 in
theorem impl_Square_leftInner_c1_tr {G : World} {F : List Res} (p0 : Int) (c1 : Nat) (p1 : S_Square) (hp1 : At G F (.pointer (some ⟨c1, 0, none⟩)) (e_S_Square.cells p1)) (c2 : Nat) (p2 : Int) (hp2 : At G F (.pointer (some ⟨c2, 0, none⟩)) ((Enc.int .u8).cells p2)) (c3 : Nat) (p3 : Int) (hp3 : At G F (.pointer (some ⟨c3, 0, none⟩)) ((Enc.int .u8).cells p3)) {r : Int} (hm : impl_Square_leftInner_c1 p0 p1 p2 p3 = some r) : Tr Try.prog G 82 [(.int .u8 p0), (.pointer (some ⟨c1, 0, none⟩)), (.pointer (some ⟨c2, 0, none⟩)), (.pointer (some ⟨c3, 0, none⟩))] F (fun u K => ∃ x : Unit, u = (.int .u8 r) ∧ K = F) := by
  unfold impl_Square_leftInner_c1 at hm
  refine Tr.body Try.func82 rfl Try.ntmps82 ?_
  refine W.seq ?_
  refine W.region ?_
  refine WL.q (R.assign rfl) rfl ?_
  refine WL.nil ?_
  refine Go.then_ ?_
  refine W.seq ?_
  obtain ⟨h1, hm⟩ := of_guard hm
  obtain ⟨h2, hm⟩ := of_guard hm
  obtain ⟨h3, hm⟩ := of_guard hm
  obtain ⟨h4, hm⟩ := of_guard hm
  obtain ⟨o5, h6, hm⟩ := of_bind hm
  refine W.join1 (fun a w => ∃ x7 : Unit, Sat G F 25 [(5, (.int .u8 o5))] a w) ?_ ?_
  · refine W.draw (n := 20) F F 20 (by kernel_rfl) rfl rfl (fun w hw => hw) (fun w hw => hw.drop 0) ?_
    refine WK.q (i := 0) rfl rfl (by kernel_rfl) calm_n (R.load rfl (At.lift 0 rfl hp1) (lies_agg e_S_Square p1 ia31 sz31)) rfl rfl ?_
    refine WK.q (i := 1) rfl rfl (by kernel_rfl) calm_n (R.load rfl (At.lift 0 rfl hp2) (Lies.one _ ia5)) rfl rfl ?_
    refine WK.q (i := 2) rfl rfl (by kernel_rfl) calm_n (R.load rfl (At.lift 0 rfl hp3) (Lies.one _ ia5)) rfl rfl ?_
    refine WK.q (i := 3) rfl rfl (by kernel_rfl) calm_n (R.fieldAddr rfl fa31_1) rfl rfl ?_
    refine WK.q (i := 4) rfl rfl (by kernel_rfl) calm_n (R.indexArr rfl rfl un29 sz22 h1.1 h1.2) rfl rfl ?_
    refine WK.q (i := 5) rfl rfl (by kernel_rfl) calm_n (R.indexArr rfl rfl un22 sz5 h2.1 h2.2) rfl rfl ?_
    refine WK.q (i := 6) rfl rfl (by kernel_rfl) calm_n (R.load rfl (At.sub (At.sub (At.sub (At.lift 0 rfl hp1) (e_S_Square_s1 p1)) (sub_arr ((Enc.int .u8).arr 10) (v := p1.Table) h1.1 h1.2)) (sub_arr (Enc.int .u8) (v := gv p1.Table p2) h2.1 h2.2)) (Lies.one _ ia5)) rfl rfl ?_
    refine WK.q (i := 7) rfl rfl (by kernel_rfl) calm_n (R.load rfl (At.lift 0 rfl hp2) (Lies.one _ ia5)) rfl rfl ?_
    refine WK.q (i := 8) rfl rfl (by kernel_rfl) calm_n (R.load rfl (At.lift 0 rfl hp3) (Lies.one _ ia5)) rfl rfl ?_
    refine WK.q (i := 9) rfl rfl (by kernel_rfl) calm_n (R.move rfl) rfl rfl ?_
    refine WK.q (i := 10) rfl rfl (by kernel_rfl) calm_n (R.fieldAddr rfl fa31_1) rfl rfl ?_
    refine WK.q (i := 11) rfl rfl (by kernel_rfl) calm_n (R.indexArr rfl rfl un29 sz22 h2.1 h2.2) rfl rfl ?_
    refine WK.q (i := 12) rfl rfl (by kernel_rfl) calm_n (R.indexArr rfl rfl un22 sz5 h3.1 h3.2) rfl rfl ?_
    refine WK.q (i := 13) rfl rfl (by kernel_rfl) calm_n (R.load rfl (At.sub (At.sub (At.sub (At.lift 0 rfl hp1) (e_S_Square_s1 p1)) (sub_arr ((Enc.int .u8).arr 10) (v := p1.Table) h2.1 h2.2)) (sub_arr (Enc.int .u8) (v := gv p1.Table p3) h3.1 h3.2)) (Lies.one _ ia5)) rfl rfl ?_
    refine WK.x (i := 14) (by kernel_rfl) rfl (OpV.x (R.fieldAddr rfl fa31_1)) (fun _ w hw => hw) (fun _ _ _ w hw => hw) rfl rfl (by kernel_rfl) fun _ => ?_
    refine WK.x (i := 15) (by kernel_rfl) rfl (OpV.x (R.indexArr rfl rfl un29 sz22 h1.1 h1.2)) (fun _ w hw => hw) (fun _ _ _ w hw => hw) rfl rfl (by kernel_rfl) fun _ => ?_
    refine WK.x (i := 16) (by kernel_rfl) rfl (OpV.x (R.indexArr rfl rfl un22 sz5 h4.1 h4.2)) (fun _ w hw => hw) (fun _ _ _ w hw => hw) rfl rfl (by kernel_rfl) fun _ => ?_
    refine WK.x (i := 17) (by kernel_rfl) rfl (OpV.x (R.load rfl (At.sub (At.sub (At.sub (At.lift 0 rfl hp1) (e_S_Square_s1 p1)) (sub_arr ((Enc.int .u8).arr 10) (v := p1.Table) h1.1 h1.2)) (sub_arr (Enc.int .u8) (v := gv p1.Table p2) h4.1 h4.2)) (Lies.one _ ia5))) (fun _ w hw => hw) (fun _ _ _ w hw => hw) rfl rfl (by kernel_rfl) fun _ => ?_
    refine WK.x (i := 18) (by kernel_rfl) rfl (R.call rfl en55 (impl_Square_left_tr p1 (gv (gv p1.Table p2) p3) (gv (gv p1.Table p2) (gv (gv p1.Table p3) p0)) h6)) (fun _ w hw => hw) (fun _ _ _ w hw => hw) rfl rfl (by kernel_rfl) fun x7 => ?_
    refine WK.x (i := 19) (by kernel_rfl) rfl (OpV.x (R.assign rfl)) (fun _ w hw => hw) (fun _ _ _ w hw => hw) rfl rfl (by kernel_rfl) fun _ => ?_
    refine WK.nil (by kernel_rfl) ?_
    exact fun a w s => And.intro rfl (Exists.intro x7 (Sat.mk (s.env.le ⟨rfl, trivial⟩) (s.mem)))
  · refine Go2.ex fun x7 => ?_
    refine Go2.sat ?_
    refine Go.then_ ?_
    refine W.ret ?_
    have he := Option.some.inj hm
    clear hm
    subst r
    exact Go.ret1 rfl (.tmp rfl) (fun w hw => ⟨_, rfl, _, ⟨(), rfl, rfl⟩, hw⟩)
set_option maxRecDepth 100000 in
theorem impl_Square_leftInner_tr {G : World} {F : List Res} (p0 : S_Square) (p1 : Int) (p2 : Int) {r : (Vector Int 10)} (hm : impl_Square_leftInner p0 p1 p2 = some r) : Tr Try.prog G 70 [(.agg (e_S_Square.cells p0).toArray), (.int .u8 p1), (.int .u8 p2)] F (fun u K => ∃ x : Unit, u = (.agg (((Enc.int .u8).arr 10).cells r).toArray) ∧ K = F) := by
  unfold impl_Square_leftInner at hm
  refine Tr.body Try.func70 rfl Try.ntmps70 ?_
  refine W.seq ?_
  refine W.region ?_
  refine WL.x (R.box rfl (cells_agg _)) rfl fun b1 => ?_
  refine WL.x (R.box rfl rfl) rfl fun b2 => ?_
  refine WL.x (R.box rfl rfl) rfl fun b3 => ?_
  refine WL.x (al70) rfl fun b4 => ?_
  refine WL.nil ?_
  refine Go.then_ ?_
  refine W.seq ?_
  refine W.region ?_
  refine WL.q (R.load rfl (At.bx 3 rfl (Sub.refl _)) (lies_agg e_S_Square p0 ia31 sz31)) rfl ?_
  refine WL.q (R.makeFunc (fs := []) (cs := [(.pointer (some ⟨b1, 0, none⟩)), (.pointer (some ⟨b3, 0, none⟩)), (.pointer (some ⟨b2, 0, none⟩))]) rfl rfl) rfl ?_
  obtain ⟨o5, h6, hm⟩ := of_bind hm
  refine WL.x (R.call rfl en80 (impl_Square_mapped_tr p0 82 [] [(.pointer (some ⟨b1, 0, none⟩)), (.pointer (some ⟨b3, 0, none⟩)), (.pointer (some ⟨b2, 0, none⟩))] (fun a0 => impl_Square_leftInner_c1 a0 p0 p2 p1) en82 (fun L a0 r h => impl_Square_leftInner_c1_tr (F := L ++ ((bx b4 (((Enc.int .u8).arr 10).cells (Vector.replicate 10 0))) :: (bx b3 ((Enc.int .u8).cells p2)) :: (bx b2 ((Enc.int .u8).cells p1)) :: (bx b1 (e_S_Square.cells p0)) :: F)) a0 b1 p0 (At.bx 3 rfl (Sub.refl _)).liftL b3 p2 (At.bx 1 rfl (Sub.refl _)).liftL b2 p1 (At.bx 2 rfl (Sub.refl _)).liftL h) h6)) rfl fun x7 => ?_
  refine WL.x0 (R.store_bx (i := 0) rfl rfl rfl (fits_agg ((Enc.int .u8).arr 10) o5 sz70) (Up.all ((Enc.int .u8).arr 10) _ _)) fun _ => ?_
  refine WL.nil ?_
  refine Go.then_ ?_
  refine W.ret ?_
  have he := Option.some.inj hm
  clear hm
  subst r
  exact Go.ret1 rfl (.cell rfl (At.bx 0 rfl (Sub.refl _)) (lies_agg ((Enc.int .u8).arr 10) o5 ia70 sz70)) (fun w hw => ⟨_, rfl, _, ⟨(), rfl, rfl⟩, hw.reord [] 4 rfl⟩)
set_option maxRecDepth 100000 in
theorem impl_Square_rightInner_c1_tr {G : World} {F : List Res} (p0 : Int) (c1 : Nat) (p1 : S_Square) (hp1 : At G F (.pointer (some ⟨c1, 0, none⟩)) (e_S_Square.cells p1)) (c2 : Nat) (p2 : Int) (hp2 : At G F (.pointer (some ⟨c2, 0, none⟩)) ((Enc.int .u8).cells p2)) (c3 : Nat) (p3 : Int) (hp3 : At G F (.pointer (some ⟨c3, 0, none⟩)) ((Enc.int .u8).cells p3)) {r : Int} (hm : impl_Square_rightInner_c1 p0 p1 p2 p3 = some r) : Tr Try.prog G 83 [(.int .u8 p0), (.pointer (some ⟨c1, 0, none⟩)), (.pointer (some ⟨c2, 0, none⟩)), (.pointer (some ⟨c3, 0, none⟩))] F (fun u K => ∃ x : Unit, u = (.int .u8 r) ∧ K = F) := by
  unfold impl_Square_rightInner_c1 at hm
  refine Tr.body Try.func83 rfl Try.ntmps83 ?_
  refine W.seq ?_
  refine W.region ?_
  refine WL.q (R.assign rfl) rfl ?_
  refine WL.nil ?_
  refine Go.then_ ?_
  refine W.seq ?_
  obtain ⟨h1, hm⟩ := of_guard hm
  obtain ⟨h2, hm⟩ := of_guard hm
  obtain ⟨h3, hm⟩ := of_guard hm
  obtain ⟨h4, hm⟩ := of_guard hm
  obtain ⟨o5, h6, hm⟩ := of_bind hm
  refine W.join1 (fun a w => ∃ x7 : Unit, Sat G F 25 [(5, (.int .u8 o5))] a w) ?_ ?_
  · refine W.draw (n := 20) F F 20 (by kernel_rfl) rfl rfl (fun w hw => hw) (fun w hw => hw.drop 0) ?_
    refine WK.q (i := 0) rfl rfl (by kernel_rfl) calm_n (R.load rfl (At.lift 0 rfl hp1) (lies_agg e_S_Square p1 ia31 sz31)) rfl rfl ?_
    refine WK.q (i := 1) rfl rfl (by kernel_rfl) calm_n (R.move rfl) rfl rfl ?_
    refine WK.q (i := 2) rfl rfl (by kernel_rfl) calm_n (R.load rfl (At.lift 0 rfl hp2) (Lies.one _ ia5)) rfl rfl ?_
    refine WK.q (i := 3) rfl rfl (by kernel_rfl) calm_n (R.fieldAddr rfl fa31_1) rfl rfl ?_
    refine WK.q (i := 4) rfl rfl (by kernel_rfl) calm_n (R.indexArr rfl rfl un29 sz22 h1.1 h1.2) rfl rfl ?_
    refine WK.q (i := 5) rfl rfl (by kernel_rfl) calm_n (R.indexArr rfl rfl un22 sz5 h2.1 h2.2) rfl rfl ?_
    refine WK.q (i := 6) rfl rfl (by kernel_rfl) calm_n (R.load rfl (At.sub (At.sub (At.sub (At.lift 0 rfl hp1) (e_S_Square_s1 p1)) (sub_arr ((Enc.int .u8).arr 10) (v := p1.Table) h1.1 h1.2)) (sub_arr (Enc.int .u8) (v := gv p1.Table p0) h2.1 h2.2)) (Lies.one _ ia5)) rfl rfl ?_
    refine WK.q (i := 7) rfl rfl (by kernel_rfl) calm_n (R.load rfl (At.lift 0 rfl hp3) (Lies.one _ ia5)) rfl rfl ?_
    refine WK.q (i := 8) rfl rfl (by kernel_rfl) calm_n (R.fieldAddr rfl fa31_1) rfl rfl ?_
    refine WK.q (i := 9) rfl rfl (by kernel_rfl) calm_n (R.indexArr rfl rfl un29 sz22 h3.1 h3.2) rfl rfl ?_
    refine WK.q (i := 10) rfl rfl (by kernel_rfl) calm_n (R.indexArr rfl rfl un22 sz5 h4.1 h4.2) rfl rfl ?_
    refine WK.q (i := 11) rfl rfl (by kernel_rfl) calm_n (R.load rfl (At.sub (At.sub (At.sub (At.lift 0 rfl hp1) (e_S_Square_s1 p1)) (sub_arr ((Enc.int .u8).arr 10) (v := p1.Table) h3.1 h3.2)) (sub_arr (Enc.int .u8) (v := gv p1.Table (gv (gv p1.Table p0) p2)) h4.1 h4.2)) (Lies.one _ ia5)) rfl rfl ?_
    refine WK.q (i := 12) rfl rfl (by kernel_rfl) calm_n (R.load rfl (At.lift 0 rfl hp2) (Lies.one _ ia5)) rfl rfl ?_
    refine WK.q (i := 13) rfl rfl (by kernel_rfl) calm_n (R.load rfl (At.lift 0 rfl hp3) (Lies.one _ ia5)) rfl rfl ?_
    refine WK.x (i := 14) (by kernel_rfl) rfl (OpV.x (R.fieldAddr rfl fa31_1)) (fun _ w hw => hw) (fun _ _ _ w hw => hw) rfl rfl (by kernel_rfl) fun _ => ?_
    refine WK.x (i := 15) (by kernel_rfl) rfl (OpV.x (R.indexArr rfl rfl un29 sz22 h2.1 h2.2)) (fun _ w hw => hw) (fun _ _ _ w hw => hw) rfl rfl (by kernel_rfl) fun _ => ?_
    refine WK.x (i := 16) (by kernel_rfl) rfl (OpV.x (R.indexArr rfl rfl un22 sz5 h4.1 h4.2)) (fun _ w hw => hw) (fun _ _ _ w hw => hw) rfl rfl (by kernel_rfl) fun _ => ?_
    refine WK.x (i := 17) (by kernel_rfl) rfl (OpV.x (R.load rfl (At.sub (At.sub (At.sub (At.lift 0 rfl hp1) (e_S_Square_s1 p1)) (sub_arr ((Enc.int .u8).arr 10) (v := p1.Table) h2.1 h2.2)) (sub_arr (Enc.int .u8) (v := gv p1.Table p2) h4.1 h4.2)) (Lies.one _ ia5))) (fun _ w hw => hw) (fun _ _ _ w hw => hw) rfl rfl (by kernel_rfl) fun _ => ?_
    refine WK.x (i := 18) (by kernel_rfl) rfl (R.call rfl en56 (impl_Square_right_tr p1 (gv (gv p1.Table (gv (gv p1.Table p0) p2)) p3) (gv (gv p1.Table p2) p3) h6)) (fun _ w hw => hw) (fun _ _ _ w hw => hw) rfl rfl (by kernel_rfl) fun x7 => ?_
    refine WK.x (i := 19) (by kernel_rfl) rfl (OpV.x (R.assign rfl)) (fun _ w hw => hw) (fun _ _ _ w hw => hw) rfl rfl (by kernel_rfl) fun _ => ?_
    refine WK.nil (by kernel_rfl) ?_
    exact fun a w s => And.intro rfl (Exists.intro x7 (Sat.mk (s.env.le ⟨rfl, trivial⟩) (s.mem)))
  · refine Go2.ex fun x7 => ?_
    refine Go2.sat ?_
    refine Go.then_ ?_
    refine W.ret ?_
    have he := Option.some.inj hm
    clear hm
    subst r
    exact Go.ret1 rfl (.tmp rfl) (fun w hw => ⟨_, rfl, _, ⟨(), rfl, rfl⟩, hw⟩)
set_option maxRecDepth 100000 in
theorem impl_Square_rightInner_tr {G : World} {F : List Res} (p0 : S_Square) (p1 : Int) (p2 : Int) {r : (Vector Int 10)} (hm : impl_Square_rightInner p0 p1 p2 = some r) : Tr Try.prog G 71 [(.agg (e_S_Square.cells p0).toArray), (.int .u8 p1), (.int .u8 p2)] F (fun u K => ∃ x : Unit, u = (.agg (((Enc.int .u8).arr 10).cells r).toArray) ∧ K = F) := by
  unfold impl_Square_rightInner at hm
  refine Tr.body Try.func71 rfl Try.ntmps71 ?_
  refine W.seq ?_
  refine W.region ?_
  refine WL.x (R.box rfl (cells_agg _)) rfl fun b1 => ?_
  refine WL.x (R.box rfl rfl) rfl fun b2 => ?_
  refine WL.x (R.box rfl rfl) rfl fun b3 => ?_
  refine WL.x (al70) rfl fun b4 => ?_
  refine WL.nil ?_
  refine Go.then_ ?_
  refine W.seq ?_
  refine W.region ?_
  refine WL.q (R.load rfl (At.bx 3 rfl (Sub.refl _)) (lies_agg e_S_Square p0 ia31 sz31)) rfl ?_
  refine WL.q (R.makeFunc (fs := []) (cs := [(.pointer (some ⟨b1, 0, none⟩)), (.pointer (some ⟨b2, 0, none⟩)), (.pointer (some ⟨b3, 0, none⟩))]) rfl rfl) rfl ?_
  obtain ⟨o5, h6, hm⟩ := of_bind hm
  refine WL.x (R.call rfl en80 (impl_Square_mapped_tr p0 83 [] [(.pointer (some ⟨b1, 0, none⟩)), (.pointer (some ⟨b2, 0, none⟩)), (.pointer (some ⟨b3, 0, none⟩))] (fun a0 => impl_Square_rightInner_c1 a0 p0 p1 p2) en83 (fun L a0 r h => impl_Square_rightInner_c1_tr (F := L ++ ((bx b4 (((Enc.int .u8).arr 10).cells (Vector.replicate 10 0))) :: (bx b3 ((Enc.int .u8).cells p2)) :: (bx b2 ((Enc.int .u8).cells p1)) :: (bx b1 (e_S_Square.cells p0)) :: F)) a0 b1 p0 (At.bx 3 rfl (Sub.refl _)).liftL b2 p1 (At.bx 2 rfl (Sub.refl _)).liftL b3 p2 (At.bx 1 rfl (Sub.refl _)).liftL h) h6)) rfl fun x7 => ?_
  refine WL.x0 (R.store_bx (i := 0) rfl rfl rfl (fits_agg ((Enc.int .u8).arr 10) o5 sz70) (Up.all ((Enc.int .u8).arr 10) _ _)) fun _ => ?_
  refine WL.nil ?_
  refine Go.then_ ?_
  refine W.ret ?_
  have he := Option.some.inj hm
  clear hm
  subst r
  exact Go.ret1 rfl (.cell rfl (At.bx 0 rfl (Sub.refl _)) (lies_agg ((Enc.int .u8).arr 10) o5 ia70 sz70)) (fun w hw => ⟨_, rfl, _, ⟨(), rfl, rfl⟩, hw.reord [] 4 rfl⟩)
set_option maxRecDepth 100000 in
theorem impl_Square_inner_tr {G : World} {F : List Res} (p0 : S_Square) {r : (List (Vector Int 10))} (hm : impl_Square_inner p0 = some r) : Tr Try.prog G 53 [(.agg (e_S_Square.cells p0).toArray)] F (fun u K => ∃ x : Value, u = x ∧ K = ((slT ((Enc.int .u8).arr 10) x r) :: F)) := by
  unfold impl_Square_inner at hm
  refine Tr.body Try.func53 rfl Try.ntmps53 ?_
  refine W.seq ?_
  refine W.region ?_
  refine WL.x (R.box rfl (cells_agg _)) rfl fun b1 => ?_
  refine WL.q (R.assign rfl) rfl ?_
  refine WL.nil ?_
  refine Go.then_ ?_
  refine W.seq ?_
  refine W.region ?_
  refine WL.x (R.buildT ([] : List (Vector Int 10)) el77 rfl rfl rfl rfl rfl (by decide) (by decide)) rfl fun v2 => ?_
  refine WL.q (R.assign rfl) rfl ?_
  refine WL.nil ?_
  refine Go.then_ ?_
  refine W.seq ?_
  refine W.seq ?_
  refine W.region ?_
  refine WL.q (R.load rfl (At.bx 1 rfl (Sub.refl _)) (lies_agg e_S_Square p0 ia31 sz31)) rfl ?_
  obtain ⟨o3, h4, hm⟩ := of_bind hm
  refine WL.x (R.call rfl en39 (impl_Square_elements_tr p0 h4)) rfl fun x5 => ?_
  refine WL.q (R.lenT rfl el62 (RdT.at 0 rfl)) rfl ?_
  refine WL.q (R.move rfl) rfl ?_
  refine WL.nil ?_
  refine Go.then_ ?_
  refine W.block ?_
  obtain ⟨o7, hlo7, hm⟩ := of_bind hm
  refine W.loopx (fun (s6 : ((List (Vector Int 10)) × Int)) a w => ∃ v109 : Value, Sat G ((slT ((Enc.int .u8).arr 10) v109 s6.1) :: (slT (Enc.int .u8) x5 o3) :: (bx b1 (e_S_Square.cells p0)) :: F) 43 [(1, (.pointer (some ⟨b1, 0, none⟩))), (2, (.slice none 0 0)), (3, v109), (10, x5), (11, (.int .i64 (o3.length : Int))), (12, (.int .i64 s6.2))] a w) (fun (o7 : (List (Vector Int 10))) e a w => And (e = (.exit 0)) (∃ v161 : Value, Sat G ((slT ((Enc.int .u8).arr 10) v161 o7) :: F) 43 [(2, (.slice none 0 0)), (3, v161)] a w)) hlo7 (fun a w s => (Exists.intro v2 (Sat.mk (s.env.le ⟨rfl, rfl, rfl, rfl, rfl, rfl, trivial⟩) (s.mem.reord [1, 0, 2] 3 rfl)))) ?_ ?_
  · clear hm
    intro s6 x hm a w hJ
    obtain ⟨v109, s⟩ := hJ
    unfold impl_Square_inner_L1 at hm
    refine W.use s ?_
    refine W.seq ?_
    refine W.region ?_
    refine WL.q (R.lss rfl rfl) rfl ?_
    refine WL.nil ?_
    refine Go.then_ ?_
    refine W.seq ?_
    by_cases h110 : s6.2 < (o3.length : Int)
    · rw [if_pos h110] at hm
      refine W.cond_t rfl (decide_eq_true h110) ?_
      refine W.skip ?_
      refine Go.then_ ?_
      refine W.seq ?_
      refine W.block ?_
      refine W.seq ?_
      refine W.region ?_
      obtain ⟨h111, hm⟩ := of_guard hm
      refine WL.q (R.idxT rfl rfl el62 (RdT.at 1 rfl) h111) rfl ?_
      refine WL.q (R.load rfl (At.elT (RdT.at 1 rfl) (by decide) h111) (Lies.one _ ia5)) rfl ?_
      refine WL.q (R.assign rfl) rfl ?_
      refine WL.nil ?_
      refine Go.then_ ?_
      refine W.seq ?_
      refine W.region ?_
      refine WL.q (R.move rfl) rfl ?_
      refine WL.q (R.load rfl (At.bx 2 rfl (Sub.refl _)) (lies_agg e_S_Square p0 ia31 sz31)) rfl ?_
      refine WL.q (R.move rfl) rfl ?_
      obtain ⟨o112, h113, hm⟩ := of_bind hm
      refine WL.x (R.call rfl en69 (impl_Square_turn_tr p0 (gl o3 s6.2) h113)) rfl fun x114 => ?_
      refine WL.x (R.buildT ([o112]) el77 rfl rfl rfl rfl (by simp [cells_agg]) (by decide) (by decide)) rfl fun v115 => ?_
      obtain ⟨h116, hm⟩ := of_guard hm
      refine WL.x (R.appendT 1 rfl rfl rfl el77 el77 (RdT.at 0 rfl) h116) rfl fun v117 => ?_
      refine WL.q (R.assign rfl) rfl ?_
      refine WL.nil ?_
      refine Go.then_ ?_
      refine W.seq ?_
      refine W.region ?_
      refine WL.q (R.load rfl (At.bx 3 rfl (Sub.refl _)) (lies_agg e_S_Square p0 ia31 sz31)) rfl ?_
      obtain ⟨o118, h119, hm⟩ := of_bind hm
      refine WL.x (R.call rfl en39 (impl_Square_elements_tr p0 h119)) rfl fun x120 => ?_
      refine WL.q (R.lenT rfl el62 (RdT.at 0 rfl)) rfl ?_
      refine WL.q (R.move rfl) rfl ?_
      refine WL.nil ?_
      refine Go.then_ ?_
      refine W.block ?_
      obtain ⟨o122, hlo122, hm⟩ := of_bind hm
      refine W.loopx (fun (s121 : ((List (Vector Int 10)) × Int)) a w => ∃ v146 : Value, Sat G ((slT ((Enc.int .u8).arr 10) v146 s121.1) :: (slT (Enc.int .u8) x120 o118) :: (slT (Enc.int .u8) x5 o3) :: (bx b1 (e_S_Square.cells p0)) :: F) 43 [(1, (.pointer (some ⟨b1, 0, none⟩))), (2, (.slice none 0 0)), (3, v146), (5, (.int .u8 (gl o3 s6.2))), (10, x5), (11, (.int .i64 (o3.length : Int))), (12, (.int .i64 s6.2)), (23, x120), (24, (.int .i64 (o118.length : Int))), (25, (.int .i64 s121.2))] a w) (fun (o122 : (List (Vector Int 10))) e a w => And (e = (.exit 2)) (∃ v159 : Value, Sat G ((slT ((Enc.int .u8).arr 10) v159 o122) :: (slT (Enc.int .u8) x5 o3) :: (bx b1 (e_S_Square.cells p0)) :: F) 43 [(1, (.pointer (some ⟨b1, 0, none⟩))), (2, (.slice none 0 0)), (3, v159), (10, x5), (11, (.int .i64 (o3.length : Int))), (12, (.int .i64 s6.2))] a w)) hlo122 (fun a w s => (Exists.intro v117 (Sat.mk (s.env.le ⟨rfl, rfl, rfl, rfl, rfl, rfl, rfl, rfl, rfl, rfl, trivial⟩) (s.mem.reord [2, 0, 3, 4] 5 rfl)))) ?_ ?_
      · clear hm
        intro s121 x hm a w hJ
        obtain ⟨v146, s⟩ := hJ
        unfold impl_Square_inner_L2 at hm
        refine W.use s ?_
        refine W.seq ?_
        refine W.region ?_
        refine WL.q (R.lss rfl rfl) rfl ?_
        refine WL.nil ?_
        refine Go.then_ ?_
        refine W.seq ?_
        by_cases h147 : s121.2 < (o118.length : Int)
        · rw [if_pos h147] at hm
          refine W.cond_t rfl (decide_eq_true h147) ?_
          refine W.skip ?_
          refine Go.then_ ?_
          refine W.seq ?_
          refine W.block ?_
          refine W.seq ?_
          refine W.region ?_
          obtain ⟨h148, hm⟩ := of_guard hm
          refine WL.q (R.idxT rfl rfl el62 (RdT.at 1 rfl) h148) rfl ?_
          refine WL.q (R.load rfl (At.elT (RdT.at 1 rfl) (by decide) h148) (Lies.one _ ia5)) rfl ?_
          refine WL.q (R.assign rfl) rfl ?_
          refine WL.nil ?_
          refine Go.then_ ?_
          obtain ⟨o149, h150, hm⟩ := of_bind hm
          obtain ⟨o152, h153, hm⟩ := of_bind hm
          obtain ⟨h156, hm⟩ := of_guard hm
          refine W.join1 (fun a w => ∃ x151 : Unit, ∃ x154 : Unit, ∃ v155 : Value, ∃ v157 : Value, Sat G ((slT ((Enc.int .u8).arr 10) v155 ([o149, o152])) :: (slT ((Enc.int .u8).arr 10) v157 (s121.1 ++ ([o149, o152]))) :: (slT (Enc.int .u8) x120 o118) :: (slT (Enc.int .u8) x5 o3) :: (bx b1 (e_S_Square.cells p0)) :: F) 43 [(1, (.pointer (some ⟨b1, 0, none⟩))), (2, (.slice none 0 0)), (3, v157), (5, (.int .u8 (gl o3 s6.2))), (10, x5), (11, (.int .i64 (o3.length : Int))), (12, (.int .i64 s6.2)), (23, x120), (24, (.int .i64 (o118.length : Int))), (25, (.int .i64 s121.2))] a w) ?_ ?_
          · refine W.draw (n := 12) ((slT (Enc.int .u8) x120 o118) :: (slT (Enc.int .u8) x5 o3) :: (bx b1 (e_S_Square.cells p0)) :: F) F 12 (by kernel_rfl) rfl rfl (fun w hw => hw.reord [1, 2, 3] 4 rfl) (fun w hw => hw.drop 4) ?_
            refine WK.q (i := 0) rfl rfl (by kernel_rfl) calm_n (R.move rfl) rfl rfl ?_
            refine WK.q (i := 1) rfl rfl (by kernel_rfl) calm_n (R.load rfl (At.bx 2 rfl (Sub.refl _)) (lies_agg e_S_Square p0 ia31 sz31)) rfl rfl ?_
            refine WK.q (i := 2) rfl rfl (by kernel_rfl) calm_n (R.move rfl) rfl rfl ?_
            refine WK.q (i := 3) rfl rfl (by kernel_rfl) calm_n (R.move rfl) rfl rfl ?_
            refine WK.q (i := 5) rfl rfl (by kernel_rfl) calm_n (R.load rfl (At.bx 2 rfl (Sub.refl _)) (lies_agg e_S_Square p0 ia31 sz31)) rfl rfl ?_
            refine WK.q (i := 6) rfl rfl (by kernel_rfl) calm_n (R.move rfl) rfl rfl ?_
            refine WK.q (i := 7) rfl rfl (by kernel_rfl) calm_n (R.move rfl) rfl rfl ?_
            refine WK.x (i := 4) (by kernel_rfl) rfl (R.call rfl en70 (impl_Square_leftInner_tr p0 (gl o3 s6.2) (gl o118 s121.2) h150)) (fun _ w hw => hw.reord [1, 2, 3] 4 rfl) (fun _ _ _ w hw => hw.reord [] 4 rfl) rfl rfl (by kernel_rfl) fun x151 => ?_
            refine WK.x (i := 8) (by kernel_rfl) rfl (R.call rfl en71 (impl_Square_rightInner_tr p0 (gl o3 s6.2) (gl o118 s121.2) h153)) (fun _ w hw => hw.reord [1, 2, 3] 4 rfl) (fun _ _ _ w hw => hw.reord [] 4 rfl) rfl rfl (by kernel_rfl) fun x154 => ?_
            refine WK.x (i := 9) (by kernel_rfl) rfl (R.buildT ([o149, o152]) el77 rfl rfl rfl rfl (by simp [cells_agg]) (by decide) (by decide)) (fun _ w hw => hw.reord [2, 3, 4] 5 rfl) (fun _ _ _ w hw => hw.reord [] 5 rfl) rfl rfl (by kernel_rfl) fun v155 => ?_
            refine WK.x (i := 10) (by kernel_rfl) rfl (R.appendT 1 rfl rfl rfl el77 el77 (RdT.at 0 rfl) h156) (fun _ w hw => hw.reord [2, 3, 4] 5 rfl) (fun _ _ _ w hw => hw.reord [] 5 rfl) rfl rfl (by kernel_rfl) fun v157 => ?_
            refine WK.x (i := 11) (by kernel_rfl) rfl (OpV.x (R.assign rfl)) (fun _ w hw => hw.reord [2, 3, 4] 5 rfl) (fun _ _ _ w hw => hw.reord [] 5 rfl) rfl rfl (by kernel_rfl) fun _ => ?_
            refine WK.nil (by kernel_rfl) ?_
            exact fun a w s => And.intro rfl (Exists.intro x151 (Exists.intro x154 (Exists.intro v155 (Exists.intro v157 (Sat.mk (s.env.le ⟨rfl, rfl, rfl, rfl, rfl, rfl, rfl, rfl, rfl, rfl, trivial⟩) (s.mem))))))
          · refine Go2.ex fun x151 => ?_
            refine Go2.ex fun x154 => ?_
            refine Go2.ex fun v155 => ?_
            refine Go2.ex fun v157 => ?_
            refine Go2.sat ?_
            refine Go.n_block ?_
            refine Go.then_ ?_
            refine W.region ?_
            refine WL.q (R.add rfl rfl) rfl ?_
            refine WL.q (R.move rfl) rfl ?_
            refine WL.nil ?_
            have he := Option.some.inj hm
            clear hm
            subst x
            exact fun a w s => Exists.intro _ (And.intro rfl (Exists.intro v157 (Sat.mk (s.env.le ⟨rfl, rfl, rfl, rfl, rfl, rfl, rfl, rfl, rfl, rfl, trivial⟩) (s.mem.reord [1, 2, 3, 4] 5 rfl))))
        · rw [if_neg h147] at hm
          refine W.cond_f rfl (decide_eq_false h147) ?_
          refine W.exit ?_
          refine Go.x_then ?_
          have he := Option.some.inj hm
          clear hm
          subst x
          exact fun a w s => Exists.intro _ (And.intro rfl (And.intro rfl (Exists.intro v146 (Sat.mk (s.env.le ⟨rfl, rfl, rfl, rfl, rfl, rfl, trivial⟩) (s.mem.reord [0, 2, 3] 4 rfl)))))
      · intro e a w hJ
        obtain ⟨rfl, v159, s⟩ := hJ
        refine Go.use s ?_
        refine Go.x_block ?_
        refine Go.n_block ?_
        refine Go.then_ ?_
        refine W.region ?_
        refine WL.q (R.add rfl rfl) rfl ?_
        refine WL.q (R.move rfl) rfl ?_
        refine WL.nil ?_
        have he := Option.some.inj hm
        clear hm
        subst x
        exact fun a w s => Exists.intro _ (And.intro rfl (Exists.intro v159 (Sat.mk (s.env.le ⟨rfl, rfl, rfl, rfl, rfl, rfl, trivial⟩) (s.mem))))
    · rw [if_neg h110] at hm
      refine W.cond_f rfl (decide_eq_false h110) ?_
      refine W.exit ?_
      refine Go.x_then ?_
      have he := Option.some.inj hm
      clear hm
      subst x
      exact fun a w s => Exists.intro _ (And.intro rfl (And.intro rfl (Exists.intro v109 (Sat.mk (s.env.le ⟨rfl, rfl, trivial⟩) (s.mem.reord [0] 3 rfl)))))
  · intro e a w hJ
    obtain ⟨rfl, v161, s⟩ := hJ
    refine Go.use s ?_
    refine Go.x_block ?_
    refine Go.then_ ?_
    refine W.seq ?_
    refine W.region ?_
    refine WL.q (R.move rfl) rfl ?_
    refine WL.q (R.assign rfl) rfl ?_
    refine WL.nil ?_
    refine Go.then_ ?_
    refine W.ret ?_
    have he := Option.some.inj hm
    clear hm
    subst r
    exact Go.ret1 rfl (.tmp rfl) (fun w hw => ⟨_, rfl, _, ⟨v161, rfl, rfl⟩, hw⟩)
set_option maxRecDepth 100000 in
theorem impl_led_tr {G : World} {F : List Res} (p0 : Int) (p1 : (Vector Int 10)) {r : Int} (hm : impl_led p0 p1 = some r) : Tr Try.prog G 54 [(.int .i64 p0), (.agg (((Enc.int .u8).arr 10).cells p1).toArray)] F (fun u K => ∃ x : Unit, u = (.int .i64 r) ∧ K = F) := by
  unfold impl_led at hm
  refine Tr.body Try.func54 rfl Try.ntmps54 ?_
  refine W.seq ?_
  refine W.region ?_
  refine WL.x (R.box rfl (cells_agg _)) rfl fun b1 => ?_
  refine WL.q (R.assign rfl) rfl ?_
  refine WL.nil ?_
  refine Go.then_ ?_
  refine W.seq ?_
  refine W.region ?_
  refine WL.q (R.assign rfl) rfl ?_
  refine WL.nil ?_
  refine Go.then_ ?_
  refine W.seq ?_
  refine W.seq ?_
  refine W.region ?_
  refine WL.q (R.move rfl) rfl ?_
  refine WL.nil ?_
  refine Go.then_ ?_
  refine W.block ?_
  obtain ⟨o3, hlo3, hm⟩ := of_bind hm
  refine W.loopx (fun (s2 : (Int × Int)) a w => Sat G ((bx b1 (((Enc.int .u8).arr 10).cells p1)) :: F) 21 [(0, (.int .i64 p0)), (3, (.pointer (some ⟨b1, 0, none⟩))), (4, (.int .i64 0)), (5, (.int .i64 s2.1)), (7, (.int .u8 s2.2))] a w) (fun (o3 : Int) e a w => And (e = (.exit 0)) (Sat G F 21 [(4, (.int .i64 0)), (5, (.int .i64 o3))] a w)) hlo3 (fun a w s => (Sat.mk (s.env.le ⟨rfl, rfl, rfl, rfl, rfl, trivial⟩) (s.mem))) ?_ ?_
  · clear hm
    intro s2 x hm a w hJ
    have s := hJ
    unfold impl_led_L1 at hm
    refine W.use s ?_
    refine W.seq ?_
    refine W.region ?_
    refine WL.q (R.lss rfl rfl) rfl ?_
    refine WL.nil ?_
    refine Go.then_ ?_
    refine W.seq ?_
    by_cases h19 : s2.2 < 10
    · rw [if_pos h19] at hm
      refine W.cond_t rfl (decide_eq_true h19) ?_
      refine W.skip ?_
      refine Go.then_ ?_
      obtain ⟨o26, hm, hmo26⟩ := of_bind hm
      refine W.seq ?_
      refine W.join (fun e a w => And (e = .normal) (Sat G ((bx b1 (((Enc.int .u8).arr 10).cells p1)) :: F) 21 [(0, (.int .i64 p0)), (3, (.pointer (some ⟨b1, 0, none⟩))), (4, (.int .i64 0)), (5, (.int .i64 o26)), (7, (.int .u8 s2.2))] a w)) ?_ ?_
      · refine W.block ?_
        refine W.seq ?_
        refine W.region ?_
        refine WL.q (R.move rfl) rfl ?_
        refine WL.q (R.assign rfl) rfl ?_
        refine WL.nil ?_
        refine Go.then_ ?_
        refine W.seq ?_
        refine W.region ?_
        refine WL.q (R.move rfl) rfl ?_
        refine WL.q (R.move rfl) rfl ?_
        obtain ⟨o20, h21, hm⟩ := of_bind hm
        refine WL.x (R.call rfl en40 (impl_set_has_tr p0 s2.2 h21)) rfl fun x22 => ?_
        refine WL.nil ?_
        refine Go.then_ ?_
        by_cases h23 : o20 = true
        · rw [if_pos h23] at hm
          refine W.cond_t rfl h23 ?_
          refine W.region ?_
          refine WL.q (R.move rfl) rfl ?_
          refine WL.q (R.move rfl) rfl ?_
          obtain ⟨h24, hm⟩ := of_guard hm
          refine WL.q (R.indexArr rfl rfl un70 sz5 h24.1 h24.2) rfl ?_
          refine WL.q (R.load rfl (At.sub (At.bx 0 rfl (Sub.refl _)) (sub_arr (Enc.int .u8) (v := p1) h24.1 h24.2)) (Lies.one _ ia5)) rfl ?_
          obtain ⟨h25, hm⟩ := of_guard hm
          refine WL.q (R.shl rfl rfl h25) rfl ?_
          refine WL.q (R.or rfl rfl) rfl ?_
          refine WL.q (R.assign rfl) rfl ?_
          refine WL.nil ?_
          refine Go.n_block ?_
          have he := Option.some.inj hm
          clear hm
          subst o26
          exact fun a w s => And.intro rfl (Sat.mk (s.env.le ⟨rfl, rfl, rfl, rfl, rfl, trivial⟩) (s.mem))
        · rw [if_neg h23] at hm
          refine W.cond_f rfl (b_f h23) ?_
          refine W.skip ?_
          refine Go.n_block ?_
          have he := Option.some.inj hm
          clear hm
          subst o26
          exact fun a w s => And.intro rfl (Sat.mk (s.env.le ⟨rfl, rfl, rfl, rfl, rfl, trivial⟩) (s.mem))
      · intro e a w hJ
        replace hm := hmo26
        clear hmo26
        obtain ⟨rfl, s⟩ := hJ
        refine Go.use s ?_
        refine Go.then_ ?_
        refine W.region ?_
        refine WL.q (R.add rfl rfl) rfl ?_
        refine WL.q (R.move rfl) rfl ?_
        refine WL.nil ?_
        have he := Option.some.inj hm
        clear hm
        subst x
        exact fun a w s => Exists.intro _ (And.intro rfl (Sat.mk (s.env.le ⟨rfl, rfl, rfl, rfl, rfl, trivial⟩) (s.mem)))
    · rw [if_neg h19] at hm
      refine W.cond_f rfl (decide_eq_false h19) ?_
      refine W.exit ?_
      refine Go.x_then ?_
      have he := Option.some.inj hm
      clear hm
      subst x
      exact fun a w s => Exists.intro _ (And.intro rfl (And.intro rfl (Sat.mk (s.env.le ⟨rfl, rfl, trivial⟩) (s.mem.reord [] 1 rfl))))
  · intro e a w hJ
    obtain ⟨rfl, s⟩ := hJ
    refine Go.use s ?_
    refine Go.x_block ?_
    refine Go.then_ ?_
    refine W.seq ?_
    refine W.region ?_
    refine WL.q (R.move rfl) rfl ?_
    refine WL.q (R.assign rfl) rfl ?_
    refine WL.nil ?_
    refine Go.then_ ?_
    refine W.ret ?_
    have he := Option.some.inj hm
    clear hm
    subst r
    exact Go.ret1 rfl (.tmp rfl) (fun w hw => ⟨_, rfl, _, ⟨(), rfl, rfl⟩, hw⟩)
set_option maxRecDepth 100000 in
theorem impl_Square_closure_tr {G : World} {F : List Res} (p0 : S_Square) (p1 : Int) {r : Int} (hm : impl_Square_closure p0 p1 = some r) : Tr Try.prog G 46 [(.agg (e_S_Square.cells p0).toArray), (.int .i64 p1)] F (fun u K => ∃ x : Unit, u = (.int .i64 r) ∧ K = F) := by
  unfold impl_Square_closure at hm
  refine Tr.body Try.func46 rfl Try.ntmps46 ?_
  refine W.seq ?_
  refine W.region ?_
  refine WL.x (R.box rfl (cells_agg _)) rfl fun b1 => ?_
  refine WL.q (R.assign rfl) rfl ?_
  refine WL.nil ?_
  refine Go.then_ ?_
  refine W.seq ?_
  refine W.region ?_
  refine WL.q (R.load rfl (At.bx 0 rfl (Sub.refl _)) (lies_agg e_S_Square p0 ia31 sz31)) rfl ?_
  obtain ⟨o2, h3, hm⟩ := of_bind hm
  refine WL.x (R.call rfl en53 (impl_Square_inner_tr p0 h3)) rfl fun x4 => ?_
  refine WL.q (R.assign rfl) rfl ?_
  refine WL.nil ?_
  refine Go.then_ ?_
  refine W.block ?_
  obtain ⟨o6, hlo6, hm⟩ := of_bind hm
  refine W.loopx (fun (s5 : Int) a w => Sat G ((slT ((Enc.int .u8).arr 10) x4 o2) :: (bx b1 (e_S_Square.cells p0)) :: F) 31 [(1, (.int .i64 s5)), (2, (.pointer (some ⟨b1, 0, none⟩))), (4, (.int .i64 0)), (5, x4)] a w) (fun (o6 : Int) e a w => And (e = .ret) (Sat G F 31 [(4, (.int .i64 o6))] a w)) hlo6 (fun a w s => (Sat.mk (s.env.le ⟨rfl, rfl, rfl, rfl, trivial⟩) (s.mem))) ?_ ?_
  · clear hm
    intro s5 x hm a w hJ
    have s := hJ
    unfold impl_Square_closure_L1 at hm
    refine W.use s ?_
    refine W.block ?_
    refine W.seq ?_
    refine W.region ?_
    refine WL.q (R.load rfl (At.bx 1 rfl (Sub.refl _)) (lies_agg e_S_Square p0 ia31 sz31)) rfl ?_
    refine WL.q (R.move rfl) rfl ?_
    obtain ⟨o55, h56, hm⟩ := of_bind hm
    refine WL.x (R.call rfl en48 (impl_Square_generated_tr p0 s5 h56)) rfl fun x57 => ?_
    refine WL.q (R.assign rfl) rfl ?_
    refine WL.nil ?_
    refine Go.then_ ?_
    refine W.seq ?_
    refine W.seq ?_
    refine W.region ?_
    refine WL.q (R.move rfl) rfl ?_
    refine WL.q (R.lenT rfl el77 (RdT.at 0 rfl)) rfl ?_
    refine WL.q (R.move rfl) rfl ?_
    refine WL.nil ?_
    refine Go.then_ ?_
    refine W.block ?_
    obtain ⟨o59, hlo59, hm⟩ := of_bind hm
    refine W.loopx (fun (s58 : (Int × Int)) a w => Sat G ((slT ((Enc.int .u8).arr 10) x4 o2) :: (bx b1 (e_S_Square.cells p0)) :: F) 31 [(1, (.int .i64 s5)), (2, (.pointer (some ⟨b1, 0, none⟩))), (4, (.int .i64 0)), (5, x4), (6, (.int .i64 s58.1)), (14, x4), (15, (.int .i64 (o2.length : Int))), (16, (.int .i64 s58.2))] a w) (fun (o59 : Int) e a w => And (e = (.exit 2)) (Sat G ((slT ((Enc.int .u8).arr 10) x4 o2) :: (bx b1 (e_S_Square.cells p0)) :: F) 31 [(1, (.int .i64 s5)), (2, (.pointer (some ⟨b1, 0, none⟩))), (4, (.int .i64 0)), (5, x4), (6, (.int .i64 o59))] a w)) hlo59 (fun a w s => (Sat.mk (s.env.le ⟨rfl, rfl, rfl, rfl, rfl, rfl, rfl, rfl, trivial⟩) (s.mem))) ?_ ?_
    · clear hm
      intro s58 x hm a w hJ
      have s := hJ
      unfold impl_Square_closure_L2 at hm
      refine W.use s ?_
      refine W.seq ?_
      refine W.region ?_
      refine WL.q (R.lss rfl rfl) rfl ?_
      refine WL.nil ?_
      refine Go.then_ ?_
      refine W.seq ?_
      by_cases h72 : s58.2 < (o2.length : Int)
      · rw [if_pos h72] at hm
        refine W.cond_t rfl (decide_eq_true h72) ?_
        refine W.skip ?_
        refine Go.then_ ?_
        refine W.seq ?_
        refine W.block ?_
        refine W.seq ?_
        refine W.region ?_
        obtain ⟨h73, hm⟩ := of_guard hm
        refine WL.q (R.idxT rfl rfl el77 (RdT.at 0 rfl) h73) rfl ?_
        refine WL.q (R.load rfl (At.elT (RdT.at 0 rfl) (by decide) h73) (lies_agg ((Enc.int .u8).arr 10) (gl o2 s58.2) ia70 sz70)) rfl ?_
        refine WL.x (al70) rfl fun b74 => ?_
        refine WL.x0 (R.store_bx (i := 0) rfl rfl rfl (fits_agg ((Enc.int .u8).arr 10) (gl o2 s58.2) sz70) (Up.all ((Enc.int .u8).arr 10) _ _)) fun _ => ?_
        refine WL.nil ?_
        refine Go.then_ ?_
        refine W.region ?_
        refine WL.q (R.move rfl) rfl ?_
        refine WL.q (R.move rfl) rfl ?_
        refine WL.q (R.load rfl (At.bx 0 rfl (Sub.refl _)) (lies_agg ((Enc.int .u8).arr 10) (gl o2 s58.2) ia70 sz70)) rfl ?_
        obtain ⟨o75, h76, hm⟩ := of_bind hm
        refine WL.x (R.call rfl en54 (impl_led_tr s58.1 (gl o2 s58.2) h76)) rfl fun x77 => ?_
        refine WL.q (R.or rfl rfl) rfl ?_
        refine WL.q (R.assign rfl) rfl ?_
        refine WL.nil ?_
        refine Go.n_block ?_
        refine Go.then_ ?_
        refine W.region ?_
        refine WL.q (R.add rfl rfl) rfl ?_
        refine WL.q (R.move rfl) rfl ?_
        refine WL.nil ?_
        have he := Option.some.inj hm
        clear hm
        subst x
        exact fun a w s => Exists.intro _ (And.intro rfl (Sat.mk (s.env.le ⟨rfl, rfl, rfl, rfl, rfl, rfl, rfl, rfl, trivial⟩) (s.mem.reord [1, 2] 3 rfl)))
      · rw [if_neg h72] at hm
        refine W.cond_f rfl (decide_eq_false h72) ?_
        refine W.exit ?_
        refine Go.x_then ?_
        have he := Option.some.inj hm
        clear hm
        subst x
        exact fun a w s => Exists.intro _ (And.intro rfl (And.intro rfl (Sat.mk (s.env.le ⟨rfl, rfl, rfl, rfl, rfl, trivial⟩) (s.mem))))
    · intro e a w hJ
      obtain ⟨rfl, s⟩ := hJ
      refine Go.use s ?_
      refine Go.x_block ?_
      refine Go.then_ ?_
      refine W.seq ?_
      refine W.seq ?_
      refine W.region ?_
      refine WL.q (R.move rfl) rfl ?_
      refine WL.q (R.move rfl) rfl ?_
      refine WL.q (R.eql rfl rfl) rfl ?_
      refine WL.nil ?_
      refine Go.then_ ?_
      by_cases h78 : o59 = s5
      · rw [if_pos h78] at hm
        refine W.cond_t rfl (decide_eq_true h78) ?_
        refine W.seq ?_
        refine W.region ?_
        refine WL.q (R.move rfl) rfl ?_
        refine WL.q (R.assign rfl) rfl ?_
        refine WL.nil ?_
        refine Go.then_ ?_
        refine W.ret ?_
        refine Go.r_then ?_
        refine Go.r_block ?_
        have he := Option.some.inj hm
        clear hm
        subst x
        exact fun a w s => Exists.intro _ (And.intro rfl (And.intro rfl (Sat.mk (s.env.le ⟨rfl, trivial⟩) (s.mem.reord [] 2 rfl))))
      · rw [if_neg h78] at hm
        refine W.cond_f rfl (decide_eq_false h78) ?_
        refine W.skip ?_
        refine Go.then_ ?_
        refine W.region ?_
        refine WL.q (R.move rfl) rfl ?_
        refine WL.q (R.assign rfl) rfl ?_
        refine WL.nil ?_
        refine Go.n_block ?_
        have he := Option.some.inj hm
        clear hm
        subst x
        exact fun a w s => Exists.intro _ (And.intro rfl (Sat.mk (s.env.le ⟨rfl, rfl, rfl, rfl, trivial⟩) (s.mem)))
  · intro e a w hJ
    obtain ⟨rfl, s⟩ := hJ
    refine Go.use s ?_
    refine Go.r_block ?_
    have he := Option.some.inj hm
    clear hm
    subst r
    exact Go.ret1 rfl (.tmp rfl) (fun w hw => ⟨_, rfl, _, ⟨(), rfl, rfl⟩, hw⟩)
set_option maxRecDepth 100000 in
theorem impl_Square_isNormal_tr {G : World} {F : List Res} (p0 : S_Square) (p1 : Int) {r : Bool} (hm : impl_Square_isNormal p0 p1 = some r) : Tr Try.prog G 30 [(.agg (e_S_Square.cells p0).toArray), (.int .i64 p1)] F (fun u K => ∃ x : Unit, u = (.bool r) ∧ K = F) := by
  unfold impl_Square_isNormal at hm
  refine Tr.body Try.func30 rfl Try.ntmps30 ?_
  refine W.seq ?_
  refine W.region ?_
  refine WL.x (R.box rfl (cells_agg _)) rfl fun b1 => ?_
  refine WL.q (R.assign rfl) rfl ?_
  refine WL.nil ?_
  refine Go.then_ ?_
  refine W.seq ?_
  refine W.region ?_
  refine WL.q (R.load rfl (At.bx 0 rfl (Sub.refl _)) (lies_agg e_S_Square p0 ia31 sz31)) rfl ?_
  refine WL.q (R.move rfl) rfl ?_
  obtain ⟨o2, h3, hm⟩ := of_bind hm
  refine WL.x (R.call rfl en46 (impl_Square_closure_tr p0 p1 h3)) rfl fun x4 => ?_
  refine WL.q (R.move rfl) rfl ?_
  refine WL.q (R.eql rfl rfl) rfl ?_
  refine WL.q (R.assign rfl) rfl ?_
  refine WL.nil ?_
  refine Go.then_ ?_
  refine W.ret ?_
  have he := Option.some.inj hm
  clear hm
  subst r
  exact Go.ret1 rfl (.tmp rfl) (fun w hw => ⟨_, rfl, _, ⟨(), rfl, rfl⟩, hw.reord [] 1 rfl⟩)
set_option maxRecDepth 100000 in
theorem impl_Square_normals_c1_tr {G : World} {F : List Res} (p0 : Int) (c1 : Nat) (p1 : S_Square) (hp1 : At G F (.pointer (some ⟨c1, 0, none⟩)) (e_S_Square.cells p1)) {r : Bool} (hm : impl_Square_normals_c1 p0 p1 = some r) : Tr Try.prog G 29 [(.int .i64 p0), (.pointer (some ⟨c1, 0, none⟩))] F (fun u K => ∃ x : Unit, u = (.bool r) ∧ K = F) := by
  unfold impl_Square_normals_c1 at hm
  refine Tr.body Try.func29 rfl Try.ntmps29 ?_
  refine W.seq ?_
  refine W.region ?_
  refine WL.q (R.assign rfl) rfl ?_
  refine WL.nil ?_
  refine Go.then_ ?_
  refine W.seq ?_
  refine W.region ?_
  refine WL.q (R.load rfl (At.lift 0 rfl hp1) (lies_agg e_S_Square p1 ia31 sz31)) rfl ?_
  refine WL.q (R.move rfl) rfl ?_
  obtain ⟨o1, h2, hm⟩ := of_bind hm
  refine WL.x (R.call rfl en30 (impl_Square_isNormal_tr p1 p0 h2)) rfl fun x3 => ?_
  refine WL.q (R.not rfl) rfl ?_
  refine WL.q (R.assign rfl) rfl ?_
  refine WL.nil ?_
  refine Go.then_ ?_
  refine W.ret ?_
  have he := Option.some.inj hm
  clear hm
  subst r
  exact Go.ret1 rfl (.tmp rfl) (fun w hw => ⟨_, rfl, _, ⟨(), rfl, rfl⟩, hw⟩)
set_option maxRecDepth 100000 in
theorem impl_Square_normals_tr {G : World} {F : List Res} (p0 : S_Square) {r : (List Int)} (hm : impl_Square_normals p0 = some r) : Tr Try.prog G 15 [(.agg (e_S_Square.cells p0).toArray)] F (fun u K => ∃ x : Value, u = x ∧ K = ((slT (Enc.int .i64) x r) :: F)) := by
  unfold impl_Square_normals at hm
  refine Tr.body Try.func15 rfl Try.ntmps15 ?_
  refine W.seq ?_
  refine W.region ?_
  refine WL.x (R.box rfl (cells_agg _)) rfl fun b1 => ?_
  refine WL.q (R.assign rfl) rfl ?_
  refine WL.nil ?_
  refine Go.then_ ?_
  refine W.seq ?_
  refine W.region ?_
  refine WL.q (R.load rfl (At.bx 0 rfl (Sub.refl _)) (lies_agg e_S_Square p0 ia31 sz31)) rfl ?_
  obtain ⟨o2, h3, hm⟩ := of_bind hm
  refine WL.x (R.call rfl en28 (impl_Square_subloops_tr p0 h3)) rfl fun x4 => ?_
  refine WL.q (R.makeFunc (fs := []) (cs := [(.pointer (some ⟨b1, 0, none⟩))]) rfl rfl) rfl ?_
  obtain ⟨o5, h6, hm⟩ := of_bind hm
  refine WL.x ((R.call rfl en27 (slices_DeleteFunc_impl_set_impl_set_tr (F := ((bx b1 (e_S_Square.cells p0)) :: F)) x4 o2 29 [] [(.pointer (some ⟨b1, 0, none⟩))] (fun a0 => impl_Square_normals_c1 a0 p0) en29 (fun L a0 r h => impl_Square_normals_c1_tr (F := L ++ ((bx b1 (e_S_Square.cells p0)) :: F)) a0 b1 p0 (At.bx 0 rfl (Sub.refl _)).liftL h) h6)).weak (fun w hw => hw.reord [0, 1] 2 rfl)) rfl fun x7 => ?_
  refine WL.q (R.assign rfl) rfl ?_
  refine WL.nil ?_
  refine Go.then_ ?_
  refine W.ret ?_
  have he := Option.some.inj hm
  clear hm
  subst r
  exact Go.ret1 rfl (.tmp rfl) (fun w hw => ⟨_, rfl, _, ⟨x7, rfl, rfl⟩, hw.reord [0] 2 rfl⟩)
set_option maxRecDepth 100000 in
theorem impl_AllNormal_tr {G : World} {F : List Res} (p0 : S_Square) {r : ((List (List Int)) × Int)} (hm : impl_AllNormal p0 = some r) : Tr Try.prog G 6 [(.agg (e_S_Square.cells p0).toArray)] F (fun u K => ∃ x : (Value × List Value), u = (.tuple #[x.1, (.int .i64 r.2)]) ∧ K = ((ns (Enc.int .i64) x.1 x.2 r.1) :: F)) := by
  unfold impl_AllNormal at hm
  refine Tr.body Try.func6 rfl Try.ntmps6 ?_
  refine W.seq ?_
  refine W.region ?_
  refine WL.x (R.box rfl (cells_agg _)) rfl fun b1 => ?_
  refine WL.q (R.assign rfl) rfl ?_
  refine WL.q (R.assign rfl) rfl ?_
  refine WL.nil ?_
  refine Go.then_ ?_
  refine W.seq ?_
  refine W.seq ?_
  refine W.region ?_
  refine WL.q (R.load rfl (At.bx 0 rfl (Sub.refl _)) (lies_agg e_S_Square p0 ia31 sz31)) rfl ?_
  obtain ⟨o2, h3, hm⟩ := of_bind hm
  refine WL.x (R.call rfl en13 (impl_IsLoop_tr p0 h3)) rfl fun x4 => ?_
  refine WL.q (R.not rfl) rfl ?_
  refine WL.nil ?_
  refine Go.then_ ?_
  by_cases h5 : o2 = true
  · rw [if_pos h5] at hm
    refine W.cond_f rfl (not_f h5) ?_
    refine W.skip ?_
    refine Go.then_ ?_
    refine W.seq ?_
    refine W.region ?_
    refine WL.q (R.load rfl (At.bx 0 rfl (Sub.refl _)) (lies_agg e_S_Square p0 ia31 sz31)) rfl ?_
    obtain ⟨o6, h7, hm⟩ := of_bind hm
    refine WL.x (R.call rfl en15 (impl_Square_normals_tr p0 h7)) rfl fun x8 => ?_
    obtain ⟨o9, h10, hm⟩ := of_bind hm
    refine WL.x (R.call rfl en14 (impl_listsOf_tr x8 o6 (RdT.at 0 rfl) h10)) rfl fun x11 => ?_
    refine WL.q (R.assign rfl) rfl ?_
    refine WL.q (R.assign rfl) rfl ?_
    refine WL.nil ?_
    refine Go.then_ ?_
    refine W.ret ?_
    have he := Option.some.inj hm
    clear hm
    subst r
    exact Go.ret2 rfl (.tmp rfl) (.tmp rfl) (fun w hw => ⟨_, rfl, _, ⟨(x11.1, x11.2), rfl, rfl⟩, hw.reord [0] 3 rfl⟩)
  · rw [if_neg h5] at hm
    refine W.cond_t rfl (not_t (b_f h5)) ?_
    refine W.seq ?_
    refine W.region ?_
    refine WL.q (R.assign rfl) rfl ?_
    refine WL.q (R.assign rfl) rfl ?_
    refine WL.nil ?_
    refine Go.then_ ?_
    refine W.ret ?_
    refine Go.r_then ?_
    have he := Option.some.inj hm
    clear hm
    subst r
    exact Go.ret2 rfl (.tmp rfl) (.tmp rfl) (fun w hw => ⟨_, rfl, _, ⟨((.slice none 0 0), []), rfl, rfl⟩, (hw.addNilN (Enc.int .i64)).reord [0] 2 rfl⟩)
set_option maxRecDepth 100000 in
theorem laws_eqInt64S_tr {G : World} {F : List Res} (q0 : Value) (p0 : (List Int)) (hp0 : RdT (Enc.int .i64) G F q0 p0) (q1 : Value) (p1 : (List Int)) (hp1 : RdT (Enc.int .i64) G F q1 p1) {r : Bool} (hm : laws_eqInt64S p0 p1 = some r) : Tr Try.prog G 16 [q0, q1] F (fun u K => ∃ x : Unit, u = (.bool r) ∧ K = F) := by
  unfold laws_eqInt64S at hm
  refine Tr.body Try.func16 rfl Try.ntmps16 ?_
  refine W.seq ?_
  refine W.region ?_
  refine WL.q (R.assign rfl) rfl ?_
  refine WL.nil ?_
  refine Go.then_ ?_
  refine W.seq ?_
  refine W.seq ?_
  refine W.region ?_
  refine WL.q (R.move rfl) rfl ?_
  refine WL.q (R.lenT rfl el43 (RdT.lift 0 rfl hp0)) rfl ?_
  refine WL.q (R.move rfl) rfl ?_
  refine WL.q (R.lenT rfl el43 (RdT.lift 0 rfl hp1)) rfl ?_
  refine WL.q (R.neq rfl rfl) rfl ?_
  refine WL.nil ?_
  refine Go.then_ ?_
  by_cases h1 : (p0.length : Int) ≠ (p1.length : Int)
  · rw [if_pos h1] at hm
    refine W.cond_t rfl (decide_eq_true h1) ?_
    refine W.seq ?_
    refine W.region ?_
    refine WL.q (R.assign rfl) rfl ?_
    refine WL.nil ?_
    refine Go.then_ ?_
    refine W.ret ?_
    refine Go.r_then ?_
    have he := Option.some.inj hm
    clear hm
    subst r
    exact Go.ret1 rfl (.tmp rfl) (fun w hw => ⟨_, rfl, _, ⟨(), rfl, rfl⟩, hw⟩)
  · rw [if_neg h1] at hm
    refine W.cond_f rfl (decide_eq_false h1) ?_
    refine W.skip ?_
    refine Go.then_ ?_
    refine W.seq ?_
    refine W.seq ?_
    refine W.region ?_
    refine WL.q (R.assign rfl) rfl ?_
    refine WL.nil ?_
    refine Go.then_ ?_
    refine W.block ?_
    obtain ⟨o3, hlo3, hm⟩ := of_bind hm
    refine W.loopx (fun (s2 : Int) a w => Sat G F 26 [(0, q0), (1, q1), (4, (.bool false)), (5, (.int .i64 s2))] a w) (fun (o3 : ((Unit) ⊕ (Unit))) e a w => (Sum.elim (fun o3 => And (e = (.exit 0)) (Sat G F 26 [(4, (.bool false))] a w)) (fun o3 => And (e = .ret) (Sat G F 26 [(4, (.bool false))] a w))) o3) hlo3 (fun a w s => (Sat.mk (s.env.le ⟨rfl, rfl, rfl, rfl, trivial⟩) (s.mem))) ?_ ?_
    · clear hm
      intro s2 x hm a w hJ
      have s := hJ
      unfold laws_eqInt64S_L1 at hm
      refine W.use s ?_
      refine W.seq ?_
      refine W.seq ?_
      refine W.region ?_
      refine WL.q (R.move rfl) rfl ?_
      refine WL.q (R.move rfl) rfl ?_
      refine WL.q (R.lenT rfl el43 (RdT.lift 0 rfl hp0)) rfl ?_
      refine WL.q (R.lss rfl rfl) rfl ?_
      refine WL.nil ?_
      refine Go.then_ ?_
      by_cases h12 : s2 < (p0.length : Int)
      · rw [if_pos h12] at hm
        refine W.cond_t rfl (decide_eq_true h12) ?_
        refine W.skip ?_
        refine Go.then_ ?_
        refine W.seq ?_
        refine W.block ?_
        refine W.seq ?_
        obtain ⟨h13, hm⟩ := of_guard hm
        obtain ⟨h14, hm⟩ := of_guard hm
        refine W.join1 (fun a w => Sat G F 26 [(0, q0), (1, q1), (4, (.bool false)), (5, (.int .i64 s2)), (25, (.bool (decide (gl p0 s2 ≠ gl p1 s2))))] a w) ?_ ?_
        · refine W.draw (n := 9) F F 9 (by kernel_rfl) rfl rfl (fun w hw => hw) (fun w hw => hw.drop 0) ?_
          refine WK.q (i := 0) rfl rfl (by kernel_rfl) calm_n (R.move rfl) rfl rfl ?_
          refine WK.q (i := 1) rfl rfl (by kernel_rfl) calm_n (R.move rfl) rfl rfl ?_
          refine WK.q (i := 2) rfl rfl (by kernel_rfl) calm_n (R.idxT rfl rfl el43 (RdT.lift 0 rfl hp0) h13) rfl rfl ?_
          refine WK.q (i := 3) rfl rfl (by kernel_rfl) calm_n (R.load rfl (At.elT (RdT.lift 0 rfl hp0) (by decide) h13) (Lies.one _ ia2)) rfl rfl ?_
          refine WK.q (i := 4) rfl rfl (by kernel_rfl) calm_n (R.move rfl) rfl rfl ?_
          refine WK.x (i := 5) (by kernel_rfl) rfl (OpV.x (R.move rfl)) (fun _ w hw => hw) (fun _ _ _ w hw => hw) rfl rfl (by kernel_rfl) fun _ => ?_
          refine WK.x (i := 6) (by kernel_rfl) rfl (OpV.x (R.idxT rfl rfl el43 (RdT.lift 0 rfl hp1) h14)) (fun _ w hw => hw) (fun _ _ _ w hw => hw) rfl rfl (by kernel_rfl) fun _ => ?_
          refine WK.x (i := 7) (by kernel_rfl) rfl (OpV.x (R.load rfl (At.elT (RdT.lift 0 rfl hp1) (by decide) h14) (Lies.one _ ia2))) (fun _ w hw => hw) (fun _ _ _ w hw => hw) rfl rfl (by kernel_rfl) fun _ => ?_
          refine WK.x (i := 8) (by kernel_rfl) rfl (OpV.x (R.neq rfl rfl)) (fun _ w hw => hw) (fun _ _ _ w hw => hw) rfl rfl (by kernel_rfl) fun _ => ?_
          refine WK.nil (by kernel_rfl) ?_
          exact fun a w s => And.intro rfl (Sat.mk (s.env.le ⟨rfl, rfl, rfl, rfl, rfl, trivial⟩) (s.mem))
        · refine Go2.sat ?_
          refine Go.then_ ?_
          by_cases h15 : gl p0 s2 ≠ gl p1 s2
          · rw [if_pos h15] at hm
            refine W.cond_t rfl (decide_eq_true h15) ?_
            refine W.seq ?_
            refine W.region ?_
            refine WL.q (R.assign rfl) rfl ?_
            refine WL.nil ?_
            refine Go.then_ ?_
            refine W.ret ?_
            refine Go.r_block ?_
            refine Go.r_then ?_
            have he := Option.some.inj hm
            clear hm
            subst x
            exact fun a w s => Exists.intro _ (And.intro rfl (And.intro rfl (Sat.mk (s.env.le ⟨rfl, trivial⟩) (s.mem))))
          · rw [if_neg h15] at hm
            refine W.cond_f rfl (decide_eq_false h15) ?_
            refine W.skip ?_
            refine Go.n_block ?_
            refine Go.then_ ?_
            refine W.region ?_
            refine WL.q (R.move rfl) rfl ?_
            refine WL.q (R.add rfl rfl) rfl ?_
            refine WL.q (R.assign rfl) rfl ?_
            refine WL.nil ?_
            have he := Option.some.inj hm
            clear hm
            subst x
            exact fun a w s => Exists.intro _ (And.intro rfl (Sat.mk (s.env.le ⟨rfl, rfl, rfl, rfl, trivial⟩) (s.mem)))
      · rw [if_neg h12] at hm
        refine W.cond_f rfl (decide_eq_false h12) ?_
        refine W.exit ?_
        refine Go.x_then ?_
        have he := Option.some.inj hm
        clear hm
        subst x
        exact fun a w s => Exists.intro _ (And.intro rfl (And.intro rfl (Sat.mk (s.env.le ⟨rfl, trivial⟩) (s.mem))))
    · intro e a w hJ
      rcases o3 with o3 | o3
      · simp only [Sum.elim_inl, Sum.elim_inr] at hm
        obtain ⟨rfl, s⟩ := hJ
        refine Go.use s ?_
        refine Go.x_block ?_
        refine Go.then_ ?_
        refine W.seq ?_
        refine W.region ?_
        refine WL.q (R.assign rfl) rfl ?_
        refine WL.nil ?_
        refine Go.then_ ?_
        refine W.ret ?_
        have he := Option.some.inj hm
        clear hm
        subst r
        exact Go.ret1 rfl (.tmp rfl) (fun w hw => ⟨_, rfl, _, ⟨(), rfl, rfl⟩, hw⟩)
      · simp only [Sum.elim_inl, Sum.elim_inr] at hm
        obtain ⟨rfl, s⟩ := hJ
        refine Go.use s ?_
        refine Go.r_block ?_
        refine Go.r_then ?_
        have he := Option.some.inj hm
        clear hm
        subst r
        exact Go.ret1 rfl (.tmp rfl) (fun w hw => ⟨_, rfl, _, ⟨(), rfl, rfl⟩, hw⟩)
set_option maxRecDepth 100000 in
theorem laws_eqInt64SS_tr {G : World} {F : List Res} (q0 : Value) (qs_0 : List Value) (p0 : (List (List Int))) (hp0 : RdN (Enc.int .i64) G F q0 qs_0 p0) (q1 : Value) (qs_1 : List Value) (p1 : (List (List Int))) (hp1 : RdN (Enc.int .i64) G F q1 qs_1 p1) {r : Bool} (hm : laws_eqInt64SS p0 p1 = some r) : Tr Try.prog G 7 [q0, q1] F (fun u K => ∃ x : Unit, u = (.bool r) ∧ K = F) := by
  unfold laws_eqInt64SS at hm
  refine Tr.body Try.func7 rfl Try.ntmps7 ?_
  refine W.seq ?_
  refine W.region ?_
  refine WL.q (R.assign rfl) rfl ?_
  refine WL.nil ?_
  refine Go.then_ ?_
  refine W.seq ?_
  refine W.seq ?_
  refine W.region ?_
  refine WL.q (R.move rfl) rfl ?_
  refine WL.q (R.lenN rfl nl26 (RdN.lift 0 rfl hp0)) rfl ?_
  refine WL.q (R.move rfl) rfl ?_
  refine WL.q (R.lenN rfl nl26 (RdN.lift 0 rfl hp1)) rfl ?_
  refine WL.q (R.neq rfl rfl) rfl ?_
  refine WL.nil ?_
  refine Go.then_ ?_
  by_cases h1 : (p0.length : Int) ≠ (p1.length : Int)
  · rw [if_pos h1] at hm
    refine W.cond_t rfl (decide_eq_true h1) ?_
    refine W.seq ?_
    refine W.region ?_
    refine WL.q (R.assign rfl) rfl ?_
    refine WL.nil ?_
    refine Go.then_ ?_
    refine W.ret ?_
    refine Go.r_then ?_
    have he := Option.some.inj hm
    clear hm
    subst r
    exact Go.ret1 rfl (.tmp rfl) (fun w hw => ⟨_, rfl, _, ⟨(), rfl, rfl⟩, hw⟩)
  · rw [if_neg h1] at hm
    refine W.cond_f rfl (decide_eq_false h1) ?_
    refine W.skip ?_
    refine Go.then_ ?_
    refine W.seq ?_
    refine W.seq ?_
    refine W.region ?_
    refine WL.q (R.assign rfl) rfl ?_
    refine WL.nil ?_
    refine Go.then_ ?_
    refine W.block ?_
    obtain ⟨o3, hlo3, hm⟩ := of_bind hm
    refine W.loopx (fun (s2 : Int) a w => Sat G F 27 [(0, q0), (1, q1), (4, (.bool false)), (5, (.int .i64 s2))] a w) (fun (o3 : ((Unit) ⊕ (Unit))) e a w => (Sum.elim (fun o3 => And (e = (.exit 0)) (Sat G F 27 [(4, (.bool false))] a w)) (fun o3 => And (e = .ret) (Sat G F 27 [(4, (.bool false))] a w))) o3) hlo3 (fun a w s => (Sat.mk (s.env.le ⟨rfl, rfl, rfl, rfl, trivial⟩) (s.mem))) ?_ ?_
    · clear hm
      intro s2 x hm a w hJ
      have s := hJ
      unfold laws_eqInt64SS_L1 at hm
      refine W.use s ?_
      refine W.seq ?_
      refine W.seq ?_
      refine W.region ?_
      refine WL.q (R.move rfl) rfl ?_
      refine WL.q (R.move rfl) rfl ?_
      refine WL.q (R.lenN rfl nl26 (RdN.lift 0 rfl hp0)) rfl ?_
      refine WL.q (R.lss rfl rfl) rfl ?_
      refine WL.nil ?_
      refine Go.then_ ?_
      by_cases h18 : s2 < (p0.length : Int)
      · rw [if_pos h18] at hm
        refine W.cond_t rfl (decide_eq_true h18) ?_
        refine W.skip ?_
        refine Go.then_ ?_
        refine W.seq ?_
        refine W.block ?_
        refine W.seq ?_
        obtain ⟨h19, hm⟩ := of_guard hm
        obtain ⟨h20, hm⟩ := of_guard hm
        obtain ⟨o21, h22, hm⟩ := of_bind hm
        refine W.join1 (fun a w => ∃ x23 : Unit, Sat G F 27 [(0, q0), (1, q1), (4, (.bool false)), (5, (.int .i64 s2)), (26, (.bool (!o21)))] a w) ?_ ?_
        · refine W.draw (n := 10) F F 10 (by kernel_rfl) rfl rfl (fun w hw => hw) (fun w hw => hw.drop 0) ?_
          refine WK.q (i := 0) rfl rfl (by kernel_rfl) calm_n (R.move rfl) rfl rfl ?_
          refine WK.q (i := 1) rfl rfl (by kernel_rfl) calm_n (R.move rfl) rfl rfl ?_
          refine WK.q (i := 2) rfl rfl (by kernel_rfl) calm_n (R.idxN rfl rfl nl26 (RdN.lift 0 rfl hp0) h19) rfl rfl ?_
          refine WK.q (i := 3) rfl rfl (by kernel_rfl) calm_n (R.load rfl (At.elN (RdN.lift 0 rfl hp0) h19) (Lies.one _ ia43)) rfl rfl ?_
          refine WK.q (i := 4) rfl rfl (by kernel_rfl) calm_n (R.move rfl) rfl rfl ?_
          refine WK.x (i := 5) (by kernel_rfl) rfl (OpV.x (R.move rfl)) (fun _ w hw => hw) (fun _ _ _ w hw => hw) rfl rfl (by kernel_rfl) fun _ => ?_
          refine WK.x (i := 6) (by kernel_rfl) rfl (OpV.x (R.idxN rfl rfl nl26 (RdN.lift 0 rfl hp1) h20)) (fun _ w hw => hw) (fun _ _ _ w hw => hw) rfl rfl (by kernel_rfl) fun _ => ?_
          refine WK.x (i := 7) (by kernel_rfl) rfl (OpV.x (R.load rfl (At.elN (RdN.lift 0 rfl hp1) h20) (Lies.one _ ia43))) (fun _ w hw => hw) (fun _ _ _ w hw => hw) rfl rfl (by kernel_rfl) fun _ => ?_
          refine WK.x (i := 8) (by kernel_rfl) rfl (R.call rfl en16 (laws_eqInt64S_tr (gl qs_0 s2) (gl p0 s2) (RdN.inner (RdN.lift 0 rfl hp0) h19) (gl qs_1 s2) (gl p1 s2) (RdN.inner (RdN.lift 0 rfl hp1) h20) h22)) (fun _ w hw => hw) (fun _ _ _ w hw => hw) rfl rfl (by kernel_rfl) fun x23 => ?_
          refine WK.x (i := 9) (by kernel_rfl) rfl (OpV.x (R.not rfl)) (fun _ w hw => hw) (fun _ _ _ w hw => hw) rfl rfl (by kernel_rfl) fun _ => ?_
          refine WK.nil (by kernel_rfl) ?_
          exact fun a w s => And.intro rfl (Exists.intro x23 (Sat.mk (s.env.le ⟨rfl, rfl, rfl, rfl, rfl, trivial⟩) (s.mem)))
        · refine Go2.ex fun x23 => ?_
          refine Go2.sat ?_
          refine Go.then_ ?_
          by_cases h24 : o21 = true
          · rw [if_pos h24] at hm
            refine W.cond_f rfl (not_f h24) ?_
            refine W.skip ?_
            refine Go.n_block ?_
            refine Go.then_ ?_
            refine W.region ?_
            refine WL.q (R.move rfl) rfl ?_
            refine WL.q (R.add rfl rfl) rfl ?_
            refine WL.q (R.assign rfl) rfl ?_
            refine WL.nil ?_
            have he := Option.some.inj hm
            clear hm
            subst x
            exact fun a w s => Exists.intro _ (And.intro rfl (Sat.mk (s.env.le ⟨rfl, rfl, rfl, rfl, trivial⟩) (s.mem)))
          · rw [if_neg h24] at hm
            refine W.cond_t rfl (not_t (b_f h24)) ?_
            refine W.seq ?_
            refine W.region ?_
            refine WL.q (R.assign rfl) rfl ?_
            refine WL.nil ?_
            refine Go.then_ ?_
            refine W.ret ?_
            refine Go.r_block ?_
            refine Go.r_then ?_
            have he := Option.some.inj hm
            clear hm
            subst x
            exact fun a w s => Exists.intro _ (And.intro rfl (And.intro rfl (Sat.mk (s.env.le ⟨rfl, trivial⟩) (s.mem))))
      · rw [if_neg h18] at hm
        refine W.cond_f rfl (decide_eq_false h18) ?_
        refine W.exit ?_
        refine Go.x_then ?_
        have he := Option.some.inj hm
        clear hm
        subst x
        exact fun a w s => Exists.intro _ (And.intro rfl (And.intro rfl (Sat.mk (s.env.le ⟨rfl, trivial⟩) (s.mem))))
    · intro e a w hJ
      rcases o3 with o3 | o3
      · simp only [Sum.elim_inl, Sum.elim_inr] at hm
        obtain ⟨rfl, s⟩ := hJ
        refine Go.use s ?_
        refine Go.x_block ?_
        refine Go.then_ ?_
        refine W.seq ?_
        refine W.region ?_
        refine WL.q (R.assign rfl) rfl ?_
        refine WL.nil ?_
        refine Go.then_ ?_
        refine W.ret ?_
        have he := Option.some.inj hm
        clear hm
        subst r
        exact Go.ret1 rfl (.tmp rfl) (fun w hw => ⟨_, rfl, _, ⟨(), rfl, rfl⟩, hw⟩)
      · simp only [Sum.elim_inl, Sum.elim_inr] at hm
        obtain ⟨rfl, s⟩ := hJ
        refine Go.use s ?_
        refine Go.r_block ?_
        refine Go.r_then ?_
        have he := Option.some.inj hm
        clear hm
        subst r
        exact Go.ret1 rfl (.tmp rfl) (fun w hw => ⟨_, rfl, _, ⟨(), rfl, rfl⟩, hw⟩)
set_option maxRecDepth 100000 in
theorem laws_markInt64S_tr {G : World} {F : List Res} (q0 : Value) (p0 : (List Int)) (p1 : Int) {r : (Int × (List Int))} (hm : laws_markInt64S p0 p1 = some r) : Tr Try.prog G 17 [q0, (.int .i64 p1)] ((slT (Enc.int .i64) q0 p0) :: F) (fun u K => ∃ x : Unit, u = (.int .i64 r.1) ∧ K = ((slT (Enc.int .i64) q0 r.2) :: F)) := by
  unfold laws_markInt64S at hm
  refine Tr.body Try.func17 rfl Try.ntmps17 ?_
  refine W.seq ?_
  refine W.region ?_
  refine WL.q (R.assign rfl) rfl ?_
  refine WL.nil ?_
  refine Go.then_ ?_
  refine W.seq ?_
  refine W.seq ?_
  refine W.region ?_
  refine WL.q (R.assign rfl) rfl ?_
  refine WL.nil ?_
  refine Go.then_ ?_
  refine W.block ?_
  obtain ⟨o2, hlo2, hm⟩ := of_bind hm
  refine W.loopx (fun (s1 : ((List Int) × Int × Int)) a w => Sat G ((slT (Enc.int .i64) q0 s1.1) :: F) 19 [(0, q0), (1, (.int .i64 s1.2.1)), (4, (.int .i64 0)), (5, (.int .i64 s1.2.2))] a w) (fun (o2 : ((List Int) × Int)) e a w => And (e = (.exit 0)) (Sat G ((slT (Enc.int .i64) q0 o2.1) :: F) 19 [(1, (.int .i64 o2.2)), (4, (.int .i64 0))] a w)) hlo2 (fun a w s => (Sat.mk (s.env.le ⟨rfl, rfl, rfl, rfl, trivial⟩) (s.mem))) ?_ ?_
  · clear hm
    intro s1 x hm a w hJ
    have s := hJ
    unfold laws_markInt64S_L1 at hm
    refine W.use s ?_
    refine W.seq ?_
    refine W.seq ?_
    refine W.region ?_
    refine WL.q (R.move rfl) rfl ?_
    refine WL.q (R.move rfl) rfl ?_
    refine WL.q (R.lenT rfl el43 (RdT.at 0 rfl)) rfl ?_
    refine WL.q (R.lss rfl rfl) rfl ?_
    refine WL.nil ?_
    refine Go.then_ ?_
    by_cases h7 : s1.2.2 < (s1.1.length : Int)
    · rw [if_pos h7] at hm
      refine W.cond_t rfl (decide_eq_true h7) ?_
      refine W.skip ?_
      refine Go.then_ ?_
      refine W.seq ?_
      refine W.block ?_
      refine W.seq ?_
      refine W.region ?_
      refine WL.q (R.move rfl) rfl ?_
      refine WL.q (R.move rfl) rfl ?_
      refine WL.q (R.move rfl) rfl ?_
      obtain ⟨h8, hm⟩ := of_guard hm
      refine WL.q (R.idxT rfl rfl el43 (RdT.at 0 rfl) h8) rfl ?_
      refine WL.x0 (R.storeT (i := 0) s1.2.1 rfl rfl rfl (fits_int sz2) (by decide) h8) fun _ => ?_
      refine WL.nil ?_
      refine Go.then_ ?_
      refine W.region ?_
      refine WL.q (R.move rfl) rfl ?_
      refine WL.q (R.add rfl rfl) rfl ?_
      refine WL.q (R.assign rfl) rfl ?_
      refine WL.nil ?_
      refine Go.n_block ?_
      refine Go.then_ ?_
      refine W.region ?_
      refine WL.q (R.move rfl) rfl ?_
      refine WL.q (R.add rfl rfl) rfl ?_
      refine WL.q (R.assign rfl) rfl ?_
      refine WL.nil ?_
      have he := Option.some.inj hm
      clear hm
      subst x
      exact fun a w s => Exists.intro _ (And.intro rfl (Sat.mk (s.env.le ⟨rfl, rfl, rfl, rfl, trivial⟩) (s.mem)))
    · rw [if_neg h7] at hm
      refine W.cond_f rfl (decide_eq_false h7) ?_
      refine W.exit ?_
      refine Go.x_then ?_
      have he := Option.some.inj hm
      clear hm
      subst x
      exact fun a w s => Exists.intro _ (And.intro rfl (And.intro rfl (Sat.mk (s.env.le ⟨rfl, rfl, trivial⟩) (s.mem))))
  · intro e a w hJ
    obtain ⟨rfl, s⟩ := hJ
    refine Go.use s ?_
    refine Go.x_block ?_
    refine Go.then_ ?_
    refine W.seq ?_
    refine W.region ?_
    refine WL.q (R.move rfl) rfl ?_
    refine WL.q (R.assign rfl) rfl ?_
    refine WL.nil ?_
    refine Go.then_ ?_
    refine W.ret ?_
    have he := Option.some.inj hm
    clear hm
    subst r
    exact Go.ret1 rfl (.tmp rfl) (fun w hw => ⟨_, rfl, _, ⟨(), rfl, rfl⟩, hw⟩)
set_option maxRecDepth 100000 in
theorem laws_markInt64SS_tr {G : World} {F : List Res} (q0 : Value) (qs_0 : List Value) (p0 : (List (List Int))) (p1 : Int) {r : (Int × (List (List Int)))} (hm : laws_markInt64SS p0 p1 = some r) : Tr Try.prog G 8 [q0, (.int .i64 p1)] ((ns (Enc.int .i64) q0 qs_0 p0) :: F) (fun u K => ∃ x : Unit, u = (.int .i64 r.1) ∧ K = ((ns (Enc.int .i64) q0 qs_0 r.2) :: F)) := by
  unfold laws_markInt64SS at hm
  refine Tr.body Try.func8 rfl Try.ntmps8 ?_
  refine W.seq ?_
  refine W.region ?_
  refine WL.q (R.assign rfl) rfl ?_
  refine WL.nil ?_
  refine Go.then_ ?_
  refine W.seq ?_
  refine W.seq ?_
  refine W.region ?_
  refine WL.q (R.assign rfl) rfl ?_
  refine WL.nil ?_
  refine Go.then_ ?_
  refine W.block ?_
  obtain ⟨o2, hlo2, hm⟩ := of_bind hm
  refine W.loopx (fun (s1 : ((List (List Int)) × Int × Int)) a w => Sat G ((ns (Enc.int .i64) q0 qs_0 s1.1) :: F) 19 [(0, q0), (1, (.int .i64 s1.2.1)), (4, (.int .i64 0)), (5, (.int .i64 s1.2.2))] a w) (fun (o2 : ((List (List Int)) × Int)) e a w => And (e = (.exit 0)) (Sat G ((ns (Enc.int .i64) q0 qs_0 o2.1) :: F) 19 [(1, (.int .i64 o2.2)), (4, (.int .i64 0))] a w)) hlo2 (fun a w s => (Sat.mk (s.env.le ⟨rfl, rfl, rfl, rfl, trivial⟩) (s.mem))) ?_ ?_
  · clear hm
    intro s1 x hm a w hJ
    have s := hJ
    unfold laws_markInt64SS_L1 at hm
    refine W.use s ?_
    refine W.seq ?_
    refine W.seq ?_
    refine W.region ?_
    refine WL.q (R.move rfl) rfl ?_
    refine WL.q (R.move rfl) rfl ?_
    refine WL.q (R.lenN rfl nl26 (RdN.at 0 rfl)) rfl ?_
    refine WL.q (R.lss rfl rfl) rfl ?_
    refine WL.nil ?_
    refine Go.then_ ?_
    by_cases h13 : s1.2.2 < (s1.1.length : Int)
    · rw [if_pos h13] at hm
      refine W.cond_t rfl (decide_eq_true h13) ?_
      refine W.skip ?_
      refine Go.then_ ?_
      refine W.seq ?_
      refine W.block ?_
      refine W.region ?_
      refine WL.q (R.move rfl) rfl ?_
      refine WL.q (R.move rfl) rfl ?_
      obtain ⟨h14, hm⟩ := of_guard hm
      refine WL.q (R.idxN rfl rfl nl26 (RdN.at 0 rfl) h14) rfl ?_
      refine WL.q (R.load rfl (At.elN (RdN.at 0 rfl) h14) (Lies.one _ ia43)) rfl ?_
      refine WL.q (R.move rfl) rfl ?_
      obtain ⟨o15, h16, hm⟩ := of_bind hm
      refine WL.x ((OpX.inOut (e := (Enc.int .i64)) (F := F) (ys := fun _ => o15.2) h14 (R.call rfl en17 (laws_markInt64S_tr (F := (outs (Enc.int .i64) q0 qs_0 s1.1 s1.2.2 ++ F)) (gl qs_0 s1.2.2) (gl s1.1 s1.2.2) s1.2.1 h16))).weak (fun w hw => hw.reord [0] 1 rfl)) rfl fun x17 => ?_
      refine WL.q (R.assign rfl) rfl ?_
      refine WL.nil ?_
      refine Go.n_block ?_
      refine Go.then_ ?_
      refine W.region ?_
      refine WL.q (R.move rfl) rfl ?_
      refine WL.q (R.add rfl rfl) rfl ?_
      refine WL.q (R.assign rfl) rfl ?_
      refine WL.nil ?_
      have he := Option.some.inj hm
      clear hm
      subst x
      exact fun a w s => Exists.intro _ (And.intro rfl (Sat.mk (s.env.le ⟨rfl, rfl, rfl, rfl, trivial⟩) (s.mem)))
    · rw [if_neg h13] at hm
      refine W.cond_f rfl (decide_eq_false h13) ?_
      refine W.exit ?_
      refine Go.x_then ?_
      have he := Option.some.inj hm
      clear hm
      subst x
      exact fun a w s => Exists.intro _ (And.intro rfl (And.intro rfl (Sat.mk (s.env.le ⟨rfl, rfl, trivial⟩) (s.mem))))
  · intro e a w hJ
    obtain ⟨rfl, s⟩ := hJ
    refine Go.use s ?_
    refine Go.x_block ?_
    refine Go.then_ ?_
    refine W.seq ?_
    refine W.region ?_
    refine WL.q (R.move rfl) rfl ?_
    refine WL.q (R.assign rfl) rfl ?_
    refine WL.nil ?_
    refine Go.then_ ?_
    refine W.ret ?_
    have he := Option.some.inj hm
    clear hm
    subst r
    exact Go.ret1 rfl (.tmp rfl) (fun w hw => ⟨_, rfl, _, ⟨(), rfl, rfl⟩, hw⟩)
set_option maxRecDepth 100000 in
theorem laws_heldInt64S_tr {G : World} {F : List Res} (q0 : Value) (p0 : (List Int)) (hp0 : RdT (Enc.int .i64) G F q0 p0) (p1 : Int) {r : Int} (hm : laws_heldInt64S p0 p1 = some r) : Tr Try.prog G 18 [q0, (.int .i64 p1)] F (fun u K => ∃ x : Unit, u = (.int .i64 r) ∧ K = F) := by
  unfold laws_heldInt64S at hm
  refine Tr.body Try.func18 rfl Try.ntmps18 ?_
  refine W.seq ?_
  refine W.region ?_
  refine WL.q (R.assign rfl) rfl ?_
  refine WL.nil ?_
  refine Go.then_ ?_
  refine W.seq ?_
  refine W.seq ?_
  refine W.region ?_
  refine WL.q (R.assign rfl) rfl ?_
  refine WL.nil ?_
  refine Go.then_ ?_
  refine W.block ?_
  obtain ⟨o2, hlo2, hm⟩ := of_bind hm
  refine W.loopx (fun (s1 : (Int × Int)) a w => Sat G F 21 [(0, q0), (1, (.int .i64 s1.1)), (4, (.int .i64 0)), (5, (.int .i64 s1.2))] a w) (fun (o2 : ((Int) ⊕ (Unit))) e a w => (Sum.elim (fun o2 => And (e = (.exit 0)) (Sat G F 21 [(1, (.int .i64 o2)), (4, (.int .i64 0))] a w)) (fun o2 => And (e = .ret) (Sat G F 21 [(4, (.int .i64 (-1)))] a w))) o2) hlo2 (fun a w s => (Sat.mk (s.env.le ⟨rfl, rfl, rfl, rfl, trivial⟩) (s.mem))) ?_ ?_
  · clear hm
    intro s1 x hm a w hJ
    have s := hJ
    unfold laws_heldInt64S_L1 at hm
    refine W.use s ?_
    refine W.seq ?_
    refine W.seq ?_
    refine W.region ?_
    refine WL.q (R.move rfl) rfl ?_
    refine WL.q (R.move rfl) rfl ?_
    refine WL.q (R.lenT rfl el43 (RdT.lift 0 rfl hp0)) rfl ?_
    refine WL.q (R.lss rfl rfl) rfl ?_
    refine WL.nil ?_
    refine Go.then_ ?_
    by_cases h9 : s1.2 < (p0.length : Int)
    · rw [if_pos h9] at hm
      refine W.cond_t rfl (decide_eq_true h9) ?_
      refine W.skip ?_
      refine Go.then_ ?_
      refine W.seq ?_
      refine W.block ?_
      refine W.seq ?_
      refine W.seq ?_
      refine W.region ?_
      refine WL.q (R.move rfl) rfl ?_
      refine WL.q (R.move rfl) rfl ?_
      obtain ⟨h10, hm⟩ := of_guard hm
      refine WL.q (R.idxT rfl rfl el43 (RdT.lift 0 rfl hp0) h10) rfl ?_
      refine WL.q (R.load rfl (At.elT (RdT.lift 0 rfl hp0) (by decide) h10) (Lies.one _ ia2)) rfl ?_
      refine WL.q (R.move rfl) rfl ?_
      refine WL.q (R.neq rfl rfl) rfl ?_
      refine WL.nil ?_
      refine Go.then_ ?_
      by_cases h11 : gl p0 s1.2 ≠ s1.1
      · rw [if_pos h11] at hm
        refine W.cond_t rfl (decide_eq_true h11) ?_
        refine W.seq ?_
        refine W.region ?_
        refine WL.q (R.assign rfl) rfl ?_
        refine WL.nil ?_
        refine Go.then_ ?_
        refine W.ret ?_
        refine Go.r_then ?_
        refine Go.r_block ?_
        refine Go.r_then ?_
        have he := Option.some.inj hm
        clear hm
        subst x
        exact fun a w s => Exists.intro _ (And.intro rfl (And.intro rfl (Sat.mk (s.env.le ⟨rfl, trivial⟩) (s.mem))))
      · rw [if_neg h11] at hm
        refine W.cond_f rfl (decide_eq_false h11) ?_
        refine W.skip ?_
        refine Go.then_ ?_
        refine W.region ?_
        refine WL.q (R.move rfl) rfl ?_
        refine WL.q (R.add rfl rfl) rfl ?_
        refine WL.q (R.assign rfl) rfl ?_
        refine WL.nil ?_
        refine Go.n_block ?_
        refine Go.then_ ?_
        refine W.region ?_
        refine WL.q (R.move rfl) rfl ?_
        refine WL.q (R.add rfl rfl) rfl ?_
        refine WL.q (R.assign rfl) rfl ?_
        refine WL.nil ?_
        have he := Option.some.inj hm
        clear hm
        subst x
        exact fun a w s => Exists.intro _ (And.intro rfl (Sat.mk (s.env.le ⟨rfl, rfl, rfl, rfl, trivial⟩) (s.mem)))
    · rw [if_neg h9] at hm
      refine W.cond_f rfl (decide_eq_false h9) ?_
      refine W.exit ?_
      refine Go.x_then ?_
      have he := Option.some.inj hm
      clear hm
      subst x
      exact fun a w s => Exists.intro _ (And.intro rfl (And.intro rfl (Sat.mk (s.env.le ⟨rfl, rfl, trivial⟩) (s.mem))))
  · intro e a w hJ
    rcases o2 with o2 | o2
    · simp only [Sum.elim_inl, Sum.elim_inr] at hm
      obtain ⟨rfl, s⟩ := hJ
      refine Go.use s ?_
      refine Go.x_block ?_
      refine Go.then_ ?_
      refine W.seq ?_
      refine W.region ?_
      refine WL.q (R.move rfl) rfl ?_
      refine WL.q (R.assign rfl) rfl ?_
      refine WL.nil ?_
      refine Go.then_ ?_
      refine W.ret ?_
      have he := Option.some.inj hm
      clear hm
      subst r
      exact Go.ret1 rfl (.tmp rfl) (fun w hw => ⟨_, rfl, _, ⟨(), rfl, rfl⟩, hw⟩)
    · simp only [Sum.elim_inl, Sum.elim_inr] at hm
      obtain ⟨rfl, s⟩ := hJ
      refine Go.use s ?_
      refine Go.r_block ?_
      refine Go.r_then ?_
      have he := Option.some.inj hm
      clear hm
      subst r
      exact Go.ret1 rfl (.tmp rfl) (fun w hw => ⟨_, rfl, _, ⟨(), rfl, rfl⟩, hw⟩)
set_option maxRecDepth 100000 in
theorem laws_heldInt64SS_tr {G : World} {F : List Res} (q0 : Value) (qs_0 : List Value) (p0 : (List (List Int))) (hp0 : RdN (Enc.int .i64) G F q0 qs_0 p0) (p1 : Int) {r : Int} (hm : laws_heldInt64SS p0 p1 = some r) : Tr Try.prog G 9 [q0, (.int .i64 p1)] F (fun u K => ∃ x : Unit, u = (.int .i64 r) ∧ K = F) := by
  unfold laws_heldInt64SS at hm
  refine Tr.body Try.func9 rfl Try.ntmps9 ?_
  refine W.seq ?_
  refine W.region ?_
  refine WL.q (R.assign rfl) rfl ?_
  refine WL.nil ?_
  refine Go.then_ ?_
  refine W.seq ?_
  refine W.seq ?_
  refine W.region ?_
  refine WL.q (R.assign rfl) rfl ?_
  refine WL.nil ?_
  refine Go.then_ ?_
  refine W.block ?_
  obtain ⟨o2, hlo2, hm⟩ := of_bind hm
  refine W.loopx (fun (s1 : (Int × Int)) a w => Sat G F 21 [(0, q0), (1, (.int .i64 s1.1)), (4, (.int .i64 0)), (5, (.int .i64 s1.2))] a w) (fun (o2 : ((Int) ⊕ (Unit))) e a w => (Sum.elim (fun o2 => And (e = (.exit 0)) (Sat G F 21 [(1, (.int .i64 o2)), (4, (.int .i64 0))] a w)) (fun o2 => And (e = .ret) (Sat G F 21 [(4, (.int .i64 (-1)))] a w))) o2) hlo2 (fun a w s => (Sat.mk (s.env.le ⟨rfl, rfl, rfl, rfl, trivial⟩) (s.mem))) ?_ ?_
  · clear hm
    intro s1 x hm a w hJ
    have s := hJ
    unfold laws_heldInt64SS_L1 at hm
    refine W.use s ?_
    refine W.seq ?_
    refine W.seq ?_
    refine W.region ?_
    refine WL.q (R.move rfl) rfl ?_
    refine WL.q (R.move rfl) rfl ?_
    refine WL.q (R.lenN rfl nl26 (RdN.lift 0 rfl hp0)) rfl ?_
    refine WL.q (R.lss rfl rfl) rfl ?_
    refine WL.nil ?_
    refine Go.then_ ?_
    by_cases h15 : s1.2 < (p0.length : Int)
    · rw [if_pos h15] at hm
      refine W.cond_t rfl (decide_eq_true h15) ?_
      refine W.skip ?_
      refine Go.then_ ?_
      refine W.seq ?_
      refine W.block ?_
      refine W.seq ?_
      refine W.region ?_
      refine WL.q (R.move rfl) rfl ?_
      refine WL.q (R.move rfl) rfl ?_
      obtain ⟨h16, hm⟩ := of_guard hm
      refine WL.q (R.idxN rfl rfl nl26 (RdN.lift 0 rfl hp0) h16) rfl ?_
      refine WL.q (R.load rfl (At.elN (RdN.lift 0 rfl hp0) h16) (Lies.one _ ia43)) rfl ?_
      refine WL.q (R.move rfl) rfl ?_
      obtain ⟨o17, h18, hm⟩ := of_bind hm
      refine WL.x (R.call rfl en18 (laws_heldInt64S_tr (gl qs_0 s1.2) (gl p0 s1.2) (RdN.inner (RdN.lift 0 rfl hp0) h16) s1.1 h18)) rfl fun x19 => ?_
      refine WL.q (R.assign rfl) rfl ?_
      refine WL.nil ?_
      refine Go.then_ ?_
      refine W.seq ?_
      refine W.region ?_
      refine WL.q (R.move rfl) rfl ?_
      refine WL.q (R.lss rfl rfl) rfl ?_
      refine WL.nil ?_
      refine Go.then_ ?_
      by_cases h20 : o17 < 0
      · rw [if_pos h20] at hm
        refine W.cond_t rfl (decide_eq_true h20) ?_
        refine W.seq ?_
        refine W.region ?_
        refine WL.q (R.assign rfl) rfl ?_
        refine WL.nil ?_
        refine Go.then_ ?_
        refine W.ret ?_
        refine Go.r_block ?_
        refine Go.r_then ?_
        have he := Option.some.inj hm
        clear hm
        subst x
        exact fun a w s => Exists.intro _ (And.intro rfl (And.intro rfl (Sat.mk (s.env.le ⟨rfl, trivial⟩) (s.mem))))
      · rw [if_neg h20] at hm
        refine W.cond_f rfl (decide_eq_false h20) ?_
        refine W.skip ?_
        refine Go.n_block ?_
        refine Go.then_ ?_
        refine W.region ?_
        refine WL.q (R.move rfl) rfl ?_
        refine WL.q (R.add rfl rfl) rfl ?_
        refine WL.q (R.assign rfl) rfl ?_
        refine WL.nil ?_
        have he := Option.some.inj hm
        clear hm
        subst x
        exact fun a w s => Exists.intro _ (And.intro rfl (Sat.mk (s.env.le ⟨rfl, rfl, rfl, rfl, trivial⟩) (s.mem)))
    · rw [if_neg h15] at hm
      refine W.cond_f rfl (decide_eq_false h15) ?_
      refine W.exit ?_
      refine Go.x_then ?_
      have he := Option.some.inj hm
      clear hm
      subst x
      exact fun a w s => Exists.intro _ (And.intro rfl (And.intro rfl (Sat.mk (s.env.le ⟨rfl, rfl, trivial⟩) (s.mem))))
  · intro e a w hJ
    rcases o2 with o2 | o2
    · simp only [Sum.elim_inl, Sum.elim_inr] at hm
      obtain ⟨rfl, s⟩ := hJ
      refine Go.use s ?_
      refine Go.x_block ?_
      refine Go.then_ ?_
      refine W.seq ?_
      refine W.region ?_
      refine WL.q (R.move rfl) rfl ?_
      refine WL.q (R.assign rfl) rfl ?_
      refine WL.nil ?_
      refine Go.then_ ?_
      refine W.ret ?_
      have he := Option.some.inj hm
      clear hm
      subst r
      exact Go.ret1 rfl (.tmp rfl) (fun w hw => ⟨_, rfl, _, ⟨(), rfl, rfl⟩, hw⟩)
    · simp only [Sum.elim_inl, Sum.elim_inr] at hm
      obtain ⟨rfl, s⟩ := hJ
      refine Go.use s ?_
      refine Go.r_block ?_
      refine Go.r_then ?_
      have he := Option.some.inj hm
      clear hm
      subst r
      exact Go.ret1 rfl (.tmp rfl) (fun w hw => ⟨_, rfl, _, ⟨(), rfl, rfl⟩, hw⟩)
set_option maxRecDepth 100000 in
theorem laws_FnExactAllNormal_tr {G : World} {F : List Res} (p0 : S_Square) {r : Bool} (hm : laws_FnExactAllNormal p0 = some r) : Tr Try.prog G 3 [(.agg (e_S_Square.cells p0).toArray)] F (fun u K => ∃ x : Unit, u = (.bool r) ∧ K = F) := by
  unfold laws_FnExactAllNormal at hm
  refine Tr.body Try.func3 rfl Try.ntmps3 ?_
  refine W.seq ?_
  refine W.region ?_
  refine WL.x (R.box rfl (cells_agg _)) rfl fun b1 => ?_
  refine WL.q (R.assign rfl) rfl ?_
  refine WL.nil ?_
  refine Go.then_ ?_
  refine W.seq ?_
  refine W.region ?_
  refine WL.q (R.load rfl (At.bx 0 rfl (Sub.refl _)) (lies_agg e_S_Square p0 ia25 sz25)) rfl ?_
  obtain ⟨o2, h3, hm⟩ := of_bind hm
  refine WL.x (R.call rfl en5 (laws_toSquare_tr p0 h3)) rfl fun x4 => ?_
  obtain ⟨o5, h6, hm⟩ := of_bind hm
  refine WL.x (R.call rfl en4 (spec_AllNormal_tr o2 h6)) rfl fun x7 => ?_
  refine WL.q (R.move rfl) rfl ?_
  refine WL.q (R.extract rfl rfl) rfl ?_
  refine WL.q (R.extract rfl rfl) rfl ?_
  refine WL.q (R.assign rfl) rfl ?_
  refine WL.q (R.assign rfl) rfl ?_
  refine WL.nil ?_
  refine Go.then_ ?_
  refine W.seq ?_
  refine W.region ?_
  refine WL.q (R.load rfl (At.bx 1 rfl (Sub.refl _)) (lies_agg e_S_Square p0 ia25 sz25)) rfl ?_
  obtain ⟨o8, h9, hm⟩ := of_bind hm
  refine WL.x (R.call rfl en5 (laws_toSquare_tr p0 h9)) rfl fun x10 => ?_
  obtain ⟨o11, h12, hm⟩ := of_bind hm
  refine WL.x (R.call rfl en6 (impl_AllNormal_tr o8 h12)) rfl fun x13 => ?_
  refine WL.q (R.move rfl) rfl ?_
  refine WL.q (R.extract rfl rfl) rfl ?_
  refine WL.q (R.extract rfl rfl) rfl ?_
  refine WL.q (R.assign rfl) rfl ?_
  refine WL.q (R.assign rfl) rfl ?_
  refine WL.nil ?_
  refine Go.then_ ?_
  refine W.seq ?_
  obtain ⟨o18, hm, hmo18⟩ := of_bind hm
  refine W.seq ?_
  refine W.join (fun e a w => And (e = .normal) (Sat G ((ns (Enc.int .i64) x13.1 x13.2 o11.1) :: (nr (Enc.int .i64) x7.1 x7.2 o5.1) :: (bx b1 (e_S_Square.cells p0)) :: F) 66 [(1, (.pointer (some ⟨b1, 0, none⟩))), (2, (.bool false)), (3, x7.1), (4, (.int .i64 o5.2)), (5, x13.1), (31, (.bool o18))] a w)) ?_ ?_
  · refine W.region ?_
    refine WL.q (R.move rfl) rfl ?_
    refine WL.q (R.move rfl) rfl ?_
    obtain ⟨o14, h15, hm⟩ := of_bind hm
    refine WL.x (R.call rfl en7 (laws_eqInt64SS_tr x13.1 x13.2 o11.1 (RdN.at 0 rfl) x7.1 x7.2 o5.1 (RdN.atR 1 rfl) h15)) rfl fun x16 => ?_
    refine WL.q (R.not rfl) rfl ?_
    refine WL.q (R.move rfl) rfl ?_
    by_cases h17 : o14 = true
    · rw [if_pos h17] at hm
      refine WL.on rfl rfl (not_f h17) ?_
      refine WL.q (R.move rfl) rfl ?_
      refine WL.on rfl rfl (not_f h17) ?_
      refine WL.q (R.move rfl) rfl ?_
      refine WL.on rfl rfl (not_f h17) ?_
      refine WL.q (R.neq rfl rfl) rfl ?_
      refine WL.q (R.pick_f rfl (not_f h17) rfl) rfl ?_
      refine WL.nil ?_
      have he := Option.some.inj hm
      clear hm
      subst o18
      exact fun a w s => And.intro rfl (Sat.mk (s.env.le ⟨rfl, rfl, rfl, rfl, rfl, rfl, trivial⟩) (s.mem))
    · rw [if_neg h17] at hm
      refine WL.off rfl rfl (not_t (b_f h17)) rfl ?_
      refine WL.off rfl rfl (not_t (b_f h17)) rfl ?_
      refine WL.off rfl rfl (not_t (b_f h17)) rfl ?_
      refine WL.q (R.pick_t rfl (not_t (b_f h17)) rfl) rfl ?_
      refine WL.nil ?_
      have he := Option.some.inj hm
      clear hm
      subst o18
      exact fun a w s => And.intro rfl (Sat.mk (s.env.le ⟨rfl, rfl, rfl, rfl, rfl, rfl, trivial⟩) (s.mem))
  · intro e a w hJ
    replace hm := hmo18
    clear hmo18
    obtain ⟨rfl, s⟩ := hJ
    refine Go.use s ?_
    refine Go.then_ ?_
    by_cases h19 : o18 = true
    · rw [if_pos h19] at hm
      refine W.cond_t rfl h19 ?_
      refine W.seq ?_
      refine W.region ?_
      refine WL.q (R.assign rfl) rfl ?_
      refine WL.nil ?_
      refine Go.then_ ?_
      refine W.ret ?_
      refine Go.r_then ?_
      have he := Option.some.inj hm
      clear hm
      subst r
      exact Go.ret1 rfl (.tmp rfl) (fun w hw => ⟨_, rfl, _, ⟨(), rfl, rfl⟩, hw.reord [] 3 rfl⟩)
    · rw [if_neg h19] at hm
      refine W.cond_f rfl (b_f h19) ?_
      refine W.skip ?_
      refine Go.then_ ?_
      refine W.seq ?_
      refine W.region ?_
      refine WL.q (R.assign rfl) rfl ?_
      refine WL.nil ?_
      refine Go.then_ ?_
      refine W.seq ?_
      refine W.region ?_
      refine WL.q (R.move rfl) rfl ?_
      refine WL.q (R.move rfl) rfl ?_
      obtain ⟨o20, h21, hm⟩ := of_bind hm
      refine WL.x ((R.call rfl en8 (laws_markInt64SS_tr (F := ((nr (Enc.int .i64) x7.1 x7.2 o5.1) :: (bx b1 (e_S_Square.cells p0)) :: F)) x13.1 x13.2 o11.1 1 h21)).weak (fun w hw => hw.reord [0, 1, 2] 3 rfl)) rfl fun x22 => ?_
      refine WL.q (R.assign rfl) rfl ?_
      refine WL.nil ?_
      refine Go.then_ ?_
      refine W.seq ?_
      refine W.region ?_
      refine WL.q (R.assign rfl) rfl ?_
      refine WL.nil ?_
      refine Go.then_ ?_
      refine W.seq ?_
      refine W.region ?_
      refine WL.q (R.move rfl) rfl ?_
      refine WL.q (R.move rfl) rfl ?_
      obtain ⟨o23, h24, hm⟩ := of_bind hm
      refine WL.x (R.call rfl en9 (laws_heldInt64SS_tr x13.1 x13.2 o20.2 (RdN.at 0 rfl) 1 h24)) rfl fun x25 => ?_
      refine WL.q (R.assign rfl) rfl ?_
      refine WL.nil ?_
      refine Go.then_ ?_
      refine W.seq ?_
      refine W.seq ?_
      refine W.region ?_
      refine WL.q (R.move rfl) rfl ?_
      refine WL.q (R.lss rfl rfl) rfl ?_
      refine WL.nil ?_
      refine Go.then_ ?_
      by_cases h26 : o23 < 0
      · rw [if_pos h26] at hm
        refine W.cond_t rfl (decide_eq_true h26) ?_
        refine W.seq ?_
        refine W.region ?_
        refine WL.q (R.assign rfl) rfl ?_
        refine WL.nil ?_
        refine Go.then_ ?_
        refine W.ret ?_
        refine Go.r_then ?_
        have he := Option.some.inj hm
        clear hm
        subst r
        exact Go.ret1 rfl (.tmp rfl) (fun w hw => ⟨_, rfl, _, ⟨(), rfl, rfl⟩, hw.reord [] 3 rfl⟩)
      · rw [if_neg h26] at hm
        refine W.cond_f rfl (decide_eq_false h26) ?_
        refine W.skip ?_
        refine Go.then_ ?_
        refine W.seq ?_
        refine W.seq ?_
        refine W.region ?_
        refine WL.q (R.move rfl) rfl ?_
        refine WL.q (R.move rfl) rfl ?_
        refine WL.q (R.neq rfl rfl) rfl ?_
        refine WL.nil ?_
        refine Go.then_ ?_
        by_cases h27 : o23 ≠ o20.1
        · rw [if_pos h27] at hm
          refine W.cond_t rfl (decide_eq_true h27) ?_
          refine W.seq ?_
          refine W.region ?_
          refine WL.q (R.assign rfl) rfl ?_
          refine WL.nil ?_
          refine Go.then_ ?_
          refine W.ret ?_
          refine Go.r_then ?_
          have he := Option.some.inj hm
          clear hm
          subst r
          exact Go.ret1 rfl (.tmp rfl) (fun w hw => ⟨_, rfl, _, ⟨(), rfl, rfl⟩, hw.reord [] 3 rfl⟩)
        · rw [if_neg h27] at hm
          refine W.cond_f rfl (decide_eq_false h27) ?_
          refine W.skip ?_
          refine Go.then_ ?_
          refine W.seq ?_
          refine W.region ?_
          refine WL.q (R.load rfl (At.bx 2 rfl (Sub.refl _)) (lies_agg e_S_Square p0 ia25 sz25)) rfl ?_
          obtain ⟨o28, h29, hm⟩ := of_bind hm
          refine WL.x (R.call rfl en5 (laws_toSquare_tr p0 h29)) rfl fun x30 => ?_
          obtain ⟨o31, h32, hm⟩ := of_bind hm
          refine WL.x (R.call rfl en6 (impl_AllNormal_tr o28 h32)) rfl fun x33 => ?_
          refine WL.q (R.move rfl) rfl ?_
          refine WL.q (R.extract rfl rfl) rfl ?_
          refine WL.q (R.extract rfl rfl) rfl ?_
          refine WL.q (R.assign rfl) rfl ?_
          refine WL.q (R.assign rfl) rfl ?_
          refine WL.nil ?_
          refine Go.then_ ?_
          refine W.seq ?_
          obtain ⟨o38, hm, hmo38⟩ := of_bind hm
          refine W.seq ?_
          refine W.join (fun e a w => And (e = .normal) (Sat G ((ns (Enc.int .i64) x13.1 x13.2 o20.2) :: F) 66 [(2, (.bool false)), (5, x13.1), (7, (.int .i64 o20.1)), (57, (.bool o38))] a w)) ?_ ?_
          · refine W.region ?_
            refine WL.q (R.move rfl) rfl ?_
            refine WL.q (R.move rfl) rfl ?_
            obtain ⟨o34, h35, hm⟩ := of_bind hm
            refine WL.x (R.call rfl en7 (laws_eqInt64SS_tr x33.1 x33.2 o31.1 (RdN.at 0 rfl) x7.1 x7.2 o5.1 (RdN.atR 2 rfl) h35)) rfl fun x36 => ?_
            refine WL.q (R.not rfl) rfl ?_
            refine WL.q (R.move rfl) rfl ?_
            by_cases h37 : o34 = true
            · rw [if_pos h37] at hm
              refine WL.on rfl rfl (not_f h37) ?_
              refine WL.q (R.move rfl) rfl ?_
              refine WL.on rfl rfl (not_f h37) ?_
              refine WL.q (R.move rfl) rfl ?_
              refine WL.on rfl rfl (not_f h37) ?_
              refine WL.q (R.neq rfl rfl) rfl ?_
              refine WL.q (R.pick_f rfl (not_f h37) rfl) rfl ?_
              refine WL.nil ?_
              have he := Option.some.inj hm
              clear hm
              subst o38
              exact fun a w s => And.intro rfl (Sat.mk (s.env.le ⟨rfl, rfl, rfl, rfl, trivial⟩) (s.mem.reord [1] 4 rfl))
            · rw [if_neg h37] at hm
              refine WL.off rfl rfl (not_t (b_f h37)) rfl ?_
              refine WL.off rfl rfl (not_t (b_f h37)) rfl ?_
              refine WL.off rfl rfl (not_t (b_f h37)) rfl ?_
              refine WL.q (R.pick_t rfl (not_t (b_f h37)) rfl) rfl ?_
              refine WL.nil ?_
              have he := Option.some.inj hm
              clear hm
              subst o38
              exact fun a w s => And.intro rfl (Sat.mk (s.env.le ⟨rfl, rfl, rfl, rfl, trivial⟩) (s.mem.reord [1] 4 rfl))
          · intro e a w hJ
            replace hm := hmo38
            clear hmo38
            obtain ⟨rfl, s⟩ := hJ
            refine Go.use s ?_
            refine Go.then_ ?_
            by_cases h39 : o38 = true
            · rw [if_pos h39] at hm
              refine W.cond_t rfl h39 ?_
              refine W.seq ?_
              refine W.region ?_
              refine WL.q (R.assign rfl) rfl ?_
              refine WL.nil ?_
              refine Go.then_ ?_
              refine W.ret ?_
              refine Go.r_then ?_
              have he := Option.some.inj hm
              clear hm
              subst r
              exact Go.ret1 rfl (.tmp rfl) (fun w hw => ⟨_, rfl, _, ⟨(), rfl, rfl⟩, hw.reord [] 1 rfl⟩)
            · rw [if_neg h39] at hm
              refine W.cond_f rfl (b_f h39) ?_
              refine W.skip ?_
              refine Go.then_ ?_
              refine W.seq ?_
              refine W.region ?_
              refine WL.q (R.assign rfl) rfl ?_
              refine WL.nil ?_
              refine Go.then_ ?_
              refine W.seq ?_
              refine W.region ?_
              refine WL.q (R.move rfl) rfl ?_
              refine WL.q (R.move rfl) rfl ?_
              obtain ⟨o40, h41, hm⟩ := of_bind hm
              refine WL.x (R.call rfl en9 (laws_heldInt64SS_tr x13.1 x13.2 o20.2 (RdN.at 0 rfl) 1 h41)) rfl fun x42 => ?_
              refine WL.q (R.assign rfl) rfl ?_
              refine WL.nil ?_
              refine Go.then_ ?_
              refine W.seq ?_
              refine W.seq ?_
              refine W.region ?_
              refine WL.q (R.move rfl) rfl ?_
              refine WL.q (R.lss rfl rfl) rfl ?_
              refine WL.nil ?_
              refine Go.then_ ?_
              by_cases h43 : o40 < 0
              · rw [if_pos h43] at hm
                refine W.cond_t rfl (decide_eq_true h43) ?_
                refine W.seq ?_
                refine W.region ?_
                refine WL.q (R.assign rfl) rfl ?_
                refine WL.nil ?_
                refine Go.then_ ?_
                refine W.ret ?_
                refine Go.r_then ?_
                have he := Option.some.inj hm
                clear hm
                subst r
                exact Go.ret1 rfl (.tmp rfl) (fun w hw => ⟨_, rfl, _, ⟨(), rfl, rfl⟩, hw.reord [] 1 rfl⟩)
              · rw [if_neg h43] at hm
                refine W.cond_f rfl (decide_eq_false h43) ?_
                refine W.skip ?_
                refine Go.then_ ?_
                refine W.seq ?_
                refine W.seq ?_
                refine W.region ?_
                refine WL.q (R.move rfl) rfl ?_
                refine WL.q (R.move rfl) rfl ?_
                refine WL.q (R.neq rfl rfl) rfl ?_
                refine WL.nil ?_
                refine Go.then_ ?_
                by_cases h44 : o40 ≠ o20.1
                · rw [if_pos h44] at hm
                  refine W.cond_t rfl (decide_eq_true h44) ?_
                  refine W.seq ?_
                  refine W.region ?_
                  refine WL.q (R.assign rfl) rfl ?_
                  refine WL.nil ?_
                  refine Go.then_ ?_
                  refine W.ret ?_
                  refine Go.r_then ?_
                  have he := Option.some.inj hm
                  clear hm
                  subst r
                  exact Go.ret1 rfl (.tmp rfl) (fun w hw => ⟨_, rfl, _, ⟨(), rfl, rfl⟩, hw.reord [] 1 rfl⟩)
                · rw [if_neg h44] at hm
                  refine W.cond_f rfl (decide_eq_false h44) ?_
                  refine W.skip ?_
                  refine Go.then_ ?_
                  refine W.seq ?_
                  refine W.region ?_
                  refine WL.q (R.assign rfl) rfl ?_
                  refine WL.nil ?_
                  refine Go.then_ ?_
                  refine W.ret ?_
                  have he := Option.some.inj hm
                  clear hm
                  subst r
                  exact Go.ret1 rfl (.tmp rfl) (fun w hw => ⟨_, rfl, _, ⟨(), rfl, rfl⟩, hw.reord [] 1 rfl⟩)
end Go.Proofs.Ytekmmbgbhjeoaaa
