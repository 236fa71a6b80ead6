/- Printed by a program of the claim's own: the walks: what the machine's calls answer is what the plain functions answer. No condition. -/
import Derived.Test.YtekmmbgbhjeoaaaZW0
set_option linter.unusedVariables false
set_option linter.unusedSimpArgs false
namespace Go.Proofs.Ytekmmbgbhjeoaaa
open Go Go.Sx Go.Mi
set_option maxRecDepth 100000 in
theorem slices_IndexFunc_impl_set_impl_set_tr {G : World} {F : List Res} (q0 : Value) (p0 : (List Int)) (hp0 : RdT (Enc.int .i64) G F q0 p0) (g1 : FuncId) (fs1 cs1 : List Value) (f1 : Int → Option Bool) (en_1 : Enters Try.prog g1) (hf1 : ∀ (L : List Res) (a0 : Int) (r : Bool), f1 a0 = some r → Tr Try.prog G g1 (fs1 ++ [(.int .i64 a0)] ++ cs1) (L ++ F) (fun u K => ∃ x : Unit, u = (.bool r) ∧ K = L ++ F)) {r : Int} (hm : slices_IndexFunc_impl_set_impl_set p0 f1 = some r) : Tr Try.prog G 41 [q0, (.func (.func g1) fs1.toArray cs1.toArray)] F (fun u K => ∃ x : Unit, u = (.int .i64 r) ∧ K = F) := by
  unfold slices_IndexFunc_impl_set_impl_set at hm
  refine Tr.body Try.func41 rfl Try.ntmps41 ?_
  refine W.seq ?_
  refine W.region ?_
  refine WL.q (R.assign rfl) rfl ?_
  refine WL.nil ?_
  refine Go.then_ ?_
  refine W.seq ?_
  refine W.seq ?_
  refine W.region ?_
  refine WL.q (R.move rfl) rfl ?_
  refine WL.q (R.lenT rfl el40 (RdT.lift 0 rfl hp0)) rfl ?_
  refine WL.q (R.move rfl) rfl ?_
  refine WL.nil ?_
  refine Go.then_ ?_
  refine W.block ?_
  obtain ⟨o2, hlo2, hm⟩ := of_bind hm
  refine W.loopx (fun (s1 : Int) a w => Sat G F 19 [(0, q0), (1, (.func (.func g1) fs1.toArray cs1.toArray)), (4, (.int .i64 0)), (7, (.int .i64 (p0.length : Int))), (8, (.int .i64 s1))] a w) (fun (o2 : ((Unit) ⊕ (Int))) e a w => (Sum.elim (fun o2 => And (e = (.exit 0)) (Sat G F 19 [(4, (.int .i64 0))] a w)) (fun o2 => And (e = .ret) (Sat G F 19 [(4, (.int .i64 o2))] a w))) o2) hlo2 (fun a w s => (Sat.mk (s.env.le ⟨rfl, rfl, rfl, rfl, rfl, trivial⟩) (s.mem))) ?_ ?_
  · clear hm
    intro s1 x hm a w hJ
    have s := hJ
    unfold slices_IndexFunc_impl_set_impl_set_L1 at hm
    refine W.use s ?_
    refine W.seq ?_
    refine W.region ?_
    refine WL.q (R.lss rfl rfl) rfl ?_
    refine WL.nil ?_
    refine Go.then_ ?_
    refine W.seq ?_
    by_cases h15 : s1 < (p0.length : Int)
    · rw [if_pos h15] at hm
      refine W.cond_t rfl (decide_eq_true h15) ?_
      refine W.skip ?_
      refine Go.then_ ?_
      refine W.seq ?_
      refine W.block ?_
      refine W.seq ?_
      refine W.region ?_
      refine WL.q (R.move rfl) rfl ?_
      refine WL.q (R.assign rfl) rfl ?_
      refine WL.nil ?_
      refine Go.then_ ?_
      refine W.seq ?_
      refine W.region ?_
      refine WL.q (R.move rfl) rfl ?_
      refine WL.q (R.move rfl) rfl ?_
      refine WL.q (R.move rfl) rfl ?_
      obtain ⟨h16, hm⟩ := of_guard hm
      refine WL.q (R.idxT rfl rfl el40 (RdT.lift 0 rfl hp0) h16) rfl ?_
      refine WL.q (R.load rfl (At.elT (RdT.lift 0 rfl hp0) (by decide) h16) (Lies.one _ ia50)) rfl ?_
      obtain ⟨o17, h18, hm⟩ := of_bind hm
      refine WL.x (R.callAny (fs := fs1) (cs := cs1) (vs := [(.int .i64 (gl p0 s1))]) rfl rfl en_1 (hf1 [] (gl p0 s1) _ h18)) rfl fun x19 => ?_
      refine WL.nil ?_
      refine Go.then_ ?_
      by_cases h20 : o17 = true
      · rw [if_pos h20] at hm
        refine W.cond_t rfl h20 ?_
        refine W.seq ?_
        refine W.region ?_
        refine WL.q (R.move rfl) rfl ?_
        refine WL.q (R.assign rfl) rfl ?_
        refine WL.nil ?_
        refine Go.then_ ?_
        refine W.ret ?_
        refine Go.r_block ?_
        refine Go.r_then ?_
        have he := Option.some.inj hm
        clear hm
        subst x
        exact fun a w s => Exists.intro _ (And.intro rfl (And.intro rfl (Sat.mk (s.env.le ⟨rfl, trivial⟩) (s.mem))))
      · rw [if_neg h20] at hm
        refine W.cond_f rfl (b_f h20) ?_
        refine W.skip ?_
        refine Go.n_block ?_
        refine Go.then_ ?_
        refine W.region ?_
        refine WL.q (R.add rfl rfl) rfl ?_
        refine WL.q (R.move rfl) rfl ?_
        refine WL.nil ?_
        have he := Option.some.inj hm
        clear hm
        subst x
        exact fun a w s => Exists.intro _ (And.intro rfl (Sat.mk (s.env.le ⟨rfl, rfl, rfl, rfl, rfl, trivial⟩) (s.mem)))
    · rw [if_neg h15] at hm
      refine W.cond_f rfl (decide_eq_false h15) ?_
      refine W.exit ?_
      refine Go.x_then ?_
      have he := Option.some.inj hm
      clear hm
      subst x
      exact fun a w s => Exists.intro _ (And.intro rfl (And.intro rfl (Sat.mk (s.env.le ⟨rfl, trivial⟩) (s.mem))))
  · intro e a w hJ
    rcases o2 with o2 | o2
    · simp only [Sum.elim_inl, Sum.elim_inr] at hm
      obtain ⟨rfl, s⟩ := hJ
      refine Go.use s ?_
      refine Go.x_block ?_
      refine Go.then_ ?_
      refine W.seq ?_
      refine W.region ?_
      refine WL.q (R.assign rfl) rfl ?_
      refine WL.nil ?_
      refine Go.then_ ?_
      refine W.ret ?_
      have he := Option.some.inj hm
      clear hm
      subst r
      exact Go.ret1 rfl (.tmp rfl) (fun w hw => ⟨_, rfl, _, ⟨(), rfl, rfl⟩, hw⟩)
    · simp only [Sum.elim_inl, Sum.elim_inr] at hm
      obtain ⟨rfl, s⟩ := hJ
      refine Go.use s ?_
      refine Go.r_block ?_
      refine Go.r_then ?_
      have he := Option.some.inj hm
      clear hm
      subst r
      exact Go.ret1 rfl (.tmp rfl) (fun w hw => ⟨_, rfl, _, ⟨(), rfl, rfl⟩, hw⟩)
set_option maxRecDepth 100000 in
theorem slices_DeleteFunc_impl_set_impl_set_tr {G : World} {F : List Res} (q0 : Value) (p0 : (List Int)) (g1 : FuncId) (fs1 cs1 : List Value) (f1 : Int → Option Bool) (en_1 : Enters Try.prog g1) (hf1 : ∀ (L : List Res) (a0 : Int) (r : Bool), f1 a0 = some r → Tr Try.prog G g1 (fs1 ++ [(.int .i64 a0)] ++ cs1) (L ++ F) (fun u K => ∃ x : Unit, u = (.bool r) ∧ K = L ++ F)) {r : (List Int)} (hm : slices_DeleteFunc_impl_set_impl_set p0 f1 = some r) : Tr Try.prog G 27 [q0, (.func (.func g1) fs1.toArray cs1.toArray)] ((slT (Enc.int .i64) q0 p0) :: F) (fun u K => ∃ x : Value, u = x ∧ K = ((slT (Enc.int .i64) x r) :: F)) := by
  unfold slices_DeleteFunc_impl_set_impl_set at hm
  refine Tr.body Try.func27 rfl Try.ntmps27 ?_
  refine W.seq ?_
  refine W.region ?_
  refine WL.q (R.assign rfl) rfl ?_
  refine WL.nil ?_
  refine Go.then_ ?_
  refine W.seq ?_
  refine W.region ?_
  refine WL.q (R.move rfl) rfl ?_
  refine WL.q (R.move rfl) rfl ?_
  obtain ⟨o1, h2, hm⟩ := of_bind hm
  refine WL.x (R.call rfl en41 (slices_IndexFunc_impl_set_impl_set_tr q0 p0 (RdT.at 0 rfl) g1 fs1 cs1 f1 en_1 (fun L a0 r h => by have q := hf1 (L ++ [(slT (Enc.int .i64) q0 p0)]) a0 r h; simpa only [List.append_assoc, List.cons_append, List.nil_append] using q) h2)) rfl fun x3 => ?_
  refine WL.q (R.assign rfl) rfl ?_
  refine WL.nil ?_
  refine Go.then_ ?_
  refine W.seq ?_
  refine W.seq ?_
  refine W.region ?_
  refine WL.q (R.move rfl) rfl ?_
  refine WL.q (R.eql rfl rfl) rfl ?_
  refine WL.nil ?_
  refine Go.then_ ?_
  by_cases h4 : o1 = (-1)
  · rw [if_pos h4] at hm
    refine W.cond_t rfl (decide_eq_true h4) ?_
    refine W.seq ?_
    refine W.region ?_
    refine WL.q (R.move rfl) rfl ?_
    refine WL.q (R.assign rfl) rfl ?_
    refine WL.nil ?_
    refine Go.then_ ?_
    refine W.ret ?_
    refine Go.r_then ?_
    have he := Option.some.inj hm
    clear hm
    subst r
    exact Go.ret1 rfl (.tmp rfl) (fun w hw => ⟨_, rfl, _, ⟨q0, rfl, rfl⟩, hw⟩)
  · rw [if_neg h4] at hm
    refine W.cond_f rfl (decide_eq_false h4) ?_
    refine W.skip ?_
    refine Go.then_ ?_
    refine W.seq ?_
    refine W.seq ?_
    refine W.region ?_
    refine WL.q (R.move rfl) rfl ?_
    refine WL.q (R.add rfl rfl) rfl ?_
    refine WL.q (R.assign rfl) rfl ?_
    refine WL.nil ?_
    refine Go.then_ ?_
    refine W.block ?_
    obtain ⟨o6, hlo6, hm⟩ := of_bind hm
    refine W.loopx (fun (s5 : ((List Int) × Int × Int)) a w => Sat G ((slT (Enc.int .i64) q0 s5.1) :: F) 42 [(0, q0), (1, (.func (.func g1) fs1.toArray cs1.toArray)), (4, (.slice none 0 0)), (5, (.int .i64 s5.2.1)), (6, (.int .i64 s5.2.2))] a w) (fun (o6 : ((List Int) × Int)) e a w => And (e = (.exit 0)) (Sat G ((slT (Enc.int .i64) q0 o6.1) :: F) 42 [(0, q0), (4, (.slice none 0 0)), (5, (.int .i64 o6.2))] a w)) hlo6 (fun a w s => (Sat.mk (s.env.le ⟨rfl, rfl, rfl, rfl, rfl, trivial⟩) (s.mem))) ?_ ?_
    · clear hm
      intro s5 x hm a w hJ
      have s := hJ
      unfold slices_DeleteFunc_impl_set_impl_set_L1 at hm
      refine W.use s ?_
      refine W.seq ?_
      refine W.seq ?_
      refine W.region ?_
      refine WL.q (R.move rfl) rfl ?_
      refine WL.q (R.move rfl) rfl ?_
      refine WL.q (R.lenT rfl el40 (RdT.at 0 rfl)) rfl ?_
      refine WL.q (R.lss rfl rfl) rfl ?_
      refine WL.nil ?_
      refine Go.then_ ?_
      by_cases h23 : s5.2.2 < (s5.1.length : Int)
      · rw [if_pos h23] at hm
        refine W.cond_t rfl (decide_eq_true h23) ?_
        refine W.skip ?_
        refine Go.then_ ?_
        obtain ⟨o30, hm, hmo30⟩ := of_bind hm
        refine W.seq ?_
        refine W.join (fun e a w => And (e = .normal) (Sat G ((slT (Enc.int .i64) q0 o30.1) :: F) 42 [(0, q0), (1, (.func (.func g1) fs1.toArray cs1.toArray)), (4, (.slice none 0 0)), (5, (.int .i64 o30.2)), (6, (.int .i64 s5.2.2))] a w)) ?_ ?_
        · refine W.block ?_
          refine W.seq ?_
          refine W.region ?_
          refine WL.q (R.move rfl) rfl ?_
          refine WL.q (R.move rfl) rfl ?_
          obtain ⟨h24, hm⟩ := of_guard hm
          refine WL.q (R.idxT rfl rfl el40 (RdT.at 0 rfl) h24) rfl ?_
          refine WL.q (R.load rfl (At.elT (RdT.at 0 rfl) (by decide) h24) (Lies.one _ ia50)) rfl ?_
          refine WL.q (R.assign rfl) rfl ?_
          refine WL.nil ?_
          refine Go.then_ ?_
          refine W.seq ?_
          refine W.region ?_
          refine WL.q (R.move rfl) rfl ?_
          refine WL.q (R.move rfl) rfl ?_
          obtain ⟨o25, h26, hm⟩ := of_bind hm
          refine WL.x (R.callAny (fs := fs1) (cs := cs1) (vs := [(.int .i64 (gl s5.1 s5.2.2))]) rfl rfl en_1 (hf1 [(slT (Enc.int .i64) q0 s5.1)] (gl s5.1 s5.2.2) _ h26)) rfl fun x27 => ?_
          refine WL.q (R.not rfl) rfl ?_
          refine WL.nil ?_
          refine Go.then_ ?_
          by_cases h28 : o25 = true
          · rw [if_pos h28] at hm
            refine W.cond_f rfl (not_f h28) ?_
            refine W.skip ?_
            refine Go.n_block ?_
            have he := Option.some.inj hm
            clear hm
            subst o30
            exact fun a w s => And.intro rfl (Sat.mk (s.env.le ⟨rfl, rfl, rfl, rfl, rfl, trivial⟩) (s.mem))
          · rw [if_neg h28] at hm
            refine W.cond_t rfl (not_t (b_f h28)) ?_
            refine W.seq ?_
            refine W.region ?_
            refine WL.q (R.move rfl) rfl ?_
            refine WL.q (R.move rfl) rfl ?_
            refine WL.q (R.move rfl) rfl ?_
            obtain ⟨h29, hm⟩ := of_guard hm
            refine WL.q (R.idxT rfl rfl el40 (RdT.at 0 rfl) h29) rfl ?_
            refine WL.x0 (R.storeT (i := 0) (gl s5.1 s5.2.2) rfl rfl rfl (fits_int sz50) (by decide) h29) fun _ => ?_
            refine WL.nil ?_
            refine Go.then_ ?_
            refine W.region ?_
            refine WL.q (R.move rfl) rfl ?_
            refine WL.q (R.add rfl rfl) rfl ?_
            refine WL.q (R.assign rfl) rfl ?_
            refine WL.nil ?_
            refine Go.n_block ?_
            have he := Option.some.inj hm
            clear hm
            subst o30
            exact fun a w s => And.intro rfl (Sat.mk (s.env.le ⟨rfl, rfl, rfl, rfl, rfl, trivial⟩) (s.mem))
        · intro e a w hJ
          replace hm := hmo30
          clear hmo30
          obtain ⟨rfl, s⟩ := hJ
          refine Go.use s ?_
          refine Go.then_ ?_
          refine W.region ?_
          refine WL.q (R.move rfl) rfl ?_
          refine WL.q (R.add rfl rfl) rfl ?_
          refine WL.q (R.assign rfl) rfl ?_
          refine WL.nil ?_
          have he := Option.some.inj hm
          clear hm
          subst x
          exact fun a w s => Exists.intro _ (And.intro rfl (Sat.mk (s.env.le ⟨rfl, rfl, rfl, rfl, rfl, trivial⟩) (s.mem)))
      · rw [if_neg h23] at hm
        refine W.cond_f rfl (decide_eq_false h23) ?_
        refine W.exit ?_
        refine Go.x_then ?_
        have he := Option.some.inj hm
        clear hm
        subst x
        exact fun a w s => Exists.intro _ (And.intro rfl (And.intro rfl (Sat.mk (s.env.le ⟨rfl, rfl, rfl, trivial⟩) (s.mem))))
    · intro e a w hJ
      obtain ⟨rfl, s⟩ := hJ
      refine Go.use s ?_
      refine Go.x_block ?_
      refine Go.then_ ?_
      refine W.seq ?_
      refine W.region ?_
      refine WL.q (R.move rfl) rfl ?_
      refine WL.q (R.move rfl) rfl ?_
      obtain ⟨h31, hm⟩ := of_guard hm
      refine WL.q (R.cutT rfl el40 (RdT.at 0 rfl) h31 (.at rfl) .no) rfl ?_
      refine WL.x0 (R.clearT (i := 0) rfl rfl el40 h31) fun _ => ?_
      refine WL.nil ?_
      refine Go.then_ ?_
      refine W.seq ?_
      refine W.region ?_
      refine WL.q (R.move rfl) rfl ?_
      refine WL.q (R.move rfl) rfl ?_
      obtain ⟨h32, hm⟩ := of_guard hm
      refine WL.q (R.cutT rfl el40 (RdT.at 0 rfl) h32 .no (.at rfl)) rfl ?_
      refine WL.q (R.assign rfl) rfl ?_
      refine WL.nil ?_
      refine Go.then_ ?_
      refine W.ret ?_
      have he := Option.some.inj hm
      clear hm
      subst r
      exact Go.ret1 rfl (.tmp rfl) (fun w hw => ⟨_, rfl, _, ⟨(cutv q0 (0 : Int).toNat (o6.2 : Int).toNat (Enc.int .i64).size), rfl, rfl⟩, (hw).cutT h32⟩)
set_option maxRecDepth 100000 in
theorem impl_Square_all_tr {G : World} {F : List Res} (p0 : S_Square) {r : Int} (hm : impl_Square_all p0 = some r) : Tr Try.prog G 42 [(.agg (e_S_Square.cells p0).toArray)] F (fun u K => ∃ x : Unit, u = (.int .i64 r) ∧ K = F) := by
  unfold impl_Square_all at hm
  refine Tr.body Try.func42 rfl Try.ntmps42 ?_
  refine W.seq ?_
  refine W.region ?_
  refine WL.x (R.box rfl (cells_agg _)) rfl fun b1 => ?_
  refine WL.q (R.assign rfl) rfl ?_
  refine WL.nil ?_
  refine Go.then_ ?_
  refine W.seq ?_
  refine W.region ?_
  refine WL.q (R.fieldAddr rfl fa31_0) rfl ?_
  refine WL.q (R.load rfl (At.sub (At.bx 0 rfl (Sub.refl _)) (e_S_Square_s0 p0)) (Lies.one _ ia2)) rfl ?_
  obtain ⟨h2, hm⟩ := of_guard hm
  refine WL.q (R.shl rfl rfl h2) rfl ?_
  refine WL.q (R.sub rfl rfl) rfl ?_
  refine WL.q (R.assign rfl) rfl ?_
  refine WL.nil ?_
  refine Go.then_ ?_
  refine W.ret ?_
  have he := Option.some.inj hm
  clear hm
  subst r
  exact Go.ret1 rfl (.tmp rfl) (fun w hw => ⟨_, rfl, _, ⟨(), rfl, rfl⟩, hw.reord [] 1 rfl⟩)
set_option maxRecDepth 100000 in
theorem impl_Square_left_tr {G : World} {F : List Res} (p0 : S_Square) (p1 : Int) (p2 : Int) {r : Int} (hm : impl_Square_left p0 p1 p2 = some r) : Tr Try.prog G 55 [(.agg (e_S_Square.cells p0).toArray), (.int .u8 p1), (.int .u8 p2)] F (fun u K => ∃ x : Unit, u = (.int .u8 r) ∧ K = F) := by
  unfold impl_Square_left at hm
  refine Tr.body Try.func55 rfl Try.ntmps55 ?_
  refine W.seq ?_
  refine W.region ?_
  refine WL.x (R.box rfl (cells_agg _)) rfl fun b1 => ?_
  refine WL.q (R.assign rfl) rfl ?_
  refine WL.nil ?_
  refine Go.then_ ?_
  refine W.seq ?_
  refine W.region ?_
  refine WL.q (R.assign rfl) rfl ?_
  refine WL.nil ?_
  refine Go.then_ ?_
  refine W.seq ?_
  refine W.block ?_
  obtain ⟨o3, hlo3, hm⟩ := of_bind hm
  refine W.loopx (fun (s2 : Int) a w => Sat G ((bx b1 (e_S_Square.cells p0)) :: F) 19 [(1, (.int .u8 p1)), (2, (.int .u8 p2)), (3, (.pointer (some ⟨b1, 0, none⟩))), (6, (.int .u8 0)), (7, (.int .u8 s2))] a w) (fun (o3 : Int) e a w => And (e = (.exit 0)) (Sat G F 19 [(6, (.int .u8 0)), (7, (.int .u8 o3))] a w)) hlo3 (fun a w s => (Sat.mk (s.env.le ⟨rfl, rfl, rfl, rfl, rfl, trivial⟩) (s.mem))) ?_ ?_
  · clear hm
    intro s2 x hm a w hJ
    have s := hJ
    unfold impl_Square_left_L1 at hm
    refine W.use s ?_
    refine W.seq ?_
    refine W.seq ?_
    refine W.region ?_
    refine WL.q (R.move rfl) rfl ?_
    refine WL.q (R.move rfl) rfl ?_
    refine WL.q (R.fieldAddr rfl fa31_1) rfl ?_
    obtain ⟨h9, hm⟩ := of_guard hm
    refine WL.q (R.indexArr rfl rfl un29 sz22 h9.1 h9.2) rfl ?_
    obtain ⟨h10, hm⟩ := of_guard hm
    refine WL.q (R.indexArr rfl rfl un22 sz5 h10.1 h10.2) rfl ?_
    refine WL.q (R.load rfl (At.sub (At.sub (At.sub (At.bx 0 rfl (Sub.refl _)) (e_S_Square_s1 p0)) (sub_arr ((Enc.int .u8).arr 10) (v := p0.Table) h9.1 h9.2)) (sub_arr (Enc.int .u8) (v := gv p0.Table p1) h10.1 h10.2)) (Lies.one _ ia5)) rfl ?_
    refine WL.q (R.move rfl) rfl ?_
    refine WL.q (R.neq rfl rfl) rfl ?_
    refine WL.nil ?_
    refine Go.then_ ?_
    by_cases h11 : gv (gv p0.Table p1) s2 ≠ p2
    · rw [if_pos h11] at hm
      refine W.cond_t rfl (decide_eq_true h11) ?_
      refine W.skip ?_
      refine Go.then_ ?_
      refine W.block ?_
      refine W.region ?_
      refine WL.q (R.move rfl) rfl ?_
      refine WL.q (R.add rfl rfl) rfl ?_
      refine WL.q (R.assign rfl) rfl ?_
      refine WL.nil ?_
      refine Go.n_block ?_
      have he := Option.some.inj hm
      clear hm
      subst x
      exact fun a w s => Exists.intro _ (And.intro rfl (Sat.mk (s.env.le ⟨rfl, rfl, rfl, rfl, rfl, trivial⟩) (s.mem)))
    · rw [if_neg h11] at hm
      refine W.cond_f rfl (decide_eq_false h11) ?_
      refine W.exit ?_
      refine Go.x_then ?_
      have he := Option.some.inj hm
      clear hm
      subst x
      exact fun a w s => Exists.intro _ (And.intro rfl (And.intro rfl (Sat.mk (s.env.le ⟨rfl, rfl, trivial⟩) (s.mem.reord [] 1 rfl))))
  · intro e a w hJ
    obtain ⟨rfl, s⟩ := hJ
    refine Go.use s ?_
    refine Go.x_block ?_
    refine Go.then_ ?_
    refine W.seq ?_
    refine W.region ?_
    refine WL.q (R.move rfl) rfl ?_
    refine WL.q (R.assign rfl) rfl ?_
    refine WL.nil ?_
    refine Go.then_ ?_
    refine W.ret ?_
    have he := Option.some.inj hm
    clear hm
    subst r
    exact Go.ret1 rfl (.tmp rfl) (fun w hw => ⟨_, rfl, _, ⟨(), rfl, rfl⟩, hw⟩)
set_option maxRecDepth 100000 in
theorem impl_Square_right_tr {G : World} {F : List Res} (p0 : S_Square) (p1 : Int) (p2 : Int) {r : Int} (hm : impl_Square_right p0 p1 p2 = some r) : Tr Try.prog G 56 [(.agg (e_S_Square.cells p0).toArray), (.int .u8 p1), (.int .u8 p2)] F (fun u K => ∃ x : Unit, u = (.int .u8 r) ∧ K = F) := by
  unfold impl_Square_right at hm
  refine Tr.body Try.func56 rfl Try.ntmps56 ?_
  refine W.seq ?_
  refine W.region ?_
  refine WL.x (R.box rfl (cells_agg _)) rfl fun b1 => ?_
  refine WL.q (R.assign rfl) rfl ?_
  refine WL.nil ?_
  refine Go.then_ ?_
  refine W.seq ?_
  refine W.region ?_
  refine WL.q (R.assign rfl) rfl ?_
  refine WL.nil ?_
  refine Go.then_ ?_
  refine W.seq ?_
  refine W.block ?_
  obtain ⟨o3, hlo3, hm⟩ := of_bind hm
  refine W.loopx (fun (s2 : Int) a w => Sat G ((bx b1 (e_S_Square.cells p0)) :: F) 19 [(1, (.int .u8 p1)), (2, (.int .u8 p2)), (3, (.pointer (some ⟨b1, 0, none⟩))), (6, (.int .u8 0)), (7, (.int .u8 s2))] a w) (fun (o3 : Int) e a w => And (e = (.exit 0)) (Sat G F 19 [(6, (.int .u8 0)), (7, (.int .u8 o3))] a w)) hlo3 (fun a w s => (Sat.mk (s.env.le ⟨rfl, rfl, rfl, rfl, rfl, trivial⟩) (s.mem))) ?_ ?_
  · clear hm
    intro s2 x hm a w hJ
    have s := hJ
    unfold impl_Square_right_L1 at hm
    refine W.use s ?_
    refine W.seq ?_
    refine W.seq ?_
    refine W.region ?_
    refine WL.q (R.move rfl) rfl ?_
    refine WL.q (R.move rfl) rfl ?_
    refine WL.q (R.fieldAddr rfl fa31_1) rfl ?_
    obtain ⟨h9, hm⟩ := of_guard hm
    refine WL.q (R.indexArr rfl rfl un29 sz22 h9.1 h9.2) rfl ?_
    obtain ⟨h10, hm⟩ := of_guard hm
    refine WL.q (R.indexArr rfl rfl un22 sz5 h10.1 h10.2) rfl ?_
    refine WL.q (R.load rfl (At.sub (At.sub (At.sub (At.bx 0 rfl (Sub.refl _)) (e_S_Square_s1 p0)) (sub_arr ((Enc.int .u8).arr 10) (v := p0.Table) h9.1 h9.2)) (sub_arr (Enc.int .u8) (v := gv p0.Table s2) h10.1 h10.2)) (Lies.one _ ia5)) rfl ?_
    refine WL.q (R.move rfl) rfl ?_
    refine WL.q (R.neq rfl rfl) rfl ?_
    refine WL.nil ?_
    refine Go.then_ ?_
    by_cases h11 : gv (gv p0.Table s2) p2 ≠ p1
    · rw [if_pos h11] at hm
      refine W.cond_t rfl (decide_eq_true h11) ?_
      refine W.skip ?_
      refine Go.then_ ?_
      refine W.block ?_
      refine W.region ?_
      refine WL.q (R.move rfl) rfl ?_
      refine WL.q (R.add rfl rfl) rfl ?_
      refine WL.q (R.assign rfl) rfl ?_
      refine WL.nil ?_
      refine Go.n_block ?_
      have he := Option.some.inj hm
      clear hm
      subst x
      exact fun a w s => Exists.intro _ (And.intro rfl (Sat.mk (s.env.le ⟨rfl, rfl, rfl, rfl, rfl, trivial⟩) (s.mem)))
    · rw [if_neg h11] at hm
      refine W.cond_f rfl (decide_eq_false h11) ?_
      refine W.exit ?_
      refine Go.x_then ?_
      have he := Option.some.inj hm
      clear hm
      subst x
      exact fun a w s => Exists.intro _ (And.intro rfl (And.intro rfl (Sat.mk (s.env.le ⟨rfl, rfl, trivial⟩) (s.mem.reord [] 1 rfl))))
  · intro e a w hJ
    obtain ⟨rfl, s⟩ := hJ
    refine Go.use s ?_
    refine Go.x_block ?_
    refine Go.then_ ?_
    refine W.seq ?_
    refine W.region ?_
    refine WL.q (R.move rfl) rfl ?_
    refine WL.q (R.assign rfl) rfl ?_
    refine WL.nil ?_
    refine Go.then_ ?_
    refine W.ret ?_
    have he := Option.some.inj hm
    clear hm
    subst r
    exact Go.ret1 rfl (.tmp rfl) (fun w hw => ⟨_, rfl, _, ⟨(), rfl, rfl⟩, hw⟩)
set_option maxRecDepth 100000 in
theorem impl_Square_generated_tr {G : World} {F : List Res} (p0 : S_Square) (p1 : Int) {r : Int} (hm : impl_Square_generated p0 p1 = some r) : Tr Try.prog G 48 [(.agg (e_S_Square.cells p0).toArray), (.int .i64 p1)] F (fun u K => ∃ x : Unit, u = (.int .i64 r) ∧ K = F) := by
  unfold impl_Square_generated at hm
  refine Tr.body Try.func48 rfl Try.ntmps48 ?_
  refine W.seq ?_
  refine W.region ?_
  refine WL.x (R.box rfl (cells_agg _)) rfl fun b1 => ?_
  refine WL.q (R.assign rfl) rfl ?_
  refine WL.nil ?_
  refine Go.then_ ?_
  refine W.seq ?_
  refine W.region ?_
  refine WL.q (R.move rfl) rfl ?_
  refine WL.q (R.or rfl rfl) rfl ?_
  refine WL.q (R.assign rfl) rfl ?_
  refine WL.nil ?_
  refine Go.then_ ?_
  refine W.block ?_
  obtain ⟨o3, hlo3, hm⟩ := of_bind hm
  refine W.loopx (fun (s2 : Int) a w => Sat G ((bx b1 (e_S_Square.cells p0)) :: F) 63 [(1, (.int .i64 s2)), (2, (.pointer (some ⟨b1, 0, none⟩))), (4, (.int .i64 0))] a w) (fun (o3 : Int) e a w => And (e = .ret) (Sat G F 63 [(4, (.int .i64 o3))] a w)) hlo3 (fun a w s => (Sat.mk (s.env.le ⟨rfl, rfl, rfl, trivial⟩) (s.mem))) ?_ ?_
  · clear hm
    intro s2 x hm a w hJ
    have s := hJ
    unfold impl_Square_generated_L1 at hm
    refine W.use s ?_
    refine W.block ?_
    refine W.seq ?_
    refine W.region ?_
    refine WL.q (R.move rfl) rfl ?_
    refine WL.q (R.assign rfl) rfl ?_
    refine WL.nil ?_
    refine Go.then_ ?_
    refine W.seq ?_
    refine W.seq ?_
    refine W.region ?_
    refine WL.q (R.load rfl (At.bx 0 rfl (Sub.refl _)) (lies_agg e_S_Square p0 ia31 sz31)) rfl ?_
    obtain ⟨o472, h473, hm⟩ := of_bind hm
    refine WL.x (R.call rfl en39 (impl_Square_elements_tr p0 h473)) rfl fun x474 => ?_
    refine WL.q (R.lenT rfl el62 (RdT.at 0 rfl)) rfl ?_
    refine WL.q (R.move rfl) rfl ?_
    refine WL.nil ?_
    refine Go.then_ ?_
    refine W.block ?_
    obtain ⟨o476, hlo476, hm⟩ := of_bind hm
    refine W.loopx (fun (s475 : (Int × Int)) a w => Sat G ((slT (Enc.int .u8) x474 o472) :: (bx b1 (e_S_Square.cells p0)) :: F) 63 [(1, (.int .i64 s2)), (2, (.pointer (some ⟨b1, 0, none⟩))), (4, (.int .i64 0)), (5, (.int .i64 s475.1)), (14, x474), (15, (.int .i64 (o472.length : Int))), (16, (.int .i64 s475.2))] a w) (fun (o476 : Int) e a w => And (e = (.exit 2)) (Sat G ((bx b1 (e_S_Square.cells p0)) :: F) 63 [(1, (.int .i64 s2)), (2, (.pointer (some ⟨b1, 0, none⟩))), (4, (.int .i64 0)), (5, (.int .i64 o476))] a w)) hlo476 (fun a w s => (Sat.mk (s.env.le ⟨rfl, rfl, rfl, rfl, rfl, rfl, rfl, trivial⟩) (s.mem))) ?_ ?_
    · clear hm
      intro s475 x hm a w hJ
      have s := hJ
      unfold impl_Square_generated_L2 at hm
      refine W.use s ?_
      refine W.seq ?_
      refine W.region ?_
      refine WL.q (R.lss rfl rfl) rfl ?_
      refine WL.nil ?_
      refine Go.then_ ?_
      refine W.seq ?_
      by_cases h629 : s475.2 < (o472.length : Int)
      · rw [if_pos h629] at hm
        refine W.cond_t rfl (decide_eq_true h629) ?_
        refine W.skip ?_
        refine Go.then_ ?_
        refine W.seq ?_
        refine W.block ?_
        refine W.seq ?_
        refine W.region ?_
        obtain ⟨h630, hm⟩ := of_guard hm
        refine WL.q (R.idxT rfl rfl el62 (RdT.at 0 rfl) h630) rfl ?_
        refine WL.q (R.load rfl (At.elT (RdT.at 0 rfl) (by decide) h630) (Lies.one _ ia5)) rfl ?_
        refine WL.q (R.assign rfl) rfl ?_
        refine WL.nil ?_
        refine Go.then_ ?_
        refine W.seq ?_
        refine W.region ?_
        refine WL.q (R.load rfl (At.bx 1 rfl (Sub.refl _)) (lies_agg e_S_Square p0 ia31 sz31)) rfl ?_
        obtain ⟨o631, h632, hm⟩ := of_bind hm
        refine WL.x (R.call rfl en39 (impl_Square_elements_tr p0 h632)) rfl fun x633 => ?_
        refine WL.q (R.lenT rfl el62 (RdT.at 0 rfl)) rfl ?_
        refine WL.q (R.move rfl) rfl ?_
        refine WL.nil ?_
        refine Go.then_ ?_
        refine W.block ?_
        obtain ⟨o635, hlo635, hm⟩ := of_bind hm
        refine W.loopx (fun (s634 : (Int × Int)) a w => Sat G ((slT (Enc.int .u8) x633 o631) :: (slT (Enc.int .u8) x474 o472) :: (bx b1 (e_S_Square.cells p0)) :: F) 63 [(1, (.int .i64 s2)), (2, (.pointer (some ⟨b1, 0, none⟩))), (4, (.int .i64 0)), (5, (.int .i64 s634.1)), (7, (.int .u8 (gl o472 s475.2))), (14, x474), (15, (.int .i64 (o472.length : Int))), (16, (.int .i64 s475.2)), (21, x633), (22, (.int .i64 (o631.length : Int))), (23, (.int .i64 s634.2))] a w) (fun (o635 : Int) e a w => And (e = (.exit 4)) (Sat G ((slT (Enc.int .u8) x474 o472) :: (bx b1 (e_S_Square.cells p0)) :: F) 63 [(1, (.int .i64 s2)), (2, (.pointer (some ⟨b1, 0, none⟩))), (4, (.int .i64 0)), (5, (.int .i64 o635)), (14, x474), (15, (.int .i64 (o472.length : Int))), (16, (.int .i64 s475.2))] a w)) hlo635 (fun a w s => (Sat.mk (s.env.le ⟨rfl, rfl, rfl, rfl, rfl, rfl, rfl, rfl, rfl, rfl, rfl, trivial⟩) (s.mem))) ?_ ?_
        · clear hm
          intro s634 x hm a w hJ
          have s := hJ
          unfold impl_Square_generated_L3 at hm
          refine W.use s ?_
          refine W.seq ?_
          refine W.region ?_
          refine WL.q (R.lss rfl rfl) rfl ?_
          refine WL.nil ?_
          refine Go.then_ ?_
          refine W.seq ?_
          by_cases h682 : s634.2 < (o631.length : Int)
          · rw [if_pos h682] at hm
            refine W.cond_t rfl (decide_eq_true h682) ?_
            refine W.skip ?_
            refine Go.then_ ?_
            obtain ⟨o704, hm, hmo704⟩ := of_bind hm
            refine W.seq ?_
            refine W.join (fun e a w => And (e = .normal) (Sat G ((slT (Enc.int .u8) x633 o631) :: (slT (Enc.int .u8) x474 o472) :: (bx b1 (e_S_Square.cells p0)) :: F) 63 [(1, (.int .i64 s2)), (2, (.pointer (some ⟨b1, 0, none⟩))), (4, (.int .i64 0)), (5, (.int .i64 o704)), (7, (.int .u8 (gl o472 s475.2))), (14, x474), (15, (.int .i64 (o472.length : Int))), (16, (.int .i64 s475.2)), (21, x633), (22, (.int .i64 (o631.length : Int))), (23, (.int .i64 s634.2))] a w)) ?_ ?_
            · refine W.block ?_
              refine W.seq ?_
              refine W.region ?_
              obtain ⟨h683, hm⟩ := of_guard hm
              refine WL.q (R.idxT rfl rfl el62 (RdT.at 0 rfl) h683) rfl ?_
              refine WL.q (R.load rfl (At.elT (RdT.at 0 rfl) (by decide) h683) (Lies.one _ ia5)) rfl ?_
              refine WL.q (R.assign rfl) rfl ?_
              refine WL.nil ?_
              refine Go.then_ ?_
              obtain ⟨o691, hm, hmo691⟩ := of_bind hm
              refine W.seq ?_
              refine W.join (fun e a w => And (e = .normal) (Sat G ((slT (Enc.int .u8) x633 o631) :: (slT (Enc.int .u8) x474 o472) :: (bx b1 (e_S_Square.cells p0)) :: F) 63 [(1, (.int .i64 s2)), (2, (.pointer (some ⟨b1, 0, none⟩))), (4, (.int .i64 0)), (5, (.int .i64 s634.1)), (7, (.int .u8 (gl o472 s475.2))), (9, (.int .u8 (gl o631 s634.2))), (14, x474), (15, (.int .i64 (o472.length : Int))), (16, (.int .i64 s475.2)), (21, x633), (22, (.int .i64 (o631.length : Int))), (23, (.int .i64 s634.2)), (34, (.bool o691))] a w)) ?_ ?_
              · refine W.region ?_
                refine WL.q (R.move rfl) rfl ?_
                refine WL.q (R.move rfl) rfl ?_
                obtain ⟨o684, h685, hm⟩ := of_bind hm
                refine WL.x (R.call rfl en40 (impl_set_has_tr s2 (gl o472 s475.2) h685)) rfl fun x686 => ?_
                refine WL.q (R.move rfl) rfl ?_
                by_cases h687 : o684 = true
                · rw [if_pos h687] at hm
                  refine WL.on rfl rfl h687 ?_
                  refine WL.q (R.move rfl) rfl ?_
                  refine WL.on rfl rfl h687 ?_
                  refine WL.q (R.move rfl) rfl ?_
                  obtain ⟨o688, h689, hm⟩ := of_bind hm
                  refine WL.on rfl rfl h687 ?_
                  refine WL.x (R.call rfl en40 (impl_set_has_tr s2 (gl o631 s634.2) h689)) rfl fun x690 => ?_
                  refine WL.q (R.pick_t rfl h687 rfl) rfl ?_
                  refine WL.nil ?_
                  have he := Option.some.inj hm
                  clear hm
                  subst o691
                  exact fun a w s => And.intro rfl (Sat.mk (s.env.le ⟨rfl, rfl, rfl, rfl, rfl, rfl, rfl, rfl, rfl, rfl, rfl, rfl, rfl, trivial⟩) (s.mem))
                · rw [if_neg h687] at hm
                  refine WL.off rfl rfl (b_f h687) rfl ?_
                  refine WL.off rfl rfl (b_f h687) rfl ?_
                  refine WL.off rfl rfl (b_f h687) rfl ?_
                  refine WL.q (R.pick_f rfl (b_f h687) rfl) rfl ?_
                  refine WL.nil ?_
                  have he := Option.some.inj hm
                  clear hm
                  subst o691
                  exact fun a w s => And.intro rfl (Sat.mk (s.env.le ⟨rfl, rfl, rfl, rfl, rfl, rfl, rfl, rfl, rfl, rfl, rfl, rfl, rfl, trivial⟩) (s.mem))
              · intro e a w hJ
                replace hm := hmo691
                clear hmo691
                obtain ⟨rfl, s⟩ := hJ
                refine Go.use s ?_
                refine Go.then_ ?_
                by_cases h692 : o691 = true
                · rw [if_pos h692] at hm
                  refine W.cond_t rfl h692 ?_
                  obtain ⟨h693, hm⟩ := of_guard hm
                  obtain ⟨h694, hm⟩ := of_guard hm
                  obtain ⟨h695, hm⟩ := of_guard hm
                  obtain ⟨o696, h697, hm⟩ := of_bind hm
                  obtain ⟨h699, hm⟩ := of_guard hm
                  obtain ⟨o700, h701, hm⟩ := of_bind hm
                  obtain ⟨h703, hm⟩ := of_guard hm
                  refine W.join1 (fun a w => ∃ x698 : Unit, ∃ x702 : Unit, Sat G ((slT (Enc.int .u8) x633 o631) :: (slT (Enc.int .u8) x474 o472) :: (bx b1 (e_S_Square.cells p0)) :: F) 63 [(1, (.int .i64 s2)), (2, (.pointer (some ⟨b1, 0, none⟩))), (4, (.int .i64 0)), (5, (.int .i64 (ior .i64 s634.1 (ior .i64 (ior .i64 (ishl .i64 1 (gv (gv p0.Table (gl o472 s475.2)) (gl o631 s634.2))) (ishl .i64 1 o696)) (ishl .i64 1 o700))))), (7, (.int .u8 (gl o472 s475.2))), (14, x474), (15, (.int .i64 (o472.length : Int))), (16, (.int .i64 s475.2)), (21, x633), (22, (.int .i64 (o631.length : Int))), (23, (.int .i64 s634.2))] a w) ?_ ?_
                  · refine W.draw (n := 22) ((slT (Enc.int .u8) x633 o631) :: (slT (Enc.int .u8) x474 o472) :: (bx b1 (e_S_Square.cells p0)) :: F) F 22 (by kernel_rfl) rfl rfl (fun w hw => hw) (fun w hw => hw.drop 3) ?_
                    refine WK.q (i := 0) rfl rfl (by kernel_rfl) calm_n (R.move rfl) rfl rfl ?_
                    refine WK.q (i := 1) rfl rfl (by kernel_rfl) calm_n (R.move rfl) rfl rfl ?_
                    refine WK.q (i := 2) rfl rfl (by kernel_rfl) calm_n (R.move rfl) rfl rfl ?_
                    refine WK.q (i := 3) rfl rfl (by kernel_rfl) calm_n (R.fieldAddr rfl fa31_1) rfl rfl ?_
                    refine WK.q (i := 4) rfl rfl (by kernel_rfl) calm_n (R.indexArr rfl rfl un29 sz22 h693.1 h693.2) rfl rfl ?_
                    refine WK.q (i := 5) rfl rfl (by kernel_rfl) calm_n (R.indexArr rfl rfl un22 sz5 h694.1 h694.2) rfl rfl ?_
                    refine WK.q (i := 6) rfl rfl (by kernel_rfl) calm_n (R.load rfl (At.sub (At.sub (At.sub (At.bx 2 rfl (Sub.refl _)) (e_S_Square_s1 p0)) (sub_arr ((Enc.int .u8).arr 10) (v := p0.Table) h693.1 h693.2)) (sub_arr (Enc.int .u8) (v := gv p0.Table (gl o472 s475.2)) h694.1 h694.2)) (Lies.one _ ia5)) rfl rfl ?_
                    refine WK.q (i := 7) rfl rfl (by kernel_rfl) calm_n (R.shl rfl rfl h695) rfl rfl ?_
                    refine WK.q (i := 8) rfl rfl (by kernel_rfl) calm_n (R.load rfl (At.bx 2 rfl (Sub.refl _)) (lies_agg e_S_Square p0 ia31 sz31)) rfl rfl ?_
                    refine WK.q (i := 9) rfl rfl (by kernel_rfl) calm_n (R.move rfl) rfl rfl ?_
                    refine WK.q (i := 10) rfl rfl (by kernel_rfl) calm_n (R.move rfl) rfl rfl ?_
                    refine WK.q (i := 14) rfl rfl (by kernel_rfl) calm_n (R.load rfl (At.bx 2 rfl (Sub.refl _)) (lies_agg e_S_Square p0 ia31 sz31)) rfl rfl ?_
                    refine WK.q (i := 15) rfl rfl (by kernel_rfl) calm_n (R.move rfl) rfl rfl ?_
                    refine WK.q (i := 16) rfl rfl (by kernel_rfl) calm_n (R.move rfl) rfl rfl ?_
                    refine WK.x (i := 11) (by kernel_rfl) rfl (R.call rfl en55 (impl_Square_left_tr p0 (gl o472 s475.2) (gl o631 s634.2) h697)) (fun _ w hw => hw) (fun _ _ _ w hw => hw.reord [] 3 rfl) rfl rfl (by kernel_rfl) fun x698 => ?_
                    refine WK.q (i := 12) rfl rfl (by kernel_rfl) calm_n (R.shl rfl rfl h699) rfl rfl ?_
                    refine WK.q (i := 13) rfl rfl (by kernel_rfl) calm_n (R.or rfl rfl) rfl rfl ?_
                    refine WK.x (i := 17) (by kernel_rfl) rfl (R.call rfl en56 (impl_Square_right_tr p0 (gl o472 s475.2) (gl o631 s634.2) h701)) (fun _ w hw => hw) (fun _ _ _ w hw => hw.reord [] 3 rfl) rfl rfl (by kernel_rfl) fun x702 => ?_
                    refine WK.x (i := 18) (by kernel_rfl) rfl (OpV.x (R.shl rfl rfl h703)) (fun _ w hw => hw) (fun _ _ _ w hw => hw.reord [] 3 rfl) rfl rfl (by kernel_rfl) fun _ => ?_
                    refine WK.x (i := 19) (by kernel_rfl) rfl (OpV.x (R.or rfl rfl)) (fun _ w hw => hw) (fun _ _ _ w hw => hw.reord [] 3 rfl) rfl rfl (by kernel_rfl) fun _ => ?_
                    refine WK.x (i := 20) (by kernel_rfl) rfl (OpV.x (R.or rfl rfl)) (fun _ w hw => hw) (fun _ _ _ w hw => hw.reord [] 3 rfl) rfl rfl (by kernel_rfl) fun _ => ?_
                    refine WK.x (i := 21) (by kernel_rfl) rfl (OpV.x (R.assign rfl)) (fun _ w hw => hw) (fun _ _ _ w hw => hw.reord [] 3 rfl) rfl rfl (by kernel_rfl) fun _ => ?_
                    refine WK.nil (by kernel_rfl) ?_
                    exact fun a w s => And.intro rfl (Exists.intro x698 (Exists.intro x702 (Sat.mk (s.env.le ⟨rfl, rfl, rfl, rfl, rfl, rfl, rfl, rfl, rfl, rfl, rfl, trivial⟩) (s.mem))))
                  · refine Go2.ex fun x698 => ?_
                    refine Go2.ex fun x702 => ?_
                    refine Go2.sat ?_
                    refine Go.n_block ?_
                    have he := Option.some.inj hm
                    clear hm
                    subst o704
                    exact fun a w s => And.intro rfl (Sat.mk (s.env.le ⟨rfl, rfl, rfl, rfl, rfl, rfl, rfl, rfl, rfl, rfl, rfl, trivial⟩) (s.mem))
                · rw [if_neg h692] at hm
                  refine W.cond_f rfl (b_f h692) ?_
                  refine W.skip ?_
                  refine Go.n_block ?_
                  have he := Option.some.inj hm
                  clear hm
                  subst o704
                  exact fun a w s => And.intro rfl (Sat.mk (s.env.le ⟨rfl, rfl, rfl, rfl, rfl, rfl, rfl, rfl, rfl, rfl, rfl, trivial⟩) (s.mem))
            · intro e a w hJ
              replace hm := hmo704
              clear hmo704
              obtain ⟨rfl, s⟩ := hJ
              refine Go.use s ?_
              refine Go.then_ ?_
              refine W.region ?_
              refine WL.q (R.add rfl rfl) rfl ?_
              refine WL.q (R.move rfl) rfl ?_
              refine WL.nil ?_
              have he := Option.some.inj hm
              clear hm
              subst x
              exact fun a w s => Exists.intro _ (And.intro rfl (Sat.mk (s.env.le ⟨rfl, rfl, rfl, rfl, rfl, rfl, rfl, rfl, rfl, rfl, rfl, trivial⟩) (s.mem)))
          · rw [if_neg h682] at hm
            refine W.cond_f rfl (decide_eq_false h682) ?_
            refine W.exit ?_
            refine Go.x_then ?_
            have he := Option.some.inj hm
            clear hm
            subst x
            exact fun a w s => Exists.intro _ (And.intro rfl (And.intro rfl (Sat.mk (s.env.le ⟨rfl, rfl, rfl, rfl, rfl, rfl, rfl, trivial⟩) (s.mem.reord [1, 2] 3 rfl))))
        · intro e a w hJ
          obtain ⟨rfl, s⟩ := hJ
          refine Go.use s ?_
          refine Go.x_block ?_
          refine Go.n_block ?_
          refine Go.then_ ?_
          refine W.region ?_
          refine WL.q (R.add rfl rfl) rfl ?_
          refine WL.q (R.move rfl) rfl ?_
          refine WL.nil ?_
          have he := Option.some.inj hm
          clear hm
          subst x
          exact fun a w s => Exists.intro _ (And.intro rfl (Sat.mk (s.env.le ⟨rfl, rfl, rfl, rfl, rfl, rfl, rfl, trivial⟩) (s.mem)))
      · rw [if_neg h629] at hm
        refine W.cond_f rfl (decide_eq_false h629) ?_
        refine W.exit ?_
        refine Go.x_then ?_
        have he := Option.some.inj hm
        clear hm
        subst x
        exact fun a w s => Exists.intro _ (And.intro rfl (And.intro rfl (Sat.mk (s.env.le ⟨rfl, rfl, rfl, rfl, trivial⟩) (s.mem.reord [1] 2 rfl))))
    · intro e a w hJ
      obtain ⟨rfl, s⟩ := hJ
      refine Go.use s ?_
      refine Go.x_block ?_
      refine Go.then_ ?_
      refine W.seq ?_
      refine W.seq ?_
      refine W.region ?_
      refine WL.q (R.move rfl) rfl ?_
      refine WL.q (R.move rfl) rfl ?_
      refine WL.q (R.eql rfl rfl) rfl ?_
      refine WL.nil ?_
      refine Go.then_ ?_
      by_cases h705 : o476 = s2
      · rw [if_pos h705] at hm
        refine W.cond_t rfl (decide_eq_true h705) ?_
        refine W.seq ?_
        refine W.region ?_
        refine WL.q (R.move rfl) rfl ?_
        refine WL.q (R.assign rfl) rfl ?_
        refine WL.nil ?_
        refine Go.then_ ?_
        refine W.ret ?_
        refine Go.r_then ?_
        refine Go.r_block ?_
        have he := Option.some.inj hm
        clear hm
        subst x
        exact fun a w s => Exists.intro _ (And.intro rfl (And.intro rfl (Sat.mk (s.env.le ⟨rfl, trivial⟩) (s.mem.reord [] 1 rfl))))
      · rw [if_neg h705] at hm
        refine W.cond_f rfl (decide_eq_false h705) ?_
        refine W.skip ?_
        refine Go.then_ ?_
        refine W.region ?_
        refine WL.q (R.move rfl) rfl ?_
        refine WL.q (R.assign rfl) rfl ?_
        refine WL.nil ?_
        refine Go.n_block ?_
        have he := Option.some.inj hm
        clear hm
        subst x
        exact fun a w s => Exists.intro _ (And.intro rfl (Sat.mk (s.env.le ⟨rfl, rfl, rfl, trivial⟩) (s.mem)))
  · intro e a w hJ
    obtain ⟨rfl, s⟩ := hJ
    refine Go.use s ?_
    refine Go.r_block ?_
    have he := Option.some.inj hm
    clear hm
    subst r
    exact Go.ret1 rfl (.tmp rfl) (fun w hw => ⟨_, rfl, _, ⟨(), rfl, rfl⟩, hw⟩)
set_option maxRecDepth 100000 in
theorem impl_Square_isSubloop_tr {G : World} {F : List Res} (p0 : S_Square) (p1 : Int) {r : Bool} (hm : impl_Square_isSubloop p0 p1 = some r) : Tr Try.prog G 43 [(.agg (e_S_Square.cells p0).toArray), (.int .i64 p1)] F (fun u K => ∃ x : Unit, u = (.bool r) ∧ K = F) := by
  unfold impl_Square_isSubloop at hm
  refine Tr.body Try.func43 rfl Try.ntmps43 ?_
  refine W.seq ?_
  refine W.region ?_
  refine WL.x (R.box rfl (cells_agg _)) rfl fun b1 => ?_
  refine WL.q (R.assign rfl) rfl ?_
  refine WL.nil ?_
  refine Go.then_ ?_
  refine W.seq ?_
  refine W.region ?_
  refine WL.q (R.load rfl (At.bx 0 rfl (Sub.refl _)) (lies_agg e_S_Square p0 ia31 sz31)) rfl ?_
  refine WL.q (R.move rfl) rfl ?_
  obtain ⟨o2, h3, hm⟩ := of_bind hm
  refine WL.x (R.call rfl en48 (impl_Square_generated_tr p0 p1 h3)) rfl fun x4 => ?_
  refine WL.q (R.move rfl) rfl ?_
  refine WL.q (R.eql rfl rfl) rfl ?_
  refine WL.q (R.assign rfl) rfl ?_
  refine WL.nil ?_
  refine Go.then_ ?_
  refine W.ret ?_
  have he := Option.some.inj hm
  clear hm
  subst r
  exact Go.ret1 rfl (.tmp rfl) (fun w hw => ⟨_, rfl, _, ⟨(), rfl, rfl⟩, hw.reord [] 1 rfl⟩)
set_option maxRecDepth 100000 in
theorem slices_insertionSortCmpFunc_impl_set_tr {G : World} {F : List Res} (q0 : Value) (p0 : (List Int)) (p1 : Int) (p2 : Int) (g3 : FuncId) (fs3 cs3 : List Value) (f3 : Int → Int → Option Int) (en_3 : Enters Try.prog g3) (hf3 : ∀ (L : List Res) (a0 : Int) (a1 : Int) (r : Int), f3 a0 a1 = some r → Tr Try.prog G g3 (fs3 ++ [(.int .i64 a0), (.int .i64 a1)] ++ cs3) (L ++ F) (fun u K => ∃ x : Unit, u = (.int .i64 r) ∧ K = L ++ F)) {r : (List Int)} (hm : slices_insertionSortCmpFunc_impl_set p0 p1 p2 f3 = some r) : Tr Try.prog G 57 [q0, (.int .i64 p1), (.int .i64 p2), (.func (.func g3) fs3.toArray cs3.toArray)] ((slT (Enc.int .i64) q0 p0) :: F) (fun u K => ∃ x : Unit, u = (.tuple #[]) ∧ K = ((slT (Enc.int .i64) q0 r) :: F)) := by
  unfold slices_insertionSortCmpFunc_impl_set at hm
  refine Tr.body Try.func57 rfl Try.ntmps57 ?_
  refine W.seq ?_
  refine W.region ?_
  refine WL.q (R.move rfl) rfl ?_
  refine WL.q (R.add rfl rfl) rfl ?_
  refine WL.q (R.assign rfl) rfl ?_
  refine WL.nil ?_
  refine Go.then_ ?_
  refine W.block ?_
  obtain ⟨o2, hlo2, hm⟩ := of_bind hm
  refine W.loopx (fun (s1 : ((List Int) × Int)) a w => Sat G ((slT (Enc.int .i64) q0 s1.1) :: F) 53 [(0, q0), (1, (.int .i64 p1)), (2, (.int .i64 p2)), (3, (.func (.func g3) fs3.toArray cs3.toArray)), (8, (.int .i64 s1.2))] a w) (fun (o2 : (List Int)) e a w => And (e = (.exit 0)) (Sat G ((slT (Enc.int .i64) q0 o2) :: F) 53 [] a w)) hlo2 (fun a w s => (Sat.mk (s.env.le ⟨rfl, rfl, rfl, rfl, rfl, trivial⟩) (s.mem))) ?_ ?_
  · clear hm
    intro s1 x hm a w hJ
    have s := hJ
    unfold slices_insertionSortCmpFunc_impl_set_L1 at hm
    refine W.use s ?_
    refine W.seq ?_
    refine W.seq ?_
    refine W.region ?_
    refine WL.q (R.move rfl) rfl ?_
    refine WL.q (R.move rfl) rfl ?_
    refine WL.q (R.lss rfl rfl) rfl ?_
    refine WL.nil ?_
    refine Go.then_ ?_
    by_cases h75 : s1.2 < p2
    · rw [if_pos h75] at hm
      refine W.cond_t rfl (decide_eq_true h75) ?_
      refine W.skip ?_
      refine Go.then_ ?_
      refine W.seq ?_
      refine W.block ?_
      refine W.seq ?_
      refine W.region ?_
      refine WL.q (R.move rfl) rfl ?_
      refine WL.q (R.assign rfl) rfl ?_
      refine WL.nil ?_
      refine Go.then_ ?_
      refine W.block ?_
      obtain ⟨o77, hlo77, hm⟩ := of_bind hm
      refine W.loopx (fun (s76 : ((List Int) × Int)) a w => Sat G ((slT (Enc.int .i64) q0 s76.1) :: F) 53 [(0, q0), (1, (.int .i64 p1)), (2, (.int .i64 p2)), (3, (.func (.func g3) fs3.toArray cs3.toArray)), (8, (.int .i64 s1.2)), (9, (.int .i64 s76.2))] a w) (fun (o77 : (List Int)) e a w => And (e = (.exit 2)) (Sat G ((slT (Enc.int .i64) q0 o77) :: F) 53 [(0, q0), (1, (.int .i64 p1)), (2, (.int .i64 p2)), (3, (.func (.func g3) fs3.toArray cs3.toArray)), (8, (.int .i64 s1.2))] a w)) hlo77 (fun a w s => (Sat.mk (s.env.le ⟨rfl, rfl, rfl, rfl, rfl, rfl, trivial⟩) (s.mem))) ?_ ?_
      · clear hm
        intro s76 x hm a w hJ
        have s := hJ
        unfold slices_insertionSortCmpFunc_impl_set_L2 at hm
        refine W.use s ?_
        refine W.seq ?_
        obtain ⟨o106, hm, hmo106⟩ := of_bind hm
        refine W.seq ?_
        refine W.join (fun e a w => And (e = .normal) (Sat G ((slT (Enc.int .i64) q0 s76.1) :: F) 53 [(0, q0), (1, (.int .i64 p1)), (2, (.int .i64 p2)), (3, (.func (.func g3) fs3.toArray cs3.toArray)), (8, (.int .i64 s1.2)), (9, (.int .i64 s76.2)), (34, (.bool o106))] a w)) ?_ ?_
        · by_cases h100 : p1 < s76.2
          · rw [if_pos h100] at hm
            obtain ⟨h101, hm⟩ := of_guard hm
            obtain ⟨h102, hm⟩ := of_guard hm
            obtain ⟨o103, h104, hm⟩ := of_bind hm
            refine W.join1 (fun a w => ∃ x105 : Unit, Sat G ((slT (Enc.int .i64) q0 s76.1) :: F) 53 [(0, q0), (1, (.int .i64 p1)), (2, (.int .i64 p2)), (3, (.func (.func g3) fs3.toArray cs3.toArray)), (8, (.int .i64 s1.2)), (9, (.int .i64 s76.2)), (22, (.func (.func g3) fs3.toArray cs3.toArray)), (23, q0), (24, (.int .i64 s76.2)), (26, (.int .i64 (gl s76.1 s76.2))), (27, q0), (28, (.int .i64 s76.2)), (29, (.int .i64 (IntKind.i64.wrap (s76.2 - 1)))), (31, (.int .i64 (gl s76.1 (IntKind.i64.wrap (s76.2 - 1))))), (32, (.int .i64 o103)), (33, (.bool (decide (o103 < 0)))), (34, (.bool (decide (o103 < 0))))] a w) ?_ ?_
            · refine W.draw (n := 17) ((slT (Enc.int .i64) q0 s76.1) :: F) F 17 (by kernel_rfl) rfl rfl (fun w hw => hw) (fun w hw => hw.drop 1) ?_
              refine WK.q (i := 0) rfl rfl (by kernel_rfl) calm_n (R.move rfl) rfl rfl ?_
              refine WK.x (i := 1) (by kernel_rfl) rfl (OpV.x (R.move rfl)) (fun _ w hw => hw) (fun _ _ _ w hw => hw.reord [] 1 rfl) rfl rfl (by kernel_rfl) fun _ => ?_
              refine WK.x (i := 2) (by kernel_rfl) rfl (OpV.x (R.gtr rfl rfl)) (fun _ w hw => hw) (fun _ _ _ w hw => hw.reord [] 1 rfl) rfl rfl (by kernel_rfl) fun _ => ?_
              refine WK.x (i := 3) (by kernel_rfl) rfl (OpV.x (R.move rfl)) (fun _ w hw => hw) (fun _ _ _ w hw => hw.reord [] 1 rfl) rfl rfl (by kernel_rfl) fun _ => ?_
              refine WK.qg (i := 4) rfl rfl rfl (decide_eq_true h100) (by kernel_rfl) calm_n (R.move rfl) rfl rfl ?_
              refine WK.qg (i := 5) rfl rfl rfl (decide_eq_true h100) (by kernel_rfl) calm_n (R.move rfl) rfl rfl ?_
              refine WK.qg (i := 6) rfl rfl rfl (decide_eq_true h100) (by kernel_rfl) calm_n (R.move rfl) rfl rfl ?_
              refine WK.qg (i := 7) rfl rfl rfl (decide_eq_true h100) (by kernel_rfl) calm_n (R.idxT rfl rfl el40 (RdT.at 0 rfl) h101) rfl rfl ?_
              refine WK.qg (i := 8) rfl rfl rfl (decide_eq_true h100) (by kernel_rfl) calm_n (R.load rfl (At.elT (RdT.at 0 rfl) (by decide) h101) (Lies.one _ ia50)) rfl rfl ?_
              refine WK.qg (i := 9) rfl rfl rfl (decide_eq_true h100) (by kernel_rfl) calm_n (R.move rfl) rfl rfl ?_
              refine WK.xg (i := 10) (by kernel_rfl) rfl rfl rfl (decide_eq_true h100) (OpV.x (R.move rfl)) (fun _ w hw => hw) (fun _ _ _ w hw => hw.reord [] 1 rfl) rfl rfl (by kernel_rfl) fun _ => ?_
              refine WK.xg (i := 11) (by kernel_rfl) rfl rfl rfl (decide_eq_true h100) (OpV.x (R.sub rfl rfl)) (fun _ w hw => hw) (fun _ _ _ w hw => hw.reord [] 1 rfl) rfl rfl (by kernel_rfl) fun _ => ?_
              refine WK.xg (i := 12) (by kernel_rfl) rfl rfl rfl (decide_eq_true h100) (OpV.x (R.idxT rfl rfl el40 (RdT.at 0 rfl) h102)) (fun _ w hw => hw) (fun _ _ _ w hw => hw.reord [] 1 rfl) rfl rfl (by kernel_rfl) fun _ => ?_
              refine WK.xg (i := 13) (by kernel_rfl) rfl rfl rfl (decide_eq_true h100) (OpV.x (R.load rfl (At.elT (RdT.at 0 rfl) (by decide) h102) (Lies.one _ ia50))) (fun _ w hw => hw) (fun _ _ _ w hw => hw.reord [] 1 rfl) rfl rfl (by kernel_rfl) fun _ => ?_
              refine WK.xg (i := 14) (by kernel_rfl) rfl rfl rfl (decide_eq_true h100) (R.callAny (fs := fs3) (cs := cs3) (vs := [(.int .i64 (gl s76.1 s76.2)), (.int .i64 (gl s76.1 (IntKind.i64.wrap (s76.2 - 1))))]) rfl rfl en_3 (hf3 [(slT (Enc.int .i64) q0 s76.1)] (gl s76.1 s76.2) (gl s76.1 (IntKind.i64.wrap (s76.2 - 1))) _ h104)) (fun _ w hw => hw) (fun _ _ _ w hw => hw.reord [] 1 rfl) rfl rfl (by kernel_rfl) fun x105 => ?_
              refine WK.xg (i := 15) (by kernel_rfl) rfl rfl rfl (decide_eq_true h100) (OpV.x (R.lss rfl rfl)) (fun _ w hw => hw) (fun _ _ _ w hw => hw.reord [] 1 rfl) rfl rfl (by kernel_rfl) fun _ => ?_
              refine WK.x (i := 16) (by kernel_rfl) rfl (OpV.x (R.pick_t rfl (decide_eq_true h100) rfl)) (fun _ w hw => hw) (fun _ _ _ w hw => hw.reord [] 1 rfl) rfl rfl (by kernel_rfl) fun _ => ?_
              refine WK.nil (by kernel_rfl) ?_
              exact fun a w s => And.intro rfl (Exists.intro x105 (Sat.mk (s.env.le ⟨rfl, rfl, rfl, rfl, rfl, rfl, rfl, rfl, rfl, rfl, rfl, rfl, rfl, rfl, rfl, rfl, rfl, trivial⟩) (s.mem)))
            · refine Go2.ex fun x105 => ?_
              refine Go2.sat ?_
              have he := Option.some.inj hm
              clear hm
              subst o106
              exact fun a w s => And.intro rfl (Sat.mk (s.env.le ⟨rfl, rfl, rfl, rfl, rfl, rfl, rfl, trivial⟩) (s.mem))
          · rw [if_neg h100] at hm
            refine W.join1 (fun a w => Sat G ((slT (Enc.int .i64) q0 s76.1) :: F) 53 [(0, q0), (1, (.int .i64 p1)), (2, (.int .i64 p2)), (3, (.func (.func g3) fs3.toArray cs3.toArray)), (8, (.int .i64 s1.2)), (9, (.int .i64 s76.2)), (34, (.bool false))] a w) ?_ ?_
            · refine W.draw (n := 17) ((slT (Enc.int .i64) q0 s76.1) :: F) F 17 (by kernel_rfl) rfl rfl (fun w hw => hw) (fun w hw => hw.drop 1) ?_
              refine WK.q (i := 0) rfl rfl (by kernel_rfl) calm_n (R.move rfl) rfl rfl ?_
              refine WK.x (i := 1) (by kernel_rfl) rfl (OpV.x (R.move rfl)) (fun _ w hw => hw) (fun _ _ _ w hw => hw.reord [] 1 rfl) rfl rfl (by kernel_rfl) fun _ => ?_
              refine WK.x (i := 2) (by kernel_rfl) rfl (OpV.x (R.gtr rfl rfl)) (fun _ w hw => hw) (fun _ _ _ w hw => hw.reord [] 1 rfl) rfl rfl (by kernel_rfl) fun _ => ?_
              refine WK.x (i := 3) (by kernel_rfl) rfl (OpV.x (R.move rfl)) (fun _ w hw => hw) (fun _ _ _ w hw => hw.reord [] 1 rfl) rfl rfl (by kernel_rfl) fun _ => ?_
              refine WK.qoff (i := 4) rfl rfl rfl (decide_eq_false h100) (by kernel_rfl) calm_n rfl rfl ?_
              refine WK.qoff (i := 5) rfl rfl rfl (decide_eq_false h100) (by kernel_rfl) calm_n rfl rfl ?_
              refine WK.qoff (i := 6) rfl rfl rfl (decide_eq_false h100) (by kernel_rfl) calm_n rfl rfl ?_
              refine WK.qoff (i := 7) rfl rfl rfl (decide_eq_false h100) (by kernel_rfl) calm_n rfl rfl ?_
              refine WK.qoff (i := 8) rfl rfl rfl (decide_eq_false h100) (by kernel_rfl) calm_n rfl rfl ?_
              refine WK.qoff (i := 9) rfl rfl rfl (decide_eq_false h100) (by kernel_rfl) calm_n rfl rfl ?_
              refine WK.qoff (i := 10) rfl rfl rfl (decide_eq_false h100) (by kernel_rfl) calm_n rfl rfl ?_
              refine WK.qoff (i := 11) rfl rfl rfl (decide_eq_false h100) (by kernel_rfl) calm_n rfl rfl ?_
              refine WK.qoff (i := 12) rfl rfl rfl (decide_eq_false h100) (by kernel_rfl) calm_n rfl rfl ?_
              refine WK.qoff (i := 13) rfl rfl rfl (decide_eq_false h100) (by kernel_rfl) calm_n rfl rfl ?_
              refine WK.qoff (i := 14) rfl rfl rfl (decide_eq_false h100) (by kernel_rfl) calm_n rfl rfl ?_
              refine WK.qoff (i := 15) rfl rfl rfl (decide_eq_false h100) (by kernel_rfl) calm_n rfl rfl ?_
              refine WK.x (i := 16) (by kernel_rfl) rfl (OpV.x (R.pick_f rfl (decide_eq_false h100) rfl)) (fun _ w hw => hw) (fun _ _ _ w hw => hw.reord [] 1 rfl) rfl rfl (by kernel_rfl) fun _ => ?_
              refine WK.nil (by kernel_rfl) ?_
              exact fun a w s => And.intro rfl (Sat.mk (s.env.le ⟨rfl, rfl, rfl, rfl, rfl, rfl, rfl, trivial⟩) (s.mem))
            · refine Go2.sat ?_
              have he := Option.some.inj hm
              clear hm
              subst o106
              exact fun a w s => And.intro rfl (Sat.mk (s.env.le ⟨rfl, rfl, rfl, rfl, rfl, rfl, rfl, trivial⟩) (s.mem))
        · intro e a w hJ
          replace hm := hmo106
          clear hmo106
          obtain ⟨rfl, s⟩ := hJ
          refine Go.use s ?_
          refine Go.then_ ?_
          by_cases h107 : o106 = true
          · rw [if_pos h107] at hm
            refine W.cond_t rfl h107 ?_
            refine W.skip ?_
            refine Go.then_ ?_
            refine W.seq ?_
            refine W.block ?_
            obtain ⟨h108, hm⟩ := of_guard hm
            obtain ⟨h109, hm⟩ := of_guard hm
            obtain ⟨h110, hm⟩ := of_guard hm
            refine W.join1 (fun a w => Sat G ((slT (Enc.int .i64) q0 (sls (sls s76.1 s76.2 (gl s76.1 (IntKind.i64.wrap (s76.2 - 1)))) (IntKind.i64.wrap (s76.2 - 1)) (gl s76.1 s76.2))) :: F) 53 [(0, q0), (1, (.int .i64 p1)), (2, (.int .i64 p2)), (3, (.func (.func g3) fs3.toArray cs3.toArray)), (8, (.int .i64 s1.2)), (9, (.int .i64 s76.2))] a w) ?_ ?_
            · refine W.draw (n := 18) F F 15 (by kernel_rfl) rfl rfl (fun w hw => hw.reord [] 1 rfl) (fun w hw => hw.drop 1) ?_
              refine WK.q (i := 0) rfl rfl (by kernel_rfl) calm_n (R.move rfl) rfl rfl ?_
              refine WK.q (i := 1) rfl rfl (by kernel_rfl) calm_n (R.move rfl) rfl rfl ?_
              refine WK.q (i := 2) rfl rfl (by kernel_rfl) calm_n (R.move rfl) rfl rfl ?_
              refine WK.q (i := 3) rfl rfl (by kernel_rfl) calm_n (R.move rfl) rfl rfl ?_
              refine WK.q (i := 4) rfl rfl (by kernel_rfl) calm_n (R.sub rfl rfl) rfl rfl ?_
              refine WK.q (i := 5) rfl rfl (by kernel_rfl) calm_n (R.move rfl) rfl rfl ?_
              refine WK.q (i := 6) rfl rfl (by kernel_rfl) calm_n (R.move rfl) rfl rfl ?_
              refine WK.q (i := 7) rfl rfl (by kernel_rfl) calm_n (R.sub rfl rfl) rfl rfl ?_
              refine WK.q (i := 10) rfl rfl (by kernel_rfl) calm_n (R.move rfl) rfl rfl ?_
              refine WK.q (i := 11) rfl rfl (by kernel_rfl) calm_n (R.move rfl) rfl rfl ?_
              refine WK.among (is := [8, 12]) (by kernel_rfl) rfl ?_
              refine WKa.x rfl (OpV.x (R.idxT rfl rfl el40 (RdT.at 0 rfl) h108)) (fun _ w hw => hw.reord [] 1 rfl) (fun _ _ _ w hw => hw.reord [] 1 rfl) rfl rfl (by kernel_rfl) (fun _ => ?_) ?_
              · refine WK.among (is := [9, 12]) (by kernel_rfl) rfl ?_
                refine WKa.x rfl (OpV.x (R.load rfl (At.elT (RdT.at 0 rfl) (by decide) h108) (Lies.one _ ia50))) (fun _ w hw => hw.reord [] 1 rfl) (fun _ _ _ w hw => hw.reord [] 1 rfl) rfl rfl (by kernel_rfl) (fun _ => ?_) ?_
                · refine WK.x (i := 12) (by kernel_rfl) rfl (OpV.x (R.idxT rfl rfl el40 (RdT.at 0 rfl) h109)) (fun _ w hw => hw.reord [] 1 rfl) (fun _ _ _ w hw => hw.reord [] 1 rfl) rfl rfl (by kernel_rfl) fun _ => ?_
                  refine WK.x (i := 13) (by kernel_rfl) rfl (OpV.x (R.load rfl (At.elT (RdT.at 0 rfl) (by decide) h109) (Lies.one _ ia50))) (fun _ w hw => hw.reord [] 1 rfl) (fun _ _ _ w hw => hw.reord [] 1 rfl) rfl rfl (by kernel_rfl) fun _ => ?_
                  refine WK.x (i := 14) (by kernel_rfl) rfl (OpV.x (R.idxT rfl rfl el40 (RdT.at 0 rfl) h109)) (fun _ w hw => hw.reord [] 1 rfl) (fun _ _ _ w hw => hw.reord [] 1 rfl) rfl rfl (by kernel_rfl) fun _ => ?_
                  refine WK.x0 (i := 15) (by kernel_rfl) rfl (R.storeT (i := 0) (gl s76.1 (IntKind.i64.wrap (s76.2 - 1))) rfl rfl rfl (fits_int sz50) (by decide) h109) (fun _ w hw => hw.reord [] 1 rfl) (fun h1 h2 => by cases h1) rfl (by kernel_rfl) fun _ => ?_
                  refine WK.x (i := 16) (by kernel_rfl) rfl (OpV.x (R.idxT rfl rfl el40 (RdT.at 0 rfl) h110)) (fun _ w hw => hw.reord [] 1 rfl) (fun h1 h2 => by cases h2) rfl rfl (by kernel_rfl) fun _ => ?_
                  refine WK.x0 (i := 17) (by kernel_rfl) rfl (R.storeT (i := 0) (gl s76.1 s76.2) rfl rfl rfl (fits_int sz50) (by decide) h110) (fun _ w hw => hw.reord [] 1 rfl) (fun h1 h2 => by cases h2) rfl (by kernel_rfl) fun _ => ?_
                  refine WK.nil (by kernel_rfl) ?_
                  exact fun a w s => And.intro rfl (Sat.mk (s.env.le ⟨rfl, rfl, rfl, rfl, rfl, rfl, trivial⟩) (s.mem))
                refine WKa.x rfl (OpV.x (R.idxT rfl rfl el40 (RdT.at 0 rfl) h109)) (fun _ w hw => hw.reord [] 1 rfl) (fun _ _ _ w hw => hw.reord [] 1 rfl) rfl rfl (by kernel_rfl) (fun _ => ?_) ?_
                · refine WK.among (is := [9, 13]) (by kernel_rfl) rfl ?_
                  refine WKa.x rfl (OpV.x (R.load rfl (At.elT (RdT.at 0 rfl) (by decide) h108) (Lies.one _ ia50))) (fun _ w hw => hw.reord [] 1 rfl) (fun _ _ _ w hw => hw.reord [] 1 rfl) rfl rfl (by kernel_rfl) (fun _ => ?_) ?_
                  · refine WK.x (i := 13) (by kernel_rfl) rfl (OpV.x (R.load rfl (At.elT (RdT.at 0 rfl) (by decide) h109) (Lies.one _ ia50))) (fun _ w hw => hw.reord [] 1 rfl) (fun _ _ _ w hw => hw.reord [] 1 rfl) rfl rfl (by kernel_rfl) fun _ => ?_
                    refine WK.x (i := 14) (by kernel_rfl) rfl (OpV.x (R.idxT rfl rfl el40 (RdT.at 0 rfl) h109)) (fun _ w hw => hw.reord [] 1 rfl) (fun _ _ _ w hw => hw.reord [] 1 rfl) rfl rfl (by kernel_rfl) fun _ => ?_
                    refine WK.x0 (i := 15) (by kernel_rfl) rfl (R.storeT (i := 0) (gl s76.1 (IntKind.i64.wrap (s76.2 - 1))) rfl rfl rfl (fits_int sz50) (by decide) h109) (fun _ w hw => hw.reord [] 1 rfl) (fun h1 h2 => by cases h1) rfl (by kernel_rfl) fun _ => ?_
                    refine WK.x (i := 16) (by kernel_rfl) rfl (OpV.x (R.idxT rfl rfl el40 (RdT.at 0 rfl) h110)) (fun _ w hw => hw.reord [] 1 rfl) (fun h1 h2 => by cases h2) rfl rfl (by kernel_rfl) fun _ => ?_
                    refine WK.x0 (i := 17) (by kernel_rfl) rfl (R.storeT (i := 0) (gl s76.1 s76.2) rfl rfl rfl (fits_int sz50) (by decide) h110) (fun _ w hw => hw.reord [] 1 rfl) (fun h1 h2 => by cases h2) rfl (by kernel_rfl) fun _ => ?_
                    refine WK.nil (by kernel_rfl) ?_
                    exact fun a w s => And.intro rfl (Sat.mk (s.env.le ⟨rfl, rfl, rfl, rfl, rfl, rfl, trivial⟩) (s.mem))
                  refine WKa.x rfl (OpV.x (R.load rfl (At.elT (RdT.at 0 rfl) (by decide) h109) (Lies.one _ ia50))) (fun _ w hw => hw.reord [] 1 rfl) (fun _ _ _ w hw => hw.reord [] 1 rfl) rfl rfl (by kernel_rfl) (fun _ => ?_) ?_
                  · refine WK.x (i := 9) (by kernel_rfl) rfl (OpV.x (R.load rfl (At.elT (RdT.at 0 rfl) (by decide) h108) (Lies.one _ ia50))) (fun _ w hw => hw.reord [] 1 rfl) (fun _ _ _ w hw => hw.reord [] 1 rfl) rfl rfl (by kernel_rfl) fun _ => ?_
                    refine WK.x (i := 14) (by kernel_rfl) rfl (OpV.x (R.idxT rfl rfl el40 (RdT.at 0 rfl) h109)) (fun _ w hw => hw.reord [] 1 rfl) (fun _ _ _ w hw => hw.reord [] 1 rfl) rfl rfl (by kernel_rfl) fun _ => ?_
                    refine WK.x0 (i := 15) (by kernel_rfl) rfl (R.storeT (i := 0) (gl s76.1 (IntKind.i64.wrap (s76.2 - 1))) rfl rfl rfl (fits_int sz50) (by decide) h109) (fun _ w hw => hw.reord [] 1 rfl) (fun h1 h2 => by cases h1) rfl (by kernel_rfl) fun _ => ?_
                    refine WK.x (i := 16) (by kernel_rfl) rfl (OpV.x (R.idxT rfl rfl el40 (RdT.at 0 rfl) h110)) (fun _ w hw => hw.reord [] 1 rfl) (fun h1 h2 => by cases h2) rfl rfl (by kernel_rfl) fun _ => ?_
                    refine WK.x0 (i := 17) (by kernel_rfl) rfl (R.storeT (i := 0) (gl s76.1 s76.2) rfl rfl rfl (fits_int sz50) (by decide) h110) (fun _ w hw => hw.reord [] 1 rfl) (fun h1 h2 => by cases h2) rfl (by kernel_rfl) fun _ => ?_
                    refine WK.nil (by kernel_rfl) ?_
                    exact fun a w s => And.intro rfl (Sat.mk (s.env.le ⟨rfl, rfl, rfl, rfl, rfl, rfl, trivial⟩) (s.mem))
                  exact WKa.nil
                exact WKa.nil
              refine WKa.x rfl (OpV.x (R.idxT rfl rfl el40 (RdT.at 0 rfl) h109)) (fun _ w hw => hw.reord [] 1 rfl) (fun _ _ _ w hw => hw.reord [] 1 rfl) rfl rfl (by kernel_rfl) (fun _ => ?_) ?_
              · refine WK.among (is := [8, 13]) (by kernel_rfl) rfl ?_
                refine WKa.x rfl (OpV.x (R.idxT rfl rfl el40 (RdT.at 0 rfl) h108)) (fun _ w hw => hw.reord [] 1 rfl) (fun _ _ _ w hw => hw.reord [] 1 rfl) rfl rfl (by kernel_rfl) (fun _ => ?_) ?_
                · refine WK.among (is := [9, 13]) (by kernel_rfl) rfl ?_
                  refine WKa.x rfl (OpV.x (R.load rfl (At.elT (RdT.at 0 rfl) (by decide) h108) (Lies.one _ ia50))) (fun _ w hw => hw.reord [] 1 rfl) (fun _ _ _ w hw => hw.reord [] 1 rfl) rfl rfl (by kernel_rfl) (fun _ => ?_) ?_
                  · refine WK.x (i := 13) (by kernel_rfl) rfl (OpV.x (R.load rfl (At.elT (RdT.at 0 rfl) (by decide) h109) (Lies.one _ ia50))) (fun _ w hw => hw.reord [] 1 rfl) (fun _ _ _ w hw => hw.reord [] 1 rfl) rfl rfl (by kernel_rfl) fun _ => ?_
                    refine WK.x (i := 14) (by kernel_rfl) rfl (OpV.x (R.idxT rfl rfl el40 (RdT.at 0 rfl) h109)) (fun _ w hw => hw.reord [] 1 rfl) (fun _ _ _ w hw => hw.reord [] 1 rfl) rfl rfl (by kernel_rfl) fun _ => ?_
                    refine WK.x0 (i := 15) (by kernel_rfl) rfl (R.storeT (i := 0) (gl s76.1 (IntKind.i64.wrap (s76.2 - 1))) rfl rfl rfl (fits_int sz50) (by decide) h109) (fun _ w hw => hw.reord [] 1 rfl) (fun h1 h2 => by cases h1) rfl (by kernel_rfl) fun _ => ?_
                    refine WK.x (i := 16) (by kernel_rfl) rfl (OpV.x (R.idxT rfl rfl el40 (RdT.at 0 rfl) h110)) (fun _ w hw => hw.reord [] 1 rfl) (fun h1 h2 => by cases h2) rfl rfl (by kernel_rfl) fun _ => ?_
                    refine WK.x0 (i := 17) (by kernel_rfl) rfl (R.storeT (i := 0) (gl s76.1 s76.2) rfl rfl rfl (fits_int sz50) (by decide) h110) (fun _ w hw => hw.reord [] 1 rfl) (fun h1 h2 => by cases h2) rfl (by kernel_rfl) fun _ => ?_
                    refine WK.nil (by kernel_rfl) ?_
                    exact fun a w s => And.intro rfl (Sat.mk (s.env.le ⟨rfl, rfl, rfl, rfl, rfl, rfl, trivial⟩) (s.mem))
                  refine WKa.x rfl (OpV.x (R.load rfl (At.elT (RdT.at 0 rfl) (by decide) h109) (Lies.one _ ia50))) (fun _ w hw => hw.reord [] 1 rfl) (fun _ _ _ w hw => hw.reord [] 1 rfl) rfl rfl (by kernel_rfl) (fun _ => ?_) ?_
                  · refine WK.x (i := 9) (by kernel_rfl) rfl (OpV.x (R.load rfl (At.elT (RdT.at 0 rfl) (by decide) h108) (Lies.one _ ia50))) (fun _ w hw => hw.reord [] 1 rfl) (fun _ _ _ w hw => hw.reord [] 1 rfl) rfl rfl (by kernel_rfl) fun _ => ?_
                    refine WK.x (i := 14) (by kernel_rfl) rfl (OpV.x (R.idxT rfl rfl el40 (RdT.at 0 rfl) h109)) (fun _ w hw => hw.reord [] 1 rfl) (fun _ _ _ w hw => hw.reord [] 1 rfl) rfl rfl (by kernel_rfl) fun _ => ?_
                    refine WK.x0 (i := 15) (by kernel_rfl) rfl (R.storeT (i := 0) (gl s76.1 (IntKind.i64.wrap (s76.2 - 1))) rfl rfl rfl (fits_int sz50) (by decide) h109) (fun _ w hw => hw.reord [] 1 rfl) (fun h1 h2 => by cases h1) rfl (by kernel_rfl) fun _ => ?_
                    refine WK.x (i := 16) (by kernel_rfl) rfl (OpV.x (R.idxT rfl rfl el40 (RdT.at 0 rfl) h110)) (fun _ w hw => hw.reord [] 1 rfl) (fun h1 h2 => by cases h2) rfl rfl (by kernel_rfl) fun _ => ?_
                    refine WK.x0 (i := 17) (by kernel_rfl) rfl (R.storeT (i := 0) (gl s76.1 s76.2) rfl rfl rfl (fits_int sz50) (by decide) h110) (fun _ w hw => hw.reord [] 1 rfl) (fun h1 h2 => by cases h2) rfl (by kernel_rfl) fun _ => ?_
                    refine WK.nil (by kernel_rfl) ?_
                    exact fun a w s => And.intro rfl (Sat.mk (s.env.le ⟨rfl, rfl, rfl, rfl, rfl, rfl, trivial⟩) (s.mem))
                  exact WKa.nil
                refine WKa.x rfl (OpV.x (R.load rfl (At.elT (RdT.at 0 rfl) (by decide) h109) (Lies.one _ ia50))) (fun _ w hw => hw.reord [] 1 rfl) (fun _ _ _ w hw => hw.reord [] 1 rfl) rfl rfl (by kernel_rfl) (fun _ => ?_) ?_
                · refine WK.x (i := 8) (by kernel_rfl) rfl (OpV.x (R.idxT rfl rfl el40 (RdT.at 0 rfl) h108)) (fun _ w hw => hw.reord [] 1 rfl) (fun _ _ _ w hw => hw.reord [] 1 rfl) rfl rfl (by kernel_rfl) fun _ => ?_
                  refine WK.x (i := 9) (by kernel_rfl) rfl (OpV.x (R.load rfl (At.elT (RdT.at 0 rfl) (by decide) h108) (Lies.one _ ia50))) (fun _ w hw => hw.reord [] 1 rfl) (fun _ _ _ w hw => hw.reord [] 1 rfl) rfl rfl (by kernel_rfl) fun _ => ?_
                  refine WK.x (i := 14) (by kernel_rfl) rfl (OpV.x (R.idxT rfl rfl el40 (RdT.at 0 rfl) h109)) (fun _ w hw => hw.reord [] 1 rfl) (fun _ _ _ w hw => hw.reord [] 1 rfl) rfl rfl (by kernel_rfl) fun _ => ?_
                  refine WK.x0 (i := 15) (by kernel_rfl) rfl (R.storeT (i := 0) (gl s76.1 (IntKind.i64.wrap (s76.2 - 1))) rfl rfl rfl (fits_int sz50) (by decide) h109) (fun _ w hw => hw.reord [] 1 rfl) (fun h1 h2 => by cases h1) rfl (by kernel_rfl) fun _ => ?_
                  refine WK.x (i := 16) (by kernel_rfl) rfl (OpV.x (R.idxT rfl rfl el40 (RdT.at 0 rfl) h110)) (fun _ w hw => hw.reord [] 1 rfl) (fun h1 h2 => by cases h2) rfl rfl (by kernel_rfl) fun _ => ?_
                  refine WK.x0 (i := 17) (by kernel_rfl) rfl (R.storeT (i := 0) (gl s76.1 s76.2) rfl rfl rfl (fits_int sz50) (by decide) h110) (fun _ w hw => hw.reord [] 1 rfl) (fun h1 h2 => by cases h2) rfl (by kernel_rfl) fun _ => ?_
                  refine WK.nil (by kernel_rfl) ?_
                  exact fun a w s => And.intro rfl (Sat.mk (s.env.le ⟨rfl, rfl, rfl, rfl, rfl, rfl, trivial⟩) (s.mem))
                exact WKa.nil
              exact WKa.nil
            · refine Go2.sat ?_
              refine Go.n_block ?_
              refine Go.then_ ?_
              refine W.region ?_
              refine WL.q (R.move rfl) rfl ?_
              refine WL.q (R.sub rfl rfl) rfl ?_
              refine WL.q (R.assign rfl) rfl ?_
              refine WL.nil ?_
              have he := Option.some.inj hm
              clear hm
              subst x
              exact fun a w s => Exists.intro _ (And.intro rfl (Sat.mk (s.env.le ⟨rfl, rfl, rfl, rfl, rfl, rfl, trivial⟩) (s.mem)))
          · rw [if_neg h107] at hm
            refine W.cond_f rfl (b_f h107) ?_
            refine W.exit ?_
            refine Go.x_then ?_
            have he := Option.some.inj hm
            clear hm
            subst x
            exact fun a w s => Exists.intro _ (And.intro rfl (And.intro rfl (Sat.mk (s.env.le ⟨rfl, rfl, rfl, rfl, rfl, trivial⟩) (s.mem))))
      · intro e a w hJ
        obtain ⟨rfl, s⟩ := hJ
        refine Go.use s ?_
        refine Go.x_block ?_
        refine Go.n_block ?_
        refine Go.then_ ?_
        refine W.region ?_
        refine WL.q (R.move rfl) rfl ?_
        refine WL.q (R.add rfl rfl) rfl ?_
        refine WL.q (R.assign rfl) rfl ?_
        refine WL.nil ?_
        have he := Option.some.inj hm
        clear hm
        subst x
        exact fun a w s => Exists.intro _ (And.intro rfl (Sat.mk (s.env.le ⟨rfl, rfl, rfl, rfl, rfl, trivial⟩) (s.mem)))
    · rw [if_neg h75] at hm
      refine W.cond_f rfl (decide_eq_false h75) ?_
      refine W.exit ?_
      refine Go.x_then ?_
      have he := Option.some.inj hm
      clear hm
      subst x
      exact fun a w s => Exists.intro _ (And.intro rfl (And.intro rfl (Sat.mk (s.env.le trivial) (s.mem))))
  · intro e a w hJ
    obtain ⟨rfl, s⟩ := hJ
    refine Go.use s ?_
    refine Go.x_block ?_
    have he := Option.some.inj hm
    clear hm
    subst r
    exact Go.ret0 (Or.inl rfl) rfl (fun w hw => ⟨_, rfl, _, ⟨(), rfl, rfl⟩, hw⟩)
set_option maxRecDepth 100000 in
theorem slices_siftDownCmpFunc_impl_set_tr {G : World} {F : List Res} (q0 : Value) (p0 : (List Int)) (p1 : Int) (p2 : Int) (p3 : Int) (g4 : FuncId) (fs4 cs4 : List Value) (f4 : Int → Int → Option Int) (en_4 : Enters Try.prog g4) (hf4 : ∀ (L : List Res) (a0 : Int) (a1 : Int) (r : Int), f4 a0 a1 = some r → Tr Try.prog G g4 (fs4 ++ [(.int .i64 a0), (.int .i64 a1)] ++ cs4) (L ++ F) (fun u K => ∃ x : Unit, u = (.int .i64 r) ∧ K = L ++ F)) {r : (List Int)} (hm : slices_siftDownCmpFunc_impl_set p0 p1 p2 p3 f4 = some r) : Tr Try.prog G 72 [q0, (.int .i64 p1), (.int .i64 p2), (.int .i64 p3), (.func (.func g4) fs4.toArray cs4.toArray)] ((slT (Enc.int .i64) q0 p0) :: F) (fun u K => ∃ x : Unit, u = (.tuple #[]) ∧ K = ((slT (Enc.int .i64) q0 r) :: F)) := by
  unfold slices_siftDownCmpFunc_impl_set at hm
  refine Tr.body Try.func72 rfl Try.ntmps72 ?_
  refine W.seq ?_
  refine W.region ?_
  refine WL.q (R.move rfl) rfl ?_
  refine WL.q (R.assign rfl) rfl ?_
  refine WL.nil ?_
  refine Go.then_ ?_
  refine W.block ?_
  obtain ⟨o2, hlo2, hm⟩ := of_bind hm
  refine W.loopx (fun (s1 : ((List Int) × Int)) a w => Sat G ((slT (Enc.int .i64) q0 s1.1) :: F) 82 [(0, q0), (2, (.int .i64 p2)), (3, (.int .i64 p3)), (4, (.func (.func g4) fs4.toArray cs4.toArray)), (10, (.int .i64 s1.2))] a w) (fun (o2 : (((List Int)) ⊕ ((List Int)))) e a w => (Sum.elim (fun o2 => And (e = (.exit 0)) (Sat G ((slT (Enc.int .i64) q0 o2) :: F) 82 [] a w)) (fun o2 => And (e = .ret) (Sat G ((slT (Enc.int .i64) q0 o2) :: F) 82 [] a w))) o2) hlo2 (fun a w s => (Sat.mk (s.env.le ⟨rfl, rfl, rfl, rfl, rfl, trivial⟩) (s.mem))) ?_ ?_
  · clear hm
    intro s1 x hm a w hJ
    have s := hJ
    unfold slices_siftDownCmpFunc_impl_set_L1 at hm
    refine W.use s ?_
    refine W.block ?_
    refine W.seq ?_
    refine W.region ?_
    refine WL.q (R.move rfl) rfl ?_
    refine WL.q (R.mul rfl rfl) rfl ?_
    refine WL.q (R.add rfl rfl) rfl ?_
    refine WL.q (R.assign rfl) rfl ?_
    refine WL.nil ?_
    refine Go.then_ ?_
    refine W.seq ?_
    refine W.seq ?_
    refine W.region ?_
    refine WL.q (R.move rfl) rfl ?_
    refine WL.q (R.move rfl) rfl ?_
    refine WL.q (R.geq rfl rfl) rfl ?_
    refine WL.nil ?_
    refine Go.then_ ?_
    by_cases h37 : p2 ≤ IntKind.i64.wrap ((IntKind.i64.wrap (2 * s1.2)) + 1)
    · rw [if_pos h37] at hm
      refine W.cond_t rfl (decide_eq_true h37) ?_
      refine W.exit ?_
      refine Go.x_then ?_
      refine Go.x_pass rfl ?_
      have he := Option.some.inj hm
      clear hm
      subst x
      exact fun a w s => Exists.intro _ (And.intro rfl (And.intro rfl (Sat.mk (s.env.le trivial) (s.mem))))
    · rw [if_neg h37] at hm
      refine W.cond_f rfl (decide_eq_false h37) ?_
      refine W.skip ?_
      refine Go.then_ ?_
      obtain ⟨o46, hm, hmo46⟩ := of_bind hm
      refine W.seq ?_
      refine W.join (fun e a w => And (e = .normal) (Sat G ((slT (Enc.int .i64) q0 s1.1) :: F) 82 [(0, q0), (2, (.int .i64 p2)), (3, (.int .i64 p3)), (4, (.func (.func g4) fs4.toArray cs4.toArray)), (10, (.int .i64 s1.2)), (11, (.int .i64 o46))] a w)) ?_ ?_
      · obtain ⟨o44, hm, hmo44⟩ := of_bind hm
        refine W.seq ?_
        refine W.join (fun e a w => And (e = .normal) (Sat G ((slT (Enc.int .i64) q0 s1.1) :: F) 82 [(0, q0), (2, (.int .i64 p2)), (3, (.int .i64 p3)), (4, (.func (.func g4) fs4.toArray cs4.toArray)), (10, (.int .i64 s1.2)), (11, (.int .i64 (IntKind.i64.wrap ((IntKind.i64.wrap (2 * s1.2)) + 1)))), (40, (.bool o44))] a w)) ?_ ?_
        · by_cases h38 : IntKind.i64.wrap ((IntKind.i64.wrap ((IntKind.i64.wrap (2 * s1.2)) + 1)) + 1) < p2
          · rw [if_pos h38] at hm
            obtain ⟨h39, hm⟩ := of_guard hm
            obtain ⟨h40, hm⟩ := of_guard hm
            obtain ⟨o41, h42, hm⟩ := of_bind hm
            refine W.join1 (fun a w => ∃ x43 : Unit, Sat G ((slT (Enc.int .i64) q0 s1.1) :: F) 82 [(0, q0), (2, (.int .i64 p2)), (3, (.int .i64 p3)), (4, (.func (.func g4) fs4.toArray cs4.toArray)), (10, (.int .i64 s1.2)), (11, (.int .i64 (IntKind.i64.wrap ((IntKind.i64.wrap (2 * s1.2)) + 1)))), (24, (.func (.func g4) fs4.toArray cs4.toArray)), (25, q0), (26, (.int .i64 p3)), (27, (.int .i64 (IntKind.i64.wrap ((IntKind.i64.wrap (2 * s1.2)) + 1)))), (28, (.int .i64 (IntKind.i64.wrap (p3 + (IntKind.i64.wrap ((IntKind.i64.wrap (2 * s1.2)) + 1)))))), (30, (.int .i64 (gl s1.1 (IntKind.i64.wrap (p3 + (IntKind.i64.wrap ((IntKind.i64.wrap (2 * s1.2)) + 1))))))), (31, q0), (32, (.int .i64 p3)), (33, (.int .i64 (IntKind.i64.wrap ((IntKind.i64.wrap (2 * s1.2)) + 1)))), (34, (.int .i64 (IntKind.i64.wrap (p3 + (IntKind.i64.wrap ((IntKind.i64.wrap (2 * s1.2)) + 1)))))), (35, (.int .i64 (IntKind.i64.wrap ((IntKind.i64.wrap (p3 + (IntKind.i64.wrap ((IntKind.i64.wrap (2 * s1.2)) + 1)))) + 1)))), (37, (.int .i64 (gl s1.1 (IntKind.i64.wrap ((IntKind.i64.wrap (p3 + (IntKind.i64.wrap ((IntKind.i64.wrap (2 * s1.2)) + 1)))) + 1))))), (38, (.int .i64 o41)), (39, (.bool (decide (o41 < 0)))), (40, (.bool (decide (o41 < 0))))] a w) ?_ ?_
            · refine W.draw (n := 22) ((slT (Enc.int .i64) q0 s1.1) :: F) F 22 (by kernel_rfl) rfl rfl (fun w hw => hw) (fun w hw => hw.drop 1) ?_
              refine WK.q (i := 0) rfl rfl (by kernel_rfl) calm_n (R.move rfl) rfl rfl ?_
              refine WK.q (i := 1) rfl rfl (by kernel_rfl) calm_n (R.add rfl rfl) rfl rfl ?_
              refine WK.x (i := 2) (by kernel_rfl) rfl (OpV.x (R.move rfl)) (fun _ w hw => hw) (fun _ _ _ w hw => hw.reord [] 1 rfl) rfl rfl (by kernel_rfl) fun _ => ?_
              refine WK.x (i := 3) (by kernel_rfl) rfl (OpV.x (R.lss rfl rfl)) (fun _ w hw => hw) (fun _ _ _ w hw => hw.reord [] 1 rfl) rfl rfl (by kernel_rfl) fun _ => ?_
              refine WK.x (i := 4) (by kernel_rfl) rfl (OpV.x (R.move rfl)) (fun _ w hw => hw) (fun _ _ _ w hw => hw.reord [] 1 rfl) rfl rfl (by kernel_rfl) fun _ => ?_
              refine WK.qg (i := 5) rfl rfl rfl (decide_eq_true h38) (by kernel_rfl) calm_n (R.move rfl) rfl rfl ?_
              refine WK.qg (i := 6) rfl rfl rfl (decide_eq_true h38) (by kernel_rfl) calm_n (R.move rfl) rfl rfl ?_
              refine WK.qg (i := 7) rfl rfl rfl (decide_eq_true h38) (by kernel_rfl) calm_n (R.move rfl) rfl rfl ?_
              refine WK.qg (i := 8) rfl rfl rfl (decide_eq_true h38) (by kernel_rfl) calm_n (R.move rfl) rfl rfl ?_
              refine WK.qg (i := 9) rfl rfl rfl (decide_eq_true h38) (by kernel_rfl) calm_n (R.add rfl rfl) rfl rfl ?_
              refine WK.qg (i := 10) rfl rfl rfl (decide_eq_true h38) (by kernel_rfl) calm_n (R.idxT rfl rfl el40 (RdT.at 0 rfl) h39) rfl rfl ?_
              refine WK.qg (i := 11) rfl rfl rfl (decide_eq_true h38) (by kernel_rfl) calm_n (R.load rfl (At.elT (RdT.at 0 rfl) (by decide) h39) (Lies.one _ ia50)) rfl rfl ?_
              refine WK.qg (i := 12) rfl rfl rfl (decide_eq_true h38) (by kernel_rfl) calm_n (R.move rfl) rfl rfl ?_
              refine WK.qg (i := 13) rfl rfl rfl (decide_eq_true h38) (by kernel_rfl) calm_n (R.move rfl) rfl rfl ?_
              refine WK.xg (i := 14) (by kernel_rfl) rfl rfl rfl (decide_eq_true h38) (OpV.x (R.move rfl)) (fun _ w hw => hw) (fun _ _ _ w hw => hw.reord [] 1 rfl) rfl rfl (by kernel_rfl) fun _ => ?_
              refine WK.xg (i := 15) (by kernel_rfl) rfl rfl rfl (decide_eq_true h38) (OpV.x (R.add rfl rfl)) (fun _ w hw => hw) (fun _ _ _ w hw => hw.reord [] 1 rfl) rfl rfl (by kernel_rfl) fun _ => ?_
              refine WK.xg (i := 16) (by kernel_rfl) rfl rfl rfl (decide_eq_true h38) (OpV.x (R.add rfl rfl)) (fun _ w hw => hw) (fun _ _ _ w hw => hw.reord [] 1 rfl) rfl rfl (by kernel_rfl) fun _ => ?_
              refine WK.xg (i := 17) (by kernel_rfl) rfl rfl rfl (decide_eq_true h38) (OpV.x (R.idxT rfl rfl el40 (RdT.at 0 rfl) h40)) (fun _ w hw => hw) (fun _ _ _ w hw => hw.reord [] 1 rfl) rfl rfl (by kernel_rfl) fun _ => ?_
              refine WK.xg (i := 18) (by kernel_rfl) rfl rfl rfl (decide_eq_true h38) (OpV.x (R.load rfl (At.elT (RdT.at 0 rfl) (by decide) h40) (Lies.one _ ia50))) (fun _ w hw => hw) (fun _ _ _ w hw => hw.reord [] 1 rfl) rfl rfl (by kernel_rfl) fun _ => ?_
              refine WK.xg (i := 19) (by kernel_rfl) rfl rfl rfl (decide_eq_true h38) (R.callAny (fs := fs4) (cs := cs4) (vs := [(.int .i64 (gl s1.1 (IntKind.i64.wrap (p3 + (IntKind.i64.wrap ((IntKind.i64.wrap (2 * s1.2)) + 1)))))), (.int .i64 (gl s1.1 (IntKind.i64.wrap ((IntKind.i64.wrap (p3 + (IntKind.i64.wrap ((IntKind.i64.wrap (2 * s1.2)) + 1)))) + 1))))]) rfl rfl en_4 (hf4 [(slT (Enc.int .i64) q0 s1.1)] (gl s1.1 (IntKind.i64.wrap (p3 + (IntKind.i64.wrap ((IntKind.i64.wrap (2 * s1.2)) + 1))))) (gl s1.1 (IntKind.i64.wrap ((IntKind.i64.wrap (p3 + (IntKind.i64.wrap ((IntKind.i64.wrap (2 * s1.2)) + 1)))) + 1))) _ h42)) (fun _ w hw => hw) (fun _ _ _ w hw => hw.reord [] 1 rfl) rfl rfl (by kernel_rfl) fun x43 => ?_
              refine WK.xg (i := 20) (by kernel_rfl) rfl rfl rfl (decide_eq_true h38) (OpV.x (R.lss rfl rfl)) (fun _ w hw => hw) (fun _ _ _ w hw => hw.reord [] 1 rfl) rfl rfl (by kernel_rfl) fun _ => ?_
              refine WK.x (i := 21) (by kernel_rfl) rfl (OpV.x (R.pick_t rfl (decide_eq_true h38) rfl)) (fun _ w hw => hw) (fun _ _ _ w hw => hw.reord [] 1 rfl) rfl rfl (by kernel_rfl) fun _ => ?_
              refine WK.nil (by kernel_rfl) ?_
              exact fun a w s => And.intro rfl (Exists.intro x43 (Sat.mk (s.env.le ⟨rfl, rfl, rfl, rfl, rfl, rfl, rfl, rfl, rfl, rfl, rfl, rfl, rfl, rfl, rfl, rfl, rfl, rfl, rfl, rfl, rfl, trivial⟩) (s.mem)))
            · refine Go2.ex fun x43 => ?_
              refine Go2.sat ?_
              have he := Option.some.inj hm
              clear hm
              subst o44
              exact fun a w s => And.intro rfl (Sat.mk (s.env.le ⟨rfl, rfl, rfl, rfl, rfl, rfl, rfl, trivial⟩) (s.mem))
          · rw [if_neg h38] at hm
            refine W.join1 (fun a w => Sat G ((slT (Enc.int .i64) q0 s1.1) :: F) 82 [(0, q0), (2, (.int .i64 p2)), (3, (.int .i64 p3)), (4, (.func (.func g4) fs4.toArray cs4.toArray)), (10, (.int .i64 s1.2)), (11, (.int .i64 (IntKind.i64.wrap ((IntKind.i64.wrap (2 * s1.2)) + 1)))), (40, (.bool false))] a w) ?_ ?_
            · refine W.draw (n := 22) ((slT (Enc.int .i64) q0 s1.1) :: F) F 22 (by kernel_rfl) rfl rfl (fun w hw => hw) (fun w hw => hw.drop 1) ?_
              refine WK.q (i := 0) rfl rfl (by kernel_rfl) calm_n (R.move rfl) rfl rfl ?_
              refine WK.q (i := 1) rfl rfl (by kernel_rfl) calm_n (R.add rfl rfl) rfl rfl ?_
              refine WK.x (i := 2) (by kernel_rfl) rfl (OpV.x (R.move rfl)) (fun _ w hw => hw) (fun _ _ _ w hw => hw.reord [] 1 rfl) rfl rfl (by kernel_rfl) fun _ => ?_
              refine WK.x (i := 3) (by kernel_rfl) rfl (OpV.x (R.lss rfl rfl)) (fun _ w hw => hw) (fun _ _ _ w hw => hw.reord [] 1 rfl) rfl rfl (by kernel_rfl) fun _ => ?_
              refine WK.x (i := 4) (by kernel_rfl) rfl (OpV.x (R.move rfl)) (fun _ w hw => hw) (fun _ _ _ w hw => hw.reord [] 1 rfl) rfl rfl (by kernel_rfl) fun _ => ?_
              refine WK.qoff (i := 5) rfl rfl rfl (decide_eq_false h38) (by kernel_rfl) calm_n rfl rfl ?_
              refine WK.qoff (i := 6) rfl rfl rfl (decide_eq_false h38) (by kernel_rfl) calm_n rfl rfl ?_
              refine WK.qoff (i := 7) rfl rfl rfl (decide_eq_false h38) (by kernel_rfl) calm_n rfl rfl ?_
              refine WK.qoff (i := 8) rfl rfl rfl (decide_eq_false h38) (by kernel_rfl) calm_n rfl rfl ?_
              refine WK.qoff (i := 9) rfl rfl rfl (decide_eq_false h38) (by kernel_rfl) calm_n rfl rfl ?_
              refine WK.qoff (i := 10) rfl rfl rfl (decide_eq_false h38) (by kernel_rfl) calm_n rfl rfl ?_
              refine WK.qoff (i := 11) rfl rfl rfl (decide_eq_false h38) (by kernel_rfl) calm_n rfl rfl ?_
              refine WK.qoff (i := 12) rfl rfl rfl (decide_eq_false h38) (by kernel_rfl) calm_n rfl rfl ?_
              refine WK.qoff (i := 13) rfl rfl rfl (decide_eq_false h38) (by kernel_rfl) calm_n rfl rfl ?_
              refine WK.qoff (i := 14) rfl rfl rfl (decide_eq_false h38) (by kernel_rfl) calm_n rfl rfl ?_
              refine WK.qoff (i := 15) rfl rfl rfl (decide_eq_false h38) (by kernel_rfl) calm_n rfl rfl ?_
              refine WK.qoff (i := 16) rfl rfl rfl (decide_eq_false h38) (by kernel_rfl) calm_n rfl rfl ?_
              refine WK.qoff (i := 17) rfl rfl rfl (decide_eq_false h38) (by kernel_rfl) calm_n rfl rfl ?_
              refine WK.qoff (i := 18) rfl rfl rfl (decide_eq_false h38) (by kernel_rfl) calm_n rfl rfl ?_
              refine WK.qoff (i := 19) rfl rfl rfl (decide_eq_false h38) (by kernel_rfl) calm_n rfl rfl ?_
              refine WK.qoff (i := 20) rfl rfl rfl (decide_eq_false h38) (by kernel_rfl) calm_n rfl rfl ?_
              refine WK.x (i := 21) (by kernel_rfl) rfl (OpV.x (R.pick_f rfl (decide_eq_false h38) rfl)) (fun _ w hw => hw) (fun _ _ _ w hw => hw.reord [] 1 rfl) rfl rfl (by kernel_rfl) fun _ => ?_
              refine WK.nil (by kernel_rfl) ?_
              exact fun a w s => And.intro rfl (Sat.mk (s.env.le ⟨rfl, rfl, rfl, rfl, rfl, rfl, rfl, trivial⟩) (s.mem))
            · refine Go2.sat ?_
              have he := Option.some.inj hm
              clear hm
              subst o44
              exact fun a w s => And.intro rfl (Sat.mk (s.env.le ⟨rfl, rfl, rfl, rfl, rfl, rfl, rfl, trivial⟩) (s.mem))
        · intro e a w hJ
          replace hm := hmo44
          clear hmo44
          obtain ⟨rfl, s⟩ := hJ
          refine Go.use s ?_
          refine Go.then_ ?_
          by_cases h45 : o44 = true
          · rw [if_pos h45] at hm
            refine W.cond_t rfl h45 ?_
            refine W.region ?_
            refine WL.q (R.move rfl) rfl ?_
            refine WL.q (R.add rfl rfl) rfl ?_
            refine WL.q (R.assign rfl) rfl ?_
            refine WL.nil ?_
            have he := Option.some.inj hm
            clear hm
            subst o46
            exact fun a w s => And.intro rfl (Sat.mk (s.env.le ⟨rfl, rfl, rfl, rfl, rfl, rfl, trivial⟩) (s.mem))
          · rw [if_neg h45] at hm
            refine W.cond_f rfl (b_f h45) ?_
            refine W.skip ?_
            have he := Option.some.inj hm
            clear hm
            subst o46
            exact fun a w s => And.intro rfl (Sat.mk (s.env.le ⟨rfl, rfl, rfl, rfl, rfl, rfl, trivial⟩) (s.mem))
      · intro e a w hJ
        replace hm := hmo46
        clear hmo46
        obtain ⟨rfl, s⟩ := hJ
        refine Go.use s ?_
        refine Go.then_ ?_
        refine W.seq ?_
        refine W.seq ?_
        obtain ⟨h47, hm⟩ := of_guard hm
        obtain ⟨h48, hm⟩ := of_guard hm
        obtain ⟨o49, h50, hm⟩ := of_bind hm
        refine W.join1 (fun a w => ∃ x51 : Unit, Sat G ((slT (Enc.int .i64) q0 s1.1) :: F) 82 [(0, q0), (2, (.int .i64 p2)), (3, (.int .i64 p3)), (4, (.func (.func g4) fs4.toArray cs4.toArray)), (10, (.int .i64 s1.2)), (11, (.int .i64 o46)), (58, (.bool (!(decide (o49 < 0)))))] a w) ?_ ?_
        · refine W.draw (n := 16) ((slT (Enc.int .i64) q0 s1.1) :: F) F 16 (by kernel_rfl) rfl rfl (fun w hw => hw) (fun w hw => hw.drop 1) ?_
          refine WK.q (i := 0) rfl rfl (by kernel_rfl) calm_n (R.move rfl) rfl rfl ?_
          refine WK.q (i := 1) rfl rfl (by kernel_rfl) calm_n (R.move rfl) rfl rfl ?_
          refine WK.q (i := 2) rfl rfl (by kernel_rfl) calm_n (R.move rfl) rfl rfl ?_
          refine WK.q (i := 3) rfl rfl (by kernel_rfl) calm_n (R.move rfl) rfl rfl ?_
          refine WK.q (i := 4) rfl rfl (by kernel_rfl) calm_n (R.add rfl rfl) rfl rfl ?_
          refine WK.q (i := 5) rfl rfl (by kernel_rfl) calm_n (R.idxT rfl rfl el40 (RdT.at 0 rfl) h47) rfl rfl ?_
          refine WK.q (i := 6) rfl rfl (by kernel_rfl) calm_n (R.load rfl (At.elT (RdT.at 0 rfl) (by decide) h47) (Lies.one _ ia50)) rfl rfl ?_
          refine WK.q (i := 7) rfl rfl (by kernel_rfl) calm_n (R.move rfl) rfl rfl ?_
          refine WK.q (i := 8) rfl rfl (by kernel_rfl) calm_n (R.move rfl) rfl rfl ?_
          refine WK.x (i := 9) (by kernel_rfl) rfl (OpV.x (R.move rfl)) (fun _ w hw => hw) (fun _ _ _ w hw => hw.reord [] 1 rfl) rfl rfl (by kernel_rfl) fun _ => ?_
          refine WK.x (i := 10) (by kernel_rfl) rfl (OpV.x (R.add rfl rfl)) (fun _ w hw => hw) (fun _ _ _ w hw => hw.reord [] 1 rfl) rfl rfl (by kernel_rfl) fun _ => ?_
          refine WK.x (i := 11) (by kernel_rfl) rfl (OpV.x (R.idxT rfl rfl el40 (RdT.at 0 rfl) h48)) (fun _ w hw => hw) (fun _ _ _ w hw => hw.reord [] 1 rfl) rfl rfl (by kernel_rfl) fun _ => ?_
          refine WK.x (i := 12) (by kernel_rfl) rfl (OpV.x (R.load rfl (At.elT (RdT.at 0 rfl) (by decide) h48) (Lies.one _ ia50))) (fun _ w hw => hw) (fun _ _ _ w hw => hw.reord [] 1 rfl) rfl rfl (by kernel_rfl) fun _ => ?_
          refine WK.x (i := 13) (by kernel_rfl) rfl (R.callAny (fs := fs4) (cs := cs4) (vs := [(.int .i64 (gl s1.1 (IntKind.i64.wrap (p3 + s1.2)))), (.int .i64 (gl s1.1 (IntKind.i64.wrap (p3 + o46))))]) rfl rfl en_4 (hf4 [(slT (Enc.int .i64) q0 s1.1)] (gl s1.1 (IntKind.i64.wrap (p3 + s1.2))) (gl s1.1 (IntKind.i64.wrap (p3 + o46))) _ h50)) (fun _ w hw => hw) (fun _ _ _ w hw => hw.reord [] 1 rfl) rfl rfl (by kernel_rfl) fun x51 => ?_
          refine WK.x (i := 14) (by kernel_rfl) rfl (OpV.x (R.lss rfl rfl)) (fun _ w hw => hw) (fun _ _ _ w hw => hw.reord [] 1 rfl) rfl rfl (by kernel_rfl) fun _ => ?_
          refine WK.x (i := 15) (by kernel_rfl) rfl (OpV.x (R.not rfl)) (fun _ w hw => hw) (fun _ _ _ w hw => hw.reord [] 1 rfl) rfl rfl (by kernel_rfl) fun _ => ?_
          refine WK.nil (by kernel_rfl) ?_
          exact fun a w s => And.intro rfl (Exists.intro x51 (Sat.mk (s.env.le ⟨rfl, rfl, rfl, rfl, rfl, rfl, rfl, trivial⟩) (s.mem)))
        · refine Go2.ex fun x51 => ?_
          refine Go2.sat ?_
          refine Go.then_ ?_
          by_cases h52 : o49 < 0
          · rw [if_pos h52] at hm
            refine W.cond_f rfl (not_f (decide_eq_true h52)) ?_
            refine W.skip ?_
            refine Go.then_ ?_
            refine W.seq ?_
            obtain ⟨h53, hm⟩ := of_guard hm
            refine W.join1 (fun a w => Sat G ((slT (Enc.int .i64) q0 (sls (sls s1.1 (IntKind.i64.wrap (p3 + s1.2)) (gl s1.1 (IntKind.i64.wrap (p3 + o46)))) (IntKind.i64.wrap (p3 + o46)) (gl s1.1 (IntKind.i64.wrap (p3 + s1.2))))) :: F) 82 [(0, q0), (2, (.int .i64 p2)), (3, (.int .i64 p3)), (4, (.func (.func g4) fs4.toArray cs4.toArray)), (10, (.int .i64 s1.2)), (11, (.int .i64 o46))] a w) ?_ ?_
            · refine W.draw (n := 24) F F 21 (by kernel_rfl) rfl rfl (fun w hw => hw.reord [] 1 rfl) (fun w hw => hw.drop 1) ?_
              refine WK.q (i := 0) rfl rfl (by kernel_rfl) calm_n (R.move rfl) rfl rfl ?_
              refine WK.q (i := 1) rfl rfl (by kernel_rfl) calm_n (R.move rfl) rfl rfl ?_
              refine WK.q (i := 2) rfl rfl (by kernel_rfl) calm_n (R.move rfl) rfl rfl ?_
              refine WK.q (i := 3) rfl rfl (by kernel_rfl) calm_n (R.add rfl rfl) rfl rfl ?_
              refine WK.q (i := 4) rfl rfl (by kernel_rfl) calm_n (R.move rfl) rfl rfl ?_
              refine WK.q (i := 5) rfl rfl (by kernel_rfl) calm_n (R.move rfl) rfl rfl ?_
              refine WK.q (i := 6) rfl rfl (by kernel_rfl) calm_n (R.move rfl) rfl rfl ?_
              refine WK.q (i := 7) rfl rfl (by kernel_rfl) calm_n (R.add rfl rfl) rfl rfl ?_
              refine WK.q (i := 8) rfl rfl (by kernel_rfl) calm_n (R.move rfl) rfl rfl ?_
              refine WK.q (i := 9) rfl rfl (by kernel_rfl) calm_n (R.move rfl) rfl rfl ?_
              refine WK.q (i := 10) rfl rfl (by kernel_rfl) calm_n (R.move rfl) rfl rfl ?_
              refine WK.q (i := 11) rfl rfl (by kernel_rfl) calm_n (R.add rfl rfl) rfl rfl ?_
              refine WK.q (i := 14) rfl rfl (by kernel_rfl) calm_n (R.move rfl) rfl rfl ?_
              refine WK.q (i := 15) rfl rfl (by kernel_rfl) calm_n (R.move rfl) rfl rfl ?_
              refine WK.q (i := 16) rfl rfl (by kernel_rfl) calm_n (R.move rfl) rfl rfl ?_
              refine WK.q (i := 17) rfl rfl (by kernel_rfl) calm_n (R.add rfl rfl) rfl rfl ?_
              refine WK.among (is := [12, 18]) (by kernel_rfl) rfl ?_
              refine WKa.x rfl (OpV.x (R.idxT rfl rfl el40 (RdT.at 0 rfl) h48)) (fun _ w hw => hw.reord [] 1 rfl) (fun _ _ _ w hw => hw.reord [] 1 rfl) rfl rfl (by kernel_rfl) (fun _ => ?_) ?_
              · refine WK.among (is := [13, 18]) (by kernel_rfl) rfl ?_
                refine WKa.x rfl (OpV.x (R.load rfl (At.elT (RdT.at 0 rfl) (by decide) h48) (Lies.one _ ia50))) (fun _ w hw => hw.reord [] 1 rfl) (fun _ _ _ w hw => hw.reord [] 1 rfl) rfl rfl (by kernel_rfl) (fun _ => ?_) ?_
                · refine WK.x (i := 18) (by kernel_rfl) rfl (OpV.x (R.idxT rfl rfl el40 (RdT.at 0 rfl) h47)) (fun _ w hw => hw.reord [] 1 rfl) (fun _ _ _ w hw => hw.reord [] 1 rfl) rfl rfl (by kernel_rfl) fun _ => ?_
                  refine WK.x (i := 19) (by kernel_rfl) rfl (OpV.x (R.load rfl (At.elT (RdT.at 0 rfl) (by decide) h47) (Lies.one _ ia50))) (fun _ w hw => hw.reord [] 1 rfl) (fun _ _ _ w hw => hw.reord [] 1 rfl) rfl rfl (by kernel_rfl) fun _ => ?_
                  refine WK.x (i := 20) (by kernel_rfl) rfl (OpV.x (R.idxT rfl rfl el40 (RdT.at 0 rfl) h47)) (fun _ w hw => hw.reord [] 1 rfl) (fun _ _ _ w hw => hw.reord [] 1 rfl) rfl rfl (by kernel_rfl) fun _ => ?_
                  refine WK.x0 (i := 21) (by kernel_rfl) rfl (R.storeT (i := 0) (gl s1.1 (IntKind.i64.wrap (p3 + o46))) rfl rfl rfl (fits_int sz50) (by decide) h47) (fun _ w hw => hw.reord [] 1 rfl) (fun h1 h2 => by cases h1) rfl (by kernel_rfl) fun _ => ?_
                  refine WK.x (i := 22) (by kernel_rfl) rfl (OpV.x (R.idxT rfl rfl el40 (RdT.at 0 rfl) h53)) (fun _ w hw => hw.reord [] 1 rfl) (fun h1 h2 => by cases h2) rfl rfl (by kernel_rfl) fun _ => ?_
                  refine WK.x0 (i := 23) (by kernel_rfl) rfl (R.storeT (i := 0) (gl s1.1 (IntKind.i64.wrap (p3 + s1.2))) rfl rfl rfl (fits_int sz50) (by decide) h53) (fun _ w hw => hw.reord [] 1 rfl) (fun h1 h2 => by cases h2) rfl (by kernel_rfl) fun _ => ?_
                  refine WK.nil (by kernel_rfl) ?_
                  exact fun a w s => And.intro rfl (Sat.mk (s.env.le ⟨rfl, rfl, rfl, rfl, rfl, rfl, trivial⟩) (s.mem))
                refine WKa.x rfl (OpV.x (R.idxT rfl rfl el40 (RdT.at 0 rfl) h47)) (fun _ w hw => hw.reord [] 1 rfl) (fun _ _ _ w hw => hw.reord [] 1 rfl) rfl rfl (by kernel_rfl) (fun _ => ?_) ?_
                · refine WK.among (is := [13, 19]) (by kernel_rfl) rfl ?_
                  refine WKa.x rfl (OpV.x (R.load rfl (At.elT (RdT.at 0 rfl) (by decide) h48) (Lies.one _ ia50))) (fun _ w hw => hw.reord [] 1 rfl) (fun _ _ _ w hw => hw.reord [] 1 rfl) rfl rfl (by kernel_rfl) (fun _ => ?_) ?_
                  · refine WK.x (i := 19) (by kernel_rfl) rfl (OpV.x (R.load rfl (At.elT (RdT.at 0 rfl) (by decide) h47) (Lies.one _ ia50))) (fun _ w hw => hw.reord [] 1 rfl) (fun _ _ _ w hw => hw.reord [] 1 rfl) rfl rfl (by kernel_rfl) fun _ => ?_
                    refine WK.x (i := 20) (by kernel_rfl) rfl (OpV.x (R.idxT rfl rfl el40 (RdT.at 0 rfl) h47)) (fun _ w hw => hw.reord [] 1 rfl) (fun _ _ _ w hw => hw.reord [] 1 rfl) rfl rfl (by kernel_rfl) fun _ => ?_
                    refine WK.x0 (i := 21) (by kernel_rfl) rfl (R.storeT (i := 0) (gl s1.1 (IntKind.i64.wrap (p3 + o46))) rfl rfl rfl (fits_int sz50) (by decide) h47) (fun _ w hw => hw.reord [] 1 rfl) (fun h1 h2 => by cases h1) rfl (by kernel_rfl) fun _ => ?_
                    refine WK.x (i := 22) (by kernel_rfl) rfl (OpV.x (R.idxT rfl rfl el40 (RdT.at 0 rfl) h53)) (fun _ w hw => hw.reord [] 1 rfl) (fun h1 h2 => by cases h2) rfl rfl (by kernel_rfl) fun _ => ?_
                    refine WK.x0 (i := 23) (by kernel_rfl) rfl (R.storeT (i := 0) (gl s1.1 (IntKind.i64.wrap (p3 + s1.2))) rfl rfl rfl (fits_int sz50) (by decide) h53) (fun _ w hw => hw.reord [] 1 rfl) (fun h1 h2 => by cases h2) rfl (by kernel_rfl) fun _ => ?_
                    refine WK.nil (by kernel_rfl) ?_
                    exact fun a w s => And.intro rfl (Sat.mk (s.env.le ⟨rfl, rfl, rfl, rfl, rfl, rfl, trivial⟩) (s.mem))
                  refine WKa.x rfl (OpV.x (R.load rfl (At.elT (RdT.at 0 rfl) (by decide) h47) (Lies.one _ ia50))) (fun _ w hw => hw.reord [] 1 rfl) (fun _ _ _ w hw => hw.reord [] 1 rfl) rfl rfl (by kernel_rfl) (fun _ => ?_) ?_
                  · refine WK.x (i := 13) (by kernel_rfl) rfl (OpV.x (R.load rfl (At.elT (RdT.at 0 rfl) (by decide) h48) (Lies.one _ ia50))) (fun _ w hw => hw.reord [] 1 rfl) (fun _ _ _ w hw => hw.reord [] 1 rfl) rfl rfl (by kernel_rfl) fun _ => ?_
                    refine WK.x (i := 20) (by kernel_rfl) rfl (OpV.x (R.idxT rfl rfl el40 (RdT.at 0 rfl) h47)) (fun _ w hw => hw.reord [] 1 rfl) (fun _ _ _ w hw => hw.reord [] 1 rfl) rfl rfl (by kernel_rfl) fun _ => ?_
                    refine WK.x0 (i := 21) (by kernel_rfl) rfl (R.storeT (i := 0) (gl s1.1 (IntKind.i64.wrap (p3 + o46))) rfl rfl rfl (fits_int sz50) (by decide) h47) (fun _ w hw => hw.reord [] 1 rfl) (fun h1 h2 => by cases h1) rfl (by kernel_rfl) fun _ => ?_
                    refine WK.x (i := 22) (by kernel_rfl) rfl (OpV.x (R.idxT rfl rfl el40 (RdT.at 0 rfl) h53)) (fun _ w hw => hw.reord [] 1 rfl) (fun h1 h2 => by cases h2) rfl rfl (by kernel_rfl) fun _ => ?_
                    refine WK.x0 (i := 23) (by kernel_rfl) rfl (R.storeT (i := 0) (gl s1.1 (IntKind.i64.wrap (p3 + s1.2))) rfl rfl rfl (fits_int sz50) (by decide) h53) (fun _ w hw => hw.reord [] 1 rfl) (fun h1 h2 => by cases h2) rfl (by kernel_rfl) fun _ => ?_
                    refine WK.nil (by kernel_rfl) ?_
                    exact fun a w s => And.intro rfl (Sat.mk (s.env.le ⟨rfl, rfl, rfl, rfl, rfl, rfl, trivial⟩) (s.mem))
                  exact WKa.nil
                exact WKa.nil
              refine WKa.x rfl (OpV.x (R.idxT rfl rfl el40 (RdT.at 0 rfl) h47)) (fun _ w hw => hw.reord [] 1 rfl) (fun _ _ _ w hw => hw.reord [] 1 rfl) rfl rfl (by kernel_rfl) (fun _ => ?_) ?_
              · refine WK.among (is := [12, 19]) (by kernel_rfl) rfl ?_
                refine WKa.x rfl (OpV.x (R.idxT rfl rfl el40 (RdT.at 0 rfl) h48)) (fun _ w hw => hw.reord [] 1 rfl) (fun _ _ _ w hw => hw.reord [] 1 rfl) rfl rfl (by kernel_rfl) (fun _ => ?_) ?_
                · refine WK.among (is := [13, 19]) (by kernel_rfl) rfl ?_
                  refine WKa.x rfl (OpV.x (R.load rfl (At.elT (RdT.at 0 rfl) (by decide) h48) (Lies.one _ ia50))) (fun _ w hw => hw.reord [] 1 rfl) (fun _ _ _ w hw => hw.reord [] 1 rfl) rfl rfl (by kernel_rfl) (fun _ => ?_) ?_
                  · refine WK.x (i := 19) (by kernel_rfl) rfl (OpV.x (R.load rfl (At.elT (RdT.at 0 rfl) (by decide) h47) (Lies.one _ ia50))) (fun _ w hw => hw.reord [] 1 rfl) (fun _ _ _ w hw => hw.reord [] 1 rfl) rfl rfl (by kernel_rfl) fun _ => ?_
                    refine WK.x (i := 20) (by kernel_rfl) rfl (OpV.x (R.idxT rfl rfl el40 (RdT.at 0 rfl) h47)) (fun _ w hw => hw.reord [] 1 rfl) (fun _ _ _ w hw => hw.reord [] 1 rfl) rfl rfl (by kernel_rfl) fun _ => ?_
                    refine WK.x0 (i := 21) (by kernel_rfl) rfl (R.storeT (i := 0) (gl s1.1 (IntKind.i64.wrap (p3 + o46))) rfl rfl rfl (fits_int sz50) (by decide) h47) (fun _ w hw => hw.reord [] 1 rfl) (fun h1 h2 => by cases h1) rfl (by kernel_rfl) fun _ => ?_
                    refine WK.x (i := 22) (by kernel_rfl) rfl (OpV.x (R.idxT rfl rfl el40 (RdT.at 0 rfl) h53)) (fun _ w hw => hw.reord [] 1 rfl) (fun h1 h2 => by cases h2) rfl rfl (by kernel_rfl) fun _ => ?_
                    refine WK.x0 (i := 23) (by kernel_rfl) rfl (R.storeT (i := 0) (gl s1.1 (IntKind.i64.wrap (p3 + s1.2))) rfl rfl rfl (fits_int sz50) (by decide) h53) (fun _ w hw => hw.reord [] 1 rfl) (fun h1 h2 => by cases h2) rfl (by kernel_rfl) fun _ => ?_
                    refine WK.nil (by kernel_rfl) ?_
                    exact fun a w s => And.intro rfl (Sat.mk (s.env.le ⟨rfl, rfl, rfl, rfl, rfl, rfl, trivial⟩) (s.mem))
                  refine WKa.x rfl (OpV.x (R.load rfl (At.elT (RdT.at 0 rfl) (by decide) h47) (Lies.one _ ia50))) (fun _ w hw => hw.reord [] 1 rfl) (fun _ _ _ w hw => hw.reord [] 1 rfl) rfl rfl (by kernel_rfl) (fun _ => ?_) ?_
                  · refine WK.x (i := 13) (by kernel_rfl) rfl (OpV.x (R.load rfl (At.elT (RdT.at 0 rfl) (by decide) h48) (Lies.one _ ia50))) (fun _ w hw => hw.reord [] 1 rfl) (fun _ _ _ w hw => hw.reord [] 1 rfl) rfl rfl (by kernel_rfl) fun _ => ?_
                    refine WK.x (i := 20) (by kernel_rfl) rfl (OpV.x (R.idxT rfl rfl el40 (RdT.at 0 rfl) h47)) (fun _ w hw => hw.reord [] 1 rfl) (fun _ _ _ w hw => hw.reord [] 1 rfl) rfl rfl (by kernel_rfl) fun _ => ?_
                    refine WK.x0 (i := 21) (by kernel_rfl) rfl (R.storeT (i := 0) (gl s1.1 (IntKind.i64.wrap (p3 + o46))) rfl rfl rfl (fits_int sz50) (by decide) h47) (fun _ w hw => hw.reord [] 1 rfl) (fun h1 h2 => by cases h1) rfl (by kernel_rfl) fun _ => ?_
                    refine WK.x (i := 22) (by kernel_rfl) rfl (OpV.x (R.idxT rfl rfl el40 (RdT.at 0 rfl) h53)) (fun _ w hw => hw.reord [] 1 rfl) (fun h1 h2 => by cases h2) rfl rfl (by kernel_rfl) fun _ => ?_
                    refine WK.x0 (i := 23) (by kernel_rfl) rfl (R.storeT (i := 0) (gl s1.1 (IntKind.i64.wrap (p3 + s1.2))) rfl rfl rfl (fits_int sz50) (by decide) h53) (fun _ w hw => hw.reord [] 1 rfl) (fun h1 h2 => by cases h2) rfl (by kernel_rfl) fun _ => ?_
                    refine WK.nil (by kernel_rfl) ?_
                    exact fun a w s => And.intro rfl (Sat.mk (s.env.le ⟨rfl, rfl, rfl, rfl, rfl, rfl, trivial⟩) (s.mem))
                  exact WKa.nil
                refine WKa.x rfl (OpV.x (R.load rfl (At.elT (RdT.at 0 rfl) (by decide) h47) (Lies.one _ ia50))) (fun _ w hw => hw.reord [] 1 rfl) (fun _ _ _ w hw => hw.reord [] 1 rfl) rfl rfl (by kernel_rfl) (fun _ => ?_) ?_
                · refine WK.x (i := 12) (by kernel_rfl) rfl (OpV.x (R.idxT rfl rfl el40 (RdT.at 0 rfl) h48)) (fun _ w hw => hw.reord [] 1 rfl) (fun _ _ _ w hw => hw.reord [] 1 rfl) rfl rfl (by kernel_rfl) fun _ => ?_
                  refine WK.x (i := 13) (by kernel_rfl) rfl (OpV.x (R.load rfl (At.elT (RdT.at 0 rfl) (by decide) h48) (Lies.one _ ia50))) (fun _ w hw => hw.reord [] 1 rfl) (fun _ _ _ w hw => hw.reord [] 1 rfl) rfl rfl (by kernel_rfl) fun _ => ?_
                  refine WK.x (i := 20) (by kernel_rfl) rfl (OpV.x (R.idxT rfl rfl el40 (RdT.at 0 rfl) h47)) (fun _ w hw => hw.reord [] 1 rfl) (fun _ _ _ w hw => hw.reord [] 1 rfl) rfl rfl (by kernel_rfl) fun _ => ?_
                  refine WK.x0 (i := 21) (by kernel_rfl) rfl (R.storeT (i := 0) (gl s1.1 (IntKind.i64.wrap (p3 + o46))) rfl rfl rfl (fits_int sz50) (by decide) h47) (fun _ w hw => hw.reord [] 1 rfl) (fun h1 h2 => by cases h1) rfl (by kernel_rfl) fun _ => ?_
                  refine WK.x (i := 22) (by kernel_rfl) rfl (OpV.x (R.idxT rfl rfl el40 (RdT.at 0 rfl) h53)) (fun _ w hw => hw.reord [] 1 rfl) (fun h1 h2 => by cases h2) rfl rfl (by kernel_rfl) fun _ => ?_
                  refine WK.x0 (i := 23) (by kernel_rfl) rfl (R.storeT (i := 0) (gl s1.1 (IntKind.i64.wrap (p3 + s1.2))) rfl rfl rfl (fits_int sz50) (by decide) h53) (fun _ w hw => hw.reord [] 1 rfl) (fun h1 h2 => by cases h2) rfl (by kernel_rfl) fun _ => ?_
                  refine WK.nil (by kernel_rfl) ?_
                  exact fun a w s => And.intro rfl (Sat.mk (s.env.le ⟨rfl, rfl, rfl, rfl, rfl, rfl, trivial⟩) (s.mem))
                exact WKa.nil
              exact WKa.nil
            · refine Go2.sat ?_
              refine Go.then_ ?_
              refine W.region ?_
              refine WL.q (R.move rfl) rfl ?_
              refine WL.q (R.assign rfl) rfl ?_
              refine WL.nil ?_
              refine Go.n_block ?_
              have he := Option.some.inj hm
              clear hm
              subst x
              exact fun a w s => Exists.intro _ (And.intro rfl (Sat.mk (s.env.le ⟨rfl, rfl, rfl, rfl, rfl, trivial⟩) (s.mem)))
          · rw [if_neg h52] at hm
            refine W.cond_t rfl (not_t (decide_eq_false h52)) ?_
            refine W.ret ?_
            refine Go.r_then ?_
            refine Go.r_block ?_
            have he := Option.some.inj hm
            clear hm
            subst x
            exact fun a w s => Exists.intro _ (And.intro rfl (And.intro rfl (Sat.mk (s.env.le trivial) (s.mem))))
  · intro e a w hJ
    rcases o2 with o2 | o2
    · simp only [Sum.elim_inl, Sum.elim_inr] at hm
      obtain ⟨rfl, s⟩ := hJ
      refine Go.use s ?_
      refine Go.x_block ?_
      have he := Option.some.inj hm
      clear hm
      subst r
      exact Go.ret0 (Or.inl rfl) rfl (fun w hw => ⟨_, rfl, _, ⟨(), rfl, rfl⟩, hw⟩)
    · simp only [Sum.elim_inl, Sum.elim_inr] at hm
      obtain ⟨rfl, s⟩ := hJ
      refine Go.use s ?_
      refine Go.r_block ?_
      have he := Option.some.inj hm
      clear hm
      subst r
      exact Go.ret0 (Or.inr rfl) rfl (fun w hw => ⟨_, rfl, _, ⟨(), rfl, rfl⟩, hw⟩)
set_option maxRecDepth 100000 in
theorem slices_heapSortCmpFunc_impl_set_tr {G : World} {F : List Res} (q0 : Value) (p0 : (List Int)) (p1 : Int) (p2 : Int) (g3 : FuncId) (fs3 cs3 : List Value) (f3 : Int → Int → Option Int) (en_3 : Enters Try.prog g3) (hf3 : ∀ (L : List Res) (a0 : Int) (a1 : Int) (r : Int), f3 a0 a1 = some r → Tr Try.prog G g3 (fs3 ++ [(.int .i64 a0), (.int .i64 a1)] ++ cs3) (L ++ F) (fun u K => ∃ x : Unit, u = (.int .i64 r) ∧ K = L ++ F)) {r : (List Int)} (hm : slices_heapSortCmpFunc_impl_set p0 p1 p2 f3 = some r) : Tr Try.prog G 58 [q0, (.int .i64 p1), (.int .i64 p2), (.func (.func g3) fs3.toArray cs3.toArray)] ((slT (Enc.int .i64) q0 p0) :: F) (fun u K => ∃ x : Unit, u = (.tuple #[]) ∧ K = ((slT (Enc.int .i64) q0 r) :: F)) := by
  unfold slices_heapSortCmpFunc_impl_set at hm
  refine Tr.body Try.func58 rfl Try.ntmps58 ?_
  refine W.seq ?_
  refine W.region ?_
  refine WL.q (R.move rfl) rfl ?_
  refine WL.q (R.assign rfl) rfl ?_
  refine WL.nil ?_
  refine Go.then_ ?_
  refine W.seq ?_
  refine W.region ?_
  refine WL.q (R.assign rfl) rfl ?_
  refine WL.nil ?_
  refine Go.then_ ?_
  refine W.seq ?_
  refine W.region ?_
  refine WL.q (R.move rfl) rfl ?_
  refine WL.q (R.move rfl) rfl ?_
  refine WL.q (R.sub rfl rfl) rfl ?_
  refine WL.q (R.assign rfl) rfl ?_
  refine WL.nil ?_
  refine Go.then_ ?_
  refine W.seq ?_
  refine W.seq ?_
  refine W.region ?_
  refine WL.q (R.move rfl) rfl ?_
  refine WL.q (R.sub rfl rfl) rfl ?_
  refine WL.q (R.quo rfl rfl (by decide : (2 : Int) ≠ 0)) rfl ?_
  refine WL.q (R.assign rfl) rfl ?_
  refine WL.nil ?_
  refine Go.then_ ?_
  refine W.block ?_
  obtain ⟨o2, hlo2, hm⟩ := of_bind hm
  refine W.loopx (fun (s1 : ((List Int) × Int)) a w => Sat G ((slT (Enc.int .i64) q0 s1.1) :: F) 60 [(0, q0), (3, (.func (.func g3) fs3.toArray cs3.toArray)), (8, (.int .i64 p1)), (9, (.int .i64 0)), (10, (.int .i64 (IntKind.i64.wrap (p2 - p1)))), (11, (.int .i64 s1.2))] a w) (fun (o2 : (List Int)) e a w => And (e = (.exit 0)) (Sat G ((slT (Enc.int .i64) q0 o2) :: F) 60 [(0, q0), (3, (.func (.func g3) fs3.toArray cs3.toArray)), (8, (.int .i64 p1)), (9, (.int .i64 0)), (10, (.int .i64 (IntKind.i64.wrap (p2 - p1))))] a w)) hlo2 (fun a w s => (Sat.mk (s.env.le ⟨rfl, rfl, rfl, rfl, rfl, rfl, trivial⟩) (s.mem))) ?_ ?_
  · clear hm
    intro s1 x hm a w hJ
    have s := hJ
    unfold slices_heapSortCmpFunc_impl_set_L1 at hm
    refine W.use s ?_
    refine W.seq ?_
    refine W.seq ?_
    refine W.region ?_
    refine WL.q (R.move rfl) rfl ?_
    refine WL.q (R.geq rfl rfl) rfl ?_
    refine WL.nil ?_
    refine Go.then_ ?_
    by_cases h11 : 0 ≤ s1.2
    · rw [if_pos h11] at hm
      refine W.cond_t rfl (decide_eq_true h11) ?_
      refine W.skip ?_
      refine Go.then_ ?_
      refine W.seq ?_
      refine W.block ?_
      refine W.region ?_
      refine WL.q (R.move rfl) rfl ?_
      refine WL.q (R.move rfl) rfl ?_
      refine WL.q (R.move rfl) rfl ?_
      refine WL.q (R.move rfl) rfl ?_
      refine WL.q (R.move rfl) rfl ?_
      obtain ⟨o12, h13, hm⟩ := of_bind hm
      refine WL.x ((R.call rfl en72 (slices_siftDownCmpFunc_impl_set_tr (F := F) q0 s1.1 s1.2 (IntKind.i64.wrap (p2 - p1)) p1 g3 fs3 cs3 f3 en_3 hf3 h13)).weak (fun w hw => hw.reord [0] 1 rfl)) rfl fun x14 => ?_
      refine WL.nil ?_
      refine Go.n_block ?_
      refine Go.then_ ?_
      refine W.region ?_
      refine WL.q (R.move rfl) rfl ?_
      refine WL.q (R.sub rfl rfl) rfl ?_
      refine WL.q (R.assign rfl) rfl ?_
      refine WL.nil ?_
      have he := Option.some.inj hm
      clear hm
      subst x
      exact fun a w s => Exists.intro _ (And.intro rfl (Sat.mk (s.env.le ⟨rfl, rfl, rfl, rfl, rfl, rfl, trivial⟩) (s.mem)))
    · rw [if_neg h11] at hm
      refine W.cond_f rfl (decide_eq_false h11) ?_
      refine W.exit ?_
      refine Go.x_then ?_
      have he := Option.some.inj hm
      clear hm
      subst x
      exact fun a w s => Exists.intro _ (And.intro rfl (And.intro rfl (Sat.mk (s.env.le ⟨rfl, rfl, rfl, rfl, rfl, trivial⟩) (s.mem))))
  · intro e a w hJ
    obtain ⟨rfl, s⟩ := hJ
    refine Go.use s ?_
    refine Go.x_block ?_
    refine Go.then_ ?_
    refine W.seq ?_
    refine W.region ?_
    refine WL.q (R.move rfl) rfl ?_
    refine WL.q (R.sub rfl rfl) rfl ?_
    refine WL.q (R.assign rfl) rfl ?_
    refine WL.nil ?_
    refine Go.then_ ?_
    refine W.block ?_
    obtain ⟨o16, hlo16, hm⟩ := of_bind hm
    refine W.loopx (fun (s15 : ((List Int) × Int)) a w => Sat G ((slT (Enc.int .i64) q0 s15.1) :: F) 60 [(0, q0), (3, (.func (.func g3) fs3.toArray cs3.toArray)), (8, (.int .i64 p1)), (9, (.int .i64 0)), (12, (.int .i64 s15.2))] a w) (fun (o16 : (List Int)) e a w => And (e = (.exit 2)) (Sat G ((slT (Enc.int .i64) q0 o16) :: F) 60 [] a w)) hlo16 (fun a w s => (Sat.mk (s.env.le ⟨rfl, rfl, rfl, rfl, rfl, trivial⟩) (s.mem))) ?_ ?_
    · clear hm
      intro s15 x hm a w hJ
      have s := hJ
      unfold slices_heapSortCmpFunc_impl_set_L2 at hm
      refine W.use s ?_
      refine W.seq ?_
      refine W.seq ?_
      refine W.region ?_
      refine WL.q (R.move rfl) rfl ?_
      refine WL.q (R.geq rfl rfl) rfl ?_
      refine WL.nil ?_
      refine Go.then_ ?_
      by_cases h31 : 0 ≤ s15.2
      · rw [if_pos h31] at hm
        refine W.cond_t rfl (decide_eq_true h31) ?_
        refine W.skip ?_
        refine Go.then_ ?_
        refine W.seq ?_
        refine W.block ?_
        refine W.seq ?_
        obtain ⟨h32, hm⟩ := of_guard hm
        obtain ⟨h33, hm⟩ := of_guard hm
        obtain ⟨h34, hm⟩ := of_guard hm
        refine W.join1 (fun a w => Sat G ((slT (Enc.int .i64) q0 (sls (sls s15.1 p1 (gl s15.1 (IntKind.i64.wrap (p1 + s15.2)))) (IntKind.i64.wrap (p1 + s15.2)) (gl s15.1 p1))) :: F) 60 [(0, q0), (3, (.func (.func g3) fs3.toArray cs3.toArray)), (8, (.int .i64 p1)), (9, (.int .i64 0)), (12, (.int .i64 s15.2))] a w) ?_ ?_
        · refine W.draw (n := 20) F F 17 (by kernel_rfl) rfl rfl (fun w hw => hw.reord [] 1 rfl) (fun w hw => hw.drop 1) ?_
          refine WK.q (i := 0) rfl rfl (by kernel_rfl) calm_n (R.move rfl) rfl rfl ?_
          refine WK.q (i := 1) rfl rfl (by kernel_rfl) calm_n (R.move rfl) rfl rfl ?_
          refine WK.q (i := 2) rfl rfl (by kernel_rfl) calm_n (R.move rfl) rfl rfl ?_
          refine WK.q (i := 3) rfl rfl (by kernel_rfl) calm_n (R.move rfl) rfl rfl ?_
          refine WK.q (i := 4) rfl rfl (by kernel_rfl) calm_n (R.move rfl) rfl rfl ?_
          refine WK.q (i := 5) rfl rfl (by kernel_rfl) calm_n (R.add rfl rfl) rfl rfl ?_
          refine WK.q (i := 6) rfl rfl (by kernel_rfl) calm_n (R.move rfl) rfl rfl ?_
          refine WK.q (i := 7) rfl rfl (by kernel_rfl) calm_n (R.move rfl) rfl rfl ?_
          refine WK.q (i := 8) rfl rfl (by kernel_rfl) calm_n (R.move rfl) rfl rfl ?_
          refine WK.q (i := 9) rfl rfl (by kernel_rfl) calm_n (R.add rfl rfl) rfl rfl ?_
          refine WK.q (i := 12) rfl rfl (by kernel_rfl) calm_n (R.move rfl) rfl rfl ?_
          refine WK.q (i := 13) rfl rfl (by kernel_rfl) calm_n (R.move rfl) rfl rfl ?_
          refine WK.among (is := [10, 14]) (by kernel_rfl) rfl ?_
          refine WKa.x rfl (OpV.x (R.idxT rfl rfl el40 (RdT.at 0 rfl) h32)) (fun _ w hw => hw.reord [] 1 rfl) (fun _ _ _ w hw => hw.reord [] 1 rfl) rfl rfl (by kernel_rfl) (fun _ => ?_) ?_
          · refine WK.among (is := [11, 14]) (by kernel_rfl) rfl ?_
            refine WKa.x rfl (OpV.x (R.load rfl (At.elT (RdT.at 0 rfl) (by decide) h32) (Lies.one _ ia50))) (fun _ w hw => hw.reord [] 1 rfl) (fun _ _ _ w hw => hw.reord [] 1 rfl) rfl rfl (by kernel_rfl) (fun _ => ?_) ?_
            · refine WK.x (i := 14) (by kernel_rfl) rfl (OpV.x (R.idxT rfl rfl el40 (RdT.at 0 rfl) h33)) (fun _ w hw => hw.reord [] 1 rfl) (fun _ _ _ w hw => hw.reord [] 1 rfl) rfl rfl (by kernel_rfl) fun _ => ?_
              refine WK.x (i := 15) (by kernel_rfl) rfl (OpV.x (R.load rfl (At.elT (RdT.at 0 rfl) (by decide) h33) (Lies.one _ ia50))) (fun _ w hw => hw.reord [] 1 rfl) (fun _ _ _ w hw => hw.reord [] 1 rfl) rfl rfl (by kernel_rfl) fun _ => ?_
              refine WK.x (i := 16) (by kernel_rfl) rfl (OpV.x (R.idxT rfl rfl el40 (RdT.at 0 rfl) h33)) (fun _ w hw => hw.reord [] 1 rfl) (fun _ _ _ w hw => hw.reord [] 1 rfl) rfl rfl (by kernel_rfl) fun _ => ?_
              refine WK.x0 (i := 17) (by kernel_rfl) rfl (R.storeT (i := 0) (gl s15.1 (IntKind.i64.wrap (p1 + s15.2))) rfl rfl rfl (fits_int sz50) (by decide) h33) (fun _ w hw => hw.reord [] 1 rfl) (fun h1 h2 => by cases h1) rfl (by kernel_rfl) fun _ => ?_
              refine WK.x (i := 18) (by kernel_rfl) rfl (OpV.x (R.idxT rfl rfl el40 (RdT.at 0 rfl) h34)) (fun _ w hw => hw.reord [] 1 rfl) (fun h1 h2 => by cases h2) rfl rfl (by kernel_rfl) fun _ => ?_
              refine WK.x0 (i := 19) (by kernel_rfl) rfl (R.storeT (i := 0) (gl s15.1 p1) rfl rfl rfl (fits_int sz50) (by decide) h34) (fun _ w hw => hw.reord [] 1 rfl) (fun h1 h2 => by cases h2) rfl (by kernel_rfl) fun _ => ?_
              refine WK.nil (by kernel_rfl) ?_
              exact fun a w s => And.intro rfl (Sat.mk (s.env.le ⟨rfl, rfl, rfl, rfl, rfl, trivial⟩) (s.mem))
            refine WKa.x rfl (OpV.x (R.idxT rfl rfl el40 (RdT.at 0 rfl) h33)) (fun _ w hw => hw.reord [] 1 rfl) (fun _ _ _ w hw => hw.reord [] 1 rfl) rfl rfl (by kernel_rfl) (fun _ => ?_) ?_
            · refine WK.among (is := [11, 15]) (by kernel_rfl) rfl ?_
              refine WKa.x rfl (OpV.x (R.load rfl (At.elT (RdT.at 0 rfl) (by decide) h32) (Lies.one _ ia50))) (fun _ w hw => hw.reord [] 1 rfl) (fun _ _ _ w hw => hw.reord [] 1 rfl) rfl rfl (by kernel_rfl) (fun _ => ?_) ?_
              · refine WK.x (i := 15) (by kernel_rfl) rfl (OpV.x (R.load rfl (At.elT (RdT.at 0 rfl) (by decide) h33) (Lies.one _ ia50))) (fun _ w hw => hw.reord [] 1 rfl) (fun _ _ _ w hw => hw.reord [] 1 rfl) rfl rfl (by kernel_rfl) fun _ => ?_
                refine WK.x (i := 16) (by kernel_rfl) rfl (OpV.x (R.idxT rfl rfl el40 (RdT.at 0 rfl) h33)) (fun _ w hw => hw.reord [] 1 rfl) (fun _ _ _ w hw => hw.reord [] 1 rfl) rfl rfl (by kernel_rfl) fun _ => ?_
                refine WK.x0 (i := 17) (by kernel_rfl) rfl (R.storeT (i := 0) (gl s15.1 (IntKind.i64.wrap (p1 + s15.2))) rfl rfl rfl (fits_int sz50) (by decide) h33) (fun _ w hw => hw.reord [] 1 rfl) (fun h1 h2 => by cases h1) rfl (by kernel_rfl) fun _ => ?_
                refine WK.x (i := 18) (by kernel_rfl) rfl (OpV.x (R.idxT rfl rfl el40 (RdT.at 0 rfl) h34)) (fun _ w hw => hw.reord [] 1 rfl) (fun h1 h2 => by cases h2) rfl rfl (by kernel_rfl) fun _ => ?_
                refine WK.x0 (i := 19) (by kernel_rfl) rfl (R.storeT (i := 0) (gl s15.1 p1) rfl rfl rfl (fits_int sz50) (by decide) h34) (fun _ w hw => hw.reord [] 1 rfl) (fun h1 h2 => by cases h2) rfl (by kernel_rfl) fun _ => ?_
                refine WK.nil (by kernel_rfl) ?_
                exact fun a w s => And.intro rfl (Sat.mk (s.env.le ⟨rfl, rfl, rfl, rfl, rfl, trivial⟩) (s.mem))
              refine WKa.x rfl (OpV.x (R.load rfl (At.elT (RdT.at 0 rfl) (by decide) h33) (Lies.one _ ia50))) (fun _ w hw => hw.reord [] 1 rfl) (fun _ _ _ w hw => hw.reord [] 1 rfl) rfl rfl (by kernel_rfl) (fun _ => ?_) ?_
              · refine WK.x (i := 11) (by kernel_rfl) rfl (OpV.x (R.load rfl (At.elT (RdT.at 0 rfl) (by decide) h32) (Lies.one _ ia50))) (fun _ w hw => hw.reord [] 1 rfl) (fun _ _ _ w hw => hw.reord [] 1 rfl) rfl rfl (by kernel_rfl) fun _ => ?_
                refine WK.x (i := 16) (by kernel_rfl) rfl (OpV.x (R.idxT rfl rfl el40 (RdT.at 0 rfl) h33)) (fun _ w hw => hw.reord [] 1 rfl) (fun _ _ _ w hw => hw.reord [] 1 rfl) rfl rfl (by kernel_rfl) fun _ => ?_
                refine WK.x0 (i := 17) (by kernel_rfl) rfl (R.storeT (i := 0) (gl s15.1 (IntKind.i64.wrap (p1 + s15.2))) rfl rfl rfl (fits_int sz50) (by decide) h33) (fun _ w hw => hw.reord [] 1 rfl) (fun h1 h2 => by cases h1) rfl (by kernel_rfl) fun _ => ?_
                refine WK.x (i := 18) (by kernel_rfl) rfl (OpV.x (R.idxT rfl rfl el40 (RdT.at 0 rfl) h34)) (fun _ w hw => hw.reord [] 1 rfl) (fun h1 h2 => by cases h2) rfl rfl (by kernel_rfl) fun _ => ?_
                refine WK.x0 (i := 19) (by kernel_rfl) rfl (R.storeT (i := 0) (gl s15.1 p1) rfl rfl rfl (fits_int sz50) (by decide) h34) (fun _ w hw => hw.reord [] 1 rfl) (fun h1 h2 => by cases h2) rfl (by kernel_rfl) fun _ => ?_
                refine WK.nil (by kernel_rfl) ?_
                exact fun a w s => And.intro rfl (Sat.mk (s.env.le ⟨rfl, rfl, rfl, rfl, rfl, trivial⟩) (s.mem))
              exact WKa.nil
            exact WKa.nil
          refine WKa.x rfl (OpV.x (R.idxT rfl rfl el40 (RdT.at 0 rfl) h33)) (fun _ w hw => hw.reord [] 1 rfl) (fun _ _ _ w hw => hw.reord [] 1 rfl) rfl rfl (by kernel_rfl) (fun _ => ?_) ?_
          · refine WK.among (is := [10, 15]) (by kernel_rfl) rfl ?_
            refine WKa.x rfl (OpV.x (R.idxT rfl rfl el40 (RdT.at 0 rfl) h32)) (fun _ w hw => hw.reord [] 1 rfl) (fun _ _ _ w hw => hw.reord [] 1 rfl) rfl rfl (by kernel_rfl) (fun _ => ?_) ?_
            · refine WK.among (is := [11, 15]) (by kernel_rfl) rfl ?_
              refine WKa.x rfl (OpV.x (R.load rfl (At.elT (RdT.at 0 rfl) (by decide) h32) (Lies.one _ ia50))) (fun _ w hw => hw.reord [] 1 rfl) (fun _ _ _ w hw => hw.reord [] 1 rfl) rfl rfl (by kernel_rfl) (fun _ => ?_) ?_
              · refine WK.x (i := 15) (by kernel_rfl) rfl (OpV.x (R.load rfl (At.elT (RdT.at 0 rfl) (by decide) h33) (Lies.one _ ia50))) (fun _ w hw => hw.reord [] 1 rfl) (fun _ _ _ w hw => hw.reord [] 1 rfl) rfl rfl (by kernel_rfl) fun _ => ?_
                refine WK.x (i := 16) (by kernel_rfl) rfl (OpV.x (R.idxT rfl rfl el40 (RdT.at 0 rfl) h33)) (fun _ w hw => hw.reord [] 1 rfl) (fun _ _ _ w hw => hw.reord [] 1 rfl) rfl rfl (by kernel_rfl) fun _ => ?_
                refine WK.x0 (i := 17) (by kernel_rfl) rfl (R.storeT (i := 0) (gl s15.1 (IntKind.i64.wrap (p1 + s15.2))) rfl rfl rfl (fits_int sz50) (by decide) h33) (fun _ w hw => hw.reord [] 1 rfl) (fun h1 h2 => by cases h1) rfl (by kernel_rfl) fun _ => ?_
                refine WK.x (i := 18) (by kernel_rfl) rfl (OpV.x (R.idxT rfl rfl el40 (RdT.at 0 rfl) h34)) (fun _ w hw => hw.reord [] 1 rfl) (fun h1 h2 => by cases h2) rfl rfl (by kernel_rfl) fun _ => ?_
                refine WK.x0 (i := 19) (by kernel_rfl) rfl (R.storeT (i := 0) (gl s15.1 p1) rfl rfl rfl (fits_int sz50) (by decide) h34) (fun _ w hw => hw.reord [] 1 rfl) (fun h1 h2 => by cases h2) rfl (by kernel_rfl) fun _ => ?_
                refine WK.nil (by kernel_rfl) ?_
                exact fun a w s => And.intro rfl (Sat.mk (s.env.le ⟨rfl, rfl, rfl, rfl, rfl, trivial⟩) (s.mem))
              refine WKa.x rfl (OpV.x (R.load rfl (At.elT (RdT.at 0 rfl) (by decide) h33) (Lies.one _ ia50))) (fun _ w hw => hw.reord [] 1 rfl) (fun _ _ _ w hw => hw.reord [] 1 rfl) rfl rfl (by kernel_rfl) (fun _ => ?_) ?_
              · refine WK.x (i := 11) (by kernel_rfl) rfl (OpV.x (R.load rfl (At.elT (RdT.at 0 rfl) (by decide) h32) (Lies.one _ ia50))) (fun _ w hw => hw.reord [] 1 rfl) (fun _ _ _ w hw => hw.reord [] 1 rfl) rfl rfl (by kernel_rfl) fun _ => ?_
                refine WK.x (i := 16) (by kernel_rfl) rfl (OpV.x (R.idxT rfl rfl el40 (RdT.at 0 rfl) h33)) (fun _ w hw => hw.reord [] 1 rfl) (fun _ _ _ w hw => hw.reord [] 1 rfl) rfl rfl (by kernel_rfl) fun _ => ?_
                refine WK.x0 (i := 17) (by kernel_rfl) rfl (R.storeT (i := 0) (gl s15.1 (IntKind.i64.wrap (p1 + s15.2))) rfl rfl rfl (fits_int sz50) (by decide) h33) (fun _ w hw => hw.reord [] 1 rfl) (fun h1 h2 => by cases h1) rfl (by kernel_rfl) fun _ => ?_
                refine WK.x (i := 18) (by kernel_rfl) rfl (OpV.x (R.idxT rfl rfl el40 (RdT.at 0 rfl) h34)) (fun _ w hw => hw.reord [] 1 rfl) (fun h1 h2 => by cases h2) rfl rfl (by kernel_rfl) fun _ => ?_
                refine WK.x0 (i := 19) (by kernel_rfl) rfl (R.storeT (i := 0) (gl s15.1 p1) rfl rfl rfl (fits_int sz50) (by decide) h34) (fun _ w hw => hw.reord [] 1 rfl) (fun h1 h2 => by cases h2) rfl (by kernel_rfl) fun _ => ?_
                refine WK.nil (by kernel_rfl) ?_
                exact fun a w s => And.intro rfl (Sat.mk (s.env.le ⟨rfl, rfl, rfl, rfl, rfl, trivial⟩) (s.mem))
              exact WKa.nil
            refine WKa.x rfl (OpV.x (R.load rfl (At.elT (RdT.at 0 rfl) (by decide) h33) (Lies.one _ ia50))) (fun _ w hw => hw.reord [] 1 rfl) (fun _ _ _ w hw => hw.reord [] 1 rfl) rfl rfl (by kernel_rfl) (fun _ => ?_) ?_
            · refine WK.x (i := 10) (by kernel_rfl) rfl (OpV.x (R.idxT rfl rfl el40 (RdT.at 0 rfl) h32)) (fun _ w hw => hw.reord [] 1 rfl) (fun _ _ _ w hw => hw.reord [] 1 rfl) rfl rfl (by kernel_rfl) fun _ => ?_
              refine WK.x (i := 11) (by kernel_rfl) rfl (OpV.x (R.load rfl (At.elT (RdT.at 0 rfl) (by decide) h32) (Lies.one _ ia50))) (fun _ w hw => hw.reord [] 1 rfl) (fun _ _ _ w hw => hw.reord [] 1 rfl) rfl rfl (by kernel_rfl) fun _ => ?_
              refine WK.x (i := 16) (by kernel_rfl) rfl (OpV.x (R.idxT rfl rfl el40 (RdT.at 0 rfl) h33)) (fun _ w hw => hw.reord [] 1 rfl) (fun _ _ _ w hw => hw.reord [] 1 rfl) rfl rfl (by kernel_rfl) fun _ => ?_
              refine WK.x0 (i := 17) (by kernel_rfl) rfl (R.storeT (i := 0) (gl s15.1 (IntKind.i64.wrap (p1 + s15.2))) rfl rfl rfl (fits_int sz50) (by decide) h33) (fun _ w hw => hw.reord [] 1 rfl) (fun h1 h2 => by cases h1) rfl (by kernel_rfl) fun _ => ?_
              refine WK.x (i := 18) (by kernel_rfl) rfl (OpV.x (R.idxT rfl rfl el40 (RdT.at 0 rfl) h34)) (fun _ w hw => hw.reord [] 1 rfl) (fun h1 h2 => by cases h2) rfl rfl (by kernel_rfl) fun _ => ?_
              refine WK.x0 (i := 19) (by kernel_rfl) rfl (R.storeT (i := 0) (gl s15.1 p1) rfl rfl rfl (fits_int sz50) (by decide) h34) (fun _ w hw => hw.reord [] 1 rfl) (fun h1 h2 => by cases h2) rfl (by kernel_rfl) fun _ => ?_
              refine WK.nil (by kernel_rfl) ?_
              exact fun a w s => And.intro rfl (Sat.mk (s.env.le ⟨rfl, rfl, rfl, rfl, rfl, trivial⟩) (s.mem))
            exact WKa.nil
          exact WKa.nil
        · refine Go2.sat ?_
          refine Go.then_ ?_
          refine W.region ?_
          refine WL.q (R.move rfl) rfl ?_
          refine WL.q (R.move rfl) rfl ?_
          refine WL.q (R.move rfl) rfl ?_
          refine WL.q (R.move rfl) rfl ?_
          refine WL.q (R.move rfl) rfl ?_
          obtain ⟨o35, h36, hm⟩ := of_bind hm
          refine WL.x ((R.call rfl en72 (slices_siftDownCmpFunc_impl_set_tr (F := F) q0 (sls (sls s15.1 p1 (gl s15.1 (IntKind.i64.wrap (p1 + s15.2)))) (IntKind.i64.wrap (p1 + s15.2)) (gl s15.1 p1)) 0 s15.2 p1 g3 fs3 cs3 f3 en_3 hf3 h36)).weak (fun w hw => hw.reord [0] 1 rfl)) rfl fun x37 => ?_
          refine WL.nil ?_
          refine Go.n_block ?_
          refine Go.then_ ?_
          refine W.region ?_
          refine WL.q (R.move rfl) rfl ?_
          refine WL.q (R.sub rfl rfl) rfl ?_
          refine WL.q (R.assign rfl) rfl ?_
          refine WL.nil ?_
          have he := Option.some.inj hm
          clear hm
          subst x
          exact fun a w s => Exists.intro _ (And.intro rfl (Sat.mk (s.env.le ⟨rfl, rfl, rfl, rfl, rfl, trivial⟩) (s.mem)))
      · rw [if_neg h31] at hm
        refine W.cond_f rfl (decide_eq_false h31) ?_
        refine W.exit ?_
        refine Go.x_then ?_
        have he := Option.some.inj hm
        clear hm
        subst x
        exact fun a w s => Exists.intro _ (And.intro rfl (And.intro rfl (Sat.mk (s.env.le trivial) (s.mem))))
    · intro e a w hJ
      obtain ⟨rfl, s⟩ := hJ
      refine Go.use s ?_
      refine Go.x_block ?_
      have he := Option.some.inj hm
      clear hm
      subst r
      exact Go.ret0 (Or.inl rfl) rfl (fun w hw => ⟨_, rfl, _, ⟨(), rfl, rfl⟩, hw⟩)
set_option maxRecDepth 100000 in
theorem bits_Len32_tr {G : World} {F : List Res} (p0 : Int) {r : Int} (hm : bits_Len32 p0 = some r) : Tr Try.prog G 65 [(.int .u32 p0)] F (fun u K => ∃ x : Unit, u = (.int .i64 r) ∧ K = F) := by
  unfold bits_Len32 at hm
  refine Tr.body Try.func65 rfl Try.ntmps65 ?_
  refine W.seq ?_
  refine W.region ?_
  refine WL.q (R.assign rfl) rfl ?_
  refine WL.nil ?_
  refine Go.then_ ?_
  obtain ⟨o2, hm, hmo2⟩ := of_bind hm
  refine W.seq ?_
  refine W.join (fun e a w => And (e = .normal) (Sat G F 19 [(0, (.int .u32 o2.1)), (2, (.int .i64 o2.2))] a w)) ?_ ?_
  · refine W.seq ?_
    refine W.region ?_
    refine WL.q (R.move rfl) rfl ?_
    refine WL.q (R.geq rfl rfl) rfl ?_
    refine WL.nil ?_
    refine Go.then_ ?_
    by_cases h1 : 65536 ≤ p0
    · rw [if_pos h1] at hm
      refine W.cond_t rfl (decide_eq_true h1) ?_
      refine W.seq ?_
      refine W.region ?_
      refine WL.q (R.move rfl) rfl ?_
      refine WL.q (R.shr rfl rfl (by decide : (0 : Int) ≤ 16)) rfl ?_
      refine WL.q (R.assign rfl) rfl ?_
      refine WL.nil ?_
      refine Go.then_ ?_
      refine W.region ?_
      refine WL.q (R.assign rfl) rfl ?_
      refine WL.nil ?_
      have he := Option.some.inj hm
      clear hm
      subst o2
      exact fun a w s => And.intro rfl (Sat.mk (s.env.le ⟨rfl, rfl, trivial⟩) (s.mem))
    · rw [if_neg h1] at hm
      refine W.cond_f rfl (decide_eq_false h1) ?_
      refine W.skip ?_
      have he := Option.some.inj hm
      clear hm
      subst o2
      exact fun a w s => And.intro rfl (Sat.mk (s.env.le ⟨rfl, rfl, trivial⟩) (s.mem))
  · intro e a w hJ
    replace hm := hmo2
    clear hmo2
    obtain ⟨rfl, s⟩ := hJ
    refine Go.use s ?_
    refine Go.then_ ?_
    obtain ⟨o4, hm, hmo4⟩ := of_bind hm
    refine W.seq ?_
    refine W.join (fun e a w => And (e = .normal) (Sat G F 19 [(0, (.int .u32 o4.1)), (2, (.int .i64 o4.2))] a w)) ?_ ?_
    · refine W.seq ?_
      refine W.region ?_
      refine WL.q (R.move rfl) rfl ?_
      refine WL.q (R.geq rfl rfl) rfl ?_
      refine WL.nil ?_
      refine Go.then_ ?_
      by_cases h3 : 256 ≤ o2.1
      · rw [if_pos h3] at hm
        refine W.cond_t rfl (decide_eq_true h3) ?_
        refine W.seq ?_
        refine W.region ?_
        refine WL.q (R.move rfl) rfl ?_
        refine WL.q (R.shr rfl rfl (by decide : (0 : Int) ≤ 8)) rfl ?_
        refine WL.q (R.assign rfl) rfl ?_
        refine WL.nil ?_
        refine Go.then_ ?_
        refine W.region ?_
        refine WL.q (R.move rfl) rfl ?_
        refine WL.q (R.add rfl rfl) rfl ?_
        refine WL.q (R.assign rfl) rfl ?_
        refine WL.nil ?_
        have he := Option.some.inj hm
        clear hm
        subst o4
        exact fun a w s => And.intro rfl (Sat.mk (s.env.le ⟨rfl, rfl, trivial⟩) (s.mem))
      · rw [if_neg h3] at hm
        refine W.cond_f rfl (decide_eq_false h3) ?_
        refine W.skip ?_
        have he := Option.some.inj hm
        clear hm
        subst o4
        exact fun a w s => And.intro rfl (Sat.mk (s.env.le ⟨rfl, rfl, trivial⟩) (s.mem))
    · intro e a w hJ
      replace hm := hmo4
      clear hmo4
      obtain ⟨rfl, s⟩ := hJ
      refine Go.use s ?_
      refine Go.then_ ?_
      refine W.seq ?_
      refine W.region ?_
      refine WL.q (R.move rfl) rfl ?_
      refine WL.q (R.move rfl) rfl ?_
      refine WL.q (R.conv rfl un5 us90) rfl ?_
      obtain ⟨h5, hm⟩ := of_guard hm
      refine WL.q (R.strIndex rfl rfl un9 h5.1 h5.2) rfl ?_
      refine WL.q (R.conv rfl un3 us5) rfl ?_
      refine WL.q (R.add rfl rfl) rfl ?_
      refine WL.q (R.assign rfl) rfl ?_
      refine WL.nil ?_
      refine Go.then_ ?_
      refine W.ret ?_
      have he := Option.some.inj hm
      clear hm
      subst r
      exact Go.ret1 rfl (.tmp rfl) (fun w hw => ⟨_, rfl, _, ⟨(), rfl, rfl⟩, hw⟩)
set_option maxRecDepth 100000 in
theorem bits_Len64_tr {G : World} {F : List Res} (p0 : Int) {r : Int} (hm : bits_Len64 p0 = some r) : Tr Try.prog G 66 [(.int .u64 p0)] F (fun u K => ∃ x : Unit, u = (.int .i64 r) ∧ K = F) := by
  unfold bits_Len64 at hm
  refine Tr.body Try.func66 rfl Try.ntmps66 ?_
  refine W.seq ?_
  refine W.region ?_
  refine WL.q (R.assign rfl) rfl ?_
  refine WL.nil ?_
  refine Go.then_ ?_
  obtain ⟨o2, hm, hmo2⟩ := of_bind hm
  refine W.seq ?_
  refine W.join (fun e a w => And (e = .normal) (Sat G F 25 [(0, (.int .u64 o2.1)), (2, (.int .i64 o2.2))] a w)) ?_ ?_
  · refine W.seq ?_
    refine W.region ?_
    refine WL.q (R.move rfl) rfl ?_
    refine WL.q (R.geq rfl rfl) rfl ?_
    refine WL.nil ?_
    refine Go.then_ ?_
    by_cases h1 : 4294967296 ≤ p0
    · rw [if_pos h1] at hm
      refine W.cond_t rfl (decide_eq_true h1) ?_
      refine W.seq ?_
      refine W.region ?_
      refine WL.q (R.move rfl) rfl ?_
      refine WL.q (R.shr rfl rfl (by decide : (0 : Int) ≤ 32)) rfl ?_
      refine WL.q (R.assign rfl) rfl ?_
      refine WL.nil ?_
      refine Go.then_ ?_
      refine W.region ?_
      refine WL.q (R.assign rfl) rfl ?_
      refine WL.nil ?_
      have he := Option.some.inj hm
      clear hm
      subst o2
      exact fun a w s => And.intro rfl (Sat.mk (s.env.le ⟨rfl, rfl, trivial⟩) (s.mem))
    · rw [if_neg h1] at hm
      refine W.cond_f rfl (decide_eq_false h1) ?_
      refine W.skip ?_
      have he := Option.some.inj hm
      clear hm
      subst o2
      exact fun a w s => And.intro rfl (Sat.mk (s.env.le ⟨rfl, rfl, trivial⟩) (s.mem))
  · intro e a w hJ
    replace hm := hmo2
    clear hmo2
    obtain ⟨rfl, s⟩ := hJ
    refine Go.use s ?_
    refine Go.then_ ?_
    obtain ⟨o4, hm, hmo4⟩ := of_bind hm
    refine W.seq ?_
    refine W.join (fun e a w => And (e = .normal) (Sat G F 25 [(0, (.int .u64 o4.1)), (2, (.int .i64 o4.2))] a w)) ?_ ?_
    · refine W.seq ?_
      refine W.region ?_
      refine WL.q (R.move rfl) rfl ?_
      refine WL.q (R.geq rfl rfl) rfl ?_
      refine WL.nil ?_
      refine Go.then_ ?_
      by_cases h3 : 65536 ≤ o2.1
      · rw [if_pos h3] at hm
        refine W.cond_t rfl (decide_eq_true h3) ?_
        refine W.seq ?_
        refine W.region ?_
        refine WL.q (R.move rfl) rfl ?_
        refine WL.q (R.shr rfl rfl (by decide : (0 : Int) ≤ 16)) rfl ?_
        refine WL.q (R.assign rfl) rfl ?_
        refine WL.nil ?_
        refine Go.then_ ?_
        refine W.region ?_
        refine WL.q (R.move rfl) rfl ?_
        refine WL.q (R.add rfl rfl) rfl ?_
        refine WL.q (R.assign rfl) rfl ?_
        refine WL.nil ?_
        have he := Option.some.inj hm
        clear hm
        subst o4
        exact fun a w s => And.intro rfl (Sat.mk (s.env.le ⟨rfl, rfl, trivial⟩) (s.mem))
      · rw [if_neg h3] at hm
        refine W.cond_f rfl (decide_eq_false h3) ?_
        refine W.skip ?_
        have he := Option.some.inj hm
        clear hm
        subst o4
        exact fun a w s => And.intro rfl (Sat.mk (s.env.le ⟨rfl, rfl, trivial⟩) (s.mem))
    · intro e a w hJ
      replace hm := hmo4
      clear hmo4
      obtain ⟨rfl, s⟩ := hJ
      refine Go.use s ?_
      refine Go.then_ ?_
      obtain ⟨o6, hm, hmo6⟩ := of_bind hm
      refine W.seq ?_
      refine W.join (fun e a w => And (e = .normal) (Sat G F 25 [(0, (.int .u64 o6.1)), (2, (.int .i64 o6.2))] a w)) ?_ ?_
      · refine W.seq ?_
        refine W.region ?_
        refine WL.q (R.move rfl) rfl ?_
        refine WL.q (R.geq rfl rfl) rfl ?_
        refine WL.nil ?_
        refine Go.then_ ?_
        by_cases h5 : 256 ≤ o4.1
        · rw [if_pos h5] at hm
          refine W.cond_t rfl (decide_eq_true h5) ?_
          refine W.seq ?_
          refine W.region ?_
          refine WL.q (R.move rfl) rfl ?_
          refine WL.q (R.shr rfl rfl (by decide : (0 : Int) ≤ 8)) rfl ?_
          refine WL.q (R.assign rfl) rfl ?_
          refine WL.nil ?_
          refine Go.then_ ?_
          refine W.region ?_
          refine WL.q (R.move rfl) rfl ?_
          refine WL.q (R.add rfl rfl) rfl ?_
          refine WL.q (R.assign rfl) rfl ?_
          refine WL.nil ?_
          have he := Option.some.inj hm
          clear hm
          subst o6
          exact fun a w s => And.intro rfl (Sat.mk (s.env.le ⟨rfl, rfl, trivial⟩) (s.mem))
        · rw [if_neg h5] at hm
          refine W.cond_f rfl (decide_eq_false h5) ?_
          refine W.skip ?_
          have he := Option.some.inj hm
          clear hm
          subst o6
          exact fun a w s => And.intro rfl (Sat.mk (s.env.le ⟨rfl, rfl, trivial⟩) (s.mem))
      · intro e a w hJ
        replace hm := hmo6
        clear hmo6
        obtain ⟨rfl, s⟩ := hJ
        refine Go.use s ?_
        refine Go.then_ ?_
        refine W.seq ?_
        refine W.region ?_
        refine WL.q (R.move rfl) rfl ?_
        refine WL.q (R.move rfl) rfl ?_
        refine WL.q (R.conv rfl un5 us92) rfl ?_
        obtain ⟨h7, hm⟩ := of_guard hm
        refine WL.q (R.strIndex rfl rfl un9 h7.1 h7.2) rfl ?_
        refine WL.q (R.conv rfl un3 us5) rfl ?_
        refine WL.q (R.add rfl rfl) rfl ?_
        refine WL.q (R.assign rfl) rfl ?_
        refine WL.nil ?_
        refine Go.then_ ?_
        refine W.ret ?_
        have he := Option.some.inj hm
        clear hm
        subst r
        exact Go.ret1 rfl (.tmp rfl) (fun w hw => ⟨_, rfl, _, ⟨(), rfl, rfl⟩, hw⟩)
set_option maxRecDepth 100000 in
theorem bits_Len_tr {G : World} {F : List Res} (p0 : Int) {r : Int} (hm : bits_Len p0 = some r) : Tr Try.prog G 50 [(.int .u64 p0)] F (fun u K => ∃ x : Unit, u = (.int .i64 r) ∧ K = F) := by
  unfold bits_Len at hm
  refine Tr.body Try.func50 rfl Try.ntmps50 ?_
  refine W.seq ?_
  refine W.region ?_
  refine WL.q (R.assign rfl) rfl ?_
  refine WL.nil ?_
  refine Go.then_ ?_
  refine W.seq ?_
  refine W.cond_f rfl rfl ?_
  refine W.skip ?_
  refine Go.then_ ?_
  refine W.seq ?_
  refine W.region ?_
  refine WL.q (R.move rfl) rfl ?_
  obtain ⟨o1, h2, hm⟩ := of_bind hm
  refine WL.x (R.call rfl en66 (bits_Len64_tr p0 h2)) rfl fun x3 => ?_
  refine WL.q (R.assign rfl) rfl ?_
  refine WL.nil ?_
  refine Go.then_ ?_
  refine W.ret ?_
  have he := Option.some.inj hm
  clear hm
  subst r
  exact Go.ret1 rfl (.tmp rfl) (fun w hw => ⟨_, rfl, _, ⟨(), rfl, rfl⟩, hw⟩)
set_option maxRecDepth 100000 in
theorem slices_nextPowerOfTwo_tr {G : World} {F : List Res} (p0 : Int) {r : Int} (hm : slices_nextPowerOfTwo p0 = some r) : Tr Try.prog G 73 [(.int .i64 p0)] F (fun u K => ∃ x : Unit, u = (.int .u64 r) ∧ K = F) := by
  unfold slices_nextPowerOfTwo at hm
  refine Tr.body Try.func73 rfl Try.ntmps73 ?_
  refine W.seq ?_
  refine W.region ?_
  refine WL.q (R.assign rfl) rfl ?_
  refine WL.nil ?_
  refine Go.then_ ?_
  refine W.seq ?_
  refine W.region ?_
  refine WL.q (R.move rfl) rfl ?_
  refine WL.q (R.conv rfl un74 us3) rfl ?_
  obtain ⟨o1, h2, hm⟩ := of_bind hm
  refine WL.x (R.call rfl en50 (bits_Len_tr (IntKind.u64.wrap p0) h2)) rfl fun x3 => ?_
  obtain ⟨h4, hm⟩ := of_guard hm
  refine WL.q (R.shl rfl rfl h4) rfl ?_
  refine WL.q (R.assign rfl) rfl ?_
  refine WL.nil ?_
  refine Go.then_ ?_
  refine W.ret ?_
  have he := Option.some.inj hm
  clear hm
  subst r
  exact Go.ret1 rfl (.tmp rfl) (fun w hw => ⟨_, rfl, _, ⟨(), rfl, rfl⟩, hw⟩)
set_option maxRecDepth 100000 in
theorem slices_xorshift_Next_tr {G : World} {F : List Res} (c0 : Nat) (p0 : Int) {r : (Int × Int)} (hm : slices_xorshift_Next p0 = some r) : Tr Try.prog G 74 [(.pointer (some ⟨c0, 0, none⟩))] ((bx c0 ((Enc.int .u64).cells p0)) :: F) (fun u K => ∃ x : Unit, u = (.int .u64 r.1) ∧ K = ((bx c0 ((Enc.int .u64).cells r.2)) :: F)) := by
  unfold slices_xorshift_Next at hm
  refine Tr.body Try.func74 rfl Try.ntmps74 ?_
  refine W.seq ?_
  refine W.region ?_
  refine WL.q (R.assign rfl) rfl ?_
  refine WL.nil ?_
  refine Go.then_ ?_
  refine W.seq ?_
  refine W.join1 (fun a w => Sat G ((bx c0 ((Enc.int .u64).cells (ixor .u64 p0 (ishl .u64 p0 13)))) :: F) 33 [(0, (.pointer (some ⟨c0, 0, none⟩))), (2, (.int .u64 0))] a w) ?_ ?_
  · refine W.draw (n := 10) F F 9 (by kernel_rfl) rfl rfl (fun w hw => hw.reord [] 1 rfl) (fun w hw => hw.drop 1) ?_
    refine WK.q (i := 0) rfl rfl (by kernel_rfl) calm_n (R.move rfl) rfl rfl ?_
    refine WK.q (i := 1) rfl rfl (by kernel_rfl) calm_n (R.nilCheck rfl) rfl rfl ?_
    refine WK.more (F1' := F) (F2' := ((bx c0 ((Enc.int .u64).cells p0)) :: F)) (fun w hw => hw.reord [] 1 rfl) (fun w hw _ => hw) (fun w hw => hw) (fun w hw => hw.reord [] 1 rfl) ?_
    refine WK.q2 (i := 2) rfl rfl (by kernel_rfl) calm_n (R.load rfl (At.bx 0 rfl (Sub.refl _)) (Lies.one _ ia96)) rfl rfl ?_
    refine WK.x (i := 3) (by kernel_rfl) rfl (OpV.x (R.move rfl)) (fun _ w hw => hw.reord [] 1 rfl) (fun _ _ _ w hw => hw) rfl rfl (by kernel_rfl) fun _ => ?_
    refine WK.x (i := 4) (by kernel_rfl) rfl (OpV.x (R.nilCheck rfl)) (fun _ w hw => hw.reord [] 1 rfl) (fun _ _ _ w hw => hw) rfl rfl (by kernel_rfl) fun _ => ?_
    refine WK.x (i := 5) (by kernel_rfl) rfl (OpV.x (R.load rfl (At.bx 0 rfl (Sub.refl _)) (Lies.one _ ia96))) (fun _ w hw => hw.reord [] 1 rfl) (fun _ _ _ w hw => hw) rfl rfl (by kernel_rfl) fun _ => ?_
    refine WK.x (i := 6) (by kernel_rfl) rfl (OpV.x (R.shl rfl rfl (by decide : (0 : Int) ≤ 13))) (fun _ w hw => hw.reord [] 1 rfl) (fun _ _ _ w hw => hw) rfl rfl (by kernel_rfl) fun _ => ?_
    refine WK.x (i := 7) (by kernel_rfl) rfl (OpV.x (R.xor rfl rfl)) (fun _ w hw => hw.reord [] 1 rfl) (fun _ _ _ w hw => hw) rfl rfl (by kernel_rfl) fun _ => ?_
    refine WK.x (i := 8) (by kernel_rfl) rfl (OpV.x (R.nilCheck rfl)) (fun _ w hw => hw.reord [] 1 rfl) (fun _ _ _ w hw => hw) rfl rfl (by kernel_rfl) fun _ => ?_
    refine WK.x0 (i := 9) (by kernel_rfl) rfl (R.store_bx (i := 0) rfl rfl rfl (fits_int sz96) (Up.all (Enc.int .u64) _ _)) (fun _ w hw => hw.reord [] 1 rfl) (fun h1 h2 => by cases h1) rfl (by kernel_rfl) fun _ => ?_
    refine WK.nil (by kernel_rfl) ?_
    exact fun a w s => And.intro rfl (Sat.mk (s.env.le ⟨rfl, rfl, trivial⟩) (s.mem))
  · refine Go2.sat ?_
    refine Go.then_ ?_
    refine W.seq ?_
    refine W.join1 (fun a w => Sat G ((bx c0 ((Enc.int .u64).cells (ixor .u64 (ixor .u64 p0 (ishl .u64 p0 13)) (ishr .u64 (ixor .u64 p0 (ishl .u64 p0 13)) 7)))) :: F) 33 [(0, (.pointer (some ⟨c0, 0, none⟩))), (2, (.int .u64 0))] a w) ?_ ?_
    · refine W.draw (n := 10) F F 9 (by kernel_rfl) rfl rfl (fun w hw => hw.reord [] 1 rfl) (fun w hw => hw.drop 1) ?_
      refine WK.q (i := 0) rfl rfl (by kernel_rfl) calm_n (R.move rfl) rfl rfl ?_
      refine WK.q (i := 1) rfl rfl (by kernel_rfl) calm_n (R.nilCheck rfl) rfl rfl ?_
      refine WK.more (F1' := F) (F2' := ((bx c0 ((Enc.int .u64).cells (ixor .u64 p0 (ishl .u64 p0 13)))) :: F)) (fun w hw => hw.reord [] 1 rfl) (fun w hw _ => hw) (fun w hw => hw) (fun w hw => hw.reord [] 1 rfl) ?_
      refine WK.q2 (i := 2) rfl rfl (by kernel_rfl) calm_n (R.load rfl (At.bx 0 rfl (Sub.refl _)) (Lies.one _ ia96)) rfl rfl ?_
      refine WK.x (i := 3) (by kernel_rfl) rfl (OpV.x (R.move rfl)) (fun _ w hw => hw.reord [] 1 rfl) (fun _ _ _ w hw => hw) rfl rfl (by kernel_rfl) fun _ => ?_
      refine WK.x (i := 4) (by kernel_rfl) rfl (OpV.x (R.nilCheck rfl)) (fun _ w hw => hw.reord [] 1 rfl) (fun _ _ _ w hw => hw) rfl rfl (by kernel_rfl) fun _ => ?_
      refine WK.x (i := 5) (by kernel_rfl) rfl (OpV.x (R.load rfl (At.bx 0 rfl (Sub.refl _)) (Lies.one _ ia96))) (fun _ w hw => hw.reord [] 1 rfl) (fun _ _ _ w hw => hw) rfl rfl (by kernel_rfl) fun _ => ?_
      refine WK.x (i := 6) (by kernel_rfl) rfl (OpV.x (R.shr rfl rfl (by decide : (0 : Int) ≤ 7))) (fun _ w hw => hw.reord [] 1 rfl) (fun _ _ _ w hw => hw) rfl rfl (by kernel_rfl) fun _ => ?_
      refine WK.x (i := 7) (by kernel_rfl) rfl (OpV.x (R.xor rfl rfl)) (fun _ w hw => hw.reord [] 1 rfl) (fun _ _ _ w hw => hw) rfl rfl (by kernel_rfl) fun _ => ?_
      refine WK.x (i := 8) (by kernel_rfl) rfl (OpV.x (R.nilCheck rfl)) (fun _ w hw => hw.reord [] 1 rfl) (fun _ _ _ w hw => hw) rfl rfl (by kernel_rfl) fun _ => ?_
      refine WK.x0 (i := 9) (by kernel_rfl) rfl (R.store_bx (i := 0) rfl rfl rfl (fits_int sz96) (Up.all (Enc.int .u64) _ _)) (fun _ w hw => hw.reord [] 1 rfl) (fun h1 h2 => by cases h1) rfl (by kernel_rfl) fun _ => ?_
      refine WK.nil (by kernel_rfl) ?_
      exact fun a w s => And.intro rfl (Sat.mk (s.env.le ⟨rfl, rfl, trivial⟩) (s.mem))
    · refine Go2.sat ?_
      refine Go.then_ ?_
      refine W.seq ?_
      refine W.join1 (fun a w => Sat G ((bx c0 ((Enc.int .u64).cells (ixor .u64 (ixor .u64 (ixor .u64 p0 (ishl .u64 p0 13)) (ishr .u64 (ixor .u64 p0 (ishl .u64 p0 13)) 7)) (ishl .u64 (ixor .u64 (ixor .u64 p0 (ishl .u64 p0 13)) (ishr .u64 (ixor .u64 p0 (ishl .u64 p0 13)) 7)) 17)))) :: F) 33 [(0, (.pointer (some ⟨c0, 0, none⟩))), (2, (.int .u64 0))] a w) ?_ ?_
      · refine W.draw (n := 10) F F 9 (by kernel_rfl) rfl rfl (fun w hw => hw.reord [] 1 rfl) (fun w hw => hw.drop 1) ?_
        refine WK.q (i := 0) rfl rfl (by kernel_rfl) calm_n (R.move rfl) rfl rfl ?_
        refine WK.q (i := 1) rfl rfl (by kernel_rfl) calm_n (R.nilCheck rfl) rfl rfl ?_
        refine WK.more (F1' := F) (F2' := ((bx c0 ((Enc.int .u64).cells (ixor .u64 (ixor .u64 p0 (ishl .u64 p0 13)) (ishr .u64 (ixor .u64 p0 (ishl .u64 p0 13)) 7)))) :: F)) (fun w hw => hw.reord [] 1 rfl) (fun w hw _ => hw) (fun w hw => hw) (fun w hw => hw.reord [] 1 rfl) ?_
        refine WK.q2 (i := 2) rfl rfl (by kernel_rfl) calm_n (R.load rfl (At.bx 0 rfl (Sub.refl _)) (Lies.one _ ia96)) rfl rfl ?_
        refine WK.x (i := 3) (by kernel_rfl) rfl (OpV.x (R.move rfl)) (fun _ w hw => hw.reord [] 1 rfl) (fun _ _ _ w hw => hw) rfl rfl (by kernel_rfl) fun _ => ?_
        refine WK.x (i := 4) (by kernel_rfl) rfl (OpV.x (R.nilCheck rfl)) (fun _ w hw => hw.reord [] 1 rfl) (fun _ _ _ w hw => hw) rfl rfl (by kernel_rfl) fun _ => ?_
        refine WK.x (i := 5) (by kernel_rfl) rfl (OpV.x (R.load rfl (At.bx 0 rfl (Sub.refl _)) (Lies.one _ ia96))) (fun _ w hw => hw.reord [] 1 rfl) (fun _ _ _ w hw => hw) rfl rfl (by kernel_rfl) fun _ => ?_
        refine WK.x (i := 6) (by kernel_rfl) rfl (OpV.x (R.shl rfl rfl (by decide : (0 : Int) ≤ 17))) (fun _ w hw => hw.reord [] 1 rfl) (fun _ _ _ w hw => hw) rfl rfl (by kernel_rfl) fun _ => ?_
        refine WK.x (i := 7) (by kernel_rfl) rfl (OpV.x (R.xor rfl rfl)) (fun _ w hw => hw.reord [] 1 rfl) (fun _ _ _ w hw => hw) rfl rfl (by kernel_rfl) fun _ => ?_
        refine WK.x (i := 8) (by kernel_rfl) rfl (OpV.x (R.nilCheck rfl)) (fun _ w hw => hw.reord [] 1 rfl) (fun _ _ _ w hw => hw) rfl rfl (by kernel_rfl) fun _ => ?_
        refine WK.x0 (i := 9) (by kernel_rfl) rfl (R.store_bx (i := 0) rfl rfl rfl (fits_int sz96) (Up.all (Enc.int .u64) _ _)) (fun _ w hw => hw.reord [] 1 rfl) (fun h1 h2 => by cases h1) rfl (by kernel_rfl) fun _ => ?_
        refine WK.nil (by kernel_rfl) ?_
        exact fun a w s => And.intro rfl (Sat.mk (s.env.le ⟨rfl, rfl, trivial⟩) (s.mem))
      · refine Go2.sat ?_
        refine Go.then_ ?_
        refine W.seq ?_
        refine W.region ?_
        refine WL.q (R.move rfl) rfl ?_
        refine WL.q (R.nilCheck rfl) rfl ?_
        refine WL.q (R.load rfl (At.bx 0 rfl (Sub.refl _)) (Lies.one _ ia96)) rfl ?_
        refine WL.q (R.assign rfl) rfl ?_
        refine WL.nil ?_
        refine Go.then_ ?_
        refine W.ret ?_
        have he := Option.some.inj hm
        clear hm
        subst r
        exact Go.ret1 rfl (.tmp rfl) (fun w hw => ⟨_, rfl, _, ⟨(), rfl, rfl⟩, hw⟩)
set_option maxRecDepth 100000 in
theorem slices_breakPatternsCmpFunc_impl_set_tr {G : World} {F : List Res} (q0 : Value) (p0 : (List Int)) (p1 : Int) (p2 : Int) (g3 : FuncId) (fs3 cs3 : List Value) (f3 : Int → Int → Option Int) (en_3 : Enters Try.prog g3) (hf3 : ∀ (L : List Res) (a0 : Int) (a1 : Int) (r : Int), f3 a0 a1 = some r → Tr Try.prog G g3 (fs3 ++ [(.int .i64 a0), (.int .i64 a1)] ++ cs3) (L ++ F) (fun u K => ∃ x : Unit, u = (.int .i64 r) ∧ K = L ++ F)) {r : (List Int)} (hm : slices_breakPatternsCmpFunc_impl_set p0 p1 p2 f3 = some r) : Tr Try.prog G 59 [q0, (.int .i64 p1), (.int .i64 p2), (.func (.func g3) fs3.toArray cs3.toArray)] ((slT (Enc.int .i64) q0 p0) :: F) (fun u K => ∃ x : Unit, u = (.tuple #[]) ∧ K = ((slT (Enc.int .i64) q0 r) :: F)) := by
  unfold slices_breakPatternsCmpFunc_impl_set at hm
  refine Tr.body Try.func59 rfl Try.ntmps59 ?_
  refine W.seq ?_
  refine W.region ?_
  refine WL.q (R.move rfl) rfl ?_
  refine WL.q (R.move rfl) rfl ?_
  refine WL.q (R.sub rfl rfl) rfl ?_
  refine WL.q (R.assign rfl) rfl ?_
  refine WL.nil ?_
  refine Go.then_ ?_
  refine W.seq ?_
  refine W.region ?_
  refine WL.q (R.move rfl) rfl ?_
  refine WL.q (R.geq rfl rfl) rfl ?_
  refine WL.nil ?_
  refine Go.then_ ?_
  by_cases h1 : 8 ≤ IntKind.i64.wrap (p2 - p1)
  · rw [if_pos h1] at hm
    refine W.cond_t rfl (decide_eq_true h1) ?_
    refine W.seq ?_
    refine W.region ?_
    refine WL.q (R.move rfl) rfl ?_
    refine WL.q (R.conv rfl un96 us3) rfl ?_
    refine WL.x (al96) rfl fun b2 => ?_
    refine WL.x0 (R.store_bx (i := 0) rfl rfl rfl (fits_int sz96) (Up.all (Enc.int .u64) _ _)) fun _ => ?_
    refine WL.nil ?_
    refine Go.then_ ?_
    refine W.seq ?_
    refine W.region ?_
    refine WL.q (R.move rfl) rfl ?_
    obtain ⟨o3, h4, hm⟩ := of_bind hm
    refine WL.x (R.call rfl en73 (slices_nextPowerOfTwo_tr (IntKind.i64.wrap (p2 - p1)) h4)) rfl fun x5 => ?_
    refine WL.q (R.assign rfl) rfl ?_
    refine WL.nil ?_
    refine Go.then_ ?_
    refine W.seq ?_
    refine W.region ?_
    refine WL.q (R.move rfl) rfl ?_
    refine WL.q (R.move rfl) rfl ?_
    refine WL.q (R.quo rfl rfl (by decide : (4 : Int) ≠ 0)) rfl ?_
    refine WL.q (R.mul rfl rfl) rfl ?_
    refine WL.q (R.add rfl rfl) rfl ?_
    refine WL.q (R.sub rfl rfl) rfl ?_
    refine WL.q (R.assign rfl) rfl ?_
    refine WL.nil ?_
    refine Go.then_ ?_
    refine W.block ?_
    obtain ⟨o7, hlo7, hm⟩ := of_bind hm
    refine W.loopx (fun (s6 : (Int × (List Int) × Int)) a w => Sat G ((bx b2 ((Enc.int .u64).cells s6.1)) :: (slT (Enc.int .i64) q0 s6.2.1) :: F) 67 [(0, q0), (1, (.int .i64 p1)), (8, (.int .i64 (IntKind.i64.wrap (p2 - p1)))), (9, (.pointer (some ⟨b2, 0, none⟩))), (10, (.int .u64 o3)), (11, (.int .i64 s6.2.2))] a w) (fun (o7 : (List Int)) e a w => And (e = (.exit 0)) (Sat G ((slT (Enc.int .i64) q0 o7) :: F) 67 [] a w)) hlo7 (fun a w s => (Sat.mk (s.env.le ⟨rfl, rfl, rfl, rfl, rfl, rfl, trivial⟩) (s.mem))) ?_ ?_
    · clear hm
      intro s6 x hm a w hJ
      have s := hJ
      unfold slices_breakPatternsCmpFunc_impl_set_L1 at hm
      refine W.use s ?_
      refine W.seq ?_
      refine W.seq ?_
      refine W.region ?_
      refine WL.q (R.move rfl) rfl ?_
      refine WL.q (R.move rfl) rfl ?_
      refine WL.q (R.move rfl) rfl ?_
      refine WL.q (R.quo rfl rfl (by decide : (4 : Int) ≠ 0)) rfl ?_
      refine WL.q (R.mul rfl rfl) rfl ?_
      refine WL.q (R.add rfl rfl) rfl ?_
      refine WL.q (R.add rfl rfl) rfl ?_
      refine WL.q (R.leq rfl rfl) rfl ?_
      refine WL.nil ?_
      refine Go.then_ ?_
      by_cases h26 : s6.2.2 ≤ IntKind.i64.wrap ((IntKind.i64.wrap (p1 + (IntKind.i64.wrap ((IntKind.i64.wrap ((IntKind.i64.wrap (p2 - p1)).tdiv 4)) * 2)))) + 1)
      · rw [if_pos h26] at hm
        refine W.cond_t rfl (decide_eq_true h26) ?_
        refine W.skip ?_
        refine Go.then_ ?_
        refine W.seq ?_
        refine W.block ?_
        refine W.seq ?_
        refine W.region ?_
        obtain ⟨o27, h28, hm⟩ := of_bind hm
        refine WL.x ((R.call rfl en74 (slices_xorshift_Next_tr (F := ((slT (Enc.int .i64) q0 s6.2.1) :: F)) b2 s6.1 h28)).weak (fun w hw => hw.reord [0, 1] 2 rfl)) rfl fun x29 => ?_
        refine WL.q (R.move rfl) rfl ?_
        refine WL.q (R.sub rfl rfl) rfl ?_
        refine WL.q (R.and rfl rfl) rfl ?_
        refine WL.q (R.conv rfl un3 us74) rfl ?_
        refine WL.q (R.assign rfl) rfl ?_
        refine WL.nil ?_
        refine Go.then_ ?_
        obtain ⟨o31, hm, hmo31⟩ := of_bind hm
        refine W.seq ?_
        refine W.join (fun e a w => And (e = .normal) (Sat G ((bx b2 ((Enc.int .u64).cells o27.2)) :: (slT (Enc.int .i64) q0 s6.2.1) :: F) 67 [(0, q0), (1, (.int .i64 p1)), (8, (.int .i64 (IntKind.i64.wrap (p2 - p1)))), (9, (.pointer (some ⟨b2, 0, none⟩))), (10, (.int .u64 o3)), (11, (.int .i64 s6.2.2)), (12, (.int .i64 o31))] a w)) ?_ ?_
        · refine W.seq ?_
          refine W.region ?_
          refine WL.q (R.move rfl) rfl ?_
          refine WL.q (R.move rfl) rfl ?_
          refine WL.q (R.geq rfl rfl) rfl ?_
          refine WL.nil ?_
          refine Go.then_ ?_
          by_cases h30 : IntKind.i64.wrap (p2 - p1) ≤ IntKind.i64.wrap (iand .u64 o27.1 (IntKind.u64.wrap (o3 - 1)))
          · rw [if_pos h30] at hm
            refine W.cond_t rfl (decide_eq_true h30) ?_
            refine W.region ?_
            refine WL.q (R.move rfl) rfl ?_
            refine WL.q (R.move rfl) rfl ?_
            refine WL.q (R.sub rfl rfl) rfl ?_
            refine WL.q (R.assign rfl) rfl ?_
            refine WL.nil ?_
            have he := Option.some.inj hm
            clear hm
            subst o31
            exact fun a w s => And.intro rfl (Sat.mk (s.env.le ⟨rfl, rfl, rfl, rfl, rfl, rfl, rfl, trivial⟩) (s.mem))
          · rw [if_neg h30] at hm
            refine W.cond_f rfl (decide_eq_false h30) ?_
            refine W.skip ?_
            have he := Option.some.inj hm
            clear hm
            subst o31
            exact fun a w s => And.intro rfl (Sat.mk (s.env.le ⟨rfl, rfl, rfl, rfl, rfl, rfl, rfl, trivial⟩) (s.mem))
        · intro e a w hJ
          replace hm := hmo31
          clear hmo31
          obtain ⟨rfl, s⟩ := hJ
          refine Go.use s ?_
          refine Go.then_ ?_
          obtain ⟨h32, hm⟩ := of_guard hm
          obtain ⟨h33, hm⟩ := of_guard hm
          obtain ⟨h34, hm⟩ := of_guard hm
          refine W.join1 (fun a w => Sat G ((bx b2 ((Enc.int .u64).cells o27.2)) :: (slT (Enc.int .i64) q0 (sls (sls s6.2.1 s6.2.2 (gl s6.2.1 (IntKind.i64.wrap (p1 + o31)))) (IntKind.i64.wrap (p1 + o31)) (gl s6.2.1 s6.2.2))) :: F) 67 [(0, q0), (1, (.int .i64 p1)), (8, (.int .i64 (IntKind.i64.wrap (p2 - p1)))), (9, (.pointer (some ⟨b2, 0, none⟩))), (10, (.int .u64 o3)), (11, (.int .i64 s6.2.2))] a w) ?_ ?_
          · refine W.draw (n := 20) ((bx b2 ((Enc.int .u64).cells o27.2)) :: F) F 17 (by kernel_rfl) rfl rfl (fun w hw => hw.reord [0] 2 rfl) (fun w hw => hw.drop 2) ?_
            refine WK.q (i := 0) rfl rfl (by kernel_rfl) calm_n (R.move rfl) rfl rfl ?_
            refine WK.q (i := 1) rfl rfl (by kernel_rfl) calm_n (R.move rfl) rfl rfl ?_
            refine WK.q (i := 2) rfl rfl (by kernel_rfl) calm_n (R.move rfl) rfl rfl ?_
            refine WK.q (i := 3) rfl rfl (by kernel_rfl) calm_n (R.move rfl) rfl rfl ?_
            refine WK.q (i := 4) rfl rfl (by kernel_rfl) calm_n (R.move rfl) rfl rfl ?_
            refine WK.q (i := 5) rfl rfl (by kernel_rfl) calm_n (R.add rfl rfl) rfl rfl ?_
            refine WK.q (i := 6) rfl rfl (by kernel_rfl) calm_n (R.move rfl) rfl rfl ?_
            refine WK.q (i := 7) rfl rfl (by kernel_rfl) calm_n (R.move rfl) rfl rfl ?_
            refine WK.q (i := 8) rfl rfl (by kernel_rfl) calm_n (R.move rfl) rfl rfl ?_
            refine WK.q (i := 9) rfl rfl (by kernel_rfl) calm_n (R.add rfl rfl) rfl rfl ?_
            refine WK.q (i := 12) rfl rfl (by kernel_rfl) calm_n (R.move rfl) rfl rfl ?_
            refine WK.q (i := 13) rfl rfl (by kernel_rfl) calm_n (R.move rfl) rfl rfl ?_
            refine WK.among (is := [10, 14]) (by kernel_rfl) rfl ?_
            refine WKa.x rfl (OpV.x (R.idxT rfl rfl el40 (RdT.at 1 rfl) h32)) (fun _ w hw => hw.reord [0] 2 rfl) (fun _ _ _ w hw => hw.reord [] 2 rfl) rfl rfl (by kernel_rfl) (fun _ => ?_) ?_
            · refine WK.among (is := [11, 14]) (by kernel_rfl) rfl ?_
              refine WKa.x rfl (OpV.x (R.load rfl (At.elT (RdT.at 1 rfl) (by decide) h32) (Lies.one _ ia50))) (fun _ w hw => hw.reord [0] 2 rfl) (fun _ _ _ w hw => hw.reord [] 2 rfl) rfl rfl (by kernel_rfl) (fun _ => ?_) ?_
              · refine WK.x (i := 14) (by kernel_rfl) rfl (OpV.x (R.idxT rfl rfl el40 (RdT.at 1 rfl) h33)) (fun _ w hw => hw.reord [0] 2 rfl) (fun _ _ _ w hw => hw.reord [] 2 rfl) rfl rfl (by kernel_rfl) fun _ => ?_
                refine WK.x (i := 15) (by kernel_rfl) rfl (OpV.x (R.load rfl (At.elT (RdT.at 1 rfl) (by decide) h33) (Lies.one _ ia50))) (fun _ w hw => hw.reord [0] 2 rfl) (fun _ _ _ w hw => hw.reord [] 2 rfl) rfl rfl (by kernel_rfl) fun _ => ?_
                refine WK.x (i := 16) (by kernel_rfl) rfl (OpV.x (R.idxT rfl rfl el40 (RdT.at 1 rfl) h33)) (fun _ w hw => hw.reord [0] 2 rfl) (fun _ _ _ w hw => hw.reord [] 2 rfl) rfl rfl (by kernel_rfl) fun _ => ?_
                refine WK.x0 (i := 17) (by kernel_rfl) rfl (R.storeT (i := 1) (gl s6.2.1 (IntKind.i64.wrap (p1 + o31))) rfl rfl rfl (fits_int sz50) (by decide) h33) (fun _ w hw => hw.reord [0] 2 rfl) (fun h1 h2 => by cases h1) rfl (by kernel_rfl) fun _ => ?_
                refine WK.x (i := 18) (by kernel_rfl) rfl (OpV.x (R.idxT rfl rfl el40 (RdT.at 1 rfl) h34)) (fun _ w hw => hw.reord [0] 2 rfl) (fun h1 h2 => by cases h2) rfl rfl (by kernel_rfl) fun _ => ?_
                refine WK.x0 (i := 19) (by kernel_rfl) rfl (R.storeT (i := 1) (gl s6.2.1 s6.2.2) rfl rfl rfl (fits_int sz50) (by decide) h34) (fun _ w hw => hw.reord [0] 2 rfl) (fun h1 h2 => by cases h2) rfl (by kernel_rfl) fun _ => ?_
                refine WK.nil (by kernel_rfl) ?_
                exact fun a w s => And.intro rfl (Sat.mk (s.env.le ⟨rfl, rfl, rfl, rfl, rfl, rfl, trivial⟩) (s.mem))
              refine WKa.x rfl (OpV.x (R.idxT rfl rfl el40 (RdT.at 1 rfl) h33)) (fun _ w hw => hw.reord [0] 2 rfl) (fun _ _ _ w hw => hw.reord [] 2 rfl) rfl rfl (by kernel_rfl) (fun _ => ?_) ?_
              · refine WK.among (is := [11, 15]) (by kernel_rfl) rfl ?_
                refine WKa.x rfl (OpV.x (R.load rfl (At.elT (RdT.at 1 rfl) (by decide) h32) (Lies.one _ ia50))) (fun _ w hw => hw.reord [0] 2 rfl) (fun _ _ _ w hw => hw.reord [] 2 rfl) rfl rfl (by kernel_rfl) (fun _ => ?_) ?_
                · refine WK.x (i := 15) (by kernel_rfl) rfl (OpV.x (R.load rfl (At.elT (RdT.at 1 rfl) (by decide) h33) (Lies.one _ ia50))) (fun _ w hw => hw.reord [0] 2 rfl) (fun _ _ _ w hw => hw.reord [] 2 rfl) rfl rfl (by kernel_rfl) fun _ => ?_
                  refine WK.x (i := 16) (by kernel_rfl) rfl (OpV.x (R.idxT rfl rfl el40 (RdT.at 1 rfl) h33)) (fun _ w hw => hw.reord [0] 2 rfl) (fun _ _ _ w hw => hw.reord [] 2 rfl) rfl rfl (by kernel_rfl) fun _ => ?_
                  refine WK.x0 (i := 17) (by kernel_rfl) rfl (R.storeT (i := 1) (gl s6.2.1 (IntKind.i64.wrap (p1 + o31))) rfl rfl rfl (fits_int sz50) (by decide) h33) (fun _ w hw => hw.reord [0] 2 rfl) (fun h1 h2 => by cases h1) rfl (by kernel_rfl) fun _ => ?_
                  refine WK.x (i := 18) (by kernel_rfl) rfl (OpV.x (R.idxT rfl rfl el40 (RdT.at 1 rfl) h34)) (fun _ w hw => hw.reord [0] 2 rfl) (fun h1 h2 => by cases h2) rfl rfl (by kernel_rfl) fun _ => ?_
                  refine WK.x0 (i := 19) (by kernel_rfl) rfl (R.storeT (i := 1) (gl s6.2.1 s6.2.2) rfl rfl rfl (fits_int sz50) (by decide) h34) (fun _ w hw => hw.reord [0] 2 rfl) (fun h1 h2 => by cases h2) rfl (by kernel_rfl) fun _ => ?_
                  refine WK.nil (by kernel_rfl) ?_
                  exact fun a w s => And.intro rfl (Sat.mk (s.env.le ⟨rfl, rfl, rfl, rfl, rfl, rfl, trivial⟩) (s.mem))
                refine WKa.x rfl (OpV.x (R.load rfl (At.elT (RdT.at 1 rfl) (by decide) h33) (Lies.one _ ia50))) (fun _ w hw => hw.reord [0] 2 rfl) (fun _ _ _ w hw => hw.reord [] 2 rfl) rfl rfl (by kernel_rfl) (fun _ => ?_) ?_
                · refine WK.x (i := 11) (by kernel_rfl) rfl (OpV.x (R.load rfl (At.elT (RdT.at 1 rfl) (by decide) h32) (Lies.one _ ia50))) (fun _ w hw => hw.reord [0] 2 rfl) (fun _ _ _ w hw => hw.reord [] 2 rfl) rfl rfl (by kernel_rfl) fun _ => ?_
                  refine WK.x (i := 16) (by kernel_rfl) rfl (OpV.x (R.idxT rfl rfl el40 (RdT.at 1 rfl) h33)) (fun _ w hw => hw.reord [0] 2 rfl) (fun _ _ _ w hw => hw.reord [] 2 rfl) rfl rfl (by kernel_rfl) fun _ => ?_
                  refine WK.x0 (i := 17) (by kernel_rfl) rfl (R.storeT (i := 1) (gl s6.2.1 (IntKind.i64.wrap (p1 + o31))) rfl rfl rfl (fits_int sz50) (by decide) h33) (fun _ w hw => hw.reord [0] 2 rfl) (fun h1 h2 => by cases h1) rfl (by kernel_rfl) fun _ => ?_
                  refine WK.x (i := 18) (by kernel_rfl) rfl (OpV.x (R.idxT rfl rfl el40 (RdT.at 1 rfl) h34)) (fun _ w hw => hw.reord [0] 2 rfl) (fun h1 h2 => by cases h2) rfl rfl (by kernel_rfl) fun _ => ?_
                  refine WK.x0 (i := 19) (by kernel_rfl) rfl (R.storeT (i := 1) (gl s6.2.1 s6.2.2) rfl rfl rfl (fits_int sz50) (by decide) h34) (fun _ w hw => hw.reord [0] 2 rfl) (fun h1 h2 => by cases h2) rfl (by kernel_rfl) fun _ => ?_
                  refine WK.nil (by kernel_rfl) ?_
                  exact fun a w s => And.intro rfl (Sat.mk (s.env.le ⟨rfl, rfl, rfl, rfl, rfl, rfl, trivial⟩) (s.mem))
                exact WKa.nil
              exact WKa.nil
            refine WKa.x rfl (OpV.x (R.idxT rfl rfl el40 (RdT.at 1 rfl) h33)) (fun _ w hw => hw.reord [0] 2 rfl) (fun _ _ _ w hw => hw.reord [] 2 rfl) rfl rfl (by kernel_rfl) (fun _ => ?_) ?_
            · refine WK.among (is := [10, 15]) (by kernel_rfl) rfl ?_
              refine WKa.x rfl (OpV.x (R.idxT rfl rfl el40 (RdT.at 1 rfl) h32)) (fun _ w hw => hw.reord [0] 2 rfl) (fun _ _ _ w hw => hw.reord [] 2 rfl) rfl rfl (by kernel_rfl) (fun _ => ?_) ?_
              · refine WK.among (is := [11, 15]) (by kernel_rfl) rfl ?_
                refine WKa.x rfl (OpV.x (R.load rfl (At.elT (RdT.at 1 rfl) (by decide) h32) (Lies.one _ ia50))) (fun _ w hw => hw.reord [0] 2 rfl) (fun _ _ _ w hw => hw.reord [] 2 rfl) rfl rfl (by kernel_rfl) (fun _ => ?_) ?_
                · refine WK.x (i := 15) (by kernel_rfl) rfl (OpV.x (R.load rfl (At.elT (RdT.at 1 rfl) (by decide) h33) (Lies.one _ ia50))) (fun _ w hw => hw.reord [0] 2 rfl) (fun _ _ _ w hw => hw.reord [] 2 rfl) rfl rfl (by kernel_rfl) fun _ => ?_
                  refine WK.x (i := 16) (by kernel_rfl) rfl (OpV.x (R.idxT rfl rfl el40 (RdT.at 1 rfl) h33)) (fun _ w hw => hw.reord [0] 2 rfl) (fun _ _ _ w hw => hw.reord [] 2 rfl) rfl rfl (by kernel_rfl) fun _ => ?_
                  refine WK.x0 (i := 17) (by kernel_rfl) rfl (R.storeT (i := 1) (gl s6.2.1 (IntKind.i64.wrap (p1 + o31))) rfl rfl rfl (fits_int sz50) (by decide) h33) (fun _ w hw => hw.reord [0] 2 rfl) (fun h1 h2 => by cases h1) rfl (by kernel_rfl) fun _ => ?_
                  refine WK.x (i := 18) (by kernel_rfl) rfl (OpV.x (R.idxT rfl rfl el40 (RdT.at 1 rfl) h34)) (fun _ w hw => hw.reord [0] 2 rfl) (fun h1 h2 => by cases h2) rfl rfl (by kernel_rfl) fun _ => ?_
                  refine WK.x0 (i := 19) (by kernel_rfl) rfl (R.storeT (i := 1) (gl s6.2.1 s6.2.2) rfl rfl rfl (fits_int sz50) (by decide) h34) (fun _ w hw => hw.reord [0] 2 rfl) (fun h1 h2 => by cases h2) rfl (by kernel_rfl) fun _ => ?_
                  refine WK.nil (by kernel_rfl) ?_
                  exact fun a w s => And.intro rfl (Sat.mk (s.env.le ⟨rfl, rfl, rfl, rfl, rfl, rfl, trivial⟩) (s.mem))
                refine WKa.x rfl (OpV.x (R.load rfl (At.elT (RdT.at 1 rfl) (by decide) h33) (Lies.one _ ia50))) (fun _ w hw => hw.reord [0] 2 rfl) (fun _ _ _ w hw => hw.reord [] 2 rfl) rfl rfl (by kernel_rfl) (fun _ => ?_) ?_
                · refine WK.x (i := 11) (by kernel_rfl) rfl (OpV.x (R.load rfl (At.elT (RdT.at 1 rfl) (by decide) h32) (Lies.one _ ia50))) (fun _ w hw => hw.reord [0] 2 rfl) (fun _ _ _ w hw => hw.reord [] 2 rfl) rfl rfl (by kernel_rfl) fun _ => ?_
                  refine WK.x (i := 16) (by kernel_rfl) rfl (OpV.x (R.idxT rfl rfl el40 (RdT.at 1 rfl) h33)) (fun _ w hw => hw.reord [0] 2 rfl) (fun _ _ _ w hw => hw.reord [] 2 rfl) rfl rfl (by kernel_rfl) fun _ => ?_
                  refine WK.x0 (i := 17) (by kernel_rfl) rfl (R.storeT (i := 1) (gl s6.2.1 (IntKind.i64.wrap (p1 + o31))) rfl rfl rfl (fits_int sz50) (by decide) h33) (fun _ w hw => hw.reord [0] 2 rfl) (fun h1 h2 => by cases h1) rfl (by kernel_rfl) fun _ => ?_
                  refine WK.x (i := 18) (by kernel_rfl) rfl (OpV.x (R.idxT rfl rfl el40 (RdT.at 1 rfl) h34)) (fun _ w hw => hw.reord [0] 2 rfl) (fun h1 h2 => by cases h2) rfl rfl (by kernel_rfl) fun _ => ?_
                  refine WK.x0 (i := 19) (by kernel_rfl) rfl (R.storeT (i := 1) (gl s6.2.1 s6.2.2) rfl rfl rfl (fits_int sz50) (by decide) h34) (fun _ w hw => hw.reord [0] 2 rfl) (fun h1 h2 => by cases h2) rfl (by kernel_rfl) fun _ => ?_
                  refine WK.nil (by kernel_rfl) ?_
                  exact fun a w s => And.intro rfl (Sat.mk (s.env.le ⟨rfl, rfl, rfl, rfl, rfl, rfl, trivial⟩) (s.mem))
                exact WKa.nil
              refine WKa.x rfl (OpV.x (R.load rfl (At.elT (RdT.at 1 rfl) (by decide) h33) (Lies.one _ ia50))) (fun _ w hw => hw.reord [0] 2 rfl) (fun _ _ _ w hw => hw.reord [] 2 rfl) rfl rfl (by kernel_rfl) (fun _ => ?_) ?_
              · refine WK.x (i := 10) (by kernel_rfl) rfl (OpV.x (R.idxT rfl rfl el40 (RdT.at 1 rfl) h32)) (fun _ w hw => hw.reord [0] 2 rfl) (fun _ _ _ w hw => hw.reord [] 2 rfl) rfl rfl (by kernel_rfl) fun _ => ?_
                refine WK.x (i := 11) (by kernel_rfl) rfl (OpV.x (R.load rfl (At.elT (RdT.at 1 rfl) (by decide) h32) (Lies.one _ ia50))) (fun _ w hw => hw.reord [0] 2 rfl) (fun _ _ _ w hw => hw.reord [] 2 rfl) rfl rfl (by kernel_rfl) fun _ => ?_
                refine WK.x (i := 16) (by kernel_rfl) rfl (OpV.x (R.idxT rfl rfl el40 (RdT.at 1 rfl) h33)) (fun _ w hw => hw.reord [0] 2 rfl) (fun _ _ _ w hw => hw.reord [] 2 rfl) rfl rfl (by kernel_rfl) fun _ => ?_
                refine WK.x0 (i := 17) (by kernel_rfl) rfl (R.storeT (i := 1) (gl s6.2.1 (IntKind.i64.wrap (p1 + o31))) rfl rfl rfl (fits_int sz50) (by decide) h33) (fun _ w hw => hw.reord [0] 2 rfl) (fun h1 h2 => by cases h1) rfl (by kernel_rfl) fun _ => ?_
                refine WK.x (i := 18) (by kernel_rfl) rfl (OpV.x (R.idxT rfl rfl el40 (RdT.at 1 rfl) h34)) (fun _ w hw => hw.reord [0] 2 rfl) (fun h1 h2 => by cases h2) rfl rfl (by kernel_rfl) fun _ => ?_
                refine WK.x0 (i := 19) (by kernel_rfl) rfl (R.storeT (i := 1) (gl s6.2.1 s6.2.2) rfl rfl rfl (fits_int sz50) (by decide) h34) (fun _ w hw => hw.reord [0] 2 rfl) (fun h1 h2 => by cases h2) rfl (by kernel_rfl) fun _ => ?_
                refine WK.nil (by kernel_rfl) ?_
                exact fun a w s => And.intro rfl (Sat.mk (s.env.le ⟨rfl, rfl, rfl, rfl, rfl, rfl, trivial⟩) (s.mem))
              exact WKa.nil
            exact WKa.nil
          · refine Go2.sat ?_
            refine Go.n_block ?_
            refine Go.then_ ?_
            refine W.region ?_
            refine WL.q (R.move rfl) rfl ?_
            refine WL.q (R.add rfl rfl) rfl ?_
            refine WL.q (R.assign rfl) rfl ?_
            refine WL.nil ?_
            have he := Option.some.inj hm
            clear hm
            subst x
            exact fun a w s => Exists.intro _ (And.intro rfl (Sat.mk (s.env.le ⟨rfl, rfl, rfl, rfl, rfl, rfl, trivial⟩) (s.mem)))
      · rw [if_neg h26] at hm
        refine W.cond_f rfl (decide_eq_false h26) ?_
        refine W.exit ?_
        refine Go.x_then ?_
        have he := Option.some.inj hm
        clear hm
        subst x
        exact fun a w s => Exists.intro _ (And.intro rfl (And.intro rfl (Sat.mk (s.env.le trivial) (s.mem.reord [1] 2 rfl))))
    · intro e a w hJ
      obtain ⟨rfl, s⟩ := hJ
      refine Go.use s ?_
      refine Go.x_block ?_
      have he := Option.some.inj hm
      clear hm
      subst r
      exact Go.ret0 (Or.inl rfl) rfl (fun w hw => ⟨_, rfl, _, ⟨(), rfl, rfl⟩, hw⟩)
  · rw [if_neg h1] at hm
    refine W.cond_f rfl (decide_eq_false h1) ?_
    refine W.skip ?_
    have he := Option.some.inj hm
    clear hm
    subst r
    exact Go.ret0 (Or.inl rfl) rfl (fun w hw => ⟨_, rfl, _, ⟨(), rfl, rfl⟩, hw⟩)
set_option maxRecDepth 100000 in
theorem slices_order2CmpFunc_impl_set_tr {G : World} {F : List Res} (q0 : Value) (p0 : (List Int)) (hp0 : RdT (Enc.int .i64) G F q0 p0) (p1 : Int) (p2 : Int) (c3 : Nat) (p3 : Int) (g4 : FuncId) (fs4 cs4 : List Value) (f4 : Int → Int → Option Int) (en_4 : Enters Try.prog g4) (hf4 : ∀ (L : List Res) (a0 : Int) (a1 : Int) (r : Int), f4 a0 a1 = some r → Tr Try.prog G g4 (fs4 ++ [(.int .i64 a0), (.int .i64 a1)] ++ cs4) (L ++ F) (fun u K => ∃ x : Unit, u = (.int .i64 r) ∧ K = L ++ F)) {r : (Int × Int × Int)} (hm : slices_order2CmpFunc_impl_set p0 p1 p2 p3 f4 = some r) : Tr Try.prog G 84 [q0, (.int .i64 p1), (.int .i64 p2), (.pointer (some ⟨c3, 0, none⟩)), (.func (.func g4) fs4.toArray cs4.toArray)] ((bx c3 ((Enc.int .i64).cells p3)) :: F) (fun u K => ∃ x : Unit, u = (.tuple #[(.int .i64 r.1), (.int .i64 r.2.1)]) ∧ K = ((bx c3 ((Enc.int .i64).cells r.2.2)) :: F)) := by
  unfold slices_order2CmpFunc_impl_set at hm
  refine Tr.body Try.func84 rfl Try.ntmps84 ?_
  refine W.seq ?_
  refine W.region ?_
  refine WL.q (R.assign rfl) rfl ?_
  refine WL.q (R.assign rfl) rfl ?_
  refine WL.nil ?_
  refine Go.then_ ?_
  refine W.seq ?_
  refine W.seq ?_
  obtain ⟨h1, hm⟩ := of_guard hm
  obtain ⟨h2, hm⟩ := of_guard hm
  obtain ⟨o3, h4, hm⟩ := of_bind hm
  refine W.join1 (fun a w => ∃ x5 : Unit, Sat G ((bx c3 ((Enc.int .i64).cells p3)) :: F) 32 [(1, (.int .i64 p1)), (2, (.int .i64 p2)), (3, (.pointer (some ⟨c3, 0, none⟩))), (10, (.int .i64 0)), (11, (.int .i64 0)), (22, (.bool (decide (o3 < 0))))] a w) ?_ ?_
  · refine W.draw (n := 11) ((bx c3 ((Enc.int .i64).cells p3)) :: F) F 11 (by kernel_rfl) rfl rfl (fun w hw => hw) (fun w hw => hw.drop 1) ?_
    refine WK.q (i := 0) rfl rfl (by kernel_rfl) calm_n (R.move rfl) rfl rfl ?_
    refine WK.q (i := 1) rfl rfl (by kernel_rfl) calm_n (R.move rfl) rfl rfl ?_
    refine WK.q (i := 2) rfl rfl (by kernel_rfl) calm_n (R.move rfl) rfl rfl ?_
    refine WK.q (i := 3) rfl rfl (by kernel_rfl) calm_n (R.idxT rfl rfl el40 (RdT.lift 1 rfl hp0) h1) rfl rfl ?_
    refine WK.q (i := 4) rfl rfl (by kernel_rfl) calm_n (R.load rfl (At.elT (RdT.lift 1 rfl hp0) (by decide) h1) (Lies.one _ ia50)) rfl rfl ?_
    refine WK.q (i := 5) rfl rfl (by kernel_rfl) calm_n (R.move rfl) rfl rfl ?_
    refine WK.x (i := 6) (by kernel_rfl) rfl (OpV.x (R.move rfl)) (fun _ w hw => hw) (fun _ _ _ w hw => hw.reord [] 1 rfl) rfl rfl (by kernel_rfl) fun _ => ?_
    refine WK.x (i := 7) (by kernel_rfl) rfl (OpV.x (R.idxT rfl rfl el40 (RdT.lift 1 rfl hp0) h2)) (fun _ w hw => hw) (fun _ _ _ w hw => hw.reord [] 1 rfl) rfl rfl (by kernel_rfl) fun _ => ?_
    refine WK.x (i := 8) (by kernel_rfl) rfl (OpV.x (R.load rfl (At.elT (RdT.lift 1 rfl hp0) (by decide) h2) (Lies.one _ ia50))) (fun _ w hw => hw) (fun _ _ _ w hw => hw.reord [] 1 rfl) rfl rfl (by kernel_rfl) fun _ => ?_
    refine WK.x (i := 9) (by kernel_rfl) rfl (R.callAny (fs := fs4) (cs := cs4) (vs := [(.int .i64 (gl p0 p2)), (.int .i64 (gl p0 p1))]) rfl rfl en_4 (hf4 [(bx c3 ((Enc.int .i64).cells p3))] (gl p0 p2) (gl p0 p1) _ h4)) (fun _ w hw => hw) (fun _ _ _ w hw => hw.reord [] 1 rfl) rfl rfl (by kernel_rfl) fun x5 => ?_
    refine WK.x (i := 10) (by kernel_rfl) rfl (OpV.x (R.lss rfl rfl)) (fun _ w hw => hw) (fun _ _ _ w hw => hw.reord [] 1 rfl) rfl rfl (by kernel_rfl) fun _ => ?_
    refine WK.nil (by kernel_rfl) ?_
    exact fun a w s => And.intro rfl (Exists.intro x5 (Sat.mk (s.env.le ⟨rfl, rfl, rfl, rfl, rfl, rfl, trivial⟩) (s.mem)))
  · refine Go2.ex fun x5 => ?_
    refine Go2.sat ?_
    refine Go.then_ ?_
    by_cases h6 : o3 < 0
    · rw [if_pos h6] at hm
      refine W.cond_t rfl (decide_eq_true h6) ?_
      refine W.seq ?_
      refine W.region ?_
      refine WL.q (R.move rfl) rfl ?_
      refine WL.q (R.nilCheck rfl) rfl ?_
      refine WL.q (R.load rfl (At.bx 0 rfl (Sub.refl _)) (Lies.one _ ia3)) rfl ?_
      refine WL.q (R.add rfl rfl) rfl ?_
      refine WL.q (R.nilCheck rfl) rfl ?_
      refine WL.x0 (R.store_bx (i := 0) rfl rfl rfl (fits_int sz3) (Up.all (Enc.int .i64) _ _)) fun _ => ?_
      refine WL.nil ?_
      refine Go.then_ ?_
      refine W.seq ?_
      refine W.region ?_
      refine WL.q (R.move rfl) rfl ?_
      refine WL.q (R.move rfl) rfl ?_
      refine WL.q (R.assign rfl) rfl ?_
      refine WL.q (R.assign rfl) rfl ?_
      refine WL.nil ?_
      refine Go.then_ ?_
      refine W.ret ?_
      refine Go.r_then ?_
      have he := Option.some.inj hm
      clear hm
      subst r
      exact Go.ret2 rfl (.tmp rfl) (.tmp rfl) (fun w hw => ⟨_, rfl, _, ⟨(), rfl, rfl⟩, hw⟩)
    · rw [if_neg h6] at hm
      refine W.cond_f rfl (decide_eq_false h6) ?_
      refine W.skip ?_
      refine Go.then_ ?_
      refine W.seq ?_
      refine W.region ?_
      refine WL.q (R.move rfl) rfl ?_
      refine WL.q (R.move rfl) rfl ?_
      refine WL.q (R.assign rfl) rfl ?_
      refine WL.q (R.assign rfl) rfl ?_
      refine WL.nil ?_
      refine Go.then_ ?_
      refine W.ret ?_
      have he := Option.some.inj hm
      clear hm
      subst r
      exact Go.ret2 rfl (.tmp rfl) (.tmp rfl) (fun w hw => ⟨_, rfl, _, ⟨(), rfl, rfl⟩, hw⟩)
set_option maxRecDepth 100000 in
theorem slices_medianCmpFunc_impl_set_tr {G : World} {F : List Res} (q0 : Value) (p0 : (List Int)) (hp0 : RdT (Enc.int .i64) G F q0 p0) (p1 : Int) (p2 : Int) (p3 : Int) (c4 : Nat) (p4 : Int) (g5 : FuncId) (fs5 cs5 : List Value) (f5 : Int → Int → Option Int) (en_5 : Enters Try.prog g5) (hf5 : ∀ (L : List Res) (a0 : Int) (a1 : Int) (r : Int), f5 a0 a1 = some r → Tr Try.prog G g5 (fs5 ++ [(.int .i64 a0), (.int .i64 a1)] ++ cs5) (L ++ F) (fun u K => ∃ x : Unit, u = (.int .i64 r) ∧ K = L ++ F)) {r : (Int × Int)} (hm : slices_medianCmpFunc_impl_set p0 p1 p2 p3 p4 f5 = some r) : Tr Try.prog G 76 [q0, (.int .i64 p1), (.int .i64 p2), (.int .i64 p3), (.pointer (some ⟨c4, 0, none⟩)), (.func (.func g5) fs5.toArray cs5.toArray)] ((bx c4 ((Enc.int .i64).cells p4)) :: F) (fun u K => ∃ x : Unit, u = (.int .i64 r.1) ∧ K = ((bx c4 ((Enc.int .i64).cells r.2)) :: F)) := by
  unfold slices_medianCmpFunc_impl_set at hm
  refine Tr.body Try.func76 rfl Try.ntmps76 ?_
  refine W.seq ?_
  refine W.region ?_
  refine WL.q (R.assign rfl) rfl ?_
  refine WL.nil ?_
  refine Go.then_ ?_
  refine W.seq ?_
  refine W.region ?_
  refine WL.q (R.move rfl) rfl ?_
  refine WL.q (R.move rfl) rfl ?_
  refine WL.q (R.move rfl) rfl ?_
  refine WL.q (R.move rfl) rfl ?_
  refine WL.q (R.move rfl) rfl ?_
  obtain ⟨o1, h2, hm⟩ := of_bind hm
  refine WL.x ((R.call rfl en84 (slices_order2CmpFunc_impl_set_tr (F := F) q0 p0 (RdT.lift 0 rfl hp0) p1 p2 c4 p4 g5 fs5 cs5 f5 en_5 hf5 h2)).weak (fun w hw => hw.reord [0] 1 rfl)) rfl fun x3 => ?_
  refine WL.q (R.move rfl) rfl ?_
  refine WL.q (R.extract rfl rfl) rfl ?_
  refine WL.q (R.extract rfl rfl) rfl ?_
  refine WL.q (R.assign rfl) rfl ?_
  refine WL.q (R.assign rfl) rfl ?_
  refine WL.nil ?_
  refine Go.then_ ?_
  refine W.seq ?_
  refine W.region ?_
  refine WL.q (R.move rfl) rfl ?_
  refine WL.q (R.move rfl) rfl ?_
  refine WL.q (R.move rfl) rfl ?_
  refine WL.q (R.move rfl) rfl ?_
  refine WL.q (R.move rfl) rfl ?_
  obtain ⟨o4, h5, hm⟩ := of_bind hm
  refine WL.x ((R.call rfl en84 (slices_order2CmpFunc_impl_set_tr (F := F) q0 p0 (RdT.lift 0 rfl hp0) o1.2.1 p3 c4 o1.2.2 g5 fs5 cs5 f5 en_5 hf5 h5)).weak (fun w hw => hw.reord [0] 1 rfl)) rfl fun x6 => ?_
  refine WL.q (R.move rfl) rfl ?_
  refine WL.q (R.extract rfl rfl) rfl ?_
  refine WL.q (R.extract rfl rfl) rfl ?_
  refine WL.q (R.assign rfl) rfl ?_
  refine WL.q (R.assign rfl) rfl ?_
  refine WL.nil ?_
  refine Go.then_ ?_
  refine W.seq ?_
  refine W.region ?_
  refine WL.q (R.move rfl) rfl ?_
  refine WL.q (R.move rfl) rfl ?_
  refine WL.q (R.move rfl) rfl ?_
  refine WL.q (R.move rfl) rfl ?_
  refine WL.q (R.move rfl) rfl ?_
  obtain ⟨o7, h8, hm⟩ := of_bind hm
  refine WL.x ((R.call rfl en84 (slices_order2CmpFunc_impl_set_tr (F := F) q0 p0 (RdT.lift 0 rfl hp0) o1.1 o4.1 c4 o4.2.2 g5 fs5 cs5 f5 en_5 hf5 h8)).weak (fun w hw => hw.reord [0] 1 rfl)) rfl fun x9 => ?_
  refine WL.q (R.move rfl) rfl ?_
  refine WL.q (R.extract rfl rfl) rfl ?_
  refine WL.q (R.extract rfl rfl) rfl ?_
  refine WL.q (R.assign rfl) rfl ?_
  refine WL.q (R.assign rfl) rfl ?_
  refine WL.nil ?_
  refine Go.then_ ?_
  refine W.seq ?_
  refine W.region ?_
  refine WL.q (R.move rfl) rfl ?_
  refine WL.q (R.assign rfl) rfl ?_
  refine WL.nil ?_
  refine Go.then_ ?_
  refine W.ret ?_
  have he := Option.some.inj hm
  clear hm
  subst r
  exact Go.ret1 rfl (.tmp rfl) (fun w hw => ⟨_, rfl, _, ⟨(), rfl, rfl⟩, hw⟩)
set_option maxRecDepth 100000 in
theorem slices_medianAdjacentCmpFunc_impl_set_tr {G : World} {F : List Res} (q0 : Value) (p0 : (List Int)) (hp0 : RdT (Enc.int .i64) G F q0 p0) (p1 : Int) (c2 : Nat) (p2 : Int) (g3 : FuncId) (fs3 cs3 : List Value) (f3 : Int → Int → Option Int) (en_3 : Enters Try.prog g3) (hf3 : ∀ (L : List Res) (a0 : Int) (a1 : Int) (r : Int), f3 a0 a1 = some r → Tr Try.prog G g3 (fs3 ++ [(.int .i64 a0), (.int .i64 a1)] ++ cs3) (L ++ F) (fun u K => ∃ x : Unit, u = (.int .i64 r) ∧ K = L ++ F)) {r : (Int × Int)} (hm : slices_medianAdjacentCmpFunc_impl_set p0 p1 p2 f3 = some r) : Tr Try.prog G 75 [q0, (.int .i64 p1), (.pointer (some ⟨c2, 0, none⟩)), (.func (.func g3) fs3.toArray cs3.toArray)] ((bx c2 ((Enc.int .i64).cells p2)) :: F) (fun u K => ∃ x : Unit, u = (.int .i64 r.1) ∧ K = ((bx c2 ((Enc.int .i64).cells r.2)) :: F)) := by
  unfold slices_medianAdjacentCmpFunc_impl_set at hm
  refine Tr.body Try.func75 rfl Try.ntmps75 ?_
  refine W.seq ?_
  refine W.region ?_
  refine WL.q (R.assign rfl) rfl ?_
  refine WL.nil ?_
  refine Go.then_ ?_
  refine W.seq ?_
  refine W.region ?_
  refine WL.q (R.move rfl) rfl ?_
  refine WL.q (R.move rfl) rfl ?_
  refine WL.q (R.sub rfl rfl) rfl ?_
  refine WL.q (R.move rfl) rfl ?_
  refine WL.q (R.move rfl) rfl ?_
  refine WL.q (R.add rfl rfl) rfl ?_
  refine WL.q (R.move rfl) rfl ?_
  refine WL.q (R.move rfl) rfl ?_
  obtain ⟨o1, h2, hm⟩ := of_bind hm
  refine WL.x ((R.call rfl en76 (slices_medianCmpFunc_impl_set_tr (F := F) q0 p0 (RdT.lift 0 rfl hp0) (IntKind.i64.wrap (p1 - 1)) p1 (IntKind.i64.wrap (p1 + 1)) c2 p2 g3 fs3 cs3 f3 en_3 hf3 h2)).weak (fun w hw => hw.reord [0] 1 rfl)) rfl fun x3 => ?_
  refine WL.q (R.assign rfl) rfl ?_
  refine WL.nil ?_
  refine Go.then_ ?_
  refine W.ret ?_
  have he := Option.some.inj hm
  clear hm
  subst r
  exact Go.ret1 rfl (.tmp rfl) (fun w hw => ⟨_, rfl, _, ⟨(), rfl, rfl⟩, hw⟩)
set_option maxRecDepth 100000 in
theorem slices_choosePivotCmpFunc_impl_set_tr {G : World} {F : List Res} (q0 : Value) (p0 : (List Int)) (hp0 : RdT (Enc.int .i64) G F q0 p0) (p1 : Int) (p2 : Int) (g3 : FuncId) (fs3 cs3 : List Value) (f3 : Int → Int → Option Int) (en_3 : Enters Try.prog g3) (hf3 : ∀ (L : List Res) (a0 : Int) (a1 : Int) (r : Int), f3 a0 a1 = some r → Tr Try.prog G g3 (fs3 ++ [(.int .i64 a0), (.int .i64 a1)] ++ cs3) (L ++ F) (fun u K => ∃ x : Unit, u = (.int .i64 r) ∧ K = L ++ F)) {r : (Int × Int)} (hm : slices_choosePivotCmpFunc_impl_set p0 p1 p2 f3 = some r) : Tr Try.prog G 60 [q0, (.int .i64 p1), (.int .i64 p2), (.func (.func g3) fs3.toArray cs3.toArray)] F (fun u K => ∃ x : Unit, u = (.tuple #[(.int .i64 r.1), (.int .i64 r.2)]) ∧ K = F) := by
  unfold slices_choosePivotCmpFunc_impl_set at hm
  refine Tr.body Try.func60 rfl Try.ntmps60 ?_
  refine W.seq ?_
  refine W.region ?_
  refine WL.q (R.assign rfl) rfl ?_
  refine WL.q (R.assign rfl) rfl ?_
  refine WL.nil ?_
  refine Go.then_ ?_
  refine W.seq ?_
  refine W.region ?_
  refine WL.q (R.move rfl) rfl ?_
  refine WL.q (R.move rfl) rfl ?_
  refine WL.q (R.sub rfl rfl) rfl ?_
  refine WL.q (R.assign rfl) rfl ?_
  refine WL.nil ?_
  refine Go.then_ ?_
  refine W.seq ?_
  refine W.region ?_
  refine WL.x (al3) rfl fun b1 => ?_
  refine WL.nil ?_
  refine Go.then_ ?_
  refine W.seq ?_
  refine W.region ?_
  refine WL.q (R.move rfl) rfl ?_
  refine WL.q (R.move rfl) rfl ?_
  refine WL.q (R.quo rfl rfl (by decide : (4 : Int) ≠ 0)) rfl ?_
  refine WL.q (R.mul rfl rfl) rfl ?_
  refine WL.q (R.add rfl rfl) rfl ?_
  refine WL.q (R.assign rfl) rfl ?_
  refine WL.nil ?_
  refine Go.then_ ?_
  refine W.seq ?_
  refine W.region ?_
  refine WL.q (R.move rfl) rfl ?_
  refine WL.q (R.move rfl) rfl ?_
  refine WL.q (R.quo rfl rfl (by decide : (4 : Int) ≠ 0)) rfl ?_
  refine WL.q (R.mul rfl rfl) rfl ?_
  refine WL.q (R.add rfl rfl) rfl ?_
  refine WL.q (R.assign rfl) rfl ?_
  refine WL.nil ?_
  refine Go.then_ ?_
  refine W.seq ?_
  refine W.region ?_
  refine WL.q (R.move rfl) rfl ?_
  refine WL.q (R.move rfl) rfl ?_
  refine WL.q (R.quo rfl rfl (by decide : (4 : Int) ≠ 0)) rfl ?_
  refine WL.q (R.mul rfl rfl) rfl ?_
  refine WL.q (R.add rfl rfl) rfl ?_
  refine WL.q (R.assign rfl) rfl ?_
  refine WL.nil ?_
  refine Go.then_ ?_
  obtain ⟨o17, hm, hmo17⟩ := of_bind hm
  refine W.seq ?_
  refine W.join (fun e a w => And (e = .normal) (Sat G ((bx b1 ((Enc.int .i64).cells o17.1)) :: F) 63 [(8, (.int .i64 0)), (9, (.int .i64 0)), (11, (.pointer (some ⟨b1, 0, none⟩))), (13, (.int .i64 o17.2))] a w)) ?_ ?_
  · refine W.seq ?_
    refine W.region ?_
    refine WL.q (R.move rfl) rfl ?_
    refine WL.q (R.geq rfl rfl) rfl ?_
    refine WL.nil ?_
    refine Go.then_ ?_
    by_cases h2 : 8 ≤ IntKind.i64.wrap (p2 - p1)
    · rw [if_pos h2] at hm
      refine W.cond_t rfl (decide_eq_true h2) ?_
      obtain ⟨o13, hm, hmo13⟩ := of_bind hm
      refine W.seq ?_
      refine W.join (fun e a w => And (e = .normal) (Sat G ((bx b1 ((Enc.int .i64).cells o13.1)) :: F) 63 [(0, q0), (3, (.func (.func g3) fs3.toArray cs3.toArray)), (8, (.int .i64 0)), (9, (.int .i64 0)), (11, (.pointer (some ⟨b1, 0, none⟩))), (12, (.int .i64 o13.2.1)), (13, (.int .i64 o13.2.2.1)), (14, (.int .i64 o13.2.2.2))] a w)) ?_ ?_
      · refine W.seq ?_
        refine W.region ?_
        refine WL.q (R.move rfl) rfl ?_
        refine WL.q (R.geq rfl rfl) rfl ?_
        refine WL.nil ?_
        refine Go.then_ ?_
        by_cases h3 : 50 ≤ IntKind.i64.wrap (p2 - p1)
        · rw [if_pos h3] at hm
          refine W.cond_t rfl (decide_eq_true h3) ?_
          refine W.seq ?_
          refine W.region ?_
          refine WL.q (R.move rfl) rfl ?_
          refine WL.q (R.move rfl) rfl ?_
          refine WL.q (R.move rfl) rfl ?_
          obtain ⟨o4, h5, hm⟩ := of_bind hm
          refine WL.x ((R.call rfl en75 (slices_medianAdjacentCmpFunc_impl_set_tr (F := F) q0 p0 (RdT.lift 0 rfl hp0) (IntKind.i64.wrap (p1 + (IntKind.i64.wrap ((IntKind.i64.wrap ((IntKind.i64.wrap (p2 - p1)).tdiv 4)) * 1)))) b1 0 g3 fs3 cs3 f3 en_3 hf3 h5)).weak (fun w hw => hw.reord [0] 1 rfl)) rfl fun x6 => ?_
          refine WL.q (R.assign rfl) rfl ?_
          refine WL.nil ?_
          refine Go.then_ ?_
          refine W.seq ?_
          refine W.region ?_
          refine WL.q (R.move rfl) rfl ?_
          refine WL.q (R.move rfl) rfl ?_
          refine WL.q (R.move rfl) rfl ?_
          obtain ⟨o7, h8, hm⟩ := of_bind hm
          refine WL.x ((R.call rfl en75 (slices_medianAdjacentCmpFunc_impl_set_tr (F := F) q0 p0 (RdT.lift 0 rfl hp0) (IntKind.i64.wrap (p1 + (IntKind.i64.wrap ((IntKind.i64.wrap ((IntKind.i64.wrap (p2 - p1)).tdiv 4)) * 2)))) b1 o4.2 g3 fs3 cs3 f3 en_3 hf3 h8)).weak (fun w hw => hw.reord [0] 1 rfl)) rfl fun x9 => ?_
          refine WL.q (R.assign rfl) rfl ?_
          refine WL.nil ?_
          refine Go.then_ ?_
          refine W.region ?_
          refine WL.q (R.move rfl) rfl ?_
          refine WL.q (R.move rfl) rfl ?_
          refine WL.q (R.move rfl) rfl ?_
          obtain ⟨o10, h11, hm⟩ := of_bind hm
          refine WL.x ((R.call rfl en75 (slices_medianAdjacentCmpFunc_impl_set_tr (F := F) q0 p0 (RdT.lift 0 rfl hp0) (IntKind.i64.wrap (p1 + (IntKind.i64.wrap ((IntKind.i64.wrap ((IntKind.i64.wrap (p2 - p1)).tdiv 4)) * 3)))) b1 o7.2 g3 fs3 cs3 f3 en_3 hf3 h11)).weak (fun w hw => hw.reord [0] 1 rfl)) rfl fun x12 => ?_
          refine WL.q (R.assign rfl) rfl ?_
          refine WL.nil ?_
          have he := Option.some.inj hm
          clear hm
          subst o13
          exact fun a w s => And.intro rfl (Sat.mk (s.env.le ⟨rfl, rfl, rfl, rfl, rfl, rfl, rfl, rfl, trivial⟩) (s.mem))
        · rw [if_neg h3] at hm
          refine W.cond_f rfl (decide_eq_false h3) ?_
          refine W.skip ?_
          have he := Option.some.inj hm
          clear hm
          subst o13
          exact fun a w s => And.intro rfl (Sat.mk (s.env.le ⟨rfl, rfl, rfl, rfl, rfl, rfl, rfl, rfl, trivial⟩) (s.mem))
      · intro e a w hJ
        replace hm := hmo13
        clear hmo13
        obtain ⟨rfl, s⟩ := hJ
        refine Go.use s ?_
        refine Go.then_ ?_
        refine W.region ?_
        refine WL.q (R.move rfl) rfl ?_
        refine WL.q (R.move rfl) rfl ?_
        refine WL.q (R.move rfl) rfl ?_
        refine WL.q (R.move rfl) rfl ?_
        refine WL.q (R.move rfl) rfl ?_
        obtain ⟨o14, h15, hm⟩ := of_bind hm
        refine WL.x ((R.call rfl en76 (slices_medianCmpFunc_impl_set_tr (F := F) q0 p0 (RdT.lift 0 rfl hp0) o13.2.1 o13.2.2.1 o13.2.2.2 b1 o13.1 g3 fs3 cs3 f3 en_3 hf3 h15)).weak (fun w hw => hw.reord [0] 1 rfl)) rfl fun x16 => ?_
        refine WL.q (R.assign rfl) rfl ?_
        refine WL.nil ?_
        have he := Option.some.inj hm
        clear hm
        subst o17
        exact fun a w s => And.intro rfl (Sat.mk (s.env.le ⟨rfl, rfl, rfl, rfl, trivial⟩) (s.mem))
    · rw [if_neg h2] at hm
      refine W.cond_f rfl (decide_eq_false h2) ?_
      refine W.skip ?_
      have he := Option.some.inj hm
      clear hm
      subst o17
      exact fun a w s => And.intro rfl (Sat.mk (s.env.le ⟨rfl, rfl, rfl, rfl, trivial⟩) (s.mem))
  · intro e a w hJ
    replace hm := hmo17
    clear hmo17
    obtain ⟨rfl, s⟩ := hJ
    refine Go.use s ?_
    refine Go.then_ ?_
    refine W.seq ?_
    refine W.region ?_
    refine WL.q (R.load rfl (At.bx 0 rfl (Sub.refl _)) (Lies.one _ ia3)) rfl ?_
    refine WL.nil ?_
    refine Go.then_ ?_
    refine W.block ?_
    refine W.seq ?_
    refine W.region ?_
    refine WL.q (R.eql rfl rfl) rfl ?_
    refine WL.q (R.assign rfl) rfl ?_
    refine WL.nil ?_
    refine Go.then_ ?_
    by_cases h18 : o17.1 = 0
    · rw [if_pos h18] at hm
      refine W.cond_t rfl (decide_eq_true h18) ?_
      refine W.seq ?_
      refine W.region ?_
      refine WL.q (R.move rfl) rfl ?_
      refine WL.q (R.assign rfl) rfl ?_
      refine WL.q (R.assign rfl) rfl ?_
      refine WL.nil ?_
      refine Go.then_ ?_
      refine W.ret ?_
      refine Go.r_block ?_
      have he := Option.some.inj hm
      clear hm
      subst r
      exact Go.ret2 rfl (.tmp rfl) (.tmp rfl) (fun w hw => ⟨_, rfl, _, ⟨(), rfl, rfl⟩, hw.reord [] 1 rfl⟩)
    · rw [if_neg h18] at hm
      refine W.cond_f rfl (decide_eq_false h18) ?_
      refine W.seq ?_
      refine W.region ?_
      refine WL.q (R.eql rfl rfl) rfl ?_
      refine WL.q (R.assign rfl) rfl ?_
      refine WL.nil ?_
      refine Go.then_ ?_
      by_cases h19 : o17.1 = 12
      · rw [if_pos h19] at hm
        refine W.cond_t rfl (decide_eq_true h19) ?_
        refine W.seq ?_
        refine W.region ?_
        refine WL.q (R.move rfl) rfl ?_
        refine WL.q (R.assign rfl) rfl ?_
        refine WL.q (R.assign rfl) rfl ?_
        refine WL.nil ?_
        refine Go.then_ ?_
        refine W.ret ?_
        refine Go.r_block ?_
        have he := Option.some.inj hm
        clear hm
        subst r
        exact Go.ret2 rfl (.tmp rfl) (.tmp rfl) (fun w hw => ⟨_, rfl, _, ⟨(), rfl, rfl⟩, hw.reord [] 1 rfl⟩)
      · rw [if_neg h19] at hm
        refine W.cond_f rfl (decide_eq_false h19) ?_
        refine W.seq ?_
        refine W.region ?_
        refine WL.q (R.move rfl) rfl ?_
        refine WL.q (R.assign rfl) rfl ?_
        refine WL.q (R.assign rfl) rfl ?_
        refine WL.nil ?_
        refine Go.then_ ?_
        refine W.ret ?_
        refine Go.r_block ?_
        have he := Option.some.inj hm
        clear hm
        subst r
        exact Go.ret2 rfl (.tmp rfl) (.tmp rfl) (fun w hw => ⟨_, rfl, _, ⟨(), rfl, rfl⟩, hw.reord [] 1 rfl⟩)
set_option maxRecDepth 100000 in
theorem slices_reverseRangeCmpFunc_impl_set_tr {G : World} {F : List Res} (q0 : Value) (p0 : (List Int)) (p1 : Int) (p2 : Int) (g3 : FuncId) (fs3 cs3 : List Value) (f3 : Int → Int → Option Int) (en_3 : Enters Try.prog g3) (hf3 : ∀ (L : List Res) (a0 : Int) (a1 : Int) (r : Int), f3 a0 a1 = some r → Tr Try.prog G g3 (fs3 ++ [(.int .i64 a0), (.int .i64 a1)] ++ cs3) (L ++ F) (fun u K => ∃ x : Unit, u = (.int .i64 r) ∧ K = L ++ F)) {r : (List Int)} (hm : slices_reverseRangeCmpFunc_impl_set p0 p1 p2 f3 = some r) : Tr Try.prog G 61 [q0, (.int .i64 p1), (.int .i64 p2), (.func (.func g3) fs3.toArray cs3.toArray)] ((slT (Enc.int .i64) q0 p0) :: F) (fun u K => ∃ x : Unit, u = (.tuple #[]) ∧ K = ((slT (Enc.int .i64) q0 r) :: F)) := by
  unfold slices_reverseRangeCmpFunc_impl_set at hm
  refine Tr.body Try.func61 rfl Try.ntmps61 ?_
  refine W.seq ?_
  refine W.region ?_
  refine WL.q (R.move rfl) rfl ?_
  refine WL.q (R.assign rfl) rfl ?_
  refine WL.nil ?_
  refine Go.then_ ?_
  refine W.seq ?_
  refine W.region ?_
  refine WL.q (R.move rfl) rfl ?_
  refine WL.q (R.sub rfl rfl) rfl ?_
  refine WL.q (R.assign rfl) rfl ?_
  refine WL.nil ?_
  refine Go.then_ ?_
  refine W.block ?_
  obtain ⟨o2, hlo2, hm⟩ := of_bind hm
  refine W.loopx (fun (s1 : ((List Int) × Int × Int)) a w => Sat G ((slT (Enc.int .i64) q0 s1.1) :: F) 34 [(0, q0), (8, (.int .i64 s1.2.1)), (9, (.int .i64 s1.2.2))] a w) (fun (o2 : (List Int)) e a w => And (e = (.exit 0)) (Sat G ((slT (Enc.int .i64) q0 o2) :: F) 34 [] a w)) hlo2 (fun a w s => (Sat.mk (s.env.le ⟨rfl, rfl, rfl, trivial⟩) (s.mem))) ?_ ?_
  · clear hm
    intro s1 x hm a w hJ
    have s := hJ
    unfold slices_reverseRangeCmpFunc_impl_set_L1 at hm
    refine W.use s ?_
    refine W.seq ?_
    refine W.seq ?_
    refine W.region ?_
    refine WL.q (R.move rfl) rfl ?_
    refine WL.q (R.move rfl) rfl ?_
    refine WL.q (R.lss rfl rfl) rfl ?_
    refine WL.nil ?_
    refine Go.then_ ?_
    by_cases h11 : s1.2.1 < s1.2.2
    · rw [if_pos h11] at hm
      refine W.cond_t rfl (decide_eq_true h11) ?_
      refine W.skip ?_
      refine Go.then_ ?_
      refine W.block ?_
      refine W.seq ?_
      obtain ⟨h12, hm⟩ := of_guard hm
      obtain ⟨h13, hm⟩ := of_guard hm
      obtain ⟨h14, hm⟩ := of_guard hm
      refine W.join1 (fun a w => Sat G ((slT (Enc.int .i64) q0 (sls (sls s1.1 s1.2.1 (gl s1.1 s1.2.2)) s1.2.2 (gl s1.1 s1.2.1))) :: F) 34 [(0, q0), (8, (.int .i64 s1.2.1)), (9, (.int .i64 s1.2.2))] a w) ?_ ?_
      · refine W.draw (n := 16) F F 13 (by kernel_rfl) rfl rfl (fun w hw => hw.reord [] 1 rfl) (fun w hw => hw.drop 1) ?_
        refine WK.q (i := 0) rfl rfl (by kernel_rfl) calm_n (R.move rfl) rfl rfl ?_
        refine WK.q (i := 1) rfl rfl (by kernel_rfl) calm_n (R.move rfl) rfl rfl ?_
        refine WK.q (i := 2) rfl rfl (by kernel_rfl) calm_n (R.move rfl) rfl rfl ?_
        refine WK.q (i := 3) rfl rfl (by kernel_rfl) calm_n (R.move rfl) rfl rfl ?_
        refine WK.q (i := 4) rfl rfl (by kernel_rfl) calm_n (R.move rfl) rfl rfl ?_
        refine WK.q (i := 5) rfl rfl (by kernel_rfl) calm_n (R.move rfl) rfl rfl ?_
        refine WK.q (i := 8) rfl rfl (by kernel_rfl) calm_n (R.move rfl) rfl rfl ?_
        refine WK.q (i := 9) rfl rfl (by kernel_rfl) calm_n (R.move rfl) rfl rfl ?_
        refine WK.among (is := [6, 10]) (by kernel_rfl) rfl ?_
        refine WKa.x rfl (OpV.x (R.idxT rfl rfl el40 (RdT.at 0 rfl) h12)) (fun _ w hw => hw.reord [] 1 rfl) (fun _ _ _ w hw => hw.reord [] 1 rfl) rfl rfl (by kernel_rfl) (fun _ => ?_) ?_
        · refine WK.among (is := [7, 10]) (by kernel_rfl) rfl ?_
          refine WKa.x rfl (OpV.x (R.load rfl (At.elT (RdT.at 0 rfl) (by decide) h12) (Lies.one _ ia50))) (fun _ w hw => hw.reord [] 1 rfl) (fun _ _ _ w hw => hw.reord [] 1 rfl) rfl rfl (by kernel_rfl) (fun _ => ?_) ?_
          · refine WK.x (i := 10) (by kernel_rfl) rfl (OpV.x (R.idxT rfl rfl el40 (RdT.at 0 rfl) h13)) (fun _ w hw => hw.reord [] 1 rfl) (fun _ _ _ w hw => hw.reord [] 1 rfl) rfl rfl (by kernel_rfl) fun _ => ?_
            refine WK.x (i := 11) (by kernel_rfl) rfl (OpV.x (R.load rfl (At.elT (RdT.at 0 rfl) (by decide) h13) (Lies.one _ ia50))) (fun _ w hw => hw.reord [] 1 rfl) (fun _ _ _ w hw => hw.reord [] 1 rfl) rfl rfl (by kernel_rfl) fun _ => ?_
            refine WK.x (i := 12) (by kernel_rfl) rfl (OpV.x (R.idxT rfl rfl el40 (RdT.at 0 rfl) h13)) (fun _ w hw => hw.reord [] 1 rfl) (fun _ _ _ w hw => hw.reord [] 1 rfl) rfl rfl (by kernel_rfl) fun _ => ?_
            refine WK.x0 (i := 13) (by kernel_rfl) rfl (R.storeT (i := 0) (gl s1.1 s1.2.2) rfl rfl rfl (fits_int sz50) (by decide) h13) (fun _ w hw => hw.reord [] 1 rfl) (fun h1 h2 => by cases h1) rfl (by kernel_rfl) fun _ => ?_
            refine WK.x (i := 14) (by kernel_rfl) rfl (OpV.x (R.idxT rfl rfl el40 (RdT.at 0 rfl) h14)) (fun _ w hw => hw.reord [] 1 rfl) (fun h1 h2 => by cases h2) rfl rfl (by kernel_rfl) fun _ => ?_
            refine WK.x0 (i := 15) (by kernel_rfl) rfl (R.storeT (i := 0) (gl s1.1 s1.2.1) rfl rfl rfl (fits_int sz50) (by decide) h14) (fun _ w hw => hw.reord [] 1 rfl) (fun h1 h2 => by cases h2) rfl (by kernel_rfl) fun _ => ?_
            refine WK.nil (by kernel_rfl) ?_
            exact fun a w s => And.intro rfl (Sat.mk (s.env.le ⟨rfl, rfl, rfl, trivial⟩) (s.mem))
          refine WKa.x rfl (OpV.x (R.idxT rfl rfl el40 (RdT.at 0 rfl) h13)) (fun _ w hw => hw.reord [] 1 rfl) (fun _ _ _ w hw => hw.reord [] 1 rfl) rfl rfl (by kernel_rfl) (fun _ => ?_) ?_
          · refine WK.among (is := [7, 11]) (by kernel_rfl) rfl ?_
            refine WKa.x rfl (OpV.x (R.load rfl (At.elT (RdT.at 0 rfl) (by decide) h12) (Lies.one _ ia50))) (fun _ w hw => hw.reord [] 1 rfl) (fun _ _ _ w hw => hw.reord [] 1 rfl) rfl rfl (by kernel_rfl) (fun _ => ?_) ?_
            · refine WK.x (i := 11) (by kernel_rfl) rfl (OpV.x (R.load rfl (At.elT (RdT.at 0 rfl) (by decide) h13) (Lies.one _ ia50))) (fun _ w hw => hw.reord [] 1 rfl) (fun _ _ _ w hw => hw.reord [] 1 rfl) rfl rfl (by kernel_rfl) fun _ => ?_
              refine WK.x (i := 12) (by kernel_rfl) rfl (OpV.x (R.idxT rfl rfl el40 (RdT.at 0 rfl) h13)) (fun _ w hw => hw.reord [] 1 rfl) (fun _ _ _ w hw => hw.reord [] 1 rfl) rfl rfl (by kernel_rfl) fun _ => ?_
              refine WK.x0 (i := 13) (by kernel_rfl) rfl (R.storeT (i := 0) (gl s1.1 s1.2.2) rfl rfl rfl (fits_int sz50) (by decide) h13) (fun _ w hw => hw.reord [] 1 rfl) (fun h1 h2 => by cases h1) rfl (by kernel_rfl) fun _ => ?_
              refine WK.x (i := 14) (by kernel_rfl) rfl (OpV.x (R.idxT rfl rfl el40 (RdT.at 0 rfl) h14)) (fun _ w hw => hw.reord [] 1 rfl) (fun h1 h2 => by cases h2) rfl rfl (by kernel_rfl) fun _ => ?_
              refine WK.x0 (i := 15) (by kernel_rfl) rfl (R.storeT (i := 0) (gl s1.1 s1.2.1) rfl rfl rfl (fits_int sz50) (by decide) h14) (fun _ w hw => hw.reord [] 1 rfl) (fun h1 h2 => by cases h2) rfl (by kernel_rfl) fun _ => ?_
              refine WK.nil (by kernel_rfl) ?_
              exact fun a w s => And.intro rfl (Sat.mk (s.env.le ⟨rfl, rfl, rfl, trivial⟩) (s.mem))
            refine WKa.x rfl (OpV.x (R.load rfl (At.elT (RdT.at 0 rfl) (by decide) h13) (Lies.one _ ia50))) (fun _ w hw => hw.reord [] 1 rfl) (fun _ _ _ w hw => hw.reord [] 1 rfl) rfl rfl (by kernel_rfl) (fun _ => ?_) ?_
            · refine WK.x (i := 7) (by kernel_rfl) rfl (OpV.x (R.load rfl (At.elT (RdT.at 0 rfl) (by decide) h12) (Lies.one _ ia50))) (fun _ w hw => hw.reord [] 1 rfl) (fun _ _ _ w hw => hw.reord [] 1 rfl) rfl rfl (by kernel_rfl) fun _ => ?_
              refine WK.x (i := 12) (by kernel_rfl) rfl (OpV.x (R.idxT rfl rfl el40 (RdT.at 0 rfl) h13)) (fun _ w hw => hw.reord [] 1 rfl) (fun _ _ _ w hw => hw.reord [] 1 rfl) rfl rfl (by kernel_rfl) fun _ => ?_
              refine WK.x0 (i := 13) (by kernel_rfl) rfl (R.storeT (i := 0) (gl s1.1 s1.2.2) rfl rfl rfl (fits_int sz50) (by decide) h13) (fun _ w hw => hw.reord [] 1 rfl) (fun h1 h2 => by cases h1) rfl (by kernel_rfl) fun _ => ?_
              refine WK.x (i := 14) (by kernel_rfl) rfl (OpV.x (R.idxT rfl rfl el40 (RdT.at 0 rfl) h14)) (fun _ w hw => hw.reord [] 1 rfl) (fun h1 h2 => by cases h2) rfl rfl (by kernel_rfl) fun _ => ?_
              refine WK.x0 (i := 15) (by kernel_rfl) rfl (R.storeT (i := 0) (gl s1.1 s1.2.1) rfl rfl rfl (fits_int sz50) (by decide) h14) (fun _ w hw => hw.reord [] 1 rfl) (fun h1 h2 => by cases h2) rfl (by kernel_rfl) fun _ => ?_
              refine WK.nil (by kernel_rfl) ?_
              exact fun a w s => And.intro rfl (Sat.mk (s.env.le ⟨rfl, rfl, rfl, trivial⟩) (s.mem))
            exact WKa.nil
          exact WKa.nil
        refine WKa.x rfl (OpV.x (R.idxT rfl rfl el40 (RdT.at 0 rfl) h13)) (fun _ w hw => hw.reord [] 1 rfl) (fun _ _ _ w hw => hw.reord [] 1 rfl) rfl rfl (by kernel_rfl) (fun _ => ?_) ?_
        · refine WK.among (is := [6, 11]) (by kernel_rfl) rfl ?_
          refine WKa.x rfl (OpV.x (R.idxT rfl rfl el40 (RdT.at 0 rfl) h12)) (fun _ w hw => hw.reord [] 1 rfl) (fun _ _ _ w hw => hw.reord [] 1 rfl) rfl rfl (by kernel_rfl) (fun _ => ?_) ?_
          · refine WK.among (is := [7, 11]) (by kernel_rfl) rfl ?_
            refine WKa.x rfl (OpV.x (R.load rfl (At.elT (RdT.at 0 rfl) (by decide) h12) (Lies.one _ ia50))) (fun _ w hw => hw.reord [] 1 rfl) (fun _ _ _ w hw => hw.reord [] 1 rfl) rfl rfl (by kernel_rfl) (fun _ => ?_) ?_
            · refine WK.x (i := 11) (by kernel_rfl) rfl (OpV.x (R.load rfl (At.elT (RdT.at 0 rfl) (by decide) h13) (Lies.one _ ia50))) (fun _ w hw => hw.reord [] 1 rfl) (fun _ _ _ w hw => hw.reord [] 1 rfl) rfl rfl (by kernel_rfl) fun _ => ?_
              refine WK.x (i := 12) (by kernel_rfl) rfl (OpV.x (R.idxT rfl rfl el40 (RdT.at 0 rfl) h13)) (fun _ w hw => hw.reord [] 1 rfl) (fun _ _ _ w hw => hw.reord [] 1 rfl) rfl rfl (by kernel_rfl) fun _ => ?_
              refine WK.x0 (i := 13) (by kernel_rfl) rfl (R.storeT (i := 0) (gl s1.1 s1.2.2) rfl rfl rfl (fits_int sz50) (by decide) h13) (fun _ w hw => hw.reord [] 1 rfl) (fun h1 h2 => by cases h1) rfl (by kernel_rfl) fun _ => ?_
              refine WK.x (i := 14) (by kernel_rfl) rfl (OpV.x (R.idxT rfl rfl el40 (RdT.at 0 rfl) h14)) (fun _ w hw => hw.reord [] 1 rfl) (fun h1 h2 => by cases h2) rfl rfl (by kernel_rfl) fun _ => ?_
              refine WK.x0 (i := 15) (by kernel_rfl) rfl (R.storeT (i := 0) (gl s1.1 s1.2.1) rfl rfl rfl (fits_int sz50) (by decide) h14) (fun _ w hw => hw.reord [] 1 rfl) (fun h1 h2 => by cases h2) rfl (by kernel_rfl) fun _ => ?_
              refine WK.nil (by kernel_rfl) ?_
              exact fun a w s => And.intro rfl (Sat.mk (s.env.le ⟨rfl, rfl, rfl, trivial⟩) (s.mem))
            refine WKa.x rfl (OpV.x (R.load rfl (At.elT (RdT.at 0 rfl) (by decide) h13) (Lies.one _ ia50))) (fun _ w hw => hw.reord [] 1 rfl) (fun _ _ _ w hw => hw.reord [] 1 rfl) rfl rfl (by kernel_rfl) (fun _ => ?_) ?_
            · refine WK.x (i := 7) (by kernel_rfl) rfl (OpV.x (R.load rfl (At.elT (RdT.at 0 rfl) (by decide) h12) (Lies.one _ ia50))) (fun _ w hw => hw.reord [] 1 rfl) (fun _ _ _ w hw => hw.reord [] 1 rfl) rfl rfl (by kernel_rfl) fun _ => ?_
              refine WK.x (i := 12) (by kernel_rfl) rfl (OpV.x (R.idxT rfl rfl el40 (RdT.at 0 rfl) h13)) (fun _ w hw => hw.reord [] 1 rfl) (fun _ _ _ w hw => hw.reord [] 1 rfl) rfl rfl (by kernel_rfl) fun _ => ?_
              refine WK.x0 (i := 13) (by kernel_rfl) rfl (R.storeT (i := 0) (gl s1.1 s1.2.2) rfl rfl rfl (fits_int sz50) (by decide) h13) (fun _ w hw => hw.reord [] 1 rfl) (fun h1 h2 => by cases h1) rfl (by kernel_rfl) fun _ => ?_
              refine WK.x (i := 14) (by kernel_rfl) rfl (OpV.x (R.idxT rfl rfl el40 (RdT.at 0 rfl) h14)) (fun _ w hw => hw.reord [] 1 rfl) (fun h1 h2 => by cases h2) rfl rfl (by kernel_rfl) fun _ => ?_
              refine WK.x0 (i := 15) (by kernel_rfl) rfl (R.storeT (i := 0) (gl s1.1 s1.2.1) rfl rfl rfl (fits_int sz50) (by decide) h14) (fun _ w hw => hw.reord [] 1 rfl) (fun h1 h2 => by cases h2) rfl (by kernel_rfl) fun _ => ?_
              refine WK.nil (by kernel_rfl) ?_
              exact fun a w s => And.intro rfl (Sat.mk (s.env.le ⟨rfl, rfl, rfl, trivial⟩) (s.mem))
            exact WKa.nil
          refine WKa.x rfl (OpV.x (R.load rfl (At.elT (RdT.at 0 rfl) (by decide) h13) (Lies.one _ ia50))) (fun _ w hw => hw.reord [] 1 rfl) (fun _ _ _ w hw => hw.reord [] 1 rfl) rfl rfl (by kernel_rfl) (fun _ => ?_) ?_
          · refine WK.x (i := 6) (by kernel_rfl) rfl (OpV.x (R.idxT rfl rfl el40 (RdT.at 0 rfl) h12)) (fun _ w hw => hw.reord [] 1 rfl) (fun _ _ _ w hw => hw.reord [] 1 rfl) rfl rfl (by kernel_rfl) fun _ => ?_
            refine WK.x (i := 7) (by kernel_rfl) rfl (OpV.x (R.load rfl (At.elT (RdT.at 0 rfl) (by decide) h12) (Lies.one _ ia50))) (fun _ w hw => hw.reord [] 1 rfl) (fun _ _ _ w hw => hw.reord [] 1 rfl) rfl rfl (by kernel_rfl) fun _ => ?_
            refine WK.x (i := 12) (by kernel_rfl) rfl (OpV.x (R.idxT rfl rfl el40 (RdT.at 0 rfl) h13)) (fun _ w hw => hw.reord [] 1 rfl) (fun _ _ _ w hw => hw.reord [] 1 rfl) rfl rfl (by kernel_rfl) fun _ => ?_
            refine WK.x0 (i := 13) (by kernel_rfl) rfl (R.storeT (i := 0) (gl s1.1 s1.2.2) rfl rfl rfl (fits_int sz50) (by decide) h13) (fun _ w hw => hw.reord [] 1 rfl) (fun h1 h2 => by cases h1) rfl (by kernel_rfl) fun _ => ?_
            refine WK.x (i := 14) (by kernel_rfl) rfl (OpV.x (R.idxT rfl rfl el40 (RdT.at 0 rfl) h14)) (fun _ w hw => hw.reord [] 1 rfl) (fun h1 h2 => by cases h2) rfl rfl (by kernel_rfl) fun _ => ?_
            refine WK.x0 (i := 15) (by kernel_rfl) rfl (R.storeT (i := 0) (gl s1.1 s1.2.1) rfl rfl rfl (fits_int sz50) (by decide) h14) (fun _ w hw => hw.reord [] 1 rfl) (fun h1 h2 => by cases h2) rfl (by kernel_rfl) fun _ => ?_
            refine WK.nil (by kernel_rfl) ?_
            exact fun a w s => And.intro rfl (Sat.mk (s.env.le ⟨rfl, rfl, rfl, trivial⟩) (s.mem))
          exact WKa.nil
        exact WKa.nil
      · refine Go2.sat ?_
        refine Go.then_ ?_
        refine W.seq ?_
        refine W.region ?_
        refine WL.q (R.move rfl) rfl ?_
        refine WL.q (R.add rfl rfl) rfl ?_
        refine WL.q (R.assign rfl) rfl ?_
        refine WL.nil ?_
        refine Go.then_ ?_
        refine W.region ?_
        refine WL.q (R.move rfl) rfl ?_
        refine WL.q (R.sub rfl rfl) rfl ?_
        refine WL.q (R.assign rfl) rfl ?_
        refine WL.nil ?_
        refine Go.n_block ?_
        have he := Option.some.inj hm
        clear hm
        subst x
        exact fun a w s => Exists.intro _ (And.intro rfl (Sat.mk (s.env.le ⟨rfl, rfl, rfl, trivial⟩) (s.mem)))
    · rw [if_neg h11] at hm
      refine W.cond_f rfl (decide_eq_false h11) ?_
      refine W.exit ?_
      refine Go.x_then ?_
      have he := Option.some.inj hm
      clear hm
      subst x
      exact fun a w s => Exists.intro _ (And.intro rfl (And.intro rfl (Sat.mk (s.env.le trivial) (s.mem))))
  · intro e a w hJ
    obtain ⟨rfl, s⟩ := hJ
    refine Go.use s ?_
    refine Go.x_block ?_
    have he := Option.some.inj hm
    clear hm
    subst r
    exact Go.ret0 (Or.inl rfl) rfl (fun w hw => ⟨_, rfl, _, ⟨(), rfl, rfl⟩, hw⟩)
end Go.Proofs.Ytekmmbgbhjeoaaa
