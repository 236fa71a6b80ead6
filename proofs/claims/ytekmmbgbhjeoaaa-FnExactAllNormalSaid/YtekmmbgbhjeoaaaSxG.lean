/- The foundation of this claim's walks: loops as runs of a step function, and regions in any order. No condition. -/
import Derived.Test.YtekmmbgbhjeoaaaSxF
import Derived.LoopN
import Derived.OrdersHeld
set_option linter.unusedVariables false
set_option linter.unusedSimpArgs false
set_option linter.unusedSectionVars false
namespace Go.Sx
open Go

/-! ## Loops of the pure functions -/
namespace Lp
variable {S R : Type}
def runN (step : S → Option (S ⊕ R)) : Nat → S → Option R
  | 0, _ => none
  | n + 1, s => match step s with
    | none => none
    | some (.inl s') => runN step n s'
    | some (.inr r) => some r
theorem runN_mono {step : S → Option (S ⊕ R)} : ∀ {n m : Nat} {s : S} {r : R}, n ≤ m → runN step n s = some r → runN step m s = some r
  | 0, _, _, _, _, h => by simp [runN] at h
  | n + 1, 0, _, _, hle, _ => by omega
  | n + 1, m + 1, s, r, hle, h => by
    simp only [runN] at h ⊢
    split at h
    · cases h
    · exact runN_mono (by omega) h
    · exact h
open Classical in
noncomputable def run (step : S → Option (S ⊕ R)) (s : S) : Option R := if h : ∃ p : Nat × R, runN step p.1 s = some p.2 then some h.choose.2 else none
theorem run_iff {step : S → Option (S ⊕ R)} {s : S} {r : R} : run step s = some r ↔ ∃ n, runN step n s = some r := by
  constructor
  · intro h
    unfold run at h
    split at h
    · rename_i hx
      cases h
      exact ⟨_, hx.choose_spec⟩
    · cases h
  · rintro ⟨n, h⟩
    have hx : ∃ p : Nat × R, runN step p.1 s = some p.2 := ⟨(n, r), h⟩
    have h2 := hx.choose_spec
    have e : hx.choose.2 = r := by
      have a := runN_mono (Nat.le_max_left hx.choose.1 n) h2
      have b := runN_mono (Nat.le_max_right hx.choose.1 n) h
      exact Option.some.inj (a.symm.trans b)
    unfold run
    rw [dif_pos hx, e]
theorem run_step {step : S → Option (S ⊕ R)} {s s' : S} {r : R} (h : step s = some (.inl s')) : run step s = some r ↔ run step s' = some r := by
  rw [run_iff, run_iff]
  constructor
  · rintro ⟨n, hn⟩
    cases n with
    | zero => simp [runN] at hn
    | succ n => exact ⟨n, by simpa [runN, h] using hn⟩
  · rintro ⟨n, hn⟩
    exact ⟨n + 1, by simpa [runN, h] using hn⟩
theorem run_next {step : S → Option (S ⊕ R)} {s s' : S} (h : step s = some (.inl s')) : run step s = run step s' :=
  Option.ext fun _ => run_step h
theorem run_out {step : S → Option (S ⊕ R)} {s : S} {r : R} (h : step s = some (.inr r)) : run step s = some r :=
  run_iff.2 ⟨1, by simp [runN, h]⟩
/-- The rule of a loop: what holds at each head, and a measure. -/
theorem run_inv {step : S → Option (S ⊕ R)} (I : S → Prop) (μ : S → Nat) (Q : R → Prop) (h : ∀ s, I s → (∃ s', step s = some (.inl s') ∧ I s' ∧ μ s' < μ s) ∨ ∃ r, step s = some (.inr r) ∧ Q r) :
    ∀ s, I s → ∃ r, run step s = some r ∧ Q r := by
  have key : ∀ n s, μ s = n → I s → ∃ r, run step s = some r ∧ Q r := by
    intro n
    induction n using Nat.strongRecOn with
    | _ n ih =>
      intro s hn hI
      rcases h s hI with ⟨s', e, hI', hlt⟩ | ⟨r, e, hq⟩
      · obtain ⟨r, hr, hq⟩ := ih (μ s') (hn ▸ hlt) s' rfl hI'
        exact ⟨r, (run_next e).trans hr, hq⟩
      · exact ⟨r, run_out e, hq⟩
  exact fun s => key _ s rfl
end Lp

/-! ## Loops of the walks -/
variable {P : Program} {G : World} {N : Nat} {T : Env} {H : List Res} {Q : Post}
theorem wp_Lp {S R : Type} {step : S → Option (S ⊕ R)} {body : Code} (J : S → Act → World → Prop) (K : R → Post)
    (round : ∀ s x, step s = some x → ∀ a w, J s a w → body.wp P (Exit.then (fun a' w' => ∃ s', x = .inl s' ∧ J s' a' w') (fun e a' w' => ∃ r, x = .inr r ∧ K r e a' w')) a w)
    {s : S} {r : R} (h : Lp.run step s = some r) : ∀ a w, J s a w → (Code.loop body).wp P (K r) a w := by
  obtain ⟨n, hn⟩ := Lp.run_iff.1 h
  intro a w hJ
  refine wp_loop_rounds n ?_
  clear h
  induction n generalizing s a w with
  | zero => simp [Lp.runN] at hn
  | succ n ih =>
    rw [rounds_succ]
    simp only [Lp.runN] at hn
    split at hn
    · cases hn
    · rename_i s' e
      refine wp_mono (round s _ e a w hJ) fun ex a' w' hq => ?_
      cases ex with
      | normal =>
        obtain ⟨s2, e2, hJ'⟩ := hq
        cases e2
        exact ih hn a' w' hJ'
      | exit id => obtain ⟨r', e2, _⟩ := hq; cases e2
      | goto id => obtain ⟨r', e2, _⟩ := hq; cases e2
      | ret => obtain ⟨r', e2, _⟩ := hq; cases e2
      | panic c => obtain ⟨r', e2, _⟩ := hq; cases e2
      | outgrown => obtain ⟨r', e2, _⟩ := hq; cases e2
    · rename_i r' e
      cases hn
      refine wp_mono (round s _ e a w hJ) fun ex a' w' hq => ?_
      cases ex with
      | normal => obtain ⟨s2, e2, _⟩ := hq; cases e2
      | exit id => obtain ⟨r', e2, hq⟩ := hq; cases e2; exact hq
      | goto id => obtain ⟨r', e2, hq⟩ := hq; cases e2; exact hq
      | ret => obtain ⟨r', e2, hq⟩ := hq; cases e2; exact hq
      | panic c => obtain ⟨r', e2, hq⟩ := hq; cases e2; exact hq
      | outgrown => obtain ⟨r', e2, hq⟩ := hq; cases e2; exact hq

theorem W.loop {S R : Type} {step : S → Option (S ⊕ R)} {body : Code} (J : S → Act → World → Prop) {s : S} {r : R} (hrun : Lp.run step s = some r) (start : ∀ a w, Sat G H N T a w → J s a w)
    (round : ∀ s x, step s = some x → ∀ a w, J s a w → body.wp P (Exit.then (fun a' w' => ∃ s', x = .inl s' ∧ J s' a' w') (fun e a' w' => ∃ r', x = .inr r' ∧ (r' = r → Q e a' w'))) a w) : W P G N (.loop body) T H Q := fun a w hs =>
  wp_mono (wp_Lp J (fun r' e a' w' => r' = r → Q e a' w') round hrun a w (start a w hs)) fun _ _ _ q => q rfl

theorem W.loopx {S R : Type} {step : S → Option (S ⊕ R)} {body : Code} (J : S → Act → World → Prop) (JX : R → Post) {s : S} {r : R} (hrun : Lp.run step s = some r) (start : ∀ a w, Sat G H N T a w → J s a w)
    (round : ∀ s x, step s = some x → ∀ a w, J s a w → body.wp P (Exit.then (fun a' w' => ∃ s', x = .inl s' ∧ J s' a' w') (fun e a' w' => ∃ r', x = .inr r' ∧ JX r' e a' w')) a w) (after : ∀ e a w, JX r e a w → Q e a w) : W P G N (.loop body) T H Q := fun a w hs =>
  wp_mono (wp_Lp J JX round hrun a w (start a w hs)) fun e a w q => after e a w q

/-! ## Regions in any order -/
section draw
variable {ops : Array Oper} {S1 S2 : World → Prop} {c : Nat}
/-- Whatever order is picked from here on: 'S1' holds behind each operation, and 'S2' till number 'c' has come up. -/
def wpCut (P : Program) (ops : Array Oper) (Q : Post) (S1 S2 : World → Prop) (c : Nat) : Nat → Array Bool → Act → World → Prop
  | 0, listed, a, w => Region.ready .any ops listed = [] ∧ Q .normal a w
  | fuel + 1, listed, a, w => (Region.ready .any ops listed = [] → Q .normal a w) ∧
    ∀ i ∈ Region.ready .any ops listed, wpOp P ops Q i (fun a' w' => S1 w' ∧ (i ≠ c → listed.getD c false = false → S2 w') ∧ wpCut P ops Q S1 S2 c fuel (listed.setIfInBounds i true) a' w') a w
theorem wpAny_of_cut : ∀ (fuel : Nat) (listed : Array Bool) (a : Act) (w : World), wpCut P ops Q S1 S2 c fuel listed a w → wpAny P .any ops Q fuel listed a w
  | 0, _, _, _, h => h
  | fuel + 1, _, _, _, h => ⟨h.1, fun i hi => wpOp_mono (fun a' w' h' => wpAny_of_cut fuel _ a' w' h'.2.2) (h.2 i hi)⟩
theorem wpCut_more {S1' S2' : World → Prop} (h1 : ∀ w, S1' w → S1 w) (h2 : ∀ w, S2' w → S2 w) : ∀ (fuel : Nat) (listed : Array Bool) (a : Act) (w : World), wpCut P ops Q S1' S2' c fuel listed a w → wpCut P ops Q S1 S2 c fuel listed a w
  | 0, _, _, _, h => h
  | fuel + 1, _, _, _, h => ⟨h.1, fun i hi => wpOp_mono (fun a' w' h' => ⟨h1 _ h'.1, fun x y => h2 _ (h'.2.1 x y), wpCut_more h1 h2 fuel _ a' w' h'.2.2⟩) (h.2 i hi)⟩

/-- 'S' stays: as 'S1' always does, as 'S2' does for what 'c' waits for. -/
theorem wpCut_first {S : World → Prop} {i : Nat} {oi : Oper} {v : Value} (hi : ops[i]? = some oi) (hsel : ∀ (j : Nat) (o : Oper) cs b, ops[j]? = some o → o.op ≠ .select cs b)
    (hQ : ∀ ch a w, Q (.panic ch) (a.put oi.dst v) w → Q (.panic ch) a w) (hic : i ≠ c)
    (hkind : S = S1 ∨ S = S2 ∧ ∀ oc, ops[c]? = some oc → ∃ e ∈ oc.after, Region.binds .any e = true ∧ e.on = i) :
    ∀ (fuel : Nat) (listed : Array Bool) (a : Act) (w : World), (S = S1 ∨ listed.getD c false = false) →
      (∀ j oj, ops[j]? = some oj → j ≠ i → listed.getD j true = false → (∀ e ∈ oj.after, Region.binds .any e = true → e.on ≠ i) → oi.apart ops oj = true) →
      i ∈ Region.ready .any ops listed → YieldsIf P ops S oi v a → S w → S1 w → (listed.getD c false = false → S2 w) →
      wpCut P ops Q S1 S2 c fuel (listed.setIfInBounds i true) (a.put oi.dst v) w → wpCut P ops Q S1 S2 c (fuel + 1) listed a w := by
  intro fuel
  induction fuel with
  | zero =>
    intro listed a w _ _ hr hy hS hS1 hS2 hH
    refine ⟨fun h => (by rw [h] at hr; cases hr), fun j hj => ?_⟩
    by_cases hji : j = i
    · subst hji; exact hy.wpOp hi hS ⟨hS1, fun _ h => hS2 h, hH⟩
    · have h0 := ready_mono hj hji
      rw [hH.1] at h0
      cases h0
  | succ fuel ih =>
    intro listed a w hun hfree hr hy hS hS1 hS2 hH
    refine ⟨fun h => (by rw [h] at hr; cases hr), fun j hj => ?_⟩
    by_cases hji : j = i
    · subst hji; exact hy.wpOp hi hS ⟨hS1, fun _ h => hS2 h, hH⟩
    · have h1 := hH.2 j (ready_mono hj hji)
      obtain ⟨hjun, oj, hoj, hall⟩ := mem_ready.1 hj
      have hiun := (mem_ready.1 hr).1
      have hlisted : listed.getD i false ≠ true := fun h1 => by
        rcases Nat.lt_or_ge i listed.size with h' | h'
        · simp [h'] at hiun h1; rw [hiun] at h1; cases h1
        · simp [Array.getElem?_eq_none h'] at h1
      have hnot : ∀ e ∈ oj.after, Region.binds .any e = true → e.on ≠ i := fun e he hb heq => hlisted (heq ▸ hall e he hb)
      have hjc : S = S1 ∨ S = S2 ∧ j ≠ c := hkind.imp id fun ⟨h0, hwait⟩ => ⟨h0, fun e => by
        subst e
        obtain ⟨e, he, hb, heq⟩ := hwait oj hoj
        exact hnot e he hb heq⟩
      have h2 := wpOp_putIf hoj (hfree j oj hoj hji hjun hnot) (fun cs b => hsel i oi cs b hi) (fun cs b => hsel j oj cs b hoj) hQ hy h1
      refine wpOp_mono (fun a' w' h3 => ?_) h2
      obtain ⟨h4, k1, k2, k3⟩ := h3
      have hS2w : j ≠ c → listed.getD c false = false → S2 w' := fun h5 h6 => k2 h5 ((getD_set_ne (listed := listed) false hic).trans h6)
      have hSw : S w' := by
        rcases hjc with rfl | ⟨rfl, hne⟩
        · exact k1
        · rcases hun with rfl | hun
          · exact k1
          · exact hS2w hne hun
      refine ⟨k1, hS2w, ih (listed.setIfInBounds j true) a' w' ?_ ?_ (ready_mono hr (Ne.symm hji)) h4 hSw k1 ?_ ?_⟩
      · rcases hjc with h0 | ⟨_, hne⟩
        · exact .inl h0
        · exact hun.imp id fun hun => (getD_set_ne (listed := listed) false hne).trans hun
      · intro k ok hk hki hunk hno
        refine hfree k ok hk hki ?_ hno
        by_cases hjk : j = k
        · subst hjk; exact hjun
        · rw [getD_set_ne true hjk] at hunk; exact hunk
      · intro h6
        by_cases hne : j = c
        · subst hne
          exfalso
          rcases Nat.lt_or_ge j listed.size with h' | h'
          · simp [h'] at h6
          · simp [Array.getElem?_eq_none h'] at hjun
        · exact hS2w hne ((getD_set_ne (listed := listed) false hne).symm.trans h6)
      · rw [Array.setIfInBounds_comm _ _ hji]
        exact k3
end draw

/-- A region in any order: what is still to come up, from a state. 'F1': what operations taken first may read; 'F2': what they may read that number 'c' waits for. -/
def WK (P : Program) (G : World) (N : Nat) (ops : Array Oper) (F1 F2 : List Res) (c fuel : Nat) (listed : Array Bool) (T : Env) (H : List Res) (Q : Post) : Prop :=
  ∀ a w, Sat G H N T a w → ok G F1 w → (listed.getD c false = false → ok G F2 w) → wpCut P ops Q (ok G F1) (ok G F2) c fuel listed a w

theorem W.draw {id : Nat} {ops : Array Oper} (F1 F2 : List Res) (c : Nat) {n : Nat} {ls : Array Bool} (hm : P.follows .mixedOrders = true) (hn : ops.size = n) (hl : Array.replicate n false = ls) (h1 : ∀ w, ok G H w → ok G F1 w) (h2 : ∀ w, ok G H w → ok G F2 w)
    (h : WK P G N ops F1 F2 c n ls T H Q) : W P G N (.region id ops true) T H Q := fun a w s => by
  refine wp_region_any hm (wpAny_of_cut (S1 := ok G F1) (S2 := ok G F2) (c := c) _ _ _ _ ?_)
  rw [hn, hl]
  have := s.mem.of_heap (w' := { w with drawn := w.drawn + 1 }) rfl rfl rfl
  exact h a _ ⟨s.env, s.mem.of_heap rfl rfl rfl⟩ (h1 _ (s.mem.of_heap rfl rfl rfl)) (fun _ => h2 _ (s.mem.of_heap rfl rfl rfl))

variable {ops : Array Oper} {F1 F2 : List Res} {c fuel : Nat} {listed ls : Array Bool}
theorem WK.more {F1' F2' : List Res} (h1 : ∀ w, ok G H w → ok G F1' w) (h2 : ∀ w, ok G H w → listed.getD c false = false → ok G F2' w) (w1 : ∀ w, ok G F1' w → ok G F1 w) (w2 : ∀ w, ok G F2' w → ok G F2 w) (h : WK P G N ops F1' F2' c fuel listed T H Q) : WK P G N ops F1 F2 c fuel listed T H Q :=
  fun a w s _ _ => wpCut_more w1 w2 _ _ _ _ (h a w s (h1 w s.mem) (h2 w s.mem))
/-- No panic comes out. -/
def Calm (Q : Post) : Prop := ∀ ch a a' w, Q (.panic ch) a w → Q (.panic ch) a' w
/-- number 'c', if there is such an operation, waits for 'i' -/
def waits (ops : Array Oper) (c i : Nat) : Bool := match ops[c]? with
  | none => true
  | some oc => oc.after.any fun e => Region.binds .any e && e.on == i
theorem waits_spec {c i : Nat} (h : waits ops c i = true) : ∀ oc, ops[c]? = some oc → ∃ e ∈ oc.after, Region.binds .any e = true ∧ e.on = i := fun oc hoc => by
  simp only [waits, hoc] at h
  obtain ⟨e, he, h2⟩ := Array.any_eq_true'.1 h
  simp only [Bool.and_eq_true, beq_iff_eq] at h2
  exact ⟨e, he, h2⟩
/-- What stands in the way of taking an operation first: nothing. -/
def mayFirst (ops : Array Oper) (c i : Nat) (listed : Array Bool) : Bool :=
  Region.noSelect ops && Region.free .any ops listed i && (Region.ready .any ops listed).contains i && !(Nat.beq i c)
def mayFirst2 (ops : Array Oper) (c i : Nat) (listed : Array Bool) : Bool := mayFirst ops c i listed && waits ops c i && !(listed.getD c false)

/-- Taken first: it reads what always stands. -/
theorem WK.q {i d : Nat} {op : Op} {ty : TypeId} {pos : String} {af : Array Edge} {g : Option (Nat × Bool)} {v : Value} (hi : ops[i]? = some ⟨some d, op, ty, pos, af, g⟩) (hg : g = none) (hm : mayFirst ops c i listed = true) (hc : Calm Q)
    (run : OpV P G N T F1 op ty v) (hN : Nat.ble (d + 1) N = true) (hl : listed.setIfInBounds i true = ls) (h : WK P G N ops F1 F2 c fuel ls (T.set d v) H Q) : WK P G N ops F1 F2 c (fuel + 1) listed T H Q := fun a w s s1 s2 => by
  subst hg
  simp only [mayFirst, Bool.and_eq_true, Bool.not_eq_true'] at hm
  obtain ⟨⟨⟨h1, h2⟩, h3⟩, h5⟩ := hm
  have hic : i ≠ c := fun e => by subst e; simp at h5
  subst hl
  exact wpCut_first (S := ok G F1) hi (Region.noSelect_spec h1) (fun ch a w hq => hc ch _ _ w hq) hic (.inl rfl) fuel listed a w (.inl rfl) (Region.free_spec hi h2) (by simpa using h3)
    (.inl ⟨by simp [Region.wanted], fun w' hw' => run a w' ⟨s.env, hw'⟩ _ _ _ _⟩) s1 s1 s2 (h _ w ⟨s.env.put hN v, s.mem⟩ s1 fun h6 => s2 ((getD_set_ne (listed := listed) false hic).symm.trans h6))
/-- Taken first: it reads what stands till 'c', which waits for it. -/
theorem WK.q2 {i d : Nat} {op : Op} {ty : TypeId} {pos : String} {af : Array Edge} {g : Option (Nat × Bool)} {v : Value} (hi : ops[i]? = some ⟨some d, op, ty, pos, af, g⟩) (hg : g = none) (hm : mayFirst2 ops c i listed = true) (hc : Calm Q)
    (run : OpV P G N T F2 op ty v) (hN : Nat.ble (d + 1) N = true) (hl : listed.setIfInBounds i true = ls) (h : WK P G N ops F1 F2 c fuel ls (T.set d v) H Q) : WK P G N ops F1 F2 c (fuel + 1) listed T H Q := fun a w s s1 s2 => by
  subst hg
  simp only [mayFirst2, mayFirst, Bool.and_eq_true, Bool.not_eq_true'] at hm
  obtain ⟨⟨⟨⟨⟨h1, h2⟩, h3⟩, h5⟩, h4⟩, h6⟩ := hm
  have hic : i ≠ c := fun e => by subst e; simp at h5
  subst hl
  exact wpCut_first (S := ok G F2) hi (Region.noSelect_spec h1) (fun ch a w hq => hc ch _ _ w hq) hic (.inr ⟨rfl, waits_spec h4⟩) fuel listed a w (.inr h6) (Region.free_spec hi h2) (by simpa using h3)
    (.inl ⟨by simp [Region.wanted], fun w' hw' => run a w' ⟨s.env, hw'⟩ _ _ _ _⟩) (s2 h6) s1 s2 (h _ w ⟨s.env.put hN v, s.mem⟩ s1 fun h6 => s2 ((getD_set_ne (listed := listed) false hic).symm.trans h6))
/-- Taken first, with a guard that is met. -/
theorem WK.qg {i d j : Nat} {b b' : Bool} {t : Nat} {op : Op} {ty : TypeId} {pos : String} {af : Array Edge} {v : Value} (hi : ops[i]? = some ⟨some d, op, ty, pos, af, some (j, b)⟩) (hj : (ops[j]?).bind (·.dst) = some t) (hb : T.get t = some (.bool b')) (hbb : b' = b) (hm : mayFirst ops c i listed = true) (hc : Calm Q)
    (run : OpV P G N T F1 op ty v) (hN : Nat.ble (d + 1) N = true) (hl : listed.setIfInBounds i true = ls) (h : WK P G N ops F1 F2 c fuel ls (T.set d v) H Q) : WK P G N ops F1 F2 c (fuel + 1) listed T H Q := fun a w s s1 s2 => by
  simp only [mayFirst, Bool.and_eq_true, Bool.not_eq_true'] at hm
  obtain ⟨⟨⟨h1, h2⟩, h3⟩, h5⟩ := hm
  have hic : i ≠ c := fun e => by subst e; simp at h5
  subst hl; subst hbb
  have ht := s.env.tmps _ _ hb
  exact wpCut_first (S := ok G F1) hi (Region.noSelect_spec h1) (fun ch a w hq => hc ch _ _ w hq) hic (.inl rfl) fuel listed a w (.inl rfl) (Region.free_spec hi h2) (by simpa using h3)
    (.inl ⟨by simp [Region.wanted, yielded, hj, ht], fun w' hw' => run a w' ⟨s.env, hw'⟩ _ _ _ _⟩) s1 s1 s2 (h _ w ⟨s.env.put hN v, s.mem⟩ s1 fun h6 => s2 ((getD_set_ne (listed := listed) false hic).symm.trans h6))
theorem WK.qg2 {i d j : Nat} {b b' : Bool} {t : Nat} {op : Op} {ty : TypeId} {pos : String} {af : Array Edge} {v : Value} (hi : ops[i]? = some ⟨some d, op, ty, pos, af, some (j, b)⟩) (hj : (ops[j]?).bind (·.dst) = some t) (hb : T.get t = some (.bool b')) (hbb : b' = b) (hm : mayFirst2 ops c i listed = true) (hc : Calm Q)
    (run : OpV P G N T F2 op ty v) (hN : Nat.ble (d + 1) N = true) (hl : listed.setIfInBounds i true = ls) (h : WK P G N ops F1 F2 c fuel ls (T.set d v) H Q) : WK P G N ops F1 F2 c (fuel + 1) listed T H Q := fun a w s s1 s2 => by
  simp only [mayFirst2, mayFirst, Bool.and_eq_true, Bool.not_eq_true'] at hm
  obtain ⟨⟨⟨⟨⟨h1, h2⟩, h3⟩, h5⟩, h4⟩, h6⟩ := hm
  have hic : i ≠ c := fun e => by subst e; simp at h5
  subst hl; subst hbb
  have ht := s.env.tmps _ _ hb
  exact wpCut_first (S := ok G F2) hi (Region.noSelect_spec h1) (fun ch a w hq => hc ch _ _ w hq) hic (.inr ⟨rfl, waits_spec h4⟩) fuel listed a w (.inr h6) (Region.free_spec hi h2) (by simpa using h3)
    (.inl ⟨by simp [Region.wanted, yielded, hj, ht], fun w' hw' => run a w' ⟨s.env, hw'⟩ _ _ _ _⟩) (s2 h6) s1 s2 (h _ w ⟨s.env.put hN v, s.mem⟩ s1 fun h6 => s2 ((getD_set_ne (listed := listed) false hic).symm.trans h6))
/-- Taken first, with a guard that is not met. -/
theorem WK.qoff {i d j : Nat} {b b' : Bool} {t : Nat} {op : Op} {ty : TypeId} {pos : String} {af : Array Edge} (hi : ops[i]? = some ⟨some d, op, ty, pos, af, some (j, b)⟩) (hj : (ops[j]?).bind (·.dst) = some t) (hb : T.get t = some (.bool b')) (hbb : b' = !b) (hm : mayFirst ops c i listed = true) (hc : Calm Q)
    (hN : Nat.ble (d + 1) N = true) (hl : listed.setIfInBounds i true = ls) (h : WK P G N ops F1 F2 c fuel ls (T.set d undef) H Q) : WK P G N ops F1 F2 c (fuel + 1) listed T H Q := fun a w s s1 s2 => by
  simp only [mayFirst, Bool.and_eq_true, Bool.not_eq_true'] at hm
  obtain ⟨⟨⟨h1, h2⟩, h3⟩, h5⟩ := hm
  have hic : i ≠ c := fun e => by subst e; simp at h5
  subst hl; subst hbb
  have ht := s.env.tmps _ _ hb
  exact wpCut_first (S := ok G F1) hi (Region.noSelect_spec h1) (fun ch a w hq => hc ch _ _ w hq) hic (.inl rfl) fuel listed a w (.inl rfl) (Region.free_spec hi h2) (by simpa using h3)
    (.inr ⟨by cases b <;> simp [Region.wanted, yielded, hj, ht], rfl⟩) s1 s1 s2 (h _ w ⟨s.env.put hN _, s.mem⟩ s1 fun h6 => s2 ((getD_set_ne (listed := listed) false hic).symm.trans h6))

theorem WK.qoff_u {i d j : Nat} {b : Bool} {t : Nat} {op : Op} {ty : TypeId} {pos : String} {af : Array Edge} (hi : ops[i]? = some ⟨some d, op, ty, pos, af, some (j, b)⟩) (hj : (ops[j]?).bind (·.dst) = some t) (hb : T.get t = some undef) (hm : mayFirst ops c i listed = true) (hc : Calm Q)
    (hN : Nat.ble (d + 1) N = true) (hl : listed.setIfInBounds i true = ls) (h : WK P G N ops F1 F2 c fuel ls (T.set d undef) H Q) : WK P G N ops F1 F2 c (fuel + 1) listed T H Q := fun a w s s1 s2 => by
  simp only [mayFirst, Bool.and_eq_true, Bool.not_eq_true'] at hm
  obtain ⟨⟨⟨h1, h2⟩, h3⟩, h5⟩ := hm
  have hic : i ≠ c := fun e => by subst e; simp at h5
  subst hl
  have ht := s.env.tmps _ _ hb
  exact wpCut_first (S := ok G F1) hi (Region.noSelect_spec h1) (fun ch a w hq => hc ch _ _ w hq) hic (.inl rfl) fuel listed a w (.inl rfl) (Region.free_spec hi h2) (by simpa using h3)
    (.inr ⟨by simp [Region.wanted, yielded, hj, ht, undef], rfl⟩) s1 s1 s2 (h _ w ⟨s.env.put hN _, s.mem⟩ s1 fun h6 => s2 ((getD_set_ne (listed := listed) false hic).symm.trans h6))

/-- Those that may come up, one after the other. -/
def WKa (P : Program) (G : World) (N : Nat) (ops : Array Oper) (F1 F2 : List Res) (c fuel : Nat) (listed : Array Bool) (is : List Nat) (T : Env) (H : List Res) (Q : Post) : Prop :=
  ∀ a w, Sat G H N T a w → ok G F1 w → (listed.getD c false = false → ok G F2 w) → ∀ i ∈ is, wpOp P ops Q i (fun a' w' => ok G F1 w' ∧ (i ≠ c → listed.getD c false = false → ok G F2 w') ∧ wpCut P ops Q (ok G F1) (ok G F2) c fuel (listed.setIfInBounds i true) a' w') a w
theorem WK.among {is : List Nat} (hr : Region.ready .any ops listed = is) (hn : is.isEmpty = false) (h : WKa P G N ops F1 F2 c fuel listed is T H Q) : WK P G N ops F1 F2 c (fuel + 1) listed T H Q := fun a w s s1 s2 => by
  refine ⟨fun e => ?_, fun j hj => ?_⟩
  · rw [hr] at e; rw [e] at hn; cases hn
  · rw [hr] at hj; exact h a w s s1 s2 j hj
theorem WKa.nil : WKa P G N ops F1 F2 c fuel listed [] T H Q := fun _ _ _ _ _ _ h => by cases h
/-- One that turns the world. -/
theorem WKa.run {is : List Nat} {i : Nat} {dst : Option Nat} {op : Op} {ty : TypeId} {pos : String} {af : Array Edge} {g : Option (Nat × Bool)} {X : Type} {v : X → Value} {H' : X → List Res} {T' : X → Env} (hi : ops[i]? = some ⟨dst, op, ty, pos, af, g⟩)
    (hw : ∀ a w, Sat G H N T a w → Region.wanted ⟨dst, op, ty, pos, af, g⟩ (yielded ops a.tmps) = true)
    (hT : ∀ a w x, Sat G H N T a w → Env.ok N (T' x) (a.put dst (v x)))
    (run : OpX P G N T H op ty v H') (hF1 : ∀ x w, ok G (H' x) w → ok G F1 w) (hF2 : Nat.beq i c = false → listed.getD c false = false → ∀ x w, ok G (H' x) w → ok G F2 w) (hl : listed.setIfInBounds i true = ls) (hli : ls.getD i false = true) (h : ∀ x, WK P G N ops F1 F2 c fuel ls (T' x) (H' x) Q)
    (hs : WKa P G N ops F1 F2 c fuel listed is T H Q) : WKa P G N ops F1 F2 c fuel listed (i :: is) T H Q := fun a w s s1 s2 j hj => by
  rcases List.mem_cons.1 hj with e | hj
  · subst e; subst hl
    have hF2' : j ≠ c → listed.getD c false = false → ∀ x w, ok G (H' x) w → ok G F2 w := fun h => hF2 (Bool.eq_false_iff.2 fun e => h (Nat.eq_of_beq_eq_true e))
    unfold wpOp
    simp only [hi]
    rw [if_pos (hw a w s)]
    refine .inl (run a w s _ _ _ _ _ _ fun x w' hk => ⟨hF1 x w' hk, fun h1 h2 => hF2' h1 h2 x w' hk, h x _ w' ⟨hT a w x s, hk⟩ (hF1 x w' hk) fun h6 => ?_⟩)
    by_cases hjc : j = c
    · subst hjc; rw [hli] at h6; cases h6
    · exact hF2' hjc ((getD_set_ne (listed := listed) false hjc).symm.trans h6) x w' hk
  · exact hs a w s s1 s2 j hj
theorem WKa.x {is : List Nat} {i d : Nat} {op : Op} {ty : TypeId} {pos : String} {af : Array Edge} {X : Type} {v : X → Value} {H' : X → List Res} (hi : ops[i]? = some ⟨some d, op, ty, pos, af, none⟩)
    (run : OpX P G N T H op ty v H') (hF1 : ∀ x w, ok G (H' x) w → ok G F1 w) (hF2 : Nat.beq i c = false → listed.getD c false = false → ∀ x w, ok G (H' x) w → ok G F2 w) (hN : Nat.ble (d + 1) N = true) (hl : listed.setIfInBounds i true = ls) (hli : ls.getD i false = true) (h : ∀ x, WK P G N ops F1 F2 c fuel ls (T.set d (v x)) (H' x) Q)
    (hs : WKa P G N ops F1 F2 c fuel listed is T H Q) : WKa P G N ops F1 F2 c fuel listed (i :: is) T H Q :=
  .run (T' := fun x => T.set d (v x)) hi (fun _ _ _ => by simp [Region.wanted]) (fun _ _ x s => s.env.put hN (v x)) run hF1 hF2 hl hli h hs
theorem WKa.x0 {is : List Nat} {i : Nat} {op : Op} {ty : TypeId} {pos : String} {af : Array Edge} {X : Type} {v : X → Value} {H' : X → List Res} (hi : ops[i]? = some ⟨none, op, ty, pos, af, none⟩)
    (run : OpX P G N T H op ty v H') (hF1 : ∀ x w, ok G (H' x) w → ok G F1 w) (hF2 : Nat.beq i c = false → listed.getD c false = false → ∀ x w, ok G (H' x) w → ok G F2 w) (hl : listed.setIfInBounds i true = ls) (hli : ls.getD i false = true) (h : ∀ x, WK P G N ops F1 F2 c fuel ls T (H' x) Q)
    (hs : WKa P G N ops F1 F2 c fuel listed is T H Q) : WKa P G N ops F1 F2 c fuel listed (i :: is) T H Q :=
  .run (T' := fun _ => T) hi (fun _ _ _ => by simp [Region.wanted]) (fun _ _ _ s => s.env) run hF1 hF2 hl hli h hs
theorem WKa.xg {is : List Nat} {i d j : Nat} {b b' : Bool} {t : Nat} {op : Op} {ty : TypeId} {pos : String} {af : Array Edge} {X : Type} {v : X → Value} {H' : X → List Res} (hi : ops[i]? = some ⟨some d, op, ty, pos, af, some (j, b)⟩) (hj : (ops[j]?).bind (·.dst) = some t) (hb : T.get t = some (.bool b')) (hbb : b' = b)
    (run : OpX P G N T H op ty v H') (hF1 : ∀ x w, ok G (H' x) w → ok G F1 w) (hF2 : Nat.beq i c = false → listed.getD c false = false → ∀ x w, ok G (H' x) w → ok G F2 w) (hN : Nat.ble (d + 1) N = true) (hl : listed.setIfInBounds i true = ls) (hli : ls.getD i false = true) (h : ∀ x, WK P G N ops F1 F2 c fuel ls (T.set d (v x)) (H' x) Q)
    (hs : WKa P G N ops F1 F2 c fuel listed is T H Q) : WKa P G N ops F1 F2 c fuel listed (i :: is) T H Q :=
  .run (T' := fun x => T.set d (v x)) hi (fun a w s => by have ht := s.env.tmps _ _ hb; subst hbb; simp [Region.wanted, yielded, hj, ht]) (fun _ _ x s => s.env.put hN (v x)) run hF1 hF2 hl hli h hs
theorem OpV.x {op : Op} {v : Value} {ty : TypeId} (run : OpV P G N T H op ty v) : OpX P G N T H op ty (fun _ : Unit => v) (fun _ => H) := .val fun a w s dst pos af g => ⟨(), w, run a w s dst pos af g, s.mem⟩
theorem WK.nil (hr : Region.ready .any ops listed = []) (h : Go G N .normal T H Q) : WK P G N ops F1 F2 c fuel listed T H Q := by
  intro a w s _ _
  cases fuel with
  | zero => exact ⟨hr, h a w s⟩
  | succ fuel => exact ⟨fun _ => h a w s, by rw [hr]; simp⟩

/-! where one alone may come up -/
theorem WK.x {i d : Nat} {op : Op} {ty : TypeId} {pos : String} {af : Array Edge} {X : Type} {v : X → Value} {H' : X → List Res} (hr : Region.ready .any ops listed = [i]) (hi : ops[i]? = some ⟨some d, op, ty, pos, af, none⟩)
    (run : OpX P G N T H op ty v H') (hF1 : ∀ x w, ok G (H' x) w → ok G F1 w) (hF2 : Nat.beq i c = false → listed.getD c false = false → ∀ x w, ok G (H' x) w → ok G F2 w) (hN : Nat.ble (d + 1) N = true) (hl : listed.setIfInBounds i true = ls) (hli : ls.getD i false = true) (h : ∀ x, WK P G N ops F1 F2 c fuel ls (T.set d (v x)) (H' x) Q) :
    WK P G N ops F1 F2 c (fuel + 1) listed T H Q := .among hr rfl (.x hi run hF1 hF2 hN hl hli h .nil)
theorem WK.x0 {i : Nat} {op : Op} {ty : TypeId} {pos : String} {af : Array Edge} {X : Type} {v : X → Value} {H' : X → List Res} (hr : Region.ready .any ops listed = [i]) (hi : ops[i]? = some ⟨none, op, ty, pos, af, none⟩)
    (run : OpX P G N T H op ty v H') (hF1 : ∀ x w, ok G (H' x) w → ok G F1 w) (hF2 : Nat.beq i c = false → listed.getD c false = false → ∀ x w, ok G (H' x) w → ok G F2 w) (hl : listed.setIfInBounds i true = ls) (hli : ls.getD i false = true) (h : ∀ x, WK P G N ops F1 F2 c fuel ls T (H' x) Q) :
    WK P G N ops F1 F2 c (fuel + 1) listed T H Q := .among hr rfl (.x0 hi run hF1 hF2 hl hli h .nil)
theorem WK.xg {i d j : Nat} {b b' : Bool} {t : Nat} {op : Op} {ty : TypeId} {pos : String} {af : Array Edge} {X : Type} {v : X → Value} {H' : X → List Res} (hr : Region.ready .any ops listed = [i]) (hi : ops[i]? = some ⟨some d, op, ty, pos, af, some (j, b)⟩) (hj : (ops[j]?).bind (·.dst) = some t) (hb : T.get t = some (.bool b')) (hbb : b' = b)
    (run : OpX P G N T H op ty v H') (hF1 : ∀ x w, ok G (H' x) w → ok G F1 w) (hF2 : Nat.beq i c = false → listed.getD c false = false → ∀ x w, ok G (H' x) w → ok G F2 w) (hN : Nat.ble (d + 1) N = true) (hl : listed.setIfInBounds i true = ls) (hli : ls.getD i false = true) (h : ∀ x, WK P G N ops F1 F2 c fuel ls (T.set d (v x)) (H' x) Q) :
    WK P G N ops F1 F2 c (fuel + 1) listed T H Q := .among hr rfl (.xg hi hj hb hbb run hF1 hF2 hN hl hli h .nil)

/-! ## The ways out -/
section ways
variable {f : Act → World → Prop} {id j : Nat}
theorem Go.x_then (h : Go G N (.exit id) T H Q) : Go G N (.exit id) T H (Exit.then f Q) := h
theorem Go.r_then (h : Go G N .ret T H Q) : Go G N .ret T H (Exit.then f Q) := h
theorem Go.n_block (h : Go G N .normal T H Q) : Go G N .normal T H (Exit.inBlock id Q) := h
theorem Go.r_block (h : Go G N .ret T H Q) : Go G N .ret T H (Exit.inBlock id Q) := h
theorem Go.x_block (h : Go G N .normal T H Q) : Go G N (.exit id) T H (Exit.inBlock id Q) := fun a w s => by
  have := h a w s
  simpa [Exit.inBlock] using this
theorem Go.x_pass (hne : Nat.beq j id = false) (h : Go G N (.exit j) T H Q) : Go G N (.exit j) T H (Exit.inBlock id Q) := fun a w s => by
  have := h a w s
  have hne' : ¬ j = id := fun e => by subst e; simp at hne
  simpa [Exit.inBlock, hne', Ne.symm hne'] using this
end ways
end Go.Sx
