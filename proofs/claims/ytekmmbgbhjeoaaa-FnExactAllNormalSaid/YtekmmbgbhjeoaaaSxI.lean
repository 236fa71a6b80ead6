/- The foundation of this claim's walks: comparing plain data. No condition. -/
import Derived.Test.YtekmmbgbhjeoaaaSxH
import Derived.ChangeKeysEq
import Derived.Laws.StructEq
set_option linter.unusedVariables false
set_option linter.unusedSimpArgs false
set_option linter.unusedSectionVars false
namespace Go.Sx
open Go
variable {P : Program}

theorem part_run {t : TypeId} {cs xs : List Value} {off : Nat} {v : Value} {w : World} (hs : Sub cs off xs) (hl : Lies P t xs v) : (part t cs.toArray off).run P w = .ok v w := by
  cases hl with
  | one v ha =>
    have := hs.get 0 (by simp)
    simp at this
    simp [part, ha, this]
  | agg xs ha hsz =>
    cases hi : P.info? t with
    | none => simp [hi] at hsz
    | some i =>
      simp [hi] at hsz
      obtain ⟨p, q, rfl, hp⟩ := hs
      simp [part, ha, sizeOf, typeInfo, hi, hsz, ← hp]

/-- '==' of a type is equality of the data. -/
def EqE {α : Type} [DecidableEq α] (P : Program) (t : TypeId) (m : Nat) (val : α → Value) : Prop := ∀ d a b w, (Op.equalIn (d + m) t (val a) (val b)).run P w = .ok (decide (a = b)) w
theorem EqE.int {t : TypeId} {k : IntKind} (h : P.underlying t = some (.int k)) : EqE P t 1 (fun n : Int => .int k n) := fun d a b w => by
  rw [run_equalIn_int w d t k k a b h]; congr 1
theorem EqE.bool {t : TypeId} (h : P.underlying t = some .bool) : EqE P t 1 (fun n : Bool => .bool n) := fun d a b w => by
  rw [run_equalIn_bool' w d t a b h]; congr 1
variable {α : Type} [Inhabited α] [DecidableEq α]
theorem EqE.arr {t el : TypeId} {e : Enc α} {m n : Nat} {val : α → Value} (h : EqE P el m val) (hu : P.underlying t = some (.array n el)) (hs : (P.info? el).map (·.size) = some e.size) (hl : ∀ x, Lies P el (e.cells x) (val x)) :
    EqE P t (m + 1) (fun v : Vector α n => .agg ((e.arr n).cells v).toArray) := fun d a b w => by
  cases hi : P.info? el with
  | none => simp [hi] at hs
  | some i =>
    simp [hi] at hs
    rw [← Nat.add_assoc, run_equalIn_array w (d + m) _ _ hu hi]
    have hc : P.cellsOf el = e.size := by simp [Program.cellsOf, hi, hs]
    rw [hc]
    have key : ∀ is : List Nat, (∀ j ∈ is, j < n) → (Op.eqItems (d + m) el e.size ((e.arr n).cells a).toArray ((e.arr n).cells b).toArray is).run P w = .ok (decide (∀ j ∈ is, gv a j = gv b j)) w := by
      intro is
      induction is with
      | nil => intro _; simp [Op.eqItems]
      | cons j is ih =>
        intro hj
        have h0 : (j : Int) < n := by have := hj j List.mem_cons_self; omega
        have sa := part_run (w := w) (sub_arr e (v := a) (i := j) (by omega) h0) (hl _)
        have sb := part_run (w := w) (sub_arr e (v := b) (i := j) (by omega) h0) (hl _)
        simp only [Int.toNat_natCast] at sa sb
        simp only [Op.eqItems, Sem.run_bind, sa, sb, Result.andThen_ok, h d _ _ w]
        by_cases he : gv a j = gv b j
        · have ih' := ih (fun k hk => hj k (List.mem_cons_of_mem _ hk))
          simp [he, ih']
        · simp [he]
    rw [key _ (fun j hj => List.mem_range.1 hj)]
    congr 1
    apply decide_eq_decide.2
    constructor
    · intro h'
      apply Vector.ext
      intro i hi
      have := h' i (List.mem_range.2 hi)
      simpa [gv, List.getD_eq_getElem?_getD, hi] using this
    · rintro rfl _ _; rfl

theorem EqE.le {α : Type} [DecidableEq α] {t m m' : Nat} {val : α → Value} (h : EqE P t m val) (hm : m ≤ m') : EqE P t m' val := fun d a b w => by
  have := h (d + (m' - m)) a b w
  rwa [show d + (m' - m) + m = d + m' by omega] at this
/-- A field: where it lies and how it compares. -/
structure FieldE {σ α : Type} [DecidableEq α] (P : Program) (m : Nat) (cells : σ → List Value) (f : Field) (get : σ → α) (enc : α → List Value) (val : α → Value) : Prop where
  name : f.name ≠ "_"
  eq : EqE P f.type m val
  sub : ∀ s, Sub (cells s) f.offset (enc (get s))
  lies : ∀ x, Lies P f.type (enc x) (val x)
theorem eqFields_cons {σ α : Type} [DecidableEq α] {m : Nat} {cells : σ → List Value} {f : Field} {get : σ → α} {enc : α → List Value} {val : α → Value} (h : FieldE P m cells f get enc val) (d : Nat) (a b : σ) (fs : List Field) (r : Bool) (w : World)
    (hr : (Op.eqFields (d + m) (cells a).toArray (cells b).toArray fs).run P w = .ok r w) :
    (Op.eqFields (d + m) (cells a).toArray (cells b).toArray (f :: fs)).run P w = .ok (decide (get a = get b) && r) w := by
  have sa := part_run (w := w) (h.sub a) (h.lies _)
  have sb := part_run (w := w) (h.sub b) (h.lies _)
  simp only [Op.eqFields, if_pos h.name, Sem.run_bind, sa, sb, Result.andThen_ok, h.eq d _ _ w]
  by_cases he : get a = get b
  · simp [he, hr]
  · simp [he]
theorem EqE.struct2 {σ α β : Type} [DecidableEq σ] [DecidableEq α] [DecidableEq β] {t m : Nat} {cells : σ → List Value} {f g : Field} {gf : σ → α} {gg : σ → β} {ef : α → List Value} {eg : β → List Value} {vf : α → Value} {vg : β → Value}
    (ht : P.underlying t = some (.struct (P.fieldsOf t))) (hp : P.stoodInHeld t = false) (hfs : (P.fieldsOf t).toList = [f, g]) (h1 : FieldE P m cells f gf ef vf) (h2 : FieldE P m cells g gg eg vg)
    (hext : ∀ a b : σ, a = b ↔ gf a = gf b ∧ gg a = gg b) : EqE P t (m + 1) (fun s : σ => .agg (cells s).toArray) := fun d a b w => by
  rw [← Nat.add_assoc, run_equalIn_struct w (d + m) t _ _ ht hp, hfs]
  rw [eqFields_cons h1 d a b [g] (decide (gg a = gg b) && true) w (eqFields_cons h2 d a b [] true w (by simp [Op.eqFields]))]
  congr 1
  rw [show decide (a = b) = decide (gf a = gf b ∧ gg a = gg b) from decide_eq_decide.2 (hext a b)]
  simp
theorem EqE.struct3 {σ α β γ : Type} [DecidableEq σ] [DecidableEq α] [DecidableEq β] [DecidableEq γ] {t m : Nat} {cells : σ → List Value} {f g k : Field} {gf : σ → α} {gg : σ → β} {gk : σ → γ} {ef : α → List Value} {eg : β → List Value} {ek : γ → List Value} {vf : α → Value} {vg : β → Value} {vk : γ → Value}
    (ht : P.underlying t = some (.struct (P.fieldsOf t))) (hp : P.stoodInHeld t = false) (hfs : (P.fieldsOf t).toList = [f, g, k]) (h1 : FieldE P m cells f gf ef vf) (h2 : FieldE P m cells g gg eg vg) (h3 : FieldE P m cells k gk ek vk)
    (hext : ∀ a b : σ, a = b ↔ gf a = gf b ∧ gg a = gg b ∧ gk a = gk b) : EqE P t (m + 1) (fun s : σ => .agg (cells s).toArray) := fun d a b w => by
  rw [← Nat.add_assoc, run_equalIn_struct w (d + m) t _ _ ht hp, hfs]
  rw [eqFields_cons h1 d a b [g, k] (decide (gg a = gg b) && (decide (gk a = gk b) && true)) w (eqFields_cons h2 d a b [k] _ w (eqFields_cons h3 d a b [] true w (by simp [Op.eqFields])))]
  congr 1
  rw [show decide (a = b) = decide (gf a = gf b ∧ gg a = gg b ∧ gk a = gk b) from decide_eq_decide.2 (hext a b)]
  simp

variable {G : World} {N : Nat} {T : Env} {H : List Res} {ty : TypeId}
theorem R.aggEql {t t' : TypeId} {m : Nat} {x y : Operand} {cells : α → List Value} {a b : α} (hx : T.opd x = some (.agg (cells a).toArray)) (hy : T.opd y = some (.agg (cells b).toArray)) (h : EqE P t m (fun s : α => .agg (cells s).toArray)) (hm : m ≤ 10000) (hg : P.eqGuardType P.depth t = false) :
    OpV P G N T H (.binOp .eql t x y t') ty (.bool (decide (a = b))) := fun c w s _ _ _ _ => by
  have := h.le hm 0 a b w
  simp only [Nat.zero_add] at this
  simp [execOp, s.env.eval hx, s.env.eval hy, run_eqGuard_agg w _ t x y _ _ hg, run_eql_struct w t, this]
theorem R.aggNeq {t t' : TypeId} {m : Nat} {x y : Operand} {cells : α → List Value} {a b : α} (hx : T.opd x = some (.agg (cells a).toArray)) (hy : T.opd y = some (.agg (cells b).toArray)) (h : EqE P t m (fun s : α => .agg (cells s).toArray)) (hm : m ≤ 10000) (hg : P.eqGuardType P.depth t = false) :
    OpV P G N T H (.binOp .neq t x y t') ty (.bool (decide (a ≠ b))) := fun c w s _ _ _ _ => by
  have := h.le hm 0 a b w
  simp only [Nat.zero_add] at this
  simp [execOp, s.env.eval hx, s.env.eval hy, run_eqGuard_agg w _ t x y _ _ hg, run_neq_struct w t, this]
end Go.Sx
