/- The foundation of this claim's walks: make, slicing, strings, comparisons, calls. No condition. -/
import Derived.Test.YtekmmbgbhjeoaaaSxE
import Derived.Laws.Strings
set_option linter.unusedVariables false
set_option linter.unusedSimpArgs false
set_option linter.unusedSectionVars false
namespace Go.Sx
open Go
variable {P : Program} {G : World} {N : Nat} {T : Env} {H : List Res} {ty : TypeId}

theorem made_list (z : Array Value) : ∀ n, ((Array.range (n * z.size)).map (z[· % z.size]!)).toList = (List.replicate n z.toList).flatten
  | 0 => by simp
  | n + 1 => by
    have ih := made_list z n
    simp only [Array.toList_map, Array.toList_range] at ih ⊢
    rw [Nat.succ_mul, List.range_add, List.map_append, ih, List.replicate_succ', List.flatten_append]
    congr 1
    simp only [List.flatten_cons, List.flatten_nil, List.append_nil, List.map_map]
    apply List.ext_getElem
    · simp
    · intro i h1 h2
      simp only [List.length_map, List.length_range] at h1
      simp [Nat.add_mod, Nat.mod_eq_of_lt h1, h1]
theorem R.makeSlice {t e : TypeId} {x : Operand} {sz by_ : Nat} {z : List Value} {n : Int} (ht : P.underlying t = some (.slice e)) (hE : Elem P e sz by_ z) (hx : T.opd x = some (.int .i64 n)) (h0 : 0 ≤ n) (h1 : n ≤ 4294967296) :
    OpX P G N T H (.makeSlice t x x) ty (fun v : Value => v) (fun v => sl v n.toNat sz (List.replicate n.toNat z).flatten :: H) :=
  .val fun a w s _ _ _ _ => by
    obtain ⟨⟨i, hi1, his, hib, zv, hz, hzc⟩, hzs, hby⟩ := hE
    have hwrap : IntKind.i64.wrap n = n := by
      simp only [IntKind.wrap, IntKind.signed, IntKind.bits]
      simp
      omega
    have hbig : ¬ ((by_ : Int) * n > 2 ^ 48) := by
      have h3 : (by_ : Int) * n ≤ 4096 * n := Int.mul_le_mul_of_nonneg_right (by omega) h0
      omega
    have hneg : ¬ n < 0 := by omega
    have hzsz : zv.cells.size = sz := by rw [← hzs, ← hzc]; simp
    have hcells : ∀ zero : Array Value, (n.toNat * sz = 0 ∨ zero = zv.cells) → ((Array.range (n.toNat * sz)).map (zero[· % zero.size]!)).toList = (List.replicate n.toNat z).flatten := fun zero hzero => by
      by_cases h : n.toNat * sz = 0
      · rw [h]
        rcases Nat.mul_eq_zero.1 h with h | h
        · rw [h]; simp
        · have : z = [] := by rw [h] at hzs; simpa using hzs
          subst this
          simp
      · rcases hzero with hzero | rfl
        · exact absurd hzero h
        · have := made_list zv.cells n.toNat
          rw [hzsz, hzc] at this
          rw [← this, hzsz]
    have hlen : (List.replicate n.toNat z).flatten.length = n.toNat * sz := by simp [hzs]
    refine ⟨.slice (some ⟨w.heap.size, 0, none⟩) n.toNat n.toNat, w.alloc (.cells (List.replicate n.toNat z).flatten.toArray e), ?_, s.mem.alloc _ (sl_alloc w e hlen (by omega)) (fun b hb => hb.symm)⟩
    simp only [execOp, Instr.makeSlice, underlying, Sem.run_bind, run_program, Result.andThen_ok, ht, Sem.run_pure, s.env.eval hx, asInt, asIntOf, typeInfo, hi1, hib, hwrap, his]
    have hc : (decide (n < 0) || decide ((by_ : Int) * n > 2 ^ 48)) = false := by simp [hneg]; omega
    simp only [hc, Bool.false_or, Bool.or_false, decide_eq_true_eq]
    have hd : (decide (n < 0) || decide (n > n)) = false := by simp; omega
    have ea : ∀ zero : Array Value, (n.toNat * sz = 0 ∨ zero = zv.cells) → (Array.range (n.toNat * sz)).map (zero[· % zero.size]!) = (List.replicate n.toNat z).flatten.toArray := fun zero hz' => by
      apply Array.toList_inj.1; rw [hcells zero hz']
    simp only [hd, Bool.false_eq_true, if_false, Sem.run_bind, run_askRoom, Result.andThen_ok, sizeOf, typeInfo, run_program, hi1, Sem.run_pure, his]
    by_cases hz0 : n.toNat * sz = 0
    · simp only [if_pos hz0, pure_bind]
      rw [ea _ (.inl hz0)]
      simp [newRow]
    · simp only [if_neg hz0, zeroValue, bind_assoc, Sem.run_bind, typeInfo, run_program, Result.andThen_ok, hi1, Sem.run_pure, hz, pure_bind]
      rw [ea _ (.inr rfl)]
      simp [newRow]

/-! ## Cutting -/
theorem Rd.cut {w : World} {v : Value} {n sz : Nat} {cs : List Value} (h : Rd w v n sz cs) (l k : Nat) (hlk : l ≤ k) (hk : k ≤ n) (t e : TypeId) (hs : (P.info? e).map (·.size) = some sz) (ht : P.underlying t = some (.slice e)) (lo hi : Option Value)
    (hlo : lo = none ∧ l = 0 ∨ ∃ kk, lo = some (.int kk l)) (hhi : hi = none ∧ k = n ∨ ∃ kk, hi = some (.int kk k)) :
    ∃ v', (Instr.sliceAt t v lo hi none).run P w = .ok v' w ∧ Rd w v' (k - l) sz ((cs.drop (l * sz)).take ((k - l) * sz)) := by
  obtain ⟨hl, h⟩ := h
  cases hi' : P.info? e with
  | none => simp [hi'] at hs
  | some i =>
    simp [hi'] at hs
    have hkl : ((cs.drop (l * sz)).take ((k - l) * sz)).length = (k - l) * sz := by
      simp [hl]
      have : (k - l) * sz ≤ (n - l) * sz := Nat.mul_le_mul_right sz (by omega)
      rw [← Nat.sub_mul]; omega
    rcases h with ⟨rfl, rfl⟩ | ⟨b, off, cap, rfl, hc, hcell⟩
    · have hk0 : k = 0 := by omega
      have hl0 : l = 0 := by omega
      subst hk0; subst hl0
      refine ⟨.slice none 0 0, ?_, hkl, .inl ⟨rfl, rfl⟩⟩
      rcases hlo with ⟨rfl, _⟩ | ⟨k1, rfl⟩ <;> rcases hhi with ⟨rfl, _⟩ | ⟨k2, rfl⟩ <;>
        simp [Instr.sliceAt, Instr.slice, underlying, ht, Instr.sliceBounds, Instr.sliceBound, asIntOf, sizeOf, typeInfo, hi', hs]
    · have hbounds : (Instr.sliceBounds true n cap lo hi none).run P w = .ok (l, k, cap) w := by
        have h1 : (k : Int) ≤ cap := by omega
        have h2 : (l : Int) ≤ k := by omega
        have h3 : ¬ cap < k := by omega
        have h4 : ¬ k < l := by omega
        have h5 : k ≤ cap := by omega
        rcases hlo with ⟨rfl, rfl⟩ | ⟨k1, rfl⟩ <;> rcases hhi with ⟨rfl, rfl⟩ | ⟨k2, rfl⟩ <;>
          simp [Instr.sliceBounds, Instr.sliceBound, asIntOf, h3, h4, h5, hlk]
      let off' := if cap = l then off else off + l * sz
      refine ⟨.slice (some ⟨b, off', none⟩) (k - l) (cap - l), ?_, hkl, ?_⟩
      · simp only [Instr.sliceAt, underlying, Sem.run_bind, run_program, Result.andThen_ok, ht, Sem.run_pure, Instr.slice, hbounds, sizeOf, typeInfo, hi', hs]
        simp only [off', Option.map_some, add_addr]
        split <;> rfl
      · rcases Nat.eq_zero_or_pos (k - l) with h0 | hpos
        · refine .inr ⟨b, off', cap - l, rfl, by omega, fun i hi => ?_⟩
          rw [hkl, h0] at hi; simp at hi
        · refine .inr ⟨b, off', cap - l, rfl, by omega, fun i hi => ?_⟩
          have hne : cap ≠ l := by omega
          simp only [off', if_neg hne]
          rw [hkl] at hi
          have hi2 : l * sz + i < cs.length := by
            rw [hl]
            have : (l + (k - l)) * sz ≤ n * sz := Nat.mul_le_mul_right sz (by omega)
            rw [Nat.add_mul] at this; omega
          have := hcell (l * sz + i) hi2
          rw [Nat.add_assoc, this]
          simp

/-- Cutting a slice that is read on as well. The value that comes is told apart by what it reads. -/
theorem R.cut {t e : TypeId} {x : Operand} {lo hi : Option Operand} {v : Value} {n sz l k : Nat} {cs : List Value} (hx : T.opd x = some v) (ht : P.underlying t = some (.slice e)) (hs : (P.info? e).map (·.size) = some sz)
    (hr : Rds G H v n sz cs) (hlk : l ≤ k) (hk : k ≤ n) (hlo : lo = none ∧ l = 0 ∨ ∃ x kk, lo = some x ∧ T.opd x = some (.int kk l)) (hhi : hi = none ∧ k = n ∨ ∃ x kk, hi = some x ∧ T.opd x = some (.int kk k)) :
    ∀ a w, Sat G H N T a w → ∀ dst pos af g, ∃ v', (execOp a.eval ⟨dst, .slice t x lo hi none, ty, pos, af, g⟩).run P w = .ok (.value v') w ∧ Rd w v' (k - l) sz ((cs.drop (l * sz)).take ((k - l) * sz)) := fun a w s _ _ _ _ => by
  have hlo' : lo.map a.eval = none ∧ l = 0 ∨ ∃ kk, lo.map a.eval = some (.int kk l) := by
    rcases hlo with ⟨rfl, h⟩ | ⟨y, kk, rfl, h⟩
    · exact .inl ⟨rfl, h⟩
    · exact .inr ⟨kk, by simp [s.env.eval h]⟩
  have hhi' : hi.map a.eval = none ∧ k = n ∨ ∃ kk, hi.map a.eval = some (.int kk k) := by
    rcases hhi with ⟨rfl, h⟩ | ⟨y, kk, rfl, h⟩
    · exact .inl ⟨rfl, h⟩
    · exact .inr ⟨kk, by simp [s.env.eval h]⟩
  obtain ⟨v', h1, h2⟩ := (hr w s.mem).cut l k hlk hk t e hs ht _ _ hlo' hhi'
  exact ⟨v', by simp [execOp, s.env.eval hx, h1], h2⟩

/-! ## Strings -/
theorem R.strOp {op : BinOp} {t t' : TypeId} {x y : Operand} {u v : ByteArray} {r : Value} (hx : T.opd x = some (.string u)) (hy : T.opd y = some (.string v)) (run : ∀ w, (Op.stringOp op u v).run P w = .ok r w) :
    OpV P G N T H (.binOp op t x y t') ty r := fun a w s _ _ _ _ => by
  have e : (eqGuard op t x y (.string u) (.string v)).run P w = .ok () w := by cases op <;> simp [eqGuard]
  have e2 : (binOp op t (.string u) (.string v)).run P w = (Op.stringOp op u v).run P w := by cases op <;> rfl
  simp [execOp, s.env.eval hx, s.env.eval hy, e, e2, run]
theorem R.strAdd {t t' : TypeId} {x y : Operand} {u v : ByteArray} (hx : T.opd x = some (.string u)) (hy : T.opd y = some (.string v)) (hl : u.size + v.size ≤ 4294967296) :
    OpV P G N T H (.binOp .add t x y t') ty (.string (u ++ v)) := R.strOp hx hy fun w => by
  have : ¬ (((u.size + v.size : Nat) : Int) > IntKind.i64.max) := by
    have : IntKind.i64.max = 9223372036854775807 := by rfl
    rw [this]; omega
  simp only [Op.stringOp, if_neg this, Sem.run_pure]
theorem bytes_beq (u v : ByteArray) : (u.toList == v.toList) = decide (u = v) := by
  rw [Bool.eq_iff_iff]
  simp only [beq_iff_eq, decide_eq_true_eq]
  constructor
  · intro h
    apply ByteArray.ext
    rw [ByteArray.toList_eq, ByteArray.toList_eq] at h
    exact Array.toList_inj.1 h
  · rintro rfl; rfl
theorem R.strEql {t t' : TypeId} {x y : Operand} {u v : ByteArray} (hx : T.opd x = some (.string u)) (hy : T.opd y = some (.string v)) :
    OpV P G N T H (.binOp .eql t x y t') ty (.bool (decide (u = v))) := R.strOp hx hy fun w => by simp [Op.stringOp, bytes_beq]
theorem R.strNeq {t t' : TypeId} {x y : Operand} {u v : ByteArray} (hx : T.opd x = some (.string u)) (hy : T.opd y = some (.string v)) :
    OpV P G N T H (.binOp .neq t x y t') ty (.bool (decide (u ≠ v))) := R.strOp hx hy fun w => by simp [Op.stringOp, bytes_beq]
/-- the byte at a place -/
def bt (s : ByteArray) (i : Int) : Int := ((s.data.getD i.toNat 0).toNat : Int)
theorem R.strIndex {t : TypeId} {x ix : Operand} {k : IntKind} {n : Int} {u : ByteArray} (hx : T.opd x = some (.string u)) (hix : T.opd ix = some (.int k n)) (ht : P.underlying t = some .string) (h0 : 0 ≤ n) (h1 : n < u.size) :
    OpV P G N T H (.index t x ix) ty (.int .u8 (bt u n)) := fun a w s _ _ _ _ => by
  have h2 : n.toNat < u.size := by omega
  have h3 : u[n.toNat]? = some u[n.toNat] := by simp [h2]
  have h4 : (u[n.toNat]).toNat = (u.data.getD n.toNat 0).toNat := by
    have h5 : n.toNat < u.data.size := h2
    show _ = (u.data.getD n.toNat 0).toNat
    rw [Array.getD, dif_pos h5]; rfl
  simp [execOp, s.env.eval hx, s.env.eval hix, Instr.index, asIntOf, underlying, ht, h0, h3, bt, h4]
theorem R.strCut {t : TypeId} {x : Operand} {lo hi : Option Operand} {u : ByteArray} {l k : Nat} (hx : T.opd x = some (.string u)) (ht : P.underlying t = some .string)
    (hlk : l ≤ k) (hk : k ≤ u.size) (hlo : lo = none ∧ l = 0 ∨ ∃ x kk, lo = some x ∧ T.opd x = some (.int kk l)) (hhi : hi = none ∧ k = u.size ∨ ∃ x kk, hi = some x ∧ T.opd x = some (.int kk k)) :
    OpV P G N T H (.slice t x lo hi none) ty (.string (u.extract l k)) := fun a w s _ _ _ _ => by
  have h3 : ¬ u.size < k := by omega
  have h4 : ¬ k < l := by omega
  have hb : (Instr.sliceBounds false u.size u.size (lo.map a.eval) (hi.map a.eval) none).run P w = .ok (l, k, u.size) w := by
    rcases hlo with ⟨rfl, rfl⟩ | ⟨y, k1, rfl, h⟩ <;> rcases hhi with ⟨rfl, rfl⟩ | ⟨y2, k2, rfl, h'⟩ <;>
      simp [Instr.sliceBounds, Instr.sliceBound, asIntOf, s.env.eval, *]
  simp [execOp, s.env.eval hx, Instr.sliceAt, Instr.slice, underlying, ht, hb]

/-! ## Fields and elements of a value -/
theorem R.field {t ft : TypeId} {x : Operand} {f fo : Nat} {fields : Array Field} {fd : Field} {cs xs : List Value} {v : Value} (hx : T.opd x = some (.agg cs.toArray)) (ht : P.underlying t = some (.struct fields)) (hf : fields[f]? = some fd) (hft : fd.type = ft) (hfo : fd.offset = fo)
    (hs : Sub cs fo xs) (hl : Lies P ft xs v) : OpV P G N T H (.field t x f) ty v := fun a w s _ _ _ _ => by
  subst hft; subst hfo
  have hpart : (part fd.type cs.toArray fd.offset).run P w = .ok v w := by
    cases hl with
    | one v ha =>
      have := hs.get 0 (by simp)
      simp at this
      simp [part, ha, this]
    | agg xs ha hsz =>
      cases hi : P.info? fd.type with
      | none => simp [hi] at hsz
      | some i =>
        simp [hi] at hsz
        obtain ⟨p, q, rfl, hp⟩ := hs
        simp [part, ha, sizeOf, typeInfo, hi, hsz, ← hp]
  simp [execOp, s.env.eval hx, Instr.field, underlying, ht, hf, asAgg, hpart]

/-! ## Calls -/
def Tr (P : Program) (G : World) (f : FuncId) (args : List Value) (H : List Res) (R : Value → List Res → Prop) : Prop :=
  ∀ w, ok G H w → Calls P f args.toArray w fun e w' => ∃ v, e = .returned v ∧ ∃ H', R v H' ∧ ok G H' w'
theorem Tr.mono {f : FuncId} {args : List Value} {R R' : Value → List Res → Prop} (h : Tr P G f args H R) (hr : ∀ v H', R v H' → R' v H') : Tr P G f args H R' :=
  fun w hw => (h w hw).mono fun _ _ ⟨v, e, H', r, k⟩ => ⟨v, e, H', hr v H' r, k⟩
theorem Tr.weak {f : FuncId} {args : List Value} {R : Value → List Res → Prop} {H' : List Res} (h : Tr P G f args H' R) (hp : ∀ w, ok G H w → ok G H' w) : Tr P G f args H R := fun w hw => h w (hp w hw)
/-- The function has a Go body. -/
def Enters (P : Program) (g : FuncId) : Prop := ∀ args w, (callFunc g args).run P w = .ok (.enter g args) w

theorem R.callAny {f : Operand} {xs : Array Operand} {ats : Array TypeId} {g : FuncId} {fs cs vs : List Value} {X : Type} {v : X → Value} {H' : X → List Res} (hf : T.opd f = some (.func (.func g) fs.toArray cs.toArray)) (hv : T.opds xs.toList = some vs) (he : Enters P g)
    (h : Tr P G g (fs ++ vs ++ cs) H fun u K => ∃ x, u = v x ∧ K = H' x) : OpX P G N T H (.call ⟨.value f, xs, ats⟩) ty v H' := by
  intro a w s dst pos af gd K Q hK
  have e1 : xs.map a.eval = vs.toArray := by apply Array.toList_inj.1; simpa using s.env.evals hv
  have hrun : (execOp a.eval ⟨dst, .call ⟨.value f, xs, ats⟩, ty, pos, af, gd⟩).run P w = .ok (.enter g (fs ++ vs ++ cs).toArray) w := by
    have := he (fs.toArray ++ vs.toArray ++ cs.toArray) w
    simp [execOp, resolve, s.env.eval hf, Deferred.ofValue, invoke, e1] at this ⊢
    simpa using this
  rw [Oper.wp, hrun, Oper.upon_enter]
  refine (h w s.mem).mono ?_
  rintro e w' ⟨u, rfl, H2, ⟨x, rfl, rfl⟩, hk⟩
  exact hK x w' hk
theorem R.call {xs : Array Operand} {ats : Array TypeId} {g : FuncId} {vs : List Value} {X : Type} {v : X → Value} {H' : X → List Res} (hv : T.opds xs.toList = some vs) (he : Enters P g)
    (h : Tr P G g vs H fun u K => ∃ x, u = v x ∧ K = H' x) : OpX P G N T H (.call ⟨.value (.func g), xs, ats⟩) ty v H' :=
  R.callAny (fs := []) (cs := []) (f := .func g) rfl hv he (by simpa using h)

/-! ## Bodies -/
def Env.args : List Value → Nat → Env
  | [], _ => []
  | v :: r, k => (k, v) :: Env.args r (k + 1)
theorem Env.args_get : ∀ (vs : List Value) (k t : Nat) (v : Value), (Env.args vs k).get t = some v → k ≤ t ∧ vs[t - k]? = some v
  | [], _, _, _, h => by simp [Env.args, Env.get] at h
  | u :: vs, k, t, v, h => by
    simp only [Env.args, Env.get] at h
    split at h
    · rename_i hk; have := Nat.eq_of_beq_eq_true hk; subst this; cases h; exact ⟨Nat.le_refl _, by simp⟩
    · obtain ⟨h1, h2⟩ := Env.args_get vs (k + 1) t v h
      exact ⟨by omega, by rw [show t - k = (t - (k + 1)) + 1 by omega]; simpa using h2⟩
theorem Env.args_ok {n : Nat} (rest : Array Value) (vs : List Value) (hn : n ≤ vs.length + rest.size) : Env.ok n (Env.args vs 0) { tmps := vs.toArray ++ rest, defers := [] } :=
  ⟨rfl, by simpa using hn, fun t v h => by
    obtain ⟨_, h2⟩ := Env.args_get vs 0 t v h
    simp only [Nat.sub_zero] at h2
    obtain ⟨h3, _⟩ := List.getElem?_eq_some_iff.1 h2
    simp only [List.getElem?_eq_getElem h3] at h2
    simp [Array.getElem?_append, h3]; simpa using h2⟩

theorem Tr.body {f : FuncId} {fn : Func} {c : Code} {args : List Value} {R : Value → List Res → Prop} {n : Nat} (hf : P.funcs[f]? = some fn) (hb : fn.body = some c) (hn : fn.ntmps = n)
    (h : W P G n c (Env.args args 0) H (bodyPost P fn fun e w' => ∃ v, e = .returned v ∧ ∃ H', R v H' ∧ ok G H' w')) : Tr P G f args H R := fun w hw => by
  refine calls_of_wp hf hb (h _ w ⟨?_, hw⟩)
  exact Env.args_ok (n := n) (Array.replicate (fn.ntmps - args.toArray.size) undef) args (by simp; omega)

/-! what a function leaves with -/
inductive RV (P : Program) (G : World) (T : Env) (H : List Res) : ResultVar → Value → Prop
  | tmp {t : Nat} {v : Value} (h : T.get t = some v) : RV P G T H (.tmp t) v
  | cell {t ty : Nat} {p v : Value} {xs : List Value} (h : T.get t = some p) (hp : At G H p xs) (hl : Lies P ty xs v) : RV P G T H (.cell t ty) v
theorem RV.tmp_fact {N : Nat} {t : Nat} {v : Value} (h : RV P G T H (.tmp t) v) {a : Act} {w : World} (s : Sat G H N T a w) : a.tmps[t]?.getD undef = v := by
  cases h with
  | tmp h => have := s.env.tmps _ _ h; simp [this]
theorem RV.cell_fact {N : Nat} {t ty : Nat} {v : Value} (h : RV P G T H (.cell t ty) v) {a : Act} {w : World} (s : Sat G H N T a w) :
    ∃ ad, a.tmps[t]?.getD undef = .pointer (some ad) ∧ (loadVar ty ad).run P w = .ok v w := by
  cases h with
  | cell h hp hl =>
    have := s.env.tmps _ _ h
    obtain ⟨b, off, rfl, hc⟩ := hp w s.mem
    exact ⟨_, by simp [this], hl.load hc⟩
theorem Go.ret0 {fn : Func} {R : Ending → World → Prop} {e : Exit} (he : e = .normal ∨ e = .ret) (hr : fn.results = #[]) (h : ∀ w, ok G H w → R (.returned (.tuple #[])) w) : Go G N e T H (bodyPost P fn R) := fun a w s => by
  have : a.defers = [] ∧ ∃ v, (results fn a.tmps).run P w = .ok v w ∧ R (.returned v) w := ⟨s.env.defers, .tuple #[], by simp [results, hr], h w s.mem⟩
  rcases he with rfl | rfl <;> exact this
theorem Go.ret1 {fn : Func} {R : Ending → World → Prop} {r : ResultVar} {v : Value} (hr : fn.results = #[r]) (hv : RV P G T H r v) (h : ∀ w, ok G H w → R (.returned v) w) : Go G N .ret T H (bodyPost P fn R) := fun a w s => by
  refine ⟨s.env.defers, v, ?_, h w s.mem⟩
  cases r with
  | tmp t => have e1 := hv.tmp_fact s; simp [results, hr, e1]
  | cell t ty => obtain ⟨ad, e1, e2⟩ := hv.cell_fact s; simp [results, hr, e1, e2, asAddr]
theorem Go.ret2 {fn : Func} {R : Ending → World → Prop} {r1 r2 : ResultVar} {v1 v2 : Value} (hr : fn.results = #[r1, r2]) (h1 : RV P G T H r1 v1) (h2 : RV P G T H r2 v2) (h : ∀ w, ok G H w → R (.returned (.tuple #[v1, v2])) w) : Go G N .ret T H (bodyPost P fn R) := fun a w s => by
  refine ⟨s.env.defers, .tuple #[v1, v2], ?_, h w s.mem⟩
  cases r1 with
  | tmp t =>
    have e1 := h1.tmp_fact s
    cases r2 with
    | tmp t => have f1 := h2.tmp_fact s; simp [results, hr, e1, f1]
    | cell t ty => obtain ⟨ad, f1, f2⟩ := h2.cell_fact s; simp [results, hr, e1, f1, f2, asAddr]
  | cell t ty =>
    obtain ⟨ad, e1, e2⟩ := h1.cell_fact s
    cases r2 with
    | tmp t => have f1 := h2.tmp_fact s; simp [results, hr, e1, e2, f1, asAddr]
    | cell t ty => obtain ⟨ad, f1, f2⟩ := h2.cell_fact s; simp [results, hr, e1, e2, f1, f2, asAddr]
theorem Go.ret3 {fn : Func} {R : Ending → World → Prop} {r1 r2 r3 : ResultVar} {v1 v2 v3 : Value} (hr : fn.results = #[r1, r2, r3]) (h1 : RV P G T H r1 v1) (h2 : RV P G T H r2 v2) (h3 : RV P G T H r3 v3) (h : ∀ w, ok G H w → R (.returned (.tuple #[v1, v2, v3])) w) : Go G N .ret T H (bodyPost P fn R) := fun a w s => by
  refine ⟨s.env.defers, .tuple #[v1, v2, v3], ?_, h w s.mem⟩
  cases r1 with
  | tmp t =>
    have e1 := h1.tmp_fact s
    cases r2 with
    | tmp t =>
      have f1 := h2.tmp_fact s
      cases r3 with
      | tmp t => have g1 := h3.tmp_fact s; simp [results, hr, e1, f1, g1]
      | cell t ty => obtain ⟨ad, g1, g2⟩ := h3.cell_fact s; simp [results, hr, e1, f1, g1, g2, asAddr]
    | cell t ty =>
      obtain ⟨ad, f1, f2⟩ := h2.cell_fact s
      cases r3 with
      | tmp t => have g1 := h3.tmp_fact s; simp [results, hr, e1, f1, f2, g1, asAddr]
      | cell t ty => obtain ⟨ad, g1, g2⟩ := h3.cell_fact s; simp [results, hr, e1, f1, f2, g1, g2, asAddr]
  | cell t ty =>
    obtain ⟨ad, e1, e2⟩ := h1.cell_fact s
    cases r2 with
    | tmp t =>
      have f1 := h2.tmp_fact s
      cases r3 with
      | tmp t => have g1 := h3.tmp_fact s; simp [results, hr, e1, e2, f1, g1, asAddr]
      | cell t ty => obtain ⟨ad, g1, g2⟩ := h3.cell_fact s; simp [results, hr, e1, e2, f1, g1, g2, asAddr]
    | cell t ty =>
      obtain ⟨ad, f1, f2⟩ := h2.cell_fact s
      cases r3 with
      | tmp t => have g1 := h3.tmp_fact s; simp [results, hr, e1, e2, f1, f2, g1, asAddr]
      | cell t ty => obtain ⟨ad, g1, g2⟩ := h3.cell_fact s; simp [results, hr, e1, e2, f1, f2, g1, g2, asAddr]
end Go.Sx
