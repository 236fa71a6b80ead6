/- The foundation of this claim's walks: the rules of the operations that only compute. No condition. -/
import Derived.Test.YtekmmbgbhjeoaaaSxA
set_option linter.unusedVariables false
set_option linter.unusedSimpArgs false
set_option linter.unusedSectionVars false
namespace Go.Sx
open Go
variable {P : Program} {G : World} {N : Nat} {T : Env} {H : List Res} {ty : TypeId}

theorem R.move {x : Operand} {v : Value} (hx : T.opd x = some v) : OpV P G N T H (.move x) ty v := fun a w s _ _ _ _ => by simp [execOp, s.env.eval hx]
theorem R.assign {x : Operand} {v : Value} (hx : T.opd x = some v) : OpV P G N T H (.assign x) ty v := fun a w s _ _ _ _ => by simp [execOp, s.env.eval hx]
theorem R.pick {c x y : Operand} {b : Bool} {u : Value} (hc : T.opd c = some (.bool b)) (hx : b = true → T.opd x = some u) (hy : b = false → T.opd y = some u) :
    OpV P G N T H (.pick c x y) ty u := fun a w s _ _ _ _ => by
  cases b
  · simp [execOp, s.env.eval hc, s.env.eval (hy rfl), asBool]
  · simp [execOp, s.env.eval hc, s.env.eval (hx rfl), asBool]
theorem R.pick_t {c x y : Operand} {b : Bool} {u : Value} (hc : T.opd c = some (.bool b)) (hb : b = true) (hx : T.opd x = some u) : OpV P G N T H (.pick c x y) ty u := R.pick hc (fun _ => hx) (fun e => by rw [hb] at e; cases e)
theorem R.pick_f {c x y : Operand} {b : Bool} {u : Value} (hc : T.opd c = some (.bool b)) (hb : b = false) (hy : T.opd y = some u) : OpV P G N T H (.pick c x y) ty u := R.pick hc (fun e => by rw [hb] at e; cases e) (fun _ => hy)

section ints
variable {t t' : TypeId} {x y : Operand} {k k' : IntKind} {m n : Int}
theorem eqGuard_int (op : BinOp) (t : TypeId) (x y : Operand) (k k' : IntKind) (m n : Int) (w : World) : (eqGuard op t x y (.int k m) (.int k' n)).run P w = .ok () w := by
  cases op <;> simp [eqGuard]
/-- An integer operation whose run is told. -/
theorem R.int {op : BinOp} {v : Value} (hx : T.opd x = some (.int k m)) (hy : T.opd y = some (.int k' n)) (run : ∀ w, (binOp op t (.int k m) (.int k' n)).run P w = .ok v w) :
    OpV P G N T H (.binOp op t x y t') ty v := fun a w s _ _ _ _ => by simp [execOp, s.env.eval hx, s.env.eval hy, eqGuard_int, run]
theorem R.add (hx : T.opd x = some (.int k m)) (hy : T.opd y = some (.int k n)) : OpV P G N T H (.binOp .add t x y t') ty (.int k (k.wrap (m + n))) := R.int hx hy (fun w => by simp [binOp, Op.intArith])
theorem R.sub (hx : T.opd x = some (.int k m)) (hy : T.opd y = some (.int k n)) : OpV P G N T H (.binOp .sub t x y t') ty (.int k (k.wrap (m - n))) := R.int hx hy (fun w => by simp [binOp, Op.intArith])
theorem R.mul (hx : T.opd x = some (.int k m)) (hy : T.opd y = some (.int k n)) : OpV P G N T H (.binOp .mul t x y t') ty (.int k (k.wrap (m * n))) := R.int hx hy (fun w => by simp [binOp, Op.intArith])
theorem R.quo (hx : T.opd x = some (.int k m)) (hy : T.opd y = some (.int k n)) (h0 : n ≠ 0) : OpV P G N T H (.binOp .quo t x y t') ty (.int k (k.wrap (m.tdiv n))) := R.int hx hy (fun w => by simp [binOp, Op.intDiv, h0])
theorem R.rem (hx : T.opd x = some (.int k m)) (hy : T.opd y = some (.int k n)) (h0 : n ≠ 0) : OpV P G N T H (.binOp .rem t x y t') ty (.int k (m.tmod n)) := R.int hx hy (fun w => by simp [binOp, Op.intDiv, h0])
def iand (k : IntKind) (m n : Int) : Int := k.wrap ((BitVec.ofInt k.bits m &&& BitVec.ofInt k.bits n).toNat : Int)
def ior (k : IntKind) (m n : Int) : Int := k.wrap ((BitVec.ofInt k.bits m ||| BitVec.ofInt k.bits n).toNat : Int)
def ixor (k : IntKind) (m n : Int) : Int := k.wrap ((BitVec.ofInt k.bits m ^^^ BitVec.ofInt k.bits n).toNat : Int)
def iandNot (k : IntKind) (m n : Int) : Int := k.wrap ((BitVec.ofInt k.bits m &&& ~~~ BitVec.ofInt k.bits n).toNat : Int)
theorem R.and (hx : T.opd x = some (.int k m)) (hy : T.opd y = some (.int k n)) : OpV P G N T H (.binOp .and t x y t') ty (.int k (iand k m n)) := R.int hx hy (fun w => by simp [binOp, Op.intBits, iand])
theorem R.or (hx : T.opd x = some (.int k m)) (hy : T.opd y = some (.int k n)) : OpV P G N T H (.binOp .or t x y t') ty (.int k (ior k m n)) := R.int hx hy (fun w => by simp [binOp, Op.intBits, ior])
theorem R.xor (hx : T.opd x = some (.int k m)) (hy : T.opd y = some (.int k n)) : OpV P G N T H (.binOp .xor t x y t') ty (.int k (ixor k m n)) := R.int hx hy (fun w => by simp [binOp, Op.intBits, ixor])
theorem R.andNot (hx : T.opd x = some (.int k m)) (hy : T.opd y = some (.int k n)) : OpV P G N T H (.binOp .andNot t x y t') ty (.int k (iandNot k m n)) := R.int hx hy (fun w => by simp [binOp, Op.intBits, iandNot])
theorem R.eql (hx : T.opd x = some (.int k m)) (hy : T.opd y = some (.int k n)) : OpV P G N T H (.binOp .eql t x y t') ty (.bool (decide (m = n))) := R.int hx hy (fun w => by simp [binOp, Op.intCmp]; rfl)
theorem R.neq (hx : T.opd x = some (.int k m)) (hy : T.opd y = some (.int k n)) : OpV P G N T H (.binOp .neq t x y t') ty (.bool (decide (m ≠ n))) := R.int hx hy (fun w => by simp [binOp, Op.intCmp, bne]; rfl)
theorem R.lss (hx : T.opd x = some (.int k m)) (hy : T.opd y = some (.int k n)) : OpV P G N T H (.binOp .lss t x y t') ty (.bool (decide (m < n))) := R.int hx hy (fun w => by simp [binOp, Op.intCmp])
theorem R.leq (hx : T.opd x = some (.int k m)) (hy : T.opd y = some (.int k n)) : OpV P G N T H (.binOp .leq t x y t') ty (.bool (decide (m ≤ n))) := R.int hx hy (fun w => by simp [binOp, Op.intCmp])
theorem R.gtr (hx : T.opd x = some (.int k m)) (hy : T.opd y = some (.int k n)) : OpV P G N T H (.binOp .gtr t x y t') ty (.bool (decide (n < m))) := R.int hx hy (fun w => by simp [binOp, Op.intCmp])
theorem R.geq (hx : T.opd x = some (.int k m)) (hy : T.opd y = some (.int k n)) : OpV P G N T H (.binOp .geq t x y t') ty (.bool (decide (n ≤ m))) := R.int hx hy (fun w => by simp [binOp, Op.intCmp])
def ishl (k : IntKind) (m n : Int) : Int := k.wrap (m * 2 ^ (min n.toNat k.bits))
def ishr (k : IntKind) (m n : Int) : Int := m.fdiv (2 ^ (min n.toNat k.bits))
theorem R.shl (hx : T.opd x = some (.int k m)) (hy : T.opd y = some (.int k' n)) (h0 : 0 ≤ n) : OpV P G N T H (.binOp .shl t x y t') ty (.int k (ishl k m n)) :=
  R.int hx hy fun w => by
    have h0' : ¬ n < 0 := by omega
    simp [binOp, Op.shift, h0', ishl]
theorem R.shr (hx : T.opd x = some (.int k m)) (hy : T.opd y = some (.int k' n)) (h0 : 0 ≤ n) : OpV P G N T H (.binOp .shr t x y t') ty (.int k (ishr k m n)) :=
  R.int hx hy fun w => by
    have h0' : ¬ n < 0 := by omega
    simp [binOp, Op.shift, h0', ishr]
theorem R.neg (hx : T.opd x = some (.int k m)) : OpV P G N T H (.unOp .neg t x) ty (.int k (k.wrap (0 - m))) := fun a w s _ _ _ _ => by simp [execOp, s.env.eval hx, Op.unary, Op.intArith]
theorem R.conv (hx : T.opd x = some (.int k m)) (hd : P.underlying t' = some (.int k')) (hs : (P.underlying t).isSome = true) : OpV P G N T H (.convert t t' x) ty (.int k' (k'.wrap m)) := fun a w s _ _ _ _ => by
  obtain ⟨u, hu⟩ := Option.isSome_iff_exists.1 hs
  simp [execOp, s.env.eval hx, convert, underlying, hd, hu, Conv.intToInt]
end ints

theorem R.not {t : TypeId} {x : Operand} {b : Bool} (hx : T.opd x = some (.bool b)) : OpV P G N T H (.unOp .not t x) ty (.bool (!b)) := fun a w s _ _ _ _ => by simp [execOp, s.env.eval hx, Op.unary]
theorem R.extract {x : Operand} {k : Nat} {vs : Array Value} {v : Value} (hx : T.opd x = some (.tuple vs)) (hv : vs[k]? = some v) : OpV P G N T H (.extract x k) ty v := fun a w s _ _ _ _ => by
  simp [execOp, s.env.eval hx, Instr.extract, hv]
theorem R.makeFunc {fn : Fn} {first captured : Array Operand} {fs cs : List Value} (hf : T.opds first.toList = some fs) (hc : T.opds captured.toList = some cs) :
    OpV P G N T H (.makeFunc fn first captured) ty (.func fn fs.toArray cs.toArray) := fun a w s _ _ _ _ => by
  have e1 : first.map a.eval = fs.toArray := by apply Array.toList_inj.1; simpa using s.env.evals hf
  have e2 : captured.map a.eval = cs.toArray := by apply Array.toList_inj.1; simpa using s.env.evals hc
  simp [execOp, Instr.makeFunc, e1, e2]
theorem R.nilCheck {x : Operand} {ad : Addr} (hx : T.opd x = some (.pointer (some ad))) : OpV P G N T H (.nilCheck x) ty (.pointer (some ad)) := fun a w s _ _ _ _ => by simp [execOp, s.env.eval hx]
theorem R.nilCheck_f {x : Operand} {g : FuncId} {fs cs : Array Value} (hx : T.opd x = some (.func (.func g) fs cs)) : OpV P G N T H (.nilCheck x) ty (.func (.func g) fs cs) := fun a w s _ _ _ _ => by
  simp [execOp, s.env.eval hx]

/-! addresses -/
theorem add_addr (b off n : Nat) : (⟨b, off, none⟩ : Addr).add n = ⟨b, off + n, none⟩ := by
  unfold Addr.add; split <;> simp_all
theorem R.fieldAddr {t : TypeId} {x : Operand} {f : Nat} {b off fo : Nat} (hx : T.opd x = some (.pointer (some ⟨b, off, none⟩)))
    (run : ∀ b off w, (Instr.fieldAt t (.pointer (some ⟨b, off, none⟩)) f).run P w = .ok (.pointer (some ((⟨b, off, none⟩ : Addr).add fo))) w) :
    OpV P G N T H (.fieldAddr t x f) ty (.pointer (some ⟨b, off + fo, none⟩)) := fun a w s _ _ _ _ => by simp [execOp, s.env.eval hx, run, add_addr]
theorem R.indexArr {t e : TypeId} {x ix : Operand} {len sz : Nat} {k : IntKind} {n : Int} {b off : Nat} (hx : T.opd x = some (.pointer (some ⟨b, off, none⟩))) (hix : T.opd ix = some (.int k n))
    (ht : P.underlying t = some (.array len e)) (he : (P.info? e).map (·.size) = some sz) (h0 : 0 ≤ n) (h1 : n < len) :
    OpV P G N T H (.indexAddr t x ix) ty (.pointer (some ⟨b, off + n.toNat * sz, none⟩)) := fun a w s _ _ _ _ => by
  cases hi : P.info? e with
  | none => simp [hi] at he
  | some i =>
    simp [hi] at he
    simp [execOp, s.env.eval hx, s.env.eval hix, Instr.indexAt, asIntOf, underlying, ht, Instr.sureAddr, sizeOf, typeInfo, hi, he, h0, h1, add_addr]
/-- where the elements of a slice lie -/
def ep : Value → Nat → Value
  | .slice (some a) _ _, k => .pointer (some ⟨a.block, a.off + k, none⟩)
  | _, _ => .pointer none
theorem R.indexSl {t e : TypeId} {x ix : Operand} {sz m : Nat} {k : IntKind} {n : Int} {v : Value} {cs : List Value} (hx : T.opd x = some v) (hix : T.opd ix = some (.int k n))
    (ht : P.underlying t = some (.slice e)) (he : (P.info? e).map (·.size) = some sz) (hr : Rds G H v m sz cs) (h0 : 0 ≤ n) (h1 : n < m) :
    OpV P G N T H (.indexAddr t x ix) ty (ep v (n.toNat * sz)) := fun a w s _ _ _ _ => by
  cases hi : P.info? e with
  | none => simp [hi] at he
  | some i =>
    simp [hi] at he
    obtain ⟨_, ⟨rfl, rfl⟩ | ⟨b, off, cap, rfl, _⟩⟩ := hr w s.mem
    · omega
    · simp [execOp, s.env.eval hx, s.env.eval hix, Instr.indexAt, asIntOf, underlying, ht, sizeOf, typeInfo, hi, he, h0, h1, add_addr, ep]
/-- an address behind the address of a slice's element -/
def isAddr (G : World) (H : List Res) (p : Value) : Prop := ∀ w, ok G H w → ∃ b off, p = .pointer (some ⟨b, off, none⟩)
theorem R.indexEp {t e : TypeId} {x ix : Operand} {len sz i : Nat} {k : IntKind} {n : Int} {v : Value} (hx : T.opd x = some (ep v i)) (hix : T.opd ix = some (.int k n)) (hv : isAddr G H (ep v 0))
    (ht : P.underlying t = some (.array len e)) (he : (P.info? e).map (·.size) = some sz) (h0 : 0 ≤ n) (h1 : n < len) :
    OpV P G N T H (.indexAddr t x ix) ty (ep v (i + n.toNat * sz)) := fun a w s dst pos af g => by
  obtain ⟨b, off, e1⟩ := hv w s.mem
  cases v with
  | slice ad n' c =>
    cases ad with
    | none => simp [ep] at e1
    | some ad =>
      have := R.indexArr (P := P) (G := G) (N := N) (T := T) (H := H) (ty := ty) (b := ad.block) (off := ad.off + i) (by simpa [ep] using hx) hix ht he h0 h1 a w s dst pos af g
      simpa [ep, Nat.add_assoc] using this
  | _ => simp [ep] at e1
theorem R.fieldEp {t : TypeId} {x : Operand} {f i fo : Nat} {v : Value} (hx : T.opd x = some (ep v i)) (hv : isAddr G H (ep v 0))
    (run : ∀ b off w, (Instr.fieldAt t (.pointer (some ⟨b, off, none⟩)) f).run P w = .ok (.pointer (some ((⟨b, off, none⟩ : Addr).add fo))) w) :
    OpV P G N T H (.fieldAddr t x f) ty (ep v (i + fo)) := fun a w s dst pos af g => by
  obtain ⟨b, off, e1⟩ := hv w s.mem
  cases v with
  | slice ad n' c =>
    cases ad with
    | none => simp [ep] at e1
    | some ad =>
      have := R.fieldAddr (P := P) (G := G) (N := N) (T := T) (H := H) (ty := ty) (b := ad.block) (off := ad.off + i) (by simpa [ep] using hx) run a w s dst pos af g
      simpa [ep, Nat.add_assoc] using this
  | _ => simp [ep] at e1
theorem Rds.addr {v : Value} {n sz : Nat} {cs : List Value} (h : Rds G H v n sz cs) (hn : 0 < n) : isAddr G H (ep v 0) := fun w hw => by
  obtain ⟨_, ⟨_, rfl⟩ | ⟨b, off, cap, rfl, _⟩⟩ := h w hw
  · omega
  · exact ⟨b, off + 0, rfl⟩

theorem R.lenSl {x : Operand} {t e : TypeId} {v : Value} {m sz : Nat} {cs : List Value} (hx : T.opd x = some v) (ht : P.underlying t = some (.slice e)) (hr : Rds G H v m sz cs) :
    OpV P G N T H (.call ⟨.builtin .len, #[x], #[t]⟩) ty (.int .i64 m) := fun a w s _ _ _ _ => by
  obtain ⟨_, ⟨rfl, rfl⟩ | ⟨b, off, cap, rfl, _⟩⟩ := hr w s.mem
  · simp [execOp, resolve, invoke, builtin, Builtin.len_, underlying, ht, s.env.eval hx, goInt]
  · simp [execOp, resolve, invoke, builtin, Builtin.len_, underlying, ht, s.env.eval hx, goInt]
theorem R.lenStr {x : Operand} {t : TypeId} {v : ByteArray} (hx : T.opd x = some (.string v)) (ht : P.underlying t = some .string) :
    OpV P G N T H (.call ⟨.builtin .len, #[x], #[t]⟩) ty (.int .i64 v.size) := fun a w s _ _ _ _ => by
  simp [execOp, resolve, invoke, builtin, Builtin.len_, underlying, ht, s.env.eval hx, goInt]
theorem R.lenArr {x : Operand} {t e : TypeId} {n : Nat} {v : Value} (hx : T.opd x = some v) (ht : P.underlying t = some (.array n e)) :
    OpV P G N T H (.call ⟨.builtin .len, #[x], #[t]⟩) ty (.int .i64 n) := fun a w s _ _ _ _ => by
  simp [execOp, resolve, invoke, builtin, Builtin.len_, underlying, ht, s.env.eval hx, goInt]
theorem R.min2 {x y : Operand} {ts : Array TypeId} {k : IntKind} {m n : Int} (hx : T.opd x = some (.int k m)) (hy : T.opd y = some (.int k n)) :
    OpV P G N T H (.call ⟨.builtin .min, #[x, y], ts⟩) ty (.int k (if n < m then n else m)) := fun a w s _ _ _ _ => by
  simp [execOp, resolve, invoke, builtin, Builtin.min_, Builtin.min2, s.env.eval hx, s.env.eval hy]
theorem R.max2 {x y : Operand} {ts : Array TypeId} {k : IntKind} {m n : Int} (hx : T.opd x = some (.int k m)) (hy : T.opd y = some (.int k n)) :
    OpV P G N T H (.call ⟨.builtin .max, #[x, y], ts⟩) ty (.int k (if m < n then n else m)) := fun a w s _ _ _ _ => by
  simp [execOp, resolve, invoke, builtin, Builtin.max_, Builtin.max2, s.env.eval hx, s.env.eval hy]
end Go.Sx
