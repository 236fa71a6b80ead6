/- The foundation of this claim's walks: the rules of the operations on memory. No condition. -/
import Derived.Test.YtekmmbgbhjeoaaaSxB
import Derived.Laws.Cells
import Derived.Laws.Rows
import Derived.Laws.World
set_option linter.unusedVariables false
set_option linter.unusedSimpArgs false
set_option linter.unusedSectionVars false
namespace Go.Sx
open Go
variable {P : Program} {G : World} {N : Nat} {T : Env} {H : List Res} {ty : TypeId}

/-! ## New blocks -/
theorem ok.alloc {w : World} (h : ok G H w) {r : Res} (o : Obj) (hr : r.holds (w.alloc o)) (hb : ∀ b, r.rd b → b = w.heap.size) : ok G (r :: H) (w.alloc o) :=
  h.new (N := [r]) rfl rfl (by simp) (fun b hb => heap_alloc_old w o b hb) (fun s hs => by simp at hs; subst hs; exact hr)
    (fun s hs b hsb => by simp at hs; subst hs; rw [hb b hsb]; exact Nat.le_refl _) (by simp)
theorem bx_alloc (w : World) (cs : List Value) (e : TypeId) : (bx w.heap.size cs).holds (w.alloc (.cells cs.toArray e)) := ⟨e, heap_alloc_new w _⟩

theorem newVar_run (t : TypeId) (v : Value) (w : World) : (newVar t v).run P w = .ok ⟨w.heap.size, 0, none⟩ (w.alloc (.cells v.cells t)) := by
  simp [newVar, newRow]

theorem R.box {t : TypeId} {x : Operand} {v : Value} {cs : List Value} (hx : T.opd x = some v) (hc : v.cells.toList = cs) :
    OpX P G N T H (.box t x) ty (fun b : Nat => .pointer (some ⟨b, 0, none⟩)) (fun b => bx b cs :: H) := by
  subst hc
  exact .val fun a w s _ _ _ _ => ⟨w.heap.size, w.alloc (.cells v.cells t), by simp [execOp, Instr.box, newVar_run, s.env.eval hx],
      s.mem.alloc _ (by simpa using bx_alloc w v.cells.toList t) (fun b hb => hb)⟩
theorem R.alloc {t : TypeId} {cs : List Value} (hz : ((P.info? t).bind (·.zero)).map (fun z => z.cells.toList) = some cs) :
    OpX P G N T H (.alloc t) ty (fun b : Nat => .pointer (some ⟨b, 0, none⟩)) (fun b => bx b cs :: H) :=
  .val fun a w s _ _ _ _ => by
    cases hi : P.info? t with
    | none => simp [hi] at hz
    | some i =>
      simp [hi] at hz
      obtain ⟨z, hz, hcs⟩ := hz
      refine ⟨w.heap.size, w.alloc (.cells z.cells t), by simp [execOp, Instr.alloc, zeroValue, typeInfo, hi, hz, newVar_run], s.mem.alloc _ ?_ (fun b hb => hb)⟩
      have := bx_alloc w cs t
      rw [← hcs] at this ⊢
      simpa using this

/-! ## Sub-lists at a place -/
def Sub (cs : List Value) (off : Nat) (xs : List Value) : Prop := ∃ pre post, cs = pre ++ xs ++ post ∧ pre.length = off
theorem Sub.get {cs xs : List Value} {off : Nat} (h : Sub cs off xs) (j : Nat) (hj : j < xs.length) : cs[off + j]? = some xs[j] := by
  obtain ⟨pre, post, rfl, rfl⟩ := h
  rw [List.append_assoc, List.getElem?_append_right (by omega), Nat.add_sub_cancel_left, List.getElem?_append_left hj, List.getElem?_eq_getElem hj]
theorem Sub.refl (cs : List Value) : Sub cs 0 cs := ⟨[], [], by simp, rfl⟩
theorem Sub.trans {cs xs ys : List Value} {a b : Nat} (h : Sub cs a xs) (h' : Sub xs b ys) : Sub cs (a + b) ys := by
  obtain ⟨p, q, rfl, rfl⟩ := h
  obtain ⟨p', q', rfl, rfl⟩ := h'
  exact ⟨p ++ p', q' ++ q, by simp, by simp⟩
theorem Sub.le {cs xs : List Value} {off : Nat} (h : Sub cs off xs) : off + xs.length ≤ cs.length := by
  obtain ⟨p, q, rfl, rfl⟩ := h; simp

/-! ## Reading -/
theorem cell_bx {w : World} {b : Nat} {cs : List Value} (h : (bx b cs).holds w) (j : Nat) : w.cell? ⟨b, j, none⟩ = cs[j]? := by
  obtain ⟨e, h⟩ := h
  simp [World.cell?, h]
theorem bytes_loadCells {w : World} {b off : Nat} {xs : List Value} (h : ∀ j (hj : j < xs.length), w.cell? ⟨b, off + j, none⟩ = some xs[j]) :
    (loadCells ⟨b, off, none⟩ xs.length).run P w = .ok xs.toArray w :=
  run_loadCells_list (P := P) (w := w) ⟨b, off, none⟩ xs fun j v hj => by
    obtain ⟨hl, rfl⟩ := List.getElem?_eq_some_iff.1 hj
    rw [add_addr]; exact h j hl

/-- How a type lies: as one cell, or as an aggregate of some. -/
inductive Lies (P : Program) (t : TypeId) : List Value → Value → Prop
  | one (v : Value) (h : ∀ w, (isAgg t).run P w = .ok false w) : Lies P t [v] v
  | agg (xs : List Value) (h : ∀ w, (isAgg t).run P w = .ok true w) (hs : (P.info? t).map (·.size) = some xs.length) : Lies P t xs (.agg xs.toArray)

theorem Lies.load {t : TypeId} {xs : List Value} {v : Value} (hl : Lies P t xs v) {w : World} {b off : Nat} (h : ∀ j (hj : j < xs.length), w.cell? ⟨b, off + j, none⟩ = some xs[j]) :
    (loadVar t ⟨b, off, none⟩).run P w = .ok v w := by
  cases hl with
  | one v ha =>
    have := h 0 (by simp)
    simp at this
    simp [loadVar, ha, this]
  | agg xs ha hs =>
    cases hi : P.info? t with
    | none => simp [hi] at hs
    | some i =>
      simp [hi] at hs
      simp [loadVar, ha, sizeOf, typeInfo, hi, hs, bytes_loadCells h]

/-- What memory holds at an address: reading it. -/
def At (G : World) (H : List Res) (p : Value) (xs : List Value) : Prop :=
  ∀ w, ok G H w → ∃ b off, p = .pointer (some ⟨b, off, none⟩) ∧ ∀ j (hj : j < xs.length), w.cell? ⟨b, off + j, none⟩ = some xs[j]
theorem At.up {r : Res} {p : Value} {xs : List Value} (h : At G H p xs) : At G (r :: H) p xs := fun w hw => h w hw.tail
theorem At.bx {b off : Nat} {cs xs : List Value} (i : Nat) (hi : H[i]? = some (Sx.bx b cs)) (h : Sub cs off xs) : At G H (.pointer (some ⟨b, off, none⟩)) xs := fun w hw =>
  ⟨b, off, rfl, fun j hj => by rw [cell_bx (hw.at hi)]; exact h.get j hj⟩
theorem At.lift {F : List Res} {p : Value} {xs : List Value} (k : Nat) (hk : H.drop k = F) (h : At G F p xs) : At G H p xs := fun w hw => h w (hk ▸ hw.drop k)
theorem At.rd {v : Value} {m sz k : Nat} {cs xs : List Value} (hr : Rds G H v m sz cs) (hne : xs ≠ []) (h : Sub cs k xs) : At G H (ep v k) xs := fun w hw => by
  obtain ⟨hl, ⟨rfl, rfl⟩ | ⟨b, off, cap, rfl, _, hc⟩⟩ := hr w hw
  · have := h.le
    cases xs with
    | nil => exact absurd rfl hne
    | cons x xs => simp at hl; subst hl; simp at this
  · refine ⟨b, off + k, rfl, fun j hj => ?_⟩
    have h2 := h.get j hj
    obtain ⟨h3, h4⟩ := List.getElem?_eq_some_iff.1 h2
    have := hc (k + j) h3
    rw [Nat.add_assoc, this, h4]
theorem At.sub {b off k : Nat} {xs ys : List Value} (h : At G H (.pointer (some ⟨b, off, none⟩)) xs) (hs : Sub xs k ys) : At G H (.pointer (some ⟨b, off + k, none⟩)) ys := fun w hw => by
  obtain ⟨b', off', e, hc⟩ := h w hw
  cases e
  refine ⟨b, off + k, rfl, fun j hj => ?_⟩
  have h2 := hs.get j hj
  obtain ⟨h3, h4⟩ := List.getElem?_eq_some_iff.1 h2
  have := hc (k + j) h3
  rw [Nat.add_assoc, this, h4]

theorem R.load {t : TypeId} {x : Operand} {p v : Value} {xs : List Value} (hx : T.opd x = some p) (hp : At G H p xs) (hl : Lies P t xs v) : OpV P G N T H (.load t x) ty v := fun a w s _ _ _ _ => by
  obtain ⟨b, off, rfl, hc⟩ := hp w s.mem
  simp [execOp, s.env.eval hx, Instr.loadAt, Instr.sureAddr, hl.load hc]

/-! ## Writing -/
def upd (cs : List Value) (off : Nat) (xs : List Value) : List Value := cs.take off ++ xs ++ cs.drop (off + xs.length)
theorem length_upd {cs xs : List Value} {off : Nat} (h : off + xs.length ≤ cs.length) : (upd cs off xs).length = cs.length := by
  simp [upd]; omega
theorem upd_sub {pre ys post xs : List Value} (h : xs.length = ys.length) : upd (pre ++ ys ++ post) pre.length xs = pre ++ xs ++ post := by
  simp [upd, h]
theorem upd_cons {cs : List Value} {off : Nat} {x : Value} {xs : List Value} (h : off + (xs.length + 1) ≤ cs.length) : upd (cs.set off x) (off + 1) xs = upd cs off (x :: xs) := by
  have h1 : off < cs.length := by omega
  have e1 : (cs.set off x).take (off + 1) = cs.take off ++ [x] := by
    rw [List.take_succ_eq_append_getElem (by simpa using h1)]
    simp [List.take_set_of_le]
  have e2 : (cs.set off x).drop (off + 1 + xs.length) = cs.drop (off + (xs.length + 1)) := by
    rw [List.drop_set_of_lt (by omega)]; congr 1; omega
  simp only [upd, e1, e2, List.length_cons]
  simp
theorem upd_nil (cs : List Value) (off : Nat) : upd cs off [] = cs := by simp [upd]

theorem upd_mid' {pre cs post xs : List Value} {k : Nat} (hl : k + xs.length ≤ cs.length) : upd (pre ++ cs ++ post) (pre.length + k) xs = pre ++ upd cs k xs ++ post := by
  have e1 : (pre ++ cs ++ post).take (pre.length + k) = pre ++ cs.take k := by
    rw [List.append_assoc, List.take_length_add_append, List.take_append_of_le_length (by omega)]
  have e2 : (pre ++ cs ++ post).drop (pre.length + k + xs.length) = cs.drop (k + xs.length) ++ post := by
    rw [List.append_assoc, Nat.add_assoc, List.drop_length_add_append, List.drop_append_of_le_length (by omega)]
  simp only [upd, e1, e2]
  simp

theorem upd_mid {pre cs post xs : List Value} {k : Nat} (hl : k + xs.length ≤ cs.length) : upd (pre ++ cs ++ post) (pre.length + k) xs = pre ++ upd cs k xs ++ post := upd_mid' hl
/-- What writing makes of cells. -/
def Up (cs : List Value) (off : Nat) (xs cs' : List Value) : Prop := off + xs.length ≤ cs.length ∧ upd cs off xs = cs'
theorem Up.whole {cs xs : List Value} (h : xs.length = cs.length) : Up cs 0 xs xs := ⟨by omega, by simp [upd, h]⟩
theorem Up.trans {cs ys xs ys' cs' : List Value} {a b : Nat} (h : Sub cs a ys) (h1 : Up ys b xs ys') (h2 : Up cs a ys' cs') : Up cs (a + b) xs cs' := by
  obtain ⟨p, q, rfl, rfl⟩ := h
  obtain ⟨l1, rfl⟩ := h1
  obtain ⟨l2, rfl⟩ := h2
  have hl := length_upd l1
  refine ⟨by simp; omega, ?_⟩
  rw [upd_mid' l1]
  have := upd_sub (pre := p) (ys := ys) (post := q) (xs := upd ys b xs) hl
  rw [this]

/-- Storing cells into a block. -/
theorem run_storeCells {b : Nat} {e : TypeId} : ∀ (xs : List Value) (i off : Nat) (cs : List Value) (w : World), w.heap[b]? = some (.cells cs.toArray e) → (∀ x ∈ xs, x.oneCell' = true) → off + i + xs.length ≤ cs.length →
    ∃ w', (storeCells ⟨b, off, none⟩ xs i).run P w = .ok () w' ∧ w'.heap[b]? = some (.cells (upd cs (off + i) xs).toArray e) ∧ w'.os = w.os ∧ w'.output = w.output ∧ w'.heap.size = w.heap.size ∧ ∀ k, k ≠ b → w'.heap[k]? = w.heap[k]?
  | [], i, off, cs, w, hb, _, _ => ⟨w, by simp [storeCells], by rw [upd_nil]; exact hb, rfl, rfl, rfl, fun _ _ => rfl⟩
  | x :: xs, i, off, cs, w, hb, h1, hl => by
    simp only [List.length_cons] at hl
    have hcell : w.cell? ⟨b, off + i, none⟩ = some (cs[off + i]'(by omega)) := by
      rw [cell_of_row w b (off + i) cs.toArray e (0, 0) hb]; simp
    have hfz : w.frozen? ⟨b, off + i, none⟩ = false := frozen_of_row w b (off + i) cs.toArray e hb
    have hst : (store ((⟨b, off, none⟩ : Addr).add i) x).run P w = .ok () (w.setCell ⟨b, off + i, none⟩ x) := by
      rw [run_store P w _ _ _ (h1 x List.mem_cons_self), add_addr, hcell]; simp [hfz]
    have hb' : (w.setCell ⟨b, off + i, none⟩ x).heap[b]? = some (.cells (cs.set (off + i) x).toArray e) := by
      have := heap_setCell_same w b (off + i) cs.toArray e x hb
      simpa using this
    obtain ⟨w', r1, r2, r3, r4, r5, r6⟩ := run_storeCells xs (i + 1) off (cs.set (off + i) x) _ hb' (fun y hy => h1 y (List.mem_cons_of_mem _ hy)) (by simp; omega)
    refine ⟨w', ?_, ?_, r3, r4, by rw [r5]; simp, fun k hk => by rw [r6 k hk]; exact heap_setCell_other w _ k x hk⟩
    · simp only [storeCells]
      rw [Sem.run_bind, hst]; simpa using r1
    · rw [r2, ← Nat.add_assoc, upd_cons (by omega)]

theorem cells_agg (xs : List Value) : (Value.agg xs.toArray).cells.toList = xs := by simp [Value.cells]

/-- What is stored of a value: its cells. -/
def Fits (P : Program) (t : TypeId) (v : Value) (xs : List Value) : Prop := v.cells.toList = xs ∧ (P.info? t).map (·.size) = some xs.length ∧ ∀ x ∈ xs, x.oneCell' = true
theorem Fits.run {t : TypeId} {v : Value} {xs : List Value} (h : Fits P t v xs) (ad : Addr) (w : World) : (storeVar t ad v).run P w = (storeCells ad xs).run P w := by
  obtain ⟨h1, h2, h3⟩ := h
  cases hi : P.info? t with
  | none => simp [hi] at h2
  | some i =>
    simp [hi] at h2
    have hs : v.cells.size = xs.length := by rw [← h1]; simp
    simp [storeVar, sizeOf, typeInfo, hi, h2, hs, h1]

theorem R.store_bx {t i : Nat} {x y : Operand} {v : Value} {b off : Nat} {cs xs : List Value} (hi : H[i]? = some (bx b cs)) (hx : T.opd x = some (.pointer (some ⟨b, off, none⟩))) (hy : T.opd y = some v)
    (hf : Fits P t v xs) {cs' : List Value} (hu : Up cs off xs cs') : OpX P G N T H (.store t x y) ty (fun _ : Unit => undef) (fun _ => H.set i (bx b cs')) :=
  .skip fun a w s _ _ _ _ => by
    obtain ⟨hl, rfl⟩ := hu
    obtain ⟨e, hb⟩ := s.mem.at hi
    obtain ⟨w', r1, r2, r3, r4, r5, r6⟩ := run_storeCells (P := P) xs 0 off cs w hb hf.2.2 (by simpa using hl)
    refine ⟨w', ?_, ?_⟩
    · simp [execOp, s.env.eval hx, s.env.eval hy, Instr.storeAt, Instr.sureAddr, hf.run, r1]
    · exact s.mem.set hi r3 r4 (by omega) (fun k _ hk => r6 k hk) ⟨e, by simpa using r2⟩ (fun k hk => .inl hk)

theorem R.store_sl {t i : Nat} {x y : Operand} {v u : Value} {n sz k : Nat} {cs xs : List Value} (hi : H[i]? = some (sl u n sz cs)) (hx : T.opd x = some (ep u k)) (hy : T.opd y = some v)
    (hf : Fits P t v xs) (hne : xs ≠ []) {cs' : List Value} (hu : Up cs k xs cs') : OpX P G N T H (.store t x y) ty (fun _ : Unit => undef) (fun _ => H.set i (sl u n sz cs')) :=
  .skip fun a w s _ _ _ _ => by
    obtain ⟨hl, rfl⟩ := hu
    have hx0 : 0 < xs.length := by cases xs with | nil => exact absurd rfl hne | cons _ _ => simp
    obtain ⟨hlen, ⟨rfl, rfl⟩ | ⟨b, cap, pre, post, e, rfl, hb, h1, h2, h3⟩⟩ := s.mem.at hi
    · have : cs.length = 0 := by simpa using hlen
      omega
    · obtain ⟨w', r1, r2, r3, r4, r5, r6⟩ := run_storeCells (P := P) xs 0 (pre.length + k) (pre ++ cs ++ post) w hb hf.2.2 (by simp; omega)
      refine ⟨w', ?_, ?_⟩
      · simp only [ep] at hx
        simp [execOp, s.env.eval hx, s.env.eval hy, Instr.storeAt, Instr.sureAddr, hf.run, r1]
      · refine s.mem.set hi r3 r4 (by omega) (fun k' _ hk => r6 k' (fun e => hk (by subst e; rfl))) ?_ (fun k' hk => .inl hk)
        refine ⟨by rw [length_upd hl]; exact hlen, .inr ⟨b, cap, pre, post, e, rfl, ?_, h1, by rw [length_upd hl]; exact h2, h3⟩⟩
        rw [← upd_mid hl]; simpa using r2
end Go.Sx
