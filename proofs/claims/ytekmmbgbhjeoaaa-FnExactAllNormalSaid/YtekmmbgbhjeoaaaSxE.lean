/- The foundation of this claim's walks: the rules of slices, structs, strings and calls. No condition. -/
import Derived.Test.YtekmmbgbhjeoaaaSxD
set_option linter.unusedVariables false
set_option linter.unusedSimpArgs false
set_option linter.unusedSectionVars false
namespace Go.Sx
open Go
variable {P : Program} {G : World} {N : Nat} {T : Env} {H : List Res} {ty : TypeId}

theorem R.append {x y : Operand} {t t2 e : TypeId} {v u : Value} {n m sz by_ : Nat} {cs ds z : List Value} (hx : T.opd x = some v) (hy : T.opd y = some u)
    (ht : P.underlying t = some (.slice e)) (h2 : ∃ e', P.underlying t2 = some (.slice e')) (hE : Elem P e sz by_ z) {j : Nat} (hj : H[j]? = some (sl v n sz cs)) (hr : Rds G H u m sz ds) (h1 : ∀ x ∈ ds, x.oneCell' = true) (hb : n + m ≤ 4294967296) :
    OpX P G N T H (.call ⟨.builtin .append, #[x, y], #[t, t2]⟩) ty (fun v' : Value => v') (fun v' => H.set j (sl v' (n + m) sz (cs ++ ds))) :=
  .val fun a w s _ _ _ _ => by
    obtain ⟨v', w', r1, r2⟩ := append_run (ty := ty) ht h2 hE hj s.mem (hr w s.mem) h1 hb
    refine ⟨v', w', ?_, r2⟩
    simp [execOp, resolve, invoke, builtin, s.env.eval hx, s.env.eval hy, r1]

/-! ## Filling -/
theorem zipIdx_fold (xs : List Value) : ∀ (off k : Nat) (cs : Array Value), off + k + xs.length ≤ cs.size →
    (xs.zipIdx k).foldl (fun cs (p : Value × Nat) => cs.setIfInBounds (off + p.2) p.1) cs = (upd cs.toList (off + k) xs).toArray := by
  induction xs with
  | nil => intro off k cs _; simp [upd]
  | cons x xs ih =>
    intro off k cs h
    simp only [List.length_cons] at h
    have := ih off (k + 1) (cs.setIfInBounds (off + k) x) (by simp; omega)
    simp only [List.zipIdx_cons, List.foldl_cons]
    rw [this]
    have e := upd_cons (cs := cs.toList) (off := off + k) (x := x) (xs := xs) (by simpa using (by omega : off + k + (xs.length + 1) ≤ cs.size))
    rw [← e]
    simp [Nat.add_assoc]

/-- Parts laid one after the other. -/
def lay (cs : List Value) : List (Nat × List Value) → List Value
  | [] => cs
  | (off, xs) :: r => lay (upd cs off xs) r
theorem fill_lay (place : Nat → Option (Nat × Nat)) : ∀ (parts : List (Nat × Value)) (segs : List (Nat × List Value)) (cs : List Value),
    parts.length = segs.length → (∀ i (h : i < parts.length) (h' : i < segs.length), place parts[i].1 = some (segs[i].1, segs[i].2.length) ∧ parts[i].2.cells.toList = segs[i].2 ∧ segs[i].1 + segs[i].2.length ≤ cs.length) →
    Instr.fill place cs.toArray parts = some (lay cs segs).toArray
  | [], [], cs, _, _ => by simp [Instr.fill, lay]
  | (k, v) :: parts, (off, xs) :: segs, cs, hl, h => by
    have h0 := h 0 (by simp) (by simp)
    simp only [List.getElem_cons_zero] at h0
    obtain ⟨h1, h2, h3⟩ := h0
    have hs : v.cells.size = xs.length := by rw [← h2]; simp
    have e : v.cells = xs.toArray := by apply Array.toList_inj.1; simpa using h2
    have hz := zipIdx_fold xs off 0 cs.toArray (by simpa using h3)
    have hlen : (upd cs off xs).length = cs.length := length_upd h3
    simp only [Instr.fill, h1, hs, ne_eq, not_true, decide_false, Bool.false_or]
    rw [if_neg (by simp; omega)]
    have hz' : (v.cells.zipIdx.foldl (fun cs (p : Value × Nat) => cs.setIfInBounds (off + p.2) p.1) cs.toArray) = (upd cs off xs).toArray := by
      rw [e, ← Array.foldl_toList, Array.toList_zipIdx]; simpa using hz
    rw [hz']
    exact fill_lay place parts segs (upd cs off xs) (by simpa using hl) fun i hi hi' => by
      have := h (i + 1) (by simp; omega) (by simp; omega)
      simp only [List.getElem_cons_succ] at this
      exact ⟨this.1, this.2.1, by rw [hlen]; exact this.2.2⟩
  | [], _ :: _, _, hl, _ => by simp at hl
  | _ :: _, [], _, hl, _ => by simp at hl

def Segs (place : Nat → Option (Nat × Nat)) (n : Nat) : List (Nat × Value) → List (Nat × List Value) → Prop
  | [], [] => True
  | (k, v) :: p, (o, xs) :: s => place k = some (o, xs.length) ∧ v.cells.toList = xs ∧ o + xs.length ≤ n ∧ Segs place n p s
  | _, _ => False
theorem Segs.fill {place : Nat → Option (Nat × Nat)} : ∀ {parts : List (Nat × Value)} {segs : List (Nat × List Value)} {cs : List Value}, Segs place cs.length parts segs →
    Instr.fill place cs.toArray parts = some (lay cs segs).toArray := by
  intro parts segs cs h
  have key : ∀ (p : List (Nat × Value)) (s : List (Nat × List Value)), Segs place cs.length p s → p.length = s.length ∧
      ∀ i (h : i < p.length) (h' : i < s.length), place p[i].1 = some (s[i].1, s[i].2.length) ∧ p[i].2.cells.toList = s[i].2 ∧ s[i].1 + s[i].2.length ≤ cs.length := by
    intro p
    induction p with
    | nil => intro s hs; cases s with
      | nil => exact ⟨rfl, fun i h => by simp at h⟩
      | cons _ _ => exact hs.elim
    | cons q p ih => intro s hs; cases s with
      | nil => exact hs.elim
      | cons r s =>
        obtain ⟨k, v⟩ := q
        obtain ⟨o, xs⟩ := r
        obtain ⟨h1, h2, h3, h4⟩ := hs
        obtain ⟨i1, i2⟩ := ih s h4
        refine ⟨by simp [i1], fun i hi hi' => ?_⟩
        cases i with
        | zero => exact ⟨h1, h2, h3⟩
        | succ i => exact i2 i (by simpa using hi) (by simpa using hi')
  exact fill_lay place parts segs cs (key parts segs h).1 (key parts segs h).2

def BuildAt (P : Program) (t : TypeId) (zs : List Value) (place : Nat → Option (Nat × Nat)) : Prop :=
  ∀ (parts : Array (Nat × Value)) cells w, Instr.fill place zs.toArray parts.toList = some cells → (Instr.build t parts).run P w = .ok (.agg cells) w
theorem BuildAt.struct {t : TypeId} {zs : List Value} {fields : Array Field} {places : Array (Nat × Nat)} {z : Value} (ht : P.underlying t = some (.struct fields)) (hz : (P.info? t).bind (·.zero) = some z) (hzs : z.cells = zs.toArray)
    (hp : ∀ w, (fields.mapM (m := Sem) fun f => do pure (f.offset, ← sizeOf f.type)).run P w = .ok places w) : BuildAt P t zs (places[·]?) := fun parts cells w h => by
  cases hi : P.info? t with
  | none => simp [hi] at hz
  | some i =>
    simp [hi] at hz
    have hp' := hp w
    simp only [Instr.build, zeroValue, typeInfo, underlying, Sem.run_bind, run_program, Result.andThen_ok, hi, hz, Sem.run_pure, ht]
    rw [hp']
    simp [hzs, h]
theorem BuildAt.array {t e : TypeId} {zs : List Value} {n sz : Nat} {z : Value} (ht : P.underlying t = some (.array n e)) (he : (P.info? e).map (·.size) = some sz) (hz : (P.info? t).bind (·.zero) = some z) (hzs : z.cells = zs.toArray) :
    BuildAt P t zs (fun i => some (i * sz, sz)) := fun parts cells w h => by
  cases hi : P.info? t with
  | none => simp [hi] at hz
  | some i =>
    simp [hi] at hz
    cases hj : P.info? e with
    | none => simp [hj] at he
    | some j =>
      simp [hj] at he
      simp [Instr.build, zeroValue, typeInfo, underlying, hi, hz, ht, sizeOf, hj, he, hzs, h]

theorem parts_map (parts : Array (Nat × Operand)) (ρ : Operand → Value) : ∀ {vs : List Value}, (parts.toList.map (·.2)).map ρ = vs → (parts.map fun p => (p.1, ρ p.2)).toList = (parts.toList.map (·.1)).zip vs := by
  intro vs h
  subst h
  rw [Array.toList_map]
  induction parts.toList with
  | nil => rfl
  | cons p r ih => simp [ih]

theorem R.build {t : TypeId} {parts : Array (Nat × Operand)} {vs zs : List Value} {segs : List (Nat × List Value)} {place : Nat → Option (Nat × Nat)} {xs : List Value} (hv : T.opds (parts.toList.map (·.2)) = some vs) (hb : BuildAt P t zs place)
    (hs : Segs place zs.length ((parts.toList.map (·.1)).zip vs) segs) (hxs : lay zs segs = xs) : OpV P G N T H (.build t parts) ty (.agg xs.toArray) := fun a w s _ _ _ _ => by
  have e := parts_map parts a.eval (s.env.evals hv)
  have hf := hs.fill
  have := hb (parts.map fun p => (p.1, a.eval p.2)) (lay zs segs).toArray w (by rw [e]; exact hf)
  simp only [execOp, Sem.run_bind, this, Result.andThen_ok, Sem.run_pure, hxs]

/-- Segments one behind the other. -/
def Cons : Nat → List (Nat × List Value) → Prop
  | _, [] => True
  | k, (o, xs) :: r => o = k ∧ Cons (k + xs.length) r
theorem lay_run : ∀ (segs : List (Nat × List Value)) (done rest : List Value), Cons done.length segs → (segs.flatMap (·.2)).length ≤ rest.length →
    lay (done ++ rest) segs = done ++ segs.flatMap (·.2) ++ rest.drop (segs.flatMap (·.2)).length
  | [], done, rest, _, _ => by simp [lay]
  | (o, xs) :: r, done, rest, ⟨h1, h2⟩, hl => by
    subst h1
    simp only [List.flatMap_cons, List.length_append] at hl
    have e : upd (done ++ rest) done.length xs = (done ++ xs) ++ rest.drop xs.length := by
      have := upd_sub (pre := done) (ys := rest.take xs.length) (post := rest.drop xs.length) (xs := xs) (by simp; omega)
      simpa using this
    simp only [lay, e]
    rw [lay_run r (done ++ xs) (rest.drop xs.length) (by simpa using h2) (by rw [List.length_drop]; omega)]
    simp [List.drop_drop]
theorem lay_all {segs : List (Nat × List Value)} {zs : List Value} (h : Cons 0 segs) (hl : zs.length = (segs.flatMap (·.2)).length) : lay zs segs = segs.flatMap (·.2) := by
  have := lay_run segs [] zs h (by omega)
  simp only [List.nil_append] at this
  rw [this, ← hl]; simp

/-- A literal of a slice: its elements one after the other. -/
theorem cons_seq (sz : Nat) : ∀ (vs : List Value) (k : Nat), (∀ v ∈ vs, v.cells.size = sz) → Cons (k * sz) ((vs.zipIdx k).map fun p => (p.2 * sz, p.1.cells.toList))
  | [], _, _ => trivial
  | v :: vs, k, h => by
    refine ⟨rfl, ?_⟩
    have := cons_seq sz vs (k + 1) (fun u hu => h u (List.mem_cons_of_mem _ hu))
    rw [Array.length_toList, h v List.mem_cons_self, ← Nat.succ_mul]
    exact this
theorem segs_seq (sz n : Nat) : ∀ (vs : List Value) (k : Nat), (∀ v ∈ vs, v.cells.size = sz) → (k + vs.length) * sz ≤ n → Segs (fun i => some (i * sz, sz)) n ((vs.zipIdx k).map fun p => (p.2, p.1)) ((vs.zipIdx k).map fun p => (p.2 * sz, p.1.cells.toList))
  | [], _, _, _ => trivial
  | v :: vs, k, h, hn => by
    have hv := h v List.mem_cons_self
    simp only [List.length_cons] at hn
    have h3 : (k + 1 + vs.length) * sz ≤ n := by rw [show k + 1 + vs.length = k + (vs.length + 1) by omega]; exact hn
    have h4 : (k + 1) * sz ≤ (k + 1 + vs.length) * sz := Nat.mul_le_mul_right sz (by omega)
    refine ⟨by simp [hv], rfl, ?_, segs_seq sz n vs (k + 1) (fun u hu => h u (List.mem_cons_of_mem _ hu)) h3⟩
    simp [hv]; rw [Nat.succ_mul] at h4; omega
theorem flat_seq : ∀ (vs : List Value) (k : Nat) (sz : Nat), ((vs.zipIdx k).map fun p => (p.2 * sz, p.1.cells.toList)).flatMap (·.2) = vs.flatMap (·.cells.toList)
  | [], _, _ => rfl
  | v :: vs, k, sz => by simp [flat_seq vs (k + 1) sz]
theorem flat_len (sz : Nat) : ∀ (vs : List Value), (∀ v ∈ vs, v.cells.size = sz) → (vs.flatMap (·.cells.toList)).length = vs.length * sz
  | [], _ => by simp
  | v :: vs, h => by simp [h v List.mem_cons_self, flat_len sz vs (fun u hu => h u (List.mem_cons_of_mem _ hu)), Nat.succ_mul, Nat.add_comm]

theorem sl_alloc (w : World) {cs : List Value} {n sz : Nat} (e : TypeId) (hl : cs.length = n * sz) (hn : n ≤ 9223372036854775807) : (sl (.slice (some ⟨w.heap.size, 0, none⟩) n n) n sz cs).holds (w.alloc (.cells cs.toArray e)) :=
  ⟨hl, .inr ⟨w.heap.size, n, [], [], e, rfl, by rw [heap_alloc_new]; simp, Nat.le_refl _, by simp [hl], hn⟩⟩

theorem made_size (zero : Array Value) (n : Nat) : ((Array.range n).map (zero[· % zero.size]!)).size = n := by simp
theorem R.buildSlice {t e : TypeId} {n sz by_ : Nat} {z : List Value} {parts : Array (Nat × Operand)} {vs : List Value} (ht : P.underlying t = some (.slice e)) (hE : Elem P e sz by_ z) (hv : T.opds (parts.toList.map (·.2)) = some vs)
    (hi : (parts.toList.map (·.1)).zip vs = (vs.zipIdx 0).map fun p => (p.2, p.1)) (hlen : vs.length = n)
    (hs : ∀ v ∈ vs, v.cells.size = sz) (hn : n * sz ≤ 16777216) (hn2 : n ≤ 9223372036854775807) : OpX P G N T H (.buildSlice t n parts) ty (fun v : Value => v) (fun v => sl v n sz (vs.flatMap (·.cells.toList)) :: H) :=
  .val fun a w s _ _ _ _ => by
    obtain ⟨⟨i, hi1, his, _, zv, hz, hzc⟩, hzs, _⟩ := hE
    have e1 := parts_map parts a.eval (s.env.evals hv)
    rw [hi] at e1
    have hfl := flat_len sz vs hs
    have hfill : ∀ zero : Array Value, Instr.fill (fun i => some (i * sz, sz)) ((Array.range (n * sz)).map (zero[· % zero.size]!)) (parts.map fun p => (p.1, a.eval p.2)).toList = some (vs.flatMap (·.cells.toList)).toArray := fun zero => by
      let zs := ((Array.range (n * sz)).map (zero[· % zero.size]!)).toList
      have hzl : zs.length = n * sz := by simp [zs]
      have h1 := (segs_seq sz zs.length vs 0 hs (by rw [hzl, ← hlen]; simp)).fill (cs := zs)
      have h2 := lay_all (zs := zs) (by simpa using cons_seq sz vs 0 hs) (by rw [flat_seq, hfl, hzl, hlen])
      rw [h2, flat_seq] at h1
      have e3 : zs.toArray = (Array.range (n * sz)).map (zero[· % zero.size]!) := by simp only [zs, Array.toArray_toList]
      rw [e1, ← e3]
      exact h1
    refine ⟨.slice (some ⟨w.heap.size, 0, none⟩) n n, w.alloc (.cells (vs.flatMap (·.cells.toList)).toArray e), ?_, s.mem.alloc _ (sl_alloc w e (by rw [hfl, hlen]) hn2) (fun b hb => hb.symm)⟩
    have hbig : ¬ (n * sz > 2 ^ 24) := by simpa using hn
    simp only [execOp, Instr.buildSlice, underlying, sizeOf, typeInfo, Sem.run_bind, run_program, Result.andThen_ok, ht, Sem.run_pure, hi1, his, if_neg hbig, zeroValue]
    by_cases h0 : n * sz = 0
    · have := hfill #[]
      simp only [if_pos h0, pure_bind]
      rw [this]
      simp [newRow]
    · simp only [if_neg h0, bind_assoc, Sem.run_bind, run_program, Result.andThen_ok, hi1, Sem.run_pure, hz]
      have := hfill zv.cells
      rw [this]
      simp [newRow]
end Go.Sx
