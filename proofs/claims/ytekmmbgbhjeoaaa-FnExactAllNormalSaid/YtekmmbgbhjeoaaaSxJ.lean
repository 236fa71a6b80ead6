/- The foundation of this claim's walks: slices of plain data. No condition. -/
import Derived.Test.YtekmmbgbhjeoaaaSxI
set_option linter.unusedVariables false
set_option linter.unusedSimpArgs false
set_option linter.unusedSectionVars false
namespace Go.Sx
open Go
variable {P : Program} {G : World} {N : Nat} {T : Env} {H : List Res} {ty : TypeId}
variable {α : Type} [Inhabited α]

def slT (e : Enc α) (v : Value) (xs : List α) : Res := sl v xs.length e.size (xs.flatMap e.cells)
def RdT (e : Enc α) (G : World) (H : List Res) (v : Value) (xs : List α) : Prop := Rds G H v xs.length e.size (xs.flatMap e.cells)
theorem RdT.at {e : Enc α} {v : Value} {xs : List α} (i : Nat) (h : H[i]? = some (slT e v xs)) : RdT e G H v xs := Rds.at i h
theorem RdT.lift {e : Enc α} {F : List Res} {v : Value} {xs : List α} (k : Nat) (hk : H.drop k = F) (h : RdT e G F v xs) : RdT e G H v xs := Rds.lift k hk h
theorem RdT.of {e : Enc α} {F : List Res} {v : Value} {xs : List α} (hF : ∀ w, ok G H w → ok G F w) (h : RdT e G F v xs) : RdT e G H v xs := fun w hw => h w (hF w hw)
theorem RdT.nil {e : Enc α} : RdT e G H (.slice none 0 0) [] := fun _ _ => ⟨by simp, .inl ⟨rfl, rfl⟩⟩
/-- memory that is nobody's: a nil slice owns nothing -/
theorem ok.addNil {w : World} (e : Enc α) (h : ok G H w) : ok G (slT e (.slice none 0 0) [] :: H) w :=
  ⟨h.os, h.output, h.size, h.base, fun r hr b hb => (List.mem_cons.1 hr).elim (fun e => by subst e; exact hb.elim) (fun hr => h.low r hr b hb),
    fun r hr => (List.mem_cons.1 hr).elim (fun e => by subst e; exact ⟨by simp, .inl ⟨rfl, rfl⟩⟩) (fun hr => h.holds r hr),
    List.pairwise_cons.2 ⟨fun _ _ => ⟨fun _ hb => hb.elim, fun _ _ hb => hb.elim⟩, h.sep⟩⟩
theorem WL.addNil {ops : Array Oper} {l : List Oper} {Q : Post} (e : Enc α) (h : WL P G N ops l T (slT e (.slice none 0 0) [] :: H) Q) : WL P G N ops l T H Q := fun a w s => h a w ⟨s.env, s.mem.addNil e⟩

def ElT (P : Program) (t : TypeId) (e : Enc α) (z : α) : Prop := ∃ el by_, P.underlying t = some (.slice el) ∧ Elem P el e.size by_ (e.cells z)
theorem ElT.of {t el by_ : Nat} {e : Enc α} {z : α} (h1 : P.underlying t = some (.slice el)) (h2 : (P.info? el).map (fun i => (i.size, i.bytes, i.zero.map fun v => v.cells.toList)) = some (e.size, by_, some (e.cells z))) (hb : by_ ≤ 4096) : ElT P t e z :=
  ⟨el, by_, h1, Elem.of h2 (e.len z) hb⟩

theorem R.lenT {x : Operand} {t : TypeId} {v : Value} {e : Enc α} {z : α} {xs : List α} (hx : T.opd x = some v) (ht : ElT P t e z) (hr : RdT e G H v xs) :
    OpV P G N T H (.call ⟨.builtin .len, #[x], #[t]⟩) ty (.int .i64 xs.length) := by obtain ⟨el, b, h1, _⟩ := ht; exact R.lenSl hx h1 hr
theorem R.idxT {t : TypeId} {x ix : Operand} {k : IntKind} {n : Int} {v : Value} {e : Enc α} {z : α} {xs : List α} (hx : T.opd x = some v) (hix : T.opd ix = some (.int k n)) (ht : ElT P t e z) (hr : RdT e G H v xs) (hb : 0 ≤ n ∧ n < xs.length) :
    OpV P G N T H (.indexAddr t x ix) ty (ep v (n.toNat * e.size)) := by
  obtain ⟨el, b, h1, ⟨i, hi, hs, _⟩, _, _⟩ := ht
  exact R.indexSl hx hix h1 (by rw [hi]; simp [hs]) hr hb.1 hb.2
theorem At.elT {e : Enc α} {v : Value} {xs : List α} {n : Int} (hr : RdT e G H v xs) (hp : 0 < e.size) (hb : 0 ≤ n ∧ n < xs.length) : At G H (ep v (n.toNat * e.size)) (e.cells (gl xs n)) :=
  At.rd hr (fun h => by have := e.len (gl xs n); rw [h] at this; simp at this; omega) (sub_list e hb.1 hb.2)
theorem At.elT_sub {e : Enc α} {v : Value} {xs : List α} {n : Int} {k : Nat} {ys : List Value} (hr : RdT e G H v xs) (hb : 0 ≤ n ∧ n < xs.length) (hne : ys ≠ []) (hs : Sub (e.cells (gl xs n)) k ys) : At G H (ep v (n.toNat * e.size + k)) ys :=
  At.rd hr hne ((sub_list e hb.1 hb.2).trans hs)
theorem RdT.addr {e : Enc α} {v : Value} {xs : List α} {n : Int} (hr : RdT e G H v xs) (hb : 0 ≤ n ∧ n < xs.length) : isAddr G H (ep v 0) := Rds.addr hr (by omega)
theorem R.storeT {t i : Nat} {x y : Operand} {u v : Value} {e : Enc α} {xs : List α} {n : Int} (a' : α) (hi : H[i]? = some (slT e u xs)) (hx : T.opd x = some (ep u (n.toNat * e.size))) (hy : T.opd y = some v) (hf : Fits P t v (e.cells a')) (hp : 0 < e.size) (hb : 0 ≤ n ∧ n < xs.length) :
    OpX P G N T H (.store t x y) ty (fun _ : Unit => undef) (fun _ => H.set i (slT e u (sls xs n a'))) := by
  have hne : e.cells a' ≠ [] := fun h => by have := e.len a'; rw [h] at this; simp at this; omega
  have := R.store_sl (P := P) (G := G) (N := N) (T := T) (H := H) (ty := ty) (t := t) (i := i) (x := x) (y := y) (v := v) (u := u) (n := xs.length) (sz := e.size) (k := n.toNat * e.size) (cs := xs.flatMap e.cells) (xs := e.cells a') hi hx hy hf hne (up_list e a' hb.1 hb.2)
  have e1 : slT e u (sls xs n a') = sl u xs.length e.size ((sls xs n a').flatMap e.cells) := by simp [slT, sls]
  rw [e1]; exact this
/-- a part of an element -/
theorem R.storeT_sub {t i : Nat} {x y : Operand} {u v : Value} {e : Enc α} {xs : List α} {n : Int} {k : Nat} {ys : List Value} (a' : α) (hi : H[i]? = some (slT e u xs)) (hx : T.opd x = some (ep u (n.toNat * e.size + k))) (hy : T.opd y = some v) (hf : Fits P t v ys) (hne : ys ≠ []) (hb : 0 ≤ n ∧ n < xs.length)
    (hu : Up (e.cells (gl xs n)) k ys (e.cells a')) : OpX P G N T H (.store t x y) ty (fun _ : Unit => undef) (fun _ => H.set i (slT e u (sls xs n a'))) := by
  have := R.store_sl (P := P) (G := G) (N := N) (T := T) (H := H) (ty := ty) (t := t) (i := i) (x := x) (y := y) (v := v) (u := u) (n := xs.length) (sz := e.size) (k := n.toNat * e.size + k) (cs := xs.flatMap e.cells) (xs := ys) hi hx hy hf hne (Up.trans (sub_list e hb.1 hb.2) hu (up_list e a' hb.1 hb.2))
  have e1 : slT e u (sls xs n a') = sl u xs.length e.size ((sls xs n a').flatMap e.cells) := by simp [slT, sls]
  rw [e1]; exact this
theorem R.storeG {t i : Nat} {x y : Operand} {u v : Value} {e : Enc α} {xs : List α} {k : Nat} {ys : List Value} (xs' : List α) (hi : H[i]? = some (slT e u xs)) (hx : T.opd x = some (ep u k)) (hy : T.opd y = some v) (hf : Fits P t v ys) (hne : ys ≠ [])
    (hl : xs'.length = xs.length) (hu : Up (xs.flatMap e.cells) k ys (xs'.flatMap e.cells)) : OpX P G N T H (.store t x y) ty (fun _ : Unit => undef) (fun _ => H.set i (slT e u xs')) := by
  have := R.store_sl (P := P) (G := G) (N := N) (T := T) (H := H) (ty := ty) (t := t) (i := i) (x := x) (y := y) (v := v) (u := u) (n := xs.length) (sz := e.size) (k := k) (cs := xs.flatMap e.cells) (xs := ys) hi hx hy hf hne hu
  have e1 : slT e u xs' = sl u xs.length e.size (xs'.flatMap e.cells) := by simp [slT, hl]
  rw [e1]; exact this
theorem sls_len (xs : List α) (i : Int) (a : α) : (sls xs i a).length = xs.length := by simp [sls]
theorem cells_one (e : Enc α) (xs : List α) : ∀ x ∈ xs.flatMap e.cells, x.oneCell' = true := fun x hx => by
  obtain ⟨a, _, h⟩ := List.mem_flatMap.1 hx; exact e.one a x h
theorem R.appendT {x y : Operand} {t t2 : TypeId} {v u : Value} {e : Enc α} {z z2 : α} {xs ys : List α} (j : Nat) (hj : H[j]? = some (slT e v xs)) (hx : T.opd x = some v) (hy : T.opd y = some u) (ht : ElT P t e z) (h2 : ElT P t2 e z2)
    (hr : RdT e G H u ys) (hb : xs.length + ys.length ≤ 4294967296) : OpX P G N T H (.call ⟨.builtin .append, #[x, y], #[t, t2]⟩) ty (fun v' : Value => v') (fun v' => H.set j (slT e v' (xs ++ ys))) := by
  obtain ⟨el, b, h1, hE⟩ := ht
  obtain ⟨el2, b2, h21, _⟩ := h2
  have e1 : ∀ v', slT e v' (xs ++ ys) = sl v' (xs.length + ys.length) e.size (xs.flatMap e.cells ++ ys.flatMap e.cells) := fun v' => by simp [slT]
  simp only [e1]
  exact R.append hx hy h1 ⟨el2, h21⟩ hE hj hr (cells_one e ys) hb
theorem R.buildT {t : TypeId} {n : Nat} {e : Enc α} {z : α} {parts : Array (Nat × Operand)} {vs : List Value} (xs : List α) (ht : ElT P t e z) (hv : T.opds (parts.toList.map (·.2)) = some vs) (hi : (parts.toList.map (·.1)).zip vs = (vs.zipIdx 0).map fun p => (p.2, p.1)) (hn : vs.length = n) (hxn : xs.length = n)
    (hvs : vs.map (fun v => v.cells.toList) = xs.map e.cells) (hb : n * e.size ≤ 16777216) (hb2 : n ≤ 9223372036854775807) : OpX P G N T H (.buildSlice t n parts) ty (fun v : Value => v) (fun v => slT e v xs :: H) := by
  obtain ⟨el, b, h1, hE⟩ := ht
  have e1 : vs.flatMap (·.cells.toList) = xs.flatMap e.cells := by rw [List.flatMap_def, hvs, List.flatMap_def]
  have hs : ∀ v ∈ vs, v.cells.size = e.size := fun v hv' => by
    have : v.cells.toList ∈ xs.map e.cells := by rw [← hvs]; exact List.mem_map.2 ⟨v, hv', rfl⟩
    obtain ⟨a, _, ha⟩ := List.mem_map.1 this
    have := congrArg List.length ha
    rw [e.len] at this; simpa using this.symm
  have := R.buildSlice (P := P) (G := G) (N := N) (T := T) (H := H) (ty := ty) h1 hE hv hi hn hs hb hb2
  simp only [e1, ← hxn] at this ⊢
  exact this
theorem flatMap_replicate (e : Enc α) (z : α) : ∀ n, (List.replicate n (e.cells z)).flatten = (List.replicate n z).flatMap e.cells
  | 0 => by simp
  | n + 1 => by simp [List.replicate_succ, flatMap_replicate e z n]
theorem R.makeT {t : TypeId} {x : Operand} {e : Enc α} {z : α} {n : Int} (ht : ElT P t e z) (hx : T.opd x = some (.int .i64 n)) (hb : 0 ≤ n ∧ n ≤ 4294967296) :
    OpX P G N T H (.makeSlice t x x) ty (fun v : Value => v) (fun v => slT e v (List.replicate n.toNat z) :: H) := by
  obtain ⟨el, b, h1, hE⟩ := ht
  have := R.makeSlice (P := P) (G := G) (N := N) (T := T) (H := H) (ty := ty) h1 hE hx hb.1 hb.2
  have e1 : ∀ v, slT e v (List.replicate n.toNat z) = sl v n.toNat e.size (List.replicate n.toNat (e.cells z)).flatten := fun v => by simp [slT, flatMap_replicate]
  simp only [e1]
  exact this

theorem ElT.of2 {t el : Nat} {e : Enc α} {z : α} (h1 : P.underlying t = some (.slice el)) (h2 : (P.info? el).map (fun i => (i.size, i.zero.map fun v => v.cells.toList)) = some (e.size, some (e.cells z))) (hb : (P.info? el).map (fun i => Nat.ble i.bytes 4096) = some true) : ElT P t e z := by
  cases hi : P.info? el with
  | none => simp [hi] at h2
  | some i =>
    simp only [hi, Option.map_some, Option.some.injEq, Prod.mk.injEq] at h2 hb
    exact .of (by_ := i.bytes) h1 (by simp [hi, h2]) (Nat.le_of_ble_eq_true hb)
theorem zero_of {t : TypeId} {zs : List Value} (h : ((P.info? t).bind (·.zero)).map (fun z => z.cells.toList) = some zs) : ∃ z, (P.info? t).bind (·.zero) = some z ∧ z.cells = zs.toArray := by
  cases hz : (P.info? t).bind (·.zero) with
  | none => simp [hz] at h
  | some z => simp [hz] at h; exact ⟨z, rfl, by rw [← h]⟩
theorem BuildAt.struct2 {t : TypeId} {zs : List Value} {places : Array (Nat × Nat)} (ht : P.underlying t = some (.struct (P.fieldsOf t))) (hz : ((P.info? t).bind (·.zero)).map (fun z => z.cells.toList) = some zs)
    (hp : ∀ w, ((P.fieldsOf t).mapM (m := Sem) fun f => do pure (f.offset, ← sizeOf f.type)).run P w = .ok places w) : BuildAt P t zs (places[·]?) := by
  obtain ⟨z, h1, h2⟩ := zero_of hz
  exact .struct ht h1 h2 hp
theorem BuildAt.array2 {t e : TypeId} {zs : List Value} {n sz : Nat} (ht : P.underlying t = some (.array n e)) (he : (P.info? e).map (·.size) = some sz) (hz : ((P.info? t).bind (·.zero)).map (fun z => z.cells.toList) = some zs) : BuildAt P t zs (fun i => some (i * sz, sz)) := by
  obtain ⟨z, h1, h2⟩ := zero_of hz
  exact .array ht he h1 h2
theorem Enc.ne (e : Enc α) (x : α) (hp : 0 < e.size) : e.cells x ≠ [] := fun h => by have := e.len x; rw [h] at this; simp at this; omega
theorem fits_one_sl {e : Enc α} {t : TypeId} {v : Value} {xs : List α} (hr : RdT e G H v xs) (hw : ∃ w, ok G H w) (hs : (P.info? t).map (·.size) = some 1) : Fits P t v [v] := by
  obtain ⟨w, hw⟩ := hw
  obtain ⟨_, ⟨rfl, _⟩ | ⟨b, off, cap, rfl, _⟩⟩ := hr w hw
  · exact fits_one rfl rfl hs
  · exact fits_one rfl rfl hs
theorem At.liftL {L : List Res} {p : Value} {xs : List Value} (h : At G H p xs) : At G (L ++ H) p xs := fun w hw => h w (by have := hw.drop L.length; simpa using this)
theorem RdT.liftL {e : Enc α} {L : List Res} {v : Value} {xs : List α} (h : RdT e G H v xs) : RdT e G (L ++ H) v xs := fun w hw => h w (by have := hw.drop L.length; simpa using this)
/-- storing a slice value into a variable of its own -/
theorem R.store_var {t i : Nat} {x y : Operand} {v : Value} {b : Nat} {cs : List Value} {e : Enc α} {xs : List α} (hi : H[i]? = some (bx b cs)) (hx : T.opd x = some (.pointer (some ⟨b, 0, none⟩))) (hy : T.opd y = some v) (hr : RdT e G H v xs) (hs : (P.info? t).map (·.size) = some 1) (hc : cs.length = 1) :
    OpX P G N T H (.store t x y) ty (fun _ : Unit => undef) (fun _ => H.set i (bx b [v])) := fun a w s =>
  R.store_bx hi hx hy (fits_one_sl hr ⟨w, s.mem⟩ hs) (Up.whole (by simp [hc])) a w s
theorem calm_n {J : Exit → Act → World → Prop} : Calm (fun e a w => And (e = .normal) (J e a w)) := fun _ _ _ _ h => nomatch h.1
/-- From what is told of a state on to what stands behind. -/
def Go2 (J : Act → World → Prop) (ex : Exit) (Q : Post) : Prop := ∀ a w, J a w → Q ex a w
theorem Go2.ex {X : Type} {J : X → Act → World → Prop} {ex : Exit} {Q : Post} (h : ∀ x, Go2 (J x) ex Q) : Go2 (fun a w => ∃ x, J x a w) ex Q := fun a w ⟨x, hx⟩ => h x a w hx
theorem Go2.sat {ex : Exit} {Q : Post} (h : Go G N ex T H Q) : Go2 (fun a w => Sat G H N T a w) ex Q := h
theorem W.join1 {c : Code} {Q : Post} (J : Act → World → Prop) (h1 : W P G N c T H (fun e a w => And (e = .normal) (J a w))) (h2 : Go2 J .normal Q) : W P G N c T H Q := fun a w s =>
  wp_mono (h1 a w s) fun e a w ⟨he, hj⟩ => by subst he; exact h2 a w hj
/-- a variable of a package, as it reads when all begins -/
def Gl (G : World) (g : Nat) (cs : List Value) : Prop := ∀ (j : Nat) (h : j < cs.length), G.cell? ⟨g, j, none⟩ = some cs[j]
theorem At.glob {g : Nat} {cs : List Value} (h : Gl G g cs) : At G H (.pointer (some ⟨g, 0, none⟩)) cs := fun w hw => ⟨g, 0, rfl, fun j hj => by
  have h1 := h j hj
  rw [Nat.zero_add]
  have h2 : w.heap[g]? = G.heap[g]? := hw.base g (by
    rcases Nat.lt_or_ge g G.heap.size with h' | h'
    · exact h'
    · simp [World.cell?, Array.getElem?_eq_none h'] at h1)
  rw [← h1]
  simp only [World.cell?, h2]⟩
end Go.Sx
