/- From the row's readings to the walks, and back. No condition. -/
import Derived.Test.YtekmmbgbhjeoaaaSxK
import Derived.ProofKit
import Derived.LaidMore
import Derived.OpenShut
import Derived.Stop.Joined
set_option linter.unusedVariables false
set_option linter.unusedSimpArgs false
set_option linter.unusedSectionVars false
namespace Go.Sx
open Go Go.ChangeShapes Go.WideShapes Go.ChangeAt Go.RowKit

/-! ## What is read, as data -/
/-- Cells that read as a type are the cells of a datum. -/
def Opens {α : Type} (P : Program) (t : TypeId) (e : Enc α) (R : α → Prop) : Prop :=
  ∀ {H : Type} (enc : TypeId × Value → H) (w : World) (base : Nat) (sp : Nat → Bool) (held : Bool) (fuel : Nat) (cs : List Value) (x : DataW H × List MemPlace), DataW.trod enc P w base sp held fuel t cs = some x → ∃ a, cs = e.cells a ∧ R a
def inKind (k : IntKind) (n : Int) : Prop := (Lit.int k n).wf = true
theorem Opens.int {P : Program} {t : TypeId} {k : IntKind} (h : P.underlying t = some (.int k)) : Opens P t (Enc.int k) (inKind k) := fun _ _ _ _ _ _ _ _ hx => by
  obtain ⟨n, e, _, hw⟩ := DataW.trod_int h hx
  exact ⟨n, e, hw⟩
theorem Opens.bool {P : Program} {t : TypeId} (h : P.underlying t = some .bool) : Opens P t Enc.bool (fun _ => True) := fun _ _ _ _ _ _ _ _ hx => by
  obtain ⟨n, e, _⟩ := DataW.trod_bool h hx
  exact ⟨n, e, trivial⟩
theorem Opens.str {P : Program} {t : TypeId} (h : P.underlying t = some .string) : Opens P t Enc.str (fun s => s.size ≤ maxLen) := fun _ _ _ _ _ _ _ _ hx => by
  obtain ⟨n, e, _, hl⟩ := DataW.trod_string h hx
  exact ⟨n, e, hl⟩
theorem cellsOf_of {P : Program} {t n : Nat} (h : (P.info? t).map (·.size) = some n) : P.cellsOf t = n := by
  cases hi : P.info? t with
  | none => simp [hi] at h
  | some i => simp [hi] at h; simp [Program.cellsOf, hi, h]
/-- pieces one behind the other -/
theorem pieces {α : Type} (e : Enc α) (R : α → Prop) : ∀ (n : Nat) (cs : List Value), cs.length = n * e.size → (∀ i, i < n → ∃ a, (cs.drop (i * e.size)).take e.size = e.cells a ∧ R a) → ∃ xs : List α, xs.length = n ∧ cs = xs.flatMap e.cells ∧ ∀ x ∈ xs, R x
  | 0, cs, hl, _ => ⟨[], rfl, by simpa using hl, by simp⟩
  | n + 1, cs, hl, h => by
    obtain ⟨a, ha, hr⟩ := h 0 (by omega)
    simp only [Nat.zero_mul, List.drop_zero] at ha
    rw [Nat.succ_mul] at hl
    obtain ⟨xs, h1, h2, h3⟩ := pieces e R n (cs.drop e.size) (by simp [hl]) (fun i hi => by
      obtain ⟨b, hb, hr'⟩ := h (i + 1) (by omega)
      refine ⟨b, ?_, hr'⟩
      rw [List.drop_drop, ← hb, Nat.succ_mul, Nat.add_comm])
    refine ⟨a :: xs, by simp [h1], ?_, fun x hx => ?_⟩
    · rw [List.flatMap_cons, ← ha, ← h2]; simp
    · rcases List.mem_cons.1 hx with rfl | hx
      · exact hr
      · exact h3 x hx
theorem Opens.arr {P : Program} {t el n : Nat} {α : Type} [Inhabited α] {e : Enc α} {R : α → Prop} (h : Opens P el e R) (ht : P.underlying t = some (.array n el)) (hs : (P.info? el).map (·.size) = some e.size) (hs2 : (P.info? t).map (·.size) = some (n * e.size)) :
    Opens P t (e.arr n) (fun v => ∀ i : Int, 0 ≤ i → i < n → R (gv v i)) := fun enc w base sp held fuel cs x hx => by
  obtain ⟨xs, m, _, _, hl, hn, hel⟩ := DataW.trod_array ht hx
  rw [cellsOf_of hs2] at hl
  obtain ⟨ys, h1, h2, h3⟩ := pieces e R n cs hl (fun i hi => by
    have := hel i hi
    rw [cellsOf_of hs, List.getElem?_eq_getElem (by omega)] at this
    exact h enc w base sp held m _ _ this)
  refine ⟨⟨ys.toArray, by simp [h1]⟩, ?_, fun i h0 hi => ?_⟩
  · simp only [Enc.arr]; rw [h2]; rfl
  · have hlt : i.toNat < ys.length := by omega
    have : gv (⟨ys.toArray, by simp [h1]⟩ : Vector α n) i = ys[i.toNat] := by simp [gv, Vector.toList, hlt]
    rw [this]; exact h3 _ (List.getElem_mem hlt)
theorem Opens.struct2 {P : Program} {t : Nat} {σ α β : Type} {e : Enc σ} {e1 : Enc α} {e2 : Enc β} {R1 : α → Prop} {R2 : β → Prop} {f g : Field} (mk : α → β → σ) (ht : P.underlying t = some (.struct #[f, g])) (h1 : Opens P f.type e1 R1) (h2 : Opens P g.type e2 R2)
    (o1 : f.offset = 0) (o2 : g.offset = e1.size) (s1 : (P.info? f.type).map (·.size) = some e1.size) (s2 : (P.info? g.type).map (·.size) = some e2.size) (s : (P.info? t).map (·.size) = some (e1.size + e2.size)) (hc : ∀ a b, e.cells (mk a b) = e1.cells a ++ e2.cells b) :
    Opens P t e (fun x => ∃ a b, x = mk a b ∧ R1 a ∧ R2 b) := fun enc w base sp held fuel cs x hx => by
  obtain ⟨xs, m, _, _, hl, hn, hel⟩ := DataW.trod_struct ht hx
  rw [cellsOf_of s] at hl
  have hn2 : xs.length = 2 := by simpa using hn
  have a1 := hel 0 f (by simp)
  have a2 := hel 1 g (by simp)
  rw [List.getElem?_eq_getElem (by omega)] at a1 a2
  obtain ⟨a, ha, hr1⟩ := h1 enc w base sp held m _ _ a1
  obtain ⟨b, hb, hr2⟩ := h2 enc w base sp held m _ _ a2
  rw [cellsOf_of s1, o1, List.drop_zero] at ha
  rw [cellsOf_of s2, o2, List.take_of_length_le (by simp [hl])] at hb
  exact ⟨mk a b, by rw [hc, ← ha, ← hb]; simp, a, b, rfl, hr1, hr2⟩

/-! ## The frame -/
theorem Rd.base {W : World} {v : Value} {n sz : Nat} {cs : List Value} (h : Rd W v n sz cs) : Rds W [] v n sz cs := fun w hw => by
  obtain ⟨hl, h | ⟨b, off, cap, rfl, hc, hcell⟩⟩ := h
  · exact ⟨hl, .inl h⟩
  · refine ⟨hl, .inr ⟨b, off, cap, rfl, hc, fun i hi => ?_⟩⟩
    have h1 := hcell i hi
    have h2 : w.heap[b]? = W.heap[b]? := hw.base b (by
      rcases Nat.lt_or_ge b W.heap.size with h' | h'
      · exact h'
      · simp [World.cell?, Array.getElem?_eq_none h'] at h1)
    rw [← h1]; simp only [World.cell?, h2]
theorem gl_nat' {α : Type} [Inhabited α] (xs : List α) (i : Nat) (h : i < xs.length) : gl xs (i : Int) = xs[i] := by
  simp [gl, h]
theorem okWide_spot {P : Program} {w : World} {r : Reach} {base : Nat} {t el : TypeId} {a : Addr} {len cap : Nat} (ht : P.underlying t = some (.slice el)) (h : Value.okWide P w r base t (.slice (some a) len cap)) : a.spot = none := by
  simp only [Value.okWide, ht, Cell.okWide] at h
  simp only [Cell.ok, ht] at h
  exact h.2.2.2.1
/-- A slice of plain data, opened: what its first elements read. -/
theorem open_slT {P : Program} {t el : Nat} {α : Type} [Inhabited α] {e : Enc α} {R : α → Prop} {H : Type} {enc : TypeId × Value → H} {W : World} {v : Value} {d : DataW H} {ps : List MemPlace} {sp : Nat → Bool} {held : Bool} {r : Reach} {base : Nat} (h : Opens P el e R) (ht : P.underlying t = some (.slice el)) (hs : (P.info? el).map (·.size) = some e.size)
    (hv : Value.okWide P W r base t v) (hd : DataW.Trod enc P W 0 sp held t v d ps) : ∃ xs : List α, RdT e W [] v xs ∧ (∀ x ∈ xs, R x) ∧ xs.length ≤ maxLen := by
  obtain ⟨fuel, hd⟩ := hd
  obtain ⟨a0, len0, cap0, rfl⟩ := okWide_slice ht hv
  have ec : (Value.slice a0 len0 cap0).cells.toList = [.slice a0 len0 cap0] := rfl
  rw [ec] at hd
  rcases DataW.trod_slice ht hd with ⟨hc, _⟩ | ⟨a, len, cap, elems, rest, n, _, hc, _, _, hl, hm, hlen, hel, _, _⟩
  · simp only [List.cons.injEq, and_true] at hc
    rw [hc]
    exact ⟨[], RdT.nil, by simp, by simp⟩
  · simp only [List.cons.injEq, and_true] at hc
    rw [hc] at hv ⊢
    have hspot := okWide_spot ht hv
    obtain ⟨b, off, spot⟩ := a
    simp only at hspot
    subst hspot
    have each : ∀ i, i < len → ∃ x : α, R x ∧ ∀ j (hj : j < (e.cells x).length), W.cell? ⟨b, off + (i * e.size + j), none⟩ = some ((e.cells x)[j]) := fun i hi => by
      have h1 := hel i hi
      rw [cellsOf_of hs, List.getElem?_eq_getElem (by omega)] at h1
      cases hcs : W.cells? 0 ((⟨b, off, none⟩ : Addr).add (i * e.size)) e.size with
      | none => rw [hcs] at h1; simp at h1
      | some cs =>
        rw [hcs] at h1
        simp only [Option.bind_some] at h1
        obtain ⟨x, hx, hr⟩ := h enc W 0 sp held n cs _ h1
        obtain ⟨_, hl', hg⟩ := World.cells?_some hcs
        refine ⟨x, hr, fun j hj => ?_⟩
        subst hx
        have := hg j (by rw [e.len] at hj; exact hj)
        rw [add_addr, add_addr, Nat.add_assoc] at this
        rw [this]; simp [hj]
    have hex : ∃ xs : List α, xs.length = len ∧ ∀ i (hi : i < xs.length), R xs[i] ∧ ∀ j (hj : j < (e.cells xs[i]).length), W.cell? ⟨b, off + (i * e.size + j), none⟩ = some ((e.cells xs[i])[j]) := by
      refine ⟨(List.range len).map fun i => if h : i < len then (each i h).choose else default, by simp, fun i hi => ?_⟩
      have hi' : i < len := by simpa using hi
      have := (each i hi').choose_spec
      simp only [List.getElem_map, List.getElem_range, dif_pos hi']
      exact this
    obtain ⟨xs, hxl, hx⟩ := hex
    refine ⟨xs, Rd.base ⟨flat_length e xs, .inr ⟨b, off, cap, by rw [hxl], by omega, fun i hi => ?_⟩⟩, fun x hxm => ?_, by omega⟩
    · rw [flat_length] at hi
      have hpos : 0 < e.size := Nat.pos_of_ne_zero fun h0 => by rw [h0] at hi; simp at hi
      have hq : i / e.size < xs.length := Nat.div_lt_of_lt_mul (by rw [Nat.mul_comm]; exact hi)
      have hmod : i % e.size < e.size := Nat.mod_lt _ hpos
      have hsub := sub_list e (xs := xs) (i := ((i / e.size : Nat) : Int)) (Int.natCast_nonneg _) (Int.ofNat_lt.2 hq)
      have hg := hsub.get (i % e.size) (by rw [e.len]; exact hmod)
      simp only [Int.toNat_natCast] at hg
      have e1 : i / e.size * e.size + i % e.size = i := Nat.div_add_mod' i e.size
      have e2 := (hx _ hq).2 (i % e.size) (by rw [e.len]; exact hmod)
      rw [e1] at e2 hg
      rw [e2]
      have e3 := List.getElem?_eq_some_iff.1 hg
      obtain ⟨e4, e5⟩ := e3
      rw [e5]
      congr 1
      have : gl xs ((i / e.size : Nat) : Int) = xs[i / e.size] := gl_nat' xs _ hq
      simp only [this]
    · obtain ⟨i, hi, rfl⟩ := List.getElem_of_mem hxm
      exact (hx i hi).1

/-! ## Behind the call -/
theorem ok.same {W w : World} {H : List Res} (h : ok W H w) {p : MemPlace} (hp : p.block < W.heap.size) : W.sameAt w p := by
  cases p with
  | cell b off => simp only [World.sameAt, World.cell?]; rw [h.base b hp]
  | map b => exact h.base b hp
theorem ok.keptBut {W w : World} {H : List Res} (h : ok W H w) (may : MemPlace → Prop) : W.keptBut w may :=
  ⟨h.os, h.output, fun i hi => by
    rw [h.base i hi]
    cases ho : W.heap[i]? with
    | none => trivial
    | some o => cases o <;> simp⟩
theorem ok.frozen {W w : World} {H : List Res} (h : ok W H w) {b off : Nat} (hb : b < W.heap.size) : w.frozen? ⟨b, off, none⟩ = W.frozen? ⟨b, off, none⟩ := by
  simp only [World.frozen?]; rw [h.base b hb]
theorem trod_all_stays {H : Type} {enc : TypeId × Value → H} {P : Program} (hl : laidOutB P = true) {W w : World} {sp : Nat → Bool} : ∀ {ts : List TypeId} {vs : List Value} {ds : List (DataW H)} {ps : List MemPlace}, (∀ t ∈ ts, P.readableRec t = true ∧ t < P.types.size) →
    DataW.TrodAll enc P W 0 (fun _ => true) true ts vs ds ps → (∀ p ∈ ps, W.sameAt w p) → (∀ p ∈ ps, sp p.block = true) → DataW.TrodAll enc P w 0 sp true ts vs ds ps
  | [], _, _, _, _, h, _, _ => by
    obtain ⟨rfl, rfl, rfl⟩ := trodAll_nil h
    exact h
  | t :: ts, _, _, _, ht, h, hs, hp => by
    obtain ⟨v, vs1, d, ds1, a, b, rfl, rfl, rfl, h1, h2⟩ := trodAll_cons h
    have ht' := ht t List.mem_cons_self
    exact ⟨a, b, WideElems.Trod_stays hl ht'.1 ht'.2 h1 (fun p hp' => hs p (List.mem_append_left _ hp')) (fun p hp' => hp p (List.mem_append_left _ hp')),
      trod_all_stays hl (fun t ht'' => ht t (List.mem_cons_of_mem _ ht'')) h2 (fun p hp' => hs p (List.mem_append_right _ hp')) (fun p hp' => hp p (List.mem_append_right _ hp')), rfl⟩
theorem post_of_kept {H : Type} {enc : TypeId × Value → H} {P : Program} {f : Func} {s : ChangeSpec} {apart fresh handsOn again : Bool} {W W' : World} {args : Array Value} {v : Value} {ds gs : List (DataW H)} {before pa pv : List MemPlace}
    (hW : DataW.Whole enc P f.params.toList s.vars apart W args.toList ds gs before)
    (hres : ∀ (b : Nat) (sp : Nat → Bool) (hd : Bool), DataW.TrodAll enc P W' b sp hd f.resultTypes.toList (v.resultList f.resultTypes.size) (s.fn H (ds ++ gs)).results [])
    (hargs : ∀ sp : Nat → Bool, (∀ p ∈ before, sp p.block = true) → DataW.TrodAll enc P W' 0 sp true f.params.toList args.toList (s.fn H (ds ++ gs)).args pa)
    (hvars : ∀ sp : Nat → Bool, (∀ p ∈ before, sp p.block = true) → DataW.TrodVars enc P W' sp s.vars (s.fn H (ds ++ gs)).vars pv)
    (hps : before = pa ++ pv) (hk : W.keptBut W' (· ∈ before)) (hfz : ∀ b off, MemPlace.cell b off ∈ before → W'.frozen? ⟨b, off, none⟩ = W.frozen? ⟨b, off, none⟩)
    (hok : ∀ (j : Nat) (t : TypeId) (r : Value), f.resultTypes[j]? = some t → (v.resultList f.resultTypes.size)[j]? = some r → Value.okWide P W' .any 0 t r) :
    s.post enc P f apart fresh handsOn again W args v W' := by
  have hold : ∀ p ∈ before, (fun b => decide (b < W.heap.size)) p.block = true := fun p hp => by simpa using hW.lt p hp
  refine ⟨ds, gs, before, [], pa, pv, hW, hres _ _ _, hargs _ hold, hvars _ hold, World.keptBut_mono (fun p hp => ⟨hp, ?_⟩) hk, fun _ => ?_⟩
  · rw [hps, List.mem_append] at hp
    exact Or.inr hp
  · obtain ⟨_, _, _, _, _, hz, hn⟩ := hW
    refine ⟨hok, _, _, ([] ++ pa) ++ pv, ⟨[] ++ pa, pv, trodAll_append (hargs _ (fun _ _ => rfl)) (hres _ _ _), hvars _ (fun _ _ => rfl), rfl, ?_, ?_⟩, ?_⟩
    · intro b off hp
      have hp' : MemPlace.cell b off ∈ before := by rw [hps]; simpa using hp
      rw [hfz b off hp']
      exact hz b off hp'
    · intro ha
      have := hn ha
      rw [hps] at this
      simpa using this
    · intro p hp _
      rw [hps]
      simpa using hp
/-- What a law leaves: true; its arguments as they were. -/
theorem post_true {H : Type} {enc : TypeId × Value → H} {P : Program} {f : Func} {s : ChangeSpec} {W w : World} {args : Array Value} {ds : List (DataW H)} {before : List MemPlace} {t : TypeId} {Hs : List Res}
    (hl : laidOutB P = true) (hts : ∀ t ∈ f.params.toList, P.readableRec t = true ∧ t < P.types.size) (hr : f.resultTypes = #[t]) (ht : P.underlying t = some .bool) (hv : s.vars = [])
    (hs : s.fn H (ds ++ []) = { results := [.lit (.bool true)], args := ds }) (hW : DataW.Whole enc P f.params.toList s.vars false W args.toList ds [] before) (hk : ok W Hs w) : s.post enc P f false true false false W args (.bool true) w := by
  have hlt : ∀ p ∈ before, p.block < W.heap.size := fun p hp => hW.lt p hp
  have hW' := hW
  obtain ⟨p, q, hA, hV, rfl, hfz, _⟩ := hW
  rw [hv] at hV
  obtain ⟨_, rfl⟩ := trodVars_none hV
  refine post_of_kept (pa := p) (pv := []) hW' (fun _ _ _ => ?_) (fun sp hsp => ?_) (fun _ _ => ?_) rfl (hk.keptBut _) (fun b off hb => hk.frozen (hlt _ hb)) ?_
  · rw [hr, hs]; exact trodAll_mk1 (shut_bool ht true)
  · rw [hs]; exact trod_all_stays hl hts hA (fun x hx => hk.same (hlt x (List.mem_append_left _ hx))) (fun x hx => hsp x (List.mem_append_left _ hx))
  · rw [hs, hv]; rfl
  · exact ok_one hr rfl (by simp [Value.okWide, ht, Cell.okWide, Cell.ok])
end Go.Sx
