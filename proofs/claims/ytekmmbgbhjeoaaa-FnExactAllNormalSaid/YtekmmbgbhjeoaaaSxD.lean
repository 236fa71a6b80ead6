/- The foundation of this claim's walks: slices that are made, grown and cut. No condition. -/
import Derived.Test.YtekmmbgbhjeoaaaSxC
set_option linter.unusedVariables false
set_option linter.unusedSimpArgs false
set_option linter.unusedSectionVars false
namespace Go.Sx
open Go
variable {P : Program} {G : World} {N : Nat} {T : Env} {H : List Res} {Q : Post}
variable {ops : Array Oper} {d : Nat} {rest : List Oper} {ty : TypeId} {pos : String} {af : Array Edge}

theorem WL.perm {l : List Oper} {H' : List Res} (hp : H.Perm H') (h : WL P G N ops l T H' Q) : WL P G N ops l T H Q := fun a w s => h a w ⟨s.env, s.mem.perm hp⟩
theorem WL.weak {l : List Oper} {T' : Env} {H' : List Res} (hT : Env.le T' T) (hH : ∀ w, ok G H w → ok G H' w) (h : WL P G N ops l T' H' Q) : WL P G N ops l T H Q :=
  fun a w s => h a w ⟨s.env.le hT, hH w s.mem⟩

/-- An element type: how many cells and bytes it takes, and its zero. -/
structure Elem (P : Program) (e : TypeId) (sz by_ : Nat) (z : List Value) : Prop where
  info : ∃ i, P.info? e = some i ∧ i.size = sz ∧ i.bytes = by_ ∧ ∃ v, i.zero = some v ∧ v.cells.toList = z
  size : z.length = sz
  bytes : by_ ≤ 4096

theorem rd_loadCells {w : World} {v : Value} {n sz : Nat} {cs : List Value} (h : Rd w v n sz cs) : (Builtin.firstCells sz n v).run P w = .ok cs.toArray w := by
  obtain ⟨hl, ⟨rfl, rfl⟩ | ⟨b, off, cap, rfl, _, hc⟩⟩ := h
  · simp at hl; subst hl; simp [Builtin.firstCells]
  · simp only [Builtin.firstCells]
    rw [← hl]
    exact bytes_loadCells hc

theorem Elem.of {e sz by_ : Nat} {z : List Value} (h : (P.info? e).map (fun i => (i.size, i.bytes, i.zero.map fun v => v.cells.toList)) = some (sz, by_, some z)) (hs : z.length = sz) (hb : by_ ≤ 4096) : Elem P e sz by_ z := by
  cases hi : P.info? e with
  | none => simp [hi] at h
  | some i =>
    simp [hi] at h
    obtain ⟨h1, h2, v, h3, h4⟩ := h
    exact ⟨⟨i, hi, h1, h2, v, h3, h4⟩, hs, hb⟩
theorem grow_le (need : Nat) : ∀ (r c : Nat), c ≤ 2 * need + 192 → Builtin.growBy need r c ≤ 2 * need + 192 := by
  intro r
  induction r with
  | zero => intro c h; simpa [Builtin.growBy] using h
  | succ r ih =>
    intro c h
    simp only [Builtin.growBy]
    split
    · exact h
    · exact ih _ (by omega)
theorem nextcap_le (need cap : Nat) (h : cap < need) : Builtin.nextslicecap need cap ≤ 2 * need + 192 := by
  unfold Builtin.nextslicecap
  split
  · omega
  · split
    · omega
    · exact grow_le need 4 cap (by omega)

theorem Own.nil {w : World} {sz : Nat} : Own w (.slice none 0 0) 0 sz [] := ⟨by simp, .inl ⟨rfl, rfl⟩⟩

theorem append_run {t t2 e : TypeId} {v u : Value} {n m sz by_ : Nat} {cs ds z : List Value} {w : World} (ht : P.underlying t = some (.slice e)) (h2 : ∃ e', P.underlying t2 = some (.slice e')) (hE : Elem P e sz by_ z)
    {j : Nat} (hj : H[j]? = some (sl v n sz cs)) (h : ok G H w) (hr : Rd w u m sz ds) (h1 : ∀ x ∈ ds, x.oneCell' = true) (hb : n + m ≤ 4294967296) :
    ∃ v' w', (Builtin.append_ #[t, t2] ty #[v, u]).run P w = .ok v' w' ∧ ok G (H.set j (sl v' (n + m) sz (cs ++ ds))) w' := by
  obtain ⟨e', h2⟩ := h2
  obtain ⟨⟨i, hi, his, hib, zv, hz, hzc⟩, hzs, hby⟩ := hE
  have hrd := rd_loadCells (P := P) hr
  have hown := h.at hj
  have hlen : (Builtin.lenOf u).run P w = .ok m w := by
    obtain ⟨_, ⟨rfl, rfl⟩ | ⟨b, off, cap, rfl, _⟩⟩ := hr <;> rfl
  have hdl := hr.1
  by_cases hroom : ∃ b cap pre post e, v = .slice (some ⟨b, pre.length, none⟩) n cap ∧ w.heap[b]? = some (.cells (pre ++ cs ++ post).toArray e) ∧ n ≤ cap ∧ cap * sz ≤ cs.length + post.length ∧ cap ≤ 9223372036854775807 ∧ n + m ≤ cap
  · obtain ⟨b, cap, pre, post, e1, rfl, hbk, c1, c2, c3, c4⟩ := hroom
    have hcl := hown.1
    have hms : m * sz ≤ post.length := by
      have : (n + m) * sz ≤ cap * sz := Nat.mul_le_mul_right sz c4
      rw [Nat.add_mul] at this; omega
    obtain ⟨w', r1, r2, r3, r4, r5, r6⟩ := run_storeCells (P := P) ds 0 (pre.length + cs.length) (pre ++ cs ++ post) w hbk h1 (by simp; omega)
    refine ⟨.slice (some ⟨b, pre.length, none⟩) (n + m) cap, w', ?_, ?_⟩
    · simp [Builtin.append_, underlying, ht, h2, sizeOf, typeInfo, hi, his, hlen, c4, hrd, add_addr, ← hcl, r1]
    · refine h.set hj r3 r4 (by omega) (fun k' _ hk => r6 k' (fun e => hk (by subst e; rfl))) ?_ (fun k' hk => .inl hk)
      refine ⟨by simp [hcl, hdl, Nat.add_mul], .inr ⟨b, cap, pre, post.drop (m * sz), e1, rfl, ?_, c4, by simp; omega, c3⟩⟩
      have e2 : upd (pre ++ cs ++ post) (pre.length + cs.length + 0) ds = pre ++ (cs ++ ds) ++ post.drop (m * sz) := by
        have := upd_sub (pre := pre ++ cs) (ys := post.take (m * sz)) (post := post.drop (m * sz)) (xs := ds) (by simp; omega)
        simp only [List.append_assoc, List.take_append_drop, List.length_append] at this ⊢
        simpa using this
      rw [r2, e2]
  · by_cases hnil : v = .slice none 0 0 ∧ n = 0 ∧ m = 0
    · obtain ⟨rfl, rfl, rfl⟩ := hnil
      have hcs : cs = [] := by simpa using hown.1
      have hds : ds = [] := by simpa using hdl
      subst hcs; subst hds
      refine ⟨.slice none 0 0, w, ?_, by
        have e : H.set j (sl (.slice none 0 0) 0 sz []) = H := by
          obtain ⟨hlt, he⟩ := List.getElem?_eq_some_iff.1 hj
          rw [← he]; exact List.set_getElem_self hlt
        simpa [e] using h⟩
      simp [Builtin.append_, underlying, ht, h2, sizeOf, typeInfo, hi, his, hlen, hrd]
    · -- a new row
      obtain ⟨base, cap, rfl, hcap⟩ : ∃ base cap, v = .slice base n cap ∧ cap < n + m := by
        rcases hown.2 with ⟨rfl, rfl⟩ | ⟨b, cap, pre, post, e1, rfl, hbk, c1, c2, c3⟩
        · refine ⟨none, 0, rfl, ?_⟩
          rcases Nat.eq_zero_or_pos m with rfl | hm
          · exact absurd ⟨rfl, rfl, rfl⟩ hnil
          · omega
        · refine ⟨_, cap, rfl, ?_⟩
          rcases Nat.lt_or_ge cap (n + m) with h' | h'
          · exact h'
          · exact absurd ⟨b, cap, pre, post, e1, rfl, hbk, c1, c2, c3, h'⟩ hroom
      have hnot : ¬ (n + m ≤ cap) := by omega
      have hold : ∀ w2 : World, w2.heap = w.heap → (Builtin.firstCells sz n (.slice base n cap)).run P w2 = .ok cs.toArray w2 := fun w2 e2 =>
        rd_loadCells (P := P) (Own.rd ((sl _ n sz cs).of_heap hown e2))
      have hnew : ∀ w2 : World, w2.heap = w.heap → (Builtin.firstCells sz m u).run P w2 = .ok ds.toArray w2 := fun w2 e2 => by
        refine rd_loadCells (P := P) ⟨hr.1, hr.2.imp id ?_⟩
        rintro ⟨b, off, cap, rfl, q1, q2⟩
        exact ⟨b, off, cap, rfl, q1, fun i hi => by have := q2 i hi; simpa [World.cell?, e2] using this⟩
      have hcap2 := nextcap_le (n + m) cap hcap
      have hbig : ¬ (Builtin.nextslicecap (n + m) cap * by_ > 281474976710656) := by
        have : Builtin.nextslicecap (n + m) cap * by_ ≤ (2 * (n + m) + 192) * 4096 := Nat.mul_le_mul hcap2 hby
        omega
      let nc := (n + m) + w.tape w.drawn (.appendCap (n + m) cap e) % (2 ^ 63 - (n + m))
      have hnc1 : n + m ≤ nc := Nat.le_add_right _ _
      have hnc2 : nc ≤ 9223372036854775807 := by
        have : w.tape w.drawn (.appendCap (n + m) cap e) % (2 ^ 63 - (n + m)) < 2 ^ 63 - (n + m) := Nat.mod_lt _ (by omega)
        simp only [nc]; omega
      let w2 : World := w.drew
      let row : Array Value := cs.toArray ++ ds.toArray ++ Builtin.zeroCells zv.cells (nc - (n + m))
      refine ⟨.slice (some ⟨w.heap.size, 0, none⟩) (n + m) nc, w2.alloc (.cells row e), ?_, ?_⟩
      · have hi64 : ¬ (((n + m : Nat) : Int) > IntKind.i64.max) := by
          have : IntKind.i64.max = 9223372036854775807 := by rfl
          rw [this]; omega
        have hi64' : ¬ ((9223372036854775807 : Int) < (n : Int) + m) := by omega
        simp only [Builtin.append_]
        simp [underlying, ht, h2, sizeOf, typeInfo, hi, his, hib, hlen, hnot, hi64', Question.forced, Question.cut, nc, hold w2 rfl, hnew w2 rfl, hbig, zeroValue, hz, newRow, row, w2]
      · have h2k : ok G H w2 := h.of_heap rfl rfl rfl
        refine h2k.set hj rfl rfl (by simp) (fun b hb _ => heap_alloc_old w2 _ b hb) ?_ (fun b hb => .inr (by rw [← hb]; exact Nat.le_refl _))
        refine ⟨by simp [hown.1, hdl, Nat.add_mul], .inr ⟨w.heap.size, nc, [], (Builtin.zeroCells zv.cells (nc - (n + m))).toList, e, rfl, ?_, hnc1, ?_, hnc2⟩⟩
        · rw [show w.heap.size = w2.heap.size from rfl, heap_alloc_new]; simp [row]
        · have : (Builtin.zeroCells zv.cells (nc - (n + m))).toList.length = (nc - (n + m)) * sz := by
            simp [Builtin.zeroCells, ← hzs, ← hzc]
          rw [this]; simp [hown.1, hdl]
          rw [← Nat.add_mul, ← Nat.add_mul]; exact Nat.mul_le_mul_right sz (by omega)
end Go.Sx
