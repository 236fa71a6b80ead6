/- The foundation of this claim's walks: resources of memory, judgements on code, and their rules. No condition. -/
import Derived.Calls
import Derived.Tactics
set_option linter.unusedVariables false
set_option linter.unusedSimpArgs false
set_option linter.unusedSectionVars false
namespace Go.Sx
open Go

/-! ## Resources -/
structure Res where
  blks : Nat → Prop
  rd : Nat → Prop := blks
  sub : ∀ b, blks b → rd b := by exact fun _ h => h
  holds : World → Prop
  stable : ∀ w w', holds w → (∀ b, rd b → w'.heap[b]? = w.heap[b]?) → holds w'
  bound : ∀ w, holds w → ∀ b, rd b → b < w.heap.size
/-- what one may write, the other does not read -/
def Sp (r s : Res) : Prop := (∀ b, r.blks b → ¬ s.rd b) ∧ ∀ b, s.blks b → ¬ r.rd b
theorem Sp.symm {r s : Res} (h : Sp r s) : Sp s r := ⟨h.2, h.1⟩

structure ok (G : World) (H : List Res) (w : World) : Prop where
  os : w.os = G.os
  output : w.output = G.output
  size : G.heap.size ≤ w.heap.size
  base : ∀ b, b < G.heap.size → w.heap[b]? = G.heap[b]?
  low : ∀ r ∈ H, ∀ b, r.rd b → G.heap.size ≤ b
  holds : ∀ r ∈ H, r.holds w
  sep : H.Pairwise Sp

theorem ok.nil (G : World) : ok G [] G :=
  ⟨rfl, rfl, Nat.le_refl _, fun _ _ => rfl, fun _ h => by simp at h, fun _ h => by simp at h, .nil⟩

/-- the worlds of another count of draws -/
theorem Res.of_heap (r : Res) {w w' : World} (h : r.holds w) (e : w'.heap = w.heap) : r.holds w' := r.stable w w' h fun _ _ => by rw [e]

theorem ok.of_heap {G : World} {H : List Res} {w w' : World} (h : ok G H w) (e : w'.heap = w.heap) (eo : w'.os = w.os) (ep : w'.output = w.output) : ok G H w' :=
  ⟨eo.trans h.os, ep.trans h.output, by rw [e]; exact h.size, fun b hb => by rw [e]; exact h.base b hb, h.low, fun r hr => r.of_heap (h.holds r hr) e, h.sep⟩

theorem ok.sub {G : World} {H H' : List Res} {w : World} (h : ok G H w) (s : H'.Sublist H) : ok G H' w :=
  ⟨h.os, h.output, h.size, h.base, fun r hr => h.low r (s.subset hr), fun r hr => h.holds r (s.subset hr), h.sep.sublist s⟩

theorem ok.perm {G : World} {H H' : List Res} {w : World} (h : ok G H w) (s : H.Perm H') : ok G H' w :=
  ⟨h.os, h.output, h.size, h.base, fun r hr => h.low r (s.mem_iff.2 hr), fun r hr => h.holds r (s.mem_iff.2 hr),
    (s.pairwise_iff fun {_ _} hab => hab.symm).1 h.sep⟩

theorem ok.tail {G : World} {r : Res} {H : List Res} {w : World} (h : ok G (r :: H) w) : ok G H w := h.sub (List.sublist_cons_self r H)
theorem ok.head {G : World} {r : Res} {H : List Res} {w : World} (h : ok G (r :: H) w) : r.holds w := h.holds r List.mem_cons_self

/-- The first resource turns into others: of its own blocks and of new ones. -/
theorem ok.turn {G : World} {r : Res} {H N : List Res} {w w' : World} (h : ok G (r :: H) w)
    (hos : w'.os = w.os) (hout : w'.output = w.output) (hsize : w.heap.size ≤ w'.heap.size)
    (hsame : ∀ b, b < w.heap.size → ¬ r.blks b → w'.heap[b]? = w.heap[b]?)
    (hN : ∀ s ∈ N, s.holds w') (hb : ∀ s ∈ N, ∀ b, s.rd b → r.blks b ∨ w.heap.size ≤ b)
    (hsep : N.Pairwise Sp) : ok G (N ++ H) w' := by
  have hlowr := h.low r List.mem_cons_self
  have hH := h.tail
  have hnr : ∀ s ∈ H, Sp r s := fun s hs => (List.pairwise_cons.1 h.sep).1 s hs
  refine ⟨hos.trans h.os, hout.trans h.output, Nat.le_trans h.size hsize, ?_, ?_, ?_, ?_⟩
  · intro b hb'
    rw [hsame b (Nat.lt_of_lt_of_le hb' h.size) (fun hr => by have := hlowr b (r.sub b hr); omega), h.base b hb']
  · intro s hs b hsb
    rcases List.mem_append.1 hs with hs | hs
    · rcases hb s hs b hsb with h1 | h1
      · exact hlowr b (r.sub b h1)
      · exact Nat.le_trans h.size h1
    · exact hH.low s hs b hsb
  · intro s hs
    rcases List.mem_append.1 hs with hs | hs
    · exact hN s hs
    · exact s.stable w w' (hH.holds s hs) fun b hsb => hsame b (s.bound w (hH.holds s hs) b hsb) (fun hr => (hnr s hs).1 b hr hsb)
  · refine List.pairwise_append.2 ⟨hsep, hH.sep, fun a ha s hs => ⟨fun b hab hsb => ?_, fun b hsb hab => ?_⟩⟩
    · rcases hb a ha b (a.sub b hab) with h1 | h1
      · exact (hnr s hs).1 b h1 hsb
      · have := s.bound w (hH.holds s hs) b hsb; omega
    · rcases hb a ha b hab with h1 | h1
      · exact (hnr s hs).2 b hsb (r.sub b h1)
      · have := s.bound w (hH.holds s hs) b (s.sub b hsb); omega

/-- Nothing turns; there are new ones. -/
theorem ok.new {G : World} {H N : List Res} {w w' : World} (h : ok G H w)
    (hos : w'.os = w.os) (hout : w'.output = w.output) (hsize : w.heap.size ≤ w'.heap.size)
    (hsame : ∀ b, b < w.heap.size → w'.heap[b]? = w.heap[b]?)
    (hN : ∀ s ∈ N, s.holds w') (hb : ∀ s ∈ N, ∀ b, s.rd b → w.heap.size ≤ b)
    (hsep : N.Pairwise Sp) : ok G (N ++ H) w' := by
  let z : Res := ⟨fun _ => False, fun _ => False, fun _ h => h, fun _ => True, fun _ _ _ _ => trivial, fun _ _ _ h => h.elim⟩
  have hz : ok G (z :: H) w := ⟨h.os, h.output, h.size, h.base,
    fun r hr b hb => (List.mem_cons.1 hr).elim (fun e => by subst e; exact hb.elim) (fun hr => h.low r hr b hb),
    fun r hr => (List.mem_cons.1 hr).elim (fun e => by subst e; exact trivial) (fun hr => h.holds r hr),
    List.pairwise_cons.2 ⟨fun _ _ => ⟨fun _ hb => hb.elim, fun _ _ hb => hb.elim⟩, h.sep⟩⟩
  exact hz.turn hos hout hsize (fun b hb _ => hsame b hb) hN (fun s hs b hb' => .inr (hb s hs b hb')) hsep

/-- The resource at a place turns into another one: of its own blocks and of new ones. -/
theorem ok.set {G : World} {H : List Res} {i : Nat} {r s : Res} {w w' : World} (h : ok G H w) (hi : H[i]? = some r)
    (hos : w'.os = w.os) (hout : w'.output = w.output) (hsize : w.heap.size ≤ w'.heap.size)
    (hsame : ∀ b, b < w.heap.size → ¬ r.blks b → w'.heap[b]? = w.heap[b]?)
    (hs : s.holds w') (hb : ∀ b, s.rd b → r.blks b ∨ w.heap.size ≤ b) : ok G (H.set i s) w' := by
  obtain ⟨hlt, rfl⟩ := List.getElem?_eq_some_iff.1 hi
  have e1 : H = H.take i ++ H[i] :: H.drop (i + 1) := by simp
  have e2 : H.set i s = H.take i ++ s :: H.drop (i + 1) := by rw [List.set_eq_take_append_cons_drop, if_pos hlt]
  have h1 : ok G (H[i] :: (H.take i ++ H.drop (i + 1))) w := by
    refine ok.perm (H := H) h ?_
    conv => lhs; rw [e1]
    exact List.perm_middle
  have h2 := h1.turn (N := [s]) hos hout hsize hsame (fun t ht => by simp at ht; subst ht; exact hs) (fun t ht b hb' => by simp at ht; subst ht; exact hb b hb') (by simp)
  rw [e2]
  exact h2.perm (by simpa using List.perm_middle.symm)
theorem ok.at {G : World} {H : List Res} {i : Nat} {r : Res} {w : World} (h : ok G H w) (hi : H[i]? = some r) : r.holds w := h.holds r (List.mem_of_getElem? hi)
/-- keep some, in their order -/
def keep : List Bool → List Res → List Res
  | true :: bs, r :: rs => r :: keep bs rs
  | false :: bs, _ :: rs => keep bs rs
  | _, rs => rs
theorem keep_sub : ∀ (bs : List Bool) (rs : List Res), (keep bs rs).Sublist rs
  | [], rs => by simp [keep]
  | true :: bs, [] => by simp [keep]
  | false :: bs, [] => by simp [keep]
  | true :: bs, r :: rs => by simpa [keep] using keep_sub bs rs
  | false :: bs, r :: rs => by simpa [keep] using (keep_sub bs rs).trans (List.sublist_cons_self r rs)
theorem ok.keep {G : World} {H : List Res} {w : World} (bs : List Bool) (h : ok G H w) : ok G (keep bs H) w := h.sub (keep_sub bs H)
/-- take some out of the first n, in a new order; those behind stay -/
def reord (is : List Nat) (n : Nat) (H : List Res) : List Res := is.filterMap (H[·]?) ++ H.drop n
theorem sep_at {H : List Res} (h : H.Pairwise Sp) {i j : Nat} {r s : Res} (hij : i ≠ j) (hr : H[i]? = some r) (hs : H[j]? = some s) : Sp r s := by
  obtain ⟨hi, rfl⟩ := List.getElem?_eq_some_iff.1 hr
  obtain ⟨hj, rfl⟩ := List.getElem?_eq_some_iff.1 hs
  rcases Nat.lt_or_ge i j with hlt | hge
  · exact (List.pairwise_iff_getElem.1 h) i j hi hj hlt
  · have := (List.pairwise_iff_getElem.1 h) j i hj hi (by omega)
    exact this.symm
/-- what is only read may be had twice -/
theorem ok.dup {G : World} {r : Res} {H : List Res} {w : World} (h : ok G (r :: H) w) (hr : ∀ b, ¬ r.blks b) : ok G (r :: r :: H) w :=
  ⟨h.os, h.output, h.size, h.base, fun s hs => h.low s ((List.mem_cons.1 hs).elim (fun e => e ▸ List.mem_cons_self) id), fun s hs => h.holds s ((List.mem_cons.1 hs).elim (fun e => e ▸ List.mem_cons_self) id),
    List.pairwise_cons.2 ⟨fun s hs => by
      rcases List.mem_cons.1 hs with rfl | hs
      · exact ⟨fun b hb => absurd hb (hr b), fun b hb => absurd hb (hr b)⟩
      · exact (List.pairwise_cons.1 h.sep).1 s hs, h.sep⟩⟩
def distinct : List Nat → Nat → Bool
  | [], _ => true
  | i :: r, n => Nat.blt i n && !r.contains i && distinct r n
theorem ok.reord {G : World} {H : List Res} {w : World} (is : List Nat) (n : Nat) (hd : distinct is n = true) (h : ok G H w) : ok G (reord is n H) w := by
  have hmem : ∀ r ∈ Sx.reord is n H, r ∈ H := fun r hr => by
    rcases List.mem_append.1 hr with hr | hr
    · obtain ⟨i, _, e⟩ := List.mem_filterMap.1 hr; exact List.mem_of_getElem? e
    · exact List.mem_of_mem_drop hr
  refine ⟨h.os, h.output, h.size, h.base, fun r hr => h.low r (hmem r hr), fun r hr => h.holds r (hmem r hr), ?_⟩
  induction is with
  | nil => simpa [Sx.reord] using h.sep.sublist (List.drop_sublist n H)
  | cons i is ih =>
    simp only [distinct, Bool.and_eq_true, Bool.not_eq_true'] at hd
    obtain ⟨⟨h1, h2⟩, h3⟩ := hd
    have ih' := ih h3 (fun r hr => by
      refine hmem r ?_
      simp only [Sx.reord, List.filterMap_cons] at hr ⊢
      rcases List.mem_append.1 hr with hr | hr
      · refine List.mem_append.2 (.inl ?_)
        cases H[i]? with
        | none => exact hr
        | some x => exact List.mem_cons_of_mem _ hr
      · exact List.mem_append.2 (.inr hr))
    simp only [Sx.reord, List.filterMap_cons] at ih' ⊢
    cases hx : H[i]? with
    | none => simpa using ih'
    | some x =>
      simp only [List.cons_append]
      refine List.pairwise_cons.2 ⟨fun s hs => ?_, ih'⟩
      rcases List.mem_append.1 hs with hs | hs
      · obtain ⟨j, hj, e⟩ := List.mem_filterMap.1 hs
        refine sep_at h.sep (fun e' => ?_) hx e
        subst e'
        simp at h2
        exact h2 hj
      · obtain ⟨j, e⟩ := List.getElem?_of_mem hs
        rw [List.getElem?_drop] at e
        have hlt : i < n := by simp [Nat.blt] at h1; omega
        exact sep_at h.sep (by omega) hx e

/-! ## A box: a whole block -/
theorem size_lt {w : World} {b : Nat} {o : Obj} (h : w.heap[b]? = some o) : b < w.heap.size := by
  rcases Nat.lt_or_ge b w.heap.size with h' | h'
  · exact h'
  · simp [Array.getElem?_eq_none h'] at h

def bx (b : Nat) (cs : List Value) : Res where
  blks := (· = b)
  holds w := ∃ e, w.heap[b]? = some (.cells cs.toArray e)
  stable := fun w w' ⟨e, h⟩ hs => ⟨e, by rw [hs b rfl]; exact h⟩
  bound := fun w ⟨_, h⟩ b' hb => by subst hb; exact size_lt h

/-- A slice value and what it reads, in memory of its own: 'n' elements of 'sz' cells. -/
def vblk : Value → Nat → Prop
  | .slice (some a) _ _, b => a.block = b
  | _, _ => False

def Own (w : World) (v : Value) (n sz : Nat) (cs : List Value) : Prop :=
  cs.length = n * sz ∧ ((v = .slice none 0 0 ∧ n = 0) ∨
  ∃ b cap pre post e, v = .slice (some ⟨b, pre.length, none⟩) n cap ∧ w.heap[b]? = some (.cells (pre ++ cs ++ post).toArray e) ∧ n ≤ cap ∧ cap * sz ≤ cs.length + post.length ∧ cap ≤ 9223372036854775807)

def sl (v : Value) (n sz : Nat) (cs : List Value) : Res where
  blks := vblk v
  holds w := Own w v n sz cs
  stable := fun w w' ⟨hl, h⟩ hs => by
    refine ⟨hl, h.imp id ?_⟩
    rintro ⟨b, cap, pre, post, e, rfl, hb, h1, h2⟩
    exact ⟨b, cap, pre, post, e, rfl, by rw [hs b rfl]; exact hb, h1, h2⟩
  bound := fun w ⟨_, h⟩ b' hb => by
    rcases h with ⟨rfl, _⟩ | ⟨b, cap, pre, post, e, rfl, hb', _⟩
    · exact hb.elim
    · simp only [vblk] at hb; subst hb; exact size_lt hb'

/-- What a slice value reads, whosever the memory is. -/
def Rd (w : World) (v : Value) (n sz : Nat) (cs : List Value) : Prop :=
  cs.length = n * sz ∧ ((v = .slice none 0 0 ∧ n = 0) ∨
  ∃ b off cap, v = .slice (some ⟨b, off, none⟩) n cap ∧ n ≤ cap ∧ ∀ i (h : i < cs.length), w.cell? ⟨b, off + i, none⟩ = some cs[i])

theorem Own.rd {w : World} {v : Value} {n sz : Nat} {cs : List Value} (h : Own w v n sz cs) : Rd w v n sz cs := by
  refine ⟨h.1, h.2.imp id ?_⟩
  rintro ⟨b, cap, pre, post, e, rfl, hb, h1, h2⟩
  refine ⟨b, pre.length, cap, rfl, h1, fun i hi => ?_⟩
  simp only [World.cell?, hb]
  simp [List.getElem?_append, hi]

def Rds (G : World) (H : List Res) (v : Value) (n sz : Nat) (cs : List Value) : Prop := ∀ w, ok G H w → Rd w v n sz cs
theorem Rds.at {G : World} {H : List Res} {v : Value} {n sz : Nat} {cs : List Value} (i : Nat) (h : H[i]? = some (sl v n sz cs)) : Rds G H v n sz cs := fun _ hw => Own.rd (hw.at h)
theorem ok.drop {G : World} {H : List Res} {w : World} (h : ok G H w) (k : Nat) : ok G (H.drop k) w := h.sub (List.drop_sublist k H)
theorem Rds.lift {G : World} {H F : List Res} {v : Value} {n sz : Nat} {cs : List Value} (k : Nat) (hk : H.drop k = F) (h : Rds G F v n sz cs) : Rds G H v n sz cs := fun w hw => h w (hk ▸ hw.drop k)
theorem Rds.own {G : World} {H : List Res} {v : Value} {n sz : Nat} {cs : List Value} : Rds G (sl v n sz cs :: H) v n sz cs := fun _ h => Own.rd h.head
theorem Rds.up {G : World} {r : Res} {H : List Res} {v : Value} {n sz : Nat} {cs : List Value} (h : Rds G H v n sz cs) : Rds G (r :: H) v n sz cs := fun w hw => h w hw.tail

/-! ## Frames: what is known of temporaries, the newest first -/
abbrev Env := List (Nat × Value)
def Env.get : Env → Nat → Option Value
  | [], _ => none
  | (k, v) :: r, t => if Nat.beq k t then some v else Env.get r t
structure Env.ok (N : Nat) (T : Env) (a : Act) : Prop where
  defers : a.defers = []
  size : N ≤ a.tmps.size
  tmps : ∀ t v, T.get t = some v → a.tmps[t]? = some v
def Env.set (T : Env) (d : Nat) (v : Value) : Env := (d, v) :: T
/-- all that T' tells, T tells -/
def Env.le : Env → Env → Prop
  | [], _ => True
  | (t, v) :: r, T => T.get t = some v ∧ Env.le r T
theorem Env.le_get : ∀ {T' T : Env}, Env.le T' T → ∀ t v, T'.get t = some v → T.get t = some v
  | [], _, _, _, _, h => by simp [Env.get] at h
  | (k, u) :: r, T, ⟨h1, h2⟩, t, v, h => by
    simp only [Env.get] at h
    split at h
    · rename_i hk; have := Nat.eq_of_beq_eq_true hk; subst this; cases h; exact h1
    · exact Env.le_get h2 t v h
theorem Env.ok.le {N : Nat} {T T' : Env} {a : Act} (h : Env.ok N T a) (s : Env.le T' T) : Env.ok N T' a := ⟨h.defers, h.size, fun t v hg => h.tmps t v (Env.le_get s t v hg)⟩
theorem Env.ok.put {N : Nat} {T : Env} {a : Act} (h : Env.ok N T a) {d : Nat} (hd : Nat.ble (d + 1) N = true) (v : Value) : Env.ok N (T.set d v) (a.put (some d) v) := by
  have hd' : d < N := Nat.le_of_ble_eq_true hd
  refine ⟨h.defers, by simpa [Act.put] using h.size, fun t u hg => ?_⟩
  simp only [Env.set, Env.get] at hg
  simp only [Act.put]
  split at hg
  · rename_i hk; have := Nat.eq_of_beq_eq_true hk; subst this; cases hg
    have := h.size
    rw [Array.getElem?_setIfInBounds_self_of_lt (by omega)]
  · rename_i hk
    rw [Array.getElem?_setIfInBounds_ne (fun e => hk (by subst e; exact Nat.beq_refl _))]
    exact h.tmps t u hg
theorem Env.ok.put_none {N : Nat} {T : Env} {a : Act} (h : Env.ok N T a) (v : Value) : Env.ok N T (a.put none v) := h

def Env.opd (T : Env) : Operand → Option Value
  | .tmp t => T.get t
  | .const v => some v
  | .global g => some (.pointer (some ⟨g, 0, none⟩))
  | .func f => some (.func (.func f) #[] #[])
theorem Env.ok.eval {N : Nat} {T : Env} {a : Act} (h : Env.ok N T a) {x : Operand} {v : Value} (e : T.opd x = some v) : a.eval x = v := by
  cases x with
  | tmp t =>
    have := h.tmps _ _ e
    simp [Act.eval, Array.getD_eq_getD_getElem?, this]
  | const _ => simpa [Env.opd, Act.eval] using e
  | global _ => simpa [Env.opd, Act.eval] using e
  | func _ => simpa [Env.opd, Act.eval] using e
def Env.opds (T : Env) : List Operand → Option (List Value)
  | [] => some []
  | x :: r => match T.opd x, T.opds r with
    | some v, some vs => some (v :: vs)
    | _, _ => none
theorem Env.ok.evals {N : Nat} {T : Env} {a : Act} (h : Env.ok N T a) : ∀ {xs : List Operand} {vs : List Value}, T.opds xs = some vs → xs.map a.eval = vs
  | [], vs, e => by simpa [Env.opds] using e
  | x :: r, vs, e => by
    simp only [Env.opds] at e
    split at e
    · rename_i v vs' h1 h2
      cases e
      simp [h.eval h1, h.evals h2]
    · cases e

structure Sat (G : World) (H : List Res) (N : Nat) (T : Env) (a : Act) (w : World) : Prop where
  env : Env.ok N T a
  mem : ok G H w

abbrev Post := Exit → Act → World → Prop
def W (P : Program) (G : World) (N : Nat) (c : Code) (T : Env) (H : List Res) (Q : Post) : Prop := ∀ a w, Sat G H N T a w → c.wp P Q a w
def WL (P : Program) (G : World) (N : Nat) (ops : Array Oper) (l : List Oper) (T : Env) (H : List Res) (Q : Post) : Prop := ∀ a w, Sat G H N T a w → wpList P ops Q l a w
/-- A state suffices for what a post says of an exit. -/
def Go (G : World) (N : Nat) (e : Exit) (T : Env) (H : List Res) (Q : Post) : Prop := ∀ a w, Sat G H N T a w → Q e a w

variable {P : Program} {G : World} {N : Nat} {T : Env} {H : List Res} {Q : Post}

/-- What a state suffices for, seen as what it is. -/
theorem Go.as {ex : Exit} {y : Code} {Q3 : Post} (e : ∀ a w, y.wp P Q3 a w → Q ex a w) (h : W P G N y T H Q3) : Go G N ex T H Q := fun a w s => e a w (h a w s)

/-! ## Code -/
theorem W.seq {x y : Code} (h : W P G N x T H (Exit.then (y.wp P Q) Q)) : W P G N (.seq x y) T H Q := fun a w s => wp_seq (h a w s)
theorem W.region {id : Nat} {l : List Oper} (h : WL P G N l.toArray l T H Q) : W P G N (.region id l.toArray false) T H Q :=
  fun a w s => wp_region_lit (h a w s)
theorem W.skip (h : Go G N .normal T H Q) : W P G N .skip T H Q := fun a w s => wp_skip (h a w s)
theorem W.exit {id : Nat} (h : Go G N (.exit id) T H Q) : W P G N (.exit id) T H Q := fun a w s => wp_exit (h a w s)
theorem W.ret (h : Go G N .ret T H Q) : W P G N .ret T H Q := fun a w s => wp_ret (h a w s)
theorem W.block {id : Nat} {c : Code} (h : W P G N c T H (Exit.inBlock id Q)) : W P G N (.block id c) T H Q := fun a w s => wp_block (h a w s)
theorem W.cond_t {c : Operand} {x y : Code} {b : Bool} (hc : T.opd c = some (.bool b)) (hb : b = true) (h : W P G N x T H Q) : W P G N (.cond c x y) T H Q :=
  fun a w s => wp_cond_true (by rw [s.env.eval hc, hb]) (h a w s)
theorem W.cond_f {c : Operand} {x y : Code} {b : Bool} (hc : T.opd c = some (.bool b)) (hb : b = false) (h : W P G N y T H Q) : W P G N (.cond c x y) T H Q :=
  fun a w s => wp_cond_false (by rw [s.env.eval hc, hb]) (h a w s)
theorem W.join {c : Code} (J : Post) (h1 : W P G N c T H J) (h2 : ∀ e a w, J e a w → Q e a w) : W P G N c T H Q := fun a w s => wp_mono (h1 a w s) h2
theorem Go.use {e : Exit} {a : Act} {w : World} (s : Sat G H N T a w) (h : Go G N e T H Q) : Q e a w := h a w s
theorem W.use {c : Code} {a : Act} {w : World} (s : Sat G H N T a w) (h : W P G N c T H Q) : c.wp P Q a w := h a w s
/-- Code, and what stands behind it from whatever it leaves. -/
theorem W.seqj {x y : Code} (J : Act → World → Prop) (h1 : W P G N x T H (Exit.then J Q)) (h2 : ∀ a w, J a w → y.wp P Q a w) : W P G N (.seq x y) T H Q :=
  W.seq fun a w s => wp_mono (h1 a w s) fun e a w q => by cases e <;> first | exact h2 _ _ q | exact q
theorem of_guard {α : Type} {p : Prop} [Decidable p] {x : Option α} {r : α} (h : (if p then x else none) = some r) : p ∧ x = some r := by
  split at h
  · exact ⟨‹_›, h⟩
  · cases h
theorem of_bind {α β : Type} {x : Option α} {f : α → Option β} {r : β} (h : x.bind f = some r) : ∃ a, x = some a ∧ f a = some r := Option.bind_eq_some_iff.1 h
theorem not_t {b : Bool} (h : b = false) : (!b) = true := by rw [h]; rfl
theorem not_f {b : Bool} (h : b = true) : (!b) = false := by rw [h]; rfl
theorem b_f {b : Bool} (h : ¬ b = true) : b = false := by cases b <;> simp_all
theorem W.cond {c : Operand} {x y : Code} {b : Bool} (hc : T.opd c = some (.bool b)) (ht : b = true → W P G N x T H Q) (hf : b = false → W P G N y T H Q) : W P G N (.cond c x y) T H Q :=
  fun a w s => wp_cond_split (s.env.eval hc) (fun e => ht e a w s) (fun e => hf e a w s)
theorem W.mono {c : Code} {Q' : Post} (h : W P G N c T H Q) (hq : ∀ e a w, Q e a w → Q' e a w) : W P G N c T H Q' := fun a w s => wp_mono (h a w s) hq
theorem W.weak {c : Code} {T' : Env} {H' : List Res} (hT : Env.le T' T) (hH : ∀ w, ok G H w → ok G H' w) (h : W P G N c T' H' Q) : W P G N c T H Q :=
  fun a w s => h a w ⟨s.env.le hT, hH w s.mem⟩
theorem Go.weak {e : Exit} {T' : Env} {H' : List Res} (hT : Env.le T' T) (hH : ∀ w, ok G H w → ok G H' w) (h : Go G N e T' H' Q) : Go G N e T H Q :=
  fun a w s => h a w ⟨s.env.le hT, hH w s.mem⟩
/-- on with what stands behind -/
theorem Go.then_ {y : Code} (h : W P G N y T H Q) : Go G N .normal T H (Exit.then (y.wp P Q) Q) := fun a w s => h a w s
theorem Go.wp {y : Code} (h : W P G N y T H Q) : ∀ a w, Sat G H N T a w → y.wp P Q a w := h

/-! ## Regions in the order of the text -/
theorem WL.nil {ops : Array Oper} (h : Go G N .normal T H Q) : WL P G N ops [] T H Q := fun a w s => h a w s

section
variable {ops : Array Oper} {d : Nat} {rest : List Oper} {ty : TypeId} {pos : String} {af : Array Edge} {op : Op}
/-- An operation that only computes: its value. -/
def OpV (P : Program) (G : World) (N : Nat) (T : Env) (H : List Res) (op : Op) (ty : TypeId) (v : Value) : Prop :=
  ∀ a w, Sat G H N T a w → ∀ dst pos af g, (execOp a.eval ⟨dst, op, ty, pos, af, g⟩).run P w = .ok (.value v) w
/-- An operation that turns the world: its value and the resources behind it. -/
def OpX (P : Program) (G : World) (N : Nat) (T : Env) (H : List Res) (op : Op) (ty : TypeId) {X : Type} (v : X → Value) (H' : X → List Res) : Prop :=
  ∀ a w, Sat G H N T a w → ∀ dst pos af g K Q, (∀ x w', ok G (H' x) w' → K (a.put dst (v x)) w') → (⟨dst, op, ty, pos, af, g⟩ : Oper).wp P a w K Q
theorem WL.q {v : Value} (run : OpV P G N T H op ty v) (hN : Nat.ble (d + 1) N = true) (h : WL P G N ops rest (T.set d v) H Q) : WL P G N ops (⟨some d, op, ty, pos, af, none⟩ :: rest) T H Q := by
  intro a w s
  unfold wpList
  rw [if_pos (by simp [Region.wanted])]
  refine .inl ?_
  rw [Oper.wp, run a w s, Oper.upon_value]
  exact h _ w ⟨s.env.put hN v, s.mem⟩
theorem WL.x {X : Type} {v : X → Value} {H' : X → List Res} (run : OpX P G N T H op ty v H') (hN : Nat.ble (d + 1) N = true) (h : ∀ x, WL P G N ops rest (T.set d (v x)) (H' x) Q) :
    WL P G N ops (⟨some d, op, ty, pos, af, none⟩ :: rest) T H Q := by
  intro a w s
  unfold wpList
  rw [if_pos (by simp [Region.wanted])]
  exact .inl (run a w s _ _ _ _ _ _ fun x w' hk => h x _ w' ⟨s.env.put hN (v x), hk⟩)
theorem WL.x0 {X : Type} {v : X → Value} {H' : X → List Res} (run : OpX P G N T H op ty v H') (h : ∀ x, WL P G N ops rest T (H' x) Q) :
    WL P G N ops (⟨none, op, ty, pos, af, none⟩ :: rest) T H Q := by
  intro a w s
  unfold wpList
  rw [if_pos (by simp [Region.wanted])]
  exact .inl (run a w s _ _ _ _ _ _ fun x w' hk => h x _ w' ⟨s.env, hk⟩)
theorem OpX.val {X : Type} {v : X → Value} {H' : X → List Res} {op : Op} {ty : TypeId}
    (run : ∀ a w, Sat G H N T a w → ∀ dst pos af g, ∃ x w', (execOp a.eval ⟨dst, op, ty, pos, af, g⟩).run P w = .ok (.value (v x)) w' ∧ ok G (H' x) w') : OpX P G N T H op ty v H' := by
  intro a w s dst pos af g K Q hK
  obtain ⟨x, w', e, hk⟩ := run a w s dst pos af g
  rw [Oper.wp, e, Oper.upon_value]
  exact hK x w' hk
theorem OpX.skip {H' : List Res} {op : Op} {ty : TypeId}
    (run : ∀ a w, Sat G H N T a w → ∀ dst pos af g, ∃ w', (execOp a.eval ⟨dst, op, ty, pos, af, g⟩).run P w = .ok .skip w' ∧ ok G H' w') : OpX P G N T H op ty (fun _ : Unit => undef) (fun _ => H') := by
  intro a w s dst pos af g K Q hK
  obtain ⟨w', e, hk⟩ := run a w s dst pos af g
  rw [Oper.wp, e, Oper.upon_skip]
  exact hK () w' hk
theorem OpX.perm {X : Type} {v : X → Value} {H' : X → List Res} {op : Op} {ty : TypeId} {H2 : List Res} (h : OpX P G N T H2 op ty v H') (hp : H.Perm H2) : OpX P G N T H op ty v H' :=
  fun a w s => h a w ⟨s.env, s.mem.perm hp⟩
theorem OpX.weak {X : Type} {v : X → Value} {H' : X → List Res} {op : Op} {ty : TypeId} {H2 : List Res} (h : OpX P G N T H2 op ty v H') (hp : ∀ w, ok G H w → ok G H2 w) : OpX P G N T H op ty v H' :=
  fun a w s => h a w ⟨s.env, hp w s.mem⟩
/-- An operation with a guard that is met. -/
theorem WL.on {dst : Option Nat} {j : Nat} {b c : Bool} {t : Nat} (hj : ((ops[j]?).bind (·.dst)) = some t) (hb : T.get t = some (.bool c)) (hc : c = b)
    (h : WL P G N ops (⟨dst, op, ty, pos, af, none⟩ :: rest) T H Q) : WL P G N ops (⟨dst, op, ty, pos, af, some (j, b)⟩ :: rest) T H Q := by
  intro a w s
  subst hc
  have h' := h a w s
  unfold wpList at h' ⊢
  have ht := s.env.tmps _ _ hb
  rw [if_pos (by simp [Region.wanted])] at h'
  rw [if_pos (by simp [Region.wanted, yielded, hj, ht])]
  exact h'
/-- An operation with a guard that is not met. -/
theorem WL.off {j : Nat} {b c : Bool} {t : Nat} (hj : ((ops[j]?).bind (·.dst)) = some t) (hb : T.get t = some (.bool c)) (hc : c = !b)
    (hN : Nat.ble (d + 1) N = true) (h : WL P G N ops rest (T.set d undef) H Q) : WL P G N ops (⟨some d, op, ty, pos, af, some (j, b)⟩ :: rest) T H Q := by
  intro a w s
  unfold wpList
  have ht := s.env.tmps _ _ hb
  subst hc
  rw [if_neg (by cases b <;> simp [Region.wanted, yielded, hj, ht])]
  exact h _ w ⟨s.env.put hN _, s.mem⟩
/-- An operation whose guard has no value. -/
theorem WL.off_u {j : Nat} {b : Bool} {t : Nat} (hj : ((ops[j]?).bind (·.dst)) = some t) (hb : T.get t = some undef)
    (hN : Nat.ble (d + 1) N = true) (h : WL P G N ops rest (T.set d undef) H Q) : WL P G N ops (⟨some d, op, ty, pos, af, some (j, b)⟩ :: rest) T H Q := by
  intro a w s
  unfold wpList
  have ht := s.env.tmps _ _ hb
  rw [if_neg (by simp [Region.wanted, yielded, hj, ht, undef])]
  exact h _ w ⟨s.env.put hN _, s.mem⟩
end
end Go.Sx
