/- The reference's closures and quotients. No condition. -/
import Derived.Test.YtekmmbgbhjeoaaaZO
set_option linter.unusedSimpArgs false
set_option linter.unusedVariables false
namespace Go.Mi
open Go Go.Sx Go.Pl Go.Lq
variable {q : S_Square}

/-- the congruence of a list -/
abbrev Cx (q : S_Square) (xs : List Int) : Int → Int → Prop := Cg q.Order (op q) (Ge q.Order fun x => x ∈ xs)
theorem Cx.eqv (h : Sq q.Order (op q)) (xs : List Int) : Eqv q.Order (Cx q xs) := ⟨fun x hx => .refl hx, fun x y _ _ c => .symm c, fun x y z _ _ _ c d => .trans c d⟩
theorem bs_ge {xs : List Int} (hx : ∀ x ∈ xs, El q.Order x) : Bs (xs.map fun x => (#v[0, x] : Vector Int 2)) = Ge q.Order fun x => x ∈ xs := by
  funext a b
  apply propext
  constructor
  · rintro ⟨p, hp, rfl, rfl⟩
    obtain ⟨x, h, rfl⟩ := List.mem_map.1 hp
    exact ⟨(gv_two 0 x).1, by rw [(gv_two 0 x).2]; exact hx x h, by rw [(gv_two 0 x).2]; exact h⟩
  · rintro ⟨rfl, _, hb⟩
    exact ⟨_, List.mem_map_of_mem hb, gv_two 0 b⟩
theorem take_snoc {α : Type} [Inhabited α] {xs : List α} {i : Int} (h0 : 0 ≤ i) (h1 : i < xs.length) : xs.take (i + 1).toNat = xs.take i.toNat ++ [gl xs i] := by
  have := gl_nat xs i.toNat (by omega)
  rw [Int.toNat_of_nonneg h0] at this
  rw [this, show (i + 1).toNat = i.toNat + 1 by omega, List.take_succ_eq_append_getElem]
theorem pairs_ok {xs : List Int} (hl : xs.length ≤ 100000) : Ok (Lp.run (spec_l06Closure_L1 xs) (([] : List (Vector Int 2)), 0)) (· = xs.map fun x => (#v[0, x] : Vector Int 2)) := by
  refine Ok.up (step := spec_l06Closure_L1 xs) (fun v i => (v, i)) (fun v i => v = (xs.take i.toNat).map fun x => (#v[0, x] : Vector Int 2)) 0 xs.length (by omega) (fun v i i0 i1 hI => ?_) (fun v hI => ?_) rfl
  · unfold spec_l06Closure_L1
    have hlen : v.length ≤ xs.length := by
      have := List.length_take_le i.toNat xs
      rw [hI, List.length_map]; have := List.length_take_le' i.toNat xs; omega
    refine .yes i1 (.yes ⟨i0, i1⟩ (.yes (by simp; omega) (.ret (.inl ⟨v ++ [(#v[0, gl xs i] : Vector Int 2)], by simp only [w64 (x := i + 1) (by omega) (by omega)], ?_⟩))))
    rw [take_snoc i0 i1, List.map_append, hI]; rfl
  · unfold spec_l06Closure_L1
    refine .no (by simp) (.ret ⟨_, rfl, ?_⟩)
    rw [hI, show (xs.length : Int).toNat = xs.length by omega, List.take_length]
theorem first_zero {n : Int} {C : Int → Int → Prop} (hn : 0 < n) : 0 < (firsts n C).length ∧ gl (firsts n C) 0 = 0 := by
  have hz : isF C 0 := fun y a b => by omega
  have hm := (mem_firsts (C := C) (k := n) (x := 0) (by omega)).2 ⟨⟨by omega, hn⟩, hz⟩
  obtain ⟨k, k0, k1, e⟩ := mem_gl hm
  refine ⟨by omega, ?_⟩
  have h0 := (mem_firsts (by omega)).1 (gl_mem (xs := firsts n C) (i := 0) (by omega) (by omega))
  by_cases ek : k = 0
  · rw [ek] at e; exact e
  · have := gl_lt (firsts_sorted (C := C) n) (i := 0) (j := k) (by omega) (by omega) k1
    omega
theorem gl_map {α β : Type} [Inhabited α] [Inhabited β] (f : α → β) {xs : List α} {i : Int} (h0 : 0 ≤ i) (h1 : i < xs.length) : gl (xs.map f) i = f (gl xs i) := by
  have a := gl_nat (xs.map f) i.toNat (by simp; omega)
  have b := gl_nat xs i.toNat (by omega)
  rw [Int.toNat_of_nonneg h0] at a b
  rw [a, b]; simp
theorem closure_spec (h : Sq q.Order (op q)) {xs : List Int} (hx : ∀ x ∈ xs, El q.Order x) (hl : xs.length ≤ 100000) : Ok (spec_l06Closure q xs) (· = cls q.Order (Cx q xs) 0) := by
  have hn := h.le
  have hp := h.pos
  unfold spec_l06Closure
  refine .call (pairs_ok hl) fun ps hps => .call (classes_ok h (fun p hp => ?_) (by rw [hps, List.length_map]; exact hl)) fun c hc => .call (told_ok (C := Cx q xs) (by omega) hn fun i j hi hj => ?_) fun t ht => ?_
  · rw [hps] at hp
    obtain ⟨x, hm, rfl⟩ := List.mem_map.1 hp
    rw [(gv_two 0 x).1, (gv_two 0 x).2]; exact ⟨⟨by omega, by omega⟩, hx x hm⟩
  · rw [hc i j hi hj, hps, bs_ge hx]
  · have hz := first_zero (n := q.Order) (C := Cx q xs) (by omega)
    refine .yes ⟨by omega, by rw [ht]; unfold tolds; rw [List.length_map]; omega⟩ (.ret ?_)
    rw [ht]; unfold tolds
    rw [gl_map _ (by omega) (by omega), hz.2]
theorem same2_ok {a b : List Int} (hl : a.length ≤ 4294967296) : Ok (spec_l01Same2 a b) (fun r => r = true ↔ a = b) := by
  unfold spec_l01Same2
  refine .ite (fun e => .ret ⟨(fun h => nomatch h), fun h => absurd (by rw [h]) e⟩) (fun e => ?_)
  have el : a.length = b.length := by omega
  refine .call (Ok.up (step := spec_l01Same2_L1 a b) (fun (_ : Unit) i => i) (fun _ i => ∀ k : Int, 0 ≤ k → k < i → gl a k = gl b k) 0 a.length (by omega) (Q := fun r => (r = .inl () ∧ a = b) ∨ (r = .inr () ∧ a ≠ b)) (fun _ i i0 i1 hI => ?_) (fun _ hI => ?_) (a := ()) (fun k a b => by omega)) (fun r hr => ?_)
  · unfold spec_l01Same2_L1
    refine .yes i1 (.yes ⟨i0, i1⟩ (.yes ⟨i0, by omega⟩ (.ite (fun e2 => .ret (.inr ⟨_, rfl, .inr ⟨rfl, fun h => e2 (by rw [h])⟩⟩)) (fun e2 => .ret (.inl ⟨(), by rw [w64 (by omega) (by omega)], fun k k0 k1 => ?_⟩)))))
    by_cases ek : k = i
    · rw [ek]; exact Classical.not_not.1 e2
    · exact hI k k0 (by omega)
  · unfold spec_l01Same2_L1
    exact .no (by simp) (.ret ⟨_, rfl, .inl ⟨rfl, gl_ext el fun k k0 k1 => hI k k0 k1⟩⟩)
  · rcases hr with ⟨rfl, hab⟩ | ⟨rfl, hab⟩
    · exact .ret ⟨fun _ => hab, fun _ => rfl⟩
    · exact .ret ⟨(fun h => nomatch h), fun h => absurd h hab⟩
theorem sorted_ext : ∀ {a b : List Int}, a.Pairwise (· < ·) → b.Pairwise (· < ·) → (∀ x, x ∈ a ↔ x ∈ b) → a = b
  | [], [], _, _, _ => rfl
  | [], y :: b, _, _, h => absurd ((h y).2 List.mem_cons_self) (by simp)
  | x :: a, [], _, _, h => absurd ((h x).1 List.mem_cons_self) (by simp)
  | x :: a, y :: b, ha, hb, h => by
    obtain ⟨a1, a2⟩ := List.pairwise_cons.1 ha
    obtain ⟨b1, b2⟩ := List.pairwise_cons.1 hb
    have e : x = y := by
      rcases List.mem_cons.1 ((h x).1 List.mem_cons_self) with e | hx
      · exact e
      · rcases List.mem_cons.1 ((h y).2 List.mem_cons_self) with e | hy
        · exact e.symm
        · have := a1 y hy; have := b1 x hx; omega
    subst e
    rw [sorted_ext a2 b2 fun z => ?_]
    constructor
    · intro hz
      have := a1 z hz
      rcases List.mem_cons.1 ((h z).1 (List.mem_cons_of_mem _ hz)) with e | hz'
      · omega
      · exact hz'
    · intro hz
      have := b1 z hz
      rcases List.mem_cons.1 ((h z).2 (List.mem_cons_of_mem _ hz)) with e | hz'
      · omega
      · exact hz'
theorem cls_sorted {n : Int} {C : Int → Int → Prop} (x : Int) : (cls n C x).Pairwise (· < ·) := by
  classical
  unfold cls
  exact (elts_sorted _).filter _
theorem lst_sorted {xs : List Int} (h : IsLst q xs) : xs.Pairwise (· < ·) := by
  have step : ∀ i : Nat, i + 1 < xs.length → gl xs i < gl xs ((i : Int) + 1) := fun i hi => by
    have := (h (i + 1) hi).2 (by omega)
    rw [show ((i + 1 : Nat) : Int) - 1 = (i : Int) by omega] at this
    exact this
  have key : ∀ (d i : Nat), i + d + 1 < xs.length → gl xs i < gl xs ((i : Int) + d + 1) := by
    intro d
    induction d with
    | zero => intro i hi; have := step i (by omega); simpa using this
    | succ d ih =>
      intro i hi
      have a := ih i (by omega)
      have b := step (i + d + 1) (by omega)
      have e1 : ((i + d + 1 : Nat) : Int) = (i : Int) + d + 1 := by omega
      have e2 : (i : Int) + ((d + 1 : Nat) : Int) + 1 = (i : Int) + d + 1 + 1 := by omega
      rw [e1] at b
      rw [e2]; omega
  rw [List.pairwise_iff_getElem]
  intro i j hi hj hij
  have := key (j - i - 1) i (by omega)
  have e : (i : Int) + ((j - i - 1 : Nat) : Int) + 1 = (j : Int) := by omega
  rw [e, gl_nat xs i hi, gl_nat xs j hj] at this
  exact this
theorem lst_el {xs : List Int} (h : IsLst q xs) : ∀ x ∈ xs, El q.Order x := fun x hx => by
  obtain ⟨i, hi, rfl⟩ := List.getElem_of_mem hx
  have := (h i hi).1
  rw [gl_nat xs i hi] at this
  omega
theorem lst_len (hn : 0 ≤ q.Order) {xs : List Int} (h : IsLst q xs) : (xs.length : Int) ≤ q.Order := by
  have hs := lst_sorted h
  by_cases h0 : xs.length = 0
  · omega
  · have key : ∀ i : Nat, i < xs.length → (i : Int) ≤ gl xs i := by
      intro i
      induction i with
      | zero => intro hi; exact (h 0 hi).1.1
      | succ i ih =>
        intro hi
        have a := ih (by omega)
        have b := (h (i + 1) hi).2 (by omega)
        rw [show ((i + 1 : Nat) : Int) - 1 = (i : Int) by omega] at b
        omega
    have a := key (xs.length - 1) (by omega)
    have b := (h (xs.length - 1) (by omega)).1.2
    omega
def NormalL (q : S_Square) (xs : List Int) : Prop := ∀ x, El q.Order x → (x ∈ xs ↔ Cx q xs 0 x)
end Go.Mi
