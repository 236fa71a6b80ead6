/- The foundation of this claim's walks: slices of slices whose inner ones are only read, and may be shared. No condition. -/
import Derived.Test.YtekmmbgbhjeoaaaSxR
set_option linter.unusedSimpArgs false
set_option linter.unusedSectionVars false
set_option linter.unusedVariables false
namespace Go.Sx
open Go
variable {P : Program} {G : World} {N : Nat} {T : Env} {H F : List Res} {ty : TypeId}
variable {α : Type} [Inhabited α] {e : Enc α}

theorem pair_sp : ∀ {H : List Res}, H.Pairwise Sp → ∀ {r s : Res}, r ∈ H → s ∈ H → r ≠ s → Sp r s
  | [], _, _, _, hr, _, _ => nomatch hr
  | t :: H, h, r, s, hr, hs, hne => by
    have h' := List.pairwise_cons.1 h
    rcases List.mem_cons.1 hr with e1 | hr'
    · rcases List.mem_cons.1 hs with e2 | hs'
      · exact absurd (e1.trans e2.symm) hne
      · rw [e1]; exact h'.1 s hs'
    · rcases List.mem_cons.1 hs with e2 | hs'
      · rw [e2]; exact (h'.1 r hr').symm
      · exact pair_sp h'.2 hr' hs' hne
/-- a slice that is only read from now on -/
def srHolds (v : Value) (n sz : Nat) (cs : List Value) (w : World) : Prop := Rd w v n sz cs ∧ ∀ b, vblk v b → b < w.heap.size
theorem Rd.keep {w w' : World} {v : Value} {n sz : Nat} {cs : List Value} (h : Rd w v n sz cs) (hs : ∀ b, vblk v b → w'.heap[b]? = w.heap[b]?) : Rd w' v n sz cs := by
  refine ⟨h.1, h.2.imp id ?_⟩
  rintro ⟨b, off, cap, rfl, h1, h2⟩
  refine ⟨b, off, cap, rfl, h1, fun i hi => ?_⟩
  rw [← h2 i hi]
  simp only [World.cell?, hs b rfl]
theorem Own.bound {w : World} {v : Value} {n sz : Nat} {cs : List Value} (h : Own w v n sz cs) : ∀ b, vblk v b → b < w.heap.size := (sl v n sz cs).bound w h
theorem sr.keep {w w' : World} {v : Value} {n sz : Nat} {cs : List Value} (h : srHolds v n sz cs w) (hs : ∀ b, vblk v b → w'.heap[b]? = w.heap[b]?) : srHolds v n sz cs w' := by
  refine ⟨h.1.keep hs, fun b hb => ?_⟩
  have h1 := h.2 b hb
  have h2 := hs b hb
  rw [Array.getElem?_eq_getElem h1] at h2
  exact size_lt h2
def sr (v : Value) (n sz : Nat) (cs : List Value) : Res where
  blks _ := False
  rd := vblk v
  sub _ h := h.elim
  holds := srHolds v n sz cs
  stable _ _ h hs := sr.keep h hs
  bound _ h := h.2
def srT (e : Enc α) (v : Value) (xs : List α) : Res := sr v xs.length e.size (xs.flatMap e.cells)
theorem RdT.atR {v : Value} {xs : List α} (i : Nat) (h : H[i]? = some (srT e v xs)) : RdT e G H v xs := fun w hw => (hw.at h : srHolds _ _ _ _ w).1
theorem ok.sealT {w : World} {v : Value} {xs : List α} (h : ok G (slT e v xs :: H) w) : ok G (srT e v xs :: H) w :=
  h.conv (fun h => ⟨Own.rd h, Own.bound h⟩) fun b hb => hb

/-- A slice of slices: its own memory; the inner ones are only read. -/
def nrHolds (e : Enc α) (v : Value) (vs : List Value) (xss : List (List α)) (w : World) : Prop :=
  Own w v vs.length 1 vs ∧ vs.length = xss.length ∧ (∀ (i : Nat) (u : Value) (xs : List α), vs[i]? = some u → xss[i]? = some xs → srHolds u xs.length e.size (xs.flatMap e.cells) w) ∧ ∀ u ∈ vs, ∀ k, vblk v k → ¬ vblk u k
def nr (e : Enc α) (v : Value) (vs : List Value) (xss : List (List α)) : Res where
  blks := vblk v
  rd b := vblk v b ∨ ∃ u ∈ vs, vblk u b
  sub _ h := .inl h
  holds := nrHolds e v vs xss
  stable := fun w w' ⟨h1, h2, h3, h4⟩ hs =>
    ⟨(sl v vs.length 1 vs).stable w w' h1 fun b hb => hs b (.inl hb), h2, fun i u xs hu hx => sr.keep (h3 i u xs hu hx) fun b hb => hs b (.inr ⟨u, List.mem_of_getElem? hu, hb⟩), h4⟩
  bound := fun w ⟨h1, h2, h3, _⟩ b hb => by
    rcases hb with hb | ⟨u, hu, hb⟩
    · exact Own.bound h1 b hb
    · obtain ⟨i, xs, h5, h6⟩ := ns_two h2 hu
      exact (h3 i u xs h5 h6).2 b hb
theorem RdN.atR {v : Value} {vs : List Value} {xss : List (List α)} (i : Nat) (h : H[i]? = some (nr e v vs xss)) : RdN e G H v vs xss := fun w hw => by
  have h := hw.at h
  exact ⟨Own.rd h.1, h.2.1, fun i u xs hu hx => (h.2.2.1 i u xs hu hx).1⟩
/-- from now on the inner ones are only read -/
theorem ok.sealN {w : World} {v : Value} {vs : List Value} {xss : List (List α)} (h : ok G (ns e v vs xss :: H) w) : ok G (nr e v vs xss :: H) w :=
  h.conv (fun ⟨h1, h2, h3, h4⟩ => ⟨h1, h2, fun i u xs hu hx => ⟨Own.rd (h3 i u xs hu hx), Own.bound (h3 i u xs hu hx)⟩, (List.pairwise_cons.1 h4).1⟩) fun b hb => hb
theorem ok.addNilR {w : World} (e : Enc α) (h : ok G H w) : ok G (nr e (.slice none 0 0) [] [] :: H) w := ok.sealN (ok.addNilN e h)
/-- an inner slice, to be had beside -/
theorem ok.innerR {w : World} {v : Value} {vs : List Value} {xss : List (List α)} {n : Int} (hb : 0 ≤ n ∧ n < xss.length) (h : ok G (nr e v vs xss :: H) w) : ok G (srT e (gl vs n) (gl xss n) :: nr e v vs xss :: H) w := by
  obtain ⟨h1, h2, h3, h4⟩ := h.head
  have hm : gl vs n ∈ vs := List.mem_of_getElem? (gl_of (by rw [h2]; exact hb))
  have hs := List.pairwise_cons.1 h.sep
  refine ⟨h.os, h.output, h.size, h.base, fun r hr b hb' => ?_, fun r hr => ?_, List.pairwise_cons.2 ⟨fun r hr => ?_, h.sep⟩⟩
  · rcases List.mem_cons.1 hr with rfl | hr
    · exact h.low _ List.mem_cons_self b (.inr ⟨_, hm, hb'⟩)
    · exact h.low r hr b hb'
  · rcases List.mem_cons.1 hr with rfl | hr
    · exact h3 n.toNat _ _ (gl_of (by rw [h2]; exact hb)) (gl_of hb)
    · exact h.holds r hr
  · refine ⟨fun b hb' => hb'.elim, fun b hb' hb2 => ?_⟩
    rcases List.mem_cons.1 hr with rfl | hr
    · exact h4 _ hm b hb' hb2
    · exact (hs.1 r hr).2 b hb' (.inr ⟨_, hm, hb2⟩)
/-- the outer slice alone, with what its inner ones read beside -/
theorem ok.unnestR {w : World} {v : Value} {vs : List Value} {xss : List (List α)} (h : ok G (nr e v vs xss :: H) w) : vs.length = xss.length ∧ ok G (sl v vs.length 1 vs :: (List.zipWith (srT e) vs xss ++ H)) w := by
  obtain ⟨h1, h2, h3, h4⟩ := h.head
  refine ⟨h2, ?_⟩
  have hs := List.pairwise_cons.1 h.sep
  have hz : ∀ r ∈ List.zipWith (srT e) vs xss, ∃ (i : Nat) (u : Value) (xs : List α), vs[i]? = some u ∧ xss[i]? = some xs ∧ r = srT e u xs := fun r hr => by
    obtain ⟨i, hi, rfl⟩ := List.getElem_of_mem hr
    rw [List.length_zipWith] at hi
    exact ⟨i, vs[i]'(by omega), xss[i]'(by omega), List.getElem?_eq_getElem _, List.getElem?_eq_getElem _, by simp⟩
  refine ⟨h.os, h.output, h.size, h.base, fun r hr b hb => ?_, fun r hr => ?_, List.pairwise_cons.2 ⟨fun r hr => ?_, List.pairwise_append.2 ⟨?_, hs.2, fun r hr s hs' => ?_⟩⟩⟩
  · rcases List.mem_cons.1 hr with rfl | hr
    · exact h.low _ List.mem_cons_self b (.inl hb)
    · rcases List.mem_append.1 hr with hr | hr
      · obtain ⟨i, u, xs, hu, _, rfl⟩ := hz r hr
        exact h.low _ List.mem_cons_self b (.inr ⟨u, List.mem_of_getElem? hu, hb⟩)
      · exact h.low r (List.mem_cons_of_mem _ hr) b hb
  · rcases List.mem_cons.1 hr with rfl | hr
    · exact h1
    · rcases List.mem_append.1 hr with hr | hr
      · obtain ⟨i, u, xs, hu, hx, rfl⟩ := hz r hr
        exact h3 i u xs hu hx
      · exact h.holds r (List.mem_cons_of_mem _ hr)
  · rcases List.mem_append.1 hr with hr | hr
    · obtain ⟨i, u, xs, hu, hx, rfl⟩ := hz r hr
      exact ⟨fun b hb hb2 => h4 u (List.mem_of_getElem? hu) b hb hb2, fun b hb => hb.elim⟩
    · exact ⟨fun b hb hb2 => (hs.1 r hr).1 b hb hb2, fun b hb hb2 => (hs.1 r hr).2 b hb (.inl hb2)⟩
  · refine List.Pairwise.imp_of_mem (R := fun _ _ => True) (fun {r s} hr hs' _ => ?_) (List.pairwise_of_forall fun _ _ => trivial)
    obtain ⟨i, u, xs, _, _, rfl⟩ := hz r hr
    obtain ⟨j, u', xs', _, _, rfl⟩ := hz s hs'
    exact ⟨fun b hb => hb.elim, fun b hb => hb.elim⟩
  · obtain ⟨i, u, xs, hu, _, rfl⟩ := hz r hr
    exact ⟨fun b hb => hb.elim, fun b hb hb2 => (hs.1 s hs').2 b hb (.inr ⟨u, List.mem_of_getElem? hu, hb2⟩)⟩
/-- an outer slice, and what its inner ones read -/
theorem ok.nestR {w : World} {v : Value} {vs : List Value} {xss : List (List α)} (hl : vs.length = xss.length) (h : ok G (sl v vs.length 1 vs :: H) w) (hin : ∀ (i : Nat) (u : Value) (xs : List α), vs[i]? = some u → xss[i]? = some xs → srT e u xs ∈ H) : ok G (nr e v vs xss :: H) w := by
  have hs := List.pairwise_cons.1 h.sep
  have two : ∀ u ∈ vs, ∃ xs, srT e u xs ∈ H := fun u hu => by
    obtain ⟨i, xs, h5, h6⟩ := ns_two hl hu
    exact ⟨xs, hin i u xs h5 h6⟩
  refine ⟨h.os, h.output, h.size, h.base, fun r hr b hb => ?_, fun r hr => ?_, List.pairwise_cons.2 ⟨fun r hr => ⟨fun b hb hb2 => (hs.1 r hr).1 b hb hb2, fun b hb hb2 => ?_⟩, hs.2⟩⟩
  · rcases List.mem_cons.1 hr with rfl | hr
    · rcases hb with hb | ⟨u, hu, hb⟩
      · exact h.low _ List.mem_cons_self b hb
      · obtain ⟨xs, hm⟩ := two u hu
        exact h.low _ (List.mem_cons_of_mem _ hm) b hb
    · exact h.low r (List.mem_cons_of_mem _ hr) b hb
  · rcases List.mem_cons.1 hr with rfl | hr
    · refine ⟨h.head, hl, fun i u xs hu hx => h.holds _ (List.mem_cons_of_mem _ (hin i u xs hu hx)), fun u hu k hk hk2 => ?_⟩
      obtain ⟨xs, hm⟩ := two u hu
      exact (hs.1 _ hm).1 k hk hk2
    · exact h.holds r (List.mem_cons_of_mem _ hr)
  · rcases hb2 with hb2 | ⟨u, hu, hb2⟩
    · exact (hs.1 r hr).2 b hb hb2
    · obtain ⟨xs, hm⟩ := two u hu
      have hne : r ≠ srT e u xs := fun e1 => by rw [e1] at hb; exact hb
      exact (pair_sp hs.2 hr hm hne).1 b hb hb2
end Go.Sx
