/- The foundation of this claim's walks: slices of slices. No condition. -/
import Derived.Test.YtekmmbgbhjeoaaaSxJ
set_option linter.unusedVariables false
set_option linter.unusedSimpArgs false
set_option linter.unusedSectionVars false
namespace Go.Sx
open Go
variable {P : Program} {G : World} {N : Nat} {T : Env} {H F : List Res} {ty : TypeId}
variable {α : Type} [Inhabited α] {e : Enc α}

/-- A slice of slices: the values of the inner ones are 'vs'. -/
def nsHolds (e : Enc α) (v : Value) (vs : List Value) (xss : List (List α)) (w : World) : Prop :=
  Own w v vs.length 1 vs ∧ vs.length = xss.length ∧ (∀ (i : Nat) (u : Value) (xs : List α), vs[i]? = some u → xss[i]? = some xs → Own w u xs.length e.size (xs.flatMap e.cells)) ∧
    (v :: vs).Pairwise fun a b => ∀ k, vblk a k → ¬ vblk b k
theorem ns_two {vs : List Value} {xss : List (List α)} (hl : vs.length = xss.length) {u : Value} (hu : u ∈ vs) : ∃ (i : Nat) (xs : List α), vs[i]? = some u ∧ xss[i]? = some xs := by
  obtain ⟨i, hi, rfl⟩ := List.getElem_of_mem hu
  exact ⟨i, xss[i]'(by omega), by simp [hi], by simp [← hl, hi]⟩
def ns (e : Enc α) (v : Value) (vs : List Value) (xss : List (List α)) : Res where
  blks b := vblk v b ∨ ∃ u ∈ vs, vblk u b
  holds := nsHolds e v vs xss
  stable := fun w w' ⟨h1, h2, h3, h4⟩ hs =>
    ⟨(sl v vs.length 1 vs).stable w w' h1 fun b hb => hs b (.inl hb), h2, fun i u xs hu hx => (sl u xs.length e.size (xs.flatMap e.cells)).stable w w' (h3 i u xs hu hx) fun b hb => hs b (.inr ⟨u, List.mem_of_getElem? hu, hb⟩), h4⟩
  bound := fun w ⟨h1, h2, h3, _⟩ b hb => by
    rcases hb with hb | ⟨u, hu, hb⟩
    · exact (sl v vs.length 1 vs).bound w h1 b hb
    · obtain ⟨i, xs, h5, h6⟩ := ns_two h2 hu
      exact (sl u xs.length e.size (xs.flatMap e.cells)).bound w (h3 i u xs h5 h6) b hb

def RdN (e : Enc α) (G : World) (H : List Res) (v : Value) (vs : List Value) (xss : List (List α)) : Prop :=
  ∀ w, ok G H w → Rd w v vs.length 1 vs ∧ vs.length = xss.length ∧ ∀ (i : Nat) (u : Value) (xs : List α), vs[i]? = some u → xss[i]? = some xs → Rd w u xs.length e.size (xs.flatMap e.cells)
theorem RdN.at {v : Value} {vs : List Value} {xss : List (List α)} (i : Nat) (h : H[i]? = some (ns e v vs xss)) : RdN e G H v vs xss := fun w hw => by
  have h := hw.at h
  exact ⟨Own.rd h.1, h.2.1, fun i u xs hu hx => Own.rd (h.2.2.1 i u xs hu hx)⟩
theorem RdN.lift {v : Value} {vs : List Value} {xss : List (List α)} (k : Nat) (hk : H.drop k = F) (h : RdN e G F v vs xss) : RdN e G H v vs xss := fun w hw => h w (hk ▸ hw.drop k)
theorem RdN.liftL {L : List Res} {v : Value} {vs : List Value} {xss : List (List α)} (h : RdN e G H v vs xss) : RdN e G (L ++ H) v vs xss := fun w hw => h w (by have := hw.drop L.length; simpa using this)
theorem RdN.nil : RdN e G H (.slice none 0 0) [] [] := fun _ _ => ⟨⟨by simp, .inl ⟨rfl, rfl⟩⟩, rfl, fun i u xs h => by simp at h⟩
theorem gl_of {β : Type} [Inhabited β] {xs : List β} {n : Int} (hb : 0 ≤ n ∧ n < xs.length) : xs[n.toNat]? = some (gl xs n) := by
  have : n.toNat < xs.length := by omega
  simp [gl, this]
theorem RdN.inner {v : Value} {vs : List Value} {xss : List (List α)} {n : Int} (h : RdN e G H v vs xss) (hb : 0 ≤ n ∧ n < xss.length) : RdT e G H (gl vs n) (gl xss n) := fun w hw => by
  obtain ⟨_, h2, h3⟩ := h w hw
  exact h3 n.toNat _ _ (gl_of (by rw [h2]; exact hb)) (gl_of hb)
def ElN (P : Program) (t : TypeId) : Prop := ∃ el by_, P.underlying t = some (.slice el) ∧ Elem P el 1 by_ [.slice none 0 0]
theorem ElN.of {t el : Nat} (h1 : P.underlying t = some (.slice el)) (h2 : (P.info? el).map (fun i => (i.size, i.zero.map fun v => v.cells.toList)) = some (1, some [.slice none 0 0])) (hb : (P.info? el).map (fun i => Nat.ble i.bytes 4096) = some true) : ElN P t := by
  cases hi : P.info? el with
  | none => simp [hi] at h2
  | some i =>
    simp only [hi, Option.map_some, Option.some.injEq, Prod.mk.injEq] at h2 hb
    exact ⟨el, i.bytes, h1, .of (by simp [hi, h2]) rfl (Nat.le_of_ble_eq_true hb)⟩
theorem R.lenN {x : Operand} {t : TypeId} {v : Value} {vs : List Value} {xss : List (List α)} (hx : T.opd x = some v) (ht : ElN P t) (hr : RdN e G H v vs xss) :
    OpV P G N T H (.call ⟨.builtin .len, #[x], #[t]⟩) ty (.int .i64 xss.length) := fun a w s => by
  obtain ⟨el, b, h1, _⟩ := ht
  rw [← (hr w s.mem).2.1]
  exact R.lenSl hx h1 (fun w hw => (hr w hw).1) a w s
theorem R.idxN {t : TypeId} {x ix : Operand} {k : IntKind} {n : Int} {v : Value} {vs : List Value} {xss : List (List α)} (hx : T.opd x = some v) (hix : T.opd ix = some (.int k n)) (ht : ElN P t) (hr : RdN e G H v vs xss) (hb : 0 ≤ n ∧ n < xss.length) :
    OpV P G N T H (.indexAddr t x ix) ty (ep v (n.toNat * 1)) := fun a w s => by
  obtain ⟨el, b, h1, ⟨i, hi, hs, _⟩, _, _⟩ := ht
  have h2 := (hr w s.mem).2.1
  exact R.indexSl hx hix h1 (by rw [hi]; simp [hs]) (fun w hw => (hr w hw).1) hb.1 (by omega) a w s
theorem At.elN {v : Value} {vs : List Value} {xss : List (List α)} {n : Int} (hr : RdN e G H v vs xss) (hb : 0 ≤ n ∧ n < xss.length) : At G H (ep v (n.toNat * 1)) [gl vs n] := fun w hw => by
  have h2 := (hr w hw).2.1
  have hlt : n.toNat < vs.length := by omega
  refine At.rd (fun w hw => (hr w hw).1) (by simp) ?_ w hw
  refine ⟨vs.take n.toNat, vs.drop (n.toNat + 1), ?_, by simp; omega⟩
  have e1 : gl vs n = vs[n.toNat] := by simp [gl, hlt]
  rw [e1]; simp

/-! ## Turning one resource into an other one without turning the world -/
theorem ok.conv {w : World} {r s : Res} (h : ok G (r :: H) w) (hs : r.holds w → s.holds w) (hb : ∀ b, s.rd b → r.blks b) : ok G (s :: H) w := by
  have := h.turn (N := [s]) (w' := w) rfl rfl (Nat.le_refl _) (fun _ _ _ => rfl) (fun t ht => by simp at ht; subst ht; exact hs h.head) (fun t ht b hb' => by simp at ht; subst ht; exact .inl (hb b hb')) (by simp)
  exact this
theorem ok.inner {w : World} {v : Value} {vs : List Value} {xss : List (List α)} {n : Int} (hb : 0 ≤ n ∧ n < xss.length) (h : ok G (ns e v vs xss :: H) w) : ok G (slT e (gl vs n) (gl xss n) :: H) w := by
  have h2 := h.head.2.1
  refine h.conv (fun h => h.2.2.1 n.toNat _ _ (gl_of (by rw [h2]; exact hb)) (gl_of hb)) fun b hb' => .inr ⟨gl vs n, List.mem_of_getElem? (gl_of (by rw [h2]; exact hb)), hb'⟩
theorem ok.nsNew {w : World} {v : Value} (h : ok G (sl v 0 1 [] :: H) w) : ok G (ns e v [] [] :: H) w :=
  h.conv (fun h => ⟨h, rfl, fun i u xs hu => by simp at hu, by simp⟩) fun b hb => by
    rcases hb with hb | ⟨u, hu, _⟩
    · exact hb
    · simp at hu
theorem ok.addNilN {w : World} (e : Enc α) (h : ok G H w) : ok G (ns e (.slice none 0 0) [] [] :: H) w := ok.nsNew (ok.addNil Enc.bool h)
theorem OpX.post {X : Type} {v : X → Value} {H1 H2 : X → List Res} {op : Op} {ty : TypeId} (h : OpX P G N T H op ty v H1) (hc : ∀ x w, ok G (H1 x) w → ok G (H2 x) w) : OpX P G N T H op ty v H2 :=
  fun a w s dst pos af g K Q hK => h a w s dst pos af g K Q fun x w' hk => hK x w' (hc x w' hk)
theorem R.buildN {t : TypeId} {parts : Array (Nat × Operand)} (ht : ElN P t) (hv : T.opds (parts.toList.map (·.2)) = some []) (hi : (parts.toList.map (·.1)).zip ([] : List Value) = []) : OpX P G N T H (.buildSlice t 0 parts) ty (fun v : Value => v) (fun v => ns e v [] [] :: H) := by
  obtain ⟨el, b, h1, hE⟩ := ht
  exact (R.buildSlice h1 hE hv hi rfl (by simp) (by simp) (by simp)).post fun x w hk => hk.nsNew
theorem cells_of_rd {w : World} {v : Value} {n sz : Nat} {cs : List Value} (h : Rd w v n sz cs) : v.cells.toList = [v] ∧ v.oneCell' = true := by
  obtain ⟨_, ⟨rfl, _⟩ | ⟨b, off, cap, rfl, _⟩⟩ := h <;> exact ⟨rfl, rfl⟩
theorem R.build1 {t : TypeId} {parts : Array (Nat × Operand)} {u : Value} {xs : List α} (ht : ElN P t) (hv : T.opds (parts.toList.map (·.2)) = some [u]) (hi : parts.toList.map (·.1) = [0]) (hr : RdT e G H u xs) :
    OpX P G N T H (.buildSlice t 1 parts) ty (fun v : Value => v) (fun v => sl v 1 1 [u] :: H) := fun a w s => by
  obtain ⟨el, b, h1, hE⟩ := ht
  have hc := (cells_of_rd (hr w s.mem)).1
  have := R.buildSlice (P := P) (G := G) (N := N) (T := T) (H := H) (ty := ty) (n := 1) h1 hE hv (by rw [hi]; rfl) rfl (fun v hv' => by simp at hv'; subst hv'; rw [← Array.length_toList, hc]; rfl) (by decide) (by decide)
  simp only [List.flatMap_cons, hc, List.flatMap_nil, List.append_nil] at this
  exact this a w s

theorem sep_zip {w : World} {e : Enc α} : ∀ {vs : List Value} {xss : List (List α)}, vs.length = xss.length → vs.Pairwise (fun a b => ∀ k, vblk a k → ¬ vblk b k) → (List.zipWith (slT e) vs xss).Pairwise Sp
  | [], _, _, _ => by simp
  | v :: vs, [], h, _ => by simp at h
  | v :: vs, xs :: xss, h, hp => by
    have hp' := List.pairwise_cons.1 hp
    simp only [List.zipWith_cons_cons]
    refine List.pairwise_cons.2 ⟨fun s hs => ?_, sep_zip (w := w) (by simpa using h) hp'.2⟩
    obtain ⟨i, hi, rfl⟩ := List.getElem_of_mem hs
    rw [List.length_zipWith] at hi
    simp only [List.getElem_zipWith]
    have hd := hp'.1 (vs[i]'(by omega)) (List.getElem_mem (by omega))
    exact ⟨fun b hb hb' => hd b hb hb', fun b hb hb' => hd b hb' hb⟩
theorem mem_zip {e : Enc α} {vs : List Value} {xss : List (List α)} {r : Res} (h : r ∈ List.zipWith (slT e) vs xss) : ∃ (i : Nat) (u : Value) (xs : List α), vs[i]? = some u ∧ xss[i]? = some xs ∧ r = slT e u xs := by
  obtain ⟨i, hi, rfl⟩ := List.getElem_of_mem h
  rw [List.length_zipWith] at hi
  exact ⟨i, vs[i]'(by omega), xss[i]'(by omega), List.getElem?_eq_getElem _, List.getElem?_eq_getElem _, by simp⟩
theorem ok.unnest {w : World} {v : Value} {vs : List Value} {xss : List (List α)} (h : ok G (ns e v vs xss :: H) w) : vs.length = xss.length ∧ ok G (sl v vs.length 1 vs :: (List.zipWith (slT e) vs xss ++ H)) w := by
  obtain ⟨h1, h2, h3, h4⟩ := h.head
  have h5 := List.pairwise_cons.1 h4
  refine ⟨h2, ?_⟩
  have := h.turn (N := sl v vs.length 1 vs :: List.zipWith (slT e) vs xss) (w' := w) rfl rfl (Nat.le_refl _) (fun _ _ _ => rfl) (fun s hs => ?_) (fun s hs b hb => ?_) ?_
  · simpa using this
  · rcases List.mem_cons.1 hs with rfl | hs
    · exact h1
    · obtain ⟨i, u, xs, hu, hx, rfl⟩ := mem_zip hs
      exact h3 i u xs hu hx
  · rcases List.mem_cons.1 hs with rfl | hs
    · exact .inl (.inl hb)
    · obtain ⟨i, u, xs, hu, hx, rfl⟩ := mem_zip hs
      exact .inl (.inr ⟨u, List.mem_of_getElem? hu, hb⟩)
  · refine List.pairwise_cons.2 ⟨fun s hs => ?_, sep_zip (w := w) h2 h5.2⟩
    obtain ⟨i, u, xs, hu, hx, rfl⟩ := mem_zip hs
    have hd := h5.1 u (List.mem_of_getElem? hu)
    exact ⟨fun b hb hb' => hd b hb hb', fun b hb hb' => hd b hb' hb⟩
theorem pair_zip {e : Enc α} : ∀ {vs : List Value} {xss : List (List α)}, vs.length = xss.length → (List.zipWith (slT e) vs xss).Pairwise Sp → vs.Pairwise (fun a b => ∀ k, vblk a k → ¬ vblk b k)
  | [], _, _, _ => by simp
  | v :: vs, [], h, _ => by simp at h
  | v :: vs, xs :: xss, h, hp => by
    simp only [List.zipWith_cons_cons] at hp
    have hp' := List.pairwise_cons.1 hp
    simp only [List.length_cons, Nat.add_right_cancel_iff] at h
    refine List.pairwise_cons.2 ⟨fun u hu b hb hb' => ?_, pair_zip h hp'.2⟩
    obtain ⟨i, hi, rfl⟩ := List.getElem_of_mem hu
    have : slT e vs[i] (xss[i]'(by omega)) ∈ List.zipWith (slT e) vs xss := List.mem_iff_getElem.2 ⟨i, by simp; omega, by simp⟩
    exact (hp'.1 _ this).1 b hb hb'
theorem ok.nest {w : World} {v : Value} {vs : List Value} {xss : List (List α)} (hl : vs.length = xss.length) (h : ok G (sl v vs.length 1 vs :: (List.zipWith (slT e) vs xss ++ H)) w) : ok G (ns e v vs xss :: H) w := by
  have hs := List.pairwise_cons.1 h.sep
  have hs2 := List.pairwise_append.1 hs.2
  have hz : ∀ (i : Nat) (u : Value) (xs : List α), vs[i]? = some u → xss[i]? = some xs → slT e u xs ∈ List.zipWith (slT e) vs xss := fun i u xs hu hx => by
    obtain ⟨a1, rfl⟩ := List.getElem?_eq_some_iff.1 hu
    obtain ⟨a2, rfl⟩ := List.getElem?_eq_some_iff.1 hx
    exact List.mem_iff_getElem.2 ⟨i, by simp; omega, by simp⟩
  have hzu : ∀ u ∈ vs, ∃ xs, slT e u xs ∈ List.zipWith (slT e) vs xss := fun u hu => by
    obtain ⟨i, xs, h5, h6⟩ := ns_two hl hu
    exact ⟨xs, hz i u xs h5 h6⟩
  refine ⟨h.os, h.output, h.size, h.base, fun r hr b hb => ?_, fun r hr => ?_, ?_⟩
  · rcases List.mem_cons.1 hr with rfl | hr
    · rcases hb with hb | ⟨u, hu, hb⟩
      · exact h.low _ List.mem_cons_self b hb
      · obtain ⟨xs, hm⟩ := hzu u hu
        exact h.low _ (List.mem_cons_of_mem _ (List.mem_append_left _ hm)) b hb
    · exact h.low r (List.mem_cons_of_mem _ (List.mem_append_right _ hr)) b hb
  · rcases List.mem_cons.1 hr with rfl | hr
    · refine ⟨h.head, hl, fun i u xs hu hx => h.holds _ (List.mem_cons_of_mem _ (List.mem_append_left _ (hz i u xs hu hx))), ?_⟩
      refine List.pairwise_cons.2 ⟨fun u hu b hb hb' => ?_, pair_zip hl hs2.1⟩
      obtain ⟨xs, hm⟩ := hzu u hu
      exact (hs.1 _ (List.mem_append_left _ hm)).1 b hb hb'
    · exact h.holds r (List.mem_cons_of_mem _ (List.mem_append_right _ hr))
  · refine List.pairwise_cons.2 ⟨fun s hs' => ⟨fun b hb hb' => ?_, fun b hb' hb => ?_⟩, hs2.2.1⟩
    · rcases hb with hb | ⟨u, hu, hb⟩
      · exact (hs.1 s (List.mem_append_right _ hs')).1 b hb hb'
      · obtain ⟨xs, hm⟩ := hzu u hu
        exact (hs2.2.2 _ hm s hs').1 b hb hb'
    · rcases hb with hb | ⟨u, hu, hb⟩
      · exact (hs.1 s (List.mem_append_right _ hs')).2 b hb' hb
      · obtain ⟨xs, hm⟩ := hzu u hu
        exact (hs2.2.2 _ hm s hs').2 b hb' hb
theorem zip_snoc (e : Enc α) : ∀ {vs : List Value} {xss : List (List α)} (u : Value) (xs : List α), vs.length = xss.length → List.zipWith (slT e) (vs ++ [u]) (xss ++ [xs]) = List.zipWith (slT e) vs xss ++ [slT e u xs]
  | [], [], _, _, _ => rfl
  | [], _ :: _, _, _, h => by simp at h
  | _ :: _, [], _, _, h => by simp at h
  | v :: vs, x :: xss, u, xs, h => by simp [zip_snoc e u xs (by simpa using h : vs.length = xss.length)]
theorem R.appendN {x y : Operand} {t t2 : TypeId} {v y' u : Value} {vs : List Value} {xss : List (List α)} {xs : List α} (hx : T.opd x = some v) (hy : T.opd y = some y') (ht : ElN P t) (h2 : ElN P t2)
    (hr : Rds G F y' 1 1 [u]) (hb : xss.length + 1 ≤ 4294967296) : OpX P G N T (ns e v vs xss :: slT e u xs :: F) (.call ⟨.builtin .append, #[x, y], #[t, t2]⟩) ty (fun v' : Value => v') (fun v' => ns e v' (vs ++ [u]) (xss ++ [xs]) :: F) := fun a w s => by
  obtain ⟨hl, hk⟩ := s.mem.unnest
  obtain ⟨el, b, h1, hE⟩ := ht
  obtain ⟨el2, b2, h21, _⟩ := h2
  have hru : Rds G (sl v vs.length 1 vs :: (List.zipWith (slT e) vs xss ++ slT e u xs :: F)) y' 1 1 [u] := fun w hw => hr w (by
    refine hw.sub ?_
    exact ((List.sublist_cons_self _ F).trans (List.sublist_append_right _ _)).trans (List.sublist_cons_self _ _))
  have hu1 : u.oneCell' = true := (cells_of_rd (Own.rd (s.mem.tail.head : Own w u xs.length e.size (xs.flatMap e.cells)))).2
  have hone : ∀ x ∈ [u], x.oneCell' = true := fun x hx => by
    simp at hx; rw [hx]; exact hu1
  have := R.append (P := P) (N := N) (ty := ty) (j := 0) (T := T) (G := G) (H := sl v vs.length 1 vs :: (List.zipWith (slT e) vs xss ++ slT e u xs :: F)) hx hy h1 ⟨el2, h21⟩ hE rfl hru hone (by omega)
  refine this.post (H2 := fun v' => ns e v' (vs ++ [u]) (xss ++ [xs]) :: F) (fun v' w' hk' => ?_) a w ⟨s.env, hk⟩
  refine ok.nest (by simp [hl]) ?_
  have e1 : (vs ++ [u]).length = vs.length + 1 := by simp
  rw [zip_snoc e u xs hl, e1]
  simpa using hk'
end Go.Sx
