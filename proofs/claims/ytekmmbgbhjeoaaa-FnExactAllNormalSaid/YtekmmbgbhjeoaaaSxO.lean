/- The foundation of this claim's walks: slices of slices that are joined. No condition. -/
import Derived.Test.YtekmmbgbhjeoaaaSxN
set_option linter.unusedSectionVars false
set_option linter.unusedVariables false
set_option linter.unusedSimpArgs false
namespace Go.Sx
open Go
variable {P : Program} {G : World} {N : Nat} {T : Env} {H F : List Res} {ty : TypeId}
variable {α : Type} [Inhabited α] {e : Enc α}

theorem mem_zipR {e : Enc α} {vs : List Value} {xss : List (List α)} {r : Res} (h : r ∈ List.zipWith (srT e) vs xss) : ∃ (i : Nat) (u : Value) (xs : List α), vs[i]? = some u ∧ xss[i]? = some xs ∧ r = srT e u xs := by
  obtain ⟨i, hi, rfl⟩ := List.getElem_of_mem h
  rw [List.length_zipWith] at hi
  exact ⟨i, vs[i]'(by omega), xss[i]'(by omega), List.getElem?_eq_getElem _, List.getElem?_eq_getElem _, by simp⟩
theorem zipR_mem {e : Enc α} {vs : List Value} {xss : List (List α)} {i : Nat} {u : Value} {xs : List α} (hu : vs[i]? = some u) (hx : xss[i]? = some xs) : srT e u xs ∈ List.zipWith (srT e) vs xss := by
  obtain ⟨a1, rfl⟩ := List.getElem?_eq_some_iff.1 hu
  obtain ⟨a2, rfl⟩ := List.getElem?_eq_some_iff.1 hx
  exact List.mem_iff_getElem.2 ⟨i, by simp; omega, by simp⟩
/-- the inner ones, to be had beside -/
theorem ok.innersR {w : World} {v : Value} {vs : List Value} {xss : List (List α)} (h : ok G (nr e v vs xss :: H) w) : ok G (List.zipWith (srT e) vs xss ++ nr e v vs xss :: H) w := by
  obtain ⟨h1, h2, h3, h4⟩ := h.head
  have hs := List.pairwise_cons.1 h.sep
  refine ⟨h.os, h.output, h.size, h.base, fun r hr b hb => ?_, fun r hr => ?_, List.pairwise_append.2 ⟨?_, h.sep, fun r hr s hs' => ?_⟩⟩
  · rcases List.mem_append.1 hr with hr | hr
    · obtain ⟨i, u, xs, hu, _, rfl⟩ := mem_zipR hr
      exact h.low _ List.mem_cons_self b (.inr ⟨u, List.mem_of_getElem? hu, hb⟩)
    · exact h.low r hr b hb
  · rcases List.mem_append.1 hr with hr | hr
    · obtain ⟨i, u, xs, hu, hx, rfl⟩ := mem_zipR hr
      exact h3 i u xs hu hx
    · exact h.holds r hr
  · refine List.Pairwise.imp_of_mem (R := fun _ _ => True) (fun {r s} hr hs' _ => ?_) (List.pairwise_of_forall fun _ _ => trivial)
    obtain ⟨i, u, xs, _, _, rfl⟩ := mem_zipR hr
    obtain ⟨j, u', xs', _, _, rfl⟩ := mem_zipR hs'
    exact ⟨fun b hb => hb.elim, fun b hb => hb.elim⟩
  · obtain ⟨i, u, xs, hu, _, rfl⟩ := mem_zipR hr
    refine ⟨fun b hb => hb.elim, fun b hb hb2 => ?_⟩
    rcases List.mem_cons.1 hs' with rfl | hs'
    · exact h4 u (List.mem_of_getElem? hu) b hb hb2
    · exact (hs.1 s hs').2 b hb (.inr ⟨u, List.mem_of_getElem? hu, hb2⟩)
/-- one slice in a slice of its own -/
theorem ok.nestR1 {w : World} {v u : Value} {xs : List α} (h : ok G (sl v 1 1 [u] :: slT e u xs :: H) w) : ok G (nr e v [u] [xs] :: H) w := by
  have h1 : ok G (srT e u xs :: sl v 1 1 [u] :: H) w := (h.reord [1, 0] 2 rfl).sealT
  have h2 : ok G (sl v 1 1 [u] :: srT e u xs :: H) w := h1.reord [1, 0] 2 rfl
  have h3 : ok G (nr e v [u] [xs] :: srT e u xs :: H) w := ok.nestR (vs := [u]) (xss := [xs]) rfl h2 fun i u' xs' hu hx => by
    cases i with
    | zero => simp at hu hx; subst hu; subst hx; exact List.mem_cons_self
    | succ i => simp at hu
  exact h3.sub (.cons_cons _ (List.sublist_cons_self _ _))
theorem one_vals {w : World} {vs : List Value} {xss : List (List α)} (h2 : vs.length = xss.length) (h3 : ∀ (i : Nat) (u : Value) (xs : List α), vs[i]? = some u → xss[i]? = some xs → srHolds u xs.length e.size (xs.flatMap e.cells) w) : ∀ x ∈ vs, x.oneCell' = true := fun x hx => by
  obtain ⟨i, xs, h5, h6⟩ := ns_two h2 hx
  exact (cells_of_rd (h3 i x xs h5 h6).1).2
/-- a part of another one behind -/
theorem R.appendRR {x y : Operand} {t t2 : TypeId} {v u : Value} {vs us : List Value} {xss yss : List (List α)} {l k : Int} (hx : T.opd x = some v) (hy : T.opd y = some (cutv u l.toNat k.toNat 1)) (ht : ElN P t) (h2 : ElN P t2)
    (hb : (0 ≤ l ∧ l ≤ k) ∧ k ≤ yss.length) (hb2 : xss.length + yss.length ≤ 4294967296) : OpX P G N T (nr e v vs xss :: nr e u us yss :: F) (.call ⟨.builtin .append, #[x, y], #[t, t2]⟩) ty (fun v' : Value => v') (fun v' => nr e v' (vs ++ subl us l k) (xss ++ subl yss l k) :: nr e u us yss :: F) := fun a w s => by
  obtain ⟨el, by_, h1, hE⟩ := ht
  obtain ⟨el2, b2, h21, _⟩ := h2
  have hB : ok G (nr e u us yss :: nr e v vs xss :: F) w := s.mem.reord [1, 0] 2 rfl
  obtain ⟨g1, g2, g3, g4⟩ := hB.head
  have hl := s.mem.head.2.1
  have hb' : (0 ≤ l ∧ l ≤ k) ∧ k ≤ us.length := ⟨hb.1, by rw [g2]; exact hb.2⟩
  have hA := (hB.innersR).perm (H' := nr e v vs xss :: (List.zipWith (srT e) us yss ++ nr e u us yss :: F)) (by
    have : (List.zipWith (srT e) us yss ++ nr e u us yss :: nr e v vs xss :: F).Perm (List.zipWith (srT e) us yss ++ nr e v vs xss :: nr e u us yss :: F) := List.Perm.append_left _ (.swap _ _ _)
    exact this.trans List.perm_middle)
  obtain ⟨_, hA'⟩ := hA.unnestR
  -- what is read behind
  have hru : Rds G (sl v vs.length 1 vs :: (List.zipWith (srT e) vs xss ++ (List.zipWith (srT e) us yss ++ nr e u us yss :: F))) (cutv u l.toNat k.toNat 1) (subl us l k).length 1 (subl us l k) := fun w' hw' => by
    have hm : nr e u us yss ∈ sl v vs.length 1 vs :: (List.zipWith (srT e) vs xss ++ (List.zipWith (srT e) us yss ++ nr e u us yss :: F)) := by simp
    have hn : nrHolds e u us yss w' := hw'.holds _ hm
    have := (Own.rd hn.1).cutv l.toNat k.toNat (by omega) (by omega)
    rw [subl_len hb']
    simpa [subl, Nat.mul_one] using this
  have hone : ∀ x ∈ subl us l k, x.oneCell' = true := fun x hx => one_vals g2 g3 x (List.mem_of_mem_drop (List.mem_of_mem_take hx))
  have hsl : (subl us l k).length ≤ yss.length := by rw [subl_len hb']; omega
  have := R.append (P := P) (N := N) (ty := ty) (j := 0) (T := T) (G := G) hx hy h1 ⟨el2, h21⟩ hE (H := sl v vs.length 1 vs :: (List.zipWith (srT e) vs xss ++ (List.zipWith (srT e) us yss ++ nr e u us yss :: F))) rfl hru hone (by omega)
  refine this.post (H2 := fun v' => nr e v' (vs ++ subl us l k) (xss ++ subl yss l k) :: nr e u us yss :: F) (fun v' w' hk' => ?_) a w ⟨s.env, hA'⟩
  have hk2 : ok G (sl v' (vs ++ subl us l k).length 1 (vs ++ subl us l k) :: (List.zipWith (srT e) vs xss ++ (List.zipWith (srT e) us yss ++ nr e u us yss :: F))) w' := by
    rw [List.length_append]; exact hk'
  have hq : (vs ++ subl us l k).length = (xss ++ subl yss l k).length := by
    rw [List.length_append, List.length_append, hl, subl_len hb', subl_len hb]
  have hk3 := ok.nestR (e := e) (xss := xss ++ subl yss l k) hq hk2 fun i u' xs' hu hx => by
    by_cases hi : i < vs.length
    · rw [List.getElem?_append_left hi] at hu
      rw [List.getElem?_append_left (by omega)] at hx
      exact List.mem_append_left _ (zipR_mem hu hx)
    · rw [List.getElem?_append_right (by omega)] at hu
      rw [List.getElem?_append_right (by omega), ← hl] at hx
      simp only [subl, List.getElem?_take, List.getElem?_drop] at hu hx
      split at hu
      · rename_i hlt
        rw [if_pos hlt] at hx
        exact List.mem_append_right _ (List.mem_append_left _ (zipR_mem hu hx))
      · cases hu
  refine hk3.sub (.cons_cons _ ?_)
  exact (List.sublist_append_right _ _).trans (List.sublist_append_right _ _)
/-- one more behind -/
theorem R.appendR1 {x y : Operand} {t t2 : TypeId} {v y' u : Value} {vs : List Value} {xss : List (List α)} {xs : List α} (hx : T.opd x = some v) (hy : T.opd y = some y') (ht : ElN P t) (h2 : ElN P t2)
    (hr : Rds G F y' 1 1 [u]) (hb : xss.length + 1 ≤ 4294967296) : OpX P G N T (nr e v vs xss :: slT e u xs :: F) (.call ⟨.builtin .append, #[x, y], #[t, t2]⟩) ty (fun v' : Value => v') (fun v' => nr e v' (vs ++ [u]) (xss ++ [xs]) :: F) := fun a w s => by
  obtain ⟨el, by_, h1, hE⟩ := ht
  obtain ⟨el2, b2, h21, _⟩ := h2
  have hl := s.mem.head.2.1
  have hS : ok G (nr e v vs xss :: srT e u xs :: F) w := ((s.mem.reord [1, 0] 2 rfl).sealT).reord [1, 0] 2 rfl
  obtain ⟨_, hA⟩ := hS.unnestR
  have hru : Rds G (sl v vs.length 1 vs :: (List.zipWith (srT e) vs xss ++ srT e u xs :: F)) y' 1 1 [u] := fun w hw => hr w (by
    refine hw.sub ?_
    exact ((List.sublist_cons_self _ F).trans (List.sublist_append_right _ _)).trans (List.sublist_cons_self _ _))
  have hone : ∀ x ∈ [u], x.oneCell' = true := fun x hx => by
    simp at hx; rw [hx]
    exact (cells_of_rd (hS.tail.head : srHolds u xs.length e.size (xs.flatMap e.cells) w).1).2
  have := R.append (P := P) (N := N) (ty := ty) (j := 0) (T := T) (G := G) hx hy h1 ⟨el2, h21⟩ hE (H := sl v vs.length 1 vs :: (List.zipWith (srT e) vs xss ++ srT e u xs :: F)) rfl hru hone (by omega)
  refine this.post (H2 := fun v' => nr e v' (vs ++ [u]) (xss ++ [xs]) :: F) (fun v' w' hk' => ?_) a w ⟨s.env, hA⟩
  have hk2 : ok G (sl v' (vs ++ [u]).length 1 (vs ++ [u]) :: (List.zipWith (srT e) vs xss ++ srT e u xs :: F)) w' := by
    rw [List.length_append]; exact hk'
  have hk3 := ok.nestR (e := e) (xss := xss ++ [xs]) (by simp [hl]) hk2 fun i u' xs' hu hx => by
    by_cases hi : i < vs.length
    · rw [List.getElem?_append_left hi] at hu
      rw [List.getElem?_append_left (by omega)] at hx
      exact List.mem_append_left _ (zipR_mem hu hx)
    · rw [List.getElem?_append_right (by omega)] at hu
      rw [List.getElem?_append_right (by omega), ← hl] at hx
      have h0 : i - vs.length = 0 := by
        rcases Nat.eq_zero_or_pos (i - vs.length) with h | h
        · exact h
        · rw [List.getElem?_eq_none (by simp; omega)] at hu; cases hu
      rw [h0] at hu hx
      simp at hu hx
      subst hu; subst hx
      exact List.mem_append_right _ List.mem_cons_self
  refine hk3.sub (.cons_cons _ ?_)
  exact (List.sublist_cons_self _ _).trans (List.sublist_append_right _ _)
/-- all of another one behind -/
theorem R.appendRA {x y : Operand} {t t2 : TypeId} {v u : Value} {vs us : List Value} {xss yss : List (List α)} (hx : T.opd x = some v) (hy : T.opd y = some u) (ht : ElN P t) (h2 : ElN P t2)
    (hb2 : xss.length + yss.length ≤ 4294967296) : OpX P G N T (nr e v vs xss :: nr e u us yss :: F) (.call ⟨.builtin .append, #[x, y], #[t, t2]⟩) ty (fun v' : Value => v') (fun v' => nr e v' (vs ++ us) (xss ++ yss) :: nr e u us yss :: F) := fun a w s => by
  obtain ⟨el, by_, h1, hE⟩ := ht
  obtain ⟨el2, b2, h21, _⟩ := h2
  have hB : ok G (nr e u us yss :: nr e v vs xss :: F) w := s.mem.reord [1, 0] 2 rfl
  obtain ⟨g1, g2, g3, g4⟩ := hB.head
  have hl := s.mem.head.2.1
  have hA := (hB.innersR).perm (H' := nr e v vs xss :: (List.zipWith (srT e) us yss ++ nr e u us yss :: F)) (by
    have : (List.zipWith (srT e) us yss ++ nr e u us yss :: nr e v vs xss :: F).Perm (List.zipWith (srT e) us yss ++ nr e v vs xss :: nr e u us yss :: F) := List.Perm.append_left _ (.swap _ _ _)
    exact this.trans List.perm_middle)
  obtain ⟨_, hA'⟩ := hA.unnestR
  have hru : Rds G (sl v vs.length 1 vs :: (List.zipWith (srT e) vs xss ++ (List.zipWith (srT e) us yss ++ nr e u us yss :: F))) u us.length 1 us := fun w' hw' => by
    have hm : nr e u us yss ∈ sl v vs.length 1 vs :: (List.zipWith (srT e) vs xss ++ (List.zipWith (srT e) us yss ++ nr e u us yss :: F)) := by simp
    have hn : nrHolds e u us yss w' := hw'.holds _ hm
    exact Own.rd hn.1
  have := R.append (P := P) (N := N) (ty := ty) (j := 0) (T := T) (G := G) hx hy h1 ⟨el2, h21⟩ hE (H := sl v vs.length 1 vs :: (List.zipWith (srT e) vs xss ++ (List.zipWith (srT e) us yss ++ nr e u us yss :: F))) rfl hru (one_vals g2 g3) (by omega)
  refine this.post (H2 := fun v' => nr e v' (vs ++ us) (xss ++ yss) :: nr e u us yss :: F) (fun v' w' hk' => ?_) a w ⟨s.env, hA'⟩
  have hk2 : ok G (sl v' (vs ++ us).length 1 (vs ++ us) :: (List.zipWith (srT e) vs xss ++ (List.zipWith (srT e) us yss ++ nr e u us yss :: F))) w' := by
    rw [List.length_append]; exact hk'
  have hk3 := ok.nestR (e := e) (xss := xss ++ yss) (by rw [List.length_append, List.length_append, hl, g2]) hk2 fun i u' xs' hu hx => by
    by_cases hi : i < vs.length
    · rw [List.getElem?_append_left hi] at hu
      rw [List.getElem?_append_left (by omega)] at hx
      exact List.mem_append_left _ (zipR_mem hu hx)
    · rw [List.getElem?_append_right (by omega)] at hu
      rw [List.getElem?_append_right (by omega), ← hl] at hx
      exact List.mem_append_right _ (List.mem_append_left _ (zipR_mem hu hx))
  refine hk3.sub (.cons_cons _ ?_)
  exact (List.sublist_append_right _ _).trans (List.sublist_append_right _ _)
/-- what stands beside an inner slice that is taken out -/
def outs (e : Enc α) (v : Value) (vs : List Value) (xss : List (List α)) (n : Int) : List Res := sl v vs.length 1 vs :: ((List.zipWith (slT e) vs xss).take n.toNat ++ (List.zipWith (slT e) vs xss).drop (n.toNat + 1))
theorem zip_at {e : Enc α} {vs : List Value} {n : Nat} (hn : n < vs.length) : ∀ zss : List (List α), zss.length = vs.length → List.zipWith (slT e) vs zss = (List.zipWith (slT e) vs zss).take n ++ slT e vs[n] (zss.getD n []) :: (List.zipWith (slT e) vs zss).drop (n + 1) := fun zss hz => by
  have hlt : n < (List.zipWith (slT e) vs zss).length := by rw [List.length_zipWith]; omega
  conv => lhs; rw [← List.take_append_drop n (List.zipWith (slT e) vs zss), List.drop_eq_getElem_cons hlt]
  simp [List.getD_eq_getElem?_getD, List.getElem?_eq_getElem (show n < zss.length by omega)]
/-- an inner slice that is written: it is taken out -/
theorem ok.takeOut {w : World} {v : Value} {vs : List Value} {xss : List (List α)} {n : Int} (hb : 0 ≤ n ∧ n < xss.length) (h : ok G (ns e v vs xss :: H) w) : vs.length = xss.length ∧ ok G (slT e (gl vs n) (gl xss n) :: (outs e v vs xss n ++ H)) w := by
  obtain ⟨hl, hk⟩ := h.unnest
  have hn : n.toNat < vs.length := by omega
  have e1 := zip_at (e := e) (vs := vs) (n := n.toNat) (by omega)
  have g1 : gl vs n = vs[n.toNat] := by simp [gl, hn]
  have g2 : gl xss n = xss.getD n.toNat [] := by simp [gl, List.getD_eq_getElem?_getD, List.getElem?_eq_getElem (show n.toNat < xss.length by omega)]
  refine ⟨hl, hk.perm ?_⟩
  conv => lhs; rw [e1 xss hl.symm]
  rw [g1, g2, outs]
  simp only [List.append_assoc, List.cons_append]
  exact (List.Perm.cons _ List.perm_middle).trans (.swap _ _ _)
/-- and put back -/
theorem ok.putBack {w : World} {v : Value} {vs : List Value} {xss : List (List α)} {n : Int} {ys : List α} (hl : vs.length = xss.length) (hb : 0 ≤ n ∧ n < xss.length) (hw' : ok G (slT e (gl vs n) ys :: (outs e v vs xss n ++ H)) w) : ok G (ns e v vs (sls xss n ys) :: H) w := by
  have hn : n.toNat < vs.length := by omega
  have e1 := zip_at (e := e) (vs := vs) (n := n.toNat) (by omega)
  have g1 : gl vs n = vs[n.toNat] := by simp [gl, hn]
  refine ok.nest (by simp [sls, hl]) (hw'.perm ?_)
  have e2 : List.zipWith (slT e) vs (sls xss n ys) = (List.zipWith (slT e) vs xss).take n.toNat ++ slT e vs[n.toNat] ys :: (List.zipWith (slT e) vs xss).drop (n.toNat + 1) := by
    rw [e1 (sls xss n ys) (by simp [sls, hl])]
    have a1 : (List.zipWith (slT e) vs (sls xss n ys)).take n.toNat = (List.zipWith (slT e) vs xss).take n.toNat := by
      rw [List.take_zipWith, List.take_zipWith, sls, List.take_set_of_le (Nat.le_refl _)]
    have a2 : (List.zipWith (slT e) vs (sls xss n ys)).drop (n.toNat + 1) = (List.zipWith (slT e) vs xss).drop (n.toNat + 1) := by
      rw [List.drop_zipWith, List.drop_zipWith, sls, List.drop_set_of_lt (by omega)]
    have a3 : (sls xss n ys).getD n.toNat [] = ys := by
      simp [sls, List.getD_eq_getElem?_getD, show n.toNat < xss.length by omega]
    rw [a1, a2, a3]
  rw [e2, g1, outs]
  simp only [List.append_assoc, List.cons_append]
  exact ((List.Perm.cons _ List.perm_middle).trans (.swap _ _ _)).symm
theorem R.cutN {t : TypeId} {x : Operand} {lo hi : Option Operand} {v : Value} {vs : List Value} {l k : Int} {xss : List (List α)} (hx : T.opd x = some v) (ht : ElN P t) (hr : RdN e G H v vs xss) (hb : (0 ≤ l ∧ l ≤ k) ∧ k ≤ xss.length) (hlo : Bd T lo l 0) (hhi : Bd T hi k xss.length) :
    OpV P G N T H (.slice t x lo hi none) ty (cutv v l.toNat k.toNat 1) := fun a w s => by
  obtain ⟨el, b, h1, ⟨i, hi', hs, _⟩, _, _⟩ := ht
  have h2 := (hr w s.mem).2.1
  exact R.cut2 hx h1 (by rw [hi']; simp [hs]) (fun w hw => (hr w hw).1) ⟨hb.1, by omega⟩ hlo (by rw [h2]; exact hhi) a w s
theorem OpX.inOut {X : Type} {v : Value} {vs : List Value} {xss : List (List α)} {n : Int} {op : Op} {u : X → Value} {ys : X → List α} (hb : 0 ≤ n ∧ n < xss.length)
    (h : OpX P G N T (slT e (gl vs n) (gl xss n) :: (outs e v vs xss n ++ F)) op ty u (fun x => slT e (gl vs n) (ys x) :: (outs e v vs xss n ++ F))) : OpX P G N T (ns e v vs xss :: F) op ty u (fun x => ns e v vs (sls xss n (ys x)) :: F) := fun a w s => by
  obtain ⟨hl, hk⟩ := s.mem.takeOut hb
  exact (h.post fun x w hk => ok.putBack hl hb hk) a w ⟨s.env, hk⟩
end Go.Sx
