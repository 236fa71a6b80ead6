/- All normal subloops: the reference. No condition. -/
import Derived.Test.YtekmmbgbhjeoaaaZA1
set_option linter.unusedSimpArgs false
set_option linter.unusedVariables false
namespace Go.Mi
open Go Go.Sx Go.Pl Go.Lq
variable {q : S_Square}

theorem cls_len {n : Int} {C : Int → Int → Prop} (h0 : 0 ≤ n) (x : Int) : ((cls n C x).length : Int) ≤ n := by
  have := List.length_filter_le (fun y => @decide (C x y) (Classical.propDecidable _)) (elts n.toNat)
  rw [elts_len] at this
  unfold cls; omega
/-- a normal subloop as an ascending list -/
def NL (q : S_Square) (L : List Int) : Prop := L = cls q.Order (Cx q L) 0
theorem NL.mem (hn : 0 ≤ q.Order) {L : List Int} (h : NL q L) {x : Int} : x ∈ L ↔ El q.Order x ∧ Cx q L 0 x := by
  have e : x ∈ cls q.Order (Cx q L) 0 ↔ _ := mem_cls hn
  constructor
  · intro hx; rw [h] at hx; exact e.1 hx
  · intro hx; rw [h]; exact e.2 hx
theorem NL.sorted {L : List Int} (h : NL q L) : L.Pairwise (· < ·) := by rw [h]; exact cls_sorted 0
theorem NL.zero (h : Sq q.Order (op q)) {L : List Int} (hL : NL q L) : (0 : Int) ∈ L := (hL.mem (by have := h.pos; omega)).2 ⟨⟨by omega, h.pos⟩, .refl ⟨by omega, h.pos⟩⟩
theorem Cg.sub {n : Int} {m : Int → Int → Int} {B B' : Int → Int → Prop} (hB : ∀ a b, B a b → Cg n m B' a b) {a b : Int} (c : Cg n m B a b) : Cg n m B' a b := by
  induction c with
  | base h => exact hB _ _ h
  | refl h => exact .refl h
  | symm _ ih => exact .symm ih
  | trans _ _ i1 i2 => exact .trans i1 i2
  | left hx _ ih => exact .left hx ih
  | right hx _ ih => exact .right hx ih
theorem Cx.mono {L M : List Int} (h : ∀ x, El q.Order x → x ∈ L → Cx q M 0 x) {a b : Int} (c : Cx q L a b) : Cx q M a b := Cg.sub (fun a b ⟨e, hb, l⟩ => by rw [e]; exact h b hb l) c
/-- the class of 0 is one -/
theorem cls_NL (h : Sq q.Order (op q)) (L : List Int) : NL q (cls q.Order (Cx q L) 0) := by
  have hn : 0 ≤ q.Order := by have := h.pos; omega
  have key : ∀ x, Cx q L 0 x ↔ Cx q (cls q.Order (Cx q L) 0) 0 x := fun x =>
    ⟨fun c => c.mono fun y hy hl => .base ⟨rfl, hy, (mem_cls hn).2 ⟨hy, .base ⟨rfl, hy, hl⟩⟩⟩, fun c => c.mono fun y hy hl => ((mem_cls hn).1 hl).2⟩
  unfold NL
  conv => lhs; unfold cls
  conv => rhs; unfold cls
  refine List.filter_congr fun x _ => ?_
  simp only [decide_eq_decide]
  exact key x
theorem cls_has (h : Sq q.Order (op q)) {L : List Int} {x : Int} (hx : El q.Order x) (hl : x ∈ L) : x ∈ cls q.Order (Cx q L) 0 := (mem_cls (by have := h.pos; omega)).2 ⟨hx, .base ⟨rfl, hx, hl⟩⟩
theorem NL.least (h : Sq q.Order (op q)) {L M : List Int} (hM : NL q M) (hs : ∀ x ∈ L, x ∈ M) : ∀ x ∈ cls q.Order (Cx q L) 0, x ∈ M := fun x hx => by
  have hn : 0 ≤ q.Order := by have := h.pos; omega
  have := (mem_cls hn).1 hx
  exact (hM.mem hn).2 ⟨this.1, this.2.mono fun y hy hl => .base ⟨rfl, hy, hs y hl⟩⟩
/-- the number of a list -/
def num (L : List Int) : Nat := bitsOf (fun i => (gl L (i : Int)).toNat) L.length
theorem num_lt {L : List Int} (h : ∀ x ∈ L, El 10 x) : num L < 1024 := bitsOf_lt _ 10 _ fun i hi => by
  have := h _ (gl_mem (xs := L) (i := (i : Int)) (by omega) (by omega)); omega
theorem num_mem {L : List Int} (h : ∀ x ∈ L, El 10 x) {x : Int} (hx : 0 ≤ x) : (num L).testBit x.toNat = true ↔ x ∈ L := by
  unfold num
  rw [bitsOf_test]
  constructor
  · rintro ⟨i, hi, e⟩
    have hm := gl_mem (xs := L) (i := (i : Int)) (by omega) (by omega)
    have := h _ hm
    rw [show x = gl L (i : Int) by omega]; exact hm
  · intro hm
    obtain ⟨i, i0, i1, e⟩ := mem_gl hm
    exact ⟨i.toNat, by omega, by rw [Int.toNat_of_nonneg i0, e]⟩
theorem num_inj {L M : List Int} (hL : ∀ x ∈ L, El 10 x) (hM : ∀ x ∈ M, El 10 x) (sL : L.Pairwise (· < ·)) (sM : M.Pairwise (· < ·)) (e : num L = num M) : L = M := sorted_ext sL sM fun x => by
  by_cases hx : 0 ≤ x
  · rw [← num_mem hL hx, ← num_mem hM hx, e]
  · exact ⟨fun h => absurd (hL x h).1 hx, fun h => absurd (hM x h).1 hx⟩
theorem nodup_len : ∀ (l : List Nat), l.Nodup → ∀ (m : List Nat), m.Nodup → (∀ x ∈ m, x ∈ l) → m.length ≤ l.length := by
  intro l
  induction l with
  | nil => intro _ m _ hm; cases m with
    | nil => simp
    | cons a r => exact absurd (hm a List.mem_cons_self) (by simp)
  | cons a l ih =>
    intro hl m hm hsub
    by_cases ha : a ∈ m
    · have h1 := ih (List.nodup_cons.1 hl).2 (m.erase a) (hm.erase a) (fun x hx => by
        have h2 := (List.Nodup.mem_erase_iff hm).1 hx
        rcases List.mem_cons.1 (hsub x h2.2) with h3 | h3
        · exact absurd h3 h2.1
        · exact h3)
      rw [List.length_erase_of_mem ha] at h1
      have : 0 < m.length := List.length_pos_of_mem ha
      simp; omega
    · have h1 := ih (List.nodup_cons.1 hl).2 m hm (fun x hx => by
        rcases List.mem_cons.1 (hsub x hx) with h3 | h3
        · exact absurd (h3 ▸ hx) ha
        · exact h3)
      simp; omega
/-- lists of normal subloops in order are few -/
theorem few (h : Sq q.Order (op q)) {Ls : List (List Int)} (hs : Ls.Pairwise ahead) (hN : ∀ L ∈ Ls, NL q L) : Ls.length ≤ 1024 := by
  have hn := h.le
  have el : ∀ L ∈ Ls, ∀ x ∈ L, El 10 x := fun L hL x hx => by have := ((hN L hL).mem (by have := h.pos; omega)).1 hx; omega
  have := nodup_len (List.range 1024) List.nodup_range (Ls.map num) (by
    rw [List.nodup_iff_pairwise_ne, List.pairwise_map]
    refine List.Pairwise.imp_of_mem (fun {a b} ha hb hab e => ?_) hs
    have := num_inj (el a ha) (el b hb) (hN a ha).sorted (hN b hb).sorted e
    rw [this] at hab; exact ahead.irr b hab) (fun x hx => by
      obtain ⟨L, hL, rfl⟩ := List.mem_map.1 hx
      exact List.mem_range.2 (num_lt (el L hL)))
  simpa using this
theorem subl_head {α : Type} {xs : List α} {i : Int} (h0 : 0 ≤ i) : subl xs 0 i = xs.take i.toNat := by simp [subl]
theorem subl_tail {α : Type} {xs : List α} {i : Int} (h0 : 0 ≤ i) : subl xs i (xs.length : Int) = xs.drop i.toNat := by
  unfold subl
  rw [List.take_of_length_le]
  simp
theorem insert_ok {Ls : List (List Int)} {M : List Int} (hs : Ls.Pairwise ahead) (hl : Ls.length ≤ 4096) (hl2 : ∀ L ∈ Ls, L.length ≤ 4096) :
    Ok (spec_l06Insert Ls M) (fun r => r.Pairwise ahead ∧ (∀ x, x ∈ r ↔ x ∈ Ls ∨ x = M) ∧ Ls.length ≤ r.length ∧ ∀ k : Int, 0 ≤ k → k < Ls.length → ¬ ahead M (gl Ls k) → gl r k = gl Ls k) := by
  have pw : ∀ i j : Int, 0 ≤ i → i < j → j < Ls.length → ahead (gl Ls i) (gl Ls j) := fun i j i0 hij j1 => by
    have e1 := gl_nat Ls i.toNat (by omega)
    have e2 := gl_nat Ls j.toNat (by omega)
    rw [Int.toNat_of_nonneg (by omega)] at e1 e2
    rw [e1, e2]
    exact List.pairwise_iff_getElem.1 hs _ _ _ _ (by omega)
  unfold spec_l06Insert
  refine .call (Ok.up (step := spec_l06Insert_L1 Ls M) (fun (_ : Unit) i => i) (fun _ i => ∀ k : Int, 0 ≤ k → k < i → ahead (gl Ls k) M) 0 Ls.length (by omega) (Q := fun i => (0 ≤ i ∧ i ≤ Ls.length) ∧ (∀ k : Int, 0 ≤ k → k < i → ahead (gl Ls k) M) ∧ (i < Ls.length → ¬ ahead (gl Ls i) M)) (fun _ i i0 i1 hI => ?_) (fun _ hI => ?_) (a := ()) (fun k a b => by omega)) (fun i hi => ?_)
  · unfold spec_l06Insert_L1
    refine .bind (.yes i1 (.yes ⟨i0, i1⟩ (.call (ahead_ok _ _ (by have := hl2 _ (gl_mem i0 i1); omega)) fun b hb => .ret (.ite (fun e => .ret (.inl ⟨(), by rw [w64 (by omega) (by omega)], fun k k0 k1 => ?_⟩)) (fun e => .ret (.inr ⟨_, rfl, by omega, hI, fun _ h => e (hb.2 h)⟩))))))
    by_cases ek : k = i
    · rw [ek]; exact hb.1 e
    · exact hI k k0 (by omega)
  · unfold spec_l06Insert_L1
    exact .bind (.no (by omega) (.ret (.no (by simp) (.ret ⟨_, rfl, by omega, hI, fun h => by omega⟩))))
  · obtain ⟨hi, hlo, hhi⟩ := hi
    refine .call (R := fun b => b = true ↔ i < Ls.length ∧ gl Ls i = M) (.ite (fun hlt => .yes ⟨hi.1, hlt⟩ (.call (same2_ok (by have := hl2 _ (gl_mem hi.1 hlt); omega)) fun b hb => .ret (hb.trans ⟨fun h => ⟨hlt, h⟩, fun h => h.2⟩))) (fun hge => .ret ⟨(fun h => nomatch h), fun h => absurd h.1 hge⟩)) fun b hb => ?_
    refine .ite (fun e => .ret ⟨hs, fun x => ⟨.inl, fun h => h.elim id fun h => ?_⟩, Nat.le_refl _, fun _ _ _ _ => rfl⟩) (fun e => ?_)
    · have := hb.1 e
      rw [h, ← this.2]; exact gl_mem hi.1 this.1
    · have hgt : i < Ls.length → ahead M (gl Ls i) := fun hlt => Classical.byContradiction fun hn => e (hb.2 ⟨hlt, ahead.total (hhi hlt) hn⟩)
      refine .yes ⟨by omega, by omega⟩ (.yes (by simp; omega) (.yes (by omega) (.yes (by simp; omega) (.yes (by simp [subl]; omega) (.ret ?_)))))
      rw [subl_head hi.1, subl_tail hi.1, List.nil_append]
      have ht : Ls = Ls.take i.toNat ++ Ls.drop i.toNat := (List.take_append_drop _ _).symm
      have inT : ∀ x ∈ Ls.take i.toNat, ahead x M := fun x hx => by
        obtain ⟨j, hj, rfl⟩ := List.getElem_of_mem hx
        rw [List.length_take] at hj
        have := hlo j (by omega) (by omega)
        rw [gl_nat Ls j (by omega)] at this
        simpa using this
      have inD : ∀ x ∈ Ls.drop i.toNat, ahead M x := fun x hx => by
        obtain ⟨j, hj, rfl⟩ := List.getElem_of_mem hx
        rw [List.length_drop] at hj
        have hlt : i < Ls.length := by omega
        have e2 : (Ls.drop i.toNat)[j] = gl Ls (i + j) := by
          have := gl_nat Ls (i.toNat + j) (by omega)
          rw [show ((i.toNat + j : Nat) : Int) = i + j by omega] at this
          rw [this]; simp
        rw [e2]
        by_cases hj0 : j = 0
        · rw [hj0]; simpa using hgt hlt
        · exact (hgt hlt).trans (pw i (i + j) hi.1 (by omega) (by omega))
      refine ⟨?_, fun x => ?_, by simp; omega, fun k k0 k1 hk => ?_⟩
      · rw [ht] at hs
        have hp := List.pairwise_append.1 hs
        refine List.pairwise_append.2 ⟨hp.1, List.pairwise_cons.2 ⟨inD, hp.2.1⟩, fun a ha b hb' => ?_⟩
        rcases List.mem_cons.1 hb' with rfl | hb'
        · exact inT a ha
        · exact (inT a ha).trans (inD b hb')
      · have : x ∈ Ls ↔ x ∈ Ls.take i.toNat ∨ x ∈ Ls.drop i.toNat := by
          conv => lhs; rw [ht]
          exact List.mem_append
        rw [this, List.mem_append]
        simp only [List.cons_append, List.nil_append, List.mem_cons]
        constructor
        · rintro (h | h | h)
          · exact .inl (.inl h)
          · exact .inr h
          · exact .inl (.inr h)
        · rintro ((h | h) | h)
          · exact .inl h
          · exact .inr (.inr h)
          · exact .inr (.inl h)
      · have hki : k < i := by
          refine Classical.byContradiction fun hn => hk ?_
          by_cases eki : k = i
          · rw [eki]; exact hgt (by omega)
          · exact (hgt (by omega)).trans (pw i k hi.1 (by omega) k1)
        have a1 : (Ls.take i.toNat).length = i.toNat := by rw [List.length_take]; omega
        rw [gl_append_left _ _ k0 (by rw [a1]; omega)]
        conv => rhs; rw [ht]
        rw [gl_append_left _ _ k0 (by rw [a1]; omega)]
theorem len_le {L M : List Int} (sL : L.Pairwise (· < ·)) (sM : M.Pairwise (· < ·)) (hs : ∀ x ∈ L, x ∈ M) (h0 : ∀ x ∈ L, 0 ≤ x) : L.length ≤ M.length := by
  have h1 : (L.map Int.toNat).Nodup := by
    rw [List.nodup_iff_pairwise_ne, List.pairwise_map]
    refine List.Pairwise.imp_of_mem (fun {a b} ha hb hab => ?_) sL
    have := h0 a ha; have := h0 b hb; omega
  have h2 : ((M.filter fun x => decide (0 ≤ x)).map Int.toNat).Nodup := by
    rw [List.nodup_iff_pairwise_ne, List.pairwise_map]
    refine List.Pairwise.imp_of_mem (fun {a b} ha hb hab => ?_) (sM.filter _)
    have := (List.mem_filter.1 ha).2; have := (List.mem_filter.1 hb).2
    simp at *; omega
  have := nodup_len _ h2 _ h1 fun x hx => by
    obtain ⟨y, hy, rfl⟩ := List.mem_map.1 hx
    exact List.mem_map_of_mem (List.mem_filter.2 ⟨hs y hy, by simpa using h0 y hy⟩)
  have h3 := List.length_filter_le (fun x : Int => decide (0 ≤ x)) M
  simp only [List.length_map] at this
  omega
theorem len_lt {L M : List Int} (sL : L.Pairwise (· < ·)) (sM : M.Pairwise (· < ·)) (hs : ∀ x ∈ L, x ∈ M) (h0 : ∀ x ∈ L, 0 ≤ x) {x : Int} (hx : x ∈ M) (hn : x ∉ L) : L.length < M.length := by
  have sE : (M.erase x).Pairwise (· < ·) := sM.sublist List.erase_sublist
  have nd : M.Nodup := List.nodup_iff_pairwise_ne.2 (sM.imp fun h => by omega)
  have hs' : ∀ y ∈ L, y ∈ M.erase x := fun y hy => (List.Nodup.mem_erase_iff nd).2 ⟨fun e => hn (e ▸ hy), hs y hy⟩
  have := len_le sL sE hs' h0
  have h4 := List.length_erase_of_mem hx
  have h5 := List.length_pos_of_mem hx
  omega
theorem not_ahead_sub {L M : List Int} (sL : L.Pairwise (· < ·)) (sM : M.Pairwise (· < ·)) (hs : ∀ x ∈ L, x ∈ M) (h0 : ∀ x ∈ L, 0 ≤ x) : ¬ ahead M L := by
  have hle := len_le sL sM hs h0
  rintro (h | ⟨h, g⟩)
  · omega
  · have e : L = M := sorted_ext sL sM fun x => ⟨hs x, fun hx => Classical.byContradiction fun hn => by have := len_lt sL sM hs h0 hx hn; omega⟩
    rw [e] at g; exact lexI.irr M g
/-- the reference's list -/
def AllN (q : S_Square) (Ls : List (List Int)) : Prop := Ls.Pairwise ahead ∧ ∀ L, L ∈ Ls ↔ NL q L
theorem zero_NL (h : Lo q.Order (op q)) : NL q [0] := by
  have hp := h.pos
  have hn : 0 ≤ q.Order := by omega
  have h0 : El q.Order 0 := ⟨by omega, by omega⟩
  have N : Nm q.Order (op q) (fun x => x = 0) := by
    refine ⟨rfl, fun x y _ _ ex ey => ?_, fun x z w hx hz hw ez e => ?_, fun x y z w hx hy hz hw ez e => ?_, fun x y z w hx hy hz hw ez e => ?_⟩
    · rw [ex, ey]; exact (h.one 0 h0).1
    · rw [ez, (h.one x hx).2] at e
      exact h.ci x w 0 hx hw h0 (e.trans (h.one x hx).1.symm)
    · rw [ez, (h.one x hx).2] at e
      exact h.ri _ w 0 (h.cl y x hy hx) hw h0 (e.trans (h.one _ (h.cl y x hy hx)).2.symm)
    · rw [ez, (h.one x hx).1] at e
      exact h.ci _ w 0 (h.cl x y hx hy) hw h0 (e.trans (h.one _ (h.cl x y hx hy)).1.symm)
  refine sorted_ext (by simp) (cls_sorted 0) fun x => ?_
  rw [mem_cls hn, List.mem_singleton]
  constructor
  · rintro rfl; exact ⟨h0, .refl h0⟩
  · rintro ⟨_, c⟩
    exact c.in_normal h N fun y _ hy => List.mem_singleton.1 hy
theorem all_spec (h : Lo q.Order (op q)) : Ok (spec_l06All q) (AllN q) := by
  have hn := h.le
  have hp := h.pos
  have el : ∀ {L : List Int}, NL q L → ∀ x ∈ L, El q.Order x := fun hL x hx => ((hL.mem (by omega)).1 hx).1
  have len : ∀ {L : List Int}, NL q L → L.length ≤ 10 := fun {L} hL => by
    have := cls_len (n := q.Order) (C := Cx q L) (by omega) 0
    rw [← hL] at this; omega
  unfold spec_l06All
  refine .call (Ok.loop (step := spec_l06All_L1 q) (fun s => (s.1.Pairwise ahead ∧ (∀ L ∈ s.1, NL q L)) ∧ [0] ∈ s.1 ∧ (0 ≤ s.2 ∧ s.2 ≤ s.1.length) ∧ ∀ i x : Int, 0 ≤ i → i < s.2 → El q.Order x → cls q.Order (Cx q (gl s.1 i ++ [x])) 0 ∈ s.1) (fun s => (1024 - s.2).toNat) (Q := AllN q) (fun s hs => ?_)
    ⟨⟨by simp, fun L hL => by rw [List.mem_singleton.1 hL]; exact zero_NL h⟩, by simp, by simp, fun i x i0 i1 => by simp only at i1; omega⟩) (fun a ha => .ret ha)
  obtain ⟨Ls, k⟩ := s
  obtain ⟨⟨hs, hN⟩, hz, hk, hc⟩ := hs
  simp only at hs hN hz hk hc
  have hfew := few h.toSq hs hN
  unfold spec_l06All_L1
  refine .ite (fun hlt => ?_) (fun hge => .ret (.inr ⟨_, rfl, hs, fun L => ⟨hN L, fun hL => ?_⟩⟩))
  · simp only at hlt
    have hM := hN _ (gl_mem hk.1 hlt)
    refine .call (Ok.up (step := spec_l06All_L2 q (Ls, k)) (fun v i => (v, i)) (fun v i => (v.Pairwise ahead ∧ (∀ L ∈ v, NL q L)) ∧ (∀ L ∈ Ls, L ∈ v) ∧ Ls.length ≤ v.length ∧ (∀ j : Int, 0 ≤ j → j ≤ k → gl v j = gl Ls j) ∧ ∀ x, 1 ≤ x → x < i → cls q.Order (Cx q (gl Ls k ++ [x])) 0 ∈ v) 1 q.Order (by omega)
      (Q := fun v => (v.Pairwise ahead ∧ (∀ L ∈ v, NL q L)) ∧ (∀ L ∈ Ls, L ∈ v) ∧ Ls.length ≤ v.length ∧ (∀ j : Int, 0 ≤ j → j ≤ k → gl v j = gl Ls j) ∧ ∀ x, 1 ≤ x → x < q.Order → cls q.Order (Cx q (gl Ls k ++ [x])) 0 ∈ v) (fun v i i0 i1 hI => ?_) (fun v hI => ?_) ⟨⟨hs, hN⟩, fun _ h => h, Nat.le_refl _, fun _ _ _ => rfl, fun x x0 x1 => by omega⟩) (fun v hv => ?_)
    · obtain ⟨⟨vs, vN⟩, vL, vl, vk, vc⟩ := hI
      have vfew := few h.toSq vs vN
      have hlen := len hM
      unfold spec_l06All_L2
      have ek := vk k hk.1 (Int.le_refl _)
      simp only [ek]
      have ho : spec_l01Own (gl Ls k) = some (gl Ls k) := by
        unfold spec_l01Own
        rw [if_pos (by simp; omega)]; simp
      refine .yes i1 (.yes ⟨hk.1, by omega⟩ (.calls ho (.yes (by simp; omega) (.call (closure_spec h.toSq (xs := gl Ls k ++ [i]) (fun x hx => ?_) (by simp; omega)) fun M hMe => .call (insert_ok vs (by omega) (fun L hL => by have := len (vN L hL); omega)) fun r hr => .ret (.inl ⟨r, by rw [w64 (by omega) (by omega)], ?_⟩)))))
      · rcases List.mem_append.1 hx with hx | hx
        · exact el hM x hx
        · rw [List.mem_singleton.1 hx]; exact ⟨by omega, i1⟩
      · obtain ⟨r1, r2, r3, r4⟩ := hr
        have hMN : NL q M := by rw [hMe]; exact cls_NL h.toSq _
        refine ⟨⟨r1, fun L hL => ?_⟩, fun L hL => (r2 L).2 (.inl (vL L hL)), by omega, fun j j0 j1 => ?_, fun x x0 x1 => ?_⟩
        · rcases (r2 L).1 hL with h1 | h1
          · exact vN L h1
          · rw [h1]; exact hMN
        · rw [r4 j j0 (by omega), vk j j0 j1]
          rw [vk j j0 j1]
          have hsub : ∀ x ∈ gl Ls k, x ∈ M := fun x hx => by
            rw [hMe]; exact cls_has h.toSq (el hM x hx) (List.mem_append_left _ hx)
          have nk := not_ahead_sub hM.sorted hMN.sorted hsub (fun x hx => (el hM x hx).1)
          by_cases ej : j = k
          · rw [ej]; exact nk
          · intro ha
            have e1 := gl_nat Ls j.toNat (by omega)
            have e2 := gl_nat Ls k.toNat (by omega)
            rw [Int.toNat_of_nonneg (by omega)] at e1 e2
            have hjk : ahead (gl Ls j) (gl Ls k) := by rw [e1, e2]; exact List.pairwise_iff_getElem.1 hs _ _ _ _ (by omega)
            exact nk (ha.trans hjk)
        · by_cases ex : x = i
          · rw [ex]; exact (r2 _).2 (.inr hMe.symm)
          · exact (r2 _).2 (.inl (vc x x0 (by omega)))
    · unfold spec_l06All_L2
      exact .no (by simp) (.ret ⟨_, rfl, hI⟩)
    · obtain ⟨⟨vs, vN⟩, vL, vl, vk, vc⟩ := hv
      have vfew := few h.toSq vs vN
      refine .ret (.inl ⟨_, rfl, ⟨⟨vs, vN⟩, vL _ hz, by simp only; rw [w64 (by omega) (by omega)]; omega, fun i x i0 i1 hx => ?_⟩, by simp only; rw [w64 (by omega) (by omega)]; omega⟩)
      simp only [w64 (x := k + 1) (by omega) (by omega)] at i1 ⊢
      rw [vk i i0 (by omega)]
      by_cases ei : i = k
      · rw [ei]
        by_cases ex : x = 0
        · -- nothing new
          have hx0 : ∀ y, El q.Order y → (y ∈ gl Ls k ++ [x] → Cx q (gl Ls k) 0 y) := fun y hy hm => by
            rcases List.mem_append.1 hm with hm | hm
            · exact .base ⟨rfl, hy, hm⟩
            · rw [List.mem_singleton.1 hm, ex]; exact .refl ⟨by omega, by omega⟩
          have e : cls q.Order (Cx q (gl Ls k ++ [x])) 0 = gl Ls k := by
            refine sorted_ext (cls_sorted 0) hM.sorted fun y => ?_
            rw [mem_cls (by omega), hM.mem (by omega)]
            exact ⟨fun ⟨a, c⟩ => ⟨a, c.mono hx0⟩, fun ⟨a, c⟩ => ⟨a, c.mono fun z hz hm => .base ⟨rfl, hz, List.mem_append_left _ hm⟩⟩⟩
          rw [e]; exact vL _ (gl_mem hk.1 hlt)
        · exact vc x (by omega) hx.2
      · exact vL _ (hc i x i0 (by omega) hx)
  · -- all are there: the longest one inside
    simp only at hge
    have key : ∀ (d : Nat) (K : List Int), L.length - K.length ≤ d → K ∈ Ls → (∀ x ∈ K, x ∈ L) → L ∈ Ls := by
      intro d
      induction d with
      | zero =>
        intro K hd hK hsub
        have sK := (hN K hK).sorted
        have : L = K := sorted_ext hL.sorted sK fun x => ⟨fun hx => Classical.byContradiction fun hn => by have := len_lt sK hL.sorted hsub (fun x hx => (el (hN K hK) x hx).1) hx hn; omega, hsub x⟩
        rw [this]; exact hK
      | succ d ih =>
        intro K hd hK hsub
        by_cases hall : ∀ x ∈ L, x ∈ K
        · rw [sorted_ext hL.sorted (hN K hK).sorted fun x => ⟨hall x, hsub x⟩]; exact hK
        · simp only [Classical.not_forall] at hall
          obtain ⟨x, hx, hn⟩ := hall
          have hx' : ∀ y ∈ K ++ [x], y ∈ L := fun y hy => by
            rcases List.mem_append.1 hy with hy | hy
            · exact hsub y hy
            · rw [List.mem_singleton.1 hy]; exact hx
          obtain ⟨i, i0, i1, rfl⟩ := mem_gl hK
          have hin := hc i x i0 (by omega) (el hL x hx)
          have h1 := hN _ hin
          have hsub2 : ∀ y ∈ gl Ls i, y ∈ cls q.Order (Cx q (gl Ls i ++ [x])) 0 := fun y hy => cls_has h.toSq (el (hN _ hK) y hy) (List.mem_append_left _ hy)
          have hxin := cls_has h.toSq (el hL x hx) (L := gl Ls i ++ [x]) (List.mem_append_right _ (List.mem_singleton.2 rfl))
          have := len_lt (hN _ hK).sorted h1.sorted hsub2 (fun y hy => (el (hN _ hK) y hy).1) hxin hn
          exact ih _ (by omega) hin (hL.least h.toSq hx')
    exact key L.length [0] (by omega) hz (fun x hx => by rw [List.mem_singleton.1 hx]; exact hL.zero h.toSq)
end Go.Mi
