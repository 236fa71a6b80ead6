/- All normal subloops: the program. No condition. -/
import Derived.Test.YtekmmbgbhjeoaaaZA2
set_option linter.unusedSimpArgs false
set_option linter.unusedVariables false
namespace Go.Mi
open Go Go.Sx Go.Pl Go.Lq
variable {q : S_Square}

theorem isSub_ok (h : Lo q.Order (op q)) {v : Int} (hv : In q v) : Ok (impl_Square_isSubloop q v) (fun b => b = true ↔ Kp q (fun x => hasb v x = true)) := by
  have hn := h.le
  unfold impl_Square_isSubloop
  refine .call (generated_ok h (P := Kp q) (L := fun x => hasb v x = true) (fun S hS => hS) hv (fun S _ hL x hx hb => hL x hx hb)) fun r hr => .ret ?_
  obtain ⟨g, k, l⟩ := hr
  rw [decide_eq_true_eq]
  constructor
  · intro e; rw [← e]; exact k
  · intro kv
    refine has_ext g.inn.1 hv.1 fun x x0 x1 => ?_
    rw [Bool.eq_iff_iff]
    exact ⟨fun hb => l _ kv (fun _ _ h => h) x ⟨x0, g.inn.2 x x0 hb⟩ hb, fun hb => g.sub x x0 hb⟩
theorem all_ok (h : Sq q.Order (op q)) : ∃ m : Int, impl_Square_all q = some m ∧ m < 1024 ∧ 1 ≤ m ∧ ∀ v, 0 ≤ v → (v ≤ m ↔ In q v) := by
  have hn := h.le
  have hp := h.pos
  obtain ⟨n, hN⟩ : ∃ n : Nat, q.Order = n := ⟨q.Order.toNat, by omega⟩
  have h1 : (2 : Nat) ^ n ≤ 2 ^ 10 := Nat.pow_le_pow_right (by omega) (by omega)
  have h2 : (2 : Nat) ^ 1 ≤ 2 ^ n := Nat.pow_le_pow_right (by omega) (by omega)
  have e0 : ishl .i64 1 q.Order = ((2 ^ n : Nat) : Int) := by rw [hN]; exact ishl_one n (by omega)
  refine ⟨((2 ^ n : Nat) : Int) - 1, ?_, by omega, by omega, fun v v0 => ⟨fun hv => ⟨by omega, fun x x0 hb => ?_⟩, fun hv => ?_⟩⟩
  · unfold impl_Square_all
    rw [if_pos (by omega), e0, w64 (by omega) (by omega)]
  · rw [hN]; exact hasb_lt (n := n) (by omega) hb x0
  · have : v.toNat < 2 ^ n := Nat.lt_pow_two_of_testBit v.toNat fun i hi => by
      rw [Bool.eq_false_iff]
      intro hb
      have := hv.2 (i : Int) (by omega) (by simpa [hasb] using hb)
      omega
    omega
theorem subloops_ok (h : Lo q.Order (op q)) : Ok (impl_Square_subloops q) (fun xs => xs.length ≤ 1000 ∧ xs.Nodup ∧ xs.Pairwise (fun u v => ¬ ahead (lst v) (lst u)) ∧ ∀ v, v ∈ xs ↔ (In q v ∧ Kp q (fun x => hasb v x = true))) := by
  obtain ⟨m, hm, m1, m2, m3⟩ := all_ok h.toSq
  have odd : ∀ v, In q v → Kp q (fun x => hasb v x = true) → v % 2 = 1 ∧ 1 ≤ v := fun v hv k => by
    have hz := k.zero
    unfold hasb at hz
    rw [show (0 : Int).toNat = 0 from rfl, Nat.testBit_zero] at hz
    have := hv.1
    simp at hz
    omega
  unfold impl_Square_subloops
  refine .call (Ok.loop (step := impl_Square_subloops_L1 q) (fun s => (1 ≤ s.2 ∧ s.2 ≤ m + 2 ∧ s.2 % 2 = 1) ∧ s.1.Pairwise (· < ·) ∧ 2 * (s.1.length : Int) + 1 ≤ s.2 ∧ ∀ v, v ∈ s.1 ↔ v < s.2 ∧ In q v ∧ Kp q (fun x => hasb v x = true)) (fun s => (m + 3 - s.2).toNat)
    (Q := fun xs => xs.Pairwise (· < ·) ∧ xs.length ≤ 1000 ∧ ∀ v, v ∈ xs ↔ In q v ∧ Kp q (fun x => hasb v x = true)) (fun s hs => ?_) ⟨by simp only; omega, by simp, by simp, fun v => ?_⟩) (fun xs hx => ?_)
  · obtain ⟨xs, s⟩ := s
    obtain ⟨h1, h2, h3, h4⟩ := hs
    simp only at h1 h2 h3 h4
    unfold impl_Square_subloops_L1
    refine .calls hm (.ite (fun hle => ?_) (fun hgt => .ret (.inr ⟨_, rfl, h2, by simp only at hgt ⊢; omega, fun v => (h4 v).trans ⟨fun h => h.2, fun h => ⟨by
      have := (m3 v h.1.1.1).2 h.1
      simp only at hgt; omega, h⟩⟩⟩)))
    simp only at hle ⊢
    have hin := (m3 s (by omega)).1 hle
    refine .bind (.call (isSub_ok h hin) fun b hb => .mono (Q := fun ys => ys.Pairwise (· < ·) ∧ 2 * (ys.length : Int) + 1 ≤ s + 2 ∧ ∀ v, v ∈ ys ↔ v < s + 2 ∧ In q v ∧ Kp q (fun x => hasb v x = true)) (.ite (fun e => .yes (by simp; omega) (.ret ?_)) (fun e => .ret ?_)) fun ys hy => .ret (.inl ⟨_, rfl, ?_, ?_⟩))
    · have hk := hb.1 e
      refine ⟨List.pairwise_append.2 ⟨h2, by simp, fun a ha c hc => ?_⟩, by simp; omega, fun v => ?_⟩
      · rw [List.mem_singleton.1 hc]; exact ((h4 a).1 ha).1
      · rw [List.mem_append, h4 v, List.mem_singleton]
        constructor
        · rintro (h | h)
          · exact ⟨by omega, h.2⟩
          · rw [h]; exact ⟨by omega, hin, hk⟩
        · rintro ⟨a, b, c⟩
          have := odd v b c
          by_cases ev : v = s
          · exact .inr ev
          · exact .inl ⟨by omega, b, c⟩
    · refine ⟨h2, by omega, fun v => (h4 v).trans ⟨fun h => ⟨by omega, h.2⟩, fun h => ⟨?_, h.2⟩⟩⟩
      have := odd v h.2.1 h.2.2
      by_cases ev : v = s
      · rw [ev] at h; exact absurd (hb.2 h.2.2) e
      · omega
    · simp only [w64 (x := s + 2) (by omega) (by omega)]
      exact ⟨by omega, hy.1, hy.2.1, hy.2.2⟩
    · simp only [w64 (x := s + 2) (by omega) (by omega)]; omega
  · simp only [List.not_mem_nil, false_iff]
    rintro ⟨a, b, c⟩
    have := odd v b c
    omega
  · obtain ⟨x1, x2, x3⟩ := hx
    refine .call (impl_set_sort set_ord (xs := xs) (by unfold Sml; omega) fun x hx => ((x3 x).1 hx).1.1) fun ys hy => .ret ?_
    obtain ⟨y1, y2⟩ := hy
    exact ⟨by rw [y1.length_eq]; exact x2, y1.nodup_iff.2 (List.nodup_iff_pairwise_ne.2 (x1.imp fun h => by omega)), y2, fun v => y1.mem_iff.trans (x3 v)⟩
theorem take_snoc' {α : Type} [Inhabited α] {xs : List α} {i : Int} (h0 : 0 ≤ i) (h1 : i < xs.length) : xs.take (i + 1).toNat = xs.take i.toNat ++ [gl xs i] := take_snoc h0 h1
theorem delete_ok {xs : List Int} {f : Int → Option Bool} {F : Int → Bool} (hf : ∀ x ∈ xs, f x = some (F x)) (hl : xs.length ≤ 4096) : Ok (slices_DeleteFunc_impl_set_impl_set xs f) (· = xs.filter fun x => !F x) := by
  unfold slices_DeleteFunc_impl_set_impl_set slices_IndexFunc_impl_set_impl_set
  refine .call (R := fun i => (i = -1 ∧ ∀ x ∈ xs, F x = false) ∨ (0 ≤ i ∧ i < xs.length) ∧ F (gl xs i) = true ∧ ∀ j, 0 ≤ j → j < i → F (gl xs j) = false) ?_ fun i hi => ?_
  · refine .call (Ok.up (step := slices_IndexFunc_impl_set_impl_set_L1 xs f) (fun (_ : Unit) i => i) (fun _ i => ∀ j, 0 ≤ j → j < i → F (gl xs j) = false) 0 xs.length (by omega) (Q := fun r => (r = .inl () ∧ ∀ x ∈ xs, F x = false) ∨ ∃ i, r = .inr i ∧ (0 ≤ i ∧ i < xs.length) ∧ F (gl xs i) = true ∧ ∀ j, 0 ≤ j → j < i → F (gl xs j) = false) (fun _ i i0 i1 hI => ?_) (fun _ hI => ?_) (a := ()) (fun j a b => by omega)) (fun r hr => ?_)
    · unfold slices_IndexFunc_impl_set_impl_set_L1
      refine .yes i1 (.yes ⟨i0, i1⟩ (.calls (hf _ (gl_mem i0 i1)) (.ite (fun e => .ret (.inr ⟨_, rfl, .inr ⟨i, rfl, ⟨i0, i1⟩, e, hI⟩⟩)) (fun e => .ret (.inl ⟨(), by rw [w64 (by omega) (by omega)], fun j j0 j1 => ?_⟩)))))
      by_cases ej : j = i
      · rw [ej]; simpa using e
      · exact hI j j0 (by omega)
    · unfold slices_IndexFunc_impl_set_impl_set_L1
      refine .no (by omega) (.ret ⟨_, rfl, .inl ⟨rfl, fun x hx => ?_⟩⟩)
      obtain ⟨j, j0, j1, rfl⟩ := mem_gl hx
      exact hI j j0 j1
    · rcases hr with ⟨rfl, h⟩ | ⟨i, rfl, h⟩
      · exact .ret (.inl ⟨rfl, h⟩)
      · exact .ret (.inr h)
  · rcases hi with ⟨rfl, h⟩ | ⟨⟨i0, i1⟩, e, hI⟩
    · refine .yes rfl (.ret ?_)
      rw [List.filter_eq_self.2 fun x hx => by rw [h x hx]; rfl]
    · refine .no (by omega) ?_
      rw [w64 (x := i + 1) (by omega) (by omega)]
      refine .call (Ok.up (step := slices_DeleteFunc_impl_set_impl_set_L1 f) (fun (a : List Int × Int) j => (a.1, a.2, j)) (fun a j => (0 ≤ a.2 ∧ a.2 < j) ∧ a.1.length = xs.length ∧ a.1.take a.2.toNat = (xs.take j.toNat).filter (fun x => !F x) ∧ ∀ k, j ≤ k → k < xs.length → gl a.1 k = gl xs k) (i + 1) xs.length (by omega)
        (Q := fun r => (0 ≤ r.2 ∧ r.2 ≤ xs.length) ∧ r.1.length = xs.length ∧ r.1.take r.2.toNat = xs.filter (fun x => !F x)) (fun a j j0 j1 hJ => ?_) (fun a hJ => ?_) (a := (xs, i)) ⟨by simp only; omega, rfl, ?_, fun _ _ _ => rfl⟩) (fun r hr => ?_)
      · obtain ⟨w, k⟩ := a
        obtain ⟨k0, wl, wt, wr⟩ := hJ
        simp only at k0 wl wt wr
        have ej := wr j (Int.le_refl _) j1
        have hm := gl_mem (xs := xs) (i := j) (by omega) j1
        unfold slices_DeleteFunc_impl_set_impl_set_L1
        simp only [ej]
        refine .yes (by omega) (.bind (.yes ⟨by omega, by omega⟩ (.calls (hf _ hm) (.ite (fun e => .ret (.ret (.inl ⟨(w, k), by rw [w64 (x := j + 1) (by omega) (by omega)], by simp only; omega, wl, ?_, fun k' a b => wr k' (by omega) b⟩))) (fun e => .yes (by omega) (.ret (.ret (.inl ⟨(sls w k (gl xs j), k + 1), by rw [w64 (x := j + 1) (by omega) (by omega), w64 (x := k + 1) (by omega) (by omega)], by simp only; omega, by simp only [sls_len]; exact wl, ?_, fun k' a b => ?_⟩))))))))
        · simp only
          rw [take_snoc (by omega) j1, List.filter_append, List.filter_cons_of_neg (by simp [e]), ← wt]; simp
        · simp only
          have e1 : gl (sls w k (gl xs j)) k = gl xs j := by rw [gl_sls _ _ (by omega) (by omega) (by omega), if_pos rfl]
          rw [take_snoc (by omega) (by rw [sls_len]; omega), e1, take_snoc (by omega) j1, List.filter_append, List.filter_cons_of_pos (by simpa using e), ← wt]
          have : (sls w k (gl xs j)).take k.toNat = w.take k.toNat := by
            unfold sls; rw [List.take_set_of_le (Nat.le_refl _)]
          rw [this]; simp
        · simp only at a ⊢
          rw [gl_sls _ _ (by omega) (by omega) (by omega), if_neg (by omega)]
          exact wr k' (by omega) b
      · obtain ⟨w, k⟩ := a
        obtain ⟨k0, wl, wt, wr⟩ := hJ
        simp only at k0 wl wt wr
        unfold slices_DeleteFunc_impl_set_impl_set_L1
        refine .no (by simp only; omega) (.ret ⟨_, rfl, by simp only; omega, wl, ?_⟩)
        simp only
        rw [wt, show (xs.length : Int).toNat = xs.length by omega, List.take_length]
      · simp only
        rw [take_snoc i0 i1, List.filter_append, List.filter_cons_of_neg (by simp [e])]
        simp only [List.filter_nil, List.append_nil]
        rw [List.filter_eq_self.2]
        intro x hx
        obtain ⟨j, hj, rfl⟩ := List.getElem_of_mem hx
        rw [List.length_take] at hj
        have := hI j (by omega) (by omega)
        rw [gl_nat xs j (by omega)] at this
        simp [this]
      · obtain ⟨r1, r2, r3⟩ := hr
        have hc := clr_len (z := (0 : Int)) (xs := r.1) (l := r.2) (k := (r.1.length : Int)) ⟨⟨by omega, by omega⟩, by omega⟩
        refine .yes ⟨⟨by omega, by omega⟩, by omega⟩ (.yes ⟨⟨by omega, by omega⟩, by rw [hc]; omega⟩ (.ret ?_))
        rw [subl_head (by omega), ← r3]
        unfold clr
        rw [List.append_assoc, List.take_append_of_le_length (by rw [List.length_take]; omega), List.take_take, Nat.min_self]
theorem listsOf_ok {xs : List Int} (hx : ∀ x ∈ xs, Rg x) (hl : xs.length ≤ 4096) : Ok (impl_listsOf xs) (· = xs.map lst) := by
  unfold impl_listsOf
  refine .call (Ok.up (step := impl_listsOf_L1 xs) (fun v i => (v, i)) (fun v i => v = (xs.take i.toNat).map lst) 0 xs.length (by omega) (Q := (· = xs.map lst)) (fun v i i0 i1 hI => ?_) (fun v hI => ?_) rfl) (fun a ha => .ret ha)
  · unfold impl_listsOf_L1
    have hv : v.length ≤ xs.length := by
      rw [hI, List.length_map]; exact List.length_take_le' _ _
    refine .yes i1 (.yes ⟨i0, i1⟩ (.call (list_ok (hx _ (gl_mem i0 i1))) fun w hw => .yes (by simp only; omega) (.ret (.inl ⟨_, by rw [w64 (by omega) (by omega)], ?_⟩))))
    rw [take_snoc i0 i1, List.map_append, ← hI, hw]; rfl
  · unfold impl_listsOf_L1
    refine .no (by simp) (.ret ⟨_, rfl, ?_⟩)
    rw [hI, show (xs.length : Int).toNat = xs.length by omega, List.take_length]
theorem lst_NL (h : Lo q.Order (op q)) {v : Int} (hv : In q v) : NL q (lst v) ↔ ∀ x, El q.Order x → (hasb v x = true ↔ Cg q.Order (op q) (Ge q.Order fun x => hasb v x = true) 0 x) := by
  have hn := h.le
  have hp := h.pos
  have hge : (Ge q.Order fun x => x ∈ lst v) = Ge q.Order fun x => hasb v x = true := by
    funext a b
    apply propext
    exact ⟨fun ⟨e, hb, l⟩ => ⟨e, hb, (mem_lst.1 l).2⟩, fun ⟨e, hb, l⟩ => ⟨e, hb, mem_lst.2 ⟨by omega, l⟩⟩⟩
  constructor
  · intro hN x hx
    have := hN.mem (by omega) (x := x)
    unfold Cx at this
    rw [hge, mem_lst] at this
    exact ⟨fun hb => (this.1 ⟨by omega, hb⟩).2, fun c => (this.2 ⟨hx, c⟩).2⟩
  · intro hx
    refine sorted_ext ((elts_sorted _).filter _) (cls_sorted 0) fun x => ?_
    show x ∈ lst v ↔ _
    rw [mem_cls (by omega), mem_lst]
    unfold Cx
    rw [hge]
    exact ⟨fun ⟨a, b⟩ => ⟨⟨a.1, hv.2 x a.1 b⟩, (hx x ⟨a.1, hv.2 x a.1 b⟩).1 b⟩, fun ⟨a, c⟩ => ⟨by omega, (hx x a).2 c⟩⟩
theorem normals_ok (h : Lo q.Order (op q)) : Ok (impl_Square_normals q) (fun xs => xs.length ≤ 1000 ∧ (∀ x ∈ xs, In q x) ∧ AllN q (xs.map lst)) := by
  classical
  have hn := h.le
  have hp := h.pos
  unfold impl_Square_normals
  refine .call (subloops_ok h) fun xs hxs => ?_
  obtain ⟨x1, x2, x3, x4⟩ := hxs
  let F : Int → Bool := fun v => !decide (NL q (lst v))
  have hf : ∀ x ∈ xs, impl_Square_normals_c1 x q = some (F x) := fun x hx => by
    have hin := ((x4 x).1 hx).1
    obtain ⟨b, e, hb⟩ := isNormal_ok h hin
    unfold impl_Square_normals_c1
    rw [e]
    have : b = decide (NL q (lst x)) := by
      rw [Bool.eq_iff_iff, hb, decide_eq_true_eq, lst_NL h hin]
    rw [this]; rfl
  refine .call (delete_ok (f := fun a0 => impl_Square_normals_c1 a0 q) (F := F) hf (by omega)) fun ys hy => .ret ?_
  have hm : ∀ v, v ∈ ys ↔ v ∈ xs ∧ NL q (lst v) := fun v => by rw [hy, List.mem_filter]; simp [F]
  refine ⟨?_, fun x hx => ((x4 x).1 ((hm x).1 hx).1).1, ?_, fun L => ?_⟩
  · rw [hy]; exact Nat.le_trans (List.length_filter_le _ _) x1
  · rw [List.pairwise_map]
    have nd : ys.Nodup := by rw [hy]; exact x2.filter _
    have pw : ys.Pairwise (fun u v => ¬ ahead (lst v) (lst u)) := by rw [hy]; exact x3.filter _
    have both := List.pairwise_iff_getElem.1 pw
    have nd' := List.pairwise_iff_getElem.1 (List.nodup_iff_pairwise_ne.1 nd)
    rw [List.pairwise_iff_getElem]
    intro i j hi hj hij
    refine Classical.byContradiction fun hno => ?_
    have e := ahead.total hno (both i j hi hj hij)
    have r1 := ((x4 _).1 ((hm _).1 (List.getElem_mem hi)).1).1
    have r2 := ((x4 _).1 ((hm _).1 (List.getElem_mem hj)).1).1
    exact nd' i j hi hj hij (lst_inj r1.1 r2.1 e)
  · rw [List.mem_map]
    constructor
    · rintro ⟨v, hv, rfl⟩; exact ((hm v).1 hv).2
    · intro hL
      have hel : ∀ x ∈ L, El 10 x := fun x hx => by have := ((hL.mem (by omega)).1 hx).1; omega
      have hlt := num_lt hel
      have hb : ∀ x, 0 ≤ x → (hasb (num L : Int) x = true ↔ x ∈ L) := fun x x0 => by
        unfold hasb; rw [Int.toNat_natCast]; exact num_mem hel x0
      have hin : In q (num L : Int) := ⟨by omega, fun x x0 h => ((hL.mem (by omega)).1 ((hb x x0).1 h)).1.2⟩
      have el : lst (num L : Int) = L := sorted_ext ((elts_sorted _).filter _) hL.sorted fun x => by
        show x ∈ lst _ ↔ _
        rw [mem_lst]
        exact ⟨fun ⟨a, b⟩ => (hb x a.1).1 b, fun hx => ⟨hel x hx, (hb x (hel x hx).1).2 hx⟩⟩
      refine ⟨(num L : Int), (hm _).2 ⟨(x4 _).2 ⟨hin, ?_⟩, by rw [el]; exact hL⟩, el⟩
      have N := Cg.normal h (Ge.el h.toSq (L := fun x => x ∈ L))
      have hiff : ∀ x, El q.Order x → (hasb (num L : Int) x = true ↔ Cx q L 0 x) := fun x hx => by
        rw [hb x hx.1, hL.mem (by omega)]; exact ⟨fun h => h.2, fun c => ⟨hx, c⟩⟩
      have K := Nm.kp h N
      have h0 : El q.Order 0 := ⟨by omega, by omega⟩
      exact ⟨(hiff 0 h0).2 K.zero, fun x y hx hy a b => (hiff _ (h.cl x y hx hy)).2 (K.mul x y hx hy ((hiff x hx).1 a) ((hiff y hy).1 b)), fun x y hx hy a b => (hiff _ (h.ldv hx hy).1).2 (K.ld x y hx hy ((hiff x hx).1 a) ((hiff y hy).1 b)),
        fun x y hx hy a b => (hiff _ (h.rdv hy hx).1).2 (K.rd x y hx hy ((hiff x hx).1 a) ((hiff y hy).1 b))⟩
theorem AllN.uniq {A B : List (List Int)} (hA : AllN q A) (hB : AllN q B) : A = B := strict_ext (fun _ _ h => h.asym) hA.1 hB.1 fun L => (hA.2 L).trans (hB.2 L).symm
end Go.Mi
