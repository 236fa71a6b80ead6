/- The library's sort: whole. No condition. -/
import Derived.Test.YtekmmbgbhjeoaaaZS2
set_option linter.unusedSimpArgs false
set_option linter.unusedVariables false
namespace Go.Mi
open Go Go.Sx Go.Pl
section
variable {D : Int → Prop} {f : Int → Int → Option Int} {lt : Int → Int → Prop}

theorem impl_set_partial (O : Ord D f lt) {xs : List Int} {a b : Int} (h0 : 0 ≤ a) (h1 : a < b) (h2 : b ≤ xs.length) (hl : Sml xs) (hA : Al D xs) (hpre : 0 < a → ∀ k, a ≤ k → k < b → ¬ lt (gl xs k) (gl xs (a - 1))) :
    Ok (slices_partialInsertionSortCmpFunc_impl_set xs a b f) (fun r => Sg a b xs r.2 ∧ (r.1 = true → Srt lt a b r.2)) := by
  unfold slices_partialInsertionSortCmpFunc_impl_set
  rw [w64 (x := a + 1) (by omega) (by omega)]
  refine .call (Ok.loop (step := slices_partialInsertionSortCmpFunc_impl_set_L1 a b f) (fun s => Sg a b xs s.1 ∧ (a + 1 ≤ s.2.1 ∧ s.2.1 ≤ b) ∧ Srt lt a s.2.1 s.1 ∧ 0 ≤ s.2.2) (fun s => (5 - s.2.2).toNat)
    (Q := fun r => ∃ w, Sg a b xs w ∧ (r = .inl w ∨ ∃ bb, r = .inr (w, bb) ∧ (bb = true → Srt lt a b w))) (fun s hs => ?_) ⟨.refl _ _ _, by simp only; omega, .one (by simp only; omega), by simp only; omega⟩) (fun r hr => by
      obtain ⟨w, hw, rfl | ⟨bb, rfl, hb⟩⟩ := hr
      · exact .ret ⟨hw, fun h => nomatch h⟩
      · exact .ret ⟨hw, hb⟩)
  obtain ⟨w, i, t⟩ := s
  obtain ⟨hs, hi, hsr, ht⟩ := hs
  simp only at hs hi hsr ht
  have hlen := hs.len
  have hD := hs.al hA
  unfold slices_partialInsertionSortCmpFunc_impl_set_L1
  refine .ite (fun h5 => ?_) (fun _ => .ret (.inr ⟨_, rfl, w, hs, .inl rfl⟩))
  simp only at h5
  refine .bind (.call (Ok.loop (step := slices_partialInsertionSortCmpFunc_impl_set_L2 b (w, i, t) f) (fun i' => (i ≤ i' ∧ i' ≤ b) ∧ Srt lt a i' w) (fun i' => (b - i').toNat) (Q := fun i' => ((i ≤ i' ∧ i' ≤ b) ∧ Srt lt a i' w) ∧ (i' < b → lt (gl w i') (gl w (i' - 1)))) (fun i' hi' => ?_) ⟨by simp only; omega, hsr⟩) fun i' hi' => ?_)
  · unfold slices_partialInsertionSortCmpFunc_impl_set_L2
    simp only [w64 (x := i' - 1) (by omega) (by omega), w64 (x := i' + 1) (by omega) (by omega)]
    by_cases hib : i' < b
    · obtain ⟨e, he, hel⟩ := O.ok (gl w i') (gl w (i' - 1)) (hD _ (by omega) (by omega)) (hD _ (by omega) (by omega))
      refine .bind (.yes hib (.yes (by omega) (.yes (by omega) (.calls he (.ret ?_)))))
      by_cases hlt : e < 0
      · exact .no (by simpa using hlt) (.ret (.inr ⟨_, rfl, hi', fun _ => hel.1 hlt⟩))
      · exact .yes (by simpa using hlt) (.ret (.inl ⟨_, rfl, ⟨by omega, hi'.2.snoc O fun _ => fun h => hlt (hel.2 h)⟩, by omega⟩))
    · exact .bind (.no hib (.ret (.no (by simp) (.ret (.inr ⟨_, rfl, hi', fun h => absurd h hib⟩)))))
  obtain ⟨⟨hi1, hi2⟩, hi3⟩ := hi'
  refine .ite (fun e => .ret (.ret (.inr ⟨_, rfl, w, hs, .inr ⟨true, rfl, fun _ => by rw [e] at hi2; exact hi2⟩⟩))) (fun e => .ite (fun _ => .ret (.ret (.inr ⟨_, rfl, w, hs, .inr ⟨false, rfl, fun h => nomatch h⟩⟩))) (fun _ => ?_))
  simp only [w64 (x := i' - 1) (by omega) (by omega), w64 (x := i' - a) (by omega) (by omega), w64 (x := b - i') (by omega) (by omega), w64 (x := i' + 1) (by omega) (by omega)]
  have s1 : Sg a b xs (swp w i' (i' - 1)) := hs.trans (.swp w h0 (by omega) (by omega) (by omega) (by omega) (by omega))
  have g1 : ∀ k, 0 ≤ k → gl (swp w i' (i' - 1)) k = if i' - 1 = k then gl w i' else if i' = k then gl w (i' - 1) else gl w k := fun k k0 => gl_swp (by omega) (by omega) (by omega) (by omega) k0
  refine .yes (by omega) (.yes (by omega) (.yes (by rw [sls_len]; omega) (.call (R := fun v => Sg a b xs v ∧ Srt lt a i' v) (.ite (fun h2i => ?_) (fun h2i => .ret ⟨s1, .one (by omega)⟩)) fun v hv => ?_)))
  · refine .call (Ok.loop (step := slices_partialInsertionSortCmpFunc_impl_set_L3 f) (fun s => Sg a b xs s.1 ∧ (a ≤ s.2 ∧ s.2 ≤ i' - 1) ∧ Bt lt a i' s.2 s.1) (fun s => (s.2 - a).toNat) (Q := fun v => Sg a b xs v ∧ Srt lt a i' v) (fun s hs => ?_) ⟨s1, by simp only; omega, fun p q hp hpq hq hne => ?_⟩) fun v hv => .ret hv
    · obtain ⟨v, j⟩ := s
      obtain ⟨hs, hj, hb⟩ := hs
      simp only at hs hj hb
      have hlen := hs.len
      have hD := hs.al hA
      unfold slices_partialInsertionSortCmpFunc_impl_set_L3
      by_cases hj1 : 1 ≤ j
      · simp only [w64 (x := j - 1) (by omega) (by omega)]
        obtain ⟨e, he, hel⟩ := O.ok (gl v j) (gl v (j - 1)) (hD _ (by omega) (by omega)) (hD _ (by omega) (by omega))
        refine .yes hj1 (.yes (by omega) (.yes (by omega) (.calls he (.ite (fun hlt => ?_) (fun hlt => .ret (.inr ⟨_, rfl, hs, hb.done O fun _ => fun h => hlt (hel.2 h)⟩))))))
        have haj : a < j := by
          refine Classical.byContradiction fun hn => ?_
          have ej : j = a := by omega
          subst ej
          have h3 := hs.pr (fun x => ¬ lt x (gl xs (j - 1))) (hpre (by omega)) j (by omega) (by omega)
          rw [← hs.out (j - 1) (by omega) (by omega)] at h3
          exact h3 (hel.1 hlt)
        exact .yes (by rw [sls_len]; omega) (.ret (.inl ⟨_, rfl, ⟨hs.trans (.swp v h0 (by omega) (by omega) (by omega) (by omega) (by omega)), by simp only; omega, hb.swp O h0 (by omega) haj (by omega) (hel.1 hlt)⟩, by simp only; omega⟩))
      · exact .no hj1 (.ret (.inr ⟨_, rfl, hs, hb.done O fun h => by omega⟩))
    · simp only at hne ⊢
      rw [g1 q (by omega), g1 p (by omega), if_neg (by omega), if_neg (by omega), if_neg (by omega), if_neg (by omega)]
      exact hi2 p q hp hpq hq
  · obtain ⟨sv, sr⟩ := hv
    refine .ite (fun h2b => ?_) (fun _ => .ret (.ret (.inl ⟨_, rfl, ⟨sv, by simp only; omega, sr, by simp only; rw [w64 (by omega) (by omega)]; omega⟩, by simp only; rw [w64 (by omega) (by omega)]; omega⟩)))
    refine .call (Ok.loop (step := slices_partialInsertionSortCmpFunc_impl_set_L4 b f) (fun s => Sg a b xs s.1 ∧ (i' + 1 ≤ s.2 ∧ s.2 ≤ b) ∧ Srt lt a i' s.1) (fun s => (b - s.2).toNat) (Q := fun v => Sg a b xs v ∧ Srt lt a i' v) (fun s hs => ?_) ⟨sv, by simp only; omega, sr⟩) fun u hu => .ret (.ret (.inl ⟨_, rfl, ⟨hu.1, by simp only; omega, hu.2, by simp only; rw [w64 (by omega) (by omega)]; omega⟩, by simp only; rw [w64 (by omega) (by omega)]; omega⟩))
    obtain ⟨v, j⟩ := s
    obtain ⟨hs, hj, hsr⟩ := hs
    simp only at hs hj hsr
    have hlen := hs.len
    have hD := hs.al hA
    unfold slices_partialInsertionSortCmpFunc_impl_set_L4
    by_cases hjb : j < b
    · simp only [w64 (x := j - 1) (by omega) (by omega), w64 (x := j + 1) (by omega) (by omega)]
      obtain ⟨e, he, hel⟩ := O.ok (gl v j) (gl v (j - 1)) (hD _ (by omega) (by omega)) (hD _ (by omega) (by omega))
      refine .yes hjb (.yes (by omega) (.yes (by omega) (.calls he (.ite (fun hlt => ?_) (fun hlt => .ret (.inr ⟨_, rfl, hs, hsr⟩))))))
      refine .yes (by rw [sls_len]; omega) (.ret (.inl ⟨_, rfl, ⟨hs.trans (.swp v h0 (by omega) (by omega) (by omega) (by omega) (by omega)), by simp only; omega, fun p q hp hpq hq => ?_⟩, by simp only; omega⟩))
      simp only
      rw [gl_swp (by omega) (by omega) (by omega) (by omega) (by omega), gl_swp (by omega) (by omega) (by omega) (by omega) (by omega), if_neg (by omega), if_neg (by omega), if_neg (by omega), if_neg (by omega)]
      exact hsr p q hp hpq hq
    · exact .no hjb (.ret (.inr ⟨_, rfl, hs, hsr⟩))

/-- in order but for a part -/
def impl_set_X (lt : Int → Int → Prop) (a b a' b' : Int) (w : List Int) : Prop := ∀ p q, a ≤ p → p < q → q < b → ¬ (a' ≤ p ∧ q < b') → ¬ lt (gl w q) (gl w p)
theorem impl_set_X.sg {a b a' b' : Int} {w v : List Int} (h0 : 0 ≤ a) (ha : a ≤ a') (hb : b' ≤ b) (h : impl_set_X lt a b a' b' w) (s : Sg a' b' w v) : impl_set_X lt a b a' b' v := fun p q hp hpq hq hn => by
  by_cases p1 : a' ≤ p ∧ p < b'
  · rw [s.out q (by omega) (by omega)]
    exact s.pr (fun x => ¬ lt (gl w q) x) (fun k k0 k1 => h k q (by omega) (by omega) hq (by omega)) p p1.1 p1.2
  · rw [s.out p (by omega) (by omega)]
    by_cases q1 : a' ≤ q ∧ q < b'
    · exact s.pr (fun x => ¬ lt x (gl w p)) (fun k k0 k1 => h p k hp (by omega) (by omega) (by omega)) q q1.1 q1.2
    · rw [s.out q (by omega) (by omega)]; exact h p q hp hpq hq hn
theorem impl_set_X.srt {a b a' b' : Int} {w : List Int} (h : impl_set_X lt a b a' b' w) (s : Srt lt a' b' w) : Srt lt a b w := fun p q hp hpq hq => by
  by_cases hn : a' ≤ p ∧ q < b'
  · exact s p q hn.1 hpq hn.2
  · exact h p q hp hpq hq hn
theorem impl_set_pdq (O : Ord D f lt) : ∀ (n : Nat) {xs : List Int} {a b l : Int}, b - a < n → 0 ≤ a → a ≤ b → b ≤ xs.length → Sml xs → Al D xs → (0 < a → ∀ k, a ≤ k → k < b → ¬ lt (gl xs k) (gl xs (a - 1))) →
    Ok (slices_pdqsortCmpFunc_impl_set_n n xs a b l f) (fun ys => Sg a b xs ys ∧ Srt lt a b ys)
  | 0, _, a, b, _, hn, h0, h1, _, _, _, _ => by omega
  | n + 1, xs, a, b, l, hn, h0, h1, h2, hl, hA, hpre => by
    have IH := @impl_set_pdq O n
    show Ok (slices_pdqsortCmpFunc_impl_set_B (slices_pdqsortCmpFunc_impl_set_n n) xs a b l f) _
    unfold slices_pdqsortCmpFunc_impl_set_B
    refine .call (Ok.loop (step := slices_pdqsortCmpFunc_impl_set_L1 f (slices_pdqsortCmpFunc_impl_set_n n)) (fun s => Sg a b xs s.1 ∧ (a ≤ s.2.1 ∧ s.2.1 ≤ s.2.2.1 ∧ s.2.2.1 ≤ b) ∧ impl_set_X lt a b s.2.1 s.2.2.1 s.1) (fun s => (s.2.2.1 - s.2.1).toNat) (Q := fun ys => Sg a b xs ys ∧ Srt lt a b ys) (fun s hs => ?_)
      ⟨.refl _ _ _, by simp only; omega, fun p q hp hpq hq hn => absurd ⟨hp, hq⟩ hn⟩) fun ys hy => .ret hy
    obtain ⟨w, a', b', l, bal, part⟩ := s
    obtain ⟨hs, hab, hx⟩ := hs
    simp only at hs hab hx
    have hlen := hs.len
    have hD := hs.al hA
    have hsm : ∀ v : List Int, v.length = xs.length → Sml v := fun v hv => by unfold Sml at hl ⊢; rw [hv]; exact hl
    have fin : ∀ v, Sg a' b' w v → Srt lt a' b' v → Sg a b xs v ∧ Srt lt a b v := fun v sv sr => ⟨hs.trans (sv.mono (by omega) hab.1 hab.2.2), (hx.sg h0 hab.1 hab.2.2 sv).srt sr⟩
    have pre : ∀ v, Sg a' b' w v → 0 < a' → ∀ k, a' ≤ k → k < b' → ¬ lt (gl v k) (gl v (a' - 1)) := fun v sv ha k k0 k1 => by
      rw [sv.out (a' - 1) (by omega) (by omega)]
      refine sv.pr (fun x => ¬ lt x (gl w (a' - 1))) (fun j j0 j1 => ?_) k k0 k1
      by_cases e : a = a'
      · subst e
        rw [hs.out (a - 1) (by omega) (by omega)]
        exact hs.pr (fun x => ¬ lt x (gl xs (a - 1))) (hpre ha) j (by omega) (by omega)
      · exact hx (a' - 1) j (by omega) (by omega) (by omega) (by omega)
    unfold slices_pdqsortCmpFunc_impl_set_L1
    simp only [w64 (x := b' - a') (by omega) (by omega)]
    refine .ite (fun h12 => .call (impl_set_insertion O (by omega) (by omega) (by omega) (hsm w hlen) hD) fun v hv => .ret (.inr ⟨_, rfl, fin v hv.1 hv.2⟩)) (fun h12 => ?_)
    refine .ite (fun _ => .call (impl_set_heap O (by omega) (by omega) (by omega) (hsm w hlen) hD) fun v hv => .ret (.inr ⟨_, rfl, fin v hv.1 hv.2⟩)) (fun _ => ?_)
    refine .call (R := fun r => Sg a' b' w r.1) (.ite (fun _ => .ret (.refl _ _ _)) (fun _ => .call (impl_set_break (by omega) (by omega) (by omega) (hsm w hlen)) fun v hv => .ret hv)) fun r1 s1 => ?_
    obtain ⟨w1, l1⟩ := r1
    simp only at s1 ⊢
    have len1 := s1.len
    refine .call (impl_set_choose O (by omega) (by omega) (by omega) (hsm w1 (by omega)) (s1.al hD)) fun pv hpv => ?_
    refine .call (R := fun r => Sg a' b' w r.1 ∧ a' ≤ r.2.1 ∧ r.2.1 < b') (.ite (fun _ => .call (impl_set_reverse (by omega) (by omega) (by omega) (hsm w1 (by omega))) fun v hv => .ret ⟨s1.trans hv, ?_⟩) (fun _ => .ret ⟨s1, hpv⟩)) fun r2 s2 => ?_
    · simp only [w64 (x := b' - 1) (by omega) (by omega), w64 (x := pv.1 - a') (by omega) (by omega)]
      rw [w64 (by omega) (by omega)]; omega
    obtain ⟨w2, p2, h2t⟩ := r2
    obtain ⟨s2, hp2⟩ := s2
    simp only at s2 hp2 ⊢
    have len2 := s2.len
    refine .call (R := fun r => ∃ v, Sg a' b' w v ∧ (r = .inl v ∨ r = .inr v ∧ Srt lt a' b' v)) ?_ fun r3 hr3 => ?_
    · refine .call (R := fun _ => True) (.ite (fun _ => .ite (fun _ => .ret trivial) (fun _ => .ret trivial)) (fun _ => .ret trivial)) fun bb _ => ?_
      refine .ite (fun _ => .call (impl_set_partial O (by omega) (by omega) (by omega) (hsm w2 (by omega)) (s2.al hD) (pre w2 s2)) fun r hr => .ite (fun e => .ret ⟨_, s2.trans hr.1, .inr ⟨rfl, hr.2 e⟩⟩) (fun _ => .ret ⟨_, s2.trans hr.1, .inl rfl⟩)) (fun _ => .ret ⟨_, s2, .inl rfl⟩)
    · obtain ⟨v, sv, rfl | ⟨rfl, sr⟩⟩ := hr3
      · have lenv := sv.len
        have hDv := sv.al hD
        have xv := hx.sg h0 hab.1 hab.2.2 sv
        simp only [Sum.elim_inl]
        refine .call (R := fun t => t = true → 0 < a' ∧ ¬ lt (gl v (a' - 1)) (gl v p2)) ?_ fun t ht => ?_
        · by_cases ha : 0 < a'
          · simp only [w64 (x := a' - 1) (by omega) (by omega)]
            obtain ⟨e, he, hel⟩ := O.ok (gl v (a' - 1)) (gl v p2) (hDv _ (by omega) (by omega)) (hDv _ (by omega) (by omega))
            refine .yes ha (.yes (by omega) (.yes (by omega) (.calls he (.ret fun h => ⟨ha, fun h2 => ?_⟩))))
            have := hel.2 h2
            simp [this] at h
          · exact .no ha (.ret fun h => nomatch h)
        · refine .ite (fun e => ?_) (fun _ => ?_)
          · obtain ⟨ha, hle⟩ := ht e
            refine .call (impl_set_partitionEq O (by omega) (by omega) (by omega) hp2 (hsm v (by omega)) hDv) fun r hr => .ret (.inl ⟨_, rfl, ?_⟩)
            obtain ⟨mid, u⟩ := r
            obtain ⟨hm, su, hlo, hhi⟩ := hr
            simp only at hm su hlo hhi ⊢
            have xu := xv.sg h0 hab.1 hab.2.2 su
            have ge : ∀ k, a' ≤ k → k < b' → ¬ lt (gl u k) (gl v p2) := fun k k0 k1 => by
              refine su.pr (fun x => ¬ lt x (gl v p2)) (fun j j0 j1 => ?_) k k0 k1
              exact O.ntr _ _ _ hle (pre v sv ha j j0 j1)
            refine ⟨⟨(hs.trans (sv.mono (by omega) hab.1 hab.2.2)).trans (su.mono (by omega) hab.1 hab.2.2), by omega, fun p q hp hpq hq hn => ?_⟩, by omega⟩
            by_cases hin : a' ≤ p ∧ q < b'
            · exact O.ntr _ _ _ (hlo p hin.1 (by omega)) (ge q (by omega) hin.2)
            · exact xu p q hp hpq hq hin
          · refine .call (impl_set_partition O (by omega) (by omega) (by omega) hp2 (hsm v (by omega)) hDv) fun r hr => ?_
            obtain ⟨mid, ap, u⟩ := r
            obtain ⟨hm, su, hlo, hhi⟩ := hr
            simp only at hm su hlo hhi ⊢
            have lenu := su.len
            have xu := xv.sg h0 hab.1 hab.2.2 su
            have su' := sv.trans su
            refine .ite (fun _ => ?_) (fun _ => ?_)
            · refine .call (IH (xs := u) (a := a') (b := mid) (by omega) (by omega) hm.1 (by omega) (hsm u (by omega)) (su'.al hD) (fun ha k k0 k1 => pre u su' ha k k0 (by omega))) fun z hz => .ret (.inl ⟨_, rfl, ?_⟩)
              obtain ⟨sz, rz⟩ := hz
              simp only [w64 (x := mid + 1) (by omega) (by omega)]
              have sz' := sz.mono (a' := a') (b' := b') (by omega) (by omega) (by omega)
              have xz := xu.sg h0 hab.1 hab.2.2 sz'
              refine ⟨⟨(hs.trans (su'.mono (by omega) hab.1 hab.2.2)).trans (sz'.mono (by omega) hab.1 hab.2.2), by omega, fun p q hp hpq hq hn => ?_⟩, by omega⟩
              by_cases hin : a' ≤ p ∧ q < b'
              · have lo : ∀ k, a' ≤ k → k < mid → ¬ lt (gl u mid) (gl z k) := fun k k0 k1 => sz.pr (fun x => ¬ lt (gl u mid) x) (fun j j0 j1 => O.asym _ _ (hlo j j0 j1)) k k0 k1
                by_cases hpm : p < mid
                · by_cases hqm : q < mid
                  · exact rz p q hin.1 hpq hqm
                  · rw [sz.out q (by omega) (by omega)]
                    by_cases eq : q = mid
                    · rw [eq]; exact lo p hin.1 hpm
                    · exact O.ntr _ _ _ (lo p hin.1 hpm) (hhi q (by omega) hin.2)
                · have ep : p = mid := by omega
                  rw [sz.out q (by omega) (by omega), sz.out p (by omega) (by omega), ep]
                  exact hhi q (by omega) hin.2
              · exact xz p q hp hpq hq hin
            · simp only [w64 (x := mid + 1) (by omega) (by omega)]
              refine .call (IH (xs := u) (a := mid + 1) (b := b') (by omega) (by omega) (by omega) (by omega) (hsm u (by omega)) (su'.al hD) (fun ha k k0 k1 => by rw [show mid + 1 - 1 = mid by omega]; exact hhi k (by omega) k1)) fun z hz => .ret (.inl ⟨_, rfl, ?_⟩)
              obtain ⟨sz, rz⟩ := hz
              have sz' := sz.mono (a' := a') (b' := b') (by omega) (by omega) (by omega)
              have xz := xu.sg h0 hab.1 hab.2.2 sz'
              refine ⟨⟨(hs.trans (su'.mono (by omega) hab.1 hab.2.2)).trans (sz'.mono (by omega) hab.1 hab.2.2), by simp only; omega, fun p q hp hpq hq hn => ?_⟩, by simp only; omega⟩
              simp only at hn ⊢
              by_cases hin : a' ≤ p ∧ q < b'
              · have hi : ∀ k, mid < k → k < b' → ¬ lt (gl z k) (gl u mid) := fun k k0 k1 => sz.pr (fun x => ¬ lt x (gl u mid)) (fun j j0 j1 => hhi j (by omega) j1) k (by omega) k1
                by_cases hqm : mid < q
                · by_cases hpm : mid < p
                  · exact rz p q (by omega) hpq hin.2
                  · rw [sz.out p (by omega) (by omega)]
                    by_cases ep : p = mid
                    · rw [ep]; exact hi q hqm hin.2
                    · exact O.ntr _ _ _ (O.asym _ _ (hlo p hin.1 (by omega))) (hi q hqm hin.2)
                · have eq : q = mid := by omega
                  rw [sz.out q (by omega) (by omega), sz.out p (by omega) (by omega), eq]
                  exact O.asym _ _ (hlo p hin.1 (by omega))
              · exact xz p q hp hpq hq hin
      · simp only [Sum.elim_inr]
        exact .ret (.inr ⟨_, rfl, fin v sv sr⟩)
theorem impl_set_lens : ∀ v : Nat, v < 1024 → (bits_Len (IntKind.u64.wrap (v : Int))).isSome = true := by decide +kernel
/-- The library's sort puts a list in order. -/
theorem impl_set_sort (O : Ord D f lt) {xs : List Int} (hl : Sml xs) (hA : ∀ x ∈ xs, D x) : Ok (slices_SortFunc_impl_set_impl_set xs f) (fun ys => ys.Perm xs ∧ ys.Pairwise (fun x y => ¬ lt y x)) := by
  obtain ⟨t, ht⟩ := Option.isSome_iff_exists.1 (impl_set_lens xs.length (by unfold Sml at hl; omega))
  unfold slices_SortFunc_impl_set_impl_set slices_pdqsortCmpFunc_impl_set
  have hf := fuel_gt
  refine .calls ht (.call (impl_set_pdq O fuel (by unfold Sml at hl; omega) (Int.le_refl _) (by omega) (Int.le_refl _) hl (.mem hA) (fun h => by omega)) fun ys hy => .ret ⟨hy.1.perm, ?_⟩)
  rw [List.pairwise_iff_getElem]
  intro i j hi hj hij
  have hlen := hy.1.len
  have := hy.2 i j (by omega) (by omega) (by omega)
  rwa [gl_nat _ i hi, gl_nat _ j hj] at this
end
end Go.Mi
