/- Plain functions: what they answer, by rules; sets as bits. No condition. -/
import Derived.Test.YtekmmbgbhjeoaaaSxB2
set_option linter.unusedSimpArgs false
set_option linter.unusedVariables false
namespace Go.Pl
open Go Go.Sx

/-- 'm' answers, and what it answers is as 'Q' says. -/
def Ok {α : Type} (m : Option α) (Q : α → Prop) : Prop := ∃ a, m = some a ∧ Q a
section
variable {α β : Type} {Q : α → Prop}
theorem Ok.ret {a : α} (h : Q a) : Ok (some a) Q := ⟨a, rfl, h⟩
theorem Ok.mono {m : Option α} {Q' : α → Prop} (h : Ok m Q) (h2 : ∀ a, Q a → Q' a) : Ok m Q' := by
  obtain ⟨a, e, h⟩ := h; exact ⟨a, e, h2 a h⟩
theorem Ok.bind {m : Option β} {f : β → Option α} (h : Ok m fun a => Ok (f a) Q) : Ok (m.bind f) Q := by
  obtain ⟨a, rfl, h⟩ := h; exact h
theorem Ok.call {m : Option β} {f : β → Option α} {R : β → Prop} (h : Ok m R) (h2 : ∀ a, R a → Ok (f a) Q) : Ok (m.bind f) Q := Ok.bind (h.mono h2)
theorem Ok.of_eq {m : Option α} {a : α} (h : m = some a) (h2 : Q a) : Ok m Q := ⟨a, h, h2⟩
theorem Ok.calls {m : Option β} {f : β → Option α} {b : β} (h : m = some b) (h2 : Ok (f b) Q) : Ok (m.bind f) Q := by rw [h]; exact h2
theorem Ok.eq {m : Option α} {a : α} (h : Ok m (· = a)) : m = some a := by
  obtain ⟨b, rfl, rfl⟩ := h; rfl
theorem Ok.yes {c : Prop} [Decidable c] {a b : Option α} (hc : c) (h : Ok a Q) : Ok (if c then a else b) Q := by rw [if_pos hc]; exact h
theorem Ok.no {c : Prop} [Decidable c] {a b : Option α} (hc : ¬ c) (h : Ok b Q) : Ok (if c then a else b) Q := by rw [if_neg hc]; exact h
theorem Ok.ite {c : Prop} [Decidable c] {a b : Option α} (h1 : c → Ok a Q) (h2 : ¬ c → Ok b Q) : Ok (if c then a else b) Q := by
  by_cases h : c
  · rw [if_pos h]; exact h1 h
  · rw [if_neg h]; exact h2 h
/-- The rule of a loop. -/
theorem Ok.loop {S R : Type} {step : S → Option (S ⊕ R)} {Q : R → Prop} (I : S → Prop) (μ : S → Nat)
    (h : ∀ s, I s → Ok (step s) fun x => (∃ s', x = .inl s' ∧ I s' ∧ μ s' < μ s) ∨ ∃ r, x = .inr r ∧ Q r) {s : S} (h0 : I s) : Ok (Lp.run step s) Q :=
  Lp.run_inv I μ Q (fun s hs => by
    obtain ⟨x, e, h | h⟩ := h s hs
    · obtain ⟨s', rfl, h1, h2⟩ := h; exact .inl ⟨s', e, h1, h2⟩
    · obtain ⟨r, rfl, h1⟩ := h; exact .inr ⟨r, e, h1⟩) s h0
/-- A loop with a counter that goes up to 'n'. -/
theorem Ok.up {A S R : Type} {step : S → Option (S ⊕ R)} {Q : R → Prop} (pk : A → Int → S) (I : A → Int → Prop) (k n : Int) (hk : k ≤ n)
    (h : ∀ a i, k ≤ i → i < n → I a i → Ok (step (pk a i)) fun x => (∃ a', x = .inl (pk a' (i + 1)) ∧ I a' (i + 1)) ∨ ∃ r, x = .inr r ∧ Q r)
    (he : ∀ a, I a n → Ok (step (pk a n)) fun x => ∃ r, x = .inr r ∧ Q r) {a : A} (h0 : I a k) : Ok (Lp.run step (pk a k)) Q := by
  have key : ∀ (d : Nat) (i : Int), n - i = d → k ≤ i → ∀ a, I a i → Ok (Lp.run step (pk a i)) Q := by
    intro d
    induction d with
    | zero =>
      intro i hd _ a ha
      have : i = n := by omega
      subst this
      obtain ⟨x, e, r, rfl, hq⟩ := he a ha
      exact ⟨r, Lp.run_out e, hq⟩
    | succ d ih =>
      intro i hd hki a ha
      obtain ⟨x, e, h⟩ := h a i hki (by omega) ha
      rcases h with ⟨a', rfl, h⟩ | ⟨r, rfl, hq⟩
      · rw [Lp.run_next e]; exact ih (i + 1) (by omega) (by omega) a' h
      · exact ⟨r, Lp.run_out e, hq⟩
  exact key (n - k).toNat k (by omega) (Int.le_refl _) a h0
end

/-! Sets of elements below ten, as numbers -/
def hasb (v x : Int) : Bool := v.toNat.testBit x.toNat
theorem hasb_zero (x : Int) : hasb 0 x = false := by simp [hasb]
theorem hasb_one (x : Int) (h : 0 ≤ x) : hasb 1 x = decide (x = 0) := by
  unfold hasb
  rw [show (1 : Int).toNat = 2 ^ 0 from rfl, Nat.testBit_two_pow]
  rw [Bool.eq_iff_iff]; simp; omega
theorem hasb_lt {v x : Int} {n : Nat} (hv : v < (2 ^ n : Nat)) (h : hasb v x = true) (hx : 0 ≤ x) : x < n := by
  unfold hasb at h
  rcases Int.lt_or_le x n with h1 | h1
  · exact h1
  · have h2 : v.toNat < 2 ^ x.toNat := by
      have : (2 : Nat) ^ n ≤ 2 ^ x.toNat := Nat.pow_le_pow_right (by omega) (by omega)
      have := Nat.two_pow_pos x.toNat
      omega
    rw [Nat.testBit_lt_two_pow h2] at h; cases h
theorem has_int {v x : Int} (hv : 0 ≤ v ∧ v < 1024) (hx : 0 ≤ x ∧ x < 64) : decide (iand .i64 (ishr .i64 v x) 1 = 1) = hasb v x := by
  have h := has_bit v.toNat x.toNat (by omega) (by omega)
  rw [Int.toNat_of_nonneg hv.1, Int.toNat_of_nonneg hx.1] at h
  unfold hasb
  rw [Bool.eq_iff_iff, decide_eq_true_eq]; exact h
theorem ior_int {a b : Int} (ha : 0 ≤ a ∧ a < 1024) (hb : 0 ≤ b ∧ b < 1024) : ior .i64 a b = ((a.toNat ||| b.toNat : Nat) : Int) := by
  have := ior_nat a.toNat b.toNat (by omega) (by omega)
  rwa [Int.toNat_of_nonneg ha.1, Int.toNat_of_nonneg hb.1] at this
theorem ior_rg {a b : Int} (ha : 0 ≤ a ∧ a < 1024) (hb : 0 ≤ b ∧ b < 1024) : 0 ≤ ior .i64 a b ∧ ior .i64 a b < 1024 := by
  rw [ior_int ha hb]
  have := Nat.or_lt_two_pow (x := a.toNat) (y := b.toNat) (n := 10) (by omega) (by omega)
  omega
theorem ior_has {a b : Int} (ha : 0 ≤ a ∧ a < 1024) (hb : 0 ≤ b ∧ b < 1024) (x : Int) : hasb (ior .i64 a b) x = (hasb a x || hasb b x) := by
  rw [ior_int ha hb]
  unfold hasb
  rw [Int.toNat_natCast, Nat.testBit_or]
theorem iand_int {a b : Int} (ha : 0 ≤ a ∧ a < 1024) (hb : 0 ≤ b ∧ b < 1024) : iand .i64 a b = ((a.toNat &&& b.toNat : Nat) : Int) := by
  have := iand_nat a.toNat b.toNat (by omega) (by omega)
  rwa [Int.toNat_of_nonneg ha.1, Int.toNat_of_nonneg hb.1] at this
theorem iand_rg {a b : Int} (ha : 0 ≤ a ∧ a < 1024) (hb : 0 ≤ b ∧ b < 1024) : 0 ≤ iand .i64 a b ∧ iand .i64 a b < 1024 := by
  rw [iand_int ha hb]
  have := Nat.and_le_left (n := a.toNat) (m := b.toNat)
  omega
theorem iand_has {a b : Int} (ha : 0 ≤ a ∧ a < 1024) (hb : 0 ≤ b ∧ b < 1024) (x : Int) : hasb (iand .i64 a b) x = (hasb a x && hasb b x) := by
  rw [iand_int ha hb]
  unfold hasb
  rw [Int.toNat_natCast, Nat.testBit_and]
theorem ishl_int {x : Int} (hx : 0 ≤ x ∧ x < 10) : ishl .i64 1 x = ((2 ^ x.toNat : Nat) : Int) := by
  have := ishl_one x.toNat (by omega)
  rwa [Int.toNat_of_nonneg hx.1] at this
theorem ishl_rg {x : Int} (hx : 0 ≤ x ∧ x < 10) : 0 ≤ ishl .i64 1 x ∧ ishl .i64 1 x < 1024 := by
  rw [ishl_int hx]
  have : (2 : Nat) ^ x.toNat < 2 ^ 10 := Nat.pow_lt_pow_right (by omega) (by omega)
  generalize (2 : Nat) ^ x.toNat = y at *
  omega
theorem ishl_has {x : Int} (hx : 0 ≤ x ∧ x < 10) (y : Int) (hy : 0 ≤ y) : hasb (ishl .i64 1 x) y = decide (x = y) := by
  rw [ishl_int hx]
  unfold hasb
  rw [Int.toNat_natCast, Nat.testBit_two_pow, Bool.eq_iff_iff]
  simp; omega
theorem has_ext {a b : Int} (ha : 0 ≤ a ∧ a < 1024) (hb : 0 ≤ b ∧ b < 1024) (h : ∀ x, 0 ≤ x → x < 10 → hasb a x = hasb b x) : a = b := by
  have : a.toNat = b.toNat := Nat.eq_of_testBit_eq fun i => by
    rcases Nat.lt_or_ge i 10 with hi | hi
    · have := h i (by omega) (by omega)
      simpa [hasb] using this
    · have h1 : (2 : Nat) ^ 10 ≤ 2 ^ i := Nat.pow_le_pow_right (by omega) hi
      rw [Nat.testBit_lt_two_pow (by omega), Nat.testBit_lt_two_pow (by omega)]
  omega
theorem ior_le {a b : Int} (ha : 0 ≤ a ∧ a < 1024) (hb : 0 ≤ b ∧ b < 1024) : a ≤ ior .i64 a b ∧ b ≤ ior .i64 a b := by
  rw [ior_int ha hb]
  have h1 := Nat.left_le_or (n := a.toNat) (m := b.toNat)
  have h2 := Nat.right_le_or (n := a.toNat) (m := b.toNat)
  omega

/-! Maps of the numbers below 'n' -/
theorem inj_onto {n : Int} {f : Int → Int} (hf : ∀ i, 0 ≤ i → i < n → 0 ≤ f i ∧ f i < n) (hi : ∀ i j, 0 ≤ i → i < n → 0 ≤ j → j < n → f i = f j → i = j) {y : Int} (h0 : 0 ≤ y) (hy : y < n) : ∃ x, 0 ≤ x ∧ x < n ∧ f x = y := by
  obtain ⟨x, h1, h2⟩ := inj_surj (n := n.toNat) (f := fun i => (f i).toNat) (fun i hi' => by have := hf i (by omega) (by omega); omega)
    (fun i j hi' hj' e => by
      have h1 := hf i (by omega) (by omega)
      have h2 := hf j (by omega) (by omega)
      have := hi i j (by omega) (by omega) (by omega) (by omega) (by omega)
      omega) (y := y.toNat) (by omega)
  have := hf x (by omega) (by omega)
  exact ⟨x, by omega, by omega, by omega⟩
theorem onto_inj {n : Int} {f : Int → Int} (hf : ∀ i, 0 ≤ i → i < n → 0 ≤ f i ∧ f i < n) (hs : ∀ y, 0 ≤ y → y < n → ∃ x, 0 ≤ x ∧ x < n ∧ f x = y) : ∀ i j, 0 ≤ i → i < n → 0 ≤ j → j < n → f i = f j → i = j := by
  intro i j h1 h2 h3 h4 e
  have := surj_inj (n := n.toNat) (f := fun i => (f i).toNat) (fun i hi' => by have := hf i (by omega) (by omega); omega)
    (fun y hy => by
      obtain ⟨x, a, b, c⟩ := hs y (by omega) (by omega)
      refine ⟨x.toNat, by omega, ?_⟩
      rw [Int.toNat_of_nonneg a, c]; omega) i.toNat j.toNat (by omega) (by omega) (by rw [Int.toNat_of_nonneg h1, Int.toNat_of_nonneg h3, e])
  omega
/-- what an injective map keeps, its inverse keeps -/
theorem per_int {n : Int} {f : Int → Int} (hf : ∀ i, 0 ≤ i → i < n → 0 ≤ f i ∧ f i < n) (hi : ∀ i j, 0 ≤ i → i < n → 0 ≤ j → j < n → f i = f j → i = j) {S : Int → Prop} (hS : ∀ i, 0 ≤ i → i < n → S i → S (f i)) {u : Int} (h0 : 0 ≤ u) (hu : u < n) (h : S (f u)) : S u := by
  have := per (n := n.toNat) (f := fun i => (f i).toNat) (fun i hi' => by have := hf i (by omega) (by omega); omega)
    (fun i j hi' hj' e => by
      have h1 := hf i (by omega) (by omega)
      have h2 := hf j (by omega) (by omega)
      have := hi i j (by omega) (by omega) (by omega) (by omega) (by omega)
      omega) (S := fun i => S (i : Int)) (fun i hi' h' => by
      have h1 := hf i (by omega) (by omega)
      have := hS i (by omega) (by omega) h'
      simpa only [Int.toNat_of_nonneg h1.1] using this) (u := u.toNat) (by omega) (by
      have h1 := hf u h0 hu
      simp only [Int.toNat_of_nonneg h0, Int.toNat_of_nonneg h1.1]; exact h)
  simpa only [Int.toNat_of_nonneg h0] using this
end Go.Pl
