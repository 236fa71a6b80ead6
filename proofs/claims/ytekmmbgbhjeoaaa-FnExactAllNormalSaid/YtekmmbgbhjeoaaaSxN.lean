/- The foundation of this claim's walks: parts of slices; slices of slices that are joined. No condition. -/
import Derived.Test.YtekmmbgbhjeoaaaSxM
set_option linter.unusedSectionVars false
set_option linter.unusedVariables false
set_option linter.unusedSimpArgs false
namespace Go.Sx
open Go
variable {P : Program} {G : World} {N : Nat} {T : Env} {H F : List Res} {ty : TypeId}
variable {α : Type} [Inhabited α] {e : Enc α}

/-- the value of a part of a slice -/
def cutv (v : Value) (l k sz : Nat) : Value := match v with
  | .slice (some ⟨b, off, _⟩) _ c => .slice (some ⟨b, if c = l then off else off + l * sz, none⟩) (k - l) (c - l)
  | _ => .slice none 0 0
def subl (xs : List α) (l k : Int) : List α := (xs.drop l.toNat).take (k.toNat - l.toNat)
theorem subl_len {xs : List α} {l k : Int} (h : (0 ≤ l ∧ l ≤ k) ∧ k ≤ xs.length) : (subl xs l k).length = k.toNat - l.toNat := by
  simp [subl]; omega
theorem flat_drop (e : Enc α) : ∀ (n : Nat) (xs : List α), (xs.drop n).flatMap e.cells = (xs.flatMap e.cells).drop (n * e.size)
  | 0, xs => by simp
  | n + 1, [] => by simp
  | n + 1, x :: xs => by
    rw [List.drop_succ_cons, flat_drop e n xs, List.flatMap_cons, Nat.succ_mul, Nat.add_comm, ← List.drop_drop, List.drop_left' (e.len x)]
theorem flat_take (e : Enc α) : ∀ (n : Nat) (xs : List α), (xs.take n).flatMap e.cells = (xs.flatMap e.cells).take (n * e.size)
  | 0, xs => by simp
  | n + 1, [] => by simp
  | n + 1, x :: xs => by
    rw [List.take_succ_cons, List.flatMap_cons, flat_take e n xs, List.flatMap_cons, Nat.succ_mul, Nat.add_comm (n * e.size), List.take_append, e.len, List.take_of_length_le (l := e.cells x) (by rw [e.len]; omega)]
    simp
theorem flat_subl (e : Enc α) (xs : List α) (l k : Int) : (subl xs l k).flatMap e.cells = ((xs.flatMap e.cells).drop (l.toNat * e.size)).take ((k.toNat - l.toNat) * e.size) := by
  rw [subl, flat_take, flat_drop]
theorem Rd.cutv {w : World} {v : Value} {n sz : Nat} {cs : List Value} (h : Rd w v n sz cs) (l k : Nat) (hlk : l ≤ k) (hk : k ≤ n) : Rd w (Sx.cutv v l k sz) (k - l) sz ((cs.drop (l * sz)).take ((k - l) * sz)) := by
  obtain ⟨hl, h⟩ := h
  have hkl : ((cs.drop (l * sz)).take ((k - l) * sz)).length = (k - l) * sz := by
    simp [hl]
    have : (k - l) * sz ≤ (n - l) * sz := Nat.mul_le_mul_right sz (by omega)
    rw [← Nat.sub_mul]; omega
  rcases h with ⟨rfl, rfl⟩ | ⟨b, off, cap, rfl, hc, hcell⟩
  · exact ⟨hkl, .inl ⟨rfl, by omega⟩⟩
  · refine ⟨hkl, .inr ⟨b, _, cap - l, rfl, by omega, fun i hi => ?_⟩⟩
    rw [hkl] at hi
    have hpos : 0 < k - l := Nat.pos_of_ne_zero fun h0 => by rw [h0] at hi; simp at hi
    have hne : cap ≠ l := by omega
    simp only [if_neg hne]
    have hi2 : l * sz + i < cs.length := by
      rw [hl]
      have : (l + (k - l)) * sz ≤ n * sz := Nat.mul_le_mul_right sz (by omega)
      rw [Nat.add_mul] at this; omega
    have := hcell (l * sz + i) hi2
    rw [Nat.add_assoc, this]
    simp
theorem Rd.cut_run {w : World} {v : Value} {n sz : Nat} {cs : List Value} (h : Rd w v n sz cs) (l k : Nat) (hlk : l ≤ k) (hk : k ≤ n) (t e : TypeId) (hs : (P.info? e).map (·.size) = some sz) (ht : P.underlying t = some (.slice e)) (lo hi : Option Value)
    (hlo : lo = none ∧ l = 0 ∨ ∃ kk, lo = some (.int kk l)) (hhi : hi = none ∧ k = n ∨ ∃ kk, hi = some (.int kk k)) : (Instr.sliceAt t v lo hi none).run P w = .ok (Sx.cutv v l k sz) w := by
  obtain ⟨hl, h⟩ := h
  cases hi' : P.info? e with
  | none => simp [hi'] at hs
  | some i =>
    simp [hi'] at hs
    rcases h with ⟨rfl, rfl⟩ | ⟨b, off, cap, rfl, hc, hcell⟩
    · have hk0 : k = 0 := by omega
      have hl0 : l = 0 := by omega
      subst hk0; subst hl0
      rcases hlo with ⟨rfl, _⟩ | ⟨k1, rfl⟩ <;> rcases hhi with ⟨rfl, _⟩ | ⟨k2, rfl⟩ <;>
        simp [Instr.sliceAt, Instr.slice, underlying, ht, Instr.sliceBounds, Instr.sliceBound, asIntOf, sizeOf, typeInfo, hi', hs, Sx.cutv]
    · have hbounds : (Instr.sliceBounds true n cap lo hi none).run P w = .ok (l, k, cap) w := by
        have h3 : ¬ cap < k := by omega
        have h4 : ¬ k < l := by omega
        have h5 : k ≤ cap := by omega
        rcases hlo with ⟨rfl, rfl⟩ | ⟨k1, rfl⟩ <;> rcases hhi with ⟨rfl, rfl⟩ | ⟨k2, rfl⟩ <;>
          simp [Instr.sliceBounds, Instr.sliceBound, asIntOf, h3, h4, h5, hlk]
      simp only [Instr.sliceAt, underlying, Sem.run_bind, run_program, Result.andThen_ok, ht, Sem.run_pure, Instr.slice, hbounds, sizeOf, typeInfo, hi', hs, Sx.cutv]
      simp only [Option.map_some, add_addr]
      split <;> rfl
/-- a bound of a part -/
def Bd (T : Env) (lo : Option Operand) (l : Int) (d : Int) : Prop := (lo = none ∧ l = d) ∨ ∃ x kk, lo = some x ∧ T.opd x = some (.int kk l)
theorem Bd.no {T : Env} {d : Int} : Bd T none d d := .inl ⟨rfl, rfl⟩
theorem Bd.at {T : Env} {x : Operand} {kk : IntKind} {l d : Int} (h : T.opd x = some (.int kk l)) : Bd T (some x) l d := .inr ⟨x, kk, rfl, h⟩
theorem R.cut2 {t el : TypeId} {x : Operand} {lo hi : Option Operand} {v : Value} {n sz : Nat} {l k : Int} {cs : List Value} (hx : T.opd x = some v) (ht : P.underlying t = some (.slice el)) (hs : (P.info? el).map (·.size) = some sz)
    (hr : Rds G H v n sz cs) (hb : (0 ≤ l ∧ l ≤ k) ∧ k ≤ n) (hlo : Bd T lo l 0) (hhi : Bd T hi k n) : OpV P G N T H (.slice t x lo hi none) ty (cutv v l.toNat k.toNat sz) := fun a w s _ _ _ _ => by
  have hlo' : lo.map a.eval = none ∧ l.toNat = 0 ∨ ∃ kk, lo.map a.eval = some (.int kk (l.toNat : Int)) := by
    rcases hlo with ⟨rfl, h⟩ | ⟨y, kk, rfl, h⟩
    · exact .inl ⟨rfl, by omega⟩
    · exact .inr ⟨kk, by rw [Int.toNat_of_nonneg hb.1.1]; simp [s.env.eval h]⟩
  have hhi' : hi.map a.eval = none ∧ k.toNat = n ∨ ∃ kk, hi.map a.eval = some (.int kk (k.toNat : Int)) := by
    rcases hhi with ⟨rfl, h⟩ | ⟨y, kk, rfl, h⟩
    · exact .inl ⟨rfl, by omega⟩
    · exact .inr ⟨kk, by rw [Int.toNat_of_nonneg (by omega)]; simp [s.env.eval h]⟩
  have := (hr w s.mem).cut_run l.toNat k.toNat (by omega) (by omega) t el hs ht _ _ hlo' hhi'
  simp [execOp, s.env.eval hx, this]
theorem R.cutT {t : TypeId} {x : Operand} {lo hi : Option Operand} {v : Value} {z : α} {l k : Int} {xs : List α} (hx : T.opd x = some v) (ht : ElT P t e z) (hr : RdT e G H v xs) (hb : (0 ≤ l ∧ l ≤ k) ∧ k ≤ xs.length) (hlo : Bd T lo l 0) (hhi : Bd T hi k xs.length) :
    OpV P G N T H (.slice t x lo hi none) ty (cutv v l.toNat k.toNat e.size) := by
  obtain ⟨el, b, h1, ⟨i, hi, hs, _⟩, _, _⟩ := ht
  exact R.cut2 hx h1 (by rw [hi]; simp [hs]) hr hb hlo hhi
theorem RdT.sub {v : Value} {l k : Int} {xs : List α} (hr : RdT e G H v xs) (hb : (0 ≤ l ∧ l ≤ k) ∧ k ≤ xs.length) : RdT e G H (cutv v l.toNat k.toNat e.size) (subl xs l k) := fun w hw => by
  have := (hr w hw).cutv l.toNat k.toNat (by omega) (by omega)
  rw [← flat_subl, ← subl_len hb] at this
  exact this
theorem cutv_blk {v : Value} {l k sz b : Nat} (h : vblk (cutv v l k sz) b) : vblk v b := by
  unfold cutv at h
  split at h
  · exact h
  · exact h.elim
theorem Own.cutv {w : World} {v : Value} {n sz : Nat} {cs : List Value} (h : Own w v n sz cs) (l k : Nat) (hlk : l ≤ k) (hk : k ≤ n) : Own w (Sx.cutv v l k sz) (k - l) sz ((cs.drop (l * sz)).take ((k - l) * sz)) := by
  have hkl := ((Own.rd h).cutv l k hlk hk).1
  refine ⟨hkl, ?_⟩
  obtain ⟨hl, ⟨rfl, rfl⟩ | ⟨b, cap, pre, post, e, rfl, hb, h1, h2, h3⟩⟩ := h
  · exact .inl ⟨rfl, by omega⟩
  · right
    by_cases hc : cap = l
    · refine ⟨b, cap - l, pre, cs ++ post, e, by simp [Sx.cutv, hc], ?_, by omega, ?_, by omega⟩
      · rw [hb]
        have : (cs.drop (l * sz)).take ((k - l) * sz) = [] := by rw [show k - l = 0 by omega]; simp
        rw [this]; simp
      · rw [show cap - l = 0 by omega]; simp
    · refine ⟨b, cap - l, pre ++ cs.take (l * sz), (cs.drop (l * sz)).drop ((k - l) * sz) ++ post, e, ?_, ?_, by omega, ?_, by omega⟩
      · have : (pre ++ cs.take (l * sz)).length = pre.length + l * sz := by
          have := Nat.mul_le_mul_right sz (show l ≤ n by omega)
          rw [List.length_append, List.length_take, hl, Nat.min_eq_left this]
        simp [Sx.cutv, hc, this]
      · rw [hb]
        have : pre ++ cs ++ post = pre ++ cs.take (l * sz) ++ (cs.drop (l * sz)).take ((k - l) * sz) ++ ((cs.drop (l * sz)).drop ((k - l) * sz) ++ post) := by
          simp only [List.append_assoc]
          rw [← List.append_assoc ((cs.drop (l * sz)).take ((k - l) * sz)), List.take_append_drop, ← List.append_assoc (cs.take (l * sz)), List.take_append_drop]
        rw [this]
      · have e1 : (cs.drop (l * sz)).length = (n - l) * sz := by simp [hl, Nat.sub_mul]
        have e2 : ((cs.drop (l * sz)).take ((k - l) * sz)).length + ((cs.drop (l * sz)).drop ((k - l) * sz)).length = (n - l) * sz := by
          rw [← List.length_append, List.take_append_drop, e1]
        rw [List.length_append, ← Nat.add_assoc, e2]
        have e3 := Nat.mul_le_mul_right sz (show l ≤ n by omega)
        rw [Nat.sub_mul, Nat.sub_mul]; omega
/-- only a part is kept -/
theorem ok.cutT {w : World} {v : Value} {l k : Int} {xs : List α} (hb : (0 ≤ l ∧ l ≤ k) ∧ k ≤ xs.length) (h : ok G (slT e v xs :: H) w) : ok G (slT e (cutv v l.toNat k.toNat e.size) (subl xs l k) :: H) w :=
  h.conv (fun h => by
    have := Own.cutv h l.toNat k.toNat (by omega) (by omega)
    rw [← flat_subl, ← subl_len hb] at this
    exact this) fun b hb' => cutv_blk hb'
/-- a part is cleared -/
def clr (z : α) (xs : List α) (l k : Int) : List α := xs.take l.toNat ++ List.replicate (k.toNat - l.toNat) z ++ xs.drop k.toNat
theorem clr_len {z : α} {xs : List α} {l k : Int} (hb : (0 ≤ l ∧ l ≤ k) ∧ k ≤ xs.length) : (clr z xs l k).length = xs.length := by
  simp [clr]; omega
theorem zeros (a : Array Value) : ∀ n, (List.range (n * a.size)).map (fun i => a[i % a.size]!) = (List.replicate n a.toList).flatten
  | 0 => by simp
  | n + 1 => by
    rw [Nat.succ_mul, List.range_add, List.map_append, zeros a n, List.replicate_succ', List.flatten_append]
    congr 1
    apply List.ext_getElem
    · simp
    · intro i h1 h2
      have hi : i < a.size := by simpa using h1
      have e : (n * a.size + i) % a.size = i := by rw [Nat.mul_comm, Nat.mul_add_mod, Nat.mod_eq_of_lt hi]
      simp [e, hi]
theorem R.clearT {x : Operand} {t i : Nat} {u : Value} {z : α} {l k : Int} {xs : List α} (hi : H[i]? = some (slT e u xs)) (hx : T.opd x = some (cutv u l.toNat k.toNat e.size)) (ht : ElT P t e z) (hb : (0 ≤ l ∧ l ≤ k) ∧ k ≤ xs.length) :
    OpX P G N T H (.call ⟨.builtin .clear, #[x], #[t]⟩) ty (fun _ : Unit => .tuple #[]) (fun _ => H.set i (slT e u (clr z xs l k))) := by
  obtain ⟨el, by_, h1, ⟨inf, hinf, his, hib, zv, hz, hzc⟩, hzs, hby⟩ := ht
  refine .val fun a w s dst pos af g => ?_
  have hown := s.mem.at hi
  have hlen : ∀ ys : List α, (ys.flatMap e.cells).length = ys.length * e.size := flat_length e
  have same : l.toNat = k.toNat → clr z xs l k = xs := fun h0 => by
    rw [clr, h0, Nat.sub_self]; simp
  have stay : clr z xs l k = xs → ok G (H.set i (slT e u (clr z xs l k))) w := fun h0 => by
    obtain ⟨hlt, he⟩ := List.getElem?_eq_some_iff.1 hi
    rw [h0, ← he, List.set_getElem_self]; exact s.mem
  obtain ⟨_, ⟨rfl, h0⟩ | ⟨b, cap, pre, post, e1, rfl, hbk, c1, c2, c3⟩⟩ := hown
  · have : k.toNat = 0 := by omega
    refine ⟨(), w, ?_, stay (same (by omega))⟩
    simp only [cutv] at hx
    simp [execOp, resolve, invoke, builtin, s.env.eval hx, Builtin.clear_, underlying, h1]
  · by_cases hlk : l.toNat = k.toNat
    · refine ⟨(), w, ?_, stay (same hlk)⟩
      simp only [cutv, hlk, Nat.sub_self] at hx
      simp [execOp, resolve, invoke, builtin, s.env.eval hx, Builtin.clear_, underlying, h1]
    · have hne : cap ≠ l.toNat := by omega
      simp only [cutv, if_neg hne] at hx
      have hsz : zv.cells.size = e.size := by rw [← hzs, ← hzc]; simp
      have hzl : (Builtin.zeroCells zv.cells (k.toNat - l.toNat)).toList = (List.replicate (k.toNat - l.toNat) z).flatMap e.cells := by
        rw [← flatMap_replicate, ← hzc, ← zeros]; simp [Builtin.zeroCells]
      have hup : Up (xs.flatMap e.cells) (l.toNat * e.size) ((List.replicate (k.toNat - l.toNat) z).flatMap e.cells) ((clr z xs l k).flatMap e.cells) := by
        have hk : k.toNat ≤ xs.length := by omega
        have e0 : xs = xs.take l.toNat ++ ((xs.drop l.toNat).take (k.toNat - l.toNat) ++ xs.drop k.toNat) := by
          have : xs.drop k.toNat = (xs.drop l.toNat).drop (k.toNat - l.toNat) := by rw [List.drop_drop]; congr 1; omega
          rw [this, List.take_append_drop, List.take_append_drop]
        have e2 : ((xs.drop l.toNat).take (k.toNat - l.toNat)).length = k.toNat - l.toNat := by simp; omega
        have e3 : (xs.take l.toNat).length = l.toNat := by simp; omega
        refine ⟨?_, ?_⟩
        · rw [hlen, hlen, List.length_replicate, ← Nat.add_mul]
          exact Nat.mul_le_mul_right _ (by omega)
        · have := upd_sub (pre := (xs.take l.toNat).flatMap e.cells) (ys := ((xs.drop l.toNat).take (k.toNat - l.toNat)).flatMap e.cells) (post := (xs.drop k.toNat).flatMap e.cells) (xs := (List.replicate (k.toNat - l.toNat) z).flatMap e.cells) (by rw [hlen, hlen, e2, List.length_replicate])
          rw [hlen, e3] at this
          have e4 : xs.flatMap e.cells = (xs.take l.toNat).flatMap e.cells ++ ((xs.drop l.toNat).take (k.toNat - l.toNat)).flatMap e.cells ++ (xs.drop k.toNat).flatMap e.cells := by
            conv => lhs; rw [e0]
            simp only [List.flatMap_append, List.append_assoc]
          rw [e4, this, clr, List.flatMap_append, List.flatMap_append]
      obtain ⟨hl2, hu⟩ := hup
      obtain ⟨w', r1, r2, r3, r4, r5, r6⟩ := run_storeCells (P := P) ((List.replicate (k.toNat - l.toNat) z).flatMap e.cells) 0 (pre.length + l.toNat * e.size) (pre ++ xs.flatMap e.cells ++ post) w hbk (cells_one e _) (by simp only [List.length_append]; omega)
      refine ⟨(), w', ?_, ?_⟩
      · have hn0 : k.toNat - l.toNat ≠ 0 := by omega
        obtain ⟨m, hm⟩ := Nat.exists_eq_succ_of_ne_zero hn0
        rw [hm] at hx r1 hzl
        simp [execOp, resolve, invoke, builtin, s.env.eval hx, Builtin.clear_, underlying, h1, zeroValue, typeInfo, hinf, hz, hzl, r1]
      · refine s.mem.set hi r3 r4 (by omega) (fun k' _ hk => r6 k' (fun e => hk (by subst e; rfl))) ?_ (fun k' hk => .inl hk)
        have hcl := clr_len (z := z) hb
        refine ⟨by rw [hlen], .inr ⟨b, cap, pre, post, e1, by rw [hcl], ?_, by rw [hcl]; exact c1, by rw [hlen, hcl, ← hlen]; exact c2, c3⟩⟩
        rw [r2, Nat.add_zero, ← hu, upd_mid hl2]
end Go.Sx
