/- The foundation of this claim's walks: how plain data lie in cells. No condition. -/
import Derived.Test.YtekmmbgbhjeoaaaSxG
set_option linter.unusedVariables false
set_option linter.unusedSimpArgs false
set_option linter.unusedSectionVars false
namespace Go.Sx
open Go

structure Enc (α : Type) where
  cells : α → List Value
  size : Nat
  len : ∀ a, (cells a).length = size
  one : ∀ a x, x ∈ cells a → x.oneCell' = true
def Enc.int (k : IntKind) : Enc Int := ⟨fun n => [.int k n], 1, fun _ => rfl, fun a x h => by simp at h; subst h; rfl⟩
def Enc.bool : Enc Bool := ⟨fun n => [.bool n], 1, fun _ => rfl, fun a x h => by simp at h; subst h; rfl⟩
def Enc.str : Enc ByteArray := ⟨fun n => [.string n], 1, fun _ => rfl, fun a x h => by simp at h; subst h; rfl⟩
variable {α : Type} [Inhabited α] {e : Enc α}
theorem flat_length (e : Enc α) : ∀ xs : List α, (xs.flatMap e.cells).length = xs.length * e.size
  | [] => by simp
  | x :: xs => by simp only [List.flatMap_cons, List.length_append, e.len, flat_length e xs, List.length_cons, Nat.succ_mul]; omega
def Enc.arr (e : Enc α) (n : Nat) : Enc (Vector α n) := ⟨fun v => v.toList.flatMap e.cells, n * e.size, fun v => by rw [flat_length]; simp, fun v x h => by
  obtain ⟨y, _, hy⟩ := List.mem_flatMap.1 h; exact e.one y x hy⟩
/-- the element at a place -/
def gl (xs : List α) (i : Int) : α := xs.getD i.toNat default
def gv {n : Nat} (v : Vector α n) (i : Int) : α := v.toList.getD i.toNat default
def sv {n : Nat} (v : Vector α n) (i : Int) (x : α) : Vector α n := v.setIfInBounds i.toNat x
def sls (xs : List α) (i : Int) (x : α) : List α := xs.set i.toNat x

theorem sub_list (e : Enc α) {xs : List α} {i : Int} (h0 : 0 ≤ i) (h1 : i < xs.length) : Sub (xs.flatMap e.cells) (i.toNat * e.size) (e.cells (gl xs i)) := by
  have hlt : i.toNat < xs.length := by omega
  have e1 : xs = xs.take i.toNat ++ xs[i.toNat] :: xs.drop (i.toNat + 1) := by simp
  refine ⟨(xs.take i.toNat).flatMap e.cells, (xs.drop (i.toNat + 1)).flatMap e.cells, ?_, ?_⟩
  · have : gl xs i = xs[i.toNat] := by simp [gl, List.getD_eq_getElem?_getD, hlt]
    rw [this]
    have e3 := congrArg (List.flatMap e.cells) e1
    rw [e3, List.flatMap_append, List.flatMap_cons, List.append_assoc]
  · rw [flat_length, List.length_take, Nat.min_eq_left (Nat.le_of_lt hlt)]
theorem up_list (e : Enc α) {xs : List α} {i : Int} (x : α) (h0 : 0 ≤ i) (h1 : i < xs.length) : Up (xs.flatMap e.cells) (i.toNat * e.size) (e.cells x) ((sls xs i x).flatMap e.cells) := by
  have hlt : i.toNat < xs.length := by omega
  have e1 : xs = xs.take i.toNat ++ xs[i.toNat] :: xs.drop (i.toNat + 1) := by simp
  have hl : i.toNat * e.size = ((xs.take i.toNat).flatMap e.cells).length := by rw [flat_length, List.length_take, Nat.min_eq_left (Nat.le_of_lt hlt)]
  have e2 : sls xs i x = xs.take i.toNat ++ x :: xs.drop (i.toNat + 1) := by simp only [sls]; rw [List.set_eq_take_append_cons_drop, if_pos hlt]
  refine ⟨?_, ?_⟩
  · rw [flat_length, e.len]
    have := Nat.mul_le_mul_right e.size (show i.toNat + 1 ≤ xs.length from hlt)
    rw [Nat.succ_mul] at this; omega
  · rw [e2]
    have := upd_sub (pre := (xs.take i.toNat).flatMap e.cells) (ys := e.cells xs[i.toNat]) (post := (xs.drop (i.toNat + 1)).flatMap e.cells) (xs := e.cells x) (by rw [e.len, e.len])
    have e3 := congrArg (List.flatMap e.cells) e1
    rw [hl, e3, List.flatMap_append, List.flatMap_cons, List.flatMap_append, List.flatMap_cons, ← List.append_assoc, ← List.append_assoc]
    exact this
theorem sub_arr (e : Enc α) {n : Nat} {v : Vector α n} {i : Int} (h0 : 0 ≤ i) (h1 : i < n) : Sub ((e.arr n).cells v) (i.toNat * e.size) (e.cells (gv v i)) :=
  sub_list e (xs := v.toList) h0 (by simpa using h1)
theorem up_arr (e : Enc α) {n : Nat} {v : Vector α n} {i : Int} (x : α) (h0 : 0 ≤ i) (h1 : i < n) : Up ((e.arr n).cells v) (i.toNat * e.size) (e.cells x) ((e.arr n).cells (sv v i x)) := by
  have := up_list e (xs := v.toList) x h0 (by simpa using h1)
  have e1 : sls v.toList i x = (sv v i x).toList := by simp [sls, sv, Vector.toList_setIfInBounds]
  rw [e1] at this
  exact this
/-! structs: cells one behind the other -/
theorem Sub.here {a r : List Value} : Sub (a ++ r) 0 a := ⟨[], r, by simp, rfl⟩
theorem Sub.there {a r xs : List Value} {k n : Nat} (h : Sub r k xs) (hn : a.length = n) : Sub (a ++ r) (n + k) xs := by
  obtain ⟨p, q, rfl, rfl⟩ := h
  exact ⟨a ++ p, q, by simp, by simp [hn]⟩
theorem Up.here {a r a' : List Value} (h : a'.length = a.length) : Up (a ++ r) 0 a' (a' ++ r) := ⟨by simp; omega, by simp [upd, h]⟩
theorem Up.there {a r xs r' : List Value} {k n : Nat} (h : Up r k xs r') (hn : a.length = n) : Up (a ++ r) (n + k) xs (a ++ r') := by
  obtain ⟨h1, rfl⟩ := h
  subst hn
  refine ⟨by simp; omega, ?_⟩
  have := upd_mid (pre := a) (cs := r) (post := []) h1
  simpa using this
theorem Up.left {a r xs a' : List Value} {k : Nat} (h : Up a k xs a') : Up (a ++ r) k xs (a' ++ r) := by
  obtain ⟨h1, rfl⟩ := h
  refine ⟨by simp; omega, ?_⟩
  have := upd_mid (pre := []) (cs := a) (post := r) h1
  simpa using this
theorem Up.zero {cs xs cs' : List Value} {k : Nat} (h : Up cs k xs cs') : Up cs (0 + k) xs cs' := by rw [Nat.zero_add]; exact h
theorem Sub.zero {cs xs : List Value} {k : Nat} (h : Sub cs k xs) : Sub cs (0 + k) xs := by rw [Nat.zero_add]; exact h
theorem Up.all (e : Enc α) (x y : α) : Up (e.cells x) 0 (e.cells y) (e.cells y) := Up.whole (by rw [e.len, e.len])
theorem lies_agg {P : Program} {t : TypeId} (e : Enc α) (x : α) (h : ∀ w, (isAgg t).run P w = .ok true w) (hs : (P.info? t).map (·.size) = some e.size) : Lies P t (e.cells x) (.agg (e.cells x).toArray) := .agg _ h (by rw [e.len]; exact hs)
theorem fits_agg {P : Program} {t : TypeId} (e : Enc α) (x : α) (hs : (P.info? t).map (·.size) = some e.size) : Fits P t (.agg (e.cells x).toArray) (e.cells x) := ⟨by simp [Value.cells], by rw [e.len]; exact hs, e.one x⟩
theorem fits_int {P : Program} {t : TypeId} {k : IntKind} {n : Int} (hs : (P.info? t).map (·.size) = some 1) : Fits P t (.int k n) [.int k n] := ⟨rfl, hs, fun x h => by simp at h; subst h; rfl⟩
theorem fits_bool {P : Program} {t : TypeId} {n : Bool} (hs : (P.info? t).map (·.size) = some 1) : Fits P t (.bool n) [.bool n] := ⟨rfl, hs, fun x h => by simp at h; subst h; rfl⟩
theorem fits_str {P : Program} {t : TypeId} {n : ByteArray} (hs : (P.info? t).map (·.size) = some 1) : Fits P t (.string n) [.string n] := ⟨rfl, hs, fun x h => by simp at h; subst h; rfl⟩
theorem fits_one {P : Program} {t : TypeId} {v : Value} (hv : v.cells.toList = [v]) (ho : v.oneCell' = true) (hs : (P.info? t).map (·.size) = some 1) : Fits P t v [v] := ⟨hv, hs, fun x h => by simp at h; subst h; exact ho⟩
end Go.Sx
