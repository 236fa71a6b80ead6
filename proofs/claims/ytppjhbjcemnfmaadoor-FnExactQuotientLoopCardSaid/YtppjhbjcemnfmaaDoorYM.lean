/- Printed by a program of the claim's own: the functions that the law reaches, as plain functions. 'none': a check that fails. No condition. -/
import Derived.Test.YtppjhbjcemnfmaaDoorSxK
set_option linter.unusedVariables false
set_option linter.unusedSimpArgs false
namespace Go.Mi
open Go Go.Sx
def tab_0 : (Vector Int 32) := #v[0, 1, 28, 2, 29, 14, 24, 3, 30, 22, 20, 15, 25, 17, 4, 8, 31, 27, 13, 23, 21, 19, 16, 7, 26, 12, 18, 6, 11, 5, 10, 9]
def tab_1 : (Vector Int 64) := #v[0, 1, 56, 2, 57, 49, 28, 3, 61, 58, 42, 50, 38, 29, 17, 4, 62, 47, 59, 36, 45, 43, 51, 22, 53, 39, 33, 30, 24, 18, 12, 5, 63, 55, 48, 27, 60, 41, 37, 16, 46, 35, 44, 21, 52, 32, 23, 11, 54, 26, 40, 15, 34, 20, 31, 10, 25, 14, 19, 9, 13, 8, 7, 6]
structure S_Square where
  Order : Int
  Table : (Vector (Vector Int 10) 10)
  deriving DecidableEq, Inhabited
def e_S_Square : Enc S_Square := ⟨fun s => (Enc.int .i64).cells s.Order ++ ((((Enc.int .u8).arr 10).arr 10).cells s.Table), (Enc.int .i64).size + ((((Enc.int .u8).arr 10).arr 10).size), fun s => by simp only [List.length_append, Enc.len], fun s x h => by
  simp only [List.mem_append] at h
  rcases h with h | h
  · exact Enc.one _ _ x h
  · exact Enc.one _ _ x h⟩
def z_S_Square : S_Square := ⟨0, (Vector.replicate 10 (Vector.replicate 10 0))⟩
theorem e_S_Square_s0 (s : S_Square) : Sub (e_S_Square.cells s) 0 ((Enc.int .i64).cells s.Order) := Sub.here
theorem e_S_Square_u0 (s : S_Square) (x : Int) : Up (e_S_Square.cells s) 0 ((Enc.int .i64).cells x) (e_S_Square.cells { s with Order := x }) := Up.here (by rw [Enc.len, Enc.len])
theorem e_S_Square_s1 (s : S_Square) : Sub (e_S_Square.cells s) 1 ((((Enc.int .u8).arr 10).arr 10).cells s.Table) := Sub.there (Sub.refl _) (Enc.len _ _)
theorem e_S_Square_u1 (s : S_Square) (x : (Vector (Vector Int 10) 10)) : Up (e_S_Square.cells s) 1 ((((Enc.int .u8).arr 10).arr 10).cells x) (e_S_Square.cells { s with Table := x }) := Up.there (Up.all _ _ _) (Enc.len _ _)
def sc_0 : ByteArray := ⟨#[0, 1, 2, 2, 3, 3, 3, 3, 4, 4, 4, 4, 4, 4, 4, 4, 5, 5, 5, 5, 5, 5, 5, 5, 5, 5, 5, 5, 5, 5, 5, 5, 6, 6, 6, 6, 6, 6, 6, 6, 6, 6, 6, 6, 6, 6, 6, 6, 6, 6, 6, 6, 6, 6, 6, 6, 6, 6, 6, 6, 6, 6, 6, 6, 7, 7, 7, 7, 7, 7, 7, 7, 7, 7, 7, 7, 7, 7, 7, 7, 7, 7, 7, 7, 7, 7, 7, 7, 7, 7, 7, 7, 7, 7, 7, 7, 7, 7, 7, 7, 7, 7, 7, 7, 7, 7, 7, 7, 7, 7, 7, 7, 7, 7, 7, 7, 7, 7, 7, 7, 7, 7, 7, 7, 7, 7, 7, 7, 8, 8, 8, 8, 8, 8, 8, 8, 8, 8, 8, 8, 8, 8, 8, 8, 8, 8, 8, 8, 8, 8, 8, 8, 8, 8, 8, 8, 8, 8, 8, 8, 8, 8, 8, 8, 8, 8, 8, 8, 8, 8, 8, 8, 8, 8, 8, 8, 8, 8, 8, 8, 8, 8, 8, 8, 8, 8, 8, 8, 8, 8, 8, 8, 8, 8, 8, 8, 8, 8, 8, 8, 8, 8, 8, 8, 8, 8, 8, 8, 8, 8, 8, 8, 8, 8, 8, 8, 8, 8, 8, 8, 8, 8, 8, 8, 8, 8, 8, 8, 8, 8, 8, 8, 8, 8, 8, 8, 8, 8, 8, 8, 8, 8, 8, 8, 8, 8, 8, 8, 8, 8, 8, 8, 8, 8, 8, 8]⟩
/-! spec_l01In -/
noncomputable def spec_l01In (p0 : Int) (p1 : Int) (p2 : Int) : Option Bool :=
  (if p1 ≤ p0 then (some (decide (p0 ≤ p2))) else (some false) : Option Bool).bind fun o2 => some o2
/-! spec_l01Perm -/
noncomputable def spec_l01Perm_L1 (p0 : (Vector Int 10)) (p1 : Int) (s7 : ((Vector Bool 10) × Int)) : Option (((Vector Bool 10) × Int) ⊕ ((Unit) ⊕ (Unit))) :=
  if s7.2 < 10 then ((if p1 ≤ s7.2 then (if 0 ≤ s7.2 ∧ s7.2 < 10 then (if gv p0 s7.2 ≠ 0 then (some (.inr ())) else (some (.inl s7.1))) else none) else ((if 0 ≤ s7.2 ∧ s7.2 < 10 then (if p1 ≤ IntKind.i64.wrap (gv p0 s7.2) then (some true) else (if 0 ≤ gv p0 s7.2 ∧ gv p0 s7.2 < 10 then (some (gv s7.1 (gv p0 s7.2))) else none)) else none : Option Bool).bind fun o37 => if o37 = true then (some (.inr ())) else (if 0 ≤ s7.2 ∧ s7.2 < 10 then (if 0 ≤ gv p0 s7.2 ∧ gv p0 s7.2 < 10 then (some (.inl (sv s7.1 (gv p0 s7.2) true))) else none) else none)) : Option (((Vector Bool 10)) ⊕ (Unit))).bind fun o41 => (Sum.elim (fun o41 => some (.inl (o41, IntKind.i64.wrap (s7.2 + 1)))) (fun o41 => some (.inr (.inr ())))) o41) else (some (.inr (.inl ())))
noncomputable def spec_l01Perm (p0 : (Vector Int 10)) (p1 : Int) : Option Bool :=
  (spec_l01In p1 1 10).bind fun o2 => if o2 = true then ((Lp.run (spec_l01Perm_L1 p0 p1) ((Vector.replicate 10 false), 0)).bind fun o8 => (Sum.elim (fun o8 => some true) (fun o8 => some false)) o8) else (some false)
/-! spec_l01Rows -/
noncomputable def spec_l01Rows_L1 (p0 : (Vector (Vector Int 10) 10)) (p1 : Int) (s2 : Int) : Option (Int ⊕ ((Unit) ⊕ (Unit))) :=
  if s2 < 10 then ((if s2 < p1 then (if 0 ≤ s2 ∧ s2 < 10 then ((spec_l01Perm (gv p0 s2) p1).bind fun o29 => if o29 = true then (if p1 ≤ s2 then (some (decide (gv p0 s2 ≠ (Vector.replicate 10 0)))) else (some false)) else (some true)) else none) else (if p1 ≤ s2 then (if 0 ≤ s2 ∧ s2 < 10 then (some (decide (gv p0 s2 ≠ (Vector.replicate 10 0)))) else none) else (some false)) : Option Bool).bind fun o36 => if o36 = true then (some (.inr (.inr ()))) else (some (.inl (IntKind.i64.wrap (s2 + 1))))) else (some (.inr (.inl ())))
noncomputable def spec_l01Rows (p0 : (Vector (Vector Int 10) 10)) (p1 : Int) : Option Bool :=
  (Lp.run (spec_l01Rows_L1 p0 p1) 0).bind fun o3 => (Sum.elim (fun o3 => some true) (fun o3 => some false)) o3
/-! spec_l01Turned -/
noncomputable def spec_l01Turned_L2 (p0 : (Vector (Vector Int 10) 10)) (s4 : ((Vector (Vector Int 10) 10) × Int)) (s25 : ((Vector (Vector Int 10) 10) × Int)) : Option (((Vector (Vector Int 10) 10) × Int) ⊕ (Vector (Vector Int 10) 10)) :=
  if s25.2 < 10 then (if 0 ≤ s4.2 ∧ s4.2 < 10 then (if 0 ≤ s25.2 ∧ s25.2 < 10 then (some (.inl (sv s25.1 s25.2 (sv (gv s25.1 s25.2) s4.2 (gv (gv p0 s4.2) s25.2)), IntKind.i64.wrap (s25.2 + 1)))) else none) else none) else (some (.inr s25.1))
noncomputable def spec_l01Turned_L1 (p0 : (Vector (Vector Int 10) 10)) (s4 : ((Vector (Vector Int 10) 10) × Int)) : Option (((Vector (Vector Int 10) 10) × Int) ⊕ (Vector (Vector Int 10) 10)) :=
  if s4.2 < 10 then ((Lp.run (spec_l01Turned_L2 p0 s4) (s4.1, 0)).bind fun o26 => some (.inl (o26, IntKind.i64.wrap (s4.2 + 1)))) else (some (.inr s4.1))
noncomputable def spec_l01Turned (p0 : (Vector (Vector Int 10) 10)) : Option (Vector (Vector Int 10) 10) :=
  (Lp.run (spec_l01Turned_L1 p0) ((Vector.replicate 10 (Vector.replicate 10 0)), 0)).bind fun o5 => some o5
/-! spec_l01Is -/
noncomputable def spec_l01Is (p0 : S_Square) : Option Bool :=
  ((spec_l01In p0.Order 1 10).bind fun o2 => if o2 = true then ((spec_l01Rows p0.Table p0.Order).bind fun o6 => if o6 = true then ((spec_l01Turned p0.Table).bind fun o10 => (spec_l01Rows o10 p0.Order).bind fun o13 => some o13) else (some false)) else (some false) : Option Bool).bind fun o16 => some o16
/-! spec_l01Loop -/
noncomputable def spec_l01Loop_L1 (p0 : S_Square) (s6 : Int) : Option (Int ⊕ ((Unit) ⊕ (Unit))) :=
  if s6 < p0.Order then ((if 0 ≤ s6 ∧ s6 < 10 then (if gv (gv p0.Table 0) s6 ≠ IntKind.u8.wrap s6 then (some true) else (some (decide (gv (gv p0.Table s6) 0 ≠ IntKind.u8.wrap s6)))) else none : Option Bool).bind fun o20 => if o20 = true then (some (.inr (.inr ()))) else (some (.inl (IntKind.i64.wrap (s6 + 1))))) else (some (.inr (.inl ())))
noncomputable def spec_l01Loop (p0 : S_Square) : Option Bool :=
  (spec_l01Is p0).bind fun o2 => if o2 = true then ((Lp.run (spec_l01Loop_L1 p0) 0).bind fun o7 => (Sum.elim (fun o7 => some true) (fun o7 => some false)) o7) else (some false)
/-! spec_l06List -/
noncomputable def spec_l06List_L1 (p0 : S_Square) (p1 : (List Int)) (s6 : Int) : Option (Int ⊕ ((Unit) ⊕ (Unit))) :=
  if s6 < (p1.length : Int) then ((if 0 ≤ s6 ∧ s6 < p1.length then ((spec_l01In (gl p1 s6) 0 (IntKind.i64.wrap (p0.Order - 1))).bind fun o30 => if o30 = true then (if 0 < s6 then (if 0 ≤ IntKind.i64.wrap (s6 - 1) ∧ IntKind.i64.wrap (s6 - 1) < p1.length then (some (decide (gl p1 s6 ≤ gl p1 (IntKind.i64.wrap (s6 - 1))))) else none) else (some false)) else (some true)) else none : Option Bool).bind fun o36 => if o36 = true then (some (.inr (.inr ()))) else (some (.inl (IntKind.i64.wrap (s6 + 1))))) else (some (.inr (.inl ())))
noncomputable def spec_l06List (p0 : S_Square) (p1 : (List Int)) : Option Int :=
  (spec_l01Loop p0).bind fun o2 => if o2 = true then ((Lp.run (spec_l06List_L1 p0 p1) 0).bind fun o7 => (Sum.elim (fun o7 => some 0) (fun o7 => some 2)) o7) else (some 1)
/-! spec_l01Same2 -/
noncomputable def spec_l01Same2_L1 (p0 : (List Int)) (p1 : (List Int)) (s2 : Int) : Option (Int ⊕ ((Unit) ⊕ (Unit))) :=
  if s2 < (p0.length : Int) then (if 0 ≤ s2 ∧ s2 < p0.length then (if 0 ≤ s2 ∧ s2 < p1.length then (if gl p0 s2 ≠ gl p1 s2 then (some (.inr (.inr ()))) else (some (.inl (IntKind.i64.wrap (s2 + 1))))) else none) else none) else (some (.inr (.inl ())))
noncomputable def spec_l01Same2 (p0 : (List Int)) (p1 : (List Int)) : Option Bool :=
  if (p0.length : Int) ≠ (p1.length : Int) then (some false) else ((Lp.run (spec_l01Same2_L1 p0 p1) 0).bind fun o3 => (Sum.elim (fun o3 => some true) (fun o3 => some false)) o3)
/-! spec_l06Told -/
noncomputable def spec_l06Told_L3 (o124 : (List Int)) (s161 : ((Vector Bool 10) × Int)) : Option (((Vector Bool 10) × Int) ⊕ (Vector Bool 10)) :=
  if s161.2 < (o124.length : Int) then (if 0 ≤ s161.2 ∧ s161.2 < o124.length then (if 0 ≤ gl o124 s161.2 ∧ gl o124 s161.2 < 10 then (some (.inl (sv s161.1 (gl o124 s161.2) true, IntKind.i64.wrap (s161.2 + 1)))) else none) else none) else (some (.inr s161.1))
noncomputable def spec_l06Told_L2 (p0 : (Vector Int 10)) (p1 : Int) (s4 : ((Vector Bool 10) × (List (List Int)) × Int)) (s123 : ((List Int) × Int)) : Option (((List Int) × Int) ⊕ (List Int)) :=
  (if s123.2 < p1 then (if 0 ≤ s4.2.2 ∧ s4.2.2 < 10 then (some (!(gv s4.1 s4.2.2))) else none) else (some false) : Option Bool).bind fun o149 => if o149 = true then ((if 0 ≤ s123.2 ∧ s123.2 < 10 then (if 0 ≤ s4.2.2 ∧ s4.2.2 < 10 then (if gv p0 s123.2 = gv p0 s4.2.2 then (if s123.1.length + ([s123.2]).length ≤ 4294967296 then (some (s123.1 ++ ([s123.2]))) else none) else (some s123.1)) else none) else none : Option (List Int)).bind fun o157 => some (.inl (o157, IntKind.i64.wrap (s123.2 + 1)))) else (some (.inr s123.1))
noncomputable def spec_l06Told_L1 (p0 : (Vector Int 10)) (p1 : Int) (s4 : ((Vector Bool 10) × (List (List Int)) × Int)) : Option (((Vector Bool 10) × (List (List Int)) × Int) ⊕ (List (List Int))) :=
  if s4.2.2 < p1 then (((Lp.run (spec_l06Told_L2 p0 p1 s4) (([] : List Int), s4.2.2)).bind fun o124 => (Lp.run (spec_l06Told_L3 o124) (s4.1, 0)).bind fun o162 => if 0 < (o124.length : Int) then (if s4.2.1.length + 1 ≤ 4294967296 then (some (o162, s4.2.1 ++ [o124])) else none) else (some (o162, s4.2.1)) : Option ((Vector Bool 10) × (List (List Int)))).bind fun o176 => some (.inl (o176.1, o176.2, IntKind.i64.wrap (s4.2.2 + 1)))) else (some (.inr s4.2.1))
noncomputable def spec_l06Told (p0 : (Vector Int 10)) (p1 : Int) : Option (List (List Int)) :=
  (Lp.run (spec_l06Told_L1 p0 p1) ((Vector.replicate 10 false), ([] : List (List Int)), 0)).bind fun o5 => some o5
/-! spec_l06Classes -/
noncomputable def spec_l06Classes_L4 (p0 : S_Square) (s11 : ((Vector Int 10) × (List (Vector Int 2)) × Int)) (s113 : ((List (Vector Int 2)) × Int)) : Option (((List (Vector Int 2)) × Int) ⊕ (List (Vector Int 2))) :=
  if s113.2 < p0.Order then (if 0 ≤ s113.2 ∧ s113.2 < 10 then (if s113.1.length + ([(#v[IntKind.i64.wrap (gv (gv p0.Table (gv (gl s11.2.1 s11.2.2) 0)) s113.2), IntKind.i64.wrap (gv (gv p0.Table (gv (gl s11.2.1 s11.2.2) 1)) s113.2)] : (Vector Int 2)), (#v[IntKind.i64.wrap (gv (gv p0.Table s113.2) (gv (gl s11.2.1 s11.2.2) 0)), IntKind.i64.wrap (gv (gv p0.Table s113.2) (gv (gl s11.2.1 s11.2.2) 1))] : (Vector Int 2))]).length ≤ 4294967296 then (some (.inl (s113.1 ++ ([(#v[IntKind.i64.wrap (gv (gv p0.Table (gv (gl s11.2.1 s11.2.2) 0)) s113.2), IntKind.i64.wrap (gv (gv p0.Table (gv (gl s11.2.1 s11.2.2) 1)) s113.2)] : (Vector Int 2)), (#v[IntKind.i64.wrap (gv (gv p0.Table s113.2) (gv (gl s11.2.1 s11.2.2) 0)), IntKind.i64.wrap (gv (gv p0.Table s113.2) (gv (gl s11.2.1 s11.2.2) 1))] : (Vector Int 2))]), IntKind.i64.wrap (s113.2 + 1)))) else none) else none) else (some (.inr s113.1))
noncomputable def spec_l06Classes_L3 (p0 : S_Square) (s11 : ((Vector Int 10) × (List (Vector Int 2)) × Int)) (s100 : ((Vector Int 10) × Int)) : Option (((Vector Int 10) × Int) ⊕ (Vector Int 10)) :=
  if s100.2 < p0.Order then ((if 0 ≤ s100.2 ∧ s100.2 < 10 then (if gv s100.1 s100.2 = gv s11.1 (gv (gl s11.2.1 s11.2.2) 1) then (some (sv s100.1 s100.2 (gv s11.1 (gv (gl s11.2.1 s11.2.2) 0)))) else (some s100.1)) else none : Option (Vector Int 10)).bind fun o112 => some (.inl (o112, IntKind.i64.wrap (s100.2 + 1)))) else (some (.inr s100.1))
noncomputable def spec_l06Classes_L2 (p0 : S_Square) (s11 : ((Vector Int 10) × (List (Vector Int 2)) × Int)) : Option (((Vector Int 10) × (List (Vector Int 2)) × Int) ⊕ (Vector Int 10)) :=
  if s11.2.2 < (s11.2.1.length : Int) then ((if 0 ≤ s11.2.2 ∧ s11.2.2 < s11.2.1.length then (if 0 ≤ gv (gl s11.2.1 s11.2.2) 0 ∧ gv (gl s11.2.1 s11.2.2) 0 < 10 then (if 0 ≤ gv (gl s11.2.1 s11.2.2) 1 ∧ gv (gl s11.2.1 s11.2.2) 1 < 10 then (if gv s11.1 (gv (gl s11.2.1 s11.2.2) 0) = gv s11.1 (gv (gl s11.2.1 s11.2.2) 1) then (some (s11.1, s11.2.1)) else ((Lp.run (spec_l06Classes_L3 p0 s11) (s11.1, 0)).bind fun o101 => (Lp.run (spec_l06Classes_L4 p0 s11) (s11.2.1, 0)).bind fun o114 => some (o101, o114))) else none) else none) else none : Option ((Vector Int 10) × (List (Vector Int 2)))).bind fun o133 => some (.inl (o133.1, o133.2, IntKind.i64.wrap (s11.2.2 + 1)))) else (some (.inr s11.1))
noncomputable def spec_l06Classes_L1 (p0 : S_Square) (s4 : ((Vector Int 10) × Int)) : Option (((Vector Int 10) × Int) ⊕ (Vector Int 10)) :=
  if s4.2 < p0.Order then (if 0 ≤ s4.2 ∧ s4.2 < 10 then (some (.inl (sv s4.1 s4.2 s4.2, IntKind.i64.wrap (s4.2 + 1)))) else none) else (some (.inr s4.1))
noncomputable def spec_l06Classes (p0 : S_Square) (p1 : (List (Vector Int 2))) : Option (Vector Int 10) :=
  (Lp.run (spec_l06Classes_L1 p0) ((Vector.replicate 10 0), 0)).bind fun o5 => (Lp.run (spec_l06Classes_L2 p0) (o5, p1, 0)).bind fun o12 => some o12
/-! spec_l06Closure -/
noncomputable def spec_l06Closure_L1 (p1 : (List Int)) (s3 : ((List (Vector Int 2)) × Int)) : Option (((List (Vector Int 2)) × Int) ⊕ (List (Vector Int 2))) :=
  if s3.2 < (p1.length : Int) then (if 0 ≤ s3.2 ∧ s3.2 < p1.length then (if s3.1.length + ([(#v[0, gl p1 s3.2] : (Vector Int 2))]).length ≤ 4294967296 then (some (.inl (s3.1 ++ ([(#v[0, gl p1 s3.2] : (Vector Int 2))]), IntKind.i64.wrap (s3.2 + 1)))) else none) else none) else (some (.inr s3.1))
noncomputable def spec_l06Closure (p0 : S_Square) (p1 : (List Int)) : Option (List Int) :=
  (Lp.run (spec_l06Closure_L1 p1) (([] : List (Vector Int 2)), 0)).bind fun o4 => (spec_l06Classes p0 o4).bind fun o24 => (spec_l06Told o24 p0.Order).bind fun o27 => if (0 : Int) ≤ 0 ∧ (0 : Int) < o27.length then (some (gl o27 0)) else none
/-! spec_l06Normal -/
noncomputable def spec_l06Normal (p0 : S_Square) (p1 : (List Int)) : Option Bool :=
  (if 0 < (p1.length : Int) then ((spec_l06Closure p0 p1).bind fun o3 => (spec_l01Same2 o3 p1).bind fun o6 => some o6) else (some false) : Option Bool).bind fun o9 => some o9
/-! spec_l06Quotient -/
noncomputable def spec_l06Quotient_L3 (o28 : (List (List Int))) (s33 : ((List Int) × Int)) (s66 : ((List Int) × Int)) : Option (((List Int) × Int) ⊕ (List Int)) :=
  if 0 ≤ s33.2 ∧ s33.2 < o28.length then (if s66.2 < ((gl o28 s33.2).length : Int) then (if 0 ≤ s66.2 ∧ s66.2 < (gl o28 s33.2).length then (if 0 ≤ gl (gl o28 s33.2) s66.2 ∧ gl (gl o28 s33.2) s66.2 < s66.1.length then (some (.inl (sls s66.1 (gl (gl o28 s33.2) s66.2) s33.2, IntKind.i64.wrap (s66.2 + 1)))) else none) else none) else (some (.inr s66.1))) else none
noncomputable def spec_l06Quotient_L5 (p0 : S_Square) (o28 : (List (List Int))) (o34 : (List Int)) (s81 : (S_Square × Int)) (s141 : (S_Square × Int)) : Option ((S_Square × Int) ⊕ S_Square) :=
  if s141.2 < (o28.length : Int) then (if 0 ≤ s81.2 ∧ s81.2 < o28.length then (if (0 : Int) ≤ 0 ∧ (0 : Int) < (gl o28 s81.2).length then (if 0 ≤ s141.2 ∧ s141.2 < o28.length then (if (0 : Int) ≤ 0 ∧ (0 : Int) < (gl o28 s141.2).length then (if 0 ≤ gl (gl o28 s81.2) 0 ∧ gl (gl o28 s81.2) 0 < 10 then (if 0 ≤ gl (gl o28 s141.2) 0 ∧ gl (gl o28 s141.2) 0 < 10 then (if 0 ≤ gv (gv p0.Table (gl (gl o28 s81.2) 0)) (gl (gl o28 s141.2) 0) ∧ gv (gv p0.Table (gl (gl o28 s81.2) 0)) (gl (gl o28 s141.2) 0) < o34.length then (if 0 ≤ s81.2 ∧ s81.2 < 10 then (if 0 ≤ s141.2 ∧ s141.2 < 10 then (some (.inl ({ s141.1 with Table := sv s141.1.Table s81.2 (sv (gv s141.1.Table s81.2) s141.2 (IntKind.u8.wrap (gl o34 (gv (gv p0.Table (gl (gl o28 s81.2) 0)) (gl (gl o28 s141.2) 0))))) }, IntKind.i64.wrap (s141.2 + 1)))) else none) else none) else none) else none) else none) else none) else none) else none) else none) else (some (.inr s141.1))
noncomputable def spec_l06Quotient_L4 (p0 : S_Square) (o28 : (List (List Int))) (o34 : (List Int)) (s81 : (S_Square × Int)) : Option ((S_Square × Int) ⊕ S_Square) :=
  if s81.2 < (o28.length : Int) then ((Lp.run (spec_l06Quotient_L5 p0 o28 o34 s81) (s81.1, 0)).bind fun o142 => some (.inl (o142, IntKind.i64.wrap (s81.2 + 1)))) else (some (.inr s81.1))
noncomputable def spec_l06Quotient_L2 (o28 : (List (List Int))) (s33 : ((List Int) × Int)) : Option (((List Int) × Int) ⊕ (List Int)) :=
  if s33.2 < (o28.length : Int) then ((Lp.run (spec_l06Quotient_L3 o28 s33) (s33.1, 0)).bind fun o67 => some (.inl (o67, IntKind.i64.wrap (s33.2 + 1)))) else (some (.inr s33.1))
noncomputable def spec_l06Quotient_L1 (p1 : (List Int)) (s4 : ((List (Vector Int 2)) × Int)) : Option (((List (Vector Int 2)) × Int) ⊕ (List (Vector Int 2))) :=
  if s4.2 < (p1.length : Int) then (if 0 ≤ s4.2 ∧ s4.2 < p1.length then (if s4.1.length + ([(#v[0, gl p1 s4.2] : (Vector Int 2))]).length ≤ 4294967296 then (some (.inl (s4.1 ++ ([(#v[0, gl p1 s4.2] : (Vector Int 2))]), IntKind.i64.wrap (s4.2 + 1)))) else none) else none) else (some (.inr s4.1))
noncomputable def spec_l06Quotient (p0 : S_Square) (p1 : (List Int)) : Option (S_Square × (List Int)) :=
  (Lp.run (spec_l06Quotient_L1 p1) (([] : List (Vector Int 2)), 0)).bind fun o5 => (spec_l06Classes p0 o5).bind fun o25 => (spec_l06Told o25 p0.Order).bind fun o28 => if 0 ≤ p0.Order ∧ p0.Order ≤ 4294967296 then ((Lp.run (spec_l06Quotient_L2 o28) (List.replicate p0.Order.toNat 0, 0)).bind fun o34 => (Lp.run (spec_l06Quotient_L4 p0 o28 o34) ((⟨(o28.length : Int), (Vector.replicate 10 (Vector.replicate 10 0))⟩ : S_Square), 0)).bind fun o82 => some (o82, o34)) else none
/-! spec_QuotientLoop -/
noncomputable def spec_QuotientLoop (p0 : S_Square) (p1 : (List Int)) : Option (S_Square × (List Int) × Int) :=
  (spec_l06List p0 p1).bind fun o3 => if o3 ≠ 0 then (some (z_S_Square, [], o3)) else ((spec_l06Normal p0 p1).bind fun o7 => if o7 = true then ((spec_l06Quotient p0 p1).bind fun o11 => some (o11.1, o11.2, 0)) else (some (z_S_Square, [], 5)))
/-! laws_toByteA10 -/
noncomputable def laws_toByteA10_L1 (p0 : (Vector Int 10)) (s4 : ((Vector Int 10) × Int)) : Option (((Vector Int 10) × Int) ⊕ (Vector Int 10)) :=
  if s4.2 < 10 then (if 0 ≤ s4.2 ∧ s4.2 < 10 then (some (.inl (sv s4.1 s4.2 (gv p0 s4.2), IntKind.i64.wrap (s4.2 + 1)))) else none) else (some (.inr s4.1))
noncomputable def laws_toByteA10 (p0 : (Vector Int 10)) : Option (Vector Int 10) :=
  (Lp.run (laws_toByteA10_L1 p0) ((Vector.replicate 10 0), 0)).bind fun o5 => some o5
/-! laws_toTable -/
noncomputable def laws_toTable_L1 (p0 : (Vector (Vector Int 10) 10)) (s4 : ((Vector (Vector Int 10) 10) × Int)) : Option (((Vector (Vector Int 10) 10) × Int) ⊕ (Vector (Vector Int 10) 10)) :=
  if s4.2 < 10 then (if 0 ≤ s4.2 ∧ s4.2 < 10 then ((laws_toByteA10 (gv p0 s4.2)).bind fun o17 => some (.inl (sv s4.1 s4.2 o17, IntKind.i64.wrap (s4.2 + 1)))) else none) else (some (.inr s4.1))
noncomputable def laws_toTable (p0 : (Vector (Vector Int 10) 10)) : Option (Vector (Vector Int 10) 10) :=
  (Lp.run (laws_toTable_L1 p0) ((Vector.replicate 10 (Vector.replicate 10 0)), 0)).bind fun o5 => some o5
/-! laws_toSquare -/
noncomputable def laws_toSquare (p0 : S_Square) : Option S_Square :=
  (laws_toTable p0.Table).bind fun o4 => some ({ { z_S_Square with Order := p0.Order } with Table := o4 })
/-! laws_toInt64S -/
noncomputable def laws_toInt64S_L1 (p0 : (List Int)) (s3 : ((List Int) × Int)) : Option (((List Int) × Int) ⊕ (List Int)) :=
  if s3.2 < (p0.length : Int) then (if 0 ≤ s3.2 ∧ s3.2 < p0.length then (if 0 ≤ s3.2 ∧ s3.2 < s3.1.length then (some (.inl (sls s3.1 s3.2 (gl p0 s3.2), IntKind.i64.wrap (s3.2 + 1)))) else none) else none) else (some (.inr s3.1))
noncomputable def laws_toInt64S (p0 : (List Int)) : Option (List Int) :=
  if 0 ≤ (p0.length : Int) ∧ (p0.length : Int) ≤ 4294967296 then ((Lp.run (laws_toInt64S_L1 p0) (List.replicate (p0.length : Int).toNat 0, 0)).bind fun o4 => some o4) else none
/-! impl_within -/
noncomputable def impl_within (p0 : Int) (p1 : Int) (p2 : Int) : Option Bool :=
  (if p1 ≤ p0 then (some (decide (p0 ≤ p2))) else (some false) : Option Bool).bind fun o2 => some o2
/-! impl_IsSquare -/
noncomputable def impl_IsSquare_L2 (p0 : S_Square) (s6 : Int) (s134 : (Int × Int × Int)) : Option ((Int × Int × Int) ⊕ (((Int × Int)) ⊕ (Unit))) :=
  if s134.2.2 < 10 then (((if p0.Order ≤ s6 then (if 0 ≤ s6 ∧ s6 < 10 then (if 0 ≤ s134.2.2 ∧ s134.2.2 < 10 then (some (decide (gv (gv p0.Table s6) s134.2.2 ≠ 0))) else none) else none) else (if p0.Order ≤ s134.2.2 then (if 0 ≤ s6 ∧ s6 < 10 then (if 0 ≤ s134.2.2 ∧ s134.2.2 < 10 then (some (decide (gv (gv p0.Table s6) s134.2.2 ≠ 0))) else none) else none) else (some false)) : Option Bool).bind fun o183 => if o183 = true then (some (.inr ())) else ((if s6 < p0.Order then (some (decide (s134.2.2 < p0.Order))) else (some false) : Option Bool).bind fun o186 => if o186 = true then ((if 0 ≤ s6 ∧ s6 < 10 then (if 0 ≤ s134.2.2 ∧ s134.2.2 < 10 then (if p0.Order ≤ IntKind.i64.wrap (gv (gv p0.Table s6) s134.2.2) then (some true) else (some (decide (p0.Order ≤ IntKind.i64.wrap (gv (gv p0.Table s134.2.2) s6))))) else none) else none : Option Bool).bind fun o191 => if o191 = true then (some (.inr ())) else (if 0 ≤ s6 ∧ s6 < 10 then (if 0 ≤ s134.2.2 ∧ s134.2.2 < 10 then (if 0 ≤ gv (gv p0.Table s6) s134.2.2 then (if 0 ≤ gv (gv p0.Table s134.2.2) s6 then (some (.inl (ior .i64 s134.1 (ishl .i64 1 (gv (gv p0.Table s6) s134.2.2)), ior .i64 s134.2.1 (ishl .i64 1 (gv (gv p0.Table s134.2.2) s6))))) else none) else none) else none) else none)) else (some (.inl (s134.1, s134.2.1)))) : Option (((Int × Int)) ⊕ (Unit))).bind fun o197 => (Sum.elim (fun o197 => some (.inl (o197.1, o197.2, IntKind.i64.wrap (s134.2.2 + 1)))) (fun o197 => some (.inr (.inr ())))) o197) else (some (.inr (.inl (s134.1, s134.2.1))))
noncomputable def impl_IsSquare_L1 (p0 : S_Square) (s6 : Int) : Option (Int ⊕ ((Unit) ⊕ (Unit))) :=
  if s6 < 10 then ((Lp.run (impl_IsSquare_L2 p0 s6) (0, 0, 0)).bind fun o135 => (Sum.elim (fun o135 => (if s6 < p0.Order then (if 0 ≤ p0.Order then (if o135.1 ≠ IntKind.i64.wrap ((ishl .i64 1 p0.Order) - 1) then (some true) else (some (decide (o135.2 ≠ IntKind.i64.wrap ((ishl .i64 1 p0.Order) - 1))))) else none) else (some false) : Option Bool).bind fun o201 => if o201 = true then (some (.inr (.inr ()))) else (some (.inl (IntKind.i64.wrap (s6 + 1))))) (fun o135 => some (.inr (.inr ())))) o135) else (some (.inr (.inl ())))
noncomputable def impl_IsSquare (p0 : S_Square) : Option Bool :=
  (impl_within p0.Order 1 10).bind fun o2 => if o2 = true then ((Lp.run (impl_IsSquare_L1 p0) 0).bind fun o7 => (Sum.elim (fun o7 => some true) (fun o7 => some false)) o7) else (some false)
/-! impl_Square_elements -/
noncomputable def impl_Square_elements_L1 (p0 : S_Square) (s3 : ((List Int) × Int)) : Option (((List Int) × Int) ⊕ (List Int)) :=
  if s3.2 < IntKind.u8.wrap p0.Order then (if s3.1.length + ([s3.2]).length ≤ 4294967296 then (some (.inl (s3.1 ++ ([s3.2]), IntKind.u8.wrap (s3.2 + 1)))) else none) else (some (.inr s3.1))
noncomputable def impl_Square_elements (p0 : S_Square) : Option (List Int) :=
  (Lp.run (impl_Square_elements_L1 p0) (([] : List Int), 0)).bind fun o4 => some o4
/-! impl_Square_isUnit -/
noncomputable def impl_Square_isUnit_L1 (p0 : S_Square) (p1 : Int) (o2 : (List Int)) (s5 : Int) : Option (Int ⊕ ((Unit) ⊕ (Unit))) :=
  if s5 < (o2.length : Int) then (if 0 ≤ s5 ∧ s5 < o2.length then ((if 0 ≤ p1 ∧ p1 < 10 then (if 0 ≤ gl o2 s5 ∧ gl o2 s5 < 10 then (if gv (gv p0.Table p1) (gl o2 s5) ≠ gl o2 s5 then (some true) else (some (decide (gv (gv p0.Table (gl o2 s5)) p1 ≠ gl o2 s5)))) else none) else none : Option Bool).bind fun o26 => if o26 = true then (some (.inr (.inr ()))) else (some (.inl (IntKind.i64.wrap (s5 + 1))))) else none) else (some (.inr (.inl ())))
noncomputable def impl_Square_isUnit (p0 : S_Square) (p1 : Int) : Option Bool :=
  (impl_Square_elements p0).bind fun o2 => (Lp.run (impl_Square_isUnit_L1 p0 p1 o2) 0).bind fun o6 => (Sum.elim (fun o6 => some true) (fun o6 => some false)) o6
/-! impl_IsLoop -/
noncomputable def impl_IsLoop (p0 : S_Square) : Option Bool :=
  ((impl_IsSquare p0).bind fun o2 => if o2 = true then ((impl_Square_isUnit p0 0).bind fun o6 => some o6) else (some false) : Option Bool).bind fun o9 => some o9
/-! impl_Square_isList -/
noncomputable def impl_Square_isList_L1 (p0 : S_Square) (p1 : (List Int)) (s2 : Int) : Option (Int ⊕ ((Unit) ⊕ (Unit))) :=
  if s2 < (p1.length : Int) then (if 0 ≤ s2 ∧ s2 < p1.length then (((impl_within (gl p1 s2) 0 (IntKind.i64.wrap (p0.Order - 1))).bind fun o26 => if o26 = true then (if 0 < s2 then (if 0 ≤ IntKind.i64.wrap (s2 - 1) ∧ IntKind.i64.wrap (s2 - 1) < p1.length then (some (decide (gl p1 s2 ≤ gl p1 (IntKind.i64.wrap (s2 - 1))))) else none) else (some false)) else (some true) : Option Bool).bind fun o32 => if o32 = true then (some (.inr (.inr ()))) else (some (.inl (IntKind.i64.wrap (s2 + 1))))) else none) else (some (.inr (.inl ())))
noncomputable def impl_Square_isList (p0 : S_Square) (p1 : (List Int)) : Option Bool :=
  (Lp.run (impl_Square_isList_L1 p0 p1) 0).bind fun o3 => (Sum.elim (fun o3 => some true) (fun o3 => some false)) o3
/-! impl_listCode -/
noncomputable def impl_listCode (p0 : S_Square) (p1 : (List Int)) : Option Int :=
  (impl_IsLoop p0).bind fun o2 => if o2 = true then ((impl_Square_isList p0 p1).bind fun o6 => if o6 = true then (some 0) else (some 2)) else (some 1)
/-! impl_Square_mapped -/
noncomputable def impl_Square_mapped_L1 (o4 : (List Int)) (f1 : (Int → Option Int)) (s7 : ((Vector Int 10) × Int)) : Option (((Vector Int 10) × Int) ⊕ (Vector Int 10)) :=
  if s7.2 < (o4.length : Int) then (if 0 ≤ s7.2 ∧ s7.2 < o4.length then ((f1 (gl o4 s7.2)).bind fun o23 => if 0 ≤ gl o4 s7.2 ∧ gl o4 s7.2 < 10 then (some (.inl (sv s7.1 (gl o4 s7.2) o23, IntKind.i64.wrap (s7.2 + 1)))) else none) else none) else (some (.inr s7.1))
noncomputable def impl_Square_mapped (p0 : S_Square) (f1 : (Int → Option Int)) : Option (Vector Int 10) :=
  (impl_Square_elements p0).bind fun o4 => (Lp.run (impl_Square_mapped_L1 o4 f1) ((Vector.replicate 10 0), 0)).bind fun o8 => some o8
/-! impl_Square_right -/
noncomputable def impl_Square_right_L1 (p0 : S_Square) (p1 : Int) (p2 : Int) (s2 : Int) : Option (Int ⊕ Int) :=
  if 0 ≤ s2 ∧ s2 < 10 then (if 0 ≤ p2 ∧ p2 < 10 then (if gv (gv p0.Table s2) p2 ≠ p1 then (some (.inl (IntKind.u8.wrap (s2 + 1)))) else (some (.inr s2))) else none) else none
noncomputable def impl_Square_right (p0 : S_Square) (p1 : Int) (p2 : Int) : Option Int :=
  (Lp.run (impl_Square_right_L1 p0 p1 p2) 0).bind fun o3 => some o3
/-! impl_Square_turn_c1 -/
noncomputable def impl_Square_turn_c1 (p0 : Int) (p1 : S_Square) (p2 : Int) : Option Int :=
  if 0 ≤ p2 ∧ p2 < 10 then (if 0 ≤ p0 ∧ p0 < 10 then ((impl_Square_right p1 (gv (gv p1.Table p2) p0) p2).bind fun o3 => some o3) else none) else none
/-! impl_Square_turn -/
noncomputable def impl_Square_turn (p0 : S_Square) (p1 : Int) : Option (Vector Int 10) :=
  (impl_Square_mapped p0 (fun a0 => impl_Square_turn_c1 a0 p0 p1)).bind fun o4 => some o4
/-! impl_Square_left -/
noncomputable def impl_Square_left_L1 (p0 : S_Square) (p1 : Int) (p2 : Int) (s2 : Int) : Option (Int ⊕ Int) :=
  if 0 ≤ p1 ∧ p1 < 10 then (if 0 ≤ s2 ∧ s2 < 10 then (if gv (gv p0.Table p1) s2 ≠ p2 then (some (.inl (IntKind.u8.wrap (s2 + 1)))) else (some (.inr s2))) else none) else none
noncomputable def impl_Square_left (p0 : S_Square) (p1 : Int) (p2 : Int) : Option Int :=
  (Lp.run (impl_Square_left_L1 p0 p1 p2) 0).bind fun o3 => some o3
/-! impl_Square_leftInner_c1 -/
noncomputable def impl_Square_leftInner_c1 (p0 : Int) (p1 : S_Square) (p2 : Int) (p3 : Int) : Option Int :=
  if 0 ≤ p2 ∧ p2 < 10 then (if 0 ≤ p3 ∧ p3 < 10 then (if 0 ≤ p0 ∧ p0 < 10 then (if 0 ≤ gv (gv p1.Table p3) p0 ∧ gv (gv p1.Table p3) p0 < 10 then ((impl_Square_left p1 (gv (gv p1.Table p2) p3) (gv (gv p1.Table p2) (gv (gv p1.Table p3) p0))).bind fun o5 => some o5) else none) else none) else none) else none
/-! impl_Square_leftInner -/
noncomputable def impl_Square_leftInner (p0 : S_Square) (p1 : Int) (p2 : Int) : Option (Vector Int 10) :=
  (impl_Square_mapped p0 (fun a0 => impl_Square_leftInner_c1 a0 p0 p2 p1)).bind fun o5 => some o5
/-! impl_Square_rightInner_c1 -/
noncomputable def impl_Square_rightInner_c1 (p0 : Int) (p1 : S_Square) (p2 : Int) (p3 : Int) : Option Int :=
  if 0 ≤ p0 ∧ p0 < 10 then (if 0 ≤ p2 ∧ p2 < 10 then (if 0 ≤ gv (gv p1.Table p0) p2 ∧ gv (gv p1.Table p0) p2 < 10 then (if 0 ≤ p3 ∧ p3 < 10 then ((impl_Square_right p1 (gv (gv p1.Table (gv (gv p1.Table p0) p2)) p3) (gv (gv p1.Table p2) p3)).bind fun o5 => some o5) else none) else none) else none) else none
/-! impl_Square_rightInner -/
noncomputable def impl_Square_rightInner (p0 : S_Square) (p1 : Int) (p2 : Int) : Option (Vector Int 10) :=
  (impl_Square_mapped p0 (fun a0 => impl_Square_rightInner_c1 a0 p0 p1 p2)).bind fun o5 => some o5
/-! impl_Square_inner -/
noncomputable def impl_Square_inner_L2 (p0 : S_Square) (o3 : (List Int)) (s6 : ((List (Vector Int 10)) × Int)) (o118 : (List Int)) (s121 : ((List (Vector Int 10)) × Int)) : Option (((List (Vector Int 10)) × Int) ⊕ (List (Vector Int 10))) :=
  if s121.2 < (o118.length : Int) then (if 0 ≤ s121.2 ∧ s121.2 < o118.length then ((impl_Square_leftInner p0 (gl o3 s6.2) (gl o118 s121.2)).bind fun o149 => (impl_Square_rightInner p0 (gl o3 s6.2) (gl o118 s121.2)).bind fun o152 => if s121.1.length + ([o149, o152]).length ≤ 4294967296 then (some (.inl (s121.1 ++ ([o149, o152]), IntKind.i64.wrap (s121.2 + 1)))) else none) else none) else (some (.inr s121.1))
noncomputable def impl_Square_inner_L1 (p0 : S_Square) (o3 : (List Int)) (s6 : ((List (Vector Int 10)) × Int)) : Option (((List (Vector Int 10)) × Int) ⊕ (List (Vector Int 10))) :=
  if s6.2 < (o3.length : Int) then (if 0 ≤ s6.2 ∧ s6.2 < o3.length then ((impl_Square_turn p0 (gl o3 s6.2)).bind fun o112 => if s6.1.length + ([o112]).length ≤ 4294967296 then ((impl_Square_elements p0).bind fun o118 => (Lp.run (impl_Square_inner_L2 p0 o3 s6 o118) (s6.1 ++ ([o112]), 0)).bind fun o122 => some (.inl (o122, IntKind.i64.wrap (s6.2 + 1)))) else none) else none) else (some (.inr s6.1))
noncomputable def impl_Square_inner (p0 : S_Square) : Option (List (Vector Int 10)) :=
  (impl_Square_elements p0).bind fun o3 => (Lp.run (impl_Square_inner_L1 p0 o3) (([] : List (Vector Int 10)), 0)).bind fun o7 => some o7
/-! impl_set_has -/
noncomputable def impl_set_has (p0 : Int) (p1 : Int) : Option Bool :=
  if 0 ≤ p1 then (some (decide (iand .i64 (ishr .i64 p0 p1) 1 = 1))) else none
/-! impl_Square_generated -/
noncomputable def impl_Square_generated_L3 (p0 : S_Square) (s2 : Int) (o472 : (List Int)) (s475 : (Int × Int)) (o631 : (List Int)) (s634 : (Int × Int)) : Option ((Int × Int) ⊕ Int) :=
  if s634.2 < (o631.length : Int) then ((if 0 ≤ s634.2 ∧ s634.2 < o631.length then (((impl_set_has s2 (gl o472 s475.2)).bind fun o684 => if o684 = true then ((impl_set_has s2 (gl o631 s634.2)).bind fun o688 => some o688) else (some false) : Option Bool).bind fun o691 => if o691 = true then (if 0 ≤ gl o472 s475.2 ∧ gl o472 s475.2 < 10 then (if 0 ≤ gl o631 s634.2 ∧ gl o631 s634.2 < 10 then (if 0 ≤ gv (gv p0.Table (gl o472 s475.2)) (gl o631 s634.2) then ((impl_Square_left p0 (gl o472 s475.2) (gl o631 s634.2)).bind fun o696 => if 0 ≤ o696 then ((impl_Square_right p0 (gl o472 s475.2) (gl o631 s634.2)).bind fun o700 => if 0 ≤ o700 then (some (ior .i64 s634.1 (ior .i64 (ior .i64 (ishl .i64 1 (gv (gv p0.Table (gl o472 s475.2)) (gl o631 s634.2))) (ishl .i64 1 o696)) (ishl .i64 1 o700)))) else none) else none) else none) else none) else none) else (some s634.1)) else none : Option Int).bind fun o704 => some (.inl (o704, IntKind.i64.wrap (s634.2 + 1)))) else (some (.inr s634.1))
noncomputable def impl_Square_generated_L2 (p0 : S_Square) (s2 : Int) (o472 : (List Int)) (s475 : (Int × Int)) : Option ((Int × Int) ⊕ Int) :=
  if s475.2 < (o472.length : Int) then (if 0 ≤ s475.2 ∧ s475.2 < o472.length then ((impl_Square_elements p0).bind fun o631 => (Lp.run (impl_Square_generated_L3 p0 s2 o472 s475 o631) (s475.1, 0)).bind fun o635 => some (.inl (o635, IntKind.i64.wrap (s475.2 + 1)))) else none) else (some (.inr s475.1))
noncomputable def impl_Square_generated_L1 (p0 : S_Square) (s2 : Int) : Option (Int ⊕ Int) :=
  (impl_Square_elements p0).bind fun o472 => (Lp.run (impl_Square_generated_L2 p0 s2 o472) (s2, 0)).bind fun o476 => if o476 = s2 then (some (.inr s2)) else (some (.inl o476))
noncomputable def impl_Square_generated (p0 : S_Square) (p1 : Int) : Option Int :=
  (Lp.run (impl_Square_generated_L1 p0) (ior .i64 p1 1)).bind fun o3 => some o3
/-! impl_led -/
noncomputable def impl_led_L1 (p0 : Int) (p1 : (Vector Int 10)) (s2 : (Int × Int)) : Option ((Int × Int) ⊕ Int) :=
  if s2.2 < 10 then (((impl_set_has p0 s2.2).bind fun o20 => if o20 = true then (if 0 ≤ s2.2 ∧ s2.2 < 10 then (if 0 ≤ gv p1 s2.2 then (some (ior .i64 s2.1 (ishl .i64 1 (gv p1 s2.2)))) else none) else none) else (some s2.1) : Option Int).bind fun o26 => some (.inl (o26, IntKind.u8.wrap (s2.2 + 1)))) else (some (.inr s2.1))
noncomputable def impl_led (p0 : Int) (p1 : (Vector Int 10)) : Option Int :=
  (Lp.run (impl_led_L1 p0 p1) (0, 0)).bind fun o3 => some o3
/-! impl_Square_closure -/
noncomputable def impl_Square_closure_L2 (o2 : (List (Vector Int 10))) (s58 : (Int × Int)) : Option ((Int × Int) ⊕ Int) :=
  if s58.2 < (o2.length : Int) then (if 0 ≤ s58.2 ∧ s58.2 < o2.length then ((impl_led s58.1 (gl o2 s58.2)).bind fun o75 => some (.inl (ior .i64 s58.1 o75, IntKind.i64.wrap (s58.2 + 1)))) else none) else (some (.inr s58.1))
noncomputable def impl_Square_closure_L1 (p0 : S_Square) (o2 : (List (Vector Int 10))) (s5 : Int) : Option (Int ⊕ Int) :=
  (impl_Square_generated p0 s5).bind fun o55 => (Lp.run (impl_Square_closure_L2 o2) (o55, 0)).bind fun o59 => if o59 = s5 then (some (.inr s5)) else (some (.inl o59))
noncomputable def impl_Square_closure (p0 : S_Square) (p1 : Int) : Option Int :=
  (impl_Square_inner p0).bind fun o2 => (Lp.run (impl_Square_closure_L1 p0 o2) p1).bind fun o6 => some o6
/-! impl_Square_isNormal -/
noncomputable def impl_Square_isNormal (p0 : S_Square) (p1 : Int) : Option Bool :=
  (impl_Square_closure p0 p1).bind fun o2 => some (decide (o2 = p1))
/-! impl_setOf -/
noncomputable def impl_setOf_L1 (p0 : (List Int)) (s1 : (Int × Int)) : Option ((Int × Int) ⊕ Int) :=
  if s1.2 < (p0.length : Int) then (if 0 ≤ s1.2 ∧ s1.2 < p0.length then (if 0 ≤ gl p0 s1.2 then (some (.inl (ior .i64 s1.1 (ishl .i64 1 (gl p0 s1.2)), IntKind.i64.wrap (s1.2 + 1)))) else none) else none) else (some (.inr s1.1))
noncomputable def impl_setOf (p0 : (List Int)) : Option Int :=
  (Lp.run (impl_setOf_L1 p0) (0, 0)).bind fun o2 => some o2
/-! impl_Square_those -/
noncomputable def impl_Square_those_L1 (o2 : (List Int)) (f1 : (Int → Option Bool)) (s5 : (Int × Int)) : Option ((Int × Int) ⊕ Int) :=
  if s5.2 < (o2.length : Int) then ((if 0 ≤ s5.2 ∧ s5.2 < o2.length then ((f1 (gl o2 s5.2)).bind fun o25 => if o25 = true then (if 0 ≤ gl o2 s5.2 then (some (ior .i64 s5.1 (ishl .i64 1 (gl o2 s5.2)))) else none) else (some s5.1)) else none : Option Int).bind fun o30 => some (.inl (o30, IntKind.i64.wrap (s5.2 + 1)))) else (some (.inr s5.1))
noncomputable def impl_Square_those (p0 : S_Square) (f1 : (Int → Option Bool)) : Option Int :=
  (impl_Square_elements p0).bind fun o2 => (Lp.run (impl_Square_those_L1 o2 f1) (0, 0)).bind fun o6 => some o6
/-! impl_Square_coset_c1 -/
noncomputable def impl_Square_coset_c1 (p0 : Int) (p1 : Int) (p2 : S_Square) (p3 : Int) : Option Bool :=
  (impl_Square_left p2 p3 p0).bind fun o1 => (impl_set_has p1 o1).bind fun o4 => some o4
/-! impl_Square_coset -/
noncomputable def impl_Square_coset (p0 : S_Square) (p1 : Int) (p2 : Int) : Option Int :=
  (impl_Square_those p0 (fun a0 => impl_Square_coset_c1 a0 p2 p0 p1)).bind fun o4 => some o4
/-! slices_insertionSortCmpFunc_impl_set -/
noncomputable def slices_insertionSortCmpFunc_impl_set_L2 (p1 : Int) (f3 : (Int → Int → Option Int)) (s76 : ((List Int) × Int)) : Option (((List Int) × Int) ⊕ (List Int)) :=
  (if p1 < s76.2 then (if 0 ≤ s76.2 ∧ s76.2 < s76.1.length then (if 0 ≤ IntKind.i64.wrap (s76.2 - 1) ∧ IntKind.i64.wrap (s76.2 - 1) < s76.1.length then ((f3 (gl s76.1 s76.2) (gl s76.1 (IntKind.i64.wrap (s76.2 - 1)))).bind fun o103 => some (decide (o103 < 0))) else none) else none) else (some false) : Option Bool).bind fun o106 => if o106 = true then (if 0 ≤ IntKind.i64.wrap (s76.2 - 1) ∧ IntKind.i64.wrap (s76.2 - 1) < s76.1.length then (if 0 ≤ s76.2 ∧ s76.2 < s76.1.length then (if 0 ≤ IntKind.i64.wrap (s76.2 - 1) ∧ IntKind.i64.wrap (s76.2 - 1) < (sls s76.1 s76.2 (gl s76.1 (IntKind.i64.wrap (s76.2 - 1)))).length then (some (.inl (sls (sls s76.1 s76.2 (gl s76.1 (IntKind.i64.wrap (s76.2 - 1)))) (IntKind.i64.wrap (s76.2 - 1)) (gl s76.1 s76.2), IntKind.i64.wrap (s76.2 - 1)))) else none) else none) else none) else (some (.inr s76.1))
noncomputable def slices_insertionSortCmpFunc_impl_set_L1 (p1 : Int) (p2 : Int) (f3 : (Int → Int → Option Int)) (s1 : ((List Int) × Int)) : Option (((List Int) × Int) ⊕ (List Int)) :=
  if s1.2 < p2 then ((Lp.run (slices_insertionSortCmpFunc_impl_set_L2 p1 f3) (s1.1, s1.2)).bind fun o77 => some (.inl (o77, IntKind.i64.wrap (s1.2 + 1)))) else (some (.inr s1.1))
noncomputable def slices_insertionSortCmpFunc_impl_set (p0 : (List Int)) (p1 : Int) (p2 : Int) (f3 : (Int → Int → Option Int)) : Option (List Int) :=
  (Lp.run (slices_insertionSortCmpFunc_impl_set_L1 p1 p2 f3) (p0, IntKind.i64.wrap (p1 + 1))).bind fun o2 => some o2
/-! bits_Len64 -/
noncomputable def bits_Len64 (p0 : Int) : Option Int :=
  (if 4294967296 ≤ p0 then (some (ishr .u64 p0 32, 32)) else (some (p0, 0)) : Option (Int × Int)).bind fun o2 => (if 65536 ≤ o2.1 then (some (ishr .u64 o2.1 16, IntKind.i64.wrap (o2.2 + 16))) else (some (o2.1, o2.2)) : Option (Int × Int)).bind fun o4 => (if 256 ≤ o4.1 then (some (ishr .u64 o4.1 8, IntKind.i64.wrap (o4.2 + 8))) else (some (o4.1, o4.2)) : Option (Int × Int)).bind fun o6 => if 0 ≤ IntKind.u8.wrap o6.1 ∧ IntKind.u8.wrap o6.1 < sc_0.size then (some (IntKind.i64.wrap (o6.2 + (IntKind.i64.wrap (bt sc_0 (IntKind.u8.wrap o6.1)))))) else none
/-! bits_Len -/
noncomputable def bits_Len (p0 : Int) : Option Int :=
  (bits_Len64 p0).bind fun o1 => some o1
/-! slices_pdqsortCmpFunc_impl_set -/
noncomputable def slices_pdqsortCmpFunc_impl_set_L1 (p0 : (List Int)) (p1 : Int) (p2 : Int) (p3 : Int) (f4 : (Int → Int → Option Int)) (s1 : Unit) : Option (Unit ⊕ (List Int)) :=
  if IntKind.i64.wrap (p2 - p1) ≤ 12 then ((slices_insertionSortCmpFunc_impl_set p0 p1 p2 f4).bind fun o2009 => some (.inr o2009)) else (if p3 = 0 then none else none)
noncomputable def slices_pdqsortCmpFunc_impl_set (p0 : (List Int)) (p1 : Int) (p2 : Int) (p3 : Int) (f4 : (Int → Int → Option Int)) : Option (List Int) :=
  (Lp.run (slices_pdqsortCmpFunc_impl_set_L1 p0 p1 p2 p3 f4) ()).bind fun o2 => some o2
/-! slices_SortFunc_impl_set_impl_set -/
noncomputable def slices_SortFunc_impl_set_impl_set (p0 : (List Int)) (f1 : (Int → Int → Option Int)) : Option (List Int) :=
  (bits_Len (IntKind.u64.wrap (p0.length : Int))).bind fun o1 => (slices_pdqsortCmpFunc_impl_set p0 0 (p0.length : Int) o1 f1).bind fun o4 => some o4
/-! bits_TrailingZeros64 -/
noncomputable def bits_TrailingZeros64 (p0 : Int) : Option Int :=
  if p0 = 0 then (some 64) else (if 0 ≤ ishr .u64 (IntKind.u64.wrap ((iand .u64 p0 (IntKind.u64.wrap (0 - p0))) * 285870213051353865)) 58 ∧ ishr .u64 (IntKind.u64.wrap ((iand .u64 p0 (IntKind.u64.wrap (0 - p0))) * 285870213051353865)) 58 < 64 then (some (IntKind.i64.wrap (gv tab_1 (ishr .u64 (IntKind.u64.wrap ((iand .u64 p0 (IntKind.u64.wrap (0 - p0))) * 285870213051353865)) 58)))) else none)
/-! bits_TrailingZeros -/
noncomputable def bits_TrailingZeros (p0 : Int) : Option Int :=
  (bits_TrailingZeros64 p0).bind fun o1 => some o1
/-! impl_Square_cosets_c1 -/
noncomputable def impl_Square_cosets_c1 (p0 : Int) (p1 : Int) : Option Int :=
  (bits_TrailingZeros (IntKind.u64.wrap p0)).bind fun o1 => (bits_TrailingZeros (IntKind.u64.wrap p1)).bind fun o4 => some (IntKind.i64.wrap (o1 - o4))
/-! impl_Square_cosets -/
noncomputable def impl_Square_cosets_L2 (s6 : ((List Int) × Int)) (o68 : Int) (s71 : (Bool × Int)) : Option ((Bool × Int) ⊕ ((Bool) ⊕ (Unit))) :=
  if s71.2 < (s6.1.length : Int) then ((if 0 ≤ s71.2 ∧ s71.2 < s6.1.length then (if o68 = gl s6.1 s71.2 then (some (.inl true)) else (if iand .i64 o68 (gl s6.1 s71.2) ≠ 0 then (some (.inr ())) else (some (.inl s71.1)))) else none : Option ((Bool) ⊕ (Unit))).bind fun o87 => (Sum.elim (fun o87 => some (.inl (o87, IntKind.i64.wrap (s71.2 + 1)))) (fun o87 => some (.inr (.inr ())))) o87) else (some (.inr (.inl s71.1)))
noncomputable def impl_Square_cosets_L1 (p0 : S_Square) (p1 : Int) (o3 : (List Int)) (s6 : ((List Int) × Int)) : Option (((List Int) × Int) ⊕ (((List Int)) ⊕ (Unit))) :=
  if s6.2 < (o3.length : Int) then ((if 0 ≤ s6.2 ∧ s6.2 < o3.length then ((impl_Square_coset p0 (gl o3 s6.2) p1).bind fun o68 => (Lp.run (impl_Square_cosets_L2 s6 o68) (false, 0)).bind fun o72 => (Sum.elim (fun o72 => if o72 = true then (some (.inl s6.1)) else (if s6.1.length + ([o68]).length ≤ 4294967296 then (some (.inl (s6.1 ++ ([o68])))) else none)) (fun o72 => some (.inr ()))) o72) else none : Option (((List Int)) ⊕ (Unit))).bind fun o92 => (Sum.elim (fun o92 => some (.inl (o92, IntKind.i64.wrap (s6.2 + 1)))) (fun o92 => some (.inr (.inr ())))) o92) else (some (.inr (.inl s6.1)))
noncomputable def impl_Square_cosets (p0 : S_Square) (p1 : Int) : Option ((List Int) × Bool) :=
  (impl_Square_elements p0).bind fun o3 => (Lp.run (impl_Square_cosets_L1 p0 p1 o3) (([] : List Int), 0)).bind fun o7 => (Sum.elim (fun o7 => (slices_SortFunc_impl_set_impl_set o7 (fun a0 a1 => impl_Square_cosets_c1 a0 a1)).bind fun o96 => some (o96, true)) (fun o7 => some ([], false))) o7
/-! impl_set_list -/
noncomputable def impl_set_list_L1 (p0 : Int) (s2 : ((List Int) × Int)) : Option (((List Int) × Int) ⊕ (List Int)) :=
  if s2.2 < 10 then (((impl_set_has p0 (IntKind.u8.wrap s2.2)).bind fun o27 => if o27 = true then (if s2.1.length + ([s2.2]).length ≤ 4294967296 then (some (s2.1 ++ ([s2.2]))) else none) else (some s2.1) : Option (List Int)).bind fun o34 => some (.inl (o34, IntKind.i64.wrap (s2.2 + 1)))) else (some (.inr s2.1))
noncomputable def impl_set_list (p0 : Int) : Option (List Int) :=
  (Lp.run (impl_set_list_L1 p0) (([] : List Int), 0)).bind fun o3 => some o3
/-! impl_made -/
noncomputable def impl_made_L2 (o3 : (List Int)) (s6 : (S_Square × Int)) (o66 : (List Int)) (f1 : (Int → Int → Option Int)) (s69 : (S_Square × Int)) : Option ((S_Square × Int) ⊕ S_Square) :=
  if s69.2 < (o66.length : Int) then (if 0 ≤ s69.2 ∧ s69.2 < o66.length then ((f1 (gl o3 s6.2) (gl o66 s69.2)).bind fun o87 => if 0 ≤ gl o3 s6.2 ∧ gl o3 s6.2 < 10 then (if 0 ≤ gl o66 s69.2 ∧ gl o66 s69.2 < 10 then (some (.inl ({ s69.1 with Table := sv s69.1.Table (gl o3 s6.2) (sv (gv s69.1.Table (gl o3 s6.2)) (gl o66 s69.2) o87) }, IntKind.i64.wrap (s69.2 + 1)))) else none) else none) else none) else (some (.inr s69.1))
noncomputable def impl_made_L1 (o3 : (List Int)) (f1 : (Int → Int → Option Int)) (s6 : (S_Square × Int)) : Option ((S_Square × Int) ⊕ S_Square) :=
  if s6.2 < (o3.length : Int) then (if 0 ≤ s6.2 ∧ s6.2 < o3.length then ((impl_Square_elements s6.1).bind fun o66 => (Lp.run (impl_made_L2 o3 s6 o66 f1) (s6.1, 0)).bind fun o70 => some (.inl (o70, IntKind.i64.wrap (s6.2 + 1)))) else none) else (some (.inr s6.1))
noncomputable def impl_made (p0 : Int) (f1 : (Int → Int → Option Int)) : Option S_Square :=
  (impl_Square_elements (⟨p0, (Vector.replicate 10 (Vector.replicate 10 0))⟩ : S_Square)).bind fun o3 => (Lp.run (impl_made_L1 o3 f1) ((⟨p0, (Vector.replicate 10 (Vector.replicate 10 0))⟩ : S_Square), 0)).bind fun o7 => some o7
/-! impl_Square_quotient_c1 -/
noncomputable def impl_Square_quotient_c1 (p0 : Int) (p1 : Int) (p2 : (List Int)) (p3 : S_Square) (p4 : (List Int)) : Option Int :=
  if 0 ≤ p0 ∧ p0 < p4.length then (if 0 ≤ p1 ∧ p1 < p4.length then (if 0 ≤ gl p4 p0 ∧ gl p4 p0 < 10 then (if 0 ≤ gl p4 p1 ∧ gl p4 p1 < 10 then (if 0 ≤ gv (gv p3.Table (gl p4 p0)) (gl p4 p1) ∧ gv (gv p3.Table (gl p4 p0)) (gl p4 p1) < p2.length then (some (IntKind.u8.wrap (gl p2 (gv (gv p3.Table (gl p4 p0)) (gl p4 p1))))) else none) else none) else none) else none) else none
/-! impl_Square_quotient -/
noncomputable def impl_Square_quotient_L2 (s11 : ((List Int) × (List Int) × Int)) (o63 : (List Int)) (s66 : ((List Int) × Int)) : Option (((List Int) × Int) ⊕ (List Int)) :=
  if s66.2 < (o63.length : Int) then (if 0 ≤ s66.2 ∧ s66.2 < o63.length then (if 0 ≤ gl o63 s66.2 ∧ gl o63 s66.2 < s66.1.length then (some (.inl (sls s66.1 (gl o63 s66.2) s11.2.2, IntKind.i64.wrap (s66.2 + 1)))) else none) else none) else (some (.inr s66.1))
noncomputable def impl_Square_quotient_L1 (o3 : ((List Int) × Bool)) (s11 : ((List Int) × (List Int) × Int)) : Option (((List Int) × (List Int) × Int) ⊕ ((List Int) × (List Int))) :=
  if s11.2.2 < (o3.1.length : Int) then (if 0 ≤ s11.2.2 ∧ s11.2.2 < o3.1.length then ((impl_set_list (gl o3.1 s11.2.2)).bind fun o63 => (Lp.run (impl_Square_quotient_L2 s11 o63) (s11.2.1, 0)).bind fun o67 => (impl_set_list (gl o3.1 s11.2.2)).bind fun o77 => if (0 : Int) ≤ 0 ∧ (0 : Int) < o77.length then (if s11.1.length + ([IntKind.u8.wrap (gl o77 0)]).length ≤ 4294967296 then (some (.inl (s11.1 ++ ([IntKind.u8.wrap (gl o77 0)]), o67, IntKind.i64.wrap (s11.2.2 + 1)))) else none) else none) else none) else (some (.inr (s11.1, s11.2.1)))
noncomputable def impl_Square_quotient (p0 : S_Square) (p1 : Int) : Option (S_Square × (List Int)) :=
  (impl_Square_cosets p0 p1).bind fun o3 => if 0 ≤ p0.Order ∧ p0.Order ≤ 4294967296 then ((Lp.run (impl_Square_quotient_L1 o3) (([] : List Int), List.replicate p0.Order.toNat 0, 0)).bind fun o12 => (impl_made (o3.1.length : Int) (fun a0 a1 => impl_Square_quotient_c1 a0 a1 o12.2 p0 o12.1)).bind fun o86 => some (o86, o12.2)) else none
/-! impl_QuotientLoop -/
noncomputable def impl_QuotientLoop (p0 : S_Square) (p1 : (List Int)) : Option (S_Square × (List Int) × Int) :=
  (impl_listCode p0 p1).bind fun o3 => if o3 ≠ 0 then (some (z_S_Square, [], o3)) else ((impl_setOf p1).bind fun o7 => (impl_Square_isNormal p0 o7).bind fun o10 => if o10 = true then ((impl_setOf p1).bind fun o14 => (impl_Square_quotient p0 o14).bind fun o17 => some (o17.1, o17.2, 0)) else (some (z_S_Square, [], 5)))
/-! laws_eqByteA10 -/
noncomputable def laws_eqByteA10_L1 (p0 : (Vector Int 10)) (p1 : (Vector Int 10)) (s3 : Int) : Option (Int ⊕ ((Unit) ⊕ (Unit))) :=
  if s3 < 10 then (if 0 ≤ s3 ∧ s3 < 10 then (if gv p0 s3 ≠ gv p1 s3 then (some (.inr (.inr ()))) else (some (.inl (IntKind.i64.wrap (s3 + 1))))) else none) else (some (.inr (.inl ())))
noncomputable def laws_eqByteA10 (p0 : (Vector Int 10)) (p1 : (Vector Int 10)) : Option Bool :=
  (Lp.run (laws_eqByteA10_L1 p0 p1) 0).bind fun o4 => (Sum.elim (fun o4 => some true) (fun o4 => some false)) o4
/-! laws_eqTable -/
noncomputable def laws_eqTable_L1 (p0 : (Vector (Vector Int 10) 10)) (p1 : (Vector (Vector Int 10) 10)) (s3 : Int) : Option (Int ⊕ ((Unit) ⊕ (Unit))) :=
  if s3 < 10 then (if 0 ≤ s3 ∧ s3 < 10 then ((laws_eqByteA10 (gv p0 s3) (gv p1 s3)).bind fun o18 => if o18 = true then (some (.inl (IntKind.i64.wrap (s3 + 1)))) else (some (.inr (.inr ())))) else none) else (some (.inr (.inl ())))
noncomputable def laws_eqTable (p0 : (Vector (Vector Int 10) 10)) (p1 : (Vector (Vector Int 10) 10)) : Option Bool :=
  (Lp.run (laws_eqTable_L1 p0 p1) 0).bind fun o4 => (Sum.elim (fun o4 => some true) (fun o4 => some false)) o4
/-! laws_eqSquare -/
noncomputable def laws_eqSquare (p0 : S_Square) (p1 : S_Square) : Option Bool :=
  if p0.Order ≠ p1.Order then (some false) else ((laws_eqTable p0.Table p1.Table).bind fun o4 => if o4 = true then (some true) else (some false))
/-! laws_eqInt64S -/
noncomputable def laws_eqInt64S_L1 (p0 : (List Int)) (p1 : (List Int)) (s2 : Int) : Option (Int ⊕ ((Unit) ⊕ (Unit))) :=
  if s2 < (p0.length : Int) then (if 0 ≤ s2 ∧ s2 < p0.length then (if 0 ≤ s2 ∧ s2 < p1.length then (if gl p0 s2 ≠ gl p1 s2 then (some (.inr (.inr ()))) else (some (.inl (IntKind.i64.wrap (s2 + 1))))) else none) else none) else (some (.inr (.inl ())))
noncomputable def laws_eqInt64S (p0 : (List Int)) (p1 : (List Int)) : Option Bool :=
  if (p0.length : Int) ≠ (p1.length : Int) then (some false) else ((Lp.run (laws_eqInt64S_L1 p0 p1) 0).bind fun o3 => (Sum.elim (fun o3 => some true) (fun o3 => some false)) o3)
/-! laws_markInt64S -/
noncomputable def laws_markInt64S_L1  (s1 : ((List Int) × Int × Int)) : Option (((List Int) × Int × Int) ⊕ ((List Int) × Int)) :=
  if s1.2.2 < (s1.1.length : Int) then (if 0 ≤ s1.2.2 ∧ s1.2.2 < s1.1.length then (some (.inl (sls s1.1 s1.2.2 s1.2.1, IntKind.i64.wrap (s1.2.1 + 1), IntKind.i64.wrap (s1.2.2 + 1)))) else none) else (some (.inr (s1.1, s1.2.1)))
noncomputable def laws_markInt64S (p0 : (List Int)) (p1 : Int) : Option (Int × (List Int)) :=
  (Lp.run laws_markInt64S_L1 (p0, p1, 0)).bind fun o2 => some (o2.2, o2.1)
/-! laws_heldInt64S -/
noncomputable def laws_heldInt64S_L1 (p0 : (List Int)) (s1 : (Int × Int)) : Option ((Int × Int) ⊕ ((Int) ⊕ (Unit))) :=
  if s1.2 < (p0.length : Int) then (if 0 ≤ s1.2 ∧ s1.2 < p0.length then (if gl p0 s1.2 ≠ s1.1 then (some (.inr (.inr ()))) else (some (.inl (IntKind.i64.wrap (s1.1 + 1), IntKind.i64.wrap (s1.2 + 1))))) else none) else (some (.inr (.inl s1.1)))
noncomputable def laws_heldInt64S (p0 : (List Int)) (p1 : Int) : Option Int :=
  (Lp.run (laws_heldInt64S_L1 p0) (p1, 0)).bind fun o2 => (Sum.elim (fun o2 => some o2) (fun o2 => some (-1))) o2
/-! laws_FnExactQuotientLoop -/
noncomputable def laws_FnExactQuotientLoop (p0 : S_Square) (p1 : (List Int)) : Option Bool :=
  if 1048576 < (p1.length : Int) then (some true) else ((laws_toSquare p0).bind fun o3 => (laws_toInt64S p1).bind fun o6 => (spec_QuotientLoop o3 o6).bind fun o9 => (laws_toInt64S p1).bind fun o13 => (laws_toSquare p0).bind fun o16 => (impl_QuotientLoop o16 o13).bind fun o19 => ((laws_eqSquare o19.1 o9.1).bind fun o23 => if o23 = true then ((laws_eqInt64S o19.2.1 o9.2.1).bind fun o27 => if o27 = true then (some (decide (o19.2.2 ≠ o9.2.2))) else (some true)) else (some true) : Option Bool).bind fun o31 => if o31 = true then (some false) else ((laws_toInt64S p1).bind fun o33 => (laws_eqInt64S o13 o33).bind fun o36 => if o36 = true then ((laws_markInt64S o13 1).bind fun o40 => (if o40.1 < 0 then (some true) else ((laws_eqSquare o19.1 o9.1).bind fun o44 => if o44 = true then ((laws_eqInt64S o19.2.1 o9.2.1).bind fun o48 => if o48 = true then (some (decide (o19.2.2 ≠ o9.2.2))) else (some true)) else (some true)) : Option Bool).bind fun o52 => if o52 = true then (some false) else ((laws_markInt64S o19.2.1 1).bind fun o54 => (laws_heldInt64S o54.2 1).bind fun o57 => if o57 < 0 then (some false) else (if o57 ≠ o54.1 then (some false) else ((laws_toSquare p0).bind fun o62 => (laws_toInt64S p1).bind fun o65 => (impl_QuotientLoop o62 o65).bind fun o68 => ((laws_eqSquare o68.1 o9.1).bind fun o72 => if o72 = true then ((laws_eqInt64S o68.2.1 o9.2.1).bind fun o76 => if o76 = true then (some (decide (o68.2.2 ≠ o9.2.2))) else (some true)) else (some true) : Option Bool).bind fun o80 => if o80 = true then (some false) else ((laws_heldInt64S o54.2 1).bind fun o82 => if o82 < 0 then (some false) else (if o82 ≠ o54.1 then (some false) else (some true))))))) else (some false)))
end Go.Mi
