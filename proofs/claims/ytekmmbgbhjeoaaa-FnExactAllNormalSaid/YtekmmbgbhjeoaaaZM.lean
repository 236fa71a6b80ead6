/- Printed by a program of the claim's own: the functions that the law reaches, as plain functions. 'none': a check that fails. No condition. -/
import Derived.Test.YtekmmbgbhjeoaaaSxO
set_option linter.unusedVariables false
set_option linter.unusedSimpArgs false
namespace Go.Mi
open Go Go.Sx
structure S_Square where
  Order : Int
  Table : (Vector (Vector Int 10) 10)
  deriving DecidableEq, Inhabited
def e_S_Square : Enc S_Square := ⟨fun s => (Enc.int .i64).cells s.Order ++ ((((Enc.int .u8).arr 10).arr 10).cells s.Table), (Enc.int .i64).size + ((((Enc.int .u8).arr 10).arr 10).size), fun s => by simp only [List.length_append, Enc.len], fun s x h => by
  simp only [List.mem_append] at h
  rcases h with h | h
  · exact Enc.one _ _ x h
  · exact Enc.one _ _ x h⟩
def z_S_Square : S_Square := ⟨0, (Vector.replicate 10 (Vector.replicate 10 0))⟩
theorem e_S_Square_s0 (s : S_Square) : Sub (e_S_Square.cells s) 0 ((Enc.int .i64).cells s.Order) := Sub.here
theorem e_S_Square_u0 (s : S_Square) (x : Int) : Up (e_S_Square.cells s) 0 ((Enc.int .i64).cells x) (e_S_Square.cells { s with Order := x }) := Up.here (by rw [Enc.len, Enc.len])
theorem e_S_Square_s1 (s : S_Square) : Sub (e_S_Square.cells s) 1 ((((Enc.int .u8).arr 10).arr 10).cells s.Table) := Sub.there (Sub.refl _) (Enc.len _ _)
theorem e_S_Square_u1 (s : S_Square) (x : (Vector (Vector Int 10) 10)) : Up (e_S_Square.cells s) 1 ((((Enc.int .u8).arr 10).arr 10).cells x) (e_S_Square.cells { s with Table := x }) := Up.there (Up.all _ _ _) (Enc.len _ _)
def sc_0 : ByteArray := ⟨#[0, 1, 2, 2, 3, 3, 3, 3, 4, 4, 4, 4, 4, 4, 4, 4, 5, 5, 5, 5, 5, 5, 5, 5, 5, 5, 5, 5, 5, 5, 5, 5, 6, 6, 6, 6, 6, 6, 6, 6, 6, 6, 6, 6, 6, 6, 6, 6, 6, 6, 6, 6, 6, 6, 6, 6, 6, 6, 6, 6, 6, 6, 6, 6, 7, 7, 7, 7, 7, 7, 7, 7, 7, 7, 7, 7, 7, 7, 7, 7, 7, 7, 7, 7, 7, 7, 7, 7, 7, 7, 7, 7, 7, 7, 7, 7, 7, 7, 7, 7, 7, 7, 7, 7, 7, 7, 7, 7, 7, 7, 7, 7, 7, 7, 7, 7, 7, 7, 7, 7, 7, 7, 7, 7, 7, 7, 7, 7, 8, 8, 8, 8, 8, 8, 8, 8, 8, 8, 8, 8, 8, 8, 8, 8, 8, 8, 8, 8, 8, 8, 8, 8, 8, 8, 8, 8, 8, 8, 8, 8, 8, 8, 8, 8, 8, 8, 8, 8, 8, 8, 8, 8, 8, 8, 8, 8, 8, 8, 8, 8, 8, 8, 8, 8, 8, 8, 8, 8, 8, 8, 8, 8, 8, 8, 8, 8, 8, 8, 8, 8, 8, 8, 8, 8, 8, 8, 8, 8, 8, 8, 8, 8, 8, 8, 8, 8, 8, 8, 8, 8, 8, 8, 8, 8, 8, 8, 8, 8, 8, 8, 8, 8, 8, 8, 8, 8, 8, 8, 8, 8, 8, 8, 8, 8, 8, 8, 8, 8, 8, 8, 8, 8, 8, 8, 8, 8]⟩
def sc_1 : ByteArray := ⟨#[0, 1, 1, 2, 1, 2, 2, 3, 1, 2, 2, 3, 2, 3, 3, 4, 1, 2, 2, 3, 2, 3, 3, 4, 2, 3, 3, 4, 3, 4, 4, 5, 1, 2, 2, 3, 2, 3, 3, 4, 2, 3, 3, 4, 3, 4, 4, 5, 2, 3, 3, 4, 3, 4, 4, 5, 3, 4, 4, 5, 4, 5, 5, 6, 1, 2, 2, 3, 2, 3, 3, 4, 2, 3, 3, 4, 3, 4, 4, 5, 2, 3, 3, 4, 3, 4, 4, 5, 3, 4, 4, 5, 4, 5, 5, 6, 2, 3, 3, 4, 3, 4, 4, 5, 3, 4, 4, 5, 4, 5, 5, 6, 3, 4, 4, 5, 4, 5, 5, 6, 4, 5, 5, 6, 5, 6, 6, 7, 1, 2, 2, 3, 2, 3, 3, 4, 2, 3, 3, 4, 3, 4, 4, 5, 2, 3, 3, 4, 3, 4, 4, 5, 3, 4, 4, 5, 4, 5, 5, 6, 2, 3, 3, 4, 3, 4, 4, 5, 3, 4, 4, 5, 4, 5, 5, 6, 3, 4, 4, 5, 4, 5, 5, 6, 4, 5, 5, 6, 5, 6, 6, 7, 2, 3, 3, 4, 3, 4, 4, 5, 3, 4, 4, 5, 4, 5, 5, 6, 3, 4, 4, 5, 4, 5, 5, 6, 4, 5, 5, 6, 5, 6, 6, 7, 3, 4, 4, 5, 4, 5, 5, 6, 4, 5, 5, 6, 5, 6, 6, 7, 4, 5, 5, 6, 5, 6, 6, 7, 5, 6, 6, 7, 6, 7, 7, 8]⟩
/-! spec_l01In -/
noncomputable def spec_l01In (p0 : Int) (p1 : Int) (p2 : Int) : Option Bool :=
  (if p1 ≤ p0 then (some (decide (p0 ≤ p2))) else (some false) : Option Bool).bind fun o2 => some o2
/-! spec_l01Perm -/
noncomputable def spec_l01Perm_L1 (p0 : (Vector Int 10)) (p1 : Int) (s7 : ((Vector Bool 10) × Int)) : Option (((Vector Bool 10) × Int) ⊕ ((Unit) ⊕ (Unit))) :=
  if s7.2 < 10 then ((if p1 ≤ s7.2 then (if 0 ≤ s7.2 ∧ s7.2 < 10 then (if gv p0 s7.2 ≠ 0 then (some (.inr ())) else (some (.inl s7.1))) else none) else ((if 0 ≤ s7.2 ∧ s7.2 < 10 then (if p1 ≤ IntKind.i64.wrap (gv p0 s7.2) then (some true) else (if 0 ≤ gv p0 s7.2 ∧ gv p0 s7.2 < 10 then (some (gv s7.1 (gv p0 s7.2))) else none)) else none : Option Bool).bind fun o37 => if o37 = true then (some (.inr ())) else (if 0 ≤ s7.2 ∧ s7.2 < 10 then (if 0 ≤ gv p0 s7.2 ∧ gv p0 s7.2 < 10 then (some (.inl (sv s7.1 (gv p0 s7.2) true))) else none) else none)) : Option (((Vector Bool 10)) ⊕ (Unit))).bind fun o41 => (Sum.elim (fun o41 => some (.inl (o41, IntKind.i64.wrap (s7.2 + 1)))) (fun o41 => some (.inr (.inr ())))) o41) else (some (.inr (.inl ())))
noncomputable def spec_l01Perm (p0 : (Vector Int 10)) (p1 : Int) : Option Bool :=
  (spec_l01In p1 1 10).bind fun o2 => if o2 = true then ((Lp.run (spec_l01Perm_L1 p0 p1) ((Vector.replicate 10 false), 0)).bind fun o8 => (Sum.elim (fun o8 => some true) (fun o8 => some false)) o8) else (some false)
/-! spec_l01Rows -/
noncomputable def spec_l01Rows_L1 (p0 : (Vector (Vector Int 10) 10)) (p1 : Int) (s2 : Int) : Option (Int ⊕ ((Unit) ⊕ (Unit))) :=
  if s2 < 10 then ((if s2 < p1 then (if 0 ≤ s2 ∧ s2 < 10 then ((spec_l01Perm (gv p0 s2) p1).bind fun o29 => if o29 = true then (if p1 ≤ s2 then (some (decide (gv p0 s2 ≠ (Vector.replicate 10 0)))) else (some false)) else (some true)) else none) else (if p1 ≤ s2 then (if 0 ≤ s2 ∧ s2 < 10 then (some (decide (gv p0 s2 ≠ (Vector.replicate 10 0)))) else none) else (some false)) : Option Bool).bind fun o36 => if o36 = true then (some (.inr (.inr ()))) else (some (.inl (IntKind.i64.wrap (s2 + 1))))) else (some (.inr (.inl ())))
noncomputable def spec_l01Rows (p0 : (Vector (Vector Int 10) 10)) (p1 : Int) : Option Bool :=
  (Lp.run (spec_l01Rows_L1 p0 p1) 0).bind fun o3 => (Sum.elim (fun o3 => some true) (fun o3 => some false)) o3
/-! spec_l01Turned -/
noncomputable def spec_l01Turned_L2 (p0 : (Vector (Vector Int 10) 10)) (s4 : ((Vector (Vector Int 10) 10) × Int)) (s25 : ((Vector (Vector Int 10) 10) × Int)) : Option (((Vector (Vector Int 10) 10) × Int) ⊕ (Vector (Vector Int 10) 10)) :=
  if s25.2 < 10 then (if 0 ≤ s4.2 ∧ s4.2 < 10 then (if 0 ≤ s25.2 ∧ s25.2 < 10 then (some (.inl (sv s25.1 s25.2 (sv (gv s25.1 s25.2) s4.2 (gv (gv p0 s4.2) s25.2)), IntKind.i64.wrap (s25.2 + 1)))) else none) else none) else (some (.inr s25.1))
noncomputable def spec_l01Turned_L1 (p0 : (Vector (Vector Int 10) 10)) (s4 : ((Vector (Vector Int 10) 10) × Int)) : Option (((Vector (Vector Int 10) 10) × Int) ⊕ (Vector (Vector Int 10) 10)) :=
  if s4.2 < 10 then ((Lp.run (spec_l01Turned_L2 p0 s4) (s4.1, 0)).bind fun o26 => some (.inl (o26, IntKind.i64.wrap (s4.2 + 1)))) else (some (.inr s4.1))
noncomputable def spec_l01Turned (p0 : (Vector (Vector Int 10) 10)) : Option (Vector (Vector Int 10) 10) :=
  (Lp.run (spec_l01Turned_L1 p0) ((Vector.replicate 10 (Vector.replicate 10 0)), 0)).bind fun o5 => some o5
/-! spec_l01Is -/
noncomputable def spec_l01Is (p0 : S_Square) : Option Bool :=
  ((spec_l01In p0.Order 1 10).bind fun o2 => if o2 = true then ((spec_l01Rows p0.Table p0.Order).bind fun o6 => if o6 = true then ((spec_l01Turned p0.Table).bind fun o10 => (spec_l01Rows o10 p0.Order).bind fun o13 => some o13) else (some false)) else (some false) : Option Bool).bind fun o16 => some o16
/-! spec_l01Loop -/
noncomputable def spec_l01Loop_L1 (p0 : S_Square) (s6 : Int) : Option (Int ⊕ ((Unit) ⊕ (Unit))) :=
  if s6 < p0.Order then ((if 0 ≤ s6 ∧ s6 < 10 then (if gv (gv p0.Table 0) s6 ≠ IntKind.u8.wrap s6 then (some true) else (some (decide (gv (gv p0.Table s6) 0 ≠ IntKind.u8.wrap s6)))) else none : Option Bool).bind fun o20 => if o20 = true then (some (.inr (.inr ()))) else (some (.inl (IntKind.i64.wrap (s6 + 1))))) else (some (.inr (.inl ())))
noncomputable def spec_l01Loop (p0 : S_Square) : Option Bool :=
  (spec_l01Is p0).bind fun o2 => if o2 = true then ((Lp.run (spec_l01Loop_L1 p0) 0).bind fun o7 => (Sum.elim (fun o7 => some true) (fun o7 => some false)) o7) else (some false)
/-! spec_l06Ahead -/
noncomputable def spec_l06Ahead_L1 (p0 : (List Int)) (p1 : (List Int)) (s2 : Int) : Option (Int ⊕ ((Unit) ⊕ (Bool))) :=
  if s2 < (p0.length : Int) then (if 0 ≤ s2 ∧ s2 < p0.length then (if 0 ≤ s2 ∧ s2 < p1.length then (if gl p0 s2 ≠ gl p1 s2 then (some (.inr (.inr (decide (gl p0 s2 < gl p1 s2))))) else (some (.inl (IntKind.i64.wrap (s2 + 1))))) else none) else none) else (some (.inr (.inl ())))
noncomputable def spec_l06Ahead (p0 : (List Int)) (p1 : (List Int)) : Option Bool :=
  if (p0.length : Int) ≠ (p1.length : Int) then (some (decide ((p0.length : Int) < (p1.length : Int)))) else ((Lp.run (spec_l06Ahead_L1 p0 p1) 0).bind fun o3 => (Sum.elim (fun o3 => some false) (fun o3 => some o3)) o3)
/-! spec_l01Same2 -/
noncomputable def spec_l01Same2_L1 (p0 : (List Int)) (p1 : (List Int)) (s2 : Int) : Option (Int ⊕ ((Unit) ⊕ (Unit))) :=
  if s2 < (p0.length : Int) then (if 0 ≤ s2 ∧ s2 < p0.length then (if 0 ≤ s2 ∧ s2 < p1.length then (if gl p0 s2 ≠ gl p1 s2 then (some (.inr (.inr ()))) else (some (.inl (IntKind.i64.wrap (s2 + 1))))) else none) else none) else (some (.inr (.inl ())))
noncomputable def spec_l01Same2 (p0 : (List Int)) (p1 : (List Int)) : Option Bool :=
  if (p0.length : Int) ≠ (p1.length : Int) then (some false) else ((Lp.run (spec_l01Same2_L1 p0 p1) 0).bind fun o3 => (Sum.elim (fun o3 => some true) (fun o3 => some false)) o3)
/-! spec_l06Insert -/
noncomputable def spec_l06Insert_L1 (p0 : (List (List Int))) (p1 : (List Int)) (s1 : Int) : Option (Int ⊕ Int) :=
  (if s1 < (p0.length : Int) then (if 0 ≤ s1 ∧ s1 < p0.length then ((spec_l06Ahead (gl p0 s1) p1).bind fun o19 => some o19) else none) else (some false) : Option Bool).bind fun o22 => if o22 = true then (some (.inl (IntKind.i64.wrap (s1 + 1)))) else (some (.inr s1))
noncomputable def spec_l06Insert (p0 : (List (List Int))) (p1 : (List Int)) : Option (List (List Int)) :=
  (Lp.run (spec_l06Insert_L1 p0 p1) 0).bind fun o2 => (if o2 < (p0.length : Int) then (if 0 ≤ o2 ∧ o2 < p0.length then ((spec_l01Same2 (gl p0 o2) p1).bind fun o26 => some o26) else none) else (some false) : Option Bool).bind fun o29 => if o29 = true then (some p0) else (if ((0 : Int) ≤ o2 ∧ o2 ≤ (p0.length : Int)) ∧ (p0.length : Int) ≤ p0.length then (if ([p1]).length + p0.length ≤ 4294967296 then (if ((0 : Int) ≤ 0 ∧ 0 ≤ o2) ∧ o2 ≤ p0.length then (if ([] : List (List Int)).length + p0.length ≤ 4294967296 then (if (([] : List (List Int)) ++ (subl p0 0 o2)).length + (([p1]) ++ (subl p0 o2 (p0.length : Int))).length ≤ 4294967296 then (some ((([] : List (List Int)) ++ (subl p0 0 o2)) ++ (([p1]) ++ (subl p0 o2 (p0.length : Int))))) else none) else none) else none) else none) else none)
/-! spec_l06Told -/
noncomputable def spec_l06Told_L3 (o124 : (List Int)) (s161 : ((Vector Bool 10) × Int)) : Option (((Vector Bool 10) × Int) ⊕ (Vector Bool 10)) :=
  if s161.2 < (o124.length : Int) then (if 0 ≤ s161.2 ∧ s161.2 < o124.length then (if 0 ≤ gl o124 s161.2 ∧ gl o124 s161.2 < 10 then (some (.inl (sv s161.1 (gl o124 s161.2) true, IntKind.i64.wrap (s161.2 + 1)))) else none) else none) else (some (.inr s161.1))
noncomputable def spec_l06Told_L2 (p0 : (Vector Int 10)) (p1 : Int) (s4 : ((Vector Bool 10) × (List (List Int)) × Int)) (s123 : ((List Int) × Int)) : Option (((List Int) × Int) ⊕ (List Int)) :=
  (if s123.2 < p1 then (if 0 ≤ s4.2.2 ∧ s4.2.2 < 10 then (some (!(gv s4.1 s4.2.2))) else none) else (some false) : Option Bool).bind fun o149 => if o149 = true then ((if 0 ≤ s123.2 ∧ s123.2 < 10 then (if 0 ≤ s4.2.2 ∧ s4.2.2 < 10 then (if gv p0 s123.2 = gv p0 s4.2.2 then (if s123.1.length + ([s123.2]).length ≤ 4294967296 then (some (s123.1 ++ ([s123.2]))) else none) else (some s123.1)) else none) else none : Option (List Int)).bind fun o157 => some (.inl (o157, IntKind.i64.wrap (s123.2 + 1)))) else (some (.inr s123.1))
noncomputable def spec_l06Told_L1 (p0 : (Vector Int 10)) (p1 : Int) (s4 : ((Vector Bool 10) × (List (List Int)) × Int)) : Option (((Vector Bool 10) × (List (List Int)) × Int) ⊕ (List (List Int))) :=
  if s4.2.2 < p1 then (((Lp.run (spec_l06Told_L2 p0 p1 s4) (([] : List Int), s4.2.2)).bind fun o124 => (Lp.run (spec_l06Told_L3 o124) (s4.1, 0)).bind fun o162 => if 0 < (o124.length : Int) then (if s4.2.1.length + 1 ≤ 4294967296 then (some (o162, s4.2.1 ++ [o124])) else none) else (some (o162, s4.2.1)) : Option ((Vector Bool 10) × (List (List Int)))).bind fun o176 => some (.inl (o176.1, o176.2, IntKind.i64.wrap (s4.2.2 + 1)))) else (some (.inr s4.2.1))
noncomputable def spec_l06Told (p0 : (Vector Int 10)) (p1 : Int) : Option (List (List Int)) :=
  (Lp.run (spec_l06Told_L1 p0 p1) ((Vector.replicate 10 false), ([] : List (List Int)), 0)).bind fun o5 => some o5
/-! spec_l06Classes -/
noncomputable def spec_l06Classes_L4 (p0 : S_Square) (s11 : ((Vector Int 10) × (List (Vector Int 2)) × Int)) (s113 : ((List (Vector Int 2)) × Int)) : Option (((List (Vector Int 2)) × Int) ⊕ (List (Vector Int 2))) :=
  if s113.2 < p0.Order then (if 0 ≤ s113.2 ∧ s113.2 < 10 then (if s113.1.length + ([(#v[IntKind.i64.wrap (gv (gv p0.Table (gv (gl s11.2.1 s11.2.2) 0)) s113.2), IntKind.i64.wrap (gv (gv p0.Table (gv (gl s11.2.1 s11.2.2) 1)) s113.2)] : (Vector Int 2)), (#v[IntKind.i64.wrap (gv (gv p0.Table s113.2) (gv (gl s11.2.1 s11.2.2) 0)), IntKind.i64.wrap (gv (gv p0.Table s113.2) (gv (gl s11.2.1 s11.2.2) 1))] : (Vector Int 2))]).length ≤ 4294967296 then (some (.inl (s113.1 ++ ([(#v[IntKind.i64.wrap (gv (gv p0.Table (gv (gl s11.2.1 s11.2.2) 0)) s113.2), IntKind.i64.wrap (gv (gv p0.Table (gv (gl s11.2.1 s11.2.2) 1)) s113.2)] : (Vector Int 2)), (#v[IntKind.i64.wrap (gv (gv p0.Table s113.2) (gv (gl s11.2.1 s11.2.2) 0)), IntKind.i64.wrap (gv (gv p0.Table s113.2) (gv (gl s11.2.1 s11.2.2) 1))] : (Vector Int 2))]), IntKind.i64.wrap (s113.2 + 1)))) else none) else none) else (some (.inr s113.1))
noncomputable def spec_l06Classes_L3 (p0 : S_Square) (s11 : ((Vector Int 10) × (List (Vector Int 2)) × Int)) (s100 : ((Vector Int 10) × Int)) : Option (((Vector Int 10) × Int) ⊕ (Vector Int 10)) :=
  if s100.2 < p0.Order then ((if 0 ≤ s100.2 ∧ s100.2 < 10 then (if gv s100.1 s100.2 = gv s11.1 (gv (gl s11.2.1 s11.2.2) 1) then (some (sv s100.1 s100.2 (gv s11.1 (gv (gl s11.2.1 s11.2.2) 0)))) else (some s100.1)) else none : Option (Vector Int 10)).bind fun o112 => some (.inl (o112, IntKind.i64.wrap (s100.2 + 1)))) else (some (.inr s100.1))
noncomputable def spec_l06Classes_L2 (p0 : S_Square) (s11 : ((Vector Int 10) × (List (Vector Int 2)) × Int)) : Option (((Vector Int 10) × (List (Vector Int 2)) × Int) ⊕ (Vector Int 10)) :=
  if s11.2.2 < (s11.2.1.length : Int) then ((if 0 ≤ s11.2.2 ∧ s11.2.2 < s11.2.1.length then (if 0 ≤ gv (gl s11.2.1 s11.2.2) 0 ∧ gv (gl s11.2.1 s11.2.2) 0 < 10 then (if 0 ≤ gv (gl s11.2.1 s11.2.2) 1 ∧ gv (gl s11.2.1 s11.2.2) 1 < 10 then (if gv s11.1 (gv (gl s11.2.1 s11.2.2) 0) = gv s11.1 (gv (gl s11.2.1 s11.2.2) 1) then (some (s11.1, s11.2.1)) else ((Lp.run (spec_l06Classes_L3 p0 s11) (s11.1, 0)).bind fun o101 => (Lp.run (spec_l06Classes_L4 p0 s11) (s11.2.1, 0)).bind fun o114 => some (o101, o114))) else none) else none) else none : Option ((Vector Int 10) × (List (Vector Int 2)))).bind fun o133 => some (.inl (o133.1, o133.2, IntKind.i64.wrap (s11.2.2 + 1)))) else (some (.inr s11.1))
noncomputable def spec_l06Classes_L1 (p0 : S_Square) (s4 : ((Vector Int 10) × Int)) : Option (((Vector Int 10) × Int) ⊕ (Vector Int 10)) :=
  if s4.2 < p0.Order then (if 0 ≤ s4.2 ∧ s4.2 < 10 then (some (.inl (sv s4.1 s4.2 s4.2, IntKind.i64.wrap (s4.2 + 1)))) else none) else (some (.inr s4.1))
noncomputable def spec_l06Classes (p0 : S_Square) (p1 : (List (Vector Int 2))) : Option (Vector Int 10) :=
  (Lp.run (spec_l06Classes_L1 p0) ((Vector.replicate 10 0), 0)).bind fun o5 => (Lp.run (spec_l06Classes_L2 p0) (o5, p1, 0)).bind fun o12 => some o12
/-! spec_l06Closure -/
noncomputable def spec_l06Closure_L1 (p1 : (List Int)) (s3 : ((List (Vector Int 2)) × Int)) : Option (((List (Vector Int 2)) × Int) ⊕ (List (Vector Int 2))) :=
  if s3.2 < (p1.length : Int) then (if 0 ≤ s3.2 ∧ s3.2 < p1.length then (if s3.1.length + ([(#v[0, gl p1 s3.2] : (Vector Int 2))]).length ≤ 4294967296 then (some (.inl (s3.1 ++ ([(#v[0, gl p1 s3.2] : (Vector Int 2))]), IntKind.i64.wrap (s3.2 + 1)))) else none) else none) else (some (.inr s3.1))
noncomputable def spec_l06Closure (p0 : S_Square) (p1 : (List Int)) : Option (List Int) :=
  (Lp.run (spec_l06Closure_L1 p1) (([] : List (Vector Int 2)), 0)).bind fun o4 => (spec_l06Classes p0 o4).bind fun o24 => (spec_l06Told o24 p0.Order).bind fun o27 => if (0 : Int) ≤ 0 ∧ (0 : Int) < o27.length then (some (gl o27 0)) else none
/-! spec_l01Own -/
noncomputable def spec_l01Own (p0 : (List Int)) : Option (List Int) :=
  if ([] : List Int).length + p0.length ≤ 4294967296 then (some (([] : List Int) ++ p0)) else none
/-! spec_l06All -/
noncomputable def spec_l06All_L2 (p0 : S_Square) (s4 : ((List (List Int)) × Int)) (s117 : ((List (List Int)) × Int)) : Option (((List (List Int)) × Int) ⊕ (List (List Int))) :=
  if s117.2 < p0.Order then (if 0 ≤ s4.2 ∧ s4.2 < s117.1.length then ((spec_l01Own (gl s117.1 s4.2)).bind fun o153 => if o153.length + ([s117.2]).length ≤ 4294967296 then ((spec_l06Closure p0 (o153 ++ ([s117.2]))).bind fun o159 => (spec_l06Insert s117.1 o159).bind fun o162 => some (.inl (o162, IntKind.i64.wrap (s117.2 + 1)))) else none) else none) else (some (.inr s117.1))
noncomputable def spec_l06All_L1 (p0 : S_Square) (s4 : ((List (List Int)) × Int)) : Option (((List (List Int)) × Int) ⊕ (List (List Int))) :=
  if s4.2 < (s4.1.length : Int) then ((Lp.run (spec_l06All_L2 p0 s4) (s4.1, 1)).bind fun o118 => some (.inl (o118, IntKind.i64.wrap (s4.2 + 1)))) else (some (.inr s4.1))
noncomputable def spec_l06All (p0 : S_Square) : Option (List (List Int)) :=
  (Lp.run (spec_l06All_L1 p0) ([[0]], 0)).bind fun o5 => some o5
/-! spec_AllNormal -/
noncomputable def spec_AllNormal (p0 : S_Square) : Option ((List (List Int)) × Int) :=
  (spec_l01Loop p0).bind fun o2 => if o2 = true then ((spec_l06All p0).bind fun o6 => some (o6, 0)) else (some ([], 1))
/-! laws_toByteA10 -/
noncomputable def laws_toByteA10_L1 (p0 : (Vector Int 10)) (s4 : ((Vector Int 10) × Int)) : Option (((Vector Int 10) × Int) ⊕ (Vector Int 10)) :=
  if s4.2 < 10 then (if 0 ≤ s4.2 ∧ s4.2 < 10 then (some (.inl (sv s4.1 s4.2 (gv p0 s4.2), IntKind.i64.wrap (s4.2 + 1)))) else none) else (some (.inr s4.1))
noncomputable def laws_toByteA10 (p0 : (Vector Int 10)) : Option (Vector Int 10) :=
  (Lp.run (laws_toByteA10_L1 p0) ((Vector.replicate 10 0), 0)).bind fun o5 => some o5
/-! laws_toTable -/
noncomputable def laws_toTable_L1 (p0 : (Vector (Vector Int 10) 10)) (s4 : ((Vector (Vector Int 10) 10) × Int)) : Option (((Vector (Vector Int 10) 10) × Int) ⊕ (Vector (Vector Int 10) 10)) :=
  if s4.2 < 10 then (if 0 ≤ s4.2 ∧ s4.2 < 10 then ((laws_toByteA10 (gv p0 s4.2)).bind fun o17 => some (.inl (sv s4.1 s4.2 o17, IntKind.i64.wrap (s4.2 + 1)))) else none) else (some (.inr s4.1))
noncomputable def laws_toTable (p0 : (Vector (Vector Int 10) 10)) : Option (Vector (Vector Int 10) 10) :=
  (Lp.run (laws_toTable_L1 p0) ((Vector.replicate 10 (Vector.replicate 10 0)), 0)).bind fun o5 => some o5
/-! laws_toSquare -/
noncomputable def laws_toSquare (p0 : S_Square) : Option S_Square :=
  (laws_toTable p0.Table).bind fun o4 => some ({ { z_S_Square with Order := p0.Order } with Table := o4 })
/-! impl_within -/
noncomputable def impl_within (p0 : Int) (p1 : Int) (p2 : Int) : Option Bool :=
  (if p1 ≤ p0 then (some (decide (p0 ≤ p2))) else (some false) : Option Bool).bind fun o2 => some o2
/-! impl_IsSquare -/
noncomputable def impl_IsSquare_L2 (p0 : S_Square) (s6 : Int) (s134 : (Int × Int × Int)) : Option ((Int × Int × Int) ⊕ (((Int × Int)) ⊕ (Unit))) :=
  if s134.2.2 < 10 then (((if p0.Order ≤ s6 then (if 0 ≤ s6 ∧ s6 < 10 then (if 0 ≤ s134.2.2 ∧ s134.2.2 < 10 then (some (decide (gv (gv p0.Table s6) s134.2.2 ≠ 0))) else none) else none) else (if p0.Order ≤ s134.2.2 then (if 0 ≤ s6 ∧ s6 < 10 then (if 0 ≤ s134.2.2 ∧ s134.2.2 < 10 then (some (decide (gv (gv p0.Table s6) s134.2.2 ≠ 0))) else none) else none) else (some false)) : Option Bool).bind fun o183 => if o183 = true then (some (.inr ())) else ((if s6 < p0.Order then (some (decide (s134.2.2 < p0.Order))) else (some false) : Option Bool).bind fun o186 => if o186 = true then ((if 0 ≤ s6 ∧ s6 < 10 then (if 0 ≤ s134.2.2 ∧ s134.2.2 < 10 then (if p0.Order ≤ IntKind.i64.wrap (gv (gv p0.Table s6) s134.2.2) then (some true) else (some (decide (p0.Order ≤ IntKind.i64.wrap (gv (gv p0.Table s134.2.2) s6))))) else none) else none : Option Bool).bind fun o191 => if o191 = true then (some (.inr ())) else (if 0 ≤ s6 ∧ s6 < 10 then (if 0 ≤ s134.2.2 ∧ s134.2.2 < 10 then (if 0 ≤ gv (gv p0.Table s6) s134.2.2 then (if 0 ≤ gv (gv p0.Table s134.2.2) s6 then (some (.inl (ior .i64 s134.1 (ishl .i64 1 (gv (gv p0.Table s6) s134.2.2)), ior .i64 s134.2.1 (ishl .i64 1 (gv (gv p0.Table s134.2.2) s6))))) else none) else none) else none) else none)) else (some (.inl (s134.1, s134.2.1)))) : Option (((Int × Int)) ⊕ (Unit))).bind fun o197 => (Sum.elim (fun o197 => some (.inl (o197.1, o197.2, IntKind.i64.wrap (s134.2.2 + 1)))) (fun o197 => some (.inr (.inr ())))) o197) else (some (.inr (.inl (s134.1, s134.2.1))))
noncomputable def impl_IsSquare_L1 (p0 : S_Square) (s6 : Int) : Option (Int ⊕ ((Unit) ⊕ (Unit))) :=
  if s6 < 10 then ((Lp.run (impl_IsSquare_L2 p0 s6) (0, 0, 0)).bind fun o135 => (Sum.elim (fun o135 => (if s6 < p0.Order then (if 0 ≤ p0.Order then (if o135.1 ≠ IntKind.i64.wrap ((ishl .i64 1 p0.Order) - 1) then (some true) else (some (decide (o135.2 ≠ IntKind.i64.wrap ((ishl .i64 1 p0.Order) - 1))))) else none) else (some false) : Option Bool).bind fun o201 => if o201 = true then (some (.inr (.inr ()))) else (some (.inl (IntKind.i64.wrap (s6 + 1))))) (fun o135 => some (.inr (.inr ())))) o135) else (some (.inr (.inl ())))
noncomputable def impl_IsSquare (p0 : S_Square) : Option Bool :=
  (impl_within p0.Order 1 10).bind fun o2 => if o2 = true then ((Lp.run (impl_IsSquare_L1 p0) 0).bind fun o7 => (Sum.elim (fun o7 => some true) (fun o7 => some false)) o7) else (some false)
/-! impl_Square_elements -/
noncomputable def impl_Square_elements_L1 (p0 : S_Square) (s3 : ((List Int) × Int)) : Option (((List Int) × Int) ⊕ (List Int)) :=
  if s3.2 < IntKind.u8.wrap p0.Order then (if s3.1.length + ([s3.2]).length ≤ 4294967296 then (some (.inl (s3.1 ++ ([s3.2]), IntKind.u8.wrap (s3.2 + 1)))) else none) else (some (.inr s3.1))
noncomputable def impl_Square_elements (p0 : S_Square) : Option (List Int) :=
  (Lp.run (impl_Square_elements_L1 p0) (([] : List Int), 0)).bind fun o4 => some o4
/-! impl_Square_isUnit -/
noncomputable def impl_Square_isUnit_L1 (p0 : S_Square) (p1 : Int) (o2 : (List Int)) (s5 : Int) : Option (Int ⊕ ((Unit) ⊕ (Unit))) :=
  if s5 < (o2.length : Int) then (if 0 ≤ s5 ∧ s5 < o2.length then ((if 0 ≤ p1 ∧ p1 < 10 then (if 0 ≤ gl o2 s5 ∧ gl o2 s5 < 10 then (if gv (gv p0.Table p1) (gl o2 s5) ≠ gl o2 s5 then (some true) else (some (decide (gv (gv p0.Table (gl o2 s5)) p1 ≠ gl o2 s5)))) else none) else none : Option Bool).bind fun o26 => if o26 = true then (some (.inr (.inr ()))) else (some (.inl (IntKind.i64.wrap (s5 + 1))))) else none) else (some (.inr (.inl ())))
noncomputable def impl_Square_isUnit (p0 : S_Square) (p1 : Int) : Option Bool :=
  (impl_Square_elements p0).bind fun o2 => (Lp.run (impl_Square_isUnit_L1 p0 p1 o2) 0).bind fun o6 => (Sum.elim (fun o6 => some true) (fun o6 => some false)) o6
/-! impl_IsLoop -/
noncomputable def impl_IsLoop (p0 : S_Square) : Option Bool :=
  ((impl_IsSquare p0).bind fun o2 => if o2 = true then ((impl_Square_isUnit p0 0).bind fun o6 => some o6) else (some false) : Option Bool).bind fun o9 => some o9
/-! impl_set_has -/
noncomputable def impl_set_has (p0 : Int) (p1 : Int) : Option Bool :=
  if 0 ≤ p1 then (some (decide (iand .i64 (ishr .i64 p0 p1) 1 = 1))) else none
/-! impl_set_list -/
noncomputable def impl_set_list_L1 (p0 : Int) (s2 : ((List Int) × Int)) : Option (((List Int) × Int) ⊕ (List Int)) :=
  if s2.2 < 10 then (((impl_set_has p0 (IntKind.u8.wrap s2.2)).bind fun o27 => if o27 = true then (if s2.1.length + ([s2.2]).length ≤ 4294967296 then (some (s2.1 ++ ([s2.2]))) else none) else (some s2.1) : Option (List Int)).bind fun o34 => some (.inl (o34, IntKind.i64.wrap (s2.2 + 1)))) else (some (.inr s2.1))
noncomputable def impl_set_list (p0 : Int) : Option (List Int) :=
  (Lp.run (impl_set_list_L1 p0) (([] : List Int), 0)).bind fun o3 => some o3
/-! impl_listsOf -/
noncomputable def impl_listsOf_L1 (p0 : (List Int)) (s2 : ((List (List Int)) × Int)) : Option (((List (List Int)) × Int) ⊕ (List (List Int))) :=
  if s2.2 < (p0.length : Int) then (if 0 ≤ s2.2 ∧ s2.2 < p0.length then ((impl_set_list (gl p0 s2.2)).bind fun o26 => if s2.1.length + 1 ≤ 4294967296 then (some (.inl (s2.1 ++ [o26], IntKind.i64.wrap (s2.2 + 1)))) else none) else none) else (some (.inr s2.1))
noncomputable def impl_listsOf (p0 : (List Int)) : Option (List (List Int)) :=
  (Lp.run (impl_listsOf_L1 p0) (([] : List (List Int)), 0)).bind fun o3 => some o3
/-! slices_IndexFunc_impl_set_impl_set -/
noncomputable def slices_IndexFunc_impl_set_impl_set_L1 (p0 : (List Int)) (f1 : (Int → Option Bool)) (s1 : Int) : Option (Int ⊕ ((Unit) ⊕ (Int))) :=
  if s1 < (p0.length : Int) then (if 0 ≤ s1 ∧ s1 < p0.length then ((f1 (gl p0 s1)).bind fun o17 => if o17 = true then (some (.inr (.inr s1))) else (some (.inl (IntKind.i64.wrap (s1 + 1))))) else none) else (some (.inr (.inl ())))
noncomputable def slices_IndexFunc_impl_set_impl_set (p0 : (List Int)) (f1 : (Int → Option Bool)) : Option Int :=
  (Lp.run (slices_IndexFunc_impl_set_impl_set_L1 p0 f1) 0).bind fun o2 => (Sum.elim (fun o2 => some (-1)) (fun o2 => some o2)) o2
/-! slices_DeleteFunc_impl_set_impl_set -/
noncomputable def slices_DeleteFunc_impl_set_impl_set_L1 (f1 : (Int → Option Bool)) (s5 : ((List Int) × Int × Int)) : Option (((List Int) × Int × Int) ⊕ ((List Int) × Int)) :=
  if s5.2.2 < (s5.1.length : Int) then ((if 0 ≤ s5.2.2 ∧ s5.2.2 < s5.1.length then ((f1 (gl s5.1 s5.2.2)).bind fun o25 => if o25 = true then (some (s5.1, s5.2.1)) else (if 0 ≤ s5.2.1 ∧ s5.2.1 < s5.1.length then (some (sls s5.1 s5.2.1 (gl s5.1 s5.2.2), IntKind.i64.wrap (s5.2.1 + 1))) else none)) else none : Option ((List Int) × Int)).bind fun o30 => some (.inl (o30.1, o30.2, IntKind.i64.wrap (s5.2.2 + 1)))) else (some (.inr (s5.1, s5.2.1)))
noncomputable def slices_DeleteFunc_impl_set_impl_set (p0 : (List Int)) (f1 : (Int → Option Bool)) : Option (List Int) :=
  (slices_IndexFunc_impl_set_impl_set p0 f1).bind fun o1 => if o1 = (-1) then (some p0) else ((Lp.run (slices_DeleteFunc_impl_set_impl_set_L1 f1) (p0, o1, IntKind.i64.wrap (o1 + 1))).bind fun o6 => if ((0 : Int) ≤ o6.2 ∧ o6.2 ≤ (o6.1.length : Int)) ∧ (o6.1.length : Int) ≤ o6.1.length then (if ((0 : Int) ≤ 0 ∧ 0 ≤ o6.2) ∧ o6.2 ≤ (clr 0 o6.1 o6.2 (o6.1.length : Int)).length then (some (subl (clr 0 o6.1 o6.2 (o6.1.length : Int)) 0 o6.2)) else none) else none)
/-! impl_Square_all -/
noncomputable def impl_Square_all (p0 : S_Square) : Option Int :=
  if 0 ≤ p0.Order then (some (IntKind.i64.wrap ((ishl .i64 1 p0.Order) - 1))) else none
/-! impl_Square_left -/
noncomputable def impl_Square_left_L1 (p0 : S_Square) (p1 : Int) (p2 : Int) (s2 : Int) : Option (Int ⊕ Int) :=
  if 0 ≤ p1 ∧ p1 < 10 then (if 0 ≤ s2 ∧ s2 < 10 then (if gv (gv p0.Table p1) s2 ≠ p2 then (some (.inl (IntKind.u8.wrap (s2 + 1)))) else (some (.inr s2))) else none) else none
noncomputable def impl_Square_left (p0 : S_Square) (p1 : Int) (p2 : Int) : Option Int :=
  (Lp.run (impl_Square_left_L1 p0 p1 p2) 0).bind fun o3 => some o3
/-! impl_Square_right -/
noncomputable def impl_Square_right_L1 (p0 : S_Square) (p1 : Int) (p2 : Int) (s2 : Int) : Option (Int ⊕ Int) :=
  if 0 ≤ s2 ∧ s2 < 10 then (if 0 ≤ p2 ∧ p2 < 10 then (if gv (gv p0.Table s2) p2 ≠ p1 then (some (.inl (IntKind.u8.wrap (s2 + 1)))) else (some (.inr s2))) else none) else none
noncomputable def impl_Square_right (p0 : S_Square) (p1 : Int) (p2 : Int) : Option Int :=
  (Lp.run (impl_Square_right_L1 p0 p1 p2) 0).bind fun o3 => some o3
/-! impl_Square_generated -/
noncomputable def impl_Square_generated_L3 (p0 : S_Square) (s2 : Int) (o472 : (List Int)) (s475 : (Int × Int)) (o631 : (List Int)) (s634 : (Int × Int)) : Option ((Int × Int) ⊕ Int) :=
  if s634.2 < (o631.length : Int) then ((if 0 ≤ s634.2 ∧ s634.2 < o631.length then (((impl_set_has s2 (gl o472 s475.2)).bind fun o684 => if o684 = true then ((impl_set_has s2 (gl o631 s634.2)).bind fun o688 => some o688) else (some false) : Option Bool).bind fun o691 => if o691 = true then (if 0 ≤ gl o472 s475.2 ∧ gl o472 s475.2 < 10 then (if 0 ≤ gl o631 s634.2 ∧ gl o631 s634.2 < 10 then (if 0 ≤ gv (gv p0.Table (gl o472 s475.2)) (gl o631 s634.2) then ((impl_Square_left p0 (gl o472 s475.2) (gl o631 s634.2)).bind fun o696 => if 0 ≤ o696 then ((impl_Square_right p0 (gl o472 s475.2) (gl o631 s634.2)).bind fun o700 => if 0 ≤ o700 then (some (ior .i64 s634.1 (ior .i64 (ior .i64 (ishl .i64 1 (gv (gv p0.Table (gl o472 s475.2)) (gl o631 s634.2))) (ishl .i64 1 o696)) (ishl .i64 1 o700)))) else none) else none) else none) else none) else none) else (some s634.1)) else none : Option Int).bind fun o704 => some (.inl (o704, IntKind.i64.wrap (s634.2 + 1)))) else (some (.inr s634.1))
noncomputable def impl_Square_generated_L2 (p0 : S_Square) (s2 : Int) (o472 : (List Int)) (s475 : (Int × Int)) : Option ((Int × Int) ⊕ Int) :=
  if s475.2 < (o472.length : Int) then (if 0 ≤ s475.2 ∧ s475.2 < o472.length then ((impl_Square_elements p0).bind fun o631 => (Lp.run (impl_Square_generated_L3 p0 s2 o472 s475 o631) (s475.1, 0)).bind fun o635 => some (.inl (o635, IntKind.i64.wrap (s475.2 + 1)))) else none) else (some (.inr s475.1))
noncomputable def impl_Square_generated_L1 (p0 : S_Square) (s2 : Int) : Option (Int ⊕ Int) :=
  (impl_Square_elements p0).bind fun o472 => (Lp.run (impl_Square_generated_L2 p0 s2 o472) (s2, 0)).bind fun o476 => if o476 = s2 then (some (.inr s2)) else (some (.inl o476))
noncomputable def impl_Square_generated (p0 : S_Square) (p1 : Int) : Option Int :=
  (Lp.run (impl_Square_generated_L1 p0) (ior .i64 p1 1)).bind fun o3 => some o3
/-! impl_Square_isSubloop -/
noncomputable def impl_Square_isSubloop (p0 : S_Square) (p1 : Int) : Option Bool :=
  (impl_Square_generated p0 p1).bind fun o2 => some (decide (o2 = p1))
/-! slices_insertionSortCmpFunc_impl_set -/
noncomputable def slices_insertionSortCmpFunc_impl_set_L2 (p1 : Int) (f3 : (Int → Int → Option Int)) (s76 : ((List Int) × Int)) : Option (((List Int) × Int) ⊕ (List Int)) :=
  (if p1 < s76.2 then (if 0 ≤ s76.2 ∧ s76.2 < s76.1.length then (if 0 ≤ IntKind.i64.wrap (s76.2 - 1) ∧ IntKind.i64.wrap (s76.2 - 1) < s76.1.length then ((f3 (gl s76.1 s76.2) (gl s76.1 (IntKind.i64.wrap (s76.2 - 1)))).bind fun o103 => some (decide (o103 < 0))) else none) else none) else (some false) : Option Bool).bind fun o106 => if o106 = true then (if 0 ≤ IntKind.i64.wrap (s76.2 - 1) ∧ IntKind.i64.wrap (s76.2 - 1) < s76.1.length then (if 0 ≤ s76.2 ∧ s76.2 < s76.1.length then (if 0 ≤ IntKind.i64.wrap (s76.2 - 1) ∧ IntKind.i64.wrap (s76.2 - 1) < (sls s76.1 s76.2 (gl s76.1 (IntKind.i64.wrap (s76.2 - 1)))).length then (some (.inl (sls (sls s76.1 s76.2 (gl s76.1 (IntKind.i64.wrap (s76.2 - 1)))) (IntKind.i64.wrap (s76.2 - 1)) (gl s76.1 s76.2), IntKind.i64.wrap (s76.2 - 1)))) else none) else none) else none) else (some (.inr s76.1))
noncomputable def slices_insertionSortCmpFunc_impl_set_L1 (p1 : Int) (p2 : Int) (f3 : (Int → Int → Option Int)) (s1 : ((List Int) × Int)) : Option (((List Int) × Int) ⊕ (List Int)) :=
  if s1.2 < p2 then ((Lp.run (slices_insertionSortCmpFunc_impl_set_L2 p1 f3) (s1.1, s1.2)).bind fun o77 => some (.inl (o77, IntKind.i64.wrap (s1.2 + 1)))) else (some (.inr s1.1))
noncomputable def slices_insertionSortCmpFunc_impl_set (p0 : (List Int)) (p1 : Int) (p2 : Int) (f3 : (Int → Int → Option Int)) : Option (List Int) :=
  (Lp.run (slices_insertionSortCmpFunc_impl_set_L1 p1 p2 f3) (p0, IntKind.i64.wrap (p1 + 1))).bind fun o2 => some o2
/-! slices_siftDownCmpFunc_impl_set -/
noncomputable def slices_siftDownCmpFunc_impl_set_L1 (p2 : Int) (p3 : Int) (f4 : (Int → Int → Option Int)) (s1 : ((List Int) × Int)) : Option (((List Int) × Int) ⊕ (((List Int)) ⊕ ((List Int)))) :=
  if p2 ≤ IntKind.i64.wrap ((IntKind.i64.wrap (2 * s1.2)) + 1) then (some (.inr (.inl s1.1))) else (((if IntKind.i64.wrap ((IntKind.i64.wrap ((IntKind.i64.wrap (2 * s1.2)) + 1)) + 1) < p2 then (if 0 ≤ IntKind.i64.wrap (p3 + (IntKind.i64.wrap ((IntKind.i64.wrap (2 * s1.2)) + 1))) ∧ IntKind.i64.wrap (p3 + (IntKind.i64.wrap ((IntKind.i64.wrap (2 * s1.2)) + 1))) < s1.1.length then (if 0 ≤ IntKind.i64.wrap ((IntKind.i64.wrap (p3 + (IntKind.i64.wrap ((IntKind.i64.wrap (2 * s1.2)) + 1)))) + 1) ∧ IntKind.i64.wrap ((IntKind.i64.wrap (p3 + (IntKind.i64.wrap ((IntKind.i64.wrap (2 * s1.2)) + 1)))) + 1) < s1.1.length then ((f4 (gl s1.1 (IntKind.i64.wrap (p3 + (IntKind.i64.wrap ((IntKind.i64.wrap (2 * s1.2)) + 1))))) (gl s1.1 (IntKind.i64.wrap ((IntKind.i64.wrap (p3 + (IntKind.i64.wrap ((IntKind.i64.wrap (2 * s1.2)) + 1)))) + 1)))).bind fun o41 => some (decide (o41 < 0))) else none) else none) else (some false) : Option Bool).bind fun o44 => if o44 = true then (some (IntKind.i64.wrap ((IntKind.i64.wrap ((IntKind.i64.wrap (2 * s1.2)) + 1)) + 1))) else (some (IntKind.i64.wrap ((IntKind.i64.wrap (2 * s1.2)) + 1))) : Option Int).bind fun o46 => if 0 ≤ IntKind.i64.wrap (p3 + s1.2) ∧ IntKind.i64.wrap (p3 + s1.2) < s1.1.length then (if 0 ≤ IntKind.i64.wrap (p3 + o46) ∧ IntKind.i64.wrap (p3 + o46) < s1.1.length then ((f4 (gl s1.1 (IntKind.i64.wrap (p3 + s1.2))) (gl s1.1 (IntKind.i64.wrap (p3 + o46)))).bind fun o49 => if o49 < 0 then (if 0 ≤ IntKind.i64.wrap (p3 + o46) ∧ IntKind.i64.wrap (p3 + o46) < (sls s1.1 (IntKind.i64.wrap (p3 + s1.2)) (gl s1.1 (IntKind.i64.wrap (p3 + o46)))).length then (some (.inl (sls (sls s1.1 (IntKind.i64.wrap (p3 + s1.2)) (gl s1.1 (IntKind.i64.wrap (p3 + o46)))) (IntKind.i64.wrap (p3 + o46)) (gl s1.1 (IntKind.i64.wrap (p3 + s1.2))), o46))) else none) else (some (.inr (.inr s1.1)))) else none) else none)
noncomputable def slices_siftDownCmpFunc_impl_set (p0 : (List Int)) (p1 : Int) (p2 : Int) (p3 : Int) (f4 : (Int → Int → Option Int)) : Option (List Int) :=
  (Lp.run (slices_siftDownCmpFunc_impl_set_L1 p2 p3 f4) (p0, p1)).bind fun o2 => (Sum.elim (fun o2 => some o2) (fun o2 => some o2)) o2
/-! slices_heapSortCmpFunc_impl_set -/
noncomputable def slices_heapSortCmpFunc_impl_set_L2 (p1 : Int) (f3 : (Int → Int → Option Int)) (s15 : ((List Int) × Int)) : Option (((List Int) × Int) ⊕ (List Int)) :=
  if 0 ≤ s15.2 then (if 0 ≤ IntKind.i64.wrap (p1 + s15.2) ∧ IntKind.i64.wrap (p1 + s15.2) < s15.1.length then (if 0 ≤ p1 ∧ p1 < s15.1.length then (if 0 ≤ IntKind.i64.wrap (p1 + s15.2) ∧ IntKind.i64.wrap (p1 + s15.2) < (sls s15.1 p1 (gl s15.1 (IntKind.i64.wrap (p1 + s15.2)))).length then ((slices_siftDownCmpFunc_impl_set (sls (sls s15.1 p1 (gl s15.1 (IntKind.i64.wrap (p1 + s15.2)))) (IntKind.i64.wrap (p1 + s15.2)) (gl s15.1 p1)) 0 s15.2 p1 f3).bind fun o35 => some (.inl (o35, IntKind.i64.wrap (s15.2 - 1)))) else none) else none) else none) else (some (.inr s15.1))
noncomputable def slices_heapSortCmpFunc_impl_set_L1 (p1 : Int) (p2 : Int) (f3 : (Int → Int → Option Int)) (s1 : ((List Int) × Int)) : Option (((List Int) × Int) ⊕ (List Int)) :=
  if 0 ≤ s1.2 then ((slices_siftDownCmpFunc_impl_set s1.1 s1.2 (IntKind.i64.wrap (p2 - p1)) p1 f3).bind fun o12 => some (.inl (o12, IntKind.i64.wrap (s1.2 - 1)))) else (some (.inr s1.1))
noncomputable def slices_heapSortCmpFunc_impl_set (p0 : (List Int)) (p1 : Int) (p2 : Int) (f3 : (Int → Int → Option Int)) : Option (List Int) :=
  (Lp.run (slices_heapSortCmpFunc_impl_set_L1 p1 p2 f3) (p0, IntKind.i64.wrap ((IntKind.i64.wrap ((IntKind.i64.wrap (p2 - p1)) - 1)).tdiv 2))).bind fun o2 => (Lp.run (slices_heapSortCmpFunc_impl_set_L2 p1 f3) (o2, IntKind.i64.wrap ((IntKind.i64.wrap (p2 - p1)) - 1))).bind fun o16 => some o16
/-! bits_Len32 -/
noncomputable def bits_Len32 (p0 : Int) : Option Int :=
  (if 65536 ≤ p0 then (some (ishr .u32 p0 16, 16)) else (some (p0, 0)) : Option (Int × Int)).bind fun o2 => (if 256 ≤ o2.1 then (some (ishr .u32 o2.1 8, IntKind.i64.wrap (o2.2 + 8))) else (some (o2.1, o2.2)) : Option (Int × Int)).bind fun o4 => if 0 ≤ IntKind.u8.wrap o4.1 ∧ IntKind.u8.wrap o4.1 < sc_0.size then (some (IntKind.i64.wrap (o4.2 + (IntKind.i64.wrap (bt sc_0 (IntKind.u8.wrap o4.1)))))) else none
/-! bits_Len64 -/
noncomputable def bits_Len64 (p0 : Int) : Option Int :=
  (if 4294967296 ≤ p0 then (some (ishr .u64 p0 32, 32)) else (some (p0, 0)) : Option (Int × Int)).bind fun o2 => (if 65536 ≤ o2.1 then (some (ishr .u64 o2.1 16, IntKind.i64.wrap (o2.2 + 16))) else (some (o2.1, o2.2)) : Option (Int × Int)).bind fun o4 => (if 256 ≤ o4.1 then (some (ishr .u64 o4.1 8, IntKind.i64.wrap (o4.2 + 8))) else (some (o4.1, o4.2)) : Option (Int × Int)).bind fun o6 => if 0 ≤ IntKind.u8.wrap o6.1 ∧ IntKind.u8.wrap o6.1 < sc_0.size then (some (IntKind.i64.wrap (o6.2 + (IntKind.i64.wrap (bt sc_0 (IntKind.u8.wrap o6.1)))))) else none
/-! bits_Len -/
noncomputable def bits_Len (p0 : Int) : Option Int :=
  (bits_Len64 p0).bind fun o1 => some o1
/-! slices_nextPowerOfTwo -/
noncomputable def slices_nextPowerOfTwo (p0 : Int) : Option Int :=
  (bits_Len (IntKind.u64.wrap p0)).bind fun o1 => if 0 ≤ o1 then (some (ishl .u64 1 o1)) else none
/-! slices_xorshift_Next -/
noncomputable def slices_xorshift_Next (p0 : Int) : Option (Int × Int) :=
  some (ixor .u64 (ixor .u64 (ixor .u64 p0 (ishl .u64 p0 13)) (ishr .u64 (ixor .u64 p0 (ishl .u64 p0 13)) 7)) (ishl .u64 (ixor .u64 (ixor .u64 p0 (ishl .u64 p0 13)) (ishr .u64 (ixor .u64 p0 (ishl .u64 p0 13)) 7)) 17), ixor .u64 (ixor .u64 (ixor .u64 p0 (ishl .u64 p0 13)) (ishr .u64 (ixor .u64 p0 (ishl .u64 p0 13)) 7)) (ishl .u64 (ixor .u64 (ixor .u64 p0 (ishl .u64 p0 13)) (ishr .u64 (ixor .u64 p0 (ishl .u64 p0 13)) 7)) 17))
/-! slices_breakPatternsCmpFunc_impl_set -/
noncomputable def slices_breakPatternsCmpFunc_impl_set_L1 (p1 : Int) (p2 : Int) (o3 : Int) (s6 : (Int × (List Int) × Int)) : Option ((Int × (List Int) × Int) ⊕ (List Int)) :=
  if s6.2.2 ≤ IntKind.i64.wrap ((IntKind.i64.wrap (p1 + (IntKind.i64.wrap ((IntKind.i64.wrap ((IntKind.i64.wrap (p2 - p1)).tdiv 4)) * 2)))) + 1) then ((slices_xorshift_Next s6.1).bind fun o27 => (if IntKind.i64.wrap (p2 - p1) ≤ IntKind.i64.wrap (iand .u64 o27.1 (IntKind.u64.wrap (o3 - 1))) then (some (IntKind.i64.wrap ((IntKind.i64.wrap (iand .u64 o27.1 (IntKind.u64.wrap (o3 - 1)))) - (IntKind.i64.wrap (p2 - p1))))) else (some (IntKind.i64.wrap (iand .u64 o27.1 (IntKind.u64.wrap (o3 - 1))))) : Option Int).bind fun o31 => if 0 ≤ IntKind.i64.wrap (p1 + o31) ∧ IntKind.i64.wrap (p1 + o31) < s6.2.1.length then (if 0 ≤ s6.2.2 ∧ s6.2.2 < s6.2.1.length then (if 0 ≤ IntKind.i64.wrap (p1 + o31) ∧ IntKind.i64.wrap (p1 + o31) < (sls s6.2.1 s6.2.2 (gl s6.2.1 (IntKind.i64.wrap (p1 + o31)))).length then (some (.inl (o27.2, sls (sls s6.2.1 s6.2.2 (gl s6.2.1 (IntKind.i64.wrap (p1 + o31)))) (IntKind.i64.wrap (p1 + o31)) (gl s6.2.1 s6.2.2), IntKind.i64.wrap (s6.2.2 + 1)))) else none) else none) else none) else (some (.inr s6.2.1))
noncomputable def slices_breakPatternsCmpFunc_impl_set (p0 : (List Int)) (p1 : Int) (p2 : Int) (f3 : (Int → Int → Option Int)) : Option (List Int) :=
  if 8 ≤ IntKind.i64.wrap (p2 - p1) then ((slices_nextPowerOfTwo (IntKind.i64.wrap (p2 - p1))).bind fun o3 => (Lp.run (slices_breakPatternsCmpFunc_impl_set_L1 p1 p2 o3) (IntKind.u64.wrap (IntKind.i64.wrap (p2 - p1)), p0, IntKind.i64.wrap ((IntKind.i64.wrap (p1 + (IntKind.i64.wrap ((IntKind.i64.wrap ((IntKind.i64.wrap (p2 - p1)).tdiv 4)) * 2)))) - 1))).bind fun o7 => some o7) else (some p0)
/-! slices_order2CmpFunc_impl_set -/
noncomputable def slices_order2CmpFunc_impl_set (p0 : (List Int)) (p1 : Int) (p2 : Int) (p3 : Int) (f4 : (Int → Int → Option Int)) : Option (Int × Int × Int) :=
  if 0 ≤ p2 ∧ p2 < p0.length then (if 0 ≤ p1 ∧ p1 < p0.length then ((f4 (gl p0 p2) (gl p0 p1)).bind fun o3 => if o3 < 0 then (some (p2, p1, IntKind.i64.wrap (p3 + 1))) else (some (p1, p2, p3))) else none) else none
/-! slices_medianCmpFunc_impl_set -/
noncomputable def slices_medianCmpFunc_impl_set (p0 : (List Int)) (p1 : Int) (p2 : Int) (p3 : Int) (p4 : Int) (f5 : (Int → Int → Option Int)) : Option (Int × Int) :=
  (slices_order2CmpFunc_impl_set p0 p1 p2 p4 f5).bind fun o1 => (slices_order2CmpFunc_impl_set p0 o1.2.1 p3 o1.2.2 f5).bind fun o4 => (slices_order2CmpFunc_impl_set p0 o1.1 o4.1 o4.2.2 f5).bind fun o7 => some (o7.2.1, o7.2.2)
/-! slices_medianAdjacentCmpFunc_impl_set -/
noncomputable def slices_medianAdjacentCmpFunc_impl_set (p0 : (List Int)) (p1 : Int) (p2 : Int) (f3 : (Int → Int → Option Int)) : Option (Int × Int) :=
  (slices_medianCmpFunc_impl_set p0 (IntKind.i64.wrap (p1 - 1)) p1 (IntKind.i64.wrap (p1 + 1)) p2 f3).bind fun o1 => some (o1.1, o1.2)
/-! slices_choosePivotCmpFunc_impl_set -/
noncomputable def slices_choosePivotCmpFunc_impl_set (p0 : (List Int)) (p1 : Int) (p2 : Int) (f3 : (Int → Int → Option Int)) : Option (Int × Int) :=
  (if 8 ≤ IntKind.i64.wrap (p2 - p1) then ((if 50 ≤ IntKind.i64.wrap (p2 - p1) then ((slices_medianAdjacentCmpFunc_impl_set p0 (IntKind.i64.wrap (p1 + (IntKind.i64.wrap ((IntKind.i64.wrap ((IntKind.i64.wrap (p2 - p1)).tdiv 4)) * 1)))) 0 f3).bind fun o4 => (slices_medianAdjacentCmpFunc_impl_set p0 (IntKind.i64.wrap (p1 + (IntKind.i64.wrap ((IntKind.i64.wrap ((IntKind.i64.wrap (p2 - p1)).tdiv 4)) * 2)))) o4.2 f3).bind fun o7 => (slices_medianAdjacentCmpFunc_impl_set p0 (IntKind.i64.wrap (p1 + (IntKind.i64.wrap ((IntKind.i64.wrap ((IntKind.i64.wrap (p2 - p1)).tdiv 4)) * 3)))) o7.2 f3).bind fun o10 => some (o10.2, o4.1, o7.1, o10.1)) else (some (0, IntKind.i64.wrap (p1 + (IntKind.i64.wrap ((IntKind.i64.wrap ((IntKind.i64.wrap (p2 - p1)).tdiv 4)) * 1))), IntKind.i64.wrap (p1 + (IntKind.i64.wrap ((IntKind.i64.wrap ((IntKind.i64.wrap (p2 - p1)).tdiv 4)) * 2))), IntKind.i64.wrap (p1 + (IntKind.i64.wrap ((IntKind.i64.wrap ((IntKind.i64.wrap (p2 - p1)).tdiv 4)) * 3))))) : Option (Int × Int × Int × Int)).bind fun o13 => (slices_medianCmpFunc_impl_set p0 o13.2.1 o13.2.2.1 o13.2.2.2 o13.1 f3).bind fun o14 => some (o14.2, o14.1)) else (some (0, IntKind.i64.wrap (p1 + (IntKind.i64.wrap ((IntKind.i64.wrap ((IntKind.i64.wrap (p2 - p1)).tdiv 4)) * 2))))) : Option (Int × Int)).bind fun o17 => if o17.1 = 0 then (some (o17.2, 1)) else (if o17.1 = 12 then (some (o17.2, 2)) else (some (o17.2, 0)))
/-! slices_reverseRangeCmpFunc_impl_set -/
noncomputable def slices_reverseRangeCmpFunc_impl_set_L1  (s1 : ((List Int) × Int × Int)) : Option (((List Int) × Int × Int) ⊕ (List Int)) :=
  if s1.2.1 < s1.2.2 then (if 0 ≤ s1.2.2 ∧ s1.2.2 < s1.1.length then (if 0 ≤ s1.2.1 ∧ s1.2.1 < s1.1.length then (if 0 ≤ s1.2.2 ∧ s1.2.2 < (sls s1.1 s1.2.1 (gl s1.1 s1.2.2)).length then (some (.inl (sls (sls s1.1 s1.2.1 (gl s1.1 s1.2.2)) s1.2.2 (gl s1.1 s1.2.1), IntKind.i64.wrap (s1.2.1 + 1), IntKind.i64.wrap (s1.2.2 - 1)))) else none) else none) else none) else (some (.inr s1.1))
noncomputable def slices_reverseRangeCmpFunc_impl_set (p0 : (List Int)) (p1 : Int) (p2 : Int) (f3 : (Int → Int → Option Int)) : Option (List Int) :=
  (Lp.run slices_reverseRangeCmpFunc_impl_set_L1 (p0, p1, IntKind.i64.wrap (p2 - 1))).bind fun o2 => some o2
/-! slices_partialInsertionSortCmpFunc_impl_set -/
noncomputable def slices_partialInsertionSortCmpFunc_impl_set_L3 (f3 : (Int → Int → Option Int)) (s212 : ((List Int) × Int)) : Option (((List Int) × Int) ⊕ (List Int)) :=
  if 1 ≤ s212.2 then (if 0 ≤ s212.2 ∧ s212.2 < s212.1.length then (if 0 ≤ IntKind.i64.wrap (s212.2 - 1) ∧ IntKind.i64.wrap (s212.2 - 1) < s212.1.length then ((f3 (gl s212.1 s212.2) (gl s212.1 (IntKind.i64.wrap (s212.2 - 1)))).bind fun o233 => if o233 < 0 then (if 0 ≤ IntKind.i64.wrap (s212.2 - 1) ∧ IntKind.i64.wrap (s212.2 - 1) < (sls s212.1 s212.2 (gl s212.1 (IntKind.i64.wrap (s212.2 - 1)))).length then (some (.inl (sls (sls s212.1 s212.2 (gl s212.1 (IntKind.i64.wrap (s212.2 - 1)))) (IntKind.i64.wrap (s212.2 - 1)) (gl s212.1 s212.2), IntKind.i64.wrap (s212.2 - 1)))) else none) else (some (.inr s212.1))) else none) else none) else (some (.inr s212.1))
noncomputable def slices_partialInsertionSortCmpFunc_impl_set_L4 (p2 : Int) (f3 : (Int → Int → Option Int)) (s240 : ((List Int) × Int)) : Option (((List Int) × Int) ⊕ (List Int)) :=
  if s240.2 < p2 then (if 0 ≤ s240.2 ∧ s240.2 < s240.1.length then (if 0 ≤ IntKind.i64.wrap (s240.2 - 1) ∧ IntKind.i64.wrap (s240.2 - 1) < s240.1.length then ((f3 (gl s240.1 s240.2) (gl s240.1 (IntKind.i64.wrap (s240.2 - 1)))).bind fun o261 => if o261 < 0 then (if 0 ≤ IntKind.i64.wrap (s240.2 - 1) ∧ IntKind.i64.wrap (s240.2 - 1) < (sls s240.1 s240.2 (gl s240.1 (IntKind.i64.wrap (s240.2 - 1)))).length then (some (.inl (sls (sls s240.1 s240.2 (gl s240.1 (IntKind.i64.wrap (s240.2 - 1)))) (IntKind.i64.wrap (s240.2 - 1)) (gl s240.1 s240.2), IntKind.i64.wrap (s240.2 + 1)))) else none) else (some (.inr s240.1))) else none) else none) else (some (.inr s240.1))
noncomputable def slices_partialInsertionSortCmpFunc_impl_set_L2 (p2 : Int) (s1 : ((List Int) × Int × Int)) (f3 : (Int → Int → Option Int)) (s180 : Int) : Option (Int ⊕ Int) :=
  (if s180 < p2 then (if 0 ≤ s180 ∧ s180 < s1.1.length then (if 0 ≤ IntKind.i64.wrap (s180 - 1) ∧ IntKind.i64.wrap (s180 - 1) < s1.1.length then ((f3 (gl s1.1 s180) (gl s1.1 (IntKind.i64.wrap (s180 - 1)))).bind fun o201 => some (!(decide (o201 < 0)))) else none) else none) else (some false) : Option Bool).bind fun o204 => if o204 = true then (some (.inl (IntKind.i64.wrap (s180 + 1)))) else (some (.inr s180))
noncomputable def slices_partialInsertionSortCmpFunc_impl_set_L1 (p1 : Int) (p2 : Int) (f3 : (Int → Int → Option Int)) (s1 : ((List Int) × Int × Int)) : Option (((List Int) × Int × Int) ⊕ (((List Int)) ⊕ (((List Int) × Bool)))) :=
  if s1.2.2 < 5 then (((Lp.run (slices_partialInsertionSortCmpFunc_impl_set_L2 p2 s1 f3) s1.2.1).bind fun o181 => if o181 = p2 then (some (.inr true)) else (if IntKind.i64.wrap (p2 - p1) < 50 then (some (.inr false)) else (if 0 ≤ IntKind.i64.wrap (o181 - 1) ∧ IntKind.i64.wrap (o181 - 1) < s1.1.length then (if 0 ≤ o181 ∧ o181 < s1.1.length then (if 0 ≤ IntKind.i64.wrap (o181 - 1) ∧ IntKind.i64.wrap (o181 - 1) < (sls s1.1 o181 (gl s1.1 (IntKind.i64.wrap (o181 - 1)))).length then ((if 2 ≤ IntKind.i64.wrap (o181 - p1) then ((Lp.run (slices_partialInsertionSortCmpFunc_impl_set_L3 f3) (sls (sls s1.1 o181 (gl s1.1 (IntKind.i64.wrap (o181 - 1)))) (IntKind.i64.wrap (o181 - 1)) (gl s1.1 o181), IntKind.i64.wrap (o181 - 1))).bind fun o213 => some o213) else (some (sls (sls s1.1 o181 (gl s1.1 (IntKind.i64.wrap (o181 - 1)))) (IntKind.i64.wrap (o181 - 1)) (gl s1.1 o181))) : Option (List Int)).bind fun o238 => if 2 ≤ IntKind.i64.wrap (p2 - o181) then ((Lp.run (slices_partialInsertionSortCmpFunc_impl_set_L4 p2 f3) (o238, IntKind.i64.wrap (o181 + 1))).bind fun o241 => some (.inl (o241, o181))) else (some (.inl (o238, o181)))) else none) else none) else none)) : Option ((((List Int) × Int)) ⊕ (Bool))).bind fun o266 => (Sum.elim (fun o266 => some (.inl (o266.1, o266.2, IntKind.i64.wrap (s1.2.2 + 1)))) (fun o266 => some (.inr (.inr (s1.1, o266))))) o266) else (some (.inr (.inl s1.1)))
noncomputable def slices_partialInsertionSortCmpFunc_impl_set (p0 : (List Int)) (p1 : Int) (p2 : Int) (f3 : (Int → Int → Option Int)) : Option (Bool × (List Int)) :=
  (Lp.run (slices_partialInsertionSortCmpFunc_impl_set_L1 p1 p2 f3) (p0, IntKind.i64.wrap (p1 + 1), 0)).bind fun o2 => (Sum.elim (fun o2 => some (false, o2)) (fun o2 => some (o2.2, o2.1))) o2
/-! slices_partitionEqualCmpFunc_impl_set -/
noncomputable def slices_partitionEqualCmpFunc_impl_set_L3 (p1 : Int) (s4 : ((List Int) × Int × Int)) (o119 : Int) (f4 : (Int → Int → Option Int)) (s144 : Int) : Option (Int ⊕ Int) :=
  (if o119 ≤ s144 then (if 0 ≤ p1 ∧ p1 < s4.1.length then (if 0 ≤ s144 ∧ s144 < s4.1.length then ((f4 (gl s4.1 p1) (gl s4.1 s144)).bind fun o165 => some (decide (o165 < 0))) else none) else none) else (some false) : Option Bool).bind fun o168 => if o168 = true then (some (.inl (IntKind.i64.wrap (s144 - 1)))) else (some (.inr s144))
noncomputable def slices_partitionEqualCmpFunc_impl_set_L2 (p1 : Int) (s4 : ((List Int) × Int × Int)) (f4 : (Int → Int → Option Int)) (s118 : Int) : Option (Int ⊕ Int) :=
  (if s118 ≤ s4.2.2 then (if 0 ≤ p1 ∧ p1 < s4.1.length then (if 0 ≤ s118 ∧ s118 < s4.1.length then ((f4 (gl s4.1 p1) (gl s4.1 s118)).bind fun o139 => some (!(decide (o139 < 0)))) else none) else none) else (some false) : Option Bool).bind fun o142 => if o142 = true then (some (.inl (IntKind.i64.wrap (s118 + 1)))) else (some (.inr s118))
noncomputable def slices_partitionEqualCmpFunc_impl_set_L1 (p1 : Int) (f4 : (Int → Int → Option Int)) (s4 : ((List Int) × Int × Int)) : Option (((List Int) × Int × Int) ⊕ ((List Int) × Int)) :=
  (Lp.run (slices_partitionEqualCmpFunc_impl_set_L2 p1 s4 f4) s4.2.1).bind fun o119 => (Lp.run (slices_partitionEqualCmpFunc_impl_set_L3 p1 s4 o119 f4) s4.2.2).bind fun o145 => if o145 < o119 then (some (.inr (s4.1, o119))) else (if 0 ≤ o145 ∧ o145 < s4.1.length then (if 0 ≤ o119 ∧ o119 < s4.1.length then (if 0 ≤ o145 ∧ o145 < (sls s4.1 o119 (gl s4.1 o145)).length then (some (.inl (sls (sls s4.1 o119 (gl s4.1 o145)) o145 (gl s4.1 o119), IntKind.i64.wrap (o119 + 1), IntKind.i64.wrap (o145 - 1)))) else none) else none) else none)
noncomputable def slices_partitionEqualCmpFunc_impl_set (p0 : (List Int)) (p1 : Int) (p2 : Int) (p3 : Int) (f4 : (Int → Int → Option Int)) : Option (Int × (List Int)) :=
  if 0 ≤ p3 ∧ p3 < p0.length then (if 0 ≤ p1 ∧ p1 < p0.length then (if 0 ≤ p3 ∧ p3 < (sls p0 p1 (gl p0 p3)).length then ((Lp.run (slices_partitionEqualCmpFunc_impl_set_L1 p1 f4) (sls (sls p0 p1 (gl p0 p3)) p3 (gl p0 p1), IntKind.i64.wrap (p1 + 1), IntKind.i64.wrap (p2 - 1))).bind fun o5 => some (o5.2, o5.1)) else none) else none) else none
/-! slices_partitionCmpFunc_impl_set -/
noncomputable def slices_partitionCmpFunc_impl_set_L5 (p1 : Int) (s63 : ((List Int) × Int × Int)) (o178 : Int) (f4 : (Int → Int → Option Int)) (s203 : Int) : Option (Int ⊕ Int) :=
  (if o178 ≤ s203 then (if 0 ≤ s203 ∧ s203 < s63.1.length then (if 0 ≤ p1 ∧ p1 < s63.1.length then ((f4 (gl s63.1 s203) (gl s63.1 p1)).bind fun o224 => some (!(decide (o224 < 0)))) else none) else none) else (some false) : Option Bool).bind fun o227 => if o227 = true then (some (.inl (IntKind.i64.wrap (s203 - 1)))) else (some (.inr s203))
noncomputable def slices_partitionCmpFunc_impl_set_L4 (p1 : Int) (s63 : ((List Int) × Int × Int)) (f4 : (Int → Int → Option Int)) (s177 : Int) : Option (Int ⊕ Int) :=
  (if s177 ≤ s63.2.2 then (if 0 ≤ s177 ∧ s177 < s63.1.length then (if 0 ≤ p1 ∧ p1 < s63.1.length then ((f4 (gl s63.1 s177) (gl s63.1 p1)).bind fun o198 => some (decide (o198 < 0))) else none) else none) else (some false) : Option Bool).bind fun o201 => if o201 = true then (some (.inl (IntKind.i64.wrap (s177 + 1)))) else (some (.inr s177))
noncomputable def slices_partitionCmpFunc_impl_set_L3 (p1 : Int) (f4 : (Int → Int → Option Int)) (s63 : ((List Int) × Int × Int)) : Option (((List Int) × Int × Int) ⊕ ((List Int) × Int)) :=
  (Lp.run (slices_partitionCmpFunc_impl_set_L4 p1 s63 f4) s63.2.1).bind fun o178 => (Lp.run (slices_partitionCmpFunc_impl_set_L5 p1 s63 o178 f4) s63.2.2).bind fun o204 => if o204 < o178 then (some (.inr (s63.1, o204))) else (if 0 ≤ o204 ∧ o204 < s63.1.length then (if 0 ≤ o178 ∧ o178 < s63.1.length then (if 0 ≤ o204 ∧ o204 < (sls s63.1 o178 (gl s63.1 o204)).length then (some (.inl (sls (sls s63.1 o178 (gl s63.1 o204)) o204 (gl s63.1 o178), IntKind.i64.wrap (o178 + 1), IntKind.i64.wrap (o204 - 1)))) else none) else none) else none)
noncomputable def slices_partitionCmpFunc_impl_set_L2 (p0 : (List Int)) (p1 : Int) (p3 : Int) (o5 : Int) (f4 : (Int → Int → Option Int)) (s30 : Int) : Option (Int ⊕ Int) :=
  (if o5 ≤ s30 then (if 0 ≤ s30 ∧ s30 < (sls (sls p0 p1 (gl p0 p3)) p3 (gl p0 p1)).length then (if 0 ≤ p1 ∧ p1 < (sls (sls p0 p1 (gl p0 p3)) p3 (gl p0 p1)).length then ((f4 (gl (sls (sls p0 p1 (gl p0 p3)) p3 (gl p0 p1)) s30) (gl (sls (sls p0 p1 (gl p0 p3)) p3 (gl p0 p1)) p1)).bind fun o51 => some (!(decide (o51 < 0)))) else none) else none) else (some false) : Option Bool).bind fun o54 => if o54 = true then (some (.inl (IntKind.i64.wrap (s30 - 1)))) else (some (.inr s30))
noncomputable def slices_partitionCmpFunc_impl_set_L1 (p0 : (List Int)) (p1 : Int) (p2 : Int) (p3 : Int) (f4 : (Int → Int → Option Int)) (s4 : Int) : Option (Int ⊕ Int) :=
  (if s4 ≤ IntKind.i64.wrap (p2 - 1) then (if 0 ≤ s4 ∧ s4 < (sls (sls p0 p1 (gl p0 p3)) p3 (gl p0 p1)).length then (if 0 ≤ p1 ∧ p1 < (sls (sls p0 p1 (gl p0 p3)) p3 (gl p0 p1)).length then ((f4 (gl (sls (sls p0 p1 (gl p0 p3)) p3 (gl p0 p1)) s4) (gl (sls (sls p0 p1 (gl p0 p3)) p3 (gl p0 p1)) p1)).bind fun o25 => some (decide (o25 < 0))) else none) else none) else (some false) : Option Bool).bind fun o28 => if o28 = true then (some (.inl (IntKind.i64.wrap (s4 + 1)))) else (some (.inr s4))
noncomputable def slices_partitionCmpFunc_impl_set (p0 : (List Int)) (p1 : Int) (p2 : Int) (p3 : Int) (f4 : (Int → Int → Option Int)) : Option (Int × Bool × (List Int)) :=
  if 0 ≤ p3 ∧ p3 < p0.length then (if 0 ≤ p1 ∧ p1 < p0.length then (if 0 ≤ p3 ∧ p3 < (sls p0 p1 (gl p0 p3)).length then ((Lp.run (slices_partitionCmpFunc_impl_set_L1 p0 p1 p2 p3 f4) (IntKind.i64.wrap (p1 + 1))).bind fun o5 => (Lp.run (slices_partitionCmpFunc_impl_set_L2 p0 p1 p3 o5 f4) (IntKind.i64.wrap (p2 - 1))).bind fun o31 => if o31 < o5 then (if 0 ≤ p1 ∧ p1 < (sls (sls p0 p1 (gl p0 p3)) p3 (gl p0 p1)).length then (if 0 ≤ o31 ∧ o31 < (sls (sls p0 p1 (gl p0 p3)) p3 (gl p0 p1)).length then (if 0 ≤ p1 ∧ p1 < (sls (sls (sls p0 p1 (gl p0 p3)) p3 (gl p0 p1)) o31 (gl (sls (sls p0 p1 (gl p0 p3)) p3 (gl p0 p1)) p1)).length then (some (o31, true, sls (sls (sls (sls p0 p1 (gl p0 p3)) p3 (gl p0 p1)) o31 (gl (sls (sls p0 p1 (gl p0 p3)) p3 (gl p0 p1)) p1)) p1 (gl (sls (sls p0 p1 (gl p0 p3)) p3 (gl p0 p1)) o31))) else none) else none) else none) else (if 0 ≤ o31 ∧ o31 < (sls (sls p0 p1 (gl p0 p3)) p3 (gl p0 p1)).length then (if 0 ≤ o5 ∧ o5 < (sls (sls p0 p1 (gl p0 p3)) p3 (gl p0 p1)).length then (if 0 ≤ o31 ∧ o31 < (sls (sls (sls p0 p1 (gl p0 p3)) p3 (gl p0 p1)) o5 (gl (sls (sls p0 p1 (gl p0 p3)) p3 (gl p0 p1)) o31)).length then ((Lp.run (slices_partitionCmpFunc_impl_set_L3 p1 f4) (sls (sls (sls (sls p0 p1 (gl p0 p3)) p3 (gl p0 p1)) o5 (gl (sls (sls p0 p1 (gl p0 p3)) p3 (gl p0 p1)) o31)) o31 (gl (sls (sls p0 p1 (gl p0 p3)) p3 (gl p0 p1)) o5), IntKind.i64.wrap (o5 + 1), IntKind.i64.wrap (o31 - 1))).bind fun o64 => if 0 ≤ p1 ∧ p1 < o64.1.length then (if 0 ≤ o64.2 ∧ o64.2 < o64.1.length then (if 0 ≤ p1 ∧ p1 < (sls o64.1 o64.2 (gl o64.1 p1)).length then (some (o64.2, false, sls (sls o64.1 o64.2 (gl o64.1 p1)) p1 (gl o64.1 o64.2))) else none) else none) else none) else none) else none) else none)) else none) else none) else none
/-! slices_pdqsortCmpFunc_impl_set -/
noncomputable def slices_pdqsortCmpFunc_impl_set_L1 (f4 : (Int → Int → Option Int)) (rf49 : ((List Int) → Int → Int → Int → (Int → Int → Option Int) → Option (List Int))) (s1 : ((List Int) × Int × Int × Int × Bool × Bool)) : Option (((List Int) × Int × Int × Int × Bool × Bool) ⊕ (List Int)) :=
  if IntKind.i64.wrap (s1.2.2.1 - s1.2.1) ≤ 12 then ((slices_insertionSortCmpFunc_impl_set s1.1 s1.2.1 s1.2.2.1 f4).bind fun o149 => some (.inr o149)) else (if s1.2.2.2.1 = 0 then ((slices_heapSortCmpFunc_impl_set s1.1 s1.2.1 s1.2.2.1 f4).bind fun o153 => some (.inr o153)) else ((if s1.2.2.2.2.1 = true then (some (s1.1, s1.2.2.2.1)) else ((slices_breakPatternsCmpFunc_impl_set s1.1 s1.2.1 s1.2.2.1 f4).bind fun o157 => some (o157, IntKind.i64.wrap (s1.2.2.2.1 - 1))) : Option ((List Int) × Int)).bind fun o160 => (slices_choosePivotCmpFunc_impl_set o160.1 s1.2.1 s1.2.2.1 f4).bind fun o161 => (if o161.2 = 2 then ((slices_reverseRangeCmpFunc_impl_set o160.1 s1.2.1 s1.2.2.1 f4).bind fun o165 => some (o165, IntKind.i64.wrap ((IntKind.i64.wrap (s1.2.2.1 - 1)) - (IntKind.i64.wrap (o161.1 - s1.2.1))), 1)) else (some (o160.1, o161.1, o161.2)) : Option ((List Int) × Int × Int)).bind fun o168 => ((if s1.2.2.2.2.1 = true then (if s1.2.2.2.2.2 = true then (some (decide (o168.2.2 = 1))) else (some false)) else (some false) : Option Bool).bind fun o171 => if o171 = true then ((slices_partialInsertionSortCmpFunc_impl_set o168.1 s1.2.1 s1.2.2.1 f4).bind fun o173 => if o173.1 = true then (some (.inr o173.2)) else (some (.inl o173.2))) else (some (.inl o168.1)) : Option (((List Int)) ⊕ ((List Int)))).bind fun o177 => (Sum.elim (fun o177 => (if 0 < s1.2.1 then (if 0 ≤ IntKind.i64.wrap (s1.2.1 - 1) ∧ IntKind.i64.wrap (s1.2.1 - 1) < o177.length then (if 0 ≤ o168.2.1 ∧ o168.2.1 < o177.length then ((f4 (gl o177 (IntKind.i64.wrap (s1.2.1 - 1))) (gl o177 o168.2.1)).bind fun o181 => some (!(decide (o181 < 0)))) else none) else none) else (some false) : Option Bool).bind fun o184 => if o184 = true then ((slices_partitionEqualCmpFunc_impl_set o177 s1.2.1 s1.2.2.1 o168.2.1 f4).bind fun o186 => some (.inl (o186.2, o186.1, s1.2.2.1, o160.2, s1.2.2.2.2.1, s1.2.2.2.2.2))) else ((slices_partitionCmpFunc_impl_set o177 s1.2.1 s1.2.2.1 o168.2.1 f4).bind fun o189 => if IntKind.i64.wrap (o189.1 - s1.2.1) < IntKind.i64.wrap (s1.2.2.1 - o189.1) then ((rf49 o189.2.2 s1.2.1 o189.1 o160.2 f4).bind fun o193 => some (.inl (o193, IntKind.i64.wrap (o189.1 + 1), s1.2.2.1, o160.2, (decide (IntKind.i64.wrap ((IntKind.i64.wrap (s1.2.2.1 - s1.2.1)).tdiv 8) ≤ IntKind.i64.wrap (o189.1 - s1.2.1))), o189.2.1))) else ((rf49 o189.2.2 (IntKind.i64.wrap (o189.1 + 1)) s1.2.2.1 o160.2 f4).bind fun o196 => some (.inl (o196, s1.2.1, o189.1, o160.2, (decide (IntKind.i64.wrap ((IntKind.i64.wrap (s1.2.2.1 - s1.2.1)).tdiv 8) ≤ IntKind.i64.wrap (s1.2.2.1 - o189.1))), o189.2.1))))) (fun o177 => some (.inr o177))) o177))
noncomputable def slices_pdqsortCmpFunc_impl_set_B (rf49 : (List Int) → Int → Int → Int → (Int → Int → Option Int) → Option (List Int)) (p0 : (List Int)) (p1 : Int) (p2 : Int) (p3 : Int) (f4 : (Int → Int → Option Int)) : Option (List Int) :=
  (Lp.run (slices_pdqsortCmpFunc_impl_set_L1 f4 rf49) (p0, p1, p2, p3, true, true)).bind fun o2 => some o2
noncomputable def slices_pdqsortCmpFunc_impl_set_n : Nat → (List Int) → Int → Int → Int → (Int → Int → Option Int) → Option (List Int)
  | 0 => (fun _ _ _ _ _ => none)
  | n + 1 => slices_pdqsortCmpFunc_impl_set_B (slices_pdqsortCmpFunc_impl_set_n n)
noncomputable def slices_pdqsortCmpFunc_impl_set (p0 : (List Int)) (p1 : Int) (p2 : Int) (p3 : Int) (f4 : (Int → Int → Option Int)) : Option (List Int) := slices_pdqsortCmpFunc_impl_set_n fuel p0 p1 p2 p3 f4
/-! slices_SortFunc_impl_set_impl_set -/
noncomputable def slices_SortFunc_impl_set_impl_set (p0 : (List Int)) (f1 : (Int → Int → Option Int)) : Option (List Int) :=
  (bits_Len (IntKind.u64.wrap (p0.length : Int))).bind fun o1 => (slices_pdqsortCmpFunc_impl_set p0 0 (p0.length : Int) o1 f1).bind fun o4 => some o4
/-! bits_OnesCount32 -/
noncomputable def bits_OnesCount32 (p0 : Int) : Option Int :=
  if 0 ≤ ishr .u32 p0 24 ∧ ishr .u32 p0 24 < sc_1.size then (if 0 ≤ iand .u32 (ishr .u32 p0 16) 255 ∧ iand .u32 (ishr .u32 p0 16) 255 < sc_1.size then (if 0 ≤ iand .u32 (ishr .u32 p0 8) 255 ∧ iand .u32 (ishr .u32 p0 8) 255 < sc_1.size then (if 0 ≤ iand .u32 p0 255 ∧ iand .u32 p0 255 < sc_1.size then (some (IntKind.i64.wrap (IntKind.u8.wrap ((IntKind.u8.wrap ((IntKind.u8.wrap ((bt sc_1 (ishr .u32 p0 24)) + (bt sc_1 (iand .u32 (ishr .u32 p0 16) 255)))) + (bt sc_1 (iand .u32 (ishr .u32 p0 8) 255)))) + (bt sc_1 (iand .u32 p0 255)))))) else none) else none) else none) else none
/-! bits_OnesCount64 -/
noncomputable def bits_OnesCount64 (p0 : Int) : Option Int :=
  some (iand .i64 (IntKind.i64.wrap (IntKind.u64.wrap ((IntKind.u64.wrap ((IntKind.u64.wrap ((iand .u64 (IntKind.u64.wrap ((ishr .u64 (IntKind.u64.wrap ((iand .u64 (ishr .u64 (IntKind.u64.wrap ((iand .u64 (ishr .u64 p0 1) 6148914691236517205) + (iand .u64 p0 6148914691236517205))) 2) 3689348814741910323) + (iand .u64 (IntKind.u64.wrap ((iand .u64 (ishr .u64 p0 1) 6148914691236517205) + (iand .u64 p0 6148914691236517205))) 3689348814741910323))) 4) + (IntKind.u64.wrap ((iand .u64 (ishr .u64 (IntKind.u64.wrap ((iand .u64 (ishr .u64 p0 1) 6148914691236517205) + (iand .u64 p0 6148914691236517205))) 2) 3689348814741910323) + (iand .u64 (IntKind.u64.wrap ((iand .u64 (ishr .u64 p0 1) 6148914691236517205) + (iand .u64 p0 6148914691236517205))) 3689348814741910323))))) 1085102592571150095) + (ishr .u64 (iand .u64 (IntKind.u64.wrap ((ishr .u64 (IntKind.u64.wrap ((iand .u64 (ishr .u64 (IntKind.u64.wrap ((iand .u64 (ishr .u64 p0 1) 6148914691236517205) + (iand .u64 p0 6148914691236517205))) 2) 3689348814741910323) + (iand .u64 (IntKind.u64.wrap ((iand .u64 (ishr .u64 p0 1) 6148914691236517205) + (iand .u64 p0 6148914691236517205))) 3689348814741910323))) 4) + (IntKind.u64.wrap ((iand .u64 (ishr .u64 (IntKind.u64.wrap ((iand .u64 (ishr .u64 p0 1) 6148914691236517205) + (iand .u64 p0 6148914691236517205))) 2) 3689348814741910323) + (iand .u64 (IntKind.u64.wrap ((iand .u64 (ishr .u64 p0 1) 6148914691236517205) + (iand .u64 p0 6148914691236517205))) 3689348814741910323))))) 1085102592571150095) 8))) + (ishr .u64 (IntKind.u64.wrap ((iand .u64 (IntKind.u64.wrap ((ishr .u64 (IntKind.u64.wrap ((iand .u64 (ishr .u64 (IntKind.u64.wrap ((iand .u64 (ishr .u64 p0 1) 6148914691236517205) + (iand .u64 p0 6148914691236517205))) 2) 3689348814741910323) + (iand .u64 (IntKind.u64.wrap ((iand .u64 (ishr .u64 p0 1) 6148914691236517205) + (iand .u64 p0 6148914691236517205))) 3689348814741910323))) 4) + (IntKind.u64.wrap ((iand .u64 (ishr .u64 (IntKind.u64.wrap ((iand .u64 (ishr .u64 p0 1) 6148914691236517205) + (iand .u64 p0 6148914691236517205))) 2) 3689348814741910323) + (iand .u64 (IntKind.u64.wrap ((iand .u64 (ishr .u64 p0 1) 6148914691236517205) + (iand .u64 p0 6148914691236517205))) 3689348814741910323))))) 1085102592571150095) + (ishr .u64 (iand .u64 (IntKind.u64.wrap ((ishr .u64 (IntKind.u64.wrap ((iand .u64 (ishr .u64 (IntKind.u64.wrap ((iand .u64 (ishr .u64 p0 1) 6148914691236517205) + (iand .u64 p0 6148914691236517205))) 2) 3689348814741910323) + (iand .u64 (IntKind.u64.wrap ((iand .u64 (ishr .u64 p0 1) 6148914691236517205) + (iand .u64 p0 6148914691236517205))) 3689348814741910323))) 4) + (IntKind.u64.wrap ((iand .u64 (ishr .u64 (IntKind.u64.wrap ((iand .u64 (ishr .u64 p0 1) 6148914691236517205) + (iand .u64 p0 6148914691236517205))) 2) 3689348814741910323) + (iand .u64 (IntKind.u64.wrap ((iand .u64 (ishr .u64 p0 1) 6148914691236517205) + (iand .u64 p0 6148914691236517205))) 3689348814741910323))))) 1085102592571150095) 8))) 16))) + (ishr .u64 (IntKind.u64.wrap ((IntKind.u64.wrap ((iand .u64 (IntKind.u64.wrap ((ishr .u64 (IntKind.u64.wrap ((iand .u64 (ishr .u64 (IntKind.u64.wrap ((iand .u64 (ishr .u64 p0 1) 6148914691236517205) + (iand .u64 p0 6148914691236517205))) 2) 3689348814741910323) + (iand .u64 (IntKind.u64.wrap ((iand .u64 (ishr .u64 p0 1) 6148914691236517205) + (iand .u64 p0 6148914691236517205))) 3689348814741910323))) 4) + (IntKind.u64.wrap ((iand .u64 (ishr .u64 (IntKind.u64.wrap ((iand .u64 (ishr .u64 p0 1) 6148914691236517205) + (iand .u64 p0 6148914691236517205))) 2) 3689348814741910323) + (iand .u64 (IntKind.u64.wrap ((iand .u64 (ishr .u64 p0 1) 6148914691236517205) + (iand .u64 p0 6148914691236517205))) 3689348814741910323))))) 1085102592571150095) + (ishr .u64 (iand .u64 (IntKind.u64.wrap ((ishr .u64 (IntKind.u64.wrap ((iand .u64 (ishr .u64 (IntKind.u64.wrap ((iand .u64 (ishr .u64 p0 1) 6148914691236517205) + (iand .u64 p0 6148914691236517205))) 2) 3689348814741910323) + (iand .u64 (IntKind.u64.wrap ((iand .u64 (ishr .u64 p0 1) 6148914691236517205) + (iand .u64 p0 6148914691236517205))) 3689348814741910323))) 4) + (IntKind.u64.wrap ((iand .u64 (ishr .u64 (IntKind.u64.wrap ((iand .u64 (ishr .u64 p0 1) 6148914691236517205) + (iand .u64 p0 6148914691236517205))) 2) 3689348814741910323) + (iand .u64 (IntKind.u64.wrap ((iand .u64 (ishr .u64 p0 1) 6148914691236517205) + (iand .u64 p0 6148914691236517205))) 3689348814741910323))))) 1085102592571150095) 8))) + (ishr .u64 (IntKind.u64.wrap ((iand .u64 (IntKind.u64.wrap ((ishr .u64 (IntKind.u64.wrap ((iand .u64 (ishr .u64 (IntKind.u64.wrap ((iand .u64 (ishr .u64 p0 1) 6148914691236517205) + (iand .u64 p0 6148914691236517205))) 2) 3689348814741910323) + (iand .u64 (IntKind.u64.wrap ((iand .u64 (ishr .u64 p0 1) 6148914691236517205) + (iand .u64 p0 6148914691236517205))) 3689348814741910323))) 4) + (IntKind.u64.wrap ((iand .u64 (ishr .u64 (IntKind.u64.wrap ((iand .u64 (ishr .u64 p0 1) 6148914691236517205) + (iand .u64 p0 6148914691236517205))) 2) 3689348814741910323) + (iand .u64 (IntKind.u64.wrap ((iand .u64 (ishr .u64 p0 1) 6148914691236517205) + (iand .u64 p0 6148914691236517205))) 3689348814741910323))))) 1085102592571150095) + (ishr .u64 (iand .u64 (IntKind.u64.wrap ((ishr .u64 (IntKind.u64.wrap ((iand .u64 (ishr .u64 (IntKind.u64.wrap ((iand .u64 (ishr .u64 p0 1) 6148914691236517205) + (iand .u64 p0 6148914691236517205))) 2) 3689348814741910323) + (iand .u64 (IntKind.u64.wrap ((iand .u64 (ishr .u64 p0 1) 6148914691236517205) + (iand .u64 p0 6148914691236517205))) 3689348814741910323))) 4) + (IntKind.u64.wrap ((iand .u64 (ishr .u64 (IntKind.u64.wrap ((iand .u64 (ishr .u64 p0 1) 6148914691236517205) + (iand .u64 p0 6148914691236517205))) 2) 3689348814741910323) + (iand .u64 (IntKind.u64.wrap ((iand .u64 (ishr .u64 p0 1) 6148914691236517205) + (iand .u64 p0 6148914691236517205))) 3689348814741910323))))) 1085102592571150095) 8))) 16))) 32)))) 127)
/-! bits_OnesCount -/
noncomputable def bits_OnesCount (p0 : Int) : Option Int :=
  (bits_OnesCount64 p0).bind fun o1 => some o1
/-! impl_set_size -/
noncomputable def impl_set_size (p0 : Int) : Option Int :=
  (bits_OnesCount (IntKind.u64.wrap p0)).bind fun o1 => some o1
/-! cmp_isNaN_int64 -/
noncomputable def cmp_isNaN_int64 (p0 : Int) : Option Bool :=
  some (decide (p0 ≠ p0))
/-! cmp_Compare_int64 -/
noncomputable def cmp_Compare_int64 (p0 : Int) (p1 : Int) : Option Int :=
  (cmp_isNaN_int64 p0).bind fun o1 => (cmp_isNaN_int64 p1).bind fun o4 => if o1 = true then (if o4 = true then (some 0) else (some (-1))) else (if o4 = true then (some 1) else (if p0 < p1 then (some (-1)) else (if p1 < p0 then (some 1) else (some 0))))
/-! slices_Compare_int64_int64 -/
noncomputable def slices_Compare_int64_int64_L1 (p0 : (List Int)) (p1 : (List Int)) (s1 : Int) : Option (Int ⊕ ((Unit) ⊕ (Int))) :=
  if s1 < (p0.length : Int) then (if 0 ≤ s1 ∧ s1 < p0.length then (if (p1.length : Int) ≤ s1 then (some (.inr (.inr 1))) else (if 0 ≤ s1 ∧ s1 < p1.length then ((cmp_Compare_int64 (gl p0 s1) (gl p1 s1)).bind fun o23 => if o23 ≠ 0 then (some (.inr (.inr o23))) else (some (.inl (IntKind.i64.wrap (s1 + 1))))) else none)) else none) else (some (.inr (.inl ())))
noncomputable def slices_Compare_int64_int64 (p0 : (List Int)) (p1 : (List Int)) : Option Int :=
  (Lp.run (slices_Compare_int64_int64_L1 p0 p1) 0).bind fun o2 => (Sum.elim (fun o2 => if (p0.length : Int) < (p1.length : Int) then (some (-1)) else (some 0)) (fun o2 => some o2)) o2
/-! impl_compareSets -/
noncomputable def impl_compareSets (p0 : Int) (p1 : Int) : Option Int :=
  (impl_set_size p0).bind fun o1 => (impl_set_size p1).bind fun o4 => if o1 ≠ o4 then ((impl_set_size p0).bind fun o8 => (impl_set_size p1).bind fun o11 => some (IntKind.i64.wrap (o8 - o11))) else ((impl_set_list p0).bind fun o14 => (impl_set_list p1).bind fun o17 => (slices_Compare_int64_int64 o14 o17).bind fun o20 => some o20)
/-! impl_Square_subloops -/
noncomputable def impl_Square_subloops_L1 (p0 : S_Square) (s3 : ((List Int) × Int)) : Option (((List Int) × Int) ⊕ (List Int)) :=
  (impl_Square_all p0).bind fun o33 => if s3.2 ≤ o33 then (((impl_Square_isSubloop p0 s3.2).bind fun o37 => if o37 = true then (if s3.1.length + ([s3.2]).length ≤ 4294967296 then (some (s3.1 ++ ([s3.2]))) else none) else (some s3.1) : Option (List Int)).bind fun o44 => some (.inl (o44, IntKind.i64.wrap (s3.2 + 2)))) else (some (.inr s3.1))
noncomputable def impl_Square_subloops (p0 : S_Square) : Option (List Int) :=
  (Lp.run (impl_Square_subloops_L1 p0) (([] : List Int), 1)).bind fun o4 => (slices_SortFunc_impl_set_impl_set o4 (fun a0 a1 => impl_compareSets a0 a1)).bind fun o48 => some o48
/-! impl_Square_mapped -/
noncomputable def impl_Square_mapped_L1 (o4 : (List Int)) (f1 : (Int → Option Int)) (s7 : ((Vector Int 10) × Int)) : Option (((Vector Int 10) × Int) ⊕ (Vector Int 10)) :=
  if s7.2 < (o4.length : Int) then (if 0 ≤ s7.2 ∧ s7.2 < o4.length then ((f1 (gl o4 s7.2)).bind fun o23 => if 0 ≤ gl o4 s7.2 ∧ gl o4 s7.2 < 10 then (some (.inl (sv s7.1 (gl o4 s7.2) o23, IntKind.i64.wrap (s7.2 + 1)))) else none) else none) else (some (.inr s7.1))
noncomputable def impl_Square_mapped (p0 : S_Square) (f1 : (Int → Option Int)) : Option (Vector Int 10) :=
  (impl_Square_elements p0).bind fun o4 => (Lp.run (impl_Square_mapped_L1 o4 f1) ((Vector.replicate 10 0), 0)).bind fun o8 => some o8
/-! impl_Square_turn_c1 -/
noncomputable def impl_Square_turn_c1 (p0 : Int) (p1 : S_Square) (p2 : Int) : Option Int :=
  if 0 ≤ p2 ∧ p2 < 10 then (if 0 ≤ p0 ∧ p0 < 10 then ((impl_Square_right p1 (gv (gv p1.Table p2) p0) p2).bind fun o3 => some o3) else none) else none
/-! impl_Square_turn -/
noncomputable def impl_Square_turn (p0 : S_Square) (p1 : Int) : Option (Vector Int 10) :=
  (impl_Square_mapped p0 (fun a0 => impl_Square_turn_c1 a0 p0 p1)).bind fun o4 => some o4
/-! impl_Square_leftInner_c1 -/
noncomputable def impl_Square_leftInner_c1 (p0 : Int) (p1 : S_Square) (p2 : Int) (p3 : Int) : Option Int :=
  if 0 ≤ p2 ∧ p2 < 10 then (if 0 ≤ p3 ∧ p3 < 10 then (if 0 ≤ p0 ∧ p0 < 10 then (if 0 ≤ gv (gv p1.Table p3) p0 ∧ gv (gv p1.Table p3) p0 < 10 then ((impl_Square_left p1 (gv (gv p1.Table p2) p3) (gv (gv p1.Table p2) (gv (gv p1.Table p3) p0))).bind fun o5 => some o5) else none) else none) else none) else none
/-! impl_Square_leftInner -/
noncomputable def impl_Square_leftInner (p0 : S_Square) (p1 : Int) (p2 : Int) : Option (Vector Int 10) :=
  (impl_Square_mapped p0 (fun a0 => impl_Square_leftInner_c1 a0 p0 p2 p1)).bind fun o5 => some o5
/-! impl_Square_rightInner_c1 -/
noncomputable def impl_Square_rightInner_c1 (p0 : Int) (p1 : S_Square) (p2 : Int) (p3 : Int) : Option Int :=
  if 0 ≤ p0 ∧ p0 < 10 then (if 0 ≤ p2 ∧ p2 < 10 then (if 0 ≤ gv (gv p1.Table p0) p2 ∧ gv (gv p1.Table p0) p2 < 10 then (if 0 ≤ p3 ∧ p3 < 10 then ((impl_Square_right p1 (gv (gv p1.Table (gv (gv p1.Table p0) p2)) p3) (gv (gv p1.Table p2) p3)).bind fun o5 => some o5) else none) else none) else none) else none
/-! impl_Square_rightInner -/
noncomputable def impl_Square_rightInner (p0 : S_Square) (p1 : Int) (p2 : Int) : Option (Vector Int 10) :=
  (impl_Square_mapped p0 (fun a0 => impl_Square_rightInner_c1 a0 p0 p1 p2)).bind fun o5 => some o5
/-! impl_Square_inner -/
noncomputable def impl_Square_inner_L2 (p0 : S_Square) (o3 : (List Int)) (s6 : ((List (Vector Int 10)) × Int)) (o118 : (List Int)) (s121 : ((List (Vector Int 10)) × Int)) : Option (((List (Vector Int 10)) × Int) ⊕ (List (Vector Int 10))) :=
  if s121.2 < (o118.length : Int) then (if 0 ≤ s121.2 ∧ s121.2 < o118.length then ((impl_Square_leftInner p0 (gl o3 s6.2) (gl o118 s121.2)).bind fun o149 => (impl_Square_rightInner p0 (gl o3 s6.2) (gl o118 s121.2)).bind fun o152 => if s121.1.length + ([o149, o152]).length ≤ 4294967296 then (some (.inl (s121.1 ++ ([o149, o152]), IntKind.i64.wrap (s121.2 + 1)))) else none) else none) else (some (.inr s121.1))
noncomputable def impl_Square_inner_L1 (p0 : S_Square) (o3 : (List Int)) (s6 : ((List (Vector Int 10)) × Int)) : Option (((List (Vector Int 10)) × Int) ⊕ (List (Vector Int 10))) :=
  if s6.2 < (o3.length : Int) then (if 0 ≤ s6.2 ∧ s6.2 < o3.length then ((impl_Square_turn p0 (gl o3 s6.2)).bind fun o112 => if s6.1.length + ([o112]).length ≤ 4294967296 then ((impl_Square_elements p0).bind fun o118 => (Lp.run (impl_Square_inner_L2 p0 o3 s6 o118) (s6.1 ++ ([o112]), 0)).bind fun o122 => some (.inl (o122, IntKind.i64.wrap (s6.2 + 1)))) else none) else none) else (some (.inr s6.1))
noncomputable def impl_Square_inner (p0 : S_Square) : Option (List (Vector Int 10)) :=
  (impl_Square_elements p0).bind fun o3 => (Lp.run (impl_Square_inner_L1 p0 o3) (([] : List (Vector Int 10)), 0)).bind fun o7 => some o7
/-! impl_led -/
noncomputable def impl_led_L1 (p0 : Int) (p1 : (Vector Int 10)) (s2 : (Int × Int)) : Option ((Int × Int) ⊕ Int) :=
  if s2.2 < 10 then (((impl_set_has p0 s2.2).bind fun o20 => if o20 = true then (if 0 ≤ s2.2 ∧ s2.2 < 10 then (if 0 ≤ gv p1 s2.2 then (some (ior .i64 s2.1 (ishl .i64 1 (gv p1 s2.2)))) else none) else none) else (some s2.1) : Option Int).bind fun o26 => some (.inl (o26, IntKind.u8.wrap (s2.2 + 1)))) else (some (.inr s2.1))
noncomputable def impl_led (p0 : Int) (p1 : (Vector Int 10)) : Option Int :=
  (Lp.run (impl_led_L1 p0 p1) (0, 0)).bind fun o3 => some o3
/-! impl_Square_closure -/
noncomputable def impl_Square_closure_L2 (o2 : (List (Vector Int 10))) (s58 : (Int × Int)) : Option ((Int × Int) ⊕ Int) :=
  if s58.2 < (o2.length : Int) then (if 0 ≤ s58.2 ∧ s58.2 < o2.length then ((impl_led s58.1 (gl o2 s58.2)).bind fun o75 => some (.inl (ior .i64 s58.1 o75, IntKind.i64.wrap (s58.2 + 1)))) else none) else (some (.inr s58.1))
noncomputable def impl_Square_closure_L1 (p0 : S_Square) (o2 : (List (Vector Int 10))) (s5 : Int) : Option (Int ⊕ Int) :=
  (impl_Square_generated p0 s5).bind fun o55 => (Lp.run (impl_Square_closure_L2 o2) (o55, 0)).bind fun o59 => if o59 = s5 then (some (.inr s5)) else (some (.inl o59))
noncomputable def impl_Square_closure (p0 : S_Square) (p1 : Int) : Option Int :=
  (impl_Square_inner p0).bind fun o2 => (Lp.run (impl_Square_closure_L1 p0 o2) p1).bind fun o6 => some o6
/-! impl_Square_isNormal -/
noncomputable def impl_Square_isNormal (p0 : S_Square) (p1 : Int) : Option Bool :=
  (impl_Square_closure p0 p1).bind fun o2 => some (decide (o2 = p1))
/-! impl_Square_normals_c1 -/
noncomputable def impl_Square_normals_c1 (p0 : Int) (p1 : S_Square) : Option Bool :=
  (impl_Square_isNormal p1 p0).bind fun o1 => some (!o1)
/-! impl_Square_normals -/
noncomputable def impl_Square_normals (p0 : S_Square) : Option (List Int) :=
  (impl_Square_subloops p0).bind fun o2 => (slices_DeleteFunc_impl_set_impl_set o2 (fun a0 => impl_Square_normals_c1 a0 p0)).bind fun o5 => some o5
/-! impl_AllNormal -/
noncomputable def impl_AllNormal (p0 : S_Square) : Option ((List (List Int)) × Int) :=
  (impl_IsLoop p0).bind fun o2 => if o2 = true then ((impl_Square_normals p0).bind fun o6 => (impl_listsOf o6).bind fun o9 => some (o9, 0)) else (some ([], 1))
/-! laws_eqInt64S -/
noncomputable def laws_eqInt64S_L1 (p0 : (List Int)) (p1 : (List Int)) (s2 : Int) : Option (Int ⊕ ((Unit) ⊕ (Unit))) :=
  if s2 < (p0.length : Int) then (if 0 ≤ s2 ∧ s2 < p0.length then (if 0 ≤ s2 ∧ s2 < p1.length then (if gl p0 s2 ≠ gl p1 s2 then (some (.inr (.inr ()))) else (some (.inl (IntKind.i64.wrap (s2 + 1))))) else none) else none) else (some (.inr (.inl ())))
noncomputable def laws_eqInt64S (p0 : (List Int)) (p1 : (List Int)) : Option Bool :=
  if (p0.length : Int) ≠ (p1.length : Int) then (some false) else ((Lp.run (laws_eqInt64S_L1 p0 p1) 0).bind fun o3 => (Sum.elim (fun o3 => some true) (fun o3 => some false)) o3)
/-! laws_eqInt64SS -/
noncomputable def laws_eqInt64SS_L1 (p0 : (List (List Int))) (p1 : (List (List Int))) (s2 : Int) : Option (Int ⊕ ((Unit) ⊕ (Unit))) :=
  if s2 < (p0.length : Int) then (if 0 ≤ s2 ∧ s2 < p0.length then (if 0 ≤ s2 ∧ s2 < p1.length then ((laws_eqInt64S (gl p0 s2) (gl p1 s2)).bind fun o21 => if o21 = true then (some (.inl (IntKind.i64.wrap (s2 + 1)))) else (some (.inr (.inr ())))) else none) else none) else (some (.inr (.inl ())))
noncomputable def laws_eqInt64SS (p0 : (List (List Int))) (p1 : (List (List Int))) : Option Bool :=
  if (p0.length : Int) ≠ (p1.length : Int) then (some false) else ((Lp.run (laws_eqInt64SS_L1 p0 p1) 0).bind fun o3 => (Sum.elim (fun o3 => some true) (fun o3 => some false)) o3)
/-! laws_markInt64S -/
noncomputable def laws_markInt64S_L1  (s1 : ((List Int) × Int × Int)) : Option (((List Int) × Int × Int) ⊕ ((List Int) × Int)) :=
  if s1.2.2 < (s1.1.length : Int) then (if 0 ≤ s1.2.2 ∧ s1.2.2 < s1.1.length then (some (.inl (sls s1.1 s1.2.2 s1.2.1, IntKind.i64.wrap (s1.2.1 + 1), IntKind.i64.wrap (s1.2.2 + 1)))) else none) else (some (.inr (s1.1, s1.2.1)))
noncomputable def laws_markInt64S (p0 : (List Int)) (p1 : Int) : Option (Int × (List Int)) :=
  (Lp.run laws_markInt64S_L1 (p0, p1, 0)).bind fun o2 => some (o2.2, o2.1)
/-! laws_markInt64SS -/
noncomputable def laws_markInt64SS_L1  (s1 : ((List (List Int)) × Int × Int)) : Option (((List (List Int)) × Int × Int) ⊕ ((List (List Int)) × Int)) :=
  if s1.2.2 < (s1.1.length : Int) then (if 0 ≤ s1.2.2 ∧ s1.2.2 < s1.1.length then ((laws_markInt64S (gl s1.1 s1.2.2) s1.2.1).bind fun o15 => some (.inl (sls s1.1 s1.2.2 o15.2, o15.1, IntKind.i64.wrap (s1.2.2 + 1)))) else none) else (some (.inr (s1.1, s1.2.1)))
noncomputable def laws_markInt64SS (p0 : (List (List Int))) (p1 : Int) : Option (Int × (List (List Int))) :=
  (Lp.run laws_markInt64SS_L1 (p0, p1, 0)).bind fun o2 => some (o2.2, o2.1)
/-! laws_heldInt64S -/
noncomputable def laws_heldInt64S_L1 (p0 : (List Int)) (s1 : (Int × Int)) : Option ((Int × Int) ⊕ ((Int) ⊕ (Unit))) :=
  if s1.2 < (p0.length : Int) then (if 0 ≤ s1.2 ∧ s1.2 < p0.length then (if gl p0 s1.2 ≠ s1.1 then (some (.inr (.inr ()))) else (some (.inl (IntKind.i64.wrap (s1.1 + 1), IntKind.i64.wrap (s1.2 + 1))))) else none) else (some (.inr (.inl s1.1)))
noncomputable def laws_heldInt64S (p0 : (List Int)) (p1 : Int) : Option Int :=
  (Lp.run (laws_heldInt64S_L1 p0) (p1, 0)).bind fun o2 => (Sum.elim (fun o2 => some o2) (fun o2 => some (-1))) o2
/-! laws_heldInt64SS -/
noncomputable def laws_heldInt64SS_L1 (p0 : (List (List Int))) (s1 : (Int × Int)) : Option ((Int × Int) ⊕ ((Int) ⊕ (Unit))) :=
  if s1.2 < (p0.length : Int) then (if 0 ≤ s1.2 ∧ s1.2 < p0.length then ((laws_heldInt64S (gl p0 s1.2) s1.1).bind fun o17 => if o17 < 0 then (some (.inr (.inr ()))) else (some (.inl (o17, IntKind.i64.wrap (s1.2 + 1))))) else none) else (some (.inr (.inl s1.1)))
noncomputable def laws_heldInt64SS (p0 : (List (List Int))) (p1 : Int) : Option Int :=
  (Lp.run (laws_heldInt64SS_L1 p0) (p1, 0)).bind fun o2 => (Sum.elim (fun o2 => some o2) (fun o2 => some (-1))) o2
/-! laws_FnExactAllNormal -/
noncomputable def laws_FnExactAllNormal (p0 : S_Square) : Option Bool :=
  (laws_toSquare p0).bind fun o2 => (spec_AllNormal o2).bind fun o5 => (laws_toSquare p0).bind fun o8 => (impl_AllNormal o8).bind fun o11 => ((laws_eqInt64SS o11.1 o5.1).bind fun o14 => if o14 = true then (some (decide (o11.2 ≠ o5.2))) else (some true) : Option Bool).bind fun o18 => if o18 = true then (some false) else ((laws_markInt64SS o11.1 1).bind fun o20 => (laws_heldInt64SS o20.2 1).bind fun o23 => if o23 < 0 then (some false) else (if o23 ≠ o20.1 then (some false) else ((laws_toSquare p0).bind fun o28 => (impl_AllNormal o28).bind fun o31 => ((laws_eqInt64SS o31.1 o5.1).bind fun o34 => if o34 = true then (some (decide (o31.2 ≠ o5.2))) else (some true) : Option Bool).bind fun o38 => if o38 = true then (some false) else ((laws_heldInt64SS o20.2 1).bind fun o40 => if o40 < 0 then (some false) else (if o40 ≠ o20.1 then (some false) else (some true))))))
end Go.Mi
