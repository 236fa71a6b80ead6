/- Printed by a program of the claim's own: the walks: what the machine's calls answer is what the plain functions answer. No condition. -/
import Derived.Test.YtekmmbgbhjeoaaaZM
import Derived.Test.YtekmmbgbhjeoaaaProg
import Derived.KernelRfl
set_option linter.unusedVariables false
set_option linter.unusedSimpArgs false
namespace Go.Proofs.Ytekmmbgbhjeoaaa
open Go Go.Sx Go.Mi
theorem en31 : Enters Try.prog 31 := fun _ _ => by kernel_rfl
theorem bz71 {G : World} {N : Nat} {T : Env} {H : List Res} {ty : TypeId} {parts : Array (Nat × Operand)} (hv : parts = #[]) : OpV Try.prog G N T H (.build 71 parts) ty (.agg ((Enc.bool.arr 10).cells (Vector.replicate 10 false)).toArray) := fun a w s _ _ _ _ => by
  subst hv
  kernel_rfl
theorem zr71 : ((Try.prog.info? 71).bind (·.zero)).map (fun z => z.cells.toList) = some ((Enc.bool.arr 10).cells (Vector.replicate 10 false)) := by kernel_rfl
set_option maxRecDepth 100000 in
theorem al71 {G : World} {N : Nat} {T : Env} {H : List Res} {ty : TypeId} : OpX Try.prog G N T H (.alloc 71) ty (fun b : Nat => .pointer (some ⟨b, 0, none⟩)) (fun b => bx b ((Enc.bool.arr 10).cells (Vector.replicate 10 false)) :: H) := R.alloc zr71
theorem sz71 : (Try.prog.info? 71).map (·.size) = some (Enc.bool.arr 10).size := by kernel_rfl
theorem un70 : Try.prog.underlying 70 = some (.array 10 5) := by kernel_rfl
theorem sz5 : (Try.prog.info? 5).map (·.size) = some (Enc.int .u8).size := by kernel_rfl
theorem ia5 : ∀ w, (isAgg 5).run Try.prog w = .ok false w := fun _ => by kernel_rfl
theorem un2 : Try.prog.underlying 2 = some (.int .i64) := by kernel_rfl
theorem us5 : (Try.prog.underlying 5).isSome = true := by kernel_rfl
theorem un71 : Try.prog.underlying 71 = some (.array 10 4) := by kernel_rfl
theorem sz4 : (Try.prog.info? 4).map (·.size) = some Enc.bool.size := by kernel_rfl
theorem ia4 : ∀ w, (isAgg 4).run Try.prog w = .ok false w := fun _ => by kernel_rfl
theorem un29 : Try.prog.underlying 29 = some (.array 10 22) := by kernel_rfl
theorem sz22 : (Try.prog.info? 22).map (·.size) = some ((Enc.int .u8).arr 10).size := by kernel_rfl
theorem ia22 : ∀ w, (isAgg 22).run Try.prog w = .ok true w := fun _ => by kernel_rfl
theorem en47 : Enters Try.prog 47 := fun _ _ => by kernel_rfl
theorem bz22 {G : World} {N : Nat} {T : Env} {H : List Res} {ty : TypeId} {parts : Array (Nat × Operand)} (hv : parts = #[]) : OpV Try.prog G N T H (.build 22 parts) ty (.agg (((Enc.int .u8).arr 10).cells (Vector.replicate 10 0)).toArray) := fun a w s _ _ _ _ => by
  subst hv
  kernel_rfl
theorem eg22 : Try.prog.eqGuardType Try.prog.depth 22 = false := by kernel_rfl
theorem un5 : Try.prog.underlying 5 = some (.int .u8) := by kernel_rfl
theorem un22 : Try.prog.underlying 22 = some (.array 10 5) := by kernel_rfl
theorem zr29 : ((Try.prog.info? 29).bind (·.zero)).map (fun z => z.cells.toList) = some ((((Enc.int .u8).arr 10).arr 10).cells (Vector.replicate 10 (Vector.replicate 10 0))) := by kernel_rfl
set_option maxRecDepth 100000 in
theorem al29 {G : World} {N : Nat} {T : Env} {H : List Res} {ty : TypeId} : OpX Try.prog G N T H (.alloc 29) ty (fun b : Nat => .pointer (some ⟨b, 0, none⟩)) (fun b => bx b ((((Enc.int .u8).arr 10).arr 10).cells (Vector.replicate 10 (Vector.replicate 10 0))) :: H) := R.alloc zr29
theorem bz29 {G : World} {N : Nat} {T : Env} {H : List Res} {ty : TypeId} {parts : Array (Nat × Operand)} (hv : parts = #[]) : OpV Try.prog G N T H (.build 29 parts) ty (.agg ((((Enc.int .u8).arr 10).arr 10).cells (Vector.replicate 10 (Vector.replicate 10 0))).toArray) := fun a w s _ _ _ _ => by
  subst hv
  kernel_rfl
theorem sz29 : (Try.prog.info? 29).map (·.size) = some (((Enc.int .u8).arr 10).arr 10).size := by kernel_rfl
theorem ia29 : ∀ w, (isAgg 29).run Try.prog w = .ok true w := fun _ => by kernel_rfl
theorem fa31_0 : ∀ b off w, (Instr.fieldAt 31 (.pointer (some ⟨b, off, none⟩)) 0).run Try.prog w = .ok (.pointer (some ((⟨b, off, none⟩ : Addr).add 0))) w := fun _ _ _ => by kernel_rfl
theorem ia2 : ∀ w, (isAgg 2).run Try.prog w = .ok false w := fun _ => by kernel_rfl
theorem fa31_1 : ∀ b off w, (Instr.fieldAt 31 (.pointer (some ⟨b, off, none⟩)) 1).run Try.prog w = .ok (.pointer (some ((⟨b, off, none⟩ : Addr).add 1))) w := fun _ _ _ => by kernel_rfl
theorem en32 : Enters Try.prog 32 := fun _ _ => by kernel_rfl
theorem en33 : Enters Try.prog 33 := fun _ _ => by kernel_rfl
theorem ia31 : ∀ w, (isAgg 31).run Try.prog w = .ok true w := fun _ => by kernel_rfl
theorem sz31 : (Try.prog.info? 31).map (·.size) = some e_S_Square.size := by kernel_rfl
theorem en19 : Enters Try.prog 19 := fun _ _ => by kernel_rfl
theorem us2 : (Try.prog.underlying 2).isSome = true := by kernel_rfl
theorem el43 : ElT Try.prog 43 (Enc.int .i64) 0 := ElT.of2 (el := 2) (by kernel_rfl) (by kernel_rfl) (by kernel_rfl)
theorem nl26 : ElN Try.prog 26 := ElN.of (el := 43) (by kernel_rfl) (by kernel_rfl) (by kernel_rfl)
theorem ia43 : ∀ w, (isAgg 43).run Try.prog w = .ok false w := fun _ => by kernel_rfl
theorem en34 : Enters Try.prog 34 := fun _ _ => by kernel_rfl
theorem en35 : Enters Try.prog 35 := fun _ _ => by kernel_rfl
theorem un60 : Try.prog.underlying 60 = some (.array 10 2) := by kernel_rfl
theorem sz2 : (Try.prog.info? 2).map (·.size) = some (Enc.int .i64).size := by kernel_rfl
theorem zr60 : ((Try.prog.info? 60).bind (·.zero)).map (fun z => z.cells.toList) = some (((Enc.int .i64).arr 10).cells (Vector.replicate 10 0)) := by kernel_rfl
set_option maxRecDepth 100000 in
theorem al60 {G : World} {N : Nat} {T : Env} {H : List Res} {ty : TypeId} : OpX Try.prog G N T H (.alloc 60) ty (fun b : Nat => .pointer (some ⟨b, 0, none⟩)) (fun b => bx b (((Enc.int .i64).arr 10).cells (Vector.replicate 10 0)) :: H) := R.alloc zr60
theorem bz60 {G : World} {N : Nat} {T : Env} {H : List Res} {ty : TypeId} {parts : Array (Nat × Operand)} (hv : parts = #[]) : OpV Try.prog G N T H (.build 60 parts) ty (.agg (((Enc.int .i64).arr 10).cells (Vector.replicate 10 0)).toArray) := fun a w s _ _ _ _ => by
  subst hv
  kernel_rfl
theorem sz60 : (Try.prog.info? 60).map (·.size) = some ((Enc.int .i64).arr 10).size := by kernel_rfl
theorem el57 : ElT Try.prog 57 ((Enc.int .i64).arr 2) (Vector.replicate 2 0) := ElT.of2 (el := 58) (by kernel_rfl) (by kernel_rfl) (by kernel_rfl)
theorem un58 : Try.prog.underlying 58 = some (.array 2 2) := by kernel_rfl
theorem zr58 : ((Try.prog.info? 58).bind (·.zero)).map (fun z => z.cells.toList) = some (((Enc.int .i64).arr 2).cells (Vector.replicate 2 0)) := by kernel_rfl
set_option maxRecDepth 100000 in
theorem al58 {G : World} {N : Nat} {T : Env} {H : List Res} {ty : TypeId} : OpX Try.prog G N T H (.alloc 58) ty (fun b : Nat => .pointer (some ⟨b, 0, none⟩)) (fun b => bx b (((Enc.int .i64).arr 2).cells (Vector.replicate 2 0)) :: H) := R.alloc zr58
theorem ba58 {G : World} {N : Nat} {T : Env} {H : List Res} {ty : TypeId} {parts : Array (Nat × Operand)} {x0 : Int} {x1 : Int} (hv : T.opds (parts.toList.map (·.2)) = some [(.int .i64 x0), (.int .i64 x1)]) (hp : parts.toList.map (·.1) = [0, 1] := by rfl) : OpV Try.prog G N T H (.build 58 parts) ty (.agg (((Enc.int .i64).arr 2).cells (#v[x0, x1] : (Vector Int 2))).toArray) := by
  refine R.build (segs := [(0 * (Enc.int .i64).size, (Enc.int .i64).cells x0), (1 * (Enc.int .i64).size, (Enc.int .i64).cells x1)]) hv (BuildAt.array2 un58 sz2 zr58) (by rw [hp]; exact ⟨by rw [Enc.len], rfl, by rw [Enc.len]; decide, by rw [Enc.len], rfl, by rw [Enc.len]; decide, trivial⟩) ?_
  rw [lay_all (by simp [Cons, Enc.len]) (by simp [Enc.len, Enc.arr])]
  simp [Enc.arr]
theorem ia60 : ∀ w, (isAgg 60).run Try.prog w = .ok true w := fun _ => by kernel_rfl
theorem en37 : Enters Try.prog 37 := fun _ _ => by kernel_rfl
theorem en36 : Enters Try.prog 36 := fun _ _ => by kernel_rfl
theorem en22 : Enters Try.prog 22 := fun _ _ => by kernel_rfl
theorem en21 : Enters Try.prog 21 := fun _ _ => by kernel_rfl
theorem en20 : Enters Try.prog 20 := fun _ _ => by kernel_rfl
theorem en10 : Enters Try.prog 10 := fun _ _ => by kernel_rfl
theorem en11 : Enters Try.prog 11 := fun _ _ => by kernel_rfl
theorem zr22 : ((Try.prog.info? 22).bind (·.zero)).map (fun z => z.cells.toList) = some (((Enc.int .u8).arr 10).cells (Vector.replicate 10 0)) := by kernel_rfl
set_option maxRecDepth 100000 in
theorem al22 {G : World} {N : Nat} {T : Env} {H : List Res} {ty : TypeId} : OpX Try.prog G N T H (.alloc 22) ty (fun b : Nat => .pointer (some ⟨b, 0, none⟩)) (fun b => bx b (((Enc.int .u8).arr 10).cells (Vector.replicate 10 0)) :: H) := R.alloc zr22
theorem un23 : Try.prog.underlying 23 = some (.array 10 22) := by kernel_rfl
theorem en23 : Enters Try.prog 23 := fun _ _ => by kernel_rfl
theorem zr31 : ((Try.prog.info? 31).bind (·.zero)).map (fun z => z.cells.toList) = some (e_S_Square.cells z_S_Square) := by kernel_rfl
set_option maxRecDepth 100000 in
theorem al31 {G : World} {N : Nat} {T : Env} {H : List Res} {ty : TypeId} : OpX Try.prog G N T H (.alloc 31) ty (fun b : Nat => .pointer (some ⟨b, 0, none⟩)) (fun b => bx b (e_S_Square.cells z_S_Square) :: H) := R.alloc zr31
theorem fa25_0 : ∀ b off w, (Instr.fieldAt 25 (.pointer (some ⟨b, off, none⟩)) 0).run Try.prog w = .ok (.pointer (some ((⟨b, off, none⟩ : Addr).add 0))) w := fun _ _ _ => by kernel_rfl
theorem fa25_1 : ∀ b off w, (Instr.fieldAt 25 (.pointer (some ⟨b, off, none⟩)) 1).run Try.prog w = .ok (.pointer (some ((⟨b, off, none⟩ : Addr).add 1))) w := fun _ _ _ => by kernel_rfl
theorem ia23 : ∀ w, (isAgg 23).run Try.prog w = .ok true w := fun _ => by kernel_rfl
theorem sz23 : (Try.prog.info? 23).map (·.size) = some (((Enc.int .u8).arr 10).arr 10).size := by kernel_rfl
theorem en12 : Enters Try.prog 12 := fun _ _ => by kernel_rfl
theorem en38 : Enters Try.prog 38 := fun _ _ => by kernel_rfl
theorem un3 : Try.prog.underlying 3 = some (.int .i64) := by kernel_rfl
theorem el62 : ElT Try.prog 62 (Enc.int .u8) 0 := ElT.of2 (el := 5) (by kernel_rfl) (by kernel_rfl) (by kernel_rfl)
theorem en39 : Enters Try.prog 39 := fun _ _ => by kernel_rfl
theorem en24 : Enters Try.prog 24 := fun _ _ => by kernel_rfl
theorem en25 : Enters Try.prog 25 := fun _ _ => by kernel_rfl
theorem en40 : Enters Try.prog 40 := fun _ _ => by kernel_rfl
theorem el40 : ElT Try.prog 40 (Enc.int .i64) 0 := ElT.of2 (el := 50) (by kernel_rfl) (by kernel_rfl) (by kernel_rfl)
theorem ia50 : ∀ w, (isAgg 50).run Try.prog w = .ok false w := fun _ => by kernel_rfl
theorem en26 : Enters Try.prog 26 := fun _ _ => by kernel_rfl
theorem en41 : Enters Try.prog 41 := fun _ _ => by kernel_rfl
theorem sz50 : (Try.prog.info? 50).map (·.size) = some (Enc.int .i64).size := by kernel_rfl
theorem en55 : Enters Try.prog 55 := fun _ _ => by kernel_rfl
theorem en56 : Enters Try.prog 56 := fun _ _ => by kernel_rfl
theorem en48 : Enters Try.prog 48 := fun _ _ => by kernel_rfl
theorem en72 : Enters Try.prog 72 := fun _ _ => by kernel_rfl
theorem us90 : (Try.prog.underlying 90).isSome = true := by kernel_rfl
theorem un9 : Try.prog.underlying 9 = some .string := by kernel_rfl
theorem us92 : (Try.prog.underlying 92).isSome = true := by kernel_rfl
theorem en66 : Enters Try.prog 66 := fun _ _ => by kernel_rfl
theorem un74 : Try.prog.underlying 74 = some (.int .u64) := by kernel_rfl
theorem us3 : (Try.prog.underlying 3).isSome = true := by kernel_rfl
theorem en50 : Enters Try.prog 50 := fun _ _ => by kernel_rfl
theorem ia96 : ∀ w, (isAgg 96).run Try.prog w = .ok false w := fun _ => by kernel_rfl
theorem sz96 : (Try.prog.info? 96).map (·.size) = some (Enc.int .u64).size := by kernel_rfl
theorem un96 : Try.prog.underlying 96 = some (.int .u64) := by kernel_rfl
theorem zr96 : ((Try.prog.info? 96).bind (·.zero)).map (fun z => z.cells.toList) = some ((Enc.int .u64).cells 0) := by kernel_rfl
set_option maxRecDepth 100000 in
theorem al96 {G : World} {N : Nat} {T : Env} {H : List Res} {ty : TypeId} : OpX Try.prog G N T H (.alloc 96) ty (fun b : Nat => .pointer (some ⟨b, 0, none⟩)) (fun b => bx b ((Enc.int .u64).cells 0) :: H) := R.alloc zr96
theorem en73 : Enters Try.prog 73 := fun _ _ => by kernel_rfl
theorem en74 : Enters Try.prog 74 := fun _ _ => by kernel_rfl
theorem us74 : (Try.prog.underlying 74).isSome = true := by kernel_rfl
theorem ia3 : ∀ w, (isAgg 3).run Try.prog w = .ok false w := fun _ => by kernel_rfl
theorem sz3 : (Try.prog.info? 3).map (·.size) = some (Enc.int .i64).size := by kernel_rfl
theorem en84 : Enters Try.prog 84 := fun _ _ => by kernel_rfl
theorem en76 : Enters Try.prog 76 := fun _ _ => by kernel_rfl
theorem zr3 : ((Try.prog.info? 3).bind (·.zero)).map (fun z => z.cells.toList) = some ((Enc.int .i64).cells 0) := by kernel_rfl
set_option maxRecDepth 100000 in
theorem al3 {G : World} {N : Nat} {T : Env} {H : List Res} {ty : TypeId} : OpX Try.prog G N T H (.alloc 3) ty (fun b : Nat => .pointer (some ⟨b, 0, none⟩)) (fun b => bx b ((Enc.int .i64).cells 0) :: H) := R.alloc zr3
theorem en75 : Enters Try.prog 75 := fun _ _ => by kernel_rfl
theorem en57 : Enters Try.prog 57 := fun _ _ => by kernel_rfl
theorem en58 : Enters Try.prog 58 := fun _ _ => by kernel_rfl
theorem en60 : Enters Try.prog 60 := fun _ _ => by kernel_rfl
theorem en61 : Enters Try.prog 61 := fun _ _ => by kernel_rfl
theorem en62 : Enters Try.prog 62 := fun _ _ => by kernel_rfl
theorem en63 : Enters Try.prog 63 := fun _ _ => by kernel_rfl
theorem en64 : Enters Try.prog 64 := fun _ _ => by kernel_rfl
theorem en49 : Enters Try.prog 49 := fun _ _ => by kernel_rfl
theorem en59 : Enters Try.prog 59 := fun _ _ => by kernel_rfl
theorem en78 : Enters Try.prog 78 := fun _ _ => by kernel_rfl
theorem us50 : (Try.prog.underlying 50).isSome = true := by kernel_rfl
theorem en67 : Enters Try.prog 67 := fun _ _ => by kernel_rfl
theorem en79 : Enters Try.prog 79 := fun _ _ => by kernel_rfl
theorem en68 : Enters Try.prog 68 := fun _ _ => by kernel_rfl
theorem en51 : Enters Try.prog 51 := fun _ _ => by kernel_rfl
theorem en52 : Enters Try.prog 52 := fun _ _ => by kernel_rfl
theorem en42 : Enters Try.prog 42 := fun _ _ => by kernel_rfl
theorem en43 : Enters Try.prog 43 := fun _ _ => by kernel_rfl
theorem en45 : Enters Try.prog 45 := fun _ _ => by kernel_rfl
theorem en44 : Enters Try.prog 44 := fun _ _ => by kernel_rfl
theorem zr70 : ((Try.prog.info? 70).bind (·.zero)).map (fun z => z.cells.toList) = some (((Enc.int .u8).arr 10).cells (Vector.replicate 10 0)) := by kernel_rfl
set_option maxRecDepth 100000 in
theorem al70 {G : World} {N : Nat} {T : Env} {H : List Res} {ty : TypeId} : OpX Try.prog G N T H (.alloc 70) ty (fun b : Nat => .pointer (some ⟨b, 0, none⟩)) (fun b => bx b (((Enc.int .u8).arr 10).cells (Vector.replicate 10 0)) :: H) := R.alloc zr70
theorem bz70 {G : World} {N : Nat} {T : Env} {H : List Res} {ty : TypeId} {parts : Array (Nat × Operand)} (hv : parts = #[]) : OpV Try.prog G N T H (.build 70 parts) ty (.agg (((Enc.int .u8).arr 10).cells (Vector.replicate 10 0)).toArray) := fun a w s _ _ _ _ => by
  subst hv
  kernel_rfl
theorem sz70 : (Try.prog.info? 70).map (·.size) = some ((Enc.int .u8).arr 10).size := by kernel_rfl
theorem ia70 : ∀ w, (isAgg 70).run Try.prog w = .ok true w := fun _ => by kernel_rfl
theorem en81 : Enters Try.prog 81 := fun _ _ => by kernel_rfl
theorem en80 : Enters Try.prog 80 := fun _ _ => by kernel_rfl
theorem en82 : Enters Try.prog 82 := fun _ _ => by kernel_rfl
theorem en83 : Enters Try.prog 83 := fun _ _ => by kernel_rfl
theorem el77 : ElT Try.prog 77 ((Enc.int .u8).arr 10) (Vector.replicate 10 0) := ElT.of2 (el := 70) (by kernel_rfl) (by kernel_rfl) (by kernel_rfl)
theorem en69 : Enters Try.prog 69 := fun _ _ => by kernel_rfl
theorem en70 : Enters Try.prog 70 := fun _ _ => by kernel_rfl
theorem en71 : Enters Try.prog 71 := fun _ _ => by kernel_rfl
theorem en53 : Enters Try.prog 53 := fun _ _ => by kernel_rfl
theorem en54 : Enters Try.prog 54 := fun _ _ => by kernel_rfl
theorem en46 : Enters Try.prog 46 := fun _ _ => by kernel_rfl
theorem en30 : Enters Try.prog 30 := fun _ _ => by kernel_rfl
theorem en28 : Enters Try.prog 28 := fun _ _ => by kernel_rfl
theorem en29 : Enters Try.prog 29 := fun _ _ => by kernel_rfl
theorem en27 : Enters Try.prog 27 := fun _ _ => by kernel_rfl
theorem en13 : Enters Try.prog 13 := fun _ _ => by kernel_rfl
theorem en15 : Enters Try.prog 15 := fun _ _ => by kernel_rfl
theorem en14 : Enters Try.prog 14 := fun _ _ => by kernel_rfl
theorem en16 : Enters Try.prog 16 := fun _ _ => by kernel_rfl
theorem en17 : Enters Try.prog 17 := fun _ _ => by kernel_rfl
theorem en18 : Enters Try.prog 18 := fun _ _ => by kernel_rfl
theorem ia25 : ∀ w, (isAgg 25).run Try.prog w = .ok true w := fun _ => by kernel_rfl
theorem sz25 : (Try.prog.info? 25).map (·.size) = some e_S_Square.size := by kernel_rfl
theorem en5 : Enters Try.prog 5 := fun _ _ => by kernel_rfl
theorem en4 : Enters Try.prog 4 := fun _ _ => by kernel_rfl
theorem en6 : Enters Try.prog 6 := fun _ _ => by kernel_rfl
theorem en7 : Enters Try.prog 7 := fun _ _ => by kernel_rfl
theorem en8 : Enters Try.prog 8 := fun _ _ => by kernel_rfl
theorem en9 : Enters Try.prog 9 := fun _ _ => by kernel_rfl
end Go.Proofs.Ytekmmbgbhjeoaaa
