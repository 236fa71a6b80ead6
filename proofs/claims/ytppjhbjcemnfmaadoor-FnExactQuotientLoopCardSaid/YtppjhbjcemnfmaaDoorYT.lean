/- Printed by a program of the claim's own: the walks: what the machine's calls answer is what the plain functions answer. No condition. -/
import Derived.Test.YtppjhbjcemnfmaaDoorYM
import Derived.Test.YtppjhbjcemnfmaaDoorProg
import Derived.KernelRfl
set_option linter.unusedVariables false
set_option linter.unusedSimpArgs false
namespace Go.Proofs.YtppjhbjcemnfmaaDoor
open Go Go.Sx Go.Mi
theorem en22 : Enters Tryd.prog 22 := fun _ _ => by kernel_rfl
theorem bz68 {G : World} {N : Nat} {T : Env} {H : List Res} {ty : TypeId} {parts : Array (Nat × Operand)} (hv : parts = #[]) : OpV Tryd.prog G N T H (.build 68 parts) ty (.agg ((Enc.bool.arr 10).cells (Vector.replicate 10 false)).toArray) := fun a w s _ _ _ _ => by
  subst hv
  kernel_rfl
theorem zr68 : ((Tryd.prog.info? 68).bind (·.zero)).map (fun z => z.cells.toList) = some ((Enc.bool.arr 10).cells (Vector.replicate 10 false)) := by kernel_rfl
set_option maxRecDepth 100000 in
theorem al68 {G : World} {N : Nat} {T : Env} {H : List Res} {ty : TypeId} : OpX Tryd.prog G N T H (.alloc 68) ty (fun b : Nat => .pointer (some ⟨b, 0, none⟩)) (fun b => bx b ((Enc.bool.arr 10).cells (Vector.replicate 10 false)) :: H) := R.alloc zr68
theorem sz68 : (Tryd.prog.info? 68).map (·.size) = some (Enc.bool.arr 10).size := by kernel_rfl
theorem un72 : Tryd.prog.underlying 72 = some (.array 10 5) := by kernel_rfl
theorem sz5 : (Tryd.prog.info? 5).map (·.size) = some (Enc.int .u8).size := by kernel_rfl
theorem ia5 : ∀ w, (isAgg 5).run Tryd.prog w = .ok false w := fun _ => by kernel_rfl
theorem un2 : Tryd.prog.underlying 2 = some (.int .i64) := by kernel_rfl
theorem us5 : (Tryd.prog.underlying 5).isSome = true := by kernel_rfl
theorem un68 : Tryd.prog.underlying 68 = some (.array 10 4) := by kernel_rfl
theorem sz4 : (Tryd.prog.info? 4).map (·.size) = some Enc.bool.size := by kernel_rfl
theorem ia4 : ∀ w, (isAgg 4).run Tryd.prog w = .ok false w := fun _ => by kernel_rfl
theorem un27 : Tryd.prog.underlying 27 = some (.array 10 22) := by kernel_rfl
theorem sz22 : (Tryd.prog.info? 22).map (·.size) = some ((Enc.int .u8).arr 10).size := by kernel_rfl
theorem ia22 : ∀ w, (isAgg 22).run Tryd.prog w = .ok true w := fun _ => by kernel_rfl
theorem en62 : Enters Tryd.prog 62 := fun _ _ => by kernel_rfl
theorem bz22 {G : World} {N : Nat} {T : Env} {H : List Res} {ty : TypeId} {parts : Array (Nat × Operand)} (hv : parts = #[]) : OpV Tryd.prog G N T H (.build 22 parts) ty (.agg (((Enc.int .u8).arr 10).cells (Vector.replicate 10 0)).toArray) := fun a w s _ _ _ _ => by
  subst hv
  kernel_rfl
theorem eg22 : Tryd.prog.eqGuardType Tryd.prog.depth 22 = false := by kernel_rfl
theorem un5 : Tryd.prog.underlying 5 = some (.int .u8) := by kernel_rfl
theorem un22 : Tryd.prog.underlying 22 = some (.array 10 5) := by kernel_rfl
theorem zr27 : ((Tryd.prog.info? 27).bind (·.zero)).map (fun z => z.cells.toList) = some ((((Enc.int .u8).arr 10).arr 10).cells (Vector.replicate 10 (Vector.replicate 10 0))) := by kernel_rfl
set_option maxRecDepth 100000 in
theorem al27 {G : World} {N : Nat} {T : Env} {H : List Res} {ty : TypeId} : OpX Tryd.prog G N T H (.alloc 27) ty (fun b : Nat => .pointer (some ⟨b, 0, none⟩)) (fun b => bx b ((((Enc.int .u8).arr 10).arr 10).cells (Vector.replicate 10 (Vector.replicate 10 0))) :: H) := R.alloc zr27
theorem bz27 {G : World} {N : Nat} {T : Env} {H : List Res} {ty : TypeId} {parts : Array (Nat × Operand)} (hv : parts = #[]) : OpV Tryd.prog G N T H (.build 27 parts) ty (.agg ((((Enc.int .u8).arr 10).arr 10).cells (Vector.replicate 10 (Vector.replicate 10 0))).toArray) := fun a w s _ _ _ _ => by
  subst hv
  kernel_rfl
theorem sz27 : (Tryd.prog.info? 27).map (·.size) = some (((Enc.int .u8).arr 10).arr 10).size := by kernel_rfl
theorem ia27 : ∀ w, (isAgg 27).run Tryd.prog w = .ok true w := fun _ => by kernel_rfl
theorem fa29_0 : ∀ b off w, (Instr.fieldAt 29 (.pointer (some ⟨b, off, none⟩)) 0).run Tryd.prog w = .ok (.pointer (some ((⟨b, off, none⟩ : Addr).add 0))) w := fun _ _ _ => by kernel_rfl
theorem ia2 : ∀ w, (isAgg 2).run Tryd.prog w = .ok false w := fun _ => by kernel_rfl
theorem fa29_1 : ∀ b off w, (Instr.fieldAt 29 (.pointer (some ⟨b, off, none⟩)) 1).run Tryd.prog w = .ok (.pointer (some ((⟨b, off, none⟩ : Addr).add 1))) w := fun _ _ _ => by kernel_rfl
theorem en49 : Enters Tryd.prog 49 := fun _ _ => by kernel_rfl
theorem en50 : Enters Tryd.prog 50 := fun _ _ => by kernel_rfl
theorem ia29 : ∀ w, (isAgg 29).run Tryd.prog w = .ok true w := fun _ => by kernel_rfl
theorem sz29 : (Tryd.prog.info? 29).map (·.size) = some e_S_Square.size := by kernel_rfl
theorem en36 : Enters Tryd.prog 36 := fun _ _ => by kernel_rfl
theorem us2 : (Tryd.prog.underlying 2).isSome = true := by kernel_rfl
theorem en21 : Enters Tryd.prog 21 := fun _ _ => by kernel_rfl
theorem el26 : ElT Tryd.prog 26 (Enc.int .i64) 0 := ElT.of2 (el := 2) (by kernel_rfl) (by kernel_rfl) (by kernel_rfl)
theorem nl53 : ElN Tryd.prog 53 := ElN.of (el := 26) (by kernel_rfl) (by kernel_rfl) (by kernel_rfl)
theorem un55 : Tryd.prog.underlying 55 = some (.array 10 2) := by kernel_rfl
theorem sz2 : (Tryd.prog.info? 2).map (·.size) = some (Enc.int .i64).size := by kernel_rfl
theorem zr55 : ((Tryd.prog.info? 55).bind (·.zero)).map (fun z => z.cells.toList) = some (((Enc.int .i64).arr 10).cells (Vector.replicate 10 0)) := by kernel_rfl
set_option maxRecDepth 100000 in
theorem al55 {G : World} {N : Nat} {T : Env} {H : List Res} {ty : TypeId} : OpX Tryd.prog G N T H (.alloc 55) ty (fun b : Nat => .pointer (some ⟨b, 0, none⟩)) (fun b => bx b (((Enc.int .i64).arr 10).cells (Vector.replicate 10 0)) :: H) := R.alloc zr55
theorem bz55 {G : World} {N : Nat} {T : Env} {H : List Res} {ty : TypeId} {parts : Array (Nat × Operand)} (hv : parts = #[]) : OpV Tryd.prog G N T H (.build 55 parts) ty (.agg (((Enc.int .i64).arr 10).cells (Vector.replicate 10 0)).toArray) := fun a w s _ _ _ _ => by
  subst hv
  kernel_rfl
theorem sz55 : (Tryd.prog.info? 55).map (·.size) = some ((Enc.int .i64).arr 10).size := by kernel_rfl
theorem el51 : ElT Tryd.prog 51 ((Enc.int .i64).arr 2) (Vector.replicate 2 0) := ElT.of2 (el := 52) (by kernel_rfl) (by kernel_rfl) (by kernel_rfl)
theorem un52 : Tryd.prog.underlying 52 = some (.array 2 2) := by kernel_rfl
theorem zr52 : ((Tryd.prog.info? 52).bind (·.zero)).map (fun z => z.cells.toList) = some (((Enc.int .i64).arr 2).cells (Vector.replicate 2 0)) := by kernel_rfl
set_option maxRecDepth 100000 in
theorem al52 {G : World} {N : Nat} {T : Env} {H : List Res} {ty : TypeId} : OpX Tryd.prog G N T H (.alloc 52) ty (fun b : Nat => .pointer (some ⟨b, 0, none⟩)) (fun b => bx b (((Enc.int .i64).arr 2).cells (Vector.replicate 2 0)) :: H) := R.alloc zr52
theorem ba52 {G : World} {N : Nat} {T : Env} {H : List Res} {ty : TypeId} {parts : Array (Nat × Operand)} {x0 : Int} {x1 : Int} (hv : T.opds (parts.toList.map (·.2)) = some [(.int .i64 x0), (.int .i64 x1)]) (hp : parts.toList.map (·.1) = [0, 1] := by rfl) : OpV Tryd.prog G N T H (.build 52 parts) ty (.agg (((Enc.int .i64).arr 2).cells (#v[x0, x1] : (Vector Int 2))).toArray) := by
  refine R.build (segs := [(0 * (Enc.int .i64).size, (Enc.int .i64).cells x0), (1 * (Enc.int .i64).size, (Enc.int .i64).cells x1)]) hv (BuildAt.array2 un52 sz2 zr52) (by rw [hp]; exact ⟨by rw [Enc.len], rfl, by rw [Enc.len]; decide, by rw [Enc.len], rfl, by rw [Enc.len]; decide, trivial⟩) ?_
  rw [lay_all (by simp [Cons, Enc.len]) (by simp [Enc.len, Enc.arr])]
  simp [Enc.arr]
theorem ia55 : ∀ w, (isAgg 55).run Tryd.prog w = .ok true w := fun _ => by kernel_rfl
theorem en26 : Enters Tryd.prog 26 := fun _ _ => by kernel_rfl
theorem en25 : Enters Tryd.prog 25 := fun _ _ => by kernel_rfl
theorem ia26 : ∀ w, (isAgg 26).run Tryd.prog w = .ok false w := fun _ => by kernel_rfl
theorem en24 : Enters Tryd.prog 24 := fun _ _ => by kernel_rfl
theorem en23 : Enters Tryd.prog 23 := fun _ _ => by kernel_rfl
theorem zr29 : ((Tryd.prog.info? 29).bind (·.zero)).map (fun z => z.cells.toList) = some (e_S_Square.cells z_S_Square) := by kernel_rfl
set_option maxRecDepth 100000 in
theorem al29 {G : World} {N : Nat} {T : Env} {H : List Res} {ty : TypeId} : OpX Tryd.prog G N T H (.alloc 29) ty (fun b : Nat => .pointer (some ⟨b, 0, none⟩)) (fun b => bx b (e_S_Square.cells z_S_Square) :: H) := R.alloc zr29
theorem bp29 : BuildAt Tryd.prog 29 (e_S_Square.cells z_S_Square) ((#[(0, (Enc.int .i64).size), (1, (((Enc.int .u8).arr 10).arr 10).size)] : Array (Nat × Nat))[·]?) := BuildAt.struct2 (by kernel_rfl) (by kernel_rfl) (fun _ => by kernel_rfl)
theorem bs29_0 {G : World} {N : Nat} {T : Env} {H : List Res} {ty : TypeId} {parts : Array (Nat × Operand)} {x0 : Int} (hv : T.opds (parts.toList.map (·.2)) = some [(.int .i64 x0)]) (hp : parts.toList.map (·.1) = [0] := by rfl) : OpV Tryd.prog G N T H (.build 29 parts) ty (.agg (e_S_Square.cells (⟨x0, (Vector.replicate 10 (Vector.replicate 10 0))⟩ : S_Square)).toArray) := by
  refine R.build (segs := [(0, (Enc.int .i64).cells x0)]) hv bp29 (by rw [hp]; exact ⟨by rw [Enc.len]; rfl, rfl, by rw [Enc.len]; decide, trivial⟩) ?_
  have hu : ∀ cs a b c, Up cs a b c → upd cs a b = c := fun _ _ _ _ h => h.2
  have k0 := hu _ _ _ _ (e_S_Square_u0 z_S_Square x0)
  simp only [lay, k0]
  rfl
theorem en12 : Enters Tryd.prog 12 := fun _ _ => by kernel_rfl
theorem bz29 {G : World} {N : Nat} {T : Env} {H : List Res} {ty : TypeId} {parts : Array (Nat × Operand)} (hv : parts = #[]) : OpV Tryd.prog G N T H (.build 29 parts) ty (.agg (e_S_Square.cells z_S_Square).toArray) := fun a w s _ _ _ _ => by
  subst hv
  kernel_rfl
theorem en13 : Enters Tryd.prog 13 := fun _ _ => by kernel_rfl
theorem en14 : Enters Tryd.prog 14 := fun _ _ => by kernel_rfl
theorem zr22 : ((Tryd.prog.info? 22).bind (·.zero)).map (fun z => z.cells.toList) = some (((Enc.int .u8).arr 10).cells (Vector.replicate 10 0)) := by kernel_rfl
set_option maxRecDepth 100000 in
theorem al22 {G : World} {N : Nat} {T : Env} {H : List Res} {ty : TypeId} : OpX Tryd.prog G N T H (.alloc 22) ty (fun b : Nat => .pointer (some ⟨b, 0, none⟩)) (fun b => bx b (((Enc.int .u8).arr 10).cells (Vector.replicate 10 0)) :: H) := R.alloc zr22
theorem un23 : Tryd.prog.underlying 23 = some (.array 10 22) := by kernel_rfl
theorem en27 : Enters Tryd.prog 27 := fun _ _ => by kernel_rfl
theorem fa25_0 : ∀ b off w, (Instr.fieldAt 25 (.pointer (some ⟨b, off, none⟩)) 0).run Tryd.prog w = .ok (.pointer (some ((⟨b, off, none⟩ : Addr).add 0))) w := fun _ _ _ => by kernel_rfl
theorem fa25_1 : ∀ b off w, (Instr.fieldAt 25 (.pointer (some ⟨b, off, none⟩)) 1).run Tryd.prog w = .ok (.pointer (some ((⟨b, off, none⟩ : Addr).add 1))) w := fun _ _ _ => by kernel_rfl
theorem ia23 : ∀ w, (isAgg 23).run Tryd.prog w = .ok true w := fun _ => by kernel_rfl
theorem sz23 : (Tryd.prog.info? 23).map (·.size) = some (((Enc.int .u8).arr 10).arr 10).size := by kernel_rfl
theorem en15 : Enters Tryd.prog 15 := fun _ _ => by kernel_rfl
theorem en39 : Enters Tryd.prog 39 := fun _ _ => by kernel_rfl
theorem un3 : Tryd.prog.underlying 3 = some (.int .i64) := by kernel_rfl
theorem el63 : ElT Tryd.prog 63 (Enc.int .u8) 0 := ElT.of2 (el := 5) (by kernel_rfl) (by kernel_rfl) (by kernel_rfl)
theorem en43 : Enters Tryd.prog 43 := fun _ _ => by kernel_rfl
theorem en37 : Enters Tryd.prog 37 := fun _ _ => by kernel_rfl
theorem en38 : Enters Tryd.prog 38 := fun _ _ => by kernel_rfl
theorem en28 : Enters Tryd.prog 28 := fun _ _ => by kernel_rfl
theorem en29 : Enters Tryd.prog 29 := fun _ _ => by kernel_rfl
theorem zr72 : ((Tryd.prog.info? 72).bind (·.zero)).map (fun z => z.cells.toList) = some (((Enc.int .u8).arr 10).cells (Vector.replicate 10 0)) := by kernel_rfl
set_option maxRecDepth 100000 in
theorem al72 {G : World} {N : Nat} {T : Env} {H : List Res} {ty : TypeId} : OpX Tryd.prog G N T H (.alloc 72) ty (fun b : Nat => .pointer (some ⟨b, 0, none⟩)) (fun b => bx b (((Enc.int .u8).arr 10).cells (Vector.replicate 10 0)) :: H) := R.alloc zr72
theorem bz72 {G : World} {N : Nat} {T : Env} {H : List Res} {ty : TypeId} {parts : Array (Nat × Operand)} (hv : parts = #[]) : OpV Tryd.prog G N T H (.build 72 parts) ty (.agg (((Enc.int .u8).arr 10).cells (Vector.replicate 10 0)).toArray) := fun a w s _ _ _ _ => by
  subst hv
  kernel_rfl
theorem sz72 : (Tryd.prog.info? 72).map (·.size) = some ((Enc.int .u8).arr 10).size := by kernel_rfl
theorem ia72 : ∀ w, (isAgg 72).run Tryd.prog w = .ok true w := fun _ => by kernel_rfl
theorem en55 : Enters Tryd.prog 55 := fun _ _ => by kernel_rfl
theorem en64 : Enters Tryd.prog 64 := fun _ _ => by kernel_rfl
theorem en63 : Enters Tryd.prog 63 := fun _ _ => by kernel_rfl
theorem en54 : Enters Tryd.prog 54 := fun _ _ => by kernel_rfl
theorem en65 : Enters Tryd.prog 65 := fun _ _ => by kernel_rfl
theorem en66 : Enters Tryd.prog 66 := fun _ _ => by kernel_rfl
theorem el70 : ElT Tryd.prog 70 ((Enc.int .u8).arr 10) (Vector.replicate 10 0) := ElT.of2 (el := 72) (by kernel_rfl) (by kernel_rfl) (by kernel_rfl)
theorem en51 : Enters Tryd.prog 51 := fun _ _ => by kernel_rfl
theorem en52 : Enters Tryd.prog 52 := fun _ _ => by kernel_rfl
theorem en53 : Enters Tryd.prog 53 := fun _ _ => by kernel_rfl
theorem en48 : Enters Tryd.prog 48 := fun _ _ => by kernel_rfl
theorem en40 : Enters Tryd.prog 40 := fun _ _ => by kernel_rfl
theorem en41 : Enters Tryd.prog 41 := fun _ _ => by kernel_rfl
theorem en42 : Enters Tryd.prog 42 := fun _ _ => by kernel_rfl
theorem en30 : Enters Tryd.prog 30 := fun _ _ => by kernel_rfl
theorem ia44 : ∀ w, (isAgg 44).run Tryd.prog w = .ok false w := fun _ => by kernel_rfl
theorem en57 : Enters Tryd.prog 57 := fun _ _ => by kernel_rfl
theorem en56 : Enters Tryd.prog 56 := fun _ _ => by kernel_rfl
theorem el60 : ElT Tryd.prog 60 (Enc.int .i64) 0 := ElT.of2 (el := 44) (by kernel_rfl) (by kernel_rfl) (by kernel_rfl)
theorem sz44 : (Tryd.prog.info? 44).map (·.size) = some (Enc.int .i64).size := by kernel_rfl
theorem us89 : (Tryd.prog.underlying 89).isSome = true := by kernel_rfl
theorem un9 : Tryd.prog.underlying 9 = some .string := by kernel_rfl
theorem en76 : Enters Tryd.prog 76 := fun _ _ => by kernel_rfl
theorem en67 : Enters Tryd.prog 67 := fun _ _ => by kernel_rfl
theorem un78 : Tryd.prog.underlying 78 = some (.int .u64) := by kernel_rfl
theorem us3 : (Tryd.prog.underlying 3).isSome = true := by kernel_rfl
theorem en59 : Enters Tryd.prog 59 := fun _ _ => by kernel_rfl
theorem en58 : Enters Tryd.prog 58 := fun _ _ => by kernel_rfl
theorem un102 : Tryd.prog.underlying 102 = some (.array 64 5) := by kernel_rfl
theorem en61 : Enters Tryd.prog 61 := fun _ _ => by kernel_rfl
theorem us44 : (Tryd.prog.underlying 44).isSome = true := by kernel_rfl
theorem en47 : Enters Tryd.prog 47 := fun _ _ => by kernel_rfl
theorem en44 : Enters Tryd.prog 44 := fun _ _ => by kernel_rfl
theorem en46 : Enters Tryd.prog 46 := fun _ _ => by kernel_rfl
theorem en45 : Enters Tryd.prog 45 := fun _ _ => by kernel_rfl
theorem ia63 : ∀ w, (isAgg 63).run Tryd.prog w = .ok false w := fun _ => by kernel_rfl
theorem en31 : Enters Tryd.prog 31 := fun _ _ => by kernel_rfl
theorem zr26 : ((Tryd.prog.info? 26).bind (·.zero)).map (fun z => z.cells.toList) = some ([.slice none 0 0]) := by kernel_rfl
set_option maxRecDepth 100000 in
theorem al26 {G : World} {N : Nat} {T : Env} {H : List Res} {ty : TypeId} : OpX Tryd.prog G N T H (.alloc 26) ty (fun b : Nat => .pointer (some ⟨b, 0, none⟩)) (fun b => bx b ([.slice none 0 0]) :: H) := R.alloc zr26
theorem zr63 : ((Tryd.prog.info? 63).bind (·.zero)).map (fun z => z.cells.toList) = some ([.slice none 0 0]) := by kernel_rfl
set_option maxRecDepth 100000 in
theorem al63 {G : World} {N : Nat} {T : Env} {H : List Res} {ty : TypeId} : OpX Tryd.prog G N T H (.alloc 63) ty (fun b : Nat => .pointer (some ⟨b, 0, none⟩)) (fun b => bx b ([.slice none 0 0]) :: H) := R.alloc zr63
theorem sz26 : (Tryd.prog.info? 26).map (·.size) = some 1 := by kernel_rfl
theorem sz63 : (Tryd.prog.info? 63).map (·.size) = some 1 := by kernel_rfl
theorem en32 : Enters Tryd.prog 32 := fun _ _ => by kernel_rfl
theorem en34 : Enters Tryd.prog 34 := fun _ _ => by kernel_rfl
theorem en33 : Enters Tryd.prog 33 := fun _ _ => by kernel_rfl
theorem en16 : Enters Tryd.prog 16 := fun _ _ => by kernel_rfl
theorem en18 : Enters Tryd.prog 18 := fun _ _ => by kernel_rfl
theorem en17 : Enters Tryd.prog 17 := fun _ _ => by kernel_rfl
theorem en19 : Enters Tryd.prog 19 := fun _ _ => by kernel_rfl
theorem en35 : Enters Tryd.prog 35 := fun _ _ => by kernel_rfl
theorem en20 : Enters Tryd.prog 20 := fun _ _ => by kernel_rfl
theorem ia25 : ∀ w, (isAgg 25).run Tryd.prog w = .ok true w := fun _ => by kernel_rfl
theorem sz25 : (Tryd.prog.info? 25).map (·.size) = some e_S_Square.size := by kernel_rfl
theorem en5 : Enters Tryd.prog 5 := fun _ _ => by kernel_rfl
theorem en6 : Enters Tryd.prog 6 := fun _ _ => by kernel_rfl
theorem en4 : Enters Tryd.prog 4 := fun _ _ => by kernel_rfl
theorem en7 : Enters Tryd.prog 7 := fun _ _ => by kernel_rfl
theorem en8 : Enters Tryd.prog 8 := fun _ _ => by kernel_rfl
theorem en9 : Enters Tryd.prog 9 := fun _ _ => by kernel_rfl
theorem en10 : Enters Tryd.prog 10 := fun _ _ => by kernel_rfl
theorem en11 : Enters Tryd.prog 11 := fun _ _ => by kernel_rfl
end Go.Proofs.YtppjhbjcemnfmaaDoor
