/-
  PARTS: errors.As AT AN Errno, and plain.Told: of nil OK, of an Errno it.; WHAT ALL CARDS OF A DOOR SEAT WANT: the listed variable's cell, a world that meets the condition.; WHAT THE CARDS WANT WHERE utf8's TABLES ARE LISTED: the variables' cells, a world that meets the condition.; WHAT THE CARDS WANT WHERE strconv's TABLES AND ERRORS AND errors.errorType ARE LISTED.; TREES BY WHAT IS LOOKED UP IN THEM, in plain Lean: what put and drop do to each path; two trees in which each path reads the same are the same.; A SLICE OF A SLICE, as a run, at whatever element type.; THE WALKS OF LAYER 4: slices.Clone, hunk.Copy.; THE WALK of algebra.Split: a patch in pieces.; WHAT WAS DONE LEADS FROM A TREE TO A TREE, in plain Lean.
-/
import Derived.Test.YtjiaidchcldocaaGreatDoorPg1
import Derived.Test.YtjiaidchcldocaaGreatDoorPg2
import Derived.Test.YtjiaidchcldocaaGreatDoorPg3
import Derived.Test.YtjiaidchcldocaaGreatDoorPg4
import Derived.Test.YtjiaidchcldocaaGreatDoorPg5
import Derived.Test.YtjiaidchcldocaaGreatDoorPg6
import Derived.Test.YtjiaidchcldocaaGreatDoorPg7
import Derived.Test.YtjiaidchcldocaaGreatDoorPg8
import Derived.Test.YtjiaidchcldocaaGreatDoorPg9
import Derived.Test.YtjiaidchcldocaaGreatDoorPg10
import Derived.Test.YtjiaidchcldocaaGreatDoorPg11
import Derived.Test.YtjiaidchcldocaaGreatDoorPg12
import Derived.Test.YtjiaidchcldocaaGreatDoorPg13
import Derived.Test.YtjiaidchcldocaaGreatDoorPg14
import Derived.Test.YtjiaidchcldocaaGreatDoorPg15
import Derived.Test.YtjiaidchcldocaaGreatDoorPg16
import Derived.Test.YtjiaidchcldocaaGreatDoorPg17
import Derived.Test.YtjiaidchcldocaaGreatDoorPg18
import Derived.Test.YtjiaidchcldocaaGreatDoorPg19
import Derived.Test.YtjiaidchcldocaaGreatDoorPg20
import Derived.Test.YtjiaidchcldocaaGreatDoorPg21
import Derived.Test.YtjiaidchcldocaaGreatDoorPg22
import Derived.Test.YtjiaidchcldocaaGreatDoorPg23
import Derived.Test.YtjiaidchcldocaaGreatDoorPg24
import Derived.Test.YtjiaidchcldocaaGreatDoorPg25
import Derived.Test.YtjiaidchcldocaaGreatDoorPg26
import Derived.Test.YtjiaidchcldocaaGreatDoorPg27
import Derived.Test.YtjiaidchcldocaaGreatDoorPg28
import Derived.Test.YtjiaidchcldocaaGreatDoorPg29
import Derived.Test.YtjiaidchcldocaaGreatDoorPg30
import Derived.Test.YtjiaidchcldocaaGreatDoorPg31
import Derived.Test.YtjiaidchcldocaaGreatDoorPg32
import Derived.Test.YtjiaidchcldocaaGreatDoorPg33
import Derived.Test.YtjiaidchcldocaaGreatDoorPg34
import Derived.Test.YtjiaidchcldocaaGreatDoorPg35
import Derived.Test.YtjiaidchcldocaaGreatDoorPg36
import Derived.Test.YtjiaidchcldocaaGreatDoorPg37
import Derived.Test.YtjiaidchcldocaaGreatDoorPg38
import Derived.Stop.Asserts
import Derived.RowKitTokens
import Derived.LaidEql
import Derived.Test.YtjiaidchcldocaaGreatDoorCards
import Derived.Test.YtjiaidchcldocaaGreatDoorTie
import Derived.WalkKit
import Derived.ProofKit
import Derived.OpenShut
import Derived.Deep.DeepHandedRow
import Derived.LaidLaws
import Derived.LaidHandle
import Derived.Test.YtjiaidchcldocaaGreatDoorShelf
import Derived.ChangeMaps5
import Derived.LaidSub
set_option linter.unusedVariables false
set_option linter.unusedSimpArgs false
namespace Go.Proofs.YtjiaidchcldocaaGreatDoor
open Go.RowKit Go.Extern.Stop Go.Stop Go.Extern

abbrev vP (a : Addr) : Value := .agg #[.pointer (some ⟨9, 182, none⟩), .pointer (some a), .int .u64 150]
abbrev vE (a : Addr) : Value := .agg #[.pointer (some ⟨9, 38, none⟩), .pointer (some a), .int .u64 130]
abbrev vEa (a : Addr) : Value := .agg #[.pointer (some ⟨9, 38, none⟩), .pointer (some a), .int .u64 386]
abbrev tP : Value := .agg #[.pointer (some ⟨9, 182, none⟩)]
abbrev tE : Value := .agg #[.pointer (some ⟨9, 38, none⟩)]

theorem as_valueOfP (t : Addr) (w : World) : (ReflectliteValue.unpack (.iface 182 (.pointer (some t)))).run Tryz.prog w
    = .ok (vP ⟨w.heap.size, 0, none⟩) (w.alloc (.cells #[.pointer (some t)] 182)) := by kernel_rfl
theorem as_typeP (a : Addr) (w : World) : (ReflectliteValue.methodAny (ReflectliteValue.valueError "reflectlite.Value.Type" 0) (fun t _ _ _ => ReflectliteType.toType t) #[vP a]).run Tryz.prog w
    = .ok (.iface 276 tP) w := by kernel_rfl
theorem as_kindP (w : World) : ((ReflectliteType.abiMethod fun t => (fun a : Nat => Value.int IntKind.u8 (a : Int)) <$> Rtype.kind t) #[.pointer (some ⟨9, 182, none⟩)]).run Tryz.prog w = .ok (.int .u8 22) w := by kernel_rfl
theorem as_kindE (w : World) : ((ReflectliteType.abiMethod fun t => (fun a : Nat => Value.int IntKind.u8 (a : Int)) <$> Rtype.kind t) #[.pointer (some ⟨9, 38, none⟩)]).run Tryz.prog w = .ok (.int .u8 2) w := by kernel_rfl
theorem as_rlm (z : Sem Value) (f : TypeId → Addr → Nat → Nat → Sem Value) (v : Value) :
    ReflectliteValue.method z f #[v] = (do match ← ReflectliteValue.parts v with | none => z | some (t, a, fl) => f t a fl (fl % 32)) := rfl
theorem as_partsP (a : Addr) (w : World) : (ReflectliteValue.parts (vP a)).run Tryz.prog w = .ok (some (182, a, 150)) w := by kernel_rfl
theorem as_isNilP (a p : Addr) (W : World) (ha : W.cell? a = some (.pointer (some p))) :
    (ReflectliteValue.method (ReflectliteValue.valueError "reflectlite.Value.IsNil" 0) ReflectliteValue.isNil #[vP a]).run Tryz.prog W = .ok (.bool false) W := by
  rw [as_rlm]
  simp only [Sem.run_bind, as_partsP, Result.andThen]
  simp [ReflectliteValue.isNil, loadVar, isAgg, underlying, Tryz.underlying182, ha, Result.andThen]
theorem as_methodKind (h : Value) (w : World) : (Go.method 463 276 (.agg #[h]) "Kind").run Tryz.prog w = .ok (254, h) w := by kernel_rfl
theorem as_elemP (w : World) : (ReflectliteType.method ReflectliteType.elem #[tP]).run Tryz.prog w = .ok (.iface 276 tE) w := by kernel_rfl
theorem as_implE (w : World) : (ReflectliteType.relation "Implements" ReflectliteType.implements_ #[tE, errT]).run Tryz.prog w = .ok (.bool true) w := by kernel_rfl
theorem as_typeOfE (v : Value) (w : World) : (ReflectliteType.typeOf #[.iface 38 v]).run Tryz.prog w = .ok (.iface 276 tE) w := by kernel_rfl
theorem as_assignE (w : World) : (ReflectliteType.relation "AssignableTo" ReflectliteType.assignableTo #[tE, .iface 276 tE]).run Tryz.prog w = .ok (.bool true) w := by kernel_rfl
theorem as_valueOfE (k : Int) (w : World) : (ReflectliteValue.unpack (.iface 38 (.int .i64 k))).run Tryz.prog w
    = .ok (vE ⟨w.heap.size, 0, none⟩) (w.alloc (.cells #[.int .i64 k] 38)) := by kernel_rfl
theorem as_elemOfP (w : World) : (Rtype.elem? 182).run Tryz.prog w = .ok (some 38) w := by kernel_rfl
theorem as_mkE (p : Addr) (w : World) : (ReflectliteValue.mk 38 p ReflectliteValue.flagAddr).run Tryz.prog w = .ok (vEa p) w := by kernel_rfl
theorem as_elemVP (a p : Addr) (W : World) (ha : W.cell? a = some (.pointer (some p))) :
    (ReflectliteValue.method (ReflectliteValue.valueError "reflectlite.Value.Elem" 0) ReflectliteValue.elem #[vP a]).run Tryz.prog W = .ok (vEa p) W := by
  rw [as_rlm]
  simp only [Sem.run_bind, as_partsP, Result.andThen]
  simp [ReflectliteValue.elem, loadVar, isAgg, underlying, Tryz.underlying182, ha, Result.andThen, as_elemOfP, as_mkE]
theorem as_rls (v x : Value) : ReflectliteValue.set #[v, x] = (do
    let (some (dst, a, fl), some (src, b, _)) := (← ReflectliteValue.parts v, ← ReflectliteValue.parts x)
      | unsupported (.noEntry "extern/(internal/reflectlite.Value).Set.zeroValue")
    if fl / ReflectliteValue.flagAddr % 2 == 0 then unsupported (.noEntry "extern/(internal/reflectlite.Value).Set.unaddressable")
    let val ← loadVar src b
    if ← Rtype.directlyAssignable dst src then storeVar dst a val
    else if ← Rtype.implements dst src then
      if (← Rtype.kind src) == 20 then
        match val with
        | .nilIface => unsupported (.noEntry "extern/reflectlite: a nil value of one interface type handed on as a value of another")
        | _ => storeVar dst a val
      else storeVar dst a (.iface src val)
    else panicString ("reflectlite.Set: value of type " ++ (← Rtype.spelt src) ++ " is not assignable to type " ++ (← Rtype.spelt dst))
    pure (.tuple #[])) := rfl
theorem as_partsEa (a : Addr) (w : World) : (ReflectliteValue.parts (vEa a)).run Tryz.prog w = .ok (some (38, a, 386)) w := by kernel_rfl
theorem as_partsE (a : Addr) (w : World) : (ReflectliteValue.parts (vE a)).run Tryz.prog w = .ok (some (38, a, 130)) w := by kernel_rfl
theorem as_directE (w : World) : (Rtype.directlyAssignable 38 38).run Tryz.prog w = .ok true w := by kernel_rfl
theorem as_setE (ta b : Addr) (k : Int) (old : Value) (W : World) (hb : W.cell? b = some (.int .i64 k)) (ht : W.cell? ta = some old) (hf : W.frozen? ta = false) :
    (ReflectliteValue.set #[vEa ta, vE b]).run Tryz.prog W = .ok (.tuple #[]) (W.setCell ta (.int .i64 k)) := by
  rw [as_rls]
  simp only [Sem.run_bind, as_partsEa, as_partsE, Result.andThen]
  simp [ReflectliteValue.flagAddr, loadVar, isAgg, underlying, Tryz.underlying38, hb, Result.andThen, as_directE, storeVar, Value.cells, storeCells, Addr.add]
  rw [run_store Tryz.prog W ta _ _ (by rfl)]
  simp [ht, hf]
theorem as_methodElem (h : Value) (w : World) : (Go.method 463 276 (.agg #[h]) "Elem").run Tryz.prog w = .ok (270, .agg #[h]) w := by kernel_rfl
theorem as_methodImplements (h : Value) (w : World) : (Go.method 463 276 (.agg #[h]) "Implements").run Tryz.prog w = .ok (271, .agg #[h]) w := by kernel_rfl
theorem as_methodAssignableTo (h : Value) (w : World) : (Go.method 463 276 (.agg #[h]) "AssignableTo").run Tryz.prog w = .ok (268, .agg #[h]) w := by kernel_rfl
/-- the worlds of the call -/
abbrev asW1 (w : World) (t : Addr) : World := w.alloc (.cells #[.pointer (some t)] 182)
abbrev asC (w : World) : Obj := .cells #[.pointer (some ⟨9, 182, none⟩), .pointer (some ⟨w.heap.size, 0, none⟩), .int .u64 150] 234
abbrev asW2 (w : World) (t : Addr) : World := (asW1 w t).alloc (asC w)
abbrev asW3 (w : World) (t : Addr) : World := (asW2 w t).alloc (asC w)
abbrev asW4 (w : World) (t : Addr) (k : Int) : World := (asW3 w t).alloc (.cells #[.int .i64 k] 38)

set_option maxRecDepth 100000 in
set_option maxHeartbeats 4000000 in
theorem as_hit (k : Int) (t : Addr) (old : Value) (w : World) (hg : w.cell? ⟨0, 0, none⟩ = some errT) (ht0 : w.cell? t = some old) (hf0 : w.frozen? t = false) :
    Calls Tryz.prog 100 #[.iface 38 (.int .i64 k), .iface 182 (.pointer (some t))] w fun ev w' => ev = .returned (.bool true) ∧ w' = (asW4 w t k).setCell t (.int .i64 k) := by
  have h6 := @run_callFunc_extern Tryz.prog 153 _ (fun args => ReflectliteValue.unpack (args.getD 0 (.tuple #[]))) Tryz.func153 (by kernel_rfl) (by kernel_rfl) (by kernel_rfl) (by kernel_rfl)
  have h7 := @run_callFunc_extern Tryz.prog 154 _ (ReflectliteValue.methodAny (ReflectliteValue.valueError "reflectlite.Value.Type" 0) (fun t _ _ _ => ReflectliteType.toType t)) Tryz.func154 (by kernel_rfl) (by kernel_rfl) (by kernel_rfl) (by kernel_rfl)
  have h8 := @run_callFunc_extern Tryz.prog 155 _ (ReflectliteValue.method (ReflectliteValue.valueError "reflectlite.Value.IsNil" 0) ReflectliteValue.isNil) Tryz.func155 (by kernel_rfl) (by kernel_rfl) (by kernel_rfl) (by kernel_rfl)
  have h27 := @run_callFunc_extern Tryz.prog 254 _ (ReflectliteType.abiMethod fun t => do pure (.int .u8 (← Rtype.kind t))) Tryz.func254 (by kernel_rfl) (by kernel_rfl) (by kernel_rfl) (by kernel_rfl)
  have h37 := @run_callFunc_extern Tryz.prog 270 _ (ReflectliteType.method ReflectliteType.elem) Tryz.func270 (by kernel_rfl) (by kernel_rfl) (by kernel_rfl) (by kernel_rfl)
  have h38 := @run_callFunc_extern Tryz.prog 271 _ (ReflectliteType.relation "Implements" ReflectliteType.implements_) Tryz.func271 (by kernel_rfl) (by kernel_rfl) (by kernel_rfl) (by kernel_rfl)
  have h10 := @run_callFunc_extern Tryz.prog 195 _ ReflectliteType.typeOf Tryz.func195 (by kernel_rfl) (by kernel_rfl) (by kernel_rfl) (by kernel_rfl)
  have h35 := @run_callFunc_extern Tryz.prog 268 _ (ReflectliteType.relation "AssignableTo" ReflectliteType.assignableTo) Tryz.func268 (by kernel_rfl) (by kernel_rfl) (by kernel_rfl) (by kernel_rfl)
  have h11 := @run_callFunc_extern Tryz.prog 196 _ (ReflectliteValue.method (ReflectliteValue.valueError "reflectlite.Value.Elem" 0) ReflectliteValue.elem) Tryz.func196 (by kernel_rfl) (by kernel_rfl) (by kernel_rfl) (by kernel_rfl)
  have h12 := @run_callFunc_extern Tryz.prog 197 _ ReflectliteValue.set Tryz.func197 (by kernel_rfl) (by kernel_rfl) (by kernel_rfl) (by kernel_rfl)
  have tO := as_typeOfE
  have mA := as_methodAssignableTo
  have a25 := as_assignE
  have v25 := as_valueOfE
  have f6 := as_valueOfP
  have f7 := as_typeP
  have mK := as_methodKind
  have mE := as_methodElem
  have mI := as_methodImplements
  have k27 := as_kindP
  have k25 := as_kindE
  have e27 := as_elemP
  have i25 := as_implE
  have n8 := as_isNilP ⟨w.heap.size, 0, none⟩ t (asW2 w t) (by simp)
  have hlt : 0 < w.heap.size := by
    rcases Nat.lt_or_ge 0 w.heap.size with h | h
    · exact h
    · simp [World.cell?, Array.getElem?_eq_none h] at hg
  have hg2 : (asW2 w t).cell? ⟨0, 0, none⟩ = some errT := by
    rw [World.cell?_alloc_lt _ _ ⟨0, 0, none⟩ (by first | (simp; done) | (simp; omega)), World.cell?_alloc_lt _ _ ⟨0, 0, none⟩ hlt]; exact hg
  have htl : t.block < w.heap.size := by
    rcases Nat.lt_or_ge t.block w.heap.size with h | h
    · exact h
    · simp [World.cell?, Array.getElem?_eq_none h] at ht0
  have el := as_elemVP ⟨w.heap.size, 0, none⟩ t (asW3 w t) (by rw [World.cell?_alloc_lt _ _ ⟨w.heap.size, 0, none⟩ (by simp; omega)]; simp)
  have st := as_setE t ⟨w.heap.size + 1 + 1 + 1, 0, none⟩ k old (asW4 w t k)
    (by rw [World.cell?_alloc_at _ _ _ _ (by simp)]; rfl)
    (by rw [World.cell?_alloc_lt _ _ t (by simp; omega), World.cell?_alloc_lt _ _ t (by simp; omega), World.cell?_alloc_lt _ _ t (by simp; omega), World.cell?_alloc_lt _ _ t htl]; exact ht0)
    (by rw [World.frozen?_alloc_old _ _ t (by simp; omega), World.frozen?_alloc_old _ _ t (by simp; omega), World.frozen?_alloc_old _ _ t (by simp; omega), World.frozen?_alloc_old _ _ t (Nat.ne_of_lt htl)]; exact hf0)
  go_enter Tryz.func100, Tryz.ntmps100
  go_wp2
  refine wp_loop_rounds 1 ?_
  rw [rounds_succ]
  go_wp2
  go_ret
  exact ⟨rfl, rfl⟩

/-- from w to w' what was there has stayed, and the type's handle is still there -/
theorem told_hit (k : Int) (w : World) (hg : w.cell? ⟨0, 0, none⟩ = some errT) :
    Calls Tryz.prog 47 #[.iface 38 (.int .i64 k)] w fun e w' => e = .returned (.int .i64 k) ∧ Chg Never w w' := by
  have hlt : 0 < w.heap.size := by
    rcases Nat.lt_or_ge 0 w.heap.size with h | h
    · exact h
    · simp [World.cell?, Array.getElem?_eq_none h] at hg
  have hgA : (w.alloc (.cells #[.int .i64 0] 38)).cell? ⟨0, 0, none⟩ = some errT := by rw [World.cell?_alloc_lt _ _ ⟨0, 0, none⟩ hlt]; exact hg
  have htA : (w.alloc (.cells #[.int .i64 0] 38)).cell? ⟨w.heap.size, 0, none⟩ = some (.int .i64 0) := by simp
  have hfA : (w.alloc (.cells #[.int .i64 0] 38)).frozen? ⟨w.heap.size, 0, none⟩ = false := by simp
  go_enter Tryz.func47, Tryz.ntmps47
  go_wp2_with (go_at_call 100; refine (as_hit k _ (.int .i64 0) _ hgA htA hfA).mono ?_; rintro e w' ⟨rfl, rfl⟩)
  go_ret
  refine ⟨rfl, ?_⟩
  exact (((((Chg.refl Never w).alloc _).alloc _).alloc _).alloc _).alloc _
theorem told_nil (w : World) : Calls Tryz.prog 47 #[.nilIface] w fun e w' => e = .returned (.int .i64 0) ∧ Chg Never w w' := by
  go_enter Tryz.func47, Tryz.ntmps47
  go_wp2
  go_ret
  exact ⟨rfl, Chg.refl _ _⟩
theorem told_any (k : Int) (w : World) (hg : w.cell? ⟨0, 0, none⟩ = some errT) :
    Calls Tryz.prog 47 #[errV k] w fun e w' => e = .returned (.int .i64 k) ∧ Chg Never w w' := by
  by_cases h : k = 0
  · subst h; exact told_nil w
  · rw [errV_pos h]; exact told_hit k w hg
/-- handstitchsame.Error -/
theorem error_any (k e : Int) (w : World) (hg : w.cell? ⟨0, 0, none⟩ = some errT) :
    Calls Tryz.prog 15 #[errV k, .int .i64 e] w fun x w' => x = .returned (.bool (k == e)) ∧ Chg Never w w' := by
  go_enter Tryz.func15, Tryz.ntmps15
  go_wp2_with (go_at_call 47; refine (told_any k _ hg).mono ?_; rintro e w' ⟨rfl, hc⟩)
  go_ret
  exact ⟨rfl, hc⟩
end Go.Proofs.YtjiaidchcldocaaGreatDoor
namespace Go.Proofs.YtjiaidchcldocaaGreatDoor
open Go.ChangeShapes Go.WideShapes Go.ChangeAt Go.RowKit

theorem as_et : Tryz.prog.globalNamed "errors.errorType" = some 0 := by kernel_rfl
theorem as_rt : (Tryz.prog.cutTypes.find? (·.1 == "internal/reflectlite.rtype")).map (·.2) = some 276 := by kernel_rfl
theorem as_oneRow : ((List.range 363).filter fun t => Tryz.prog.rowNamed t [101, 114, 114, 111, 114]) = [26] := by kernel_rfl
theorem as_size : Tryz.prog.types.size = 363 := by kernel_rfl
end Go.Proofs.YtjiaidchcldocaaGreatDoor
namespace Go.Proofs.YtjiaidchcldocaaGreatDoor
open Go.ChangeShapes Go.WideShapes Go.ChangeAt Go.RowKit

abbrev listedTE : List (String × DataW Unit) := [("unicode/utf8.acceptRanges", Rows.laid_unicode_utf8_acceptRanges), ("errors.errorType", Rows.laid_errors_errorType), ("unicode/utf8.first", Rows.laid_unicode_utf8_first)]
abbrev listedT : List (String × DataW Unit) := [("unicode/utf8.acceptRanges", Rows.laid_unicode_utf8_acceptRanges), ("unicode/utf8.first", Rows.laid_unicode_utf8_first)]
theorem handle_of_laidTE {W : World} (h : laidMetH Tryz.prog listedTE W) : W.cell? ⟨0, 0, none⟩ = some errT := by
  have h' : laidMet Tryz.prog listedT W ∧ handlesMet Tryz.prog listed W := h
  obtain ⟨name, u, ty, e1, e2, e3, e4, e5⟩ := h'.2 _ (List.mem_singleton.2 rfl)
  have en : name = [101, 114, 114, 111, 114] := (Option.some.inj e1).symm
  subst en
  obtain rfl := Option.some.inj (as_rt.symm.trans e2)
  have hm : ty ∈ (List.range 363).filter fun t => Tryz.prog.rowNamed t [101, 114, 114, 111, 114] := List.mem_filter.2 ⟨List.mem_range.2 (by rw [← as_size]; exact e3), e4⟩
  rw [as_oneRow] at hm
  obtain rfl := List.mem_singleton.1 hm
  have hh : typeHandle Tryz.prog 26 = .pointer (some ⟨9, 26, none⟩) := by kernel_rfl
  rw [hh] at e5
  simpa using World.var?_cell as_et e5 0
end Go.Proofs.YtjiaidchcldocaaGreatDoor
namespace Go.Proofs.YtjiaidchcldocaaGreatDoor
open Go.ChangeShapes Go.WideShapes Go.ChangeAt Go.RowKit

abbrev listedGI : List (String × DataW Unit) := [("math/bits.deBruijn32tab", Rows.laid_math_bits_deBruijn32tab), ("math/bits.deBruijn64tab", Rows.laid_math_bits_deBruijn64tab), ("internal/strconv.uint64pow10", Rows.laid_internal_strconv_uint64pow10), ("unicode/utf8.acceptRanges", Rows.laid_unicode_utf8_acceptRanges), ("errors.errorType", Rows.laid_errors_errorType), ("strconv.ErrRange", Rows.laid_strconv_ErrRange), ("strconv.ErrSyntax", Rows.laid_strconv_ErrSyntax), ("unicode/utf8.first", Rows.laid_unicode_utf8_first)]
theorem laidWorldG_metD (os : Os) (args : Array Value) : laidMet Tryz.prog listedGB ((laidWorldG os).forCall (fun _ _ => 0) ⟨#[], args, []⟩).memory := laidWorldGB_met os args
theorem laidWorldGI_met (os : Os) (args : Array Value) : laidMetH Tryz.prog listedGI ((laidWorldG os).forCall (fun _ _ => 0) ⟨#[], args, []⟩).memory :=
  laidMetH_of_parts (laidWorldG_metD os args) (by kernel_rfl)
theorem parts_of_laidGI {W : World} (h : laidMetH Tryz.prog listedGI W) : laidMet Tryz.prog listedGB W ∧ handlesMet Tryz.prog listed W := h
def keepT (x : String × DataW Unit) : Bool := x.1 == "unicode/utf8.acceptRanges" || x.1 == "unicode/utf8.first"
theorem keepT_GB : listedGB.filter keepT = listedT := by
  unfold keepT
  simp [listedGB, listedT]
theorem handle_of_laidGI {W : World} (h : laidMetH Tryz.prog listedGI W) : W.cell? ⟨0, 0, none⟩ = some errT := by
  have h1 := laidMet.filter keepT (parts_of_laidGI h).1
  rw [keepT_GB] at h1
  exact handle_of_laidTE (show laidMet Tryz.prog listedT W ∧ handlesMet Tryz.prog listed W from ⟨h1, (parts_of_laidGI h).2⟩)
end Go.Proofs.YtjiaidchcldocaaGreatDoor
namespace Go.Proofs.YtjiaidchcldocaaGreatDoor

theorem posOf_look {t : List File} (hs : Sorted t) (p : ByteArray) : ((t[posOf t p]?).map (·.lines)).getD [] = (look t p).getD [] ∨ isAt t p = false := by
  obtain ⟨A, C, a1, a2, _, _, a5, a6⟩ := tree_split hs p
  rcases a6 with ⟨b1, w, b2, rfl⟩ | ⟨b1, _⟩
  · rw [a5, look_app, look_none fun x hx => less_ne (a1 x hx), look_cons, if_pos b2]
    exact .inl (by simp)
  · exact .inr b1
theorem putAt_mem {t : List File} {f x : File} (h : x ∈ putAt t f) : x = f ∨ x ∈ t := by
  unfold putAt at h
  rcases List.mem_append.1 h with h | h
  · exact .inr (List.mem_of_mem_take h)
  · rcases List.mem_cons.1 h with h | h
    · exact .inl h
    · exact .inr (List.mem_of_mem_drop h)
theorem dropAt_len {t : List File} (hs : Sorted t) {p : ByteArray} (h : isAt t p = true) : (dropAt t (posOf t p)).length + 1 = t.length := by
  obtain ⟨A, C, a1, a2, a3, a4, a5, g, b1, b2⟩ := dropAt_isp hs h
  rw [a5, b2]; simp; omega
theorem dropAt_mem {t : List File} {k : Nat} {x : File} (h : x ∈ dropAt t k) : x ∈ t := by
  unfold dropAt at h
  rcases List.mem_append.1 h with h | h
  · exact List.mem_of_mem_take h
  · exact List.mem_of_mem_drop h
end Go.Proofs.YtjiaidchcldocaaGreatDoor
namespace Go.Proofs.YtjiaidchcldocaaGreatDoor
open Go.RowKit

theorem size_mark (w : World) : (sizeOf (Tryz.prog.elem 127)).run Tryz.prog w = .ok 2 w := by kernel_rfl
end Go.Proofs.YtjiaidchcldocaaGreatDoor
namespace Go.Proofs.YtjiaidchcldocaaGreatDoor
open Go.RowKit

theorem rd_mark_any (w : World) (O O' : Nat → Prop) : ∀ cs (y : Mark), Dat.rd w O cs y → Dat.rd w O' cs y := fun _ _ h => h
set_option maxHeartbeats 800000 in
set_option maxRecDepth 100000 in
theorem clone_mark (O : Nat → Prop) (l : List Mark) (v : Value) (w : World) (h : Rdv w O v l) (hl : l.length ≤ 1000000) :
    Calls Tryz.prog 146 #[v] w fun e w' => ∃ r, e = .returned r ∧ Chg Never w w' ∧ Own 126 w' (Old w.heap.size) r l := by
  obtain ⟨a, cap, rfl, h1, h2, h3⟩ := rdv_slice h
  unfold maxLen at h2
  cases a with
  | none =>
    have hn : l = [] := by
      cases l with
      | nil => rfl
      | cons x l =>
        obtain ⟨b, off, es, ha, _⟩ := h3 0 x rfl
        cases ha
    subst hn
    have he : ∀ wx, (binOp .eql 127 (.slice none 0 cap) (.slice none 0 0)).run Tryz.prog wx = .ok (.bool true) wx := fun wx => Lib.run_eql_slice_nil wx 127 126 none 0 cap 0 0 Tryz.underlying127
    go_enter Tryz.func146, Tryz.ntmps146
    go_wp2_with fail
    go_ret
    exact ⟨_, rfl, Chg.refl _ _, own_nil _ _ _⟩
  | some a =>
    have hm := own_made (α := Mark) w 126
    have hA : Chg Never w (w.alloc (.cells #[] 126)) := (Chg.refl Never w).alloc _
    have hr := (h.sub (O' := Never) (fun _ _ h => h.elim)).never hA
    have hO : ∀ k, Old w.heap.size k → k < (w.alloc (.cells #[] 126)).heap.size := by
      intro k hk
      unfold Old at hk
      simp
      omega
    have hle : ([] : List Mark).length + l.length ≤ 1000000000 := by simp; omega
    clear h3 h
    have he : ∀ wx, (binOp .eql 127 (.slice (some a) l.length cap) (.slice none 0 0)).run Tryz.prog wx = .ok (.bool false) wx := fun wx => Lib.run_eql_slice_nil wx 127 126 (some a) l.length cap 0 0 Tryz.underlying127
    go_enter Tryz.func146, Tryz.ntmps146
    go_wp2_with (at_builtin; refine wpList_many (by rfl) _ _ 127 (by rfl) elemOk_mark (O := Old w.heap.size) (by rfl) (by rfl) hm hr (rd_mark_any _ _ _) hO hle ?_; intro v' w5 hown2 hc2)
    have hc3 := own_step hA hm hc2
    clear hm hr hc2
    go_wp2_with fail
    go_ret
    exact ⟨_, rfl, hc3, hown2⟩

set_option maxHeartbeats 800000 in
set_option maxRecDepth 100000 in
theorem copy_any (h : Hunk) (mv : Value) (w : World) (hm : Rdv w Never mv h.marks) (hl : h.marks.length ≤ 120) :
    Calls Tryz.prog 95 #[.agg #[.int .i64 h.old, .int .i64 h.new, mv]] w fun e w' => ∃ r, e = .returned (.agg #[.int .i64 h.old, .int .i64 h.new, r]) ∧ Chg Never w w' ∧ Rdv w' (Old w.heap.size) r h.marks := by
  obtain ⟨o, n, l⟩ := h
  simp only at hm hl ⊢
  obtain ⟨a, cap, rfl, h1, h2, h3⟩ := rdv_slice hm
  have hA : Chg Never w ((w.alloc (.cells #[.int .i64 o, .int .i64 n, .slice a l.length cap] 129)).alloc (.cells #[.int .i64 0, .int .i64 0, .slice none 0 0] 129)) := ((Chg.refl Never w).alloc _).alloc _
  have hP : Blk3 ((w.alloc (.cells #[.int .i64 o, .int .i64 n, .slice a l.length cap] 129)).alloc (.cells #[.int .i64 0, .int .i64 0, .slice none 0 0] 129)) w.heap.size 129 (.int .i64 o) (.int .i64 n) (.slice a l.length cap) :=
    (Blk3.new w 129 (.int .i64 o) (.int .i64 n) (.slice a l.length cap)).keep (O := Never) ((Chg.refl _ _).alloc _) (fun h => h)
  have hR : Blk3 ((w.alloc (.cells #[.int .i64 o, .int .i64 n, .slice a l.length cap] 129)).alloc (.cells #[.int .i64 0, .int .i64 0, .slice none 0 0] 129)) (w.heap.size + 1) 129 (.int .i64 0) (.int .i64 0) (.slice none 0 0) := by
    have := Blk3.new (w.alloc (.cells #[.int .i64 o, .int .i64 n, .slice a l.length cap] 129)) 129 (.int .i64 0) (.int .i64 0) (.slice none 0 0)
    rw [World.size_alloc] at this
    exact this
  go_enter Tryz.func95, Tryz.ntmps95
  go_wp2_with fail
  refine (clone_mark Never l _ _ (hm.never hA) (by omega)).mono ?_
  rintro e w2 ⟨r, rfl, hc2, hown⟩
  obtain ⟨ra, rn, rc, rfl⟩ := own_isSlice hown
  have hP2 := hP.keep hc2 (fun h => h)
  have hR2 := hR.keep hc2 (fun h => h)
  have hc := hA.trans hc2
  have hown' := hown.keep (O'' := Old (w.heap.size + 2)) (Chg.refl Never _) (fun _ _ h => h.elim) (fun j _ hj => by unfold Old at *; simp; omega)
  have hP3 := hP2.set2 (.slice ra rn rc)
  have hR3 := hR2.keep (O := fun j => j = w.heap.size) ((Chg.refl (fun j => j = w.heap.size) w2).setCell (p := ⟨w.heap.size, 2, none⟩) (.inr rfl) (.slice ra rn rc)) (by omega)
  have hS : Chg (fun j => j = w.heap.size ∨ j = w.heap.size + 1) w2 ((((w2.setCell ⟨w.heap.size, 2, none⟩ (.slice ra rn rc)).setCell ⟨w.heap.size + 1, 0, none⟩ (.int .i64 o)).setCell ⟨w.heap.size + 1, 1, none⟩ (.int .i64 n)).setCell ⟨w.heap.size + 1, 2, none⟩ (.slice ra rn rc)) :=
    ((((Chg.refl (fun j => j = w.heap.size ∨ j = w.heap.size + 1) w2).setCell (p := ⟨w.heap.size, 2, none⟩) (.inr (.inl rfl)) _).setCell (p := ⟨w.heap.size + 1, 0, none⟩) (.inr (.inr rfl)) _).setCell (p := ⟨w.heap.size + 1, 1, none⟩) (.inr (.inr rfl)) _).setCell (p := ⟨w.heap.size + 1, 2, none⟩) (.inr (.inr rfl)) _
  have hr := (hown'.keep (O'' := Old w.heap.size) hS (fun j _ h => by unfold Old; omega) (fun j _ h => by unfold Old at *; omega)).rdv
  have hcF := hc.trans' hS (O := Never) (fun j hj h => by omega)
  obtain ⟨f0, f1, f2⟩ := (((hR3.set0 (.int .i64 o)).set1 (.int .i64 n)).set2 (.slice ra rn rc)).cell
  obtain ⟨p0, p1, p2⟩ := hP2.cell
  have pf := hP2.free
  obtain ⟨q0, q1, q2⟩ := hP3.cell
  obtain ⟨r0, r1, r2⟩ := hR3.cell
  have rf := hR3.free
  clear hS hown' hown hP hR hP3 hR3 hP2 hR2 hA hc2 hc h3 hm
  go_wp2_with fail
  exact bodyPost_ret (v := .agg #[.int .i64 o, .int .i64 n, .slice ra rn rc]) (by simp [results, Tryz.results95, go_sem, f0, f1, f2]) rfl ⟨_, rfl, hcF, hr⟩
end Go.Proofs.YtjiaidchcldocaaGreatDoor
namespace Go.Proofs.YtjiaidchcldocaaGreatDoor
open Go.RowKit

def pcF (e : List Change) : Int := (patchFault e).2
def splitPF (p : List Change) : Int := if (patchFault p).2 ≠ 0 then (patchFault p).2 else firstOf pcF (pieces p)
def splitPR (p : List Change) : List (List Change) := if splitPF p = 0 then pieces p else []
theorem pieces_take {p : List Change} {k : Nat} {c : Change} (h : p[k]? = some c) : pieces (p.take (k + 1)) = pieces (p.take k) ++ piecesC c := by
  unfold pieces
  rw [List.take_add_one, h, List.flatMap_append]; simp
theorem first_app {α : Type} (f : α → Int) : ∀ (a b : List α), firstOf f (a ++ b) = if firstOf f a = 0 then firstOf f b else firstOf f a
  | [], b => by simp [firstOf]
  | x :: a, b => by
    rw [List.cons_append, firstOf, firstOf]
    by_cases h : f x = 0
    · rw [if_pos h, if_pos h, first_app f a b]
    · rw [if_neg h, if_neg h, if_neg h]
theorem first_one {α : Type} (f : α → Int) (x : α) : firstOf f [x] = f x := by
  unfold firstOf
  split
  · rename_i h; rw [h]; rfl
  · rfl
theorem pcF_ok {c : Change} (h : changeFault c = 0) : pcF [c] = 0 := by
  unfold pcF
  rw [patch_ok ⟨by simp, fun d hd => by rw [List.mem_singleton.1 hd]; exact h, List.pairwise_singleton _ _⟩]
theorem pieces_split {p : List Change} {k : Nat} {c : Change} (h : p[k]? = some c) : pieces p = pieces (p.take k) ++ piecesC c ++ pieces (p.drop (k + 1)) := by
  have e : p = p.take k ++ c :: p.drop (k + 1) := by
    have := drop_eq h
    rw [← this, List.take_append_drop]
  unfold pieces
  conv => lhs; rw [e]
  rw [List.flatMap_append, List.flatMap_cons, List.append_assoc]
theorem split_bad {p : List Change} {k j : Nat} {c : Change} {h : Hunk} (hp : (patchFault p).2 = 0) (hc : p[k]? = some c) (hh : c.hunks[j]? = some h) (h0 : firstOf pcF (pieces (p.take k)) = 0) (h1 : firstOf pcF ((c.hunks.take j).map (hpieceOf c.what c.path)) = 0) (h2 : pcF (hpieceOf c.what c.path h) ≠ 0) :
    splitPF p = pcF (hpieceOf c.what c.path h) := by
  have hne : c.hunks ≠ [] := fun e => by rw [e] at hh; simp at hh
  have e2 : piecesC c = (c.hunks.take j).map (hpieceOf c.what c.path) ++ (hpieceOf c.what c.path h :: (c.hunks.drop (j + 1)).map (hpieceOf c.what c.path)) := by
    unfold piecesC
    rw [if_neg hne, ← List.map_cons, ← List.map_append, ← drop_eq hh, List.take_append_drop]
  unfold splitPF
  rw [if_neg (by rw [hp]; decide), pieces_split hc, List.append_assoc, first_app, if_pos h0, e2, List.append_assoc, first_app, if_pos h1, List.cons_append, firstOf, if_neg h2]
theorem pieces_len : ∀ (p : List Change), (∀ c ∈ p, c.hunks.length ≤ 60) → (pieces p).length ≤ 61 * p.length
  | [], _ => Nat.zero_le _
  | c :: r, h => by
    have h1 := pieces_len r (fun d hd => h d (List.mem_cons_of_mem _ hd))
    have h2 := h c (List.mem_cons_self ..)
    have e : (piecesC c).length ≤ 61 := by
      unfold piecesC
      split
      · simp
      · rw [List.length_map]; omega
    show (piecesC c ++ pieces r).length ≤ _
    rw [List.length_append, List.length_cons]; omega
theorem chg_fours (w : World) (B : Nat) (a b c d : Value) : Chg (fun j => j = B) w ((((w.setCell ⟨B, 0, none⟩ a).setCell ⟨B, 1, none⟩ b).setCell ⟨B, 2, none⟩ c).setCell ⟨B, 0, none⟩ d) :=
  ((((Chg.refl (fun j => j = B) w).setCell (p := ⟨B, 0, none⟩) (.inr rfl) a).setCell (p := ⟨B, 1, none⟩) (.inr rfl) b).setCell (p := ⟨B, 2, none⟩) (.inr rfl) c).setCell (p := ⟨B, 0, none⟩) (.inr rfl) d
theorem one_piece {w3 W6 : World} {B S : Nat} {h : Hunk} {k : Int} {pt : ByteArray} {x y z r : Value} (hB : Blk3 w3 B 129 x y z) (hr3 : Rdv w3 (Old (S + 1)) r h.marks) (hS : S = B) (hlt : S < w3.heap.size) (hpc : pt.size ≤ maxLen)
    (hW : W6 = (((((w3.setCell ⟨B, 0, none⟩ (.int .i64 h.old)).setCell ⟨B, 1, none⟩ (.int .i64 h.new)).setCell ⟨B, 2, none⟩ r).setCell ⟨B, 0, none⟩ (.int .i64 h.new)).alloc (.cells #[.int .i64 h.new, .int .i64 h.new, r] 129)).alloc (.cells #[.int .i64 k, .string pt, .slice (some ⟨w3.heap.size, 0, none⟩) 1 1] 85)) :
    Chg (fun j => j = B) w3 W6 ∧ Rdv W6 (Old S) (.slice (some ⟨w3.heap.size + 1, 0, none⟩) 1 1) (hpieceOf k pt h) := by
  have hc := chg_fours w3 B (.int .i64 h.old) (.int .i64 h.new) r (.int .i64 h.new)
  have hsz : ((((w3.setCell ⟨B, 0, none⟩ (.int .i64 h.old)).setCell ⟨B, 1, none⟩ (.int .i64 h.new)).setCell ⟨B, 2, none⟩ r).setCell ⟨B, 0, none⟩ (.int .i64 h.new)).heap.size = w3.heap.size := by simp
  generalize (((w3.setCell ⟨B, 0, none⟩ (.int .i64 h.old)).setCell ⟨B, 1, none⟩ (.int .i64 h.new)).setCell ⟨B, 2, none⟩ r).setCell ⟨B, 0, none⟩ (.int .i64 h.new) = W4 at hc hsz hW
  have hr4 : Rdv W4 (Old S) r h.marks := hr3.keep hc (fun j _ hj => by unfold Old; omega) (fun j _ hj => by unfold Old at *; omega)
  have hh5 := rdv_hunkO (t := 129) (x := ⟨h.new, h.new, h.marks⟩) hr4 (by rw [hsz]; unfold Old; omega)
  have hs5 : (W4.alloc (.cells #[.int .i64 h.new, .int .i64 h.new, r] 129)).heap.size = w3.heap.size + 1 := by rw [World.size_alloc, hsz]
  have hA5 : Chg Never W4 (W4.alloc (.cells #[.int .i64 h.new, .int .i64 h.new, r] 129)) := (Chg.refl Never W4).alloc _
  rw [hsz] at hh5
  simp only at hh5
  generalize W4.alloc (.cells #[.int .i64 h.new, .int .i64 h.new, r] 129) = W5 at hh5 hs5 hA5 hW
  have hn := heap_alloc_new W5 (.cells #[.int .i64 k, .string pt, .slice (some ⟨w3.heap.size, 0, none⟩) 1 1] 85)
  have hA6 : Chg Never W5 (W5.alloc (.cells #[.int .i64 k, .string pt, .slice (some ⟨w3.heap.size, 0, none⟩) 1 1] 85)) := (Chg.refl Never W5).alloc _
  rw [← hW] at hn hA6
  rw [hs5] at hn
  exact ⟨(hc.trans (hA5.mono (fun _ _ h => h.elim))).trans (hA6.mono (fun _ _ h => h.elim)), rdv_at (cs := [.int .i64 k, .string pt, .slice (some ⟨w3.heap.size, 0, none⟩) 1 1]) hn (by unfold Old; omega) ⟨_, rfl, hpc, hh5.never hA6⟩⟩
set_option maxHeartbeats 4000000 in
set_option maxRecDepth 100000 in
theorem split_any (p : List Change) (vp : Value) (w : World) (hp : Rdv w Never vp p) (m : Int) (hm : w.cell? ⟨1, 0, none⟩ = some (.int .i64 m)) :
    Calls Tryz.prog 42 #[vp] w fun e w' => ∃ r, e = .returned (.tuple #[r, errV (splitPF p)]) ∧ Chg Never w w' ∧ Rdv w' Never r (splitPR p) := by
  obtain ⟨pa, pcap, rfl, p1, p2, p3⟩ := rdv_slice hp
  unfold maxLen at p2
  by_cases y : (patchFault p).2 = 0
  · have Y := Lib.hid y
    have pl := (patch_of y).1
    have PV : Hid (∀ c ∈ p, changeFault c = 0) := (patch_of y).2.1
    have PL : Hid (∀ c ∈ p, c.hunks.length ≤ 60) := fun c hc => (hunksFault_zero (by rw [(changeFault_zero (PV.out c hc)).2.2.2.1])).1
    clear y
    go_enter Tryz.func42, Tryz.ntmps42
    go_wp2_with fail
    refine (patch_check_any p _ _ hp m hm).mono ?_
    rintro e w1 ⟨rfl, hw⟩
    rw [Y.out, errV_zero]
    have hn0 := ownN_nil (α := List Change) 51 hw
    go_wp2_with fail
    go_loopw [6, 24] (fun o i wr => ∃ k : Nat, k ≤ p.length ∧ i = .int .i64 k ∧ OwnN 51 w wr o (pieces (p.take k)) ∧ Hid (firstOf pcF (pieces (p.take k)) = 0)) (fun _ i _ => p.length - (intOf i).toNat)
    case atStart => exact ⟨0, Nat.zero_le _, rfl, hn0, rfl⟩
    case round =>
      clear hn0 hw
      rename World => wr
      obtain ⟨k, hk, rfl, hn, HF⟩ := hrel
      obtain ⟨oa, on, oc, rfl⟩ := own_isSlice hn.own
      by_cases hlt : k < p.length
      · obtain ⟨c, hx⟩ : ∃ c, p[k]? = some c := ⟨p[k], by simp [hlt]⟩
        obtain ⟨pb, po, hv, hpo, _, _, c0, c1, c2, hpc, hhv⟩ := elems_change p3 hx
        subst hpo
        obtain ⟨ha, hcap, rfl, hh1, hh2, hh3⟩ := rdv_slice hhv
        unfold maxLen at hh2
        have c0 := hn.chg.cellNever c0
        have c1 := hn.chg.cellNever c1
        have c2 := hn.chg.cellNever c2
        have HT := Lib.hid (pieces_take hx)
        have HX := Lib.hid hx
        have HCV : Hid (changeFault c = 0) := PV.out c (List.mem_of_getElem? hx)
        have hcl : c.hunks.length ≤ 60 := PL.out c (List.mem_of_getElem? hx)
        have hpl : (pieces (p.take k)).length ≤ 61 * 16 := by
          have := pieces_len (p.take k) (fun d hd => PL.out d (List.mem_of_mem_take hd))
          rw [List.length_take] at this
          omega
        obtain ⟨hA, d0, d1, d2⟩ := box1_change wr 85 c.what c.path (.slice ha c.hunks.length hcap) _ rfl
        clear hx p3
        by_cases h0 : c.hunks = []
        · have HP : Hid (piecesC c = [c]  :: []) := if_pos h0
          have hlen : (pieces (p.take k)).length ≤ 1000000000 := by omega
          obtain ⟨wh, pt, hs⟩ := c
          simp only at h0
          subst h0
          simp only at d0 d1 d2 c0 c1 c2 hhv hpc hA HP
          have hnA := hn.never hA
          have hltO := own_block_lt hn.own
          have hA1 : Chg Never (wr.alloc (.cells #[.int .i64 wh, .string pt, .slice ha ([] : List Hunk).length hcap] 85)) ((wr.alloc (.cells #[.int .i64 wh, .string pt, .slice ha ([] : List Hunk).length hcap] 85)).alloc (.cells #[.int .i64 wh, .string pt, .slice ha ([] : List Hunk).length hcap] 85)) := (Chg.refl Never _).alloc _
          have hnew := heap_alloc_new (wr.alloc (.cells #[.int .i64 wh, .string pt, .slice ha ([] : List Hunk).length hcap] 85)) (.cells #[.int .i64 wh, .string pt, .slice ha ([] : List Hunk).length hcap] 85)
          rw [World.size_alloc] at hnew
          have hn1 := hnA.never hA1
          have hy1 : Rdv _ (fun q => Never q ∨ (Value.slice oa on oc).ownBlock = some q) (.slice (some ⟨wr.heap.size + 1, 0, none⟩) 1 1) [(⟨wh, pt, []⟩ : Change)] := rdv_at (cs := [.int .i64 wh, .string pt, .slice ha ([] : List Hunk).length hcap]) hnew (fun h => h.elim (fun h => h) (fun h => by have := hltO _ h; omega)) ⟨_, rfl, hpc, (hn.away hhv).never (hA.trans hA1)⟩
          have hyo : Dat.rd _ (fun q => Never q ∨ (Value.slice oa on oc).ownBlock = some q) [.slice (some ⟨wr.heap.size + 1, 0, none⟩) 1 1] [(⟨wh, pt, []⟩ : Change)] := hy1
          go_wp2_with (at_builtin; refine wpList_push (by rfl) _ _ 22 (by rfl) elemOk_changes (O := Never) (l := pieces (p.take k)) (y := [(⟨wh, pt, []⟩ : Change)]) (by rfl) (by rfl) (by simp) hn1.own hyo (fun _ h => h.elim) hlen ?_; intro v' w9 hown2 hc2 hk2; have hn9 := hn1.step1 hown2 hc2 hk2; have d2' := hc2.cell (hA1.cellNever d2) (fun h => absurd (hltO _ h) (Nat.lt_irrefl _)); clear hown2 hc2 hk2 hn1 hyo hy1 hnew d0 d1 d2 hA1 hA; obtain ⟨ya, yn, yc, rfl⟩ := own_isSlice hn9.own)
          go_loopw [6, 40] (fun o i wz => i = .int .i64 0 ∧ OwnN 51 w wz o (pieces (p.take k) ++ [[(⟨wh, pt, []⟩ : Change)]])) (fun _ _ _ => 0)
          case atStart => exact ⟨rfl, hn9⟩
          case round =>
            clear hn9 d2'
            rename World => wz
            obtain ⟨rfl, hnz⟩ := hrel
            obtain ⟨za, zn, zc, rfl⟩ := own_isSlice hnz.own
            go_wp2_with fail
            go_roundw
            case rel => exact ⟨k + 1, by omega, by go_num, by rw [HT.out, HP.out]; exact hnz, by rw [Hid, HT.out, HP.out, first_app, if_pos HF.out, first_one]; exact pcF_ok HCV.out⟩
            case measure => simp [intOf] <;> omega
        · have h0' : ((c.hunks.length : Int) == 0) = false := beq_eq_false_iff_ne.2 (by have := List.length_pos_iff.2 h0; omega)
          have HP : Hid (piecesC c = c.hunks.map (hpieceOf c.what c.path)) := if_neg h0
          clear h0
          have D0 := hA.trans (Chg.refl Never _)
          go_wp2_with fail
          generalize wr.alloc (.cells #[.int .i64 c.what, .string c.path, .slice ha c.hunks.length hcap] 85) = wA at hA d0 d1 d2 ⊢
          have hnA := hn.never hA
          have hhA := hhv.never hn.chg
          clear c0 c1 c2 D0
          have hob0 : ∀ b, (Value.slice oa on oc).ownBlock = some b → b ≠ wr.heap.size := fun b hb => Nat.ne_of_lt (own_block_lt hn.own b hb)
          have hbl0 : wr.heap.size < wA.heap.size := World.block_lt_of_cell? wA _ d0
          generalize wr.heap.size = B1 at hob0 hbl0 d0 d1 d2 ⊢
          clear hn hA
          go_wp2_with fail
          clear d2
          go_loopw [6, 40] (fun o i wz => ∃ j : Nat, j ≤ c.hunks.length ∧ i = .int .i64 j ∧ OwnN 51 w wz o (pieces (p.take k) ++ (c.hunks.take j).map (hpieceOf c.what c.path)) ∧ Hid (firstOf pcF ((c.hunks.take j).map (hpieceOf c.what c.path)) = 0) ∧ wz.cell? ⟨B1, 0, none⟩ = some (.int .i64 c.what) ∧ wz.cell? ⟨B1, 1, none⟩ = some (.string c.path) ∧ (∀ b, o.ownBlock = some b → b ≠ B1) ∧ B1 < wz.heap.size) (fun _ i _ => c.hunks.length - (intOf i).toNat)
          case atStart => exact ⟨0, Nat.zero_le _, rfl, by rw [List.take_zero, List.map_nil, List.append_nil]; exact hnA, rfl, d0, d1, hob0, hbl0⟩
          case round =>
            clear d0 d1 hob0 hbl0 hnA
            rename World => wz
            obtain ⟨j, hj, rfl, hnz, HFj, e0, e1, hob, hbl⟩ := hrel
            obtain ⟨za, zn, zc, rfl⟩ := own_isSlice hnz.own
            by_cases hjl : j < c.hunks.length
            · obtain ⟨h, hhx⟩ : ∃ h, c.hunks[j]? = some h := ⟨c.hunks[j], by simp [hjl]⟩
              obtain ⟨hb, ho, mv, hha, _, _, g0, g1, g2, hmv⟩ := elems_hunk hh3 hhx
              subst hha
              have g0 := hnz.chg.cellNever g0
              have g1 := hnz.chg.cellNever g1
              have g2 := hnz.chg.cellNever g2
              have hml : h.marks.length ≤ 120 := scriptFault_len (hOk_mem _ _ _ (hunksFault_zero (by rw [(changeFault_zero HCV.out).2.2.2.1])).2 h (List.mem_of_getElem? hhx))
              have HHX := Lib.hid hhx
              have hmz := hmv.never hnz.chg
              obtain ⟨ma, mc, rfl, _, _, _⟩ := rdv_slice hmz
              have hB2 := Blk3.new wz 129 (.int .i64 h.old) (.int .i64 h.new) (.slice ma h.marks.length mc)
              have hA2 : Chg Never wz (wz.alloc (.cells #[.int .i64 h.old, .int .i64 h.new, .slice ma h.marks.length mc] 129)) := (Chg.refl Never wz).alloc _
              have hs2 : (wz.alloc (.cells #[.int .i64 h.old, .int .i64 h.new, .slice ma h.marks.length mc] 129)).heap.size = wz.heap.size + 1 := World.size_alloc _ _
              obtain ⟨q0, q1, q2⟩ := hB2.cell
              clear hhx hmv
              go_wp2_with fail
              generalize wz.alloc (.cells #[.int .i64 h.old, .int .i64 h.new, .slice ma h.marks.length mc] 129) = wY at hB2 hA2 hs2 q0 q1 q2 ⊢
              clear g0 g1 g2
              refine (copy_any h _ _ (hmz.never hA2) hml).mono ?_
              rintro e w3 ⟨r3, rfl, hc3, hr3⟩
              obtain ⟨ra, rc, rfl, _, _, _⟩ := rdv_slice hr3
              rw [hs2] at hr3
              have hB3 := hB2.keep hc3 (fun h => h)
              have hlt3 : wz.heap.size < w3.heap.size := by have := hc3.size; omega
              have e0 := (hA2.trans hc3).cellNever e0
              have e1 := (hA2.trans hc3).cellNever e1
              clear q0 q1 q2
              obtain ⟨q0, q1, q2⟩ := hB3.cell
              have qf := hB3.free
              have qf0 := qf 0
              have qf1 := qf 1
              have qf2 := qf 2
              obtain ⟨W6, hW6⟩ : ∃ W6, W6 = (((((w3.setCell ⟨wz.heap.size, 0, none⟩ (.int .i64 h.old)).setCell ⟨wz.heap.size, 1, none⟩ (.int .i64 h.new)).setCell ⟨wz.heap.size, 2, none⟩ (.slice ra h.marks.length rc)).setCell ⟨wz.heap.size, 0, none⟩ (.int .i64 h.new)).alloc (.cells #[.int .i64 h.new, .int .i64 h.new, .slice ra h.marks.length rc] 129)).alloc (.cells #[.int .i64 c.what, .string c.path, .slice (some ⟨w3.heap.size, 0, none⟩) 1 1] 85) := ⟨_, rfl⟩
              obtain ⟨hc6, hone⟩ := one_piece (k := c.what) hB3 hr3 rfl hlt3 hpc hW6
              have hB1z : B1 ≠ wz.heap.size := by omega
              have HW6 := Lib.hid hW6
              clear hW6
              go_wp2_with fail
              rw [← HW6.out]
              have hZ6 : Chg Never wz W6 := (hA2.trans hc3).trans' hc6 (fun i hi h => by omega)
              have e0 := hc6.cell e0 hB1z
              have e1 := hc6.cell e1 hB1z
              clear HW6 hB3 hB2 hr3 hc3 hA2 q0 q1 q2 qf qf0 qf1 qf2
              refine (patch_check_any (hpieceOf c.what c.path h) _ _ (hone.sub (fun _ _ h => h.elim)) m ((hnz.chg.trans hZ6).cellNever hm)).mono ?_
              rintro e w7 ⟨rfl, hc7⟩
              have hZ7 := hZ6.trans hc7
              have e0 := hc7.cellNever e0
              have e1 := hc7.cellNever e1
              have hone := hnz.fresh (hone.never hc7)
              have hn7 := hnz.never hZ7
              have hz7 := hZ7.size
              clear hc6 hZ6 hc7
              by_cases zz : (patchFault (hpieceOf c.what c.path h)).2 = 0
              · have HZ := Lib.hid zz
                have HL : Hid ((c.hunks.take (j + 1)).map (hpieceOf c.what c.path) = (c.hunks.take j).map (hpieceOf c.what c.path) ++ [hpieceOf c.what c.path h]) := by rw [Hid, List.take_add_one, HHX.out]; simp
                have hlen : (pieces (p.take k) ++ (c.hunks.take j).map (hpieceOf c.what c.path)).length ≤ 1000000000 := by rw [List.length_append, List.length_map, List.length_take]; omega
                rw [zz, errV_zero]
                clear zz
                have hyo : Dat.rd w7 (fun k => Never k ∨ (Value.slice za zn zc).ownBlock = some k) [.slice (some ⟨w3.heap.size + 1, 0, none⟩) 1 1] (hpieceOf c.what c.path h) := hone
                go_wp2_with (at_builtin; refine wpList_push (by rfl) _ _ 22 (by rfl) elemOk_changes (O := Never) (l := pieces (p.take k) ++ (c.hunks.take j).map (hpieceOf c.what c.path)) (y := hpieceOf c.what c.path h) (by rfl) (by rfl) (by rfl) hn7.own hyo (fun _ h => h.elim) hlen ?_; intro v' w9 hown2 hc2 hk2; have hn9 := hn7.step1 hown2 hc2 hk2; have e0' := hc2.cell e0 (fun h => hob _ h rfl); have e1' := hc2.cell e1 (fun h => hob _ h rfl); have hs9 := hc2.size; clear hown2 hc2 hn7 hyo hone e0 e1; obtain ⟨ya, yn, yc, rfl⟩ := own_isSlice hn9.own)
                go_roundw
                case rel =>
                  refine ⟨j + 1, by omega, by go_num, by rw [HL.out, ← List.append_assoc]; exact hn9, by rw [Hid, HL.out, first_app, if_pos HFj.out, first_one]; exact HZ.out, e0', e1', fun b hb => ?_, by omega⟩
                  obtain ⟨q, hq, hq2⟩ := hk2
                  rw [hq] at hb
                  injection hb with hb
                  subst hb
                  exact hq2.elim (fun h => hob _ h) (fun h => by omega)
                case measure => simp [intOf] <;> omega
              · have HS := Lib.hid (split_bad Y.out HX.out HHX.out HF.out HFj.out zz)
                have HR : Hid (splitPR p = []) := if_neg (by rw [HS.out]; exact zz)
                have hcf := hn7.chg
                rw [errV_pos zz]
                have ZZ := Lib.hid zz
                clear zz hone hn7 e0 e1
                go_wp2_with fail
                go_ret2
                exact ⟨.slice none 0 0, by rw [HS.out]; unfold pcF; rw [errV_pos ZZ.out]; rfl, hcf, by rw [HR.out]; exact rdv_nil _ _⟩
            · obtain rfl : j = c.hunks.length := by omega
              rw [List.take_length] at hnz HFj
              go_wp2_with fail
              go_roundw
              case rel => exact ⟨k + 1, by omega, by go_num, by rw [HT.out, HP.out]; exact hnz, by rw [Hid, HT.out, HP.out, first_app, if_pos HF.out]; exact HFj.out⟩
              case measure => simp [intOf] <;> omega
      · obtain rfl : k = p.length := by omega
        rw [List.take_length] at hn HF
        have HS : Hid (splitPF p = 0) := by unfold Hid splitPF; rw [if_neg (by rw [Y.out]; decide)]; exact HF.out
        have HR : Hid (splitPR p = pieces p) := if_pos HS.out
        go_wp2_with fail
        go_ret2
        exact ⟨_, by rw [HS.out]; rfl, hn.chg, by rw [HR.out]; exact hn.own.rdv.sub (fun _ _ h => h.elim)⟩
  · have HS : Hid (splitPF p = (patchFault p).2) := if_pos y
    have HR : Hid (splitPR p = []) := if_neg (by rw [HS.out]; exact y)
    have Y := Lib.hid y
    clear y
    go_enter Tryz.func42, Tryz.ntmps42
    go_wp2_with fail
    refine (patch_check_any p _ _ hp m hm).mono ?_
    rintro e w1 ⟨rfl, hw⟩
    rw [errV_pos Y.out]
    go_wp2_with fail
    go_ret2
    exact ⟨.slice none 0 0, by rw [HS.out, errV_pos Y.out]; rfl, hw, by rw [HR.out]; exact rdv_nil _ _⟩
end Go.Proofs.YtjiaidchcldocaaGreatDoor
namespace Go.Proofs.YtjiaidchcldocaaGreatDoor

/-- what was done leads from a tree to a tree -/
theorem apply_tree {t : List File} {p : List Change} (h : (applyR t p).2.2 = 0) : Tree t ∧ Tree (applyR t p).1 := by
  obtain ⟨_, h1, h2, h3, h4, h5⟩ := applyR_inv (t := t) (p := p) (b := (applyR t p).1) (k := (applyR t p).2.1) (Prod.ext rfl (Prod.ext rfl h))
  exact ⟨h1, leads_tree h1 h2 h3 h4 h5⟩
end Go.Proofs.YtjiaidchcldocaaGreatDoor
