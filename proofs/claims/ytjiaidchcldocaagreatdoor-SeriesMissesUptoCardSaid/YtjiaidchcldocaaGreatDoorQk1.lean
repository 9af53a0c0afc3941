/-
  PARTS: FROM A LAW's WALK TO ITS STATEMENT: how the arguments read ('Opens'), and what is to be said behind the call ('post_law').; errors.As AT AN Errno, and plain.Told: of nil OK, of an Errno it.; WHAT ALL CARDS OF A DOOR SEAT WANT: the listed variable's cell, a world that meets the condition.; WHAT THE CARDS WANT WHERE utf8's TABLES ARE LISTED: the variables' cells, a world that meets the condition.; WHAT THE CARDS WANT WHERE strconv's TABLES AND ERRORS AND errors.errorType ARE LISTED.; HOW ARGUMENTS READ: files, changes, and a struct that is an argument by itself.; SERIES, in plain Lean (chapter 13): the parts of a series, in whatever order they come.; THE WALK of handstitchsame.Ints.; THE WALK of handstitchsame.Pick: some number below n.; THE WALK of the statements' word 'turned': mails in another order.; THE WALK of the document's HunksFault.; THE LAW SeriesBack, walked.; SERIES, in plain Lean: what is missing is missed (SeriesMisses).
-/
import Derived.Test.YtjiaidchcldocaaGreatDoorPg1
import Derived.Test.YtjiaidchcldocaaGreatDoorPg2
import Derived.Test.YtjiaidchcldocaaGreatDoorPg3
import Derived.Test.YtjiaidchcldocaaGreatDoorPg4
import Derived.Test.YtjiaidchcldocaaGreatDoorPg5
import Derived.Test.YtjiaidchcldocaaGreatDoorPg6
import Derived.Test.YtjiaidchcldocaaGreatDoorPg7
import Derived.Test.YtjiaidchcldocaaGreatDoorPg8
import Derived.Test.YtjiaidchcldocaaGreatDoorPg9
import Derived.Test.YtjiaidchcldocaaGreatDoorPg10
import Derived.Test.YtjiaidchcldocaaGreatDoorPg11
import Derived.Test.YtjiaidchcldocaaGreatDoorPg12
import Derived.Test.YtjiaidchcldocaaGreatDoorPg13
import Derived.Test.YtjiaidchcldocaaGreatDoorPg14
import Derived.Test.YtjiaidchcldocaaGreatDoorPg15
import Derived.Test.YtjiaidchcldocaaGreatDoorPg16
import Derived.Test.YtjiaidchcldocaaGreatDoorPg17
import Derived.Test.YtjiaidchcldocaaGreatDoorPg18
import Derived.Test.YtjiaidchcldocaaGreatDoorPg19
import Derived.Test.YtjiaidchcldocaaGreatDoorPg20
import Derived.Test.YtjiaidchcldocaaGreatDoorPg21
import Derived.Test.YtjiaidchcldocaaGreatDoorPg22
import Derived.Test.YtjiaidchcldocaaGreatDoorPg23
import Derived.Test.YtjiaidchcldocaaGreatDoorPg24
import Derived.Test.YtjiaidchcldocaaGreatDoorPg25
import Derived.Test.YtjiaidchcldocaaGreatDoorPg26
import Derived.Test.YtjiaidchcldocaaGreatDoorPg27
import Derived.Test.YtjiaidchcldocaaGreatDoorPg28
import Derived.Test.YtjiaidchcldocaaGreatDoorPg29
import Derived.Test.YtjiaidchcldocaaGreatDoorPg30
import Derived.Test.YtjiaidchcldocaaGreatDoorPg31
import Derived.Test.YtjiaidchcldocaaGreatDoorPg32
import Derived.Test.YtjiaidchcldocaaGreatDoorPg33
import Derived.Test.YtjiaidchcldocaaGreatDoorPg34
import Derived.Test.YtjiaidchcldocaaGreatDoorPg35
import Derived.Test.YtjiaidchcldocaaGreatDoorPg36
import Derived.Test.YtjiaidchcldocaaGreatDoorPg37
import Derived.Test.YtjiaidchcldocaaGreatDoorPg38
import Derived.Test.YtjiaidchcldocaaGreatDoorRows
import Derived.ProofKit
import Derived.OpenShut
import Derived.JoinedCond
import Derived.Deep.Slices
import Derived.Deep.Strs
import Derived.Stop.Asserts
import Derived.RowKitTokens
import Derived.LaidEql
import Derived.Test.YtjiaidchcldocaaGreatDoorCards
import Derived.Test.YtjiaidchcldocaaGreatDoorTie
import Derived.WalkKit
import Derived.Deep.DeepHandedRow
import Derived.LaidLaws
import Derived.LaidHandle
import Derived.Test.YtjiaidchcldocaaGreatDoorShelf
import Derived.ChangeMaps5
import Derived.LaidSub
import Derived.ChangeSame
import Derived.Deep.RegionHeld3
set_option linter.unusedVariables false
set_option linter.unusedSimpArgs false
namespace Go.Proofs.YtjiaidchcldocaaGreatDoor
open Go.ChangeShapes Go.WideShapes Go.ChangeAt Go.RowKit

theorem u8_of_wf {n : Int} (h : (Lit.int .u8 n).wf = true) : 0 ≤ n ∧ n < 256 := by
  have := bounds_u8 h
  omega
theorem opens_int {P : Program} {t : TypeId} (ht : P.underlying t = some (.int .i64)) : Opens P t Int := by
  intro H enc w base spare held fuel cs d ps h
  obtain ⟨n, rfl, hx, hw⟩ := DataW.trod_int ht h
  simp only [Prod.mk.injEq] at hx
  obtain ⟨rfl, rfl⟩ := hx
  exact ⟨n, ⟨rfl, i64_of_wf hw⟩, by simp [Dat.bulk, Rows.uptoBulk]⟩
theorem opens_mark {P : Program} {t : TypeId} {f0 f1 : Field} (ht : P.underlying t = some (.struct #[f0, f1])) (hc : P.cellsOf t = 2) (o0 : f0.offset = 0) (o1 : f1.offset = 1) (k0 : P.cellsOf f0.type = 1) (k1 : P.cellsOf f1.type = 1)
    (h0 : P.underlying f0.type = some (.int .u8)) (h1 : P.underlying f1.type = some .string) : Opens P t Mark := by
  intro H enc w base spare held fuel cs d ps h
  obtain ⟨y0, y1, n, hx, hl, e0, e1⟩ := trod_struct2 ht h
  rw [hc] at hl
  match cs, hl with
  | [c0, c1], _ =>
    rw [o0, k0] at e0
    rw [o1, k1] at e1
    obtain ⟨m, m1, m2, m3⟩ := DataW.trod_int h0 e0
    obtain ⟨s, s1, s2, s3⟩ := DataW.trod_string h1 e1
    simp at m1 s1
    subst m1 s1 m2 s2
    simp only [Prod.mk.injEq] at hx
    obtain ⟨rfl, rfl⟩ := hx
    have hm := u8_of_wf m3
    refine ⟨⟨m, s⟩, ⟨rfl, hm.1, hm.2, s3⟩, ?_⟩
    show s.size + 3 ≤ Rows.uptoBulk (.agg [.lit (.int .u8 m), .lit (.string s.data.toList)])
    simp only [Rows.uptoBulk, Rows.uptoBulkAll]
    rw [Array.length_toList]
    show s.size + 3 ≤ 1 + (s.size + 1 + 0) + 1
    omega
theorem opens_hunk {P : Program} {t : TypeId} {f0 f1 f2 : Field} (ht : P.underlying t = some (.struct #[f0, f1, f2])) (hc : P.cellsOf t = 3) (o0 : f0.offset = 0) (o1 : f1.offset = 1) (o2 : f2.offset = 2) (k0 : P.cellsOf f0.type = 1) (k1 : P.cellsOf f1.type = 1) (k2 : P.cellsOf f2.type = 1)
    (h0 : P.underlying f0.type = some (.int .i64)) (h1 : P.underlying f1.type = some (.int .i64)) (h2 : Opens P f2.type (List Mark)) : Opens P t Hunk := by
  intro H enc w base spare held fuel cs d ps h
  obtain ⟨y0, y1, y2, n, hx, hl, e0, e1, e2⟩ := Deep.trod_struct3 ht h
  rw [hc] at hl
  match cs, hl with
  | [c0, c1, c2], _ =>
    rw [o0, k0] at e0
    rw [o1, k1] at e1
    rw [o2, k2] at e2
    obtain ⟨m, m1, m2, m3⟩ := DataW.trod_int h0 e0
    obtain ⟨s, s1, s2, s3⟩ := DataW.trod_int h1 e1
    simp at m1 s1 e2
    subst m1 s1 m2 s2
    obtain ⟨l, hl1, hl2⟩ := h2 H enc w base spare held n [c2] y2.1 y2.2 e2
    simp only [Prod.mk.injEq] at hx
    obtain ⟨rfl, rfl⟩ := hx
    refine ⟨⟨m, s, l⟩, ⟨c2, rfl, hl1⟩, ?_⟩
    show Dat.bulk l + 3 ≤ Rows.uptoBulk (.agg [.lit (.int .i64 m), .lit (.int .i64 s), y2.1])
    simp only [Rows.uptoBulk, Rows.uptoBulkAll]
    omega

theorem opens_ints : Opens Tryz.prog 23 (List Int) := opens_slice Tryz.underlying23 (by kernel_rfl) (opens_int Tryz.underlying3)
theorem opens_marks : Opens Tryz.prog 127 (List Mark) := opens_slice Tryz.underlying127 (by kernel_rfl) (opens_mark Tryz.underlying126 (by kernel_rfl) rfl rfl (by kernel_rfl) (by kernel_rfl) Tryz.underlying5 Tryz.underlying9)
theorem opens_hunks : Opens Tryz.prog 83 (List Hunk) := opens_slice Tryz.underlying83 (by kernel_rfl) (opens_hunk Tryz.underlying129 (by kernel_rfl) rfl rfl rfl (by kernel_rfl) (by kernel_rfl) (by kernel_rfl) Tryz.underlying3 Tryz.underlying3 opens_marks)

/-- the condition of the second form: the bulk of what comes in -/
theorem small_of {H : Type} {l : List (DataW H)} (hk : Rows.uptoSmall H l = true) : Rows.uptoBulkAll l ≤ 1048576 := of_decide_eq_true hk
end Go.Proofs.YtjiaidchcldocaaGreatDoor
namespace Go.Proofs.YtjiaidchcldocaaGreatDoor
open Go.RowKit Go.Extern.Stop Go.Stop Go.Extern

abbrev vP (a : Addr) : Value := .agg #[.pointer (some ⟨9, 182, none⟩), .pointer (some a), .int .u64 150]
abbrev vE (a : Addr) : Value := .agg #[.pointer (some ⟨9, 38, none⟩), .pointer (some a), .int .u64 130]
abbrev vEa (a : Addr) : Value := .agg #[.pointer (some ⟨9, 38, none⟩), .pointer (some a), .int .u64 386]
abbrev tP : Value := .agg #[.pointer (some ⟨9, 182, none⟩)]
abbrev tE : Value := .agg #[.pointer (some ⟨9, 38, none⟩)]

theorem as_valueOfP (t : Addr) (w : World) : (ReflectliteValue.unpack (.iface 182 (.pointer (some t)))).run Tryz.prog w
    = .ok (vP ⟨w.heap.size, 0, none⟩) (w.alloc (.cells #[.pointer (some t)] 182)) := by kernel_rfl
theorem as_typeP (a : Addr) (w : World) : (ReflectliteValue.methodAny (ReflectliteValue.valueError "reflectlite.Value.Type" 0) (fun t _ _ _ => ReflectliteType.toType t) #[vP a]).run Tryz.prog w
    = .ok (.iface 276 tP) w := by kernel_rfl
theorem as_kindP (w : World) : ((ReflectliteType.abiMethod fun t => (fun a : Nat => Value.int IntKind.u8 (a : Int)) <$> Rtype.kind t) #[.pointer (some ⟨9, 182, none⟩)]).run Tryz.prog w = .ok (.int .u8 22) w := by kernel_rfl
theorem as_kindE (w : World) : ((ReflectliteType.abiMethod fun t => (fun a : Nat => Value.int IntKind.u8 (a : Int)) <$> Rtype.kind t) #[.pointer (some ⟨9, 38, none⟩)]).run Tryz.prog w = .ok (.int .u8 2) w := by kernel_rfl
theorem as_rlm (z : Sem Value) (f : TypeId → Addr → Nat → Nat → Sem Value) (v : Value) :
    ReflectliteValue.method z f #[v] = (do match ← ReflectliteValue.parts v with | none => z | some (t, a, fl) => f t a fl (fl % 32)) := rfl
theorem as_partsP (a : Addr) (w : World) : (ReflectliteValue.parts (vP a)).run Tryz.prog w = .ok (some (182, a, 150)) w := by kernel_rfl
theorem as_isNilP (a p : Addr) (W : World) (ha : W.cell? a = some (.pointer (some p))) :
    (ReflectliteValue.method (ReflectliteValue.valueError "reflectlite.Value.IsNil" 0) ReflectliteValue.isNil #[vP a]).run Tryz.prog W = .ok (.bool false) W := by
  rw [as_rlm]
  simp only [Sem.run_bind, as_partsP, Result.andThen]
  simp [ReflectliteValue.isNil, loadVar, isAgg, underlying, Tryz.underlying182, ha, Result.andThen]
theorem as_methodKind (h : Value) (w : World) : (Go.method 463 276 (.agg #[h]) "Kind").run Tryz.prog w = .ok (254, h) w := by kernel_rfl
theorem as_elemP (w : World) : (ReflectliteType.method ReflectliteType.elem #[tP]).run Tryz.prog w = .ok (.iface 276 tE) w := by kernel_rfl
theorem as_implE (w : World) : (ReflectliteType.relation "Implements" ReflectliteType.implements_ #[tE, errT]).run Tryz.prog w = .ok (.bool true) w := by kernel_rfl
theorem as_typeOfE (v : Value) (w : World) : (ReflectliteType.typeOf #[.iface 38 v]).run Tryz.prog w = .ok (.iface 276 tE) w := by kernel_rfl
theorem as_assignE (w : World) : (ReflectliteType.relation "AssignableTo" ReflectliteType.assignableTo #[tE, .iface 276 tE]).run Tryz.prog w = .ok (.bool true) w := by kernel_rfl
theorem as_valueOfE (k : Int) (w : World) : (ReflectliteValue.unpack (.iface 38 (.int .i64 k))).run Tryz.prog w
    = .ok (vE ⟨w.heap.size, 0, none⟩) (w.alloc (.cells #[.int .i64 k] 38)) := by kernel_rfl
theorem as_elemOfP (w : World) : (Rtype.elem? 182).run Tryz.prog w = .ok (some 38) w := by kernel_rfl
theorem as_mkE (p : Addr) (w : World) : (ReflectliteValue.mk 38 p ReflectliteValue.flagAddr).run Tryz.prog w = .ok (vEa p) w := by kernel_rfl
theorem as_elemVP (a p : Addr) (W : World) (ha : W.cell? a = some (.pointer (some p))) :
    (ReflectliteValue.method (ReflectliteValue.valueError "reflectlite.Value.Elem" 0) ReflectliteValue.elem #[vP a]).run Tryz.prog W = .ok (vEa p) W := by
  rw [as_rlm]
  simp only [Sem.run_bind, as_partsP, Result.andThen]
  simp [ReflectliteValue.elem, loadVar, isAgg, underlying, Tryz.underlying182, ha, Result.andThen, as_elemOfP, as_mkE]
theorem as_rls (v x : Value) : ReflectliteValue.set #[v, x] = (do
    let (some (dst, a, fl), some (src, b, _)) := (← ReflectliteValue.parts v, ← ReflectliteValue.parts x)
      | unsupported (.noEntry "extern/(internal/reflectlite.Value).Set.zeroValue")
    if fl / ReflectliteValue.flagAddr % 2 == 0 then unsupported (.noEntry "extern/(internal/reflectlite.Value).Set.unaddressable")
    let val ← loadVar src b
    if ← Rtype.directlyAssignable dst src then storeVar dst a val
    else if ← Rtype.implements dst src then
      if (← Rtype.kind src) == 20 then
        match val with
        | .nilIface => unsupported (.noEntry "extern/reflectlite: a nil value of one interface type handed on as a value of another")
        | _ => storeVar dst a val
      else storeVar dst a (.iface src val)
    else panicString ("reflectlite.Set: value of type " ++ (← Rtype.spelt src) ++ " is not assignable to type " ++ (← Rtype.spelt dst))
    pure (.tuple #[])) := rfl
theorem as_partsEa (a : Addr) (w : World) : (ReflectliteValue.parts (vEa a)).run Tryz.prog w = .ok (some (38, a, 386)) w := by kernel_rfl
theorem as_partsE (a : Addr) (w : World) : (ReflectliteValue.parts (vE a)).run Tryz.prog w = .ok (some (38, a, 130)) w := by kernel_rfl
theorem as_directE (w : World) : (Rtype.directlyAssignable 38 38).run Tryz.prog w = .ok true w := by kernel_rfl
theorem as_setE (ta b : Addr) (k : Int) (old : Value) (W : World) (hb : W.cell? b = some (.int .i64 k)) (ht : W.cell? ta = some old) (hf : W.frozen? ta = false) :
    (ReflectliteValue.set #[vEa ta, vE b]).run Tryz.prog W = .ok (.tuple #[]) (W.setCell ta (.int .i64 k)) := by
  rw [as_rls]
  simp only [Sem.run_bind, as_partsEa, as_partsE, Result.andThen]
  simp [ReflectliteValue.flagAddr, loadVar, isAgg, underlying, Tryz.underlying38, hb, Result.andThen, as_directE, storeVar, Value.cells, storeCells, Addr.add]
  rw [run_store Tryz.prog W ta _ _ (by rfl)]
  simp [ht, hf]
theorem as_methodElem (h : Value) (w : World) : (Go.method 463 276 (.agg #[h]) "Elem").run Tryz.prog w = .ok (270, .agg #[h]) w := by kernel_rfl
theorem as_methodImplements (h : Value) (w : World) : (Go.method 463 276 (.agg #[h]) "Implements").run Tryz.prog w = .ok (271, .agg #[h]) w := by kernel_rfl
theorem as_methodAssignableTo (h : Value) (w : World) : (Go.method 463 276 (.agg #[h]) "AssignableTo").run Tryz.prog w = .ok (268, .agg #[h]) w := by kernel_rfl
/-- the worlds of the call -/
abbrev asW1 (w : World) (t : Addr) : World := w.alloc (.cells #[.pointer (some t)] 182)
abbrev asC (w : World) : Obj := .cells #[.pointer (some ⟨9, 182, none⟩), .pointer (some ⟨w.heap.size, 0, none⟩), .int .u64 150] 234
abbrev asW2 (w : World) (t : Addr) : World := (asW1 w t).alloc (asC w)
abbrev asW3 (w : World) (t : Addr) : World := (asW2 w t).alloc (asC w)
abbrev asW4 (w : World) (t : Addr) (k : Int) : World := (asW3 w t).alloc (.cells #[.int .i64 k] 38)

set_option maxRecDepth 100000 in
set_option maxHeartbeats 4000000 in
theorem as_hit (k : Int) (t : Addr) (old : Value) (w : World) (hg : w.cell? ⟨0, 0, none⟩ = some errT) (ht0 : w.cell? t = some old) (hf0 : w.frozen? t = false) :
    Calls Tryz.prog 100 #[.iface 38 (.int .i64 k), .iface 182 (.pointer (some t))] w fun ev w' => ev = .returned (.bool true) ∧ w' = (asW4 w t k).setCell t (.int .i64 k) := by
  have h6 := @run_callFunc_extern Tryz.prog 153 _ (fun args => ReflectliteValue.unpack (args.getD 0 (.tuple #[]))) Tryz.func153 (by kernel_rfl) (by kernel_rfl) (by kernel_rfl) (by kernel_rfl)
  have h7 := @run_callFunc_extern Tryz.prog 154 _ (ReflectliteValue.methodAny (ReflectliteValue.valueError "reflectlite.Value.Type" 0) (fun t _ _ _ => ReflectliteType.toType t)) Tryz.func154 (by kernel_rfl) (by kernel_rfl) (by kernel_rfl) (by kernel_rfl)
  have h8 := @run_callFunc_extern Tryz.prog 155 _ (ReflectliteValue.method (ReflectliteValue.valueError "reflectlite.Value.IsNil" 0) ReflectliteValue.isNil) Tryz.func155 (by kernel_rfl) (by kernel_rfl) (by kernel_rfl) (by kernel_rfl)
  have h27 := @run_callFunc_extern Tryz.prog 254 _ (ReflectliteType.abiMethod fun t => do pure (.int .u8 (← Rtype.kind t))) Tryz.func254 (by kernel_rfl) (by kernel_rfl) (by kernel_rfl) (by kernel_rfl)
  have h37 := @run_callFunc_extern Tryz.prog 270 _ (ReflectliteType.method ReflectliteType.elem) Tryz.func270 (by kernel_rfl) (by kernel_rfl) (by kernel_rfl) (by kernel_rfl)
  have h38 := @run_callFunc_extern Tryz.prog 271 _ (ReflectliteType.relation "Implements" ReflectliteType.implements_) Tryz.func271 (by kernel_rfl) (by kernel_rfl) (by kernel_rfl) (by kernel_rfl)
  have h10 := @run_callFunc_extern Tryz.prog 195 _ ReflectliteType.typeOf Tryz.func195 (by kernel_rfl) (by kernel_rfl) (by kernel_rfl) (by kernel_rfl)
  have h35 := @run_callFunc_extern Tryz.prog 268 _ (ReflectliteType.relation "AssignableTo" ReflectliteType.assignableTo) Tryz.func268 (by kernel_rfl) (by kernel_rfl) (by kernel_rfl) (by kernel_rfl)
  have h11 := @run_callFunc_extern Tryz.prog 196 _ (ReflectliteValue.method (ReflectliteValue.valueError "reflectlite.Value.Elem" 0) ReflectliteValue.elem) Tryz.func196 (by kernel_rfl) (by kernel_rfl) (by kernel_rfl) (by kernel_rfl)
  have h12 := @run_callFunc_extern Tryz.prog 197 _ ReflectliteValue.set Tryz.func197 (by kernel_rfl) (by kernel_rfl) (by kernel_rfl) (by kernel_rfl)
  have tO := as_typeOfE
  have mA := as_methodAssignableTo
  have a25 := as_assignE
  have v25 := as_valueOfE
  have f6 := as_valueOfP
  have f7 := as_typeP
  have mK := as_methodKind
  have mE := as_methodElem
  have mI := as_methodImplements
  have k27 := as_kindP
  have k25 := as_kindE
  have e27 := as_elemP
  have i25 := as_implE
  have n8 := as_isNilP ⟨w.heap.size, 0, none⟩ t (asW2 w t) (by simp)
  have hlt : 0 < w.heap.size := by
    rcases Nat.lt_or_ge 0 w.heap.size with h | h
    · exact h
    · simp [World.cell?, Array.getElem?_eq_none h] at hg
  have hg2 : (asW2 w t).cell? ⟨0, 0, none⟩ = some errT := by
    rw [World.cell?_alloc_lt _ _ ⟨0, 0, none⟩ (by first | (simp; done) | (simp; omega)), World.cell?_alloc_lt _ _ ⟨0, 0, none⟩ hlt]; exact hg
  have htl : t.block < w.heap.size := by
    rcases Nat.lt_or_ge t.block w.heap.size with h | h
    · exact h
    · simp [World.cell?, Array.getElem?_eq_none h] at ht0
  have el := as_elemVP ⟨w.heap.size, 0, none⟩ t (asW3 w t) (by rw [World.cell?_alloc_lt _ _ ⟨w.heap.size, 0, none⟩ (by simp; omega)]; simp)
  have st := as_setE t ⟨w.heap.size + 1 + 1 + 1, 0, none⟩ k old (asW4 w t k)
    (by rw [World.cell?_alloc_at _ _ _ _ (by simp)]; rfl)
    (by rw [World.cell?_alloc_lt _ _ t (by simp; omega), World.cell?_alloc_lt _ _ t (by simp; omega), World.cell?_alloc_lt _ _ t (by simp; omega), World.cell?_alloc_lt _ _ t htl]; exact ht0)
    (by rw [World.frozen?_alloc_old _ _ t (by simp; omega), World.frozen?_alloc_old _ _ t (by simp; omega), World.frozen?_alloc_old _ _ t (by simp; omega), World.frozen?_alloc_old _ _ t (Nat.ne_of_lt htl)]; exact hf0)
  go_enter Tryz.func100, Tryz.ntmps100
  go_wp2
  refine wp_loop_rounds 1 ?_
  rw [rounds_succ]
  go_wp2
  go_ret
  exact ⟨rfl, rfl⟩

/-- from w to w' what was there has stayed, and the type's handle is still there -/
theorem told_hit (k : Int) (w : World) (hg : w.cell? ⟨0, 0, none⟩ = some errT) :
    Calls Tryz.prog 47 #[.iface 38 (.int .i64 k)] w fun e w' => e = .returned (.int .i64 k) ∧ Chg Never w w' := by
  have hlt : 0 < w.heap.size := by
    rcases Nat.lt_or_ge 0 w.heap.size with h | h
    · exact h
    · simp [World.cell?, Array.getElem?_eq_none h] at hg
  have hgA : (w.alloc (.cells #[.int .i64 0] 38)).cell? ⟨0, 0, none⟩ = some errT := by rw [World.cell?_alloc_lt _ _ ⟨0, 0, none⟩ hlt]; exact hg
  have htA : (w.alloc (.cells #[.int .i64 0] 38)).cell? ⟨w.heap.size, 0, none⟩ = some (.int .i64 0) := by simp
  have hfA : (w.alloc (.cells #[.int .i64 0] 38)).frozen? ⟨w.heap.size, 0, none⟩ = false := by simp
  go_enter Tryz.func47, Tryz.ntmps47
  go_wp2_with (go_at_call 100; refine (as_hit k _ (.int .i64 0) _ hgA htA hfA).mono ?_; rintro e w' ⟨rfl, rfl⟩)
  go_ret
  refine ⟨rfl, ?_⟩
  exact (((((Chg.refl Never w).alloc _).alloc _).alloc _).alloc _).alloc _
theorem told_nil (w : World) : Calls Tryz.prog 47 #[.nilIface] w fun e w' => e = .returned (.int .i64 0) ∧ Chg Never w w' := by
  go_enter Tryz.func47, Tryz.ntmps47
  go_wp2
  go_ret
  exact ⟨rfl, Chg.refl _ _⟩
theorem told_any (k : Int) (w : World) (hg : w.cell? ⟨0, 0, none⟩ = some errT) :
    Calls Tryz.prog 47 #[errV k] w fun e w' => e = .returned (.int .i64 k) ∧ Chg Never w w' := by
  by_cases h : k = 0
  · subst h; exact told_nil w
  · rw [errV_pos h]; exact told_hit k w hg
/-- handstitchsame.Error -/
theorem error_any (k e : Int) (w : World) (hg : w.cell? ⟨0, 0, none⟩ = some errT) :
    Calls Tryz.prog 15 #[errV k, .int .i64 e] w fun x w' => x = .returned (.bool (k == e)) ∧ Chg Never w w' := by
  go_enter Tryz.func15, Tryz.ntmps15
  go_wp2_with (go_at_call 47; refine (told_any k _ hg).mono ?_; rintro e w' ⟨rfl, hc⟩)
  go_ret
  exact ⟨rfl, hc⟩
end Go.Proofs.YtjiaidchcldocaaGreatDoor
namespace Go.Proofs.YtjiaidchcldocaaGreatDoor
open Go.ChangeShapes Go.WideShapes Go.ChangeAt Go.RowKit

theorem as_et : Tryz.prog.globalNamed "errors.errorType" = some 0 := by kernel_rfl
theorem as_rt : (Tryz.prog.cutTypes.find? (·.1 == "internal/reflectlite.rtype")).map (·.2) = some 276 := by kernel_rfl
theorem as_oneRow : ((List.range 363).filter fun t => Tryz.prog.rowNamed t [101, 114, 114, 111, 114]) = [26] := by kernel_rfl
theorem as_size : Tryz.prog.types.size = 363 := by kernel_rfl
end Go.Proofs.YtjiaidchcldocaaGreatDoor
namespace Go.Proofs.YtjiaidchcldocaaGreatDoor
open Go.ChangeShapes Go.WideShapes Go.ChangeAt Go.RowKit

abbrev listedTE : List (String × DataW Unit) := [("unicode/utf8.acceptRanges", Rows.laid_unicode_utf8_acceptRanges), ("errors.errorType", Rows.laid_errors_errorType), ("unicode/utf8.first", Rows.laid_unicode_utf8_first)]
abbrev listedT : List (String × DataW Unit) := [("unicode/utf8.acceptRanges", Rows.laid_unicode_utf8_acceptRanges), ("unicode/utf8.first", Rows.laid_unicode_utf8_first)]
theorem handle_of_laidTE {W : World} (h : laidMetH Tryz.prog listedTE W) : W.cell? ⟨0, 0, none⟩ = some errT := by
  have h' : laidMet Tryz.prog listedT W ∧ handlesMet Tryz.prog listed W := h
  obtain ⟨name, u, ty, e1, e2, e3, e4, e5⟩ := h'.2 _ (List.mem_singleton.2 rfl)
  have en : name = [101, 114, 114, 111, 114] := (Option.some.inj e1).symm
  subst en
  obtain rfl := Option.some.inj (as_rt.symm.trans e2)
  have hm : ty ∈ (List.range 363).filter fun t => Tryz.prog.rowNamed t [101, 114, 114, 111, 114] := List.mem_filter.2 ⟨List.mem_range.2 (by rw [← as_size]; exact e3), e4⟩
  rw [as_oneRow] at hm
  obtain rfl := List.mem_singleton.1 hm
  have hh : typeHandle Tryz.prog 26 = .pointer (some ⟨9, 26, none⟩) := by kernel_rfl
  rw [hh] at e5
  simpa using World.var?_cell as_et e5 0
end Go.Proofs.YtjiaidchcldocaaGreatDoor
namespace Go.Proofs.YtjiaidchcldocaaGreatDoor
open Go.ChangeShapes Go.WideShapes Go.ChangeAt Go.RowKit

abbrev listedGI : List (String × DataW Unit) := [("math/bits.deBruijn32tab", Rows.laid_math_bits_deBruijn32tab), ("math/bits.deBruijn64tab", Rows.laid_math_bits_deBruijn64tab), ("internal/strconv.uint64pow10", Rows.laid_internal_strconv_uint64pow10), ("unicode/utf8.acceptRanges", Rows.laid_unicode_utf8_acceptRanges), ("errors.errorType", Rows.laid_errors_errorType), ("strconv.ErrRange", Rows.laid_strconv_ErrRange), ("strconv.ErrSyntax", Rows.laid_strconv_ErrSyntax), ("unicode/utf8.first", Rows.laid_unicode_utf8_first)]
theorem laidWorldG_metD (os : Os) (args : Array Value) : laidMet Tryz.prog listedGB ((laidWorldG os).forCall (fun _ _ => 0) ⟨#[], args, []⟩).memory := laidWorldGB_met os args
theorem laidWorldGI_met (os : Os) (args : Array Value) : laidMetH Tryz.prog listedGI ((laidWorldG os).forCall (fun _ _ => 0) ⟨#[], args, []⟩).memory :=
  laidMetH_of_parts (laidWorldG_metD os args) (by kernel_rfl)
theorem parts_of_laidGI {W : World} (h : laidMetH Tryz.prog listedGI W) : laidMet Tryz.prog listedGB W ∧ handlesMet Tryz.prog listed W := h
def keepT (x : String × DataW Unit) : Bool := x.1 == "unicode/utf8.acceptRanges" || x.1 == "unicode/utf8.first"
theorem keepT_GB : listedGB.filter keepT = listedT := by
  unfold keepT
  simp [listedGB, listedT]
theorem handle_of_laidGI {W : World} (h : laidMetH Tryz.prog listedGI W) : W.cell? ⟨0, 0, none⟩ = some errT := by
  have h1 := laidMet.filter keepT (parts_of_laidGI h).1
  rw [keepT_GB] at h1
  exact handle_of_laidTE (show laidMet Tryz.prog listedT W ∧ handlesMet Tryz.prog listed W from ⟨h1, (parts_of_laidGI h).2⟩)
end Go.Proofs.YtjiaidchcldocaaGreatDoor
namespace Go.Proofs.YtjiaidchcldocaaGreatDoor
open Go.ChangeShapes Go.WideShapes Go.ChangeAt Go.RowKit

theorem opens_change {P : Program} {t : TypeId} {f0 f1 f2 : Field} (ht : P.underlying t = some (.struct #[f0, f1, f2])) (hc : P.cellsOf t = 3) (o0 : f0.offset = 0) (o1 : f1.offset = 1) (o2 : f2.offset = 2) (k0 : P.cellsOf f0.type = 1) (k1 : P.cellsOf f1.type = 1) (k2 : P.cellsOf f2.type = 1)
    (h0 : P.underlying f0.type = some (.int .i64)) (h1 : P.underlying f1.type = some .string) (h2 : Opens P f2.type (List Hunk)) : Opens P t Change := by
  intro H enc w base spare held fuel cs d ps h
  obtain ⟨y0, y1, y2, n, hx, hl, e0, e1, e2⟩ := Deep.trod_struct3 ht h
  rw [hc] at hl
  match cs, hl with
  | [c0, c1, c2], _ =>
    rw [o0, k0] at e0
    rw [o1, k1] at e1
    rw [o2, k2] at e2
    obtain ⟨m, m1, m2, m3⟩ := DataW.trod_int h0 e0
    obtain ⟨s, s1, s2, s3⟩ := DataW.trod_string h1 e1
    simp at m1 s1 e2
    subst m1 s1 m2 s2
    obtain ⟨l, hl1, hl2⟩ := h2 H enc w base spare held n [c2] y2.1 y2.2 e2
    simp only [Prod.mk.injEq] at hx
    obtain ⟨rfl, rfl⟩ := hx
    refine ⟨⟨m, s, l⟩, ⟨c2, rfl, s3, hl1⟩, ?_⟩
    show s.size + Dat.bulk l + 3 ≤ Rows.uptoBulk (.agg [.lit (.int .i64 m), .lit (.string s.data.toList), y2.1])
    simp only [Rows.uptoBulk, Rows.uptoBulkAll]
    rw [Array.length_toList]
    show s.size + Dat.bulk l + 3 ≤ 1 + (s.size + 1 + (Rows.uptoBulk y2.1 + 0)) + 1
    omega

theorem opens_achange : Opens Tryz.prog 85 Change := opens_change Tryz.underlying85 (by kernel_rfl) rfl rfl rfl (by kernel_rfl) (by kernel_rfl) (by kernel_rfl) Tryz.underlying3 Tryz.underlying9 opens_hunks
theorem opens_changes : Opens Tryz.prog 51 (List Change) := opens_slice Tryz.underlying51 (by kernel_rfl) opens_achange
theorem opens_series : Opens Tryz.prog 22 (List (List Change)) := opens_slice Tryz.underlying22 (by kernel_rfl) opens_changes
end Go.Proofs.YtjiaidchcldocaaGreatDoor
namespace Go.Proofs.YtjiaidchcldocaaGreatDoor

theorem all_same {t : List UInt8} {n : Nat} {x : Piece} {r : List Piece} (h : ∀ y ∈ x :: r, y.title = t ∧ y.many = n) : (x :: r).all (fun y => y.title == x.title && y.many == x.many) = true := by
  rw [List.all_eq_true]
  intro y hy
  obtain ⟨a, b⟩ := h y hy
  obtain ⟨c, d⟩ := h x (List.mem_cons_self ..)
  rw [a, b, c, d]; simp
/-- what is missing is missed -/
theorem open_less {t : List UInt8} {n : Nat} {ps : List Piece} (h : ∀ y ∈ ps, y.title = t ∧ y.many = n) (hn : (ps.map (·.at')).Nodup) (hl : ps.length ≤ n) : openPs ps = ([], [], 4) := by
  match ps, h, hn, hl with
  | [], _, _, _ => rfl
  | x :: r, h, hn, hl =>
    unfold openPs
    simp only
    rw [all_same h, if_neg (by decide), if_neg (by simpa using hn), if_pos (by rw [(h x (List.mem_cons_self ..)).2]; exact hl)]
theorem open_twice {t : List UInt8} {n : Nat} {ps : List Piece} (h : ∀ y ∈ ps, y.title = t ∧ y.many = n) (hn : ¬ (ps.map (·.at')).Nodup) : openPs ps = ([], [], 6) := by
  match ps, h, hn with
  | [], _, hn => exact absurd List.nodup_nil hn
  | x :: r, h, hn =>
    unfold openPs
    simp only
    rw [all_same h, if_neg (by decide), if_pos (by simpa using hn)]
theorem open_wrong {ps : List Piece} {x y : Piece} (hx : x ∈ ps) (hy : y ∈ ps) (h : x.title ≠ y.title) : openPs ps = ([], [], 2) := by
  match ps, hx, hy with
  | z :: r, hx, hy =>
    unfold openPs
    simp only
    rw [if_pos]
    cases e : (z :: r).all (fun y => y.title == z.title && y.many == z.many) with
    | false => rfl
    | true =>
      have a := List.all_eq_true.1 e x hx
      have b := List.all_eq_true.1 e y hy
      rw [Bool.and_eq_true] at a b
      exact absurd ((eq_of_beq a.1).trans (eq_of_beq b.1).symm) h
end Go.Proofs.YtjiaidchcldocaaGreatDoor
namespace Go.Proofs.YtjiaidchcldocaaGreatDoor
open Go.RowKit

theorem elems_ints {w : World} {O : Nat → Prop} {a : Option Addr} {l : List Int} (h : Elems w O a l) {i : Nat} {x : Int} (hx : l[i]? = some x) :
    ∃ b off, a = some ⟨b, off, none⟩ ∧ ¬ O b ∧ w.cell? ⟨b, off + i, none⟩ = some (.int .i64 x) ∧ I64 x := by
  obtain ⟨b, off, es, ha, hb, hc, rfl, hr⟩ := h i x hx
  refine ⟨b, off, ha, hb, ?_, hr⟩
  have := hc 0 _ rfl
  rw [show off + i * Dat.n Int + 0 = off + i by show off + i * 1 + 0 = _; omega] at this
  exact this
end Go.Proofs.YtjiaidchcldocaaGreatDoor
namespace Go.Proofs.YtjiaidchcldocaaGreatDoor
open Go.RowKit

theorem tmod_nat {c : Int} {n : Nat} (hc : 0 ≤ c) (h0 : 0 < n) : ∃ k : Nat, k < n ∧ Int.tmod c (n : Int) = (k : Int) := by
  obtain ⟨d, rfl⟩ : ∃ d : Nat, c = d := ⟨c.toNat, by omega⟩
  exact ⟨d % n, Nat.mod_lt _ h0, by rw [Int.tmod_eq_emod_of_nonneg (by omega)]; omega⟩
set_option maxHeartbeats 1000000 in
theorem pick_any (c : Int) (n : Nat) (w : World) (hc : I64 c) (h0 : 0 < n) (hn : n ≤ 1000000000) :
    Calls Tryz.prog 16 #[.int .i64 c, .int .i64 n] w fun e w' => ∃ k : Nat, k < n ∧ e = .returned (.int .i64 k) ∧ w' = w := by
  unfold I64 at hc
  have n0 : ((n : Int) == 0) = false := by simp; omega
  have n1 : ((n : Int) != 0) = true := by simp; omega
  by_cases h : c < 0
  · have t1 : decide (c < 0) = true := decide_eq_true h
    have s1 : IntKind.i64.wrap (c + 1) = c + 1 := IntWalk.i64_in _ (by omega)
    have s2 : IntKind.i64.wrap (-(c + 1)) = -(c + 1) := IntWalk.i64_in _ (by omega)
    obtain ⟨k, hk, e⟩ := tmod_nat (c := -(c + 1)) (by omega) h0
    have s3 : IntKind.i64.wrap (k : Int) = k := IntWalk.i64_in _ (by omega)
    have HE := Lib.hid e
    go_enter Tryz.func16, Tryz.ntmps16
    go_wp2_with fail
    go_ret
    exact ⟨k, hk, rfl, rfl⟩
  · have t1 : decide (c < 0) = false := decide_eq_false h
    obtain ⟨k, hk, e⟩ := tmod_nat (c := c) (by omega) h0
    have s3 : IntKind.i64.wrap (k : Int) = k := IntWalk.i64_in _ (by omega)
    go_enter Tryz.func16, Tryz.ntmps16
    go_wp2_with fail
    go_ret
    exact ⟨k, hk, rfl, rfl⟩
end Go.Proofs.YtjiaidchcldocaaGreatDoor
namespace Go.Proofs.YtjiaidchcldocaaGreatDoor
open Go.RowKit

theorem move_perm {α : Type} {L : List α} {j : Nat} {x : α} (h : L[j]? = some x) : (L.take j ++ L.drop (j + 1) ++ [x]).Perm L := by
  obtain ⟨hj, e⟩ := List.getElem?_eq_some_iff.1 h
  have e2 : L = L.take j ++ x :: L.drop (j + 1) := by
    conv => lhs; rw [← List.take_append_drop j L, List.drop_eq_getElem_cons hj, e]
  conv => rhs; rw [e2]
  rw [List.append_assoc]
  exact List.Perm.append_left _ (List.perm_append_singleton x _)
theorem size_mail (w : World) : (sizeOf (Tryz.prog.elem 24)).run Tryz.prog w = .ok 4 w := by kernel_rfl
set_option maxHeartbeats 1000000 in
set_option maxRecDepth 100000 in
theorem lturned_any (l : List Mail) (ord : List Int) (v vo : Value) (w : World) (h : Rdv w Never v l) (ho : Rdv w Never vo ord) (hl : l.length ≤ 1000000) :
    Calls Tryz.prog 13 #[v, vo] w fun e w' => ∃ (r : Value) (L : List Mail), e = .returned r ∧ Chg Never w w' ∧ Rdv w' Never r L ∧ List.Perm L l := by
  obtain ⟨a, cap, rfl, h1, h2, _⟩ := rdv_slice h
  obtain ⟨oa, ocap, rfl, o1, o2, o3⟩ := rdv_slice ho
  unfold maxLen at h2 o2
  have hn0 := ownN_nil (α := Mail) 31 (Chg.refl Never w)
  have hle : ([] : List Mail).length + l.length ≤ 1000000000 := by simp; omega
  go_enter Tryz.func13, Tryz.ntmps13
  go_wp2_with (at_builtin; refine wpList_many2 (by rfl) _ _ 24 (by rfl) elemOk_mail (O := Never) (l := []) (m := l) (by rfl) (by rfl) hn0.own (hn0.away h) (fun _ h => h.elim) hle ?_; intro v1 w1 hw1 hd1 hk1; have hn1 := hn0.step hw1 hd1 hk1; clear hw1 hd1 hk1 hn0; obtain ⟨s1, n1, c1, rfl⟩ := own_isSlice hn1.own)
  rw [List.nil_append] at hn1
  have hcw := hn1.chg
  have hr1 := hn1.own.rdv
  clear hn1
  go_loopw [5, 6] (fun ov iv wr => ∃ (k : Nat) (L : List Mail), k ≤ ord.length ∧ k ≤ 20 ∧ iv = .int .i64 k ∧ Chg Never w wr ∧ Rdv wr Never ov L ∧ Hid (L.Perm l)) (fun _ iv _ => 20 - (intOf iv).toNat)
  case atStart => exact ⟨0, l, Nat.zero_le _, Nat.zero_le _, rfl, hcw, hr1, List.Perm.refl _⟩
  case round =>
    clear hcw hr1
    obtain ⟨k, L, hk, hk20, rfl, hc, hL, hp⟩ := hrel
    rename World => wr
    obtain ⟨la, lc, rfl, l1, l2, l3⟩ := rdv_slice hL
    have hL9 : L.length ≤ 1000000 := by have := hp.out.length_eq; omega
    by_cases hlt : k < ord.length
    · have t1 : decide ((k : Int) < (ord.length : Int)) = true := decide_eq_true (by omega)
      by_cases hlt2 : k < 20
      · have t2 : decide ((k : Int) < 20) = true := decide_eq_true (by omega)
        by_cases h0 : 0 < L.length
        · have t3 : decide ((0 : Int) < (L.length : Int)) = true := decide_eq_true (by omega)
          have t3n : decide (0 < L.length) = true := decide_eq_true h0
          have t3g : decide ((L.length : Int) > 0) = true := t3
          obtain ⟨c, hx⟩ : ∃ c, ord[k]? = some c := ⟨ord[k]'(by omega), List.getElem?_eq_getElem (by omega)⟩
          obtain ⟨ob, oo, rfl, -, co, hci⟩ := elems_ints o3 hx
          have co := hc.cellNever co
          have p1 : (k : Int) < (ord.length : Int) := by omega
          clear hx o3
          go_wp2_with fail
          refine (pick_any c L.length _ hci h0 (by omega)).mono ?_
          rintro e w2 ⟨j, hj, rfl, rfl⟩
          rename World => wr
          obtain ⟨x, hx⟩ : ∃ x, L[j]? = some x := ⟨L[j]'(by omega), List.getElem?_eq_getElem (by omega)⟩
          obtain ⟨b, off, bv, rfl, _, _, c0, c1, c2, c3, z0, z1, z2, hv⟩ := elems_mail l3 hx
          obtain ⟨ba, bc, rfl, _, _, _⟩ := rdv_slice hv
          have hA : Chg Never wr (wr.alloc (.cells #[.string x.sender, .string x.subject, .string x.ident, .slice ba x.body.length bc] 31)) := (Chg.refl Never wr).alloc _
          obtain ⟨_, g0, g1, g2, g3⟩ := box1_mail wr 31 x.sender x.subject x.ident (.slice ba x.body.length bc) _ rfl
          have HP := Lib.hid ((move_perm hx).trans hp.out)
          have jlt : (j : Int) < (L.length : Int) := by omega
          have sN : IntKind.i64.wrap ((j : Int) + 1) = (j : Int) + 1 := IntWalk.i64_in _ (by omega)
          obtain ⟨sb1, u0, u1, hrunH, hsub1⟩ := slice_gen (P := Tryz.prog) (t := 24) (by kernel_rfl) size_mail (hL.never hA) 0 j (Nat.zero_le _) (by omega)
          have hrunH := fun (wx : World) => hrunH j wx rfl rfl
          clear u0 u1
          rw [Nat.sub_zero, Nat.sub_zero] at hrunH hsub1
          rw [List.drop_zero] at hsub1
          obtain ⟨sb2, u0, hrunL, u1, hsub2⟩ := slice_gen (P := Tryz.prog) (t := 24) (by kernel_rfl) size_mail (hL.never hA) (j + 1) L.length (by omega) (Nat.le_refl _)
          have hrunL := fun (wx : World) => hrunL ((j : Int) + 1) wx (by push_cast; rfl) rfl
          clear u0 u1
          rw [List.take_of_length_le (by rw [List.length_drop]; omega)] at hsub2
          have hvA := hv.never hA
          have hn := ownN_nil (α := Mail) 31 (Chg.refl Never (wr.alloc (.cells #[.string x.sender, .string x.subject, .string x.ident, .slice ba x.body.length bc] 31)))
          have hle1 : ([] : List Mail).length + (L.take j).length ≤ 1000000000 := by simp; omega
          have hle2 : (L.take j).length + (L.drop (j + 1)).length ≤ 1000000000 := by simp; omega
          have hle3 : (L.take j ++ L.drop (j + 1)).length ≤ 1000000000 := by simp; omega
          have hcA := hc.trans hA
          have hsub1 := hn.away hsub1
          obtain ⟨T, hT⟩ : ∃ T, L.take j = T := ⟨_, rfl⟩
          obtain ⟨D, hD⟩ : ∃ D, L.drop (j + 1) = D := ⟨_, rfl⟩
          rw [hT] at hsub1 hle1 hle2 hle3 HP
          rw [hD] at hsub2 hle2 hle3 HP
          have G0 := Lib.hid g0
          have G1 := Lib.hid g1
          have G2 := Lib.hid g2
          have G3 := Lib.hid g3
          clear l3 hx hv hL hp hT hD hc hA g0 g1 g2 g3
          go_wp2_with (first
            | (at_builtin; refine wpList_many2 (by rfl) _ _ 24 (by rfl) elemOk_mail (O := Never) (l := []) (m := T) (by rfl) (by rfl) hn.own hsub1 (fun _ h => h.elim) hle1 ?_; intro v1 w1 hw1 hd1 hk1; have hn1 := hn.step hw1 hd1 hk1; rw [List.nil_append] at hn1; have hs2 := hn1.away hsub2; clear hw1 hd1 hk1 hn hsub1 hsub2; obtain ⟨s1, n1, c1, rfl⟩ := own_isSlice hn1.own)
            | (at_builtin; refine wpList_many2 (by rfl) _ _ 24 (by rfl) elemOk_mail (O := Never) (l := T) (m := D) (by rfl) (by rfl) hn1.own hs2 (fun _ h => h.elim) hle2 ?_; intro v2 w2 hw2 hd2 hk2; have hn2 := hn1.step hw2 hd2 hk2; clear hw2 hd2 hk2 hn1 hs2; obtain ⟨s2, n2, c2, rfl⟩ := own_isSlice hn2.own; have g0 := hn2.chg.cellNever G0.out; have g1 := hn2.chg.cellNever G1.out; have g2 := hn2.chg.cellNever G2.out; have g3 := hn2.chg.cellNever G3.out; have hy : Dat.rd w2 (fun k => Never k ∨ (Value.slice s2 n2 c2).ownBlock = some k) [.string x.sender, .string x.subject, .string x.ident, .slice ba x.body.length bc] x := ⟨_, rfl, z0, z1, z2, hn2.away hvA⟩)
            | (at_builtin; refine wpList_push (by rfl) _ _ 24 (by rfl) elemOk_mail (O := Never) (l := T ++ D) (y := x) (by rfl) (by rfl) (by rfl) hn2.own hy (fun _ h => h.elim) hle3 ?_; intro v3 w3 hown3 hc3 hk3; have hn3 := hn2.step1 hown3 hc3 hk3; clear hown3 hc3 hk3 hy hn2 g0 g1 g2 g3; obtain ⟨s3, n3, c3', rfl⟩ := own_isSlice hn3.own))
          have hcf := hcA.trans hn3.chg
          have hrf := hn3.own.rdv
          clear hn3 hcA G0 G1 G2 G3 hvA
          go_roundw
          case rel => exact ⟨k + 1, _, by omega, by omega, by go_num, hcf, hrf, HP⟩
          case measure => simp [intOf] <;> omega
        · have t3 : decide ((0 : Int) < (L.length : Int)) = false := decide_eq_false (by omega)
          have t3n : decide (0 < L.length) = false := decide_eq_false h0
          clear l3 o3
          go_wp2_with fail
          go_ret
          exact ⟨_, L, rfl, hc, hL, hp.out⟩
      · have t2 : decide ((k : Int) < 20) = false := decide_eq_false (by omega)
        clear l3 o3
        go_wp2_with fail
        go_ret
        exact ⟨_, L, rfl, hc, hL, hp.out⟩
    · have t1 : decide ((k : Int) < (ord.length : Int)) = false := decide_eq_false (by omega)
      clear l3 o3
      go_wp2_with fail
      go_ret
      exact ⟨_, L, rfl, hc, hL, hp.out⟩
end Go.Proofs.YtjiaidchcldocaaGreatDoor
namespace Go.Proofs.YtjiaidchcldocaaGreatDoor
open Go.RowKit

def moreTo (l : List Hunk) (k : Nat) : Int := ((l.take k).map fun h => (newN h.marks : Int) - oldN h.marks).sum
theorem moreTo_succ {l : List Hunk} {k : Nat} {x : Hunk} (hx : l[k]? = some x) : moreTo l (k + 1) = moreTo l k + ((newN x.marks : Int) - oldN x.marks) := by
  unfold moreTo
  rw [List.take_add_one, hx]
  simp
/-- what has come ahead of number k -/
structure PrevOk (l : List Hunk) (k : Nat) (fin more : Int) : Prop where
  ok : ∀ y ∈ l.take k, scriptFault y.marks = 0
  zero : k = 0 → fin = 0
  prev : ∀ x, 0 < k → l[k - 1]? = some x → fin = x.old + oldN x.marks
  eq : more = moreTo l k
  bound : ∀ x, 0 < k → l[k - 1]? = some x → 0 ≤ x.old ∧ x.old ≤ 60
theorem PrevOk.step {l : List Hunk} {k : Nat} {fin more : Int} {x : Hunk} (h : PrevOk l k fin more) (hx : l[k]? = some x) (hz : oneFault x fin more = 0) : PrevOk l (k + 1) (x.old + oldN x.marks) (more + newN x.marks - oldN x.marks) := by
  obtain ⟨h0, _, z3, _, z5, _⟩ := oneFault_zero hz
  refine ⟨take_all_succ h.ok hx h0, fun e => by omega, fun y _ hy => ?_, ?_, fun y _ hy => ?_⟩
  · rw [Nat.add_sub_cancel, hx] at hy
    injection hy with hy
    rw [hy]
  · rw [moreTo_succ hx, h.eq]; omega
  · rw [Nat.add_sub_cancel, hx] at hy
    injection hy with hy
    rw [← hy]
    omega
end Go.Proofs.YtjiaidchcldocaaGreatDoor
namespace Go.Proofs.YtjiaidchcldocaaGreatDoor
open Go.RowKit

def xW : ByteArray := ⟨#[120]⟩
theorem x_pack : packF xW.data.toList [] = 0 ∧ packR xW.data.toList [] = [partMail xW.data.toList 0 0 []] := by
  have h : packF xW.data.toList [] = 0 := by decide +kernel
  exact ⟨h, by unfold packR; rw [if_pos h]; rfl⟩
theorem packL_len (t : List UInt8) (p : List (List Change)) : (packL t p).length = p.length + 1 := by unfold packL; rw [List.length_cons, packGo_len]
end Go.Proofs.YtjiaidchcldocaaGreatDoor
namespace Go.Proofs.YtjiaidchcldocaaGreatDoor

theorem canonP_mem {t : List UInt8} {p : List (List Change)} : ∀ x ∈ canonP t p, x.title = t ∧ x.many = p.length := fun x hx => by
  rcases List.mem_cons.1 hx with rfl | hx
  · exact ⟨rfl, rfl⟩
  · exact ⟨(canon_mem hx).1, (canon_mem hx).2.1⟩
theorem canonP_nodup (t : List UInt8) (p : List (List Change)) : ((canonP t p).map (·.at')).Nodup := by
  unfold canonP
  rw [List.map_cons, List.nodup_cons]
  refine ⟨fun q => ?_, canon_nodup t _ 1 p⟩
  obtain ⟨x, hx, e⟩ := List.mem_map.1 q
  have := (canon_mem hx).2.2.1
  simp only at e
  omega
theorem packed_mem {t : List UInt8} {p : List (List Change)} (h : packF t p = 0) : ∀ x ∈ packL t p, pieceF x = 0 ∧ (pieceOf x).title = t ∧ (pieceOf x).many = p.length := fun x hx => by
  obtain ⟨h1, h2⟩ := pack_pieces h
  have hm : pieceOf x ∈ canonP t p := by rw [← h2]; exact List.mem_map.2 ⟨x, hx, rfl⟩
  exact ⟨h1 x hx, canonP_mem _ hm⟩
theorem packed_nodup {t : List UInt8} {p : List (List Change)} (h : packF t p = 0) : (((packL t p).map pieceOf).map (·.at')).Nodup := by
  rw [(pack_pieces h).2]
  exact canonP_nodup t p
theorem packed_len (t : List UInt8) (p : List (List Change)) : (packL t p).length = p.length + 1 := by unfold packL; rw [List.length_cons, packGo_len]
theorem less_mem {α : Type} {l : List α} {i : Nat} {x : α} (h : x ∈ l.take i ++ l.drop (i + 1)) : x ∈ l := by
  rcases List.mem_append.1 h with h | h
  · exact List.mem_of_mem_take h
  · exact List.mem_of_mem_drop h
theorem open_of {l : List Mail} (h : ∀ x ∈ l, pieceF x = 0) : openMs l = openPs (l.map pieceOf) := by
  unfold openMs
  rw [firstOf_all h, if_neg (by simp)]
/-- without one of its mails -/
theorem miss_less {t : List UInt8} {p : List (List Change)} (h : packF t p = 0) {i : Nat} (hi : i < (packL t p).length) {L : List Mail} (hp : List.Perm L ((packL t p).take i ++ (packL t p).drop (i + 1))) : openMs L = ([], [], 4) := by
  have hm : ∀ x ∈ L, x ∈ packL t p := fun x hx => less_mem (hp.mem_iff.1 hx)
  rw [open_of fun x hx => (packed_mem h x (hm x hx)).1]
  refine open_less (t := t) (n := p.length) (fun y hy => ?_) ?_ ?_
  · obtain ⟨x, hx, rfl⟩ := List.mem_map.1 hy
    exact (packed_mem h x (hm x hx)).2
  · rw [((hp.map pieceOf).map (·.at')).nodup_iff, ← List.eraseIdx_eq_take_drop_succ]
    exact (packed_nodup h).sublist (((List.eraseIdx_sublist _ _).map _).map _)
  · rw [List.length_map, hp.length_eq, List.length_append, List.length_take, List.length_drop, packed_len] at *
    omega
/-- with one twice -/
theorem miss_twice {t : List UInt8} {p : List (List Change)} (h : packF t p = 0) {x : Mail} (hx : x ∈ packL t p) {L : List Mail} (hp : List.Perm L (packL t p ++ [x])) : openMs L = ([], [], 6) := by
  have hm : ∀ y ∈ L, y ∈ packL t p := fun y hy => by
    rcases List.mem_append.1 (hp.mem_iff.1 hy) with q | q
    · exact q
    · rw [List.mem_singleton.1 q]; exact hx
  rw [open_of fun y hy => (packed_mem h y (hm y hy)).1]
  refine open_twice (t := t) (n := p.length) (fun y hy => ?_) ?_
  · obtain ⟨z, hz, rfl⟩ := List.mem_map.1 hy
    exact (packed_mem h z (hm z hz)).2
  · rw [((hp.map pieceOf).map (·.at')).nodup_iff, List.map_append, List.map_append, List.nodup_append]
    rintro ⟨_, _, q⟩
    exact q _ (List.mem_map.2 ⟨pieceOf x, List.mem_map.2 ⟨x, hx, rfl⟩, rfl⟩) _ (by simp) rfl
/-- with one of another series -/
theorem miss_wrong {t o : List UInt8} {p : List (List Change)} (h : packF t p = 0) (g : packF o p = 0) (hne : o ≠ t) (h0 : 0 < p.length) {i : Nat} (hi : i < (packL t p).length) {y : Mail} (hy : y ∈ packL o p) {L : List Mail} (hp : List.Perm L ((packL t p).take i ++ (packL t p).drop (i + 1) ++ [y])) : openMs L = ([], [], 2) := by
  have hm : ∀ z ∈ L, z ∈ packL t p ∨ z = y := fun z hz => by
    rcases List.mem_append.1 (hp.mem_iff.1 hz) with q | q
    · exact .inl (less_mem q)
    · exact .inr (List.mem_singleton.1 q)
  rw [open_of fun z hz => by
    rcases hm z hz with q | q
    · exact (packed_mem h z q).1
    · rw [q]; exact (packed_mem g y hy).1]
  have hlen : 0 < ((packL t p).take i ++ (packL t p).drop (i + 1)).length := by
    rw [packed_len] at hi
    rw [List.length_append, List.length_take, List.length_drop, packed_len]
    omega
  obtain ⟨x, hx⟩ := List.exists_mem_of_length_pos hlen
  refine open_wrong (x := pieceOf x) (y := pieceOf y) (List.mem_map.2 ⟨x, hp.mem_iff.2 (List.mem_append_left _ hx), rfl⟩) (List.mem_map.2 ⟨y, hp.mem_iff.2 (by simp), rfl⟩) ?_
  rw [(packed_mem h x (less_mem hx)).2.1, (packed_mem g y hy).2.1]
  exact Ne.symm hne
end Go.Proofs.YtjiaidchcldocaaGreatDoor
