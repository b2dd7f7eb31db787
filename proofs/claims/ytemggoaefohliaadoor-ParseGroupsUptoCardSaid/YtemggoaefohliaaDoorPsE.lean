/- Joined: DaA, DaB, DaC, DaD, DqF. No condition beyond those of its lemmas. -/
import Derived.Test.YtemggoaefohliaaDoorProg
import Derived.WalkKit
import Derived.LaidEql
import Derived.Stop.Asserts
import Derived.RowKitTokens
import Derived.KernelRfl
import Derived.Test.YtemggoaefohliaaDoorPxA
import Derived.Test.YtemggoaefohliaaDoorPsD
import Derived.Test.YtemggoaefohliaaDoorRows
import Derived.LaidHandle
import Derived.LaidLaws
import Derived.Stop.Joined
/- errors.As at the two targets that fault.Code and fault.Place hand it, by its contracts. Condition: the cell of errors.errorType. (After the kit's worked ToyasAs.) -/
namespace Go.Proofs.YtemggoaefohliaaDoor.FA
set_option linter.unusedVariables false
set_option linter.unusedSimpArgs false
open Go Go.RowKit Go.Extern.Stop Go.Stop Go.Extern

/-- errors.As(nil, target). -/
theorem as_nil (t : Value) (w : World) :
    Calls Tryd.prog 21 #[.nilIface, t] w fun e w' => e = .returned (.bool false) ∧ w' = w := by
  go_enter Tryd.func21, Tryd.ntmps21
  go_wp2
  go_ret
  exact ⟨rfl, rfl⟩

theorem valueOf56 (t : Addr) (w : World) : (ReflectliteValue.unpack (.iface 56 (.pointer (some t)))).run Tryd.prog w
    = .ok (.agg #[.pointer (some ⟨2, 56, none⟩), .pointer (some ⟨w.heap.size, 0, none⟩), .int .u64 150]) (w.alloc (.cells #[.pointer (some t)] 56)) := by kernel_rfl
theorem valueOf51 (t : Addr) (w : World) : (ReflectliteValue.unpack (.iface 51 (.pointer (some t)))).run Tryd.prog w
    = .ok (.agg #[.pointer (some ⟨2, 51, none⟩), .pointer (some ⟨w.heap.size, 0, none⟩), .int .u64 150]) (w.alloc (.cells #[.pointer (some t)] 51)) := by kernel_rfl
theorem type56 (a : Addr) (w : World) : (ReflectliteValue.methodAny (ReflectliteValue.valueError "reflectlite.Value.Type" 0) (fun t _ _ _ => ReflectliteType.toType t) #[.agg #[.pointer (some ⟨2, 56, none⟩), .pointer (some a), .int .u64 150]]).run Tryd.prog w
    = .ok (.iface 91 (.agg #[.pointer (some ⟨2, 56, none⟩)])) w := by kernel_rfl
theorem type51 (a : Addr) (w : World) : (ReflectliteValue.methodAny (ReflectliteValue.valueError "reflectlite.Value.Type" 0) (fun t _ _ _ => ReflectliteType.toType t) #[.agg #[.pointer (some ⟨2, 51, none⟩), .pointer (some a), .int .u64 150]]).run Tryd.prog w
    = .ok (.iface 91 (.agg #[.pointer (some ⟨2, 51, none⟩)])) w := by kernel_rfl
theorem methodKind (h : Value) (w : World) : (Go.method 257 91 (.agg #[h]) "Kind").run Tryd.prog w = .ok (97, h) w := by kernel_rfl
theorem kind56 (w : World) : ((ReflectliteType.abiMethod fun t => (fun a : Nat => Value.int IntKind.u8 (a : Int)) <$> Rtype.kind t) #[.pointer (some ⟨2, 56, none⟩)]).run Tryd.prog w = .ok (.int .u8 22) w := by kernel_rfl
theorem kind51 (w : World) : ((ReflectliteType.abiMethod fun t => (fun a : Nat => Value.int IntKind.u8 (a : Int)) <$> Rtype.kind t) #[.pointer (some ⟨2, 51, none⟩)]).run Tryd.prog w = .ok (.int .u8 22) w := by kernel_rfl
theorem kind55 (w : World) : ((ReflectliteType.abiMethod fun t => (fun a : Nat => Value.int IntKind.u8 (a : Int)) <$> Rtype.kind t) #[.pointer (some ⟨2, 55, none⟩)]).run Tryd.prog w = .ok (.int .u8 22) w := by kernel_rfl
theorem kind30 (w : World) : ((ReflectliteType.abiMethod fun t => (fun a : Nat => Value.int IntKind.u8 (a : Int)) <$> Rtype.kind t) #[.pointer (some ⟨2, 30, none⟩)]).run Tryd.prog w = .ok (.int .u8 2) w := by kernel_rfl
theorem rlm (z : Sem Value) (f : TypeId → Addr → Nat → Nat → Sem Value) (v : Value) :
    ReflectliteValue.method z f #[v] = (do match ← ReflectliteValue.parts v with | none => z | some (t, a, fl) => f t a fl (fl % 32)) := rfl
theorem parts56 (a : Addr) (w : World) : (ReflectliteValue.parts (.agg #[.pointer (some ⟨2, 56, none⟩), .pointer (some a), .int .u64 150])).run Tryd.prog w = .ok (some (56, a, 150)) w := by kernel_rfl
theorem parts51 (a : Addr) (w : World) : (ReflectliteValue.parts (.agg #[.pointer (some ⟨2, 51, none⟩), .pointer (some a), .int .u64 150])).run Tryd.prog w = .ok (some (51, a, 150)) w := by kernel_rfl
theorem isNil56 (a p : Addr) (W : World) (ha : W.cell? a = some (.pointer (some p))) :
    (ReflectliteValue.method (ReflectliteValue.valueError "reflectlite.Value.IsNil" 0) ReflectliteValue.isNil #[.agg #[.pointer (some ⟨2, 56, none⟩), .pointer (some a), .int .u64 150]]).run Tryd.prog W = .ok (.bool false) W := by
  rw [rlm]
  simp only [Sem.run_bind, parts56, Result.andThen]
  simp [ReflectliteValue.isNil, loadVar, isAgg, underlying, Tryd.underlying56, ha, Result.andThen]
theorem isNil51 (a p : Addr) (W : World) (ha : W.cell? a = some (.pointer (some p))) :
    (ReflectliteValue.method (ReflectliteValue.valueError "reflectlite.Value.IsNil" 0) ReflectliteValue.isNil #[.agg #[.pointer (some ⟨2, 51, none⟩), .pointer (some a), .int .u64 150]]).run Tryd.prog W = .ok (.bool false) W := by
  rw [rlm]
  simp only [Sem.run_bind, parts51, Result.andThen]
  simp [ReflectliteValue.isNil, loadVar, isAgg, underlying, Tryd.underlying51, ha, Result.andThen]
theorem methodElem (h : Value) (w : World) : (Go.method 257 91 (.agg #[h]) "Elem").run Tryd.prog w = .ok (110, .agg #[h]) w := by kernel_rfl
theorem methodImplements (h : Value) (w : World) : (Go.method 257 91 (.agg #[h]) "Implements").run Tryd.prog w = .ok (111, .agg #[h]) w := by kernel_rfl
theorem methodAssignableTo (h : Value) (w : World) : (Go.method 257 91 (.agg #[h]) "AssignableTo").run Tryd.prog w = .ok (108, .agg #[h]) w := by kernel_rfl
theorem methodAs (h : Addr) (w : World) : (Go.method 257 55 (.pointer (some h)) "As").run Tryd.prog w = .ok (101, .pointer (some h)) w := by kernel_rfl
theorem elem56 (w : World) : (ReflectliteType.method ReflectliteType.elem #[.agg #[.pointer (some ⟨2, 56, none⟩)]]).run Tryd.prog w = .ok (.iface 91 (.agg #[.pointer (some ⟨2, 55, none⟩)])) w := by kernel_rfl
theorem elem51 (w : World) : (ReflectliteType.method ReflectliteType.elem #[.agg #[.pointer (some ⟨2, 51, none⟩)]]).run Tryd.prog w = .ok (.iface 91 (.agg #[.pointer (some ⟨2, 30, none⟩)])) w := by kernel_rfl
theorem implements55 (w : World) : (ReflectliteType.relation "Implements" ReflectliteType.implements_ #[.agg #[.pointer (some ⟨2, 55, none⟩)], .iface 91 (.agg #[.pointer (some ⟨2, 27, none⟩)])]).run Tryd.prog w = .ok (.bool true) w := by kernel_rfl
theorem implements30 (w : World) : (ReflectliteType.relation "Implements" ReflectliteType.implements_ #[.agg #[.pointer (some ⟨2, 30, none⟩)], .iface 91 (.agg #[.pointer (some ⟨2, 27, none⟩)])]).run Tryd.prog w = .ok (.bool true) w := by kernel_rfl
theorem typeOf55 (v : Value) (w : World) : (ReflectliteType.typeOf #[.iface 55 v]).run Tryd.prog w = .ok (.iface 91 (.agg #[.pointer (some ⟨2, 55, none⟩)])) w := by kernel_rfl
theorem assignable55 (w : World) : (ReflectliteType.relation "AssignableTo" ReflectliteType.assignableTo #[.agg #[.pointer (some ⟨2, 55, none⟩)], .iface 91 (.agg #[.pointer (some ⟨2, 55, none⟩)])]).run Tryd.prog w = .ok (.bool true) w := by kernel_rfl
theorem assignable30 (w : World) : (ReflectliteType.relation "AssignableTo" ReflectliteType.assignableTo #[.agg #[.pointer (some ⟨2, 55, none⟩)], .iface 91 (.agg #[.pointer (some ⟨2, 30, none⟩)])]).run Tryd.prog w = .ok (.bool false) w := by kernel_rfl
theorem valueOf55 (e : Addr) (w : World) : (ReflectliteValue.unpack (.iface 55 (.pointer (some e)))).run Tryd.prog w
    = .ok (.agg #[.pointer (some ⟨2, 55, none⟩), .pointer (some ⟨w.heap.size, 0, none⟩), .int .u64 150]) (w.alloc (.cells #[.pointer (some e)] 55)) := by kernel_rfl
theorem elemOf56 (w : World) : (Rtype.elem? 56).run Tryd.prog w = .ok (some 55) w := by kernel_rfl
theorem mk55 (p : Addr) (w : World) : (ReflectliteValue.mk 55 p ReflectliteValue.flagAddr).run Tryd.prog w = .ok (.agg #[.pointer (some ⟨2, 55, none⟩), .pointer (some p), .int .u64 406]) w := by kernel_rfl
theorem elemV56 (a p : Addr) (W : World) (ha : W.cell? a = some (.pointer (some p))) :
    (ReflectliteValue.method (ReflectliteValue.valueError "reflectlite.Value.Elem" 0) ReflectliteValue.elem #[.agg #[.pointer (some ⟨2, 56, none⟩), .pointer (some a), .int .u64 150]]).run Tryd.prog W
      = .ok (.agg #[.pointer (some ⟨2, 55, none⟩), .pointer (some p), .int .u64 406]) W := by
  rw [rlm]
  simp only [Sem.run_bind, parts56, Result.andThen]
  simp [ReflectliteValue.elem, loadVar, isAgg, underlying, Tryd.underlying56, ha, Result.andThen, elemOf56, mk55]
theorem rls (v x : Value) : ReflectliteValue.set #[v, x] = (do
    let (some (dst, a, fl), some (src, b, _)) := (← ReflectliteValue.parts v, ← ReflectliteValue.parts x)
      | unsupported (.noEntry "extern/(internal/reflectlite.Value).Set.zeroValue")
    if fl / ReflectliteValue.flagAddr % 2 == 0 then unsupported (.noEntry "extern/(internal/reflectlite.Value).Set.unaddressable")
    let val ← loadVar src b
    if ← Rtype.directlyAssignable dst src then storeVar dst a val
    else if ← Rtype.implements dst src then
      if (← Rtype.kind src) == 20 then
        match val with
        | .nilIface => unsupported (.noEntry "extern/reflectlite: a nil value of one interface type handed on as a value of another")
        | _ => storeVar dst a val
      else storeVar dst a (.iface src val)
    else panicString ("reflectlite.Set: value of type " ++ (← Rtype.spelt src) ++ " is not assignable to type " ++ (← Rtype.spelt dst))
    pure (.tuple #[])) := rfl
theorem parts55a (a : Addr) (w : World) : (ReflectliteValue.parts (.agg #[.pointer (some ⟨2, 55, none⟩), .pointer (some a), .int .u64 406])).run Tryd.prog w = .ok (some (55, a, 406)) w := by kernel_rfl
theorem parts55 (a : Addr) (w : World) : (ReflectliteValue.parts (.agg #[.pointer (some ⟨2, 55, none⟩), .pointer (some a), .int .u64 150])).run Tryd.prog w = .ok (some (55, a, 150)) w := by kernel_rfl
theorem direct55 (w : World) : (Rtype.directlyAssignable 55 55).run Tryd.prog w = .ok true w := by kernel_rfl
theorem set55 (ta b e : Addr) (old : Value) (W : World) (hb : W.cell? b = some (.pointer (some e))) (ht : W.cell? ta = some old) (hf : W.frozen? ta = false) :
    (ReflectliteValue.set #[.agg #[.pointer (some ⟨2, 55, none⟩), .pointer (some ta), .int .u64 406], .agg #[.pointer (some ⟨2, 55, none⟩), .pointer (some b), .int .u64 150]]).run Tryd.prog W
      = .ok (.tuple #[]) (W.setCell ta (.pointer (some e))) := by
  rw [rls]
  simp only [Sem.run_bind, parts55a, parts55, Result.andThen]
  simp [ReflectliteValue.flagAddr, loadVar, isAgg, underlying, Tryd.underlying55, hb, Result.andThen, direct55, storeVar, Value.cells, storeCells, Addr.add]
  rw [run_store Tryd.prog W ta _ _ (by rfl)]
  simp [ht, hf]
theorem hasAs (v : Value) (w : World) : (Instr.typeAssert (.iface 55 v) 27 96 true).run Tryd.prog w = .ok (.tuple #[.iface 55 v, .bool true]) w :=
  run_typeAssert_hasB Tryd.underlying96 (by kernel_rfl) v 27 w

end Go.Proofs.YtemggoaefohliaaDoor.FA

/- errors.As at the two targets that fault.Code and fault.Place hand it: its walk. Condition: the cell of errors.errorType. (After the kit's worked ToyasAs.) -/
namespace Go.Proofs.YtemggoaefohliaaDoor.FA
set_option linter.unusedVariables false
set_option linter.unusedSimpArgs false
open Go Go.RowKit Go.Extern.Stop Go.Stop Go.Extern
set_option maxRecDepth 100000
set_option maxHeartbeats 4000000

theorem isErrno (v : Value) (w : World) : (Instr.typeAssert (.iface 51 v) 20 51 true).run Tryd.prog w = .ok (.tuple #[v, .bool true]) w := by kernel_rfl
/-- (*Fault).As at a *Errno. -/
theorem fault_as (e t : Addr) (c : Int) (old : Value) (w : World) (he : w.cell? e = some (.int .i64 c)) (ht : w.cell? t = some old) (hf : w.frozen? t = false) :
    Calls Tryd.prog 101 #[.pointer (some e), .iface 51 (.pointer (some t))] w fun ev w' => ev = .returned (.bool true) ∧ w' = w.setCell t (.int .i64 c) := by
  have hE := isErrno
  go_enter Tryd.func101, Tryd.ntmps101
  go_wp2
  go_ret
  exact ⟨rfl, rfl⟩

/-- errors.As(a *Fault, a *Errno): the code is laid there. -/
theorem as_code (e t : Addr) (c : Int) (old : Value) (w : World) (hg : w.cell? ⟨0, 0, none⟩ = some (.iface 91 (.agg #[.pointer (some ⟨2, 27, none⟩)])))
    (he : w.cell? e = some (.int .i64 c)) (ht0 : w.cell? t = some old) (hf0 : w.frozen? t = false) :
    Calls Tryd.prog 21 #[.iface 55 (.pointer (some e)), .iface 51 (.pointer (some t))] w fun ev w' => ev = .returned (.bool true) ∧ w' = (((w.alloc (.cells #[.pointer (some t)] 51)).alloc (.cells #[.pointer (some ⟨2, 51, none⟩), .pointer (some ⟨w.heap.size, 0, none⟩), .int .u64 150] 78)).alloc (.cells #[.pointer (some ⟨2, 51, none⟩), .pointer (some ⟨w.heap.size, 0, none⟩), .int .u64 150] 78)).setCell t (.int .i64 c) := by
  have h34 := @run_callFunc_extern Tryd.prog 34 _ (fun args => ReflectliteValue.unpack (args.getD 0 (.tuple #[]))) Tryd.func34 (by kernel_rfl) (by kernel_rfl) (by kernel_rfl) (by kernel_rfl)
  have h35 := @run_callFunc_extern Tryd.prog 35 _ (ReflectliteValue.methodAny (ReflectliteValue.valueError "reflectlite.Value.Type" 0) (fun t _ _ _ => ReflectliteType.toType t)) Tryd.func35 (by kernel_rfl) (by kernel_rfl) (by kernel_rfl) (by kernel_rfl)
  have h36 := @run_callFunc_extern Tryd.prog 36 _ (ReflectliteValue.method (ReflectliteValue.valueError "reflectlite.Value.IsNil" 0) ReflectliteValue.isNil) Tryd.func36 (by kernel_rfl) (by kernel_rfl) (by kernel_rfl) (by kernel_rfl)
  have h97 := @run_callFunc_extern Tryd.prog 97 _ (ReflectliteType.abiMethod fun t => do pure (.int .u8 (← Rtype.kind t))) Tryd.func97 (by kernel_rfl) (by kernel_rfl) (by kernel_rfl) (by kernel_rfl)
  have h110 := @run_callFunc_extern Tryd.prog 110 _ (ReflectliteType.method ReflectliteType.elem) Tryd.func110 (by kernel_rfl) (by kernel_rfl) (by kernel_rfl) (by kernel_rfl)
  have h111 := @run_callFunc_extern Tryd.prog 111 _ (ReflectliteType.relation "Implements" ReflectliteType.implements_) Tryd.func111 (by kernel_rfl) (by kernel_rfl) (by kernel_rfl) (by kernel_rfl)
  have h49 := @run_callFunc_extern Tryd.prog 49 _ ReflectliteType.typeOf Tryd.func49 (by kernel_rfl) (by kernel_rfl) (by kernel_rfl) (by kernel_rfl)
  have h108 := @run_callFunc_extern Tryd.prog 108 _ (ReflectliteType.relation "AssignableTo" ReflectliteType.assignableTo) Tryd.func108 (by kernel_rfl) (by kernel_rfl) (by kernel_rfl) (by kernel_rfl)
  have tO := typeOf55
  have mA := methodAssignableTo
  have a30 := assignable30
  have f6 := valueOf51
  have f7 := type51
  have mK := methodKind
  have mE := methodElem
  have mI := methodImplements
  have mS := methodAs e
  have k51 := kind51
  have k30 := kind30
  have e51 := elem51
  have i30 := implements30
  have hA := hasAs
  have n8 := isNil51 ⟨w.heap.size, 0, none⟩ t ((w.alloc (.cells #[.pointer (some t)] 51)).alloc (.cells #[.pointer (some ⟨2, 51, none⟩), .pointer (some ⟨w.heap.size, 0, none⟩), .int .u64 150] 78)) (by simp)
  have hlt : 0 < w.heap.size := by
    rcases Nat.eq_zero_or_pos w.heap.size with h0 | h
    · simp [World.cell?, h0] at hg
    · exact h
  have hg2 : ((w.alloc (.cells #[.pointer (some t)] 51)).alloc (.cells #[.pointer (some ⟨2, 51, none⟩), .pointer (some ⟨w.heap.size, 0, none⟩), .int .u64 150] 78)).cell? ⟨0, 0, none⟩ = some (.iface 91 (.agg #[.pointer (some ⟨2, 27, none⟩)])) := by
    rw [World.cell?_alloc_lt _ _ ⟨0, 0, none⟩ (by simp), World.cell?_alloc_lt _ _ ⟨0, 0, none⟩ hlt]; exact hg
  have lt : ∀ {a : Addr} {v : Value}, w.cell? a = some v → a.block < w.heap.size := by
    intro a v h
    rcases Nat.lt_or_ge a.block w.heap.size with h' | h'
    · exact h'
    · simp [World.cell?, Array.getElem?_eq_none h'] at h
  have htl := lt ht0
  have hel := lt he
  have st := fault_as e t c old (((w.alloc (.cells #[.pointer (some t)] 51)).alloc (.cells #[.pointer (some ⟨2, 51, none⟩), .pointer (some ⟨w.heap.size, 0, none⟩), .int .u64 150] 78)).alloc (.cells #[.pointer (some ⟨2, 51, none⟩), .pointer (some ⟨w.heap.size, 0, none⟩), .int .u64 150] 78))
    (by rw [World.cell?_alloc_lt _ _ e (by simp; omega), World.cell?_alloc_lt _ _ e (by simp; omega), World.cell?_alloc_lt _ _ e hel]; exact he)
    (by rw [World.cell?_alloc_lt _ _ t (by simp; omega), World.cell?_alloc_lt _ _ t (by simp; omega), World.cell?_alloc_lt _ _ t htl]; exact ht0)
    (by rw [World.frozen?_alloc_old _ _ t (by simp; omega), World.frozen?_alloc_old _ _ t (by simp; omega), World.frozen?_alloc_old _ _ t (Nat.ne_of_lt htl)]; exact hf0)
  go_enter Tryd.func21, Tryd.ntmps21
  go_wp2
  refine wp_loop_rounds 1 ?_
  rw [rounds_succ]
  go_wp2_with (first | (go_at_call 101; refine st.mono ?_; rintro e w' ⟨rfl, rfl⟩))
  go_ret
  exact ⟨rfl, rfl⟩
end Go.Proofs.YtemggoaefohliaaDoor.FA

/- errors.As at the two targets that fault.Code and fault.Place hand it: its second walk. Condition: the cell of errors.errorType. (After the kit's worked ToyasAs.) -/
namespace Go.Proofs.YtemggoaefohliaaDoor.FA
set_option linter.unusedVariables false
set_option linter.unusedSimpArgs false
open Go Go.RowKit Go.Extern.Stop Go.Stop Go.Extern
set_option maxRecDepth 100000
set_option maxHeartbeats 4000000

/-- errors.As(a *Fault, a **Fault): the pointer is laid there. -/
theorem as_fault (e t : Addr) (old : Value) (w : World) (hg : w.cell? ⟨0, 0, none⟩ = some (.iface 91 (.agg #[.pointer (some ⟨2, 27, none⟩)]))) (ht0 : w.cell? t = some old) (hf0 : w.frozen? t = false) :
    Calls Tryd.prog 21 #[.iface 55 (.pointer (some e)), .iface 56 (.pointer (some t))] w fun ev w' => ev = .returned (.bool true) ∧ w' = ((((w.alloc (.cells #[.pointer (some t)] 56)).alloc (.cells #[.pointer (some ⟨2, 56, none⟩), .pointer (some ⟨w.heap.size, 0, none⟩), .int .u64 150] 78)).alloc (.cells #[.pointer (some ⟨2, 56, none⟩), .pointer (some ⟨w.heap.size, 0, none⟩), .int .u64 150] 78)).alloc (.cells #[.pointer (some e)] 55)).setCell t (.pointer (some e)) := by
  have hx34 := @run_callFunc_extern Tryd.prog 34 _ (fun args => ReflectliteValue.unpack (args.getD 0 (.tuple #[]))) Tryd.func34 (by kernel_rfl) (by kernel_rfl) (by kernel_rfl) (by kernel_rfl)
  have hx35 := @run_callFunc_extern Tryd.prog 35 _ (ReflectliteValue.methodAny (ReflectliteValue.valueError "reflectlite.Value.Type" 0) (fun t _ _ _ => ReflectliteType.toType t)) Tryd.func35 (by kernel_rfl) (by kernel_rfl) (by kernel_rfl) (by kernel_rfl)
  have hx36 := @run_callFunc_extern Tryd.prog 36 _ (ReflectliteValue.method (ReflectliteValue.valueError "reflectlite.Value.IsNil" 0) ReflectliteValue.isNil) Tryd.func36 (by kernel_rfl) (by kernel_rfl) (by kernel_rfl) (by kernel_rfl)
  have hx97 := @run_callFunc_extern Tryd.prog 97 _ (ReflectliteType.abiMethod fun t => do pure (.int .u8 (← Rtype.kind t))) Tryd.func97 (by kernel_rfl) (by kernel_rfl) (by kernel_rfl) (by kernel_rfl)
  have hx110 := @run_callFunc_extern Tryd.prog 110 _ (ReflectliteType.method ReflectliteType.elem) Tryd.func110 (by kernel_rfl) (by kernel_rfl) (by kernel_rfl) (by kernel_rfl)
  have hx111 := @run_callFunc_extern Tryd.prog 111 _ (ReflectliteType.relation "Implements" ReflectliteType.implements_) Tryd.func111 (by kernel_rfl) (by kernel_rfl) (by kernel_rfl) (by kernel_rfl)
  have hx49 := @run_callFunc_extern Tryd.prog 49 _ ReflectliteType.typeOf Tryd.func49 (by kernel_rfl) (by kernel_rfl) (by kernel_rfl) (by kernel_rfl)
  have hx108 := @run_callFunc_extern Tryd.prog 108 _ (ReflectliteType.relation "AssignableTo" ReflectliteType.assignableTo) Tryd.func108 (by kernel_rfl) (by kernel_rfl) (by kernel_rfl) (by kernel_rfl)
  have hx50 := @run_callFunc_extern Tryd.prog 50 _ (ReflectliteValue.method (ReflectliteValue.valueError "reflectlite.Value.Elem" 0) ReflectliteValue.elem) Tryd.func50 (by kernel_rfl) (by kernel_rfl) (by kernel_rfl) (by kernel_rfl)
  have hx51 := @run_callFunc_extern Tryd.prog 51 _ ReflectliteValue.set Tryd.func51 (by kernel_rfl) (by kernel_rfl) (by kernel_rfl) (by kernel_rfl)
  have tO := typeOf55
  have mA := methodAssignableTo
  have a25 := assignable55
  have v25 := valueOf55
  have f6 := valueOf56
  have f7 := type56
  have mK := methodKind
  have mE := methodElem
  have mI := methodImplements
  have k27 := kind56
  have k25 := kind55
  have e27 := elem56
  have i25 := implements55
  have n8 := isNil56 ⟨w.heap.size, 0, none⟩ t ((w.alloc (.cells #[.pointer (some t)] 56)).alloc (.cells #[.pointer (some ⟨2, 56, none⟩), .pointer (some ⟨w.heap.size, 0, none⟩), .int .u64 150] 78)) (by simp)
  have hlt : 0 < w.heap.size := by
    rcases Nat.eq_zero_or_pos w.heap.size with h0 | h
    · simp [World.cell?, h0] at hg
    · exact h
  have hg2 : ((w.alloc (.cells #[.pointer (some t)] 56)).alloc (.cells #[.pointer (some ⟨2, 56, none⟩), .pointer (some ⟨w.heap.size, 0, none⟩), .int .u64 150] 78)).cell? ⟨0, 0, none⟩ = some (.iface 91 (.agg #[.pointer (some ⟨2, 27, none⟩)])) := by
    rw [World.cell?_alloc_lt _ _ ⟨0, 0, none⟩ (by simp), World.cell?_alloc_lt _ _ ⟨0, 0, none⟩ hlt]; exact hg
  have htl : t.block < w.heap.size := by
    rcases Nat.lt_or_ge t.block w.heap.size with h | h
    · exact h
    · simp [World.cell?, Array.getElem?_eq_none h] at ht0
  have el := elemV56 ⟨w.heap.size, 0, none⟩ t (((w.alloc (.cells #[.pointer (some t)] 56)).alloc (.cells #[.pointer (some ⟨2, 56, none⟩), .pointer (some ⟨w.heap.size, 0, none⟩), .int .u64 150] 78)).alloc (.cells #[.pointer (some ⟨2, 56, none⟩), .pointer (some ⟨w.heap.size, 0, none⟩), .int .u64 150] 78)) (by rw [World.cell?_alloc_lt _ _ ⟨w.heap.size, 0, none⟩ (by simp; omega)]; simp)
  have st := set55 t ⟨w.heap.size + 1 + 1 + 1, 0, none⟩ e old ((((w.alloc (.cells #[.pointer (some t)] 56)).alloc (.cells #[.pointer (some ⟨2, 56, none⟩), .pointer (some ⟨w.heap.size, 0, none⟩), .int .u64 150] 78)).alloc (.cells #[.pointer (some ⟨2, 56, none⟩), .pointer (some ⟨w.heap.size, 0, none⟩), .int .u64 150] 78)).alloc (.cells #[.pointer (some e)] 55))
    (by rw [World.cell?_alloc_at _ _ _ _ (by simp)]; rfl)
    (by rw [World.cell?_alloc_lt _ _ t (by simp; omega), World.cell?_alloc_lt _ _ t (by simp; omega), World.cell?_alloc_lt _ _ t (by simp; omega), World.cell?_alloc_lt _ _ t htl]; exact ht0)
    (by rw [World.frozen?_alloc_old _ _ t (by simp; omega), World.frozen?_alloc_old _ _ t (by simp; omega), World.frozen?_alloc_old _ _ t (by simp; omega), World.frozen?_alloc_old _ _ t (Nat.ne_of_lt htl)]; exact hf0)
  go_enter Tryd.func21, Tryd.ntmps21
  go_wp2
  refine wp_loop_rounds 1 ?_
  rw [rounds_succ]
  go_wp2
  go_ret
  exact ⟨rfl, rfl⟩
end Go.Proofs.YtemggoaefohliaaDoor.FA

/- errors.As by its contract, as the evaluator takes it. Condition: what the world holds when a call begins ('GL'). -/
namespace Go.Proofs.YtemggoaefohliaaDoor.AE
set_option linter.unusedVariables false
set_option linter.unusedSimpArgs false
open Go Go.RowKit PT

theorem frozen0 {w : World} {b : Nat} {vs : Array Value} {ty : TypeId} (h : w.heap[b]? = some (.cells vs ty (0, 0))) (o : Nat) : w.frozen? ⟨b, o, none⟩ = false := frozen_of_heap h

/-- a store into a box of one cell, behind new blocks -/
theorem Inv.set1 {w0 : World} {B : Nat} {G : Gh} {S : St} {w w3 : World} (hi : Inv w0 B G S w) (hb : Below w.heap.size w w3) {d k : Nat} {ty : TypeId} {old new : AV} {v : Value}
    (hd : S.H[d]? = some ⟨ty, [old]⟩) (hk : G.phi d = some k) (hv : VR G new v) (hc : new.isCell = true) (hs : new.sealed = true) :
    Inv w0 B G { S with H := S.H.set d ⟨ty, [new]⟩ } (w3.setCell ⟨k, 0, none⟩ v) ∧ Ext G w G (w3.setCell ⟨k, 0, none⟩ v) := by
  obtain ⟨hi3, he3⟩ := hi.grow hb
  let F : Fix := { w0 := w0, B := B, Ge := G, we := w, Se := S, cx := ⟨Tryd.prog, fun _ => false, 0⟩, ie := hi }
  have hp : Pre F ⟨fun _ => .junk, fun _ => (0, []), 0, S⟩ G w3 := ⟨hi3, he3, ⟨fun d hd => absurd rfl hd, fun d e k hd => absurd rfl hd⟩⟩
  have h := (store_heap (i := 0) (off := 0) (new := [new]) (cs := [new]) (nv := [v]) hp hd hk (by simp [wrc]) (by simp [AV.sealedL, hs]) (.cons _ _ _ _ hv .nil) (by
    intro x hx
    rw [List.mem_singleton] at hx
    subst hx
    exact hv.one hc) (by
    intro x hx
    rw [List.mem_singleton] at hx
    subst hx
    exact hc)).2.2
  exact ⟨h.inv, h.ext⟩

theorem asX_ok {args : List AV} {S S' : St} {r : Res} (h : asX args S = some (r, S')) :
    (∃ fn, Tryd.prog.funcs[21]? = some fn ∧ (fn.name == "runtime.NumGoroutine") = false ∧ fn.body.isSome = true) ∧
    ∀ (w0 : World) (B : Nat) (G : Gh) (w : World) (vs : Array Value), Inv w0 B G S w → VRL G args vs.toList →
      Calls Tryd.prog 21 vs w fun e w' => ∃ G', Inv w0 B G' S' w' ∧ Ext G w G' w' ∧ G'.nu = G.nu ∧ ResR G' r e := by
  refine ⟨⟨_, Tryd.func21, by decide +kernel, by decide +kernel⟩, fun w0 B G w vs hi hv => ?_⟩
  have hg := GL_below hi.gl hi.below
  unfold asX at h
  split at h
  · rename_i t
    cases h
    obtain ⟨a⟩ := vs
    simp only at hv
    cases hv with
    | cons _ v0 _ m h0 hm =>
      cases hm with
      | cons _ v1 _ m h1 hm =>
        cases hm
        cases h0
        refine (FA.as_nil v1 w).mono fun e w' ⟨he, hw⟩ => ?_
        subst he; subst hw
        exact ⟨G, hi, .refl G _, rfl, VR.bool _⟩
  · rename_i id d
    split at h
    · rename_i c a1 a2 x hb1 hb2
      cases h
      obtain ⟨a⟩ := vs
      simp only at hv
      cases hv with
      | cons _ v0 _ m h0 hm =>
        cases hm with
        | cons _ v1 _ m h1 hm =>
          cases hm
          cases h0 with
          | iface _ _ p0 h0 =>
            cases h1 with
            | iface _ _ p1 h1 =>
              cases h0 with
              | ptr _ _ b0 hp0 =>
                cases h1 with
                | ptr _ _ b1 hp1 =>
                  obtain ⟨b, vs, k1, k2, k3, k4, k5, k6, k7, k8⟩ := hi.box id _ hb1
                  obtain ⟨b', vs', j1, j2, j3, j4, j5, j6, j7, j8⟩ := hi.box d _ hb2
                  rw [hp0] at k1; cases k1
                  rw [hp1] at j1; cases j1
                  have hc : w.cell? ⟨b0, 0, none⟩ = some (.int .i64 c) := by
                    obtain ⟨v, e1, e2⟩ := k4.get (i := 0) rfl
                    cases e2
                    rw [cell_of_heap k3]
                    simpa using e1
                  obtain ⟨old, ho⟩ : ∃ old, w.cell? ⟨b1, 0, none⟩ = some old := by
                    obtain ⟨v, e1, e2⟩ := j4.get (i := 0) rfl
                    exact ⟨v, by rw [cell_of_heap j3]; simpa using e1⟩
                  refine (FA.as_code ⟨b0, 0, none⟩ ⟨b1, 0, none⟩ c old w hg hc ho (frozen0 j3 0)).mono fun e w' ⟨he, hw⟩ => ?_
                  subst he
                  have hbel : Below w.heap.size w (((w.alloc (.cells #[.pointer (some ⟨b1, 0, none⟩)] 51)).alloc (.cells #[.pointer (some ⟨2, 51, none⟩), .pointer (some ⟨w.heap.size, 0, none⟩), .int .u64 150] 78)).alloc (.cells #[.pointer (some ⟨2, 51, none⟩), .pointer (some ⟨w.heap.size, 0, none⟩), .int .u64 150] 78)) :=
                    (((Below.refl _ w).alloc (Nat.le_refl _) _).alloc (by simp) _).alloc (by simp; omega) _
                  obtain ⟨q1, q2⟩ := hi.set1 hbel (ty := 30) (v := .int .i64 c) hb2 hp1 (.int .i64 c) rfl rfl
                  subst hw
                  exact ⟨G, q1, q2, rfl, VR.bool _⟩
    · cases h
  · rename_i id d
    split at h
    · rename_i x hb2
      cases h
      obtain ⟨a⟩ := vs
      simp only at hv
      cases hv with
      | cons _ v0 _ m h0 hm =>
        cases hm with
        | cons _ v1 _ m h1 hm =>
          cases hm
          cases h0 with
          | iface _ _ p0 h0 =>
            cases h1 with
            | iface _ _ p1 h1 =>
              cases h0 with
              | ptr _ _ b0 hp0 =>
                cases h1 with
                | ptr _ _ b1 hp1 =>
                  obtain ⟨b', vs', j1, j2, j3, j4, j5, j6, j7, j8⟩ := hi.box d _ hb2
                  rw [hp1] at j1; cases j1
                  obtain ⟨old, ho⟩ : ∃ old, w.cell? ⟨b1, 0, none⟩ = some old := by
                    obtain ⟨v, e1, e2⟩ := j4.get (i := 0) rfl
                    exact ⟨v, by rw [cell_of_heap j3]; simpa using e1⟩
                  refine (FA.as_fault ⟨b0, 0, none⟩ ⟨b1, 0, none⟩ old w hg ho (frozen0 j3 0)).mono fun e w' ⟨he, hw⟩ => ?_
                  subst he
                  have hbel : Below w.heap.size w ((((w.alloc (.cells #[.pointer (some ⟨b1, 0, none⟩)] 56)).alloc (.cells #[.pointer (some ⟨2, 56, none⟩), .pointer (some ⟨w.heap.size, 0, none⟩), .int .u64 150] 78)).alloc (.cells #[.pointer (some ⟨2, 56, none⟩), .pointer (some ⟨w.heap.size, 0, none⟩), .int .u64 150] 78)).alloc (.cells #[.pointer (some ⟨b0, 0, none⟩)] 55)) :=
                    ((((Below.refl _ w).alloc (Nat.le_refl _) _).alloc (by simp) _).alloc (by simp; omega) _).alloc (by simp; omega) _
                  obtain ⟨q1, q2⟩ := hi.set1 hbel (ty := 55) (v := .pointer (some ⟨b0, 0, none⟩)) hb2 hp1 (.ptr id 0 b0 hp0) rfl rfl
                  subst hw
                  exact ⟨G, q1, q2, rfl, VR.bool _⟩
    · cases h
  · cases h
end Go.Proofs.YtemggoaefohliaaDoor.AE

/- The environment is sound; what a row's list gives of the package variable. No condition. -/
namespace Go.Proofs.YtemggoaefohliaaDoor.PS
set_option linter.unusedVariables false
set_option linter.unusedSimpArgs false
open Go AE EX PT NF LX
set_option maxRecDepth 100000

theorem env : EnvOK Tryd.prog E where
  mixed := by kernel_rfl
  code := fun f fn c hok hf hb => by
    have : f ∈ okL := by simpa [E] using hok
    simp only [okL, List.mem_cons, List.not_mem_nil, or_false] at this
    rcases this with rfl | rfl | rfl | rfl | rfl | rfl | rfl | rfl | rfl | rfl | rfl | rfl | rfl | rfl | rfl | rfl | rfl | rfl | rfl | rfl | rfl | rfl | rfl | rfl | rfl | rfl | rfl | rfl | rfl | rfl | rfl | rfl | rfl | rfl | rfl | rfl | rfl | rfl | rfl | rfl | rfl | rfl | rfl | rfl | rfl | rfl | rfl | rfl | rfl | rfl | rfl | rfl | rfl | rfl | rfl | rfl | rfl | rfl | rfl | rfl | rfl | rfl | rfl | rfl | rfl | rfl | rfl | rfl
    · exact codeOk_body (Tryd.func3.symm.trans hf) hb (by kernel_rfl)
    · exact codeOk_body (Tryd.func4.symm.trans hf) hb (by kernel_rfl)
    · exact codeOk_body (Tryd.func5.symm.trans hf) hb (by kernel_rfl)
    · exact codeOk_body (Tryd.func6.symm.trans hf) hb (by kernel_rfl)
    · exact codeOk_body (Tryd.func7.symm.trans hf) hb (by kernel_rfl)
    · exact codeOk_body (Tryd.func8.symm.trans hf) hb (by kernel_rfl)
    · exact codeOk_body (Tryd.func9.symm.trans hf) hb (by kernel_rfl)
    · exact codeOk_body (Tryd.func10.symm.trans hf) hb (by kernel_rfl)
    · exact codeOk_body (Tryd.func11.symm.trans hf) hb (by kernel_rfl)
    · exact codeOk_body (Tryd.func12.symm.trans hf) hb (by kernel_rfl)
    · exact codeOk_body (Tryd.func13.symm.trans hf) hb (by kernel_rfl)
    · exact codeOk_body (Tryd.func14.symm.trans hf) hb (by kernel_rfl)
    · exact codeOk_body (Tryd.func15.symm.trans hf) hb (by kernel_rfl)
    · exact codeOk_body (Tryd.func16.symm.trans hf) hb (by kernel_rfl)
    · exact codeOk_body (Tryd.func17.symm.trans hf) hb (by kernel_rfl)
    · exact codeOk_body (Tryd.func18.symm.trans hf) hb (by kernel_rfl)
    · exact codeOk_body (Tryd.func19.symm.trans hf) hb (by kernel_rfl)
    · exact codeOk_body (Tryd.func20.symm.trans hf) hb (by kernel_rfl)
    · exact codeOk_body (Tryd.func22.symm.trans hf) hb (by kernel_rfl)
    · exact codeOk_body (Tryd.func23.symm.trans hf) hb (by kernel_rfl)
    · exact codeOk_body (Tryd.func24.symm.trans hf) hb (by kernel_rfl)
    · exact codeOk_body (Tryd.func25.symm.trans hf) hb (by kernel_rfl)
    · exact codeOk_body (Tryd.func26.symm.trans hf) hb (by kernel_rfl)
    · exact codeOk_body (Tryd.func27.symm.trans hf) hb (by kernel_rfl)
    · exact codeOk_body (Tryd.func28.symm.trans hf) hb (by kernel_rfl)
    · exact codeOk_body (Tryd.func29.symm.trans hf) hb (by kernel_rfl)
    · exact codeOk_body (Tryd.func30.symm.trans hf) hb (by kernel_rfl)
    · exact codeOk_body (Tryd.func31.symm.trans hf) hb (by kernel_rfl)
    · exact codeOk_body (Tryd.func32.symm.trans hf) hb (by kernel_rfl)
    · exact codeOk_body (Tryd.func33.symm.trans hf) hb (by kernel_rfl)
    · exact codeOk_body (Tryd.func39.symm.trans hf) hb (by kernel_rfl)
    · exact codeOk_body (Tryd.func40.symm.trans hf) hb (by kernel_rfl)
    · exact codeOk_body (Tryd.func41.symm.trans hf) hb (by kernel_rfl)
    · exact codeOk_body (Tryd.func42.symm.trans hf) hb (by kernel_rfl)
    · exact codeOk_body (Tryd.func43.symm.trans hf) hb (by kernel_rfl)
    · exact codeOk_body (Tryd.func44.symm.trans hf) hb (by kernel_rfl)
    · exact codeOk_body (Tryd.func45.symm.trans hf) hb (by kernel_rfl)
    · exact codeOk_body (Tryd.func46.symm.trans hf) hb (by kernel_rfl)
    · exact codeOk_body (Tryd.func47.symm.trans hf) hb (by kernel_rfl)
    · exact codeOk_body (Tryd.func48.symm.trans hf) hb (by kernel_rfl)
    · exact codeOk_body (Tryd.func53.symm.trans hf) hb (by kernel_rfl)
    · exact codeOk_body (Tryd.func54.symm.trans hf) hb (by kernel_rfl)
    · exact codeOk_body (Tryd.func55.symm.trans hf) hb (by kernel_rfl)
    · exact codeOk_body (Tryd.func56.symm.trans hf) hb (by kernel_rfl)
    · exact codeOk_body (Tryd.func57.symm.trans hf) hb (by kernel_rfl)
    · exact codeOk_body (Tryd.func58.symm.trans hf) hb (by kernel_rfl)
    · exact codeOk_body (Tryd.func60.symm.trans hf) hb (by kernel_rfl)
    · exact codeOk_body (Tryd.func61.symm.trans hf) hb (by kernel_rfl)
    · exact codeOk_body (Tryd.func62.symm.trans hf) hb (by kernel_rfl)
    · exact codeOk_body (Tryd.func63.symm.trans hf) hb (by kernel_rfl)
    · exact codeOk_body (Tryd.func64.symm.trans hf) hb (by kernel_rfl)
    · exact codeOk_body (Tryd.func65.symm.trans hf) hb (by kernel_rfl)
    · exact codeOk_body (Tryd.func67.symm.trans hf) hb (by kernel_rfl)
    · exact codeOk_body (Tryd.func68.symm.trans hf) hb (by kernel_rfl)
    · exact codeOk_body (Tryd.func69.symm.trans hf) hb (by kernel_rfl)
    · exact codeOk_body (Tryd.func70.symm.trans hf) hb (by kernel_rfl)
    · exact codeOk_body (Tryd.func71.symm.trans hf) hb (by kernel_rfl)
    · exact codeOk_body (Tryd.func72.symm.trans hf) hb (by kernel_rfl)
    · exact codeOk_body (Tryd.func73.symm.trans hf) hb (by kernel_rfl)
    · exact codeOk_body (Tryd.func74.symm.trans hf) hb (by kernel_rfl)
    · exact codeOk_body (Tryd.func75.symm.trans hf) hb (by kernel_rfl)
    · exact codeOk_body (Tryd.func76.symm.trans hf) hb (by kernel_rfl)
    · exact codeOk_body (Tryd.func77.symm.trans hf) hb (by kernel_rfl)
    · exact codeOk_body (Tryd.func78.symm.trans hf) hb (by kernel_rfl)
    · exact codeOk_body (Tryd.func79.symm.trans hf) hb (by kernel_rfl)
    · exact codeOk_body (Tryd.func80.symm.trans hf) hb (by kernel_rfl)
    · exact codeOk_body (Tryd.func81.symm.trans hf) hb (by kernel_rfl)
    · exact codeOk_body (Tryd.func82.symm.trans hf) hb (by kernel_rfl)
  ext := fun f args S r S' hok h => by
    have h' : (if f = 38 then indexX args S else if f = 66 then mulX args S else if f = 21 then asX args S else none) = some (r, S') := h
    split at h'
    · rename_i h1; subst h1; exact indexX_ok h'
    · split at h'
      · rename_i h1; subst h1; exact mulX_ok h'
      · split at h'
        · rename_i h1; subst h1; exact asX_ok h'
        · cases h'

/-! ### the package variable -/
theorem own : ownKnob Tryd.prog.godebug = none := by kernel_rfl
theorem laidB : laidOutB Tryd.prog = true := by kernel_rfl
theorem g_et : Tryd.prog.globalNamed "errors.errorType" = some 0 := by kernel_rfl
theorem g_rt : (Tryd.prog.cutTypes.find? (·.1 == "internal/reflectlite.rtype")).map (·.2) = some 91 := by kernel_rfl
theorem g_row : ((List.range 157).filter fun t => Tryd.prog.rowNamed t [101, 114, 114, 111, 114]) = [27] := by kernel_rfl
theorem g_size : Tryd.prog.types.size = 157 := by kernel_rfl
def laidL : List (String × DataW Unit) := [("errors.errorType", Rows.laid_errors_errorType)]
/-- what a row's list gives -/
theorem gl_of_laid {W : World} (h : laidMetH Tryd.prog laidL W) : GL W W.heap.size := by
  have h' : laidMet Tryd.prog [] W ∧ handlesMet Tryd.prog laidL W := h
  obtain ⟨name, u, ty, e1, e2, e3, e4, e5⟩ := h'.2 _ (List.mem_singleton.2 rfl)
  have en : name = [101, 114, 114, 111, 114] := (Option.some.inj e1).symm
  subst en
  obtain rfl := Option.some.inj (g_rt.symm.trans e2)
  have hm : ty ∈ (List.range 157).filter fun t => Tryd.prog.rowNamed t [101, 114, 114, 111, 114] := List.mem_filter.2 ⟨List.mem_range.2 (by rw [← g_size]; exact e3), e4⟩
  rw [g_row] at hm
  obtain rfl := List.mem_singleton.1 hm
  have hh : typeHandle Tryd.prog 27 = .pointer (some ⟨2, 27, none⟩) := by kernel_rfl
  rw [hh] at e5
  have hc : W.cell? ⟨0, 0, none⟩ = some (.iface 91 (.agg #[.pointer (some ⟨2, 27, none⟩)])) := by simpa using World.var?_cell g_et e5 0
  exact ⟨World.block_lt_of_cell? W _ hc, hc⟩
/-- a world that meets the list -/
noncomputable def laidWorld (os : Os) : World :=
  { World.holding Tryd.prog os ⟨#[], #[], []⟩ with heap := (World.holding Tryd.prog os ⟨#[], #[], []⟩).heap.modify 0 fun
      | .cells _ t frozen => .cells #[.iface 91 (.agg #[.pointer (some ⟨2, 27, none⟩)])] t frozen
      | o => o }
theorem laid_met (os : Os) (args : Array Value) : laidMetH Tryd.prog laidL ((laidWorld os).forCall (fun _ _ => 0) ⟨#[], args, []⟩).memory :=
  laidMetH_of_parts (laidMet_nil _ _) (by kernel_rfl)
end Go.Proofs.YtemggoaefohliaaDoor.PS

