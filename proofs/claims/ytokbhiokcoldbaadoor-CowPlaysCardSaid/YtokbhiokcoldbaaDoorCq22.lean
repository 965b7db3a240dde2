/- errors.As at the project's own error type, by Go's text of it and the model's entries for internal/reflectlite (after the guide's worked example for such a target); the contracts of Told and of the laws' own Error. -/
import Derived.LaidEql
import Derived.Stop.Asserts
import Derived.RowKitTokens
import Derived.Test.YtokbhiokcoldbaaDoorCq02
namespace Go.Proofs.YtokbhiokcoldbaaDoor
open Go.RowKit Go.Extern.Stop Go.Stop Go.Extern

/-- What the variable errors.errorType holds: the type error. -/
def ErrType (w : World) : Prop := w.cell? ⟨0, 0, none⟩ = some (.iface 175 (.agg #[.pointer (some ⟨1, 32, none⟩)]))
theorem ErrType.below {w w' : World} {B : Nat} (h : ErrType w) (hb : Below B w w') (hB : 0 < B) : ErrType w' := (hb.cell (p := ⟨0, 0, none⟩) hB).trans h
theorem ErrType.fr {w w' : World} {S : List Nat} (h : ErrType w) (hf : Fr S w w') (hS : 0 ∉ S) : ErrType w' := hf.cell h hS

theorem as_nil (t : Value) (w : World) :
    Calls Tryd.prog 80 #[.nilIface, t] w fun e w' => e = .returned (.bool false) ∧ w = w' := by
  go_enter Tryd.func80, Tryd.ntmps80
  go_wp2
  go_ret
  exact ⟨rfl, rfl⟩

theorem rl.valueOfP (t : Addr) (w : World) : (ReflectliteValue.unpack (.iface 132 (.pointer (some t)))).run Tryd.prog w
    = .ok (.agg #[.pointer (some ⟨1, 132, none⟩), .pointer (some ⟨w.heap.size, 0, none⟩), .int .u64 150]) (w.alloc (.cells #[.pointer (some t)] 132)) := by kernel_rfl
theorem rl.typeP (a : Addr) (w : World) : (ReflectliteValue.methodAny (ReflectliteValue.valueError "reflectlite.Value.Type" 0) (fun t _ _ _ => ReflectliteType.toType t) #[.agg #[.pointer (some ⟨1, 132, none⟩), .pointer (some a), .int .u64 150]]).run Tryd.prog w
    = .ok (.iface 175 (.agg #[.pointer (some ⟨1, 132, none⟩)])) w := by kernel_rfl
theorem rl.methodKind (h : Value) (w : World) : (Go.method 327 175 (.agg #[h]) "Kind").run Tryd.prog w = .ok (147, h) w := by kernel_rfl
theorem rl.kindP (w : World) : ((ReflectliteType.abiMethod fun t => (fun a : Nat => Value.int IntKind.u8 (a : Int)) <$> Rtype.kind t) #[.pointer (some ⟨1, 132, none⟩)]).run Tryd.prog w = .ok (.int .u8 22) w := by kernel_rfl
theorem rl.kindE (w : World) : ((ReflectliteType.abiMethod fun t => (fun a : Nat => Value.int IntKind.u8 (a : Int)) <$> Rtype.kind t) #[.pointer (some ⟨1, 88, none⟩)]).run Tryd.prog w = .ok (.int .u8 2) w := by kernel_rfl
theorem rlm (z : Sem Value) (f : TypeId → Addr → Nat → Nat → Sem Value) (v : Value) :
    ReflectliteValue.method z f #[v] = (do match ← ReflectliteValue.parts v with | none => z | some (t, a, fl) => f t a fl (fl % 32)) := rfl
theorem rl.partsP (a : Addr) (w : World) : (ReflectliteValue.parts (.agg #[.pointer (some ⟨1, 132, none⟩), .pointer (some a), .int .u64 150])).run Tryd.prog w = .ok (some (132, a, 150)) w := by kernel_rfl
theorem rl.isNilP (a p : Addr) (W : World) (ha : W.cell? a = some (.pointer (some p))) :
    (ReflectliteValue.method (ReflectliteValue.valueError "reflectlite.Value.IsNil" 0) ReflectliteValue.isNil #[.agg #[.pointer (some ⟨1, 132, none⟩), .pointer (some a), .int .u64 150]]).run Tryd.prog W = .ok (.bool false) W := by
  rw [rlm]
  simp only [Sem.run_bind, rl.partsP, Result.andThen]
  simp [ReflectliteValue.isNil, loadVar, isAgg, underlying, Tryd.underlying132, ha, Result.andThen]
theorem rl.methodElem (h : Value) (w : World) : (Go.method 327 175 (.agg #[h]) "Elem").run Tryd.prog w = .ok (157, .agg #[h]) w := by kernel_rfl
theorem rl.methodImplements (h : Value) (w : World) : (Go.method 327 175 (.agg #[h]) "Implements").run Tryd.prog w = .ok (158, .agg #[h]) w := by kernel_rfl
theorem rl.methodAssignableTo (h : Value) (w : World) : (Go.method 327 175 (.agg #[h]) "AssignableTo").run Tryd.prog w = .ok (155, .agg #[h]) w := by kernel_rfl
theorem rl.elemP (w : World) : (ReflectliteType.method ReflectliteType.elem #[.agg #[.pointer (some ⟨1, 132, none⟩)]]).run Tryd.prog w = .ok (.iface 175 (.agg #[.pointer (some ⟨1, 88, none⟩)])) w := by kernel_rfl
theorem rl.implementsE (w : World) : (ReflectliteType.relation "Implements" ReflectliteType.implements_ #[.agg #[.pointer (some ⟨1, 88, none⟩)], .iface 175 (.agg #[.pointer (some ⟨1, 32, none⟩)])]).run Tryd.prog w = .ok (.bool true) w := by kernel_rfl
theorem rl.typeOfE (v : Value) (w : World) : (ReflectliteType.typeOf #[.iface 88 v]).run Tryd.prog w = .ok (.iface 175 (.agg #[.pointer (some ⟨1, 88, none⟩)])) w := by kernel_rfl
theorem rl.assignableE (w : World) : (ReflectliteType.relation "AssignableTo" ReflectliteType.assignableTo #[.agg #[.pointer (some ⟨1, 88, none⟩)], .iface 175 (.agg #[.pointer (some ⟨1, 88, none⟩)])]).run Tryd.prog w = .ok (.bool true) w := by kernel_rfl
theorem rl.valueOfE (n : Int) (w : World) : (ReflectliteValue.unpack (.iface 88 (.int .i64 n))).run Tryd.prog w
    = .ok (.agg #[.pointer (some ⟨1, 88, none⟩), .pointer (some ⟨w.heap.size, 0, none⟩), .int .u64 130]) (w.alloc (.cells #[.int .i64 n] 88)) := by kernel_rfl
theorem rl.elemOfP (w : World) : (Rtype.elem? 132).run Tryd.prog w = .ok (some 88) w := by kernel_rfl
theorem rl.mkE (p : Addr) (w : World) : (ReflectliteValue.mk 88 p ReflectliteValue.flagAddr).run Tryd.prog w = .ok (.agg #[.pointer (some ⟨1, 88, none⟩), .pointer (some p), .int .u64 386]) w := by kernel_rfl
theorem rl.elemVP (a p : Addr) (W : World) (ha : W.cell? a = some (.pointer (some p))) :
    (ReflectliteValue.method (ReflectliteValue.valueError "reflectlite.Value.Elem" 0) ReflectliteValue.elem #[.agg #[.pointer (some ⟨1, 132, none⟩), .pointer (some a), .int .u64 150]]).run Tryd.prog W
      = .ok (.agg #[.pointer (some ⟨1, 88, none⟩), .pointer (some p), .int .u64 386]) W := by
  rw [rlm]
  simp only [Sem.run_bind, rl.partsP, Result.andThen]
  simp [ReflectliteValue.elem, loadVar, isAgg, underlying, Tryd.underlying132, ha, Result.andThen, rl.elemOfP, rl.mkE]
theorem rls (v x : Value) : ReflectliteValue.set #[v, x] = (do
    let (some (dst, a, fl), some (src, b, _)) := (← ReflectliteValue.parts v, ← ReflectliteValue.parts x)
      | unsupported (.noEntry "extern/(internal/reflectlite.Value).Set.zeroValue")
    if fl / ReflectliteValue.flagAddr % 2 == 0 then unsupported (.noEntry "extern/(internal/reflectlite.Value).Set.unaddressable")
    let val ← loadVar src b
    if ← Rtype.directlyAssignable dst src then storeVar dst a val
    else if ← Rtype.implements dst src then
      if (← Rtype.kind src) == 20 then
        match val with
        | .nilIface => unsupported (.noEntry "extern/reflectlite: a nil value of one interface type handed on as a value of another")
        | _ => storeVar dst a val
      else storeVar dst a (.iface src val)
    else panicString ("reflectlite.Set: value of type " ++ (← Rtype.spelt src) ++ " is not assignable to type " ++ (← Rtype.spelt dst))
    pure (.tuple #[])) := rfl
theorem rl.partsEa (a : Addr) (w : World) : (ReflectliteValue.parts (.agg #[.pointer (some ⟨1, 88, none⟩), .pointer (some a), .int .u64 386])).run Tryd.prog w = .ok (some (88, a, 386)) w := by kernel_rfl
theorem rl.partsE (a : Addr) (w : World) : (ReflectliteValue.parts (.agg #[.pointer (some ⟨1, 88, none⟩), .pointer (some a), .int .u64 130])).run Tryd.prog w = .ok (some (88, a, 130)) w := by kernel_rfl
theorem rl.directE (w : World) : (Rtype.directlyAssignable 88 88).run Tryd.prog w = .ok true w := by kernel_rfl
theorem rl.sizeE (w : World) : (sizeOf 88).run Tryd.prog w = .ok 1 w := by kernel_rfl
theorem rl.setE (ta b : Addr) (n : Int) (old : Value) (W : World) (hb : W.cell? b = some (.int .i64 n)) (ht : W.cell? ta = some old) (hf : W.frozen? ta = false) :
    (ReflectliteValue.set #[.agg #[.pointer (some ⟨1, 88, none⟩), .pointer (some ta), .int .u64 386], .agg #[.pointer (some ⟨1, 88, none⟩), .pointer (some b), .int .u64 130]]).run Tryd.prog W
      = .ok (.tuple #[]) (W.setCell ta (.int .i64 n)) := by
  rw [rls]
  simp only [Sem.run_bind, rl.partsEa, rl.partsE, Result.andThen]
  simp [ReflectliteValue.flagAddr, loadVar, isAgg, underlying, Tryd.underlying88, hb, Result.andThen, rl.directE, storeVar, Value.cells, storeCells, Addr.add]
  rw [run_store Tryd.prog W ta _ _ (by rfl)]
  simp [ht, hf]

set_option maxHeartbeats 4000000 in
theorem as_hit (n : Int) (t : Addr) (old : Value) (w : World) (hg : ErrType w) (ht0 : w.cell? t = some old) (hf0 : w.frozen? t = false) :
    Calls Tryd.prog 80 #[.iface 88 (.int .i64 n), .iface 132 (.pointer (some t))] w fun ev w' => ev = .returned (.bool true) ∧ w' = ((((w.alloc (.cells #[.pointer (some t)] 132)).alloc (.cells #[.pointer (some ⟨1, 132, none⟩), .pointer (some ⟨w.heap.size, 0, none⟩), .int .u64 150] 149)).alloc (.cells #[.pointer (some ⟨1, 132, none⟩), .pointer (some ⟨w.heap.size, 0, none⟩), .int .u64 150] 149)).alloc (.cells #[.int .i64 n] 88)).setCell t (.int .i64 n) := by
  unfold ErrType at hg
  have h6 := @run_callFunc_extern Tryd.prog 94 _ (fun args => ReflectliteValue.unpack (args.getD 0 (.tuple #[]))) Tryd.func94 (by kernel_rfl) (by kernel_rfl) (by kernel_rfl) (by kernel_rfl)
  have h7 := @run_callFunc_extern Tryd.prog 95 _ (ReflectliteValue.methodAny (ReflectliteValue.valueError "reflectlite.Value.Type" 0) (fun t _ _ _ => ReflectliteType.toType t)) Tryd.func95 (by kernel_rfl) (by kernel_rfl) (by kernel_rfl) (by kernel_rfl)
  have h8 := @run_callFunc_extern Tryd.prog 96 _ (ReflectliteValue.method (ReflectliteValue.valueError "reflectlite.Value.IsNil" 0) ReflectliteValue.isNil) Tryd.func96 (by kernel_rfl) (by kernel_rfl) (by kernel_rfl) (by kernel_rfl)
  have h27 := @run_callFunc_extern Tryd.prog 147 _ (ReflectliteType.abiMethod fun t => do pure (.int .u8 (← Rtype.kind t))) Tryd.func147 (by kernel_rfl) (by kernel_rfl) (by kernel_rfl) (by kernel_rfl)
  have h37 := @run_callFunc_extern Tryd.prog 157 _ (ReflectliteType.method ReflectliteType.elem) Tryd.func157 (by kernel_rfl) (by kernel_rfl) (by kernel_rfl) (by kernel_rfl)
  have h38 := @run_callFunc_extern Tryd.prog 158 _ (ReflectliteType.relation "Implements" ReflectliteType.implements_) Tryd.func158 (by kernel_rfl) (by kernel_rfl) (by kernel_rfl) (by kernel_rfl)
  have h10 := @run_callFunc_extern Tryd.prog 117 _ ReflectliteType.typeOf Tryd.func117 (by kernel_rfl) (by kernel_rfl) (by kernel_rfl) (by kernel_rfl)
  have h35 := @run_callFunc_extern Tryd.prog 155 _ (ReflectliteType.relation "AssignableTo" ReflectliteType.assignableTo) Tryd.func155 (by kernel_rfl) (by kernel_rfl) (by kernel_rfl) (by kernel_rfl)
  have h11 := @run_callFunc_extern Tryd.prog 118 _ (ReflectliteValue.method (ReflectliteValue.valueError "reflectlite.Value.Elem" 0) ReflectliteValue.elem) Tryd.func118 (by kernel_rfl) (by kernel_rfl) (by kernel_rfl) (by kernel_rfl)
  have h12 := @run_callFunc_extern Tryd.prog 119 _ ReflectliteValue.set Tryd.func119 (by kernel_rfl) (by kernel_rfl) (by kernel_rfl) (by kernel_rfl)
  have tO := rl.typeOfE
  have mA := rl.methodAssignableTo
  have a25 := rl.assignableE
  have v25 := rl.valueOfE
  have f6 := rl.valueOfP
  have f7 := rl.typeP
  have mK := rl.methodKind
  have mE := rl.methodElem
  have mI := rl.methodImplements
  have k27 := rl.kindP
  have k25 := rl.kindE
  have e27 := rl.elemP
  have i25 := rl.implementsE
  have n8 := rl.isNilP ⟨w.heap.size, 0, none⟩ t ((w.alloc (.cells #[.pointer (some t)] 132)).alloc (.cells #[.pointer (some ⟨1, 132, none⟩), .pointer (some ⟨w.heap.size, 0, none⟩), .int .u64 150] 149)) (by simp)
  have hlt : 0 < w.heap.size := by
    rcases Nat.eq_zero_or_pos w.heap.size with h0 | h
    · simp [World.cell?, h0] at hg
    · exact h
  have hg2 : ((w.alloc (.cells #[.pointer (some t)] 132)).alloc (.cells #[.pointer (some ⟨1, 132, none⟩), .pointer (some ⟨w.heap.size, 0, none⟩), .int .u64 150] 149)).cell? ⟨0, 0, none⟩ = some (.iface 175 (.agg #[.pointer (some ⟨1, 32, none⟩)])) := by
    rw [World.cell?_alloc_lt _ _ ⟨0, 0, none⟩ (by simp), World.cell?_alloc_lt _ _ ⟨0, 0, none⟩ hlt]; exact hg
  have htl : t.block < w.heap.size := by
    rcases Nat.lt_or_ge t.block w.heap.size with h | h
    · exact h
    · simp [World.cell?, Array.getElem?_eq_none h] at ht0
  have el := rl.elemVP ⟨w.heap.size, 0, none⟩ t (((w.alloc (.cells #[.pointer (some t)] 132)).alloc (.cells #[.pointer (some ⟨1, 132, none⟩), .pointer (some ⟨w.heap.size, 0, none⟩), .int .u64 150] 149)).alloc (.cells #[.pointer (some ⟨1, 132, none⟩), .pointer (some ⟨w.heap.size, 0, none⟩), .int .u64 150] 149)) (by rw [World.cell?_alloc_lt _ _ ⟨w.heap.size, 0, none⟩ (by simp; omega)]; simp)
  have st := rl.setE t ⟨w.heap.size + 1 + 1 + 1, 0, none⟩ n old ((((w.alloc (.cells #[.pointer (some t)] 132)).alloc (.cells #[.pointer (some ⟨1, 132, none⟩), .pointer (some ⟨w.heap.size, 0, none⟩), .int .u64 150] 149)).alloc (.cells #[.pointer (some ⟨1, 132, none⟩), .pointer (some ⟨w.heap.size, 0, none⟩), .int .u64 150] 149)).alloc (.cells #[.int .i64 n] 88))
    (by rw [World.cell?_alloc_at _ _ _ _ (by simp)]; rfl)
    (by rw [World.cell?_alloc_lt _ _ t (by simp; omega), World.cell?_alloc_lt _ _ t (by simp; omega), World.cell?_alloc_lt _ _ t (by simp; omega), World.cell?_alloc_lt _ _ t htl]; exact ht0)
    (by rw [World.frozen?_alloc_old _ _ t (by simp; omega), World.frozen?_alloc_old _ _ t (by simp; omega), World.frozen?_alloc_old _ _ t (by simp; omega), World.frozen?_alloc_old _ _ t (Nat.ne_of_lt htl)]; exact hf0)
  go_enter Tryd.func80, Tryd.ntmps80
  go_wp2
  refine wp_loop_rounds 1 ?_
  rw [rounds_succ]
  go_wp2
  go_ret
  exact ⟨rfl, rfl⟩
end Go.Proofs.YtokbhiokcoldbaaDoor
/- The contracts of Told and of the laws' own Error. -/
namespace Go.Proofs.YtokbhiokcoldbaaDoor
open Go.RowKit

theorem told_nil (w : World) : Calls Tryd.prog 52 #[.nilIface] w fun e w' => e = .returned (.int .i64 0) ∧ Fr [] w w' := by
  go_enter Tryd.func52, Tryd.ntmps52
  go_wp2
  go_ret
  exact ⟨rfl, by repeat (first | exact Fr.refl _ _ | apply Fr.alloc)⟩
theorem told_err (n : Int) (w : World) (hg : ErrType w) : Calls Tryd.prog 52 #[.iface 88 (.int .i64 n)] w fun e w' => e = .returned (.int .i64 n) ∧ Fr [] w w' := by
  have hlt : 0 < w.heap.size := block_lt_of_cell hg
  have HG := Lib.hid hg
  clear hg
  go_enter Tryd.func52, Tryd.ntmps52
  go_wp2_with (go_at_call 80; (with_reducible refine useC (as_hit n ⟨w.heap.size, 0, none⟩ (.int .i64 0) _ ?_ ?_ ?_) ?_); exact HG.out.fr ((Fr.refl [] w).alloc _) (by simp); simp; simp; rintro e w' ⟨rfl, rfl⟩)
  go_ret
  exact ⟨rfl, by repeat (first | exact Fr.refl _ _ | apply Fr.alloc)⟩
/-- The laws' own Error: is an error the one told? -/
theorem error_any (c k : Int) (w : World) (hg : ErrType w) : Calls Tryd.prog 12 #[errV c, .int .i64 k] w (OkB (decide (c = k)) w) := by
  have HG := Lib.hid hg
  clear hg
  have hb : decide (c = k) = (c == k) := by by_cases h : c = k <;> simp [h]
  rw [hb]
  clear hb
  by_cases hc : c = 0
  · subst hc
    unfold errV
    rw [if_pos rfl]
    go_enter Tryd.func12, Tryd.ntmps12
    go_wp2_with (go_at_call 52; (with_reducible refine useC (told_nil _) ?_); rintro e w' ⟨rfl, hF⟩; have HF := Lib.hid hF; clear hF)
    go_ret
    exact ⟨rfl, HF.out⟩
  · rw [errV_no hc]
    go_enter Tryd.func12, Tryd.ntmps12
    go_wp2_with (go_at_call 52; (with_reducible refine useC (told_err c _ HG.out) ?_); rintro e w' ⟨rfl, hF⟩; have HF := Lib.hid hF; clear hF)
    go_ret
    exact ⟨rfl, HF.out⟩
theorem error_at (c k : Int) (w : World) (hg : ErrType w) : Calls Tryd.prog 12 #[.iface 88 (.int .i64 c), .int .i64 k] w (OkB (c == k) w) := by
  have HG := Lib.hid hg
  clear hg
  go_enter Tryd.func12, Tryd.ntmps12
  go_wp2_with (go_at_call 52; (with_reducible refine useC (told_err c _ HG.out) ?_); rintro e w' ⟨rfl, hF⟩; have HF := Lib.hid hF; clear hF)
  go_ret
  exact ⟨rfl, HF.out⟩
theorem error_yes (c : Int) (w : World) (hg : ErrType w) : Calls Tryd.prog 12 #[errV c, .int .i64 c] w (OkT w) :=
  (error_any c c w hg).mono fun _ _ ⟨h1, h2⟩ => ⟨by rw [h1, decide_eq_true rfl], h2⟩
end Go.Proofs.YtokbhiokcoldbaaDoor
