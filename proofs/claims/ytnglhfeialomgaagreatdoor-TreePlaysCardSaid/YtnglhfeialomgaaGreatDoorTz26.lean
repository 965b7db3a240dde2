/- errors.As at the project's own error type, by Go's text of it and the model's entries for internal/reflectlite (after the guide's worked example for such a target); the contracts of Told and of the laws' own Error. -/
import Derived.LaidEql
import Derived.Stop.Asserts
import Derived.RowKitTokens
import Derived.Shelf.SlIter.Nil
import Derived.Shelf.SortM.Plain
import Derived.Shelf.SortM.SortNone
import Derived.Ground.GgzProg
import Derived.Ground.SlgmProg
import Derived.Test.YtnglhfeialomgaaGreatDoorTz03
import Derived.Test.YtnglhfeialomgaaGreatDoorTz16
import Derived.Test.YtnglhfeialomgaaGreatDoorTz20
namespace Go.Proofs.YtnglhfeialomgaaGreatDoor
open Go.RowKit Go.Extern.Stop Go.Stop Go.Extern

/-- What the variable errors.errorType holds: the type error. -/
def ErrType (w : World) : Prop := w.cell? ⟨0, 0, none⟩ = some (.iface 126 (.agg #[.pointer (some ⟨4, 39, none⟩)]))
theorem ErrType.below {w w' : World} {B : Nat} (h : ErrType w) (hb : Below B w w') (hB : 0 < B) : ErrType w' := (hb.cell (p := ⟨0, 0, none⟩) hB).trans h
theorem ErrType.fr {w w' : World} {S : List Nat} (h : ErrType w) (hf : Fr S w w') (hS : 0 ∉ S) : ErrType w' := hf.cell h hS

theorem as_nil (t : Value) (w : World) :
    Calls Tryz.prog 40 #[.nilIface, t] w fun e w' => e = .returned (.bool false) ∧ w = w' := by
  go_enter Tryz.func40, Tryz.ntmps40
  go_wp2
  go_ret
  exact ⟨rfl, rfl⟩

theorem rl.valueOfP (t : Addr) (w : World) : (ReflectliteValue.unpack (.iface 82 (.pointer (some t)))).run Tryz.prog w
    = .ok (.agg #[.pointer (some ⟨4, 82, none⟩), .pointer (some ⟨w.heap.size, 0, none⟩), .int .u64 150]) (w.alloc (.cells #[.pointer (some t)] 82)) := by kernel_rfl
theorem rl.typeP (a : Addr) (w : World) : (ReflectliteValue.methodAny (ReflectliteValue.valueError "reflectlite.Value.Type" 0) (fun t _ _ _ => ReflectliteType.toType t) #[.agg #[.pointer (some ⟨4, 82, none⟩), .pointer (some a), .int .u64 150]]).run Tryz.prog w
    = .ok (.iface 126 (.agg #[.pointer (some ⟨4, 82, none⟩)])) w := by kernel_rfl
theorem rl.methodKind (h : Value) (w : World) : (Go.method 297 126 (.agg #[h]) "Kind").run Tryz.prog w = .ok (127, h) w := by kernel_rfl
theorem rl.kindP (w : World) : ((ReflectliteType.abiMethod fun t => (fun a : Nat => Value.int IntKind.u8 (a : Int)) <$> Rtype.kind t) #[.pointer (some ⟨4, 82, none⟩)]).run Tryz.prog w = .ok (.int .u8 22) w := by kernel_rfl
theorem rl.kindE (w : World) : ((ReflectliteType.abiMethod fun t => (fun a : Nat => Value.int IntKind.u8 (a : Int)) <$> Rtype.kind t) #[.pointer (some ⟨4, 66, none⟩)]).run Tryz.prog w = .ok (.int .u8 2) w := by kernel_rfl
theorem rlm (z : Sem Value) (f : TypeId → Addr → Nat → Nat → Sem Value) (v : Value) :
    ReflectliteValue.method z f #[v] = (do match ← ReflectliteValue.parts v with | none => z | some (t, a, fl) => f t a fl (fl % 32)) := rfl
theorem rl.partsP (a : Addr) (w : World) : (ReflectliteValue.parts (.agg #[.pointer (some ⟨4, 82, none⟩), .pointer (some a), .int .u64 150])).run Tryz.prog w = .ok (some (82, a, 150)) w := by kernel_rfl
theorem rl.isNilP (a p : Addr) (W : World) (ha : W.cell? a = some (.pointer (some p))) :
    (ReflectliteValue.method (ReflectliteValue.valueError "reflectlite.Value.IsNil" 0) ReflectliteValue.isNil #[.agg #[.pointer (some ⟨4, 82, none⟩), .pointer (some a), .int .u64 150]]).run Tryz.prog W = .ok (.bool false) W := by
  rw [rlm]
  simp only [Sem.run_bind, rl.partsP, Result.andThen]
  simp [ReflectliteValue.isNil, loadVar, isAgg, underlying, Tryz.underlying82, ha, Result.andThen]
theorem rl.methodElem (h : Value) (w : World) : (Go.method 297 126 (.agg #[h]) "Elem").run Tryz.prog w = .ok (137, .agg #[h]) w := by kernel_rfl
theorem rl.methodImplements (h : Value) (w : World) : (Go.method 297 126 (.agg #[h]) "Implements").run Tryz.prog w = .ok (138, .agg #[h]) w := by kernel_rfl
theorem rl.methodAssignableTo (h : Value) (w : World) : (Go.method 297 126 (.agg #[h]) "AssignableTo").run Tryz.prog w = .ok (135, .agg #[h]) w := by kernel_rfl
theorem rl.elemP (w : World) : (ReflectliteType.method ReflectliteType.elem #[.agg #[.pointer (some ⟨4, 82, none⟩)]]).run Tryz.prog w = .ok (.iface 126 (.agg #[.pointer (some ⟨4, 66, none⟩)])) w := by kernel_rfl
theorem rl.implementsE (w : World) : (ReflectliteType.relation "Implements" ReflectliteType.implements_ #[.agg #[.pointer (some ⟨4, 66, none⟩)], .iface 126 (.agg #[.pointer (some ⟨4, 39, none⟩)])]).run Tryz.prog w = .ok (.bool true) w := by kernel_rfl
theorem rl.typeOfE (v : Value) (w : World) : (ReflectliteType.typeOf #[.iface 66 v]).run Tryz.prog w = .ok (.iface 126 (.agg #[.pointer (some ⟨4, 66, none⟩)])) w := by kernel_rfl
theorem rl.assignableE (w : World) : (ReflectliteType.relation "AssignableTo" ReflectliteType.assignableTo #[.agg #[.pointer (some ⟨4, 66, none⟩)], .iface 126 (.agg #[.pointer (some ⟨4, 66, none⟩)])]).run Tryz.prog w = .ok (.bool true) w := by kernel_rfl
theorem rl.valueOfE (n : Int) (w : World) : (ReflectliteValue.unpack (.iface 66 (.int .i64 n))).run Tryz.prog w
    = .ok (.agg #[.pointer (some ⟨4, 66, none⟩), .pointer (some ⟨w.heap.size, 0, none⟩), .int .u64 130]) (w.alloc (.cells #[.int .i64 n] 66)) := by kernel_rfl
theorem rl.elemOfP (w : World) : (Rtype.elem? 82).run Tryz.prog w = .ok (some 66) w := by kernel_rfl
theorem rl.mkE (p : Addr) (w : World) : (ReflectliteValue.mk 66 p ReflectliteValue.flagAddr).run Tryz.prog w = .ok (.agg #[.pointer (some ⟨4, 66, none⟩), .pointer (some p), .int .u64 386]) w := by kernel_rfl
theorem rl.elemVP (a p : Addr) (W : World) (ha : W.cell? a = some (.pointer (some p))) :
    (ReflectliteValue.method (ReflectliteValue.valueError "reflectlite.Value.Elem" 0) ReflectliteValue.elem #[.agg #[.pointer (some ⟨4, 82, none⟩), .pointer (some a), .int .u64 150]]).run Tryz.prog W
      = .ok (.agg #[.pointer (some ⟨4, 66, none⟩), .pointer (some p), .int .u64 386]) W := by
  rw [rlm]
  simp only [Sem.run_bind, rl.partsP, Result.andThen]
  simp [ReflectliteValue.elem, loadVar, isAgg, underlying, Tryz.underlying82, ha, Result.andThen, rl.elemOfP, rl.mkE]
theorem rls (v x : Value) : ReflectliteValue.set #[v, x] = (do
    let (some (dst, a, fl), some (src, b, _)) := (← ReflectliteValue.parts v, ← ReflectliteValue.parts x)
      | unsupported (.noEntry "extern/(internal/reflectlite.Value).Set.zeroValue")
    if fl / ReflectliteValue.flagAddr % 2 == 0 then unsupported (.noEntry "extern/(internal/reflectlite.Value).Set.unaddressable")
    let val ← loadVar src b
    if ← Rtype.directlyAssignable dst src then storeVar dst a val
    else if ← Rtype.implements dst src then
      if (← Rtype.kind src) == 20 then
        match val with
        | .nilIface => unsupported (.noEntry "extern/reflectlite: a nil value of one interface type handed on as a value of another")
        | _ => storeVar dst a val
      else storeVar dst a (.iface src val)
    else panicString ("reflectlite.Set: value of type " ++ (← Rtype.spelt src) ++ " is not assignable to type " ++ (← Rtype.spelt dst))
    pure (.tuple #[])) := rfl
theorem rl.partsEa (a : Addr) (w : World) : (ReflectliteValue.parts (.agg #[.pointer (some ⟨4, 66, none⟩), .pointer (some a), .int .u64 386])).run Tryz.prog w = .ok (some (66, a, 386)) w := by kernel_rfl
theorem rl.partsE (a : Addr) (w : World) : (ReflectliteValue.parts (.agg #[.pointer (some ⟨4, 66, none⟩), .pointer (some a), .int .u64 130])).run Tryz.prog w = .ok (some (66, a, 130)) w := by kernel_rfl
theorem rl.directE (w : World) : (Rtype.directlyAssignable 66 66).run Tryz.prog w = .ok true w := by kernel_rfl
theorem rl.sizeE (w : World) : (sizeOf 66).run Tryz.prog w = .ok 1 w := by kernel_rfl
theorem rl.setE (ta b : Addr) (n : Int) (old : Value) (W : World) (hb : W.cell? b = some (.int .i64 n)) (ht : W.cell? ta = some old) (hf : W.frozen? ta = false) :
    (ReflectliteValue.set #[.agg #[.pointer (some ⟨4, 66, none⟩), .pointer (some ta), .int .u64 386], .agg #[.pointer (some ⟨4, 66, none⟩), .pointer (some b), .int .u64 130]]).run Tryz.prog W
      = .ok (.tuple #[]) (W.setCell ta (.int .i64 n)) := by
  rw [rls]
  simp only [Sem.run_bind, rl.partsEa, rl.partsE, Result.andThen]
  simp [ReflectliteValue.flagAddr, loadVar, isAgg, underlying, Tryz.underlying66, hb, Result.andThen, rl.directE, storeVar, Value.cells, storeCells, Addr.add]
  rw [run_store Tryz.prog W ta _ _ (by rfl)]
  simp [ht, hf]

set_option maxRecDepth 100000 in
set_option maxHeartbeats 4000000 in
theorem as_hit (n : Int) (t : Addr) (old : Value) (w : World) (hg : ErrType w) (ht0 : w.cell? t = some old) (hf0 : w.frozen? t = false) :
    Calls Tryz.prog 40 #[.iface 66 (.int .i64 n), .iface 82 (.pointer (some t))] w fun ev w' => ev = .returned (.bool true) ∧ w' = ((((w.alloc (.cells #[.pointer (some t)] 82)).alloc (.cells #[.pointer (some ⟨4, 82, none⟩), .pointer (some ⟨w.heap.size, 0, none⟩), .int .u64 150] 96)).alloc (.cells #[.pointer (some ⟨4, 82, none⟩), .pointer (some ⟨w.heap.size, 0, none⟩), .int .u64 150] 96)).alloc (.cells #[.int .i64 n] 66)).setCell t (.int .i64 n) := by
  unfold ErrType at hg
  have h6 := @run_callFunc_extern Tryz.prog 54 _ (fun args => ReflectliteValue.unpack (args.getD 0 (.tuple #[]))) Tryz.func54 (by kernel_rfl) (by kernel_rfl) (by kernel_rfl) (by kernel_rfl)
  have h7 := @run_callFunc_extern Tryz.prog 55 _ (ReflectliteValue.methodAny (ReflectliteValue.valueError "reflectlite.Value.Type" 0) (fun t _ _ _ => ReflectliteType.toType t)) Tryz.func55 (by kernel_rfl) (by kernel_rfl) (by kernel_rfl) (by kernel_rfl)
  have h8 := @run_callFunc_extern Tryz.prog 56 _ (ReflectliteValue.method (ReflectliteValue.valueError "reflectlite.Value.IsNil" 0) ReflectliteValue.isNil) Tryz.func56 (by kernel_rfl) (by kernel_rfl) (by kernel_rfl) (by kernel_rfl)
  have h27 := @run_callFunc_extern Tryz.prog 127 _ (ReflectliteType.abiMethod fun t => do pure (.int .u8 (← Rtype.kind t))) Tryz.func127 (by kernel_rfl) (by kernel_rfl) (by kernel_rfl) (by kernel_rfl)
  have h37 := @run_callFunc_extern Tryz.prog 137 _ (ReflectliteType.method ReflectliteType.elem) Tryz.func137 (by kernel_rfl) (by kernel_rfl) (by kernel_rfl) (by kernel_rfl)
  have h38 := @run_callFunc_extern Tryz.prog 138 _ (ReflectliteType.relation "Implements" ReflectliteType.implements_) Tryz.func138 (by kernel_rfl) (by kernel_rfl) (by kernel_rfl) (by kernel_rfl)
  have h10 := @run_callFunc_extern Tryz.prog 75 _ ReflectliteType.typeOf Tryz.func75 (by kernel_rfl) (by kernel_rfl) (by kernel_rfl) (by kernel_rfl)
  have h35 := @run_callFunc_extern Tryz.prog 135 _ (ReflectliteType.relation "AssignableTo" ReflectliteType.assignableTo) Tryz.func135 (by kernel_rfl) (by kernel_rfl) (by kernel_rfl) (by kernel_rfl)
  have h11 := @run_callFunc_extern Tryz.prog 76 _ (ReflectliteValue.method (ReflectliteValue.valueError "reflectlite.Value.Elem" 0) ReflectliteValue.elem) Tryz.func76 (by kernel_rfl) (by kernel_rfl) (by kernel_rfl) (by kernel_rfl)
  have h12 := @run_callFunc_extern Tryz.prog 77 _ ReflectliteValue.set Tryz.func77 (by kernel_rfl) (by kernel_rfl) (by kernel_rfl) (by kernel_rfl)
  have tO := rl.typeOfE
  have mA := rl.methodAssignableTo
  have a25 := rl.assignableE
  have v25 := rl.valueOfE
  have f6 := rl.valueOfP
  have f7 := rl.typeP
  have mK := rl.methodKind
  have mE := rl.methodElem
  have mI := rl.methodImplements
  have k27 := rl.kindP
  have k25 := rl.kindE
  have e27 := rl.elemP
  have i25 := rl.implementsE
  have n8 := rl.isNilP ⟨w.heap.size, 0, none⟩ t ((w.alloc (.cells #[.pointer (some t)] 82)).alloc (.cells #[.pointer (some ⟨4, 82, none⟩), .pointer (some ⟨w.heap.size, 0, none⟩), .int .u64 150] 96)) (by simp)
  have hlt : 0 < w.heap.size := block_lt_of_cell hg
  have hg2 : ((w.alloc (.cells #[.pointer (some t)] 82)).alloc (.cells #[.pointer (some ⟨4, 82, none⟩), .pointer (some ⟨w.heap.size, 0, none⟩), .int .u64 150] 96)).cell? ⟨0, 0, none⟩ = some (.iface 126 (.agg #[.pointer (some ⟨4, 39, none⟩)])) := by
    rw [World.cell?_alloc_lt _ _ ⟨0, 0, none⟩ (by simp <;> omega), World.cell?_alloc_lt _ _ ⟨0, 0, none⟩ hlt]; exact hg
  have htl : t.block < w.heap.size := by
    rcases Nat.lt_or_ge t.block w.heap.size with h | h
    · exact h
    · simp [World.cell?, Array.getElem?_eq_none h] at ht0
  have el := rl.elemVP ⟨w.heap.size, 0, none⟩ t (((w.alloc (.cells #[.pointer (some t)] 82)).alloc (.cells #[.pointer (some ⟨4, 82, none⟩), .pointer (some ⟨w.heap.size, 0, none⟩), .int .u64 150] 96)).alloc (.cells #[.pointer (some ⟨4, 82, none⟩), .pointer (some ⟨w.heap.size, 0, none⟩), .int .u64 150] 96)) (by rw [World.cell?_alloc_lt _ _ ⟨w.heap.size, 0, none⟩ (by simp; omega)]; simp)
  have st := rl.setE t ⟨w.heap.size + 1 + 1 + 1, 0, none⟩ n old ((((w.alloc (.cells #[.pointer (some t)] 82)).alloc (.cells #[.pointer (some ⟨4, 82, none⟩), .pointer (some ⟨w.heap.size, 0, none⟩), .int .u64 150] 96)).alloc (.cells #[.pointer (some ⟨4, 82, none⟩), .pointer (some ⟨w.heap.size, 0, none⟩), .int .u64 150] 96)).alloc (.cells #[.int .i64 n] 66))
    (by rw [World.cell?_alloc_at _ _ _ _ (by simp)]; rfl)
    (by rw [World.cell?_alloc_lt _ _ t (by simp; omega), World.cell?_alloc_lt _ _ t (by simp; omega), World.cell?_alloc_lt _ _ t (by simp; omega), World.cell?_alloc_lt _ _ t htl]; exact ht0)
    (by rw [World.frozen?_alloc_old _ _ t (by simp; omega), World.frozen?_alloc_old _ _ t (by simp; omega), World.frozen?_alloc_old _ _ t (by simp; omega), World.frozen?_alloc_old _ _ t (Nat.ne_of_lt htl)]; exact hf0)
  go_enter Tryz.func40, Tryz.ntmps40
  go_wp2
  refine wp_loop_rounds 1 ?_
  rw [rounds_succ]
  go_wp2
  go_ret
  exact ⟨rfl, rfl⟩
end Go.Proofs.YtnglhfeialomgaaGreatDoor
/- The contracts of Told and of the laws' own Error. -/
namespace Go.Proofs.YtnglhfeialomgaaGreatDoor
open Go.RowKit

theorem told_nil (w : World) : Calls Tryz.prog 26 #[.nilIface] w fun e w' => e = .returned (.int .i64 0) ∧ Fr [] w w' := by
  go_enter Tryz.func26, Tryz.ntmps26
  go_wp2
  go_ret
  exact ⟨rfl, by repeat (first | exact Fr.refl _ _ | apply Fr.alloc)⟩
theorem told_err (n : Int) (w : World) (hg : ErrType w) : Calls Tryz.prog 26 #[.iface 66 (.int .i64 n)] w fun e w' => e = .returned (.int .i64 n) ∧ Fr [] w w' := by
  have hlt : 0 < w.heap.size := block_lt_of_cell hg
  have HG := Lib.hid hg
  clear hg
  go_enter Tryz.func26, Tryz.ntmps26
  go_wp2_with (go_at_call 40; (with_reducible refine useC (as_hit n ⟨w.heap.size, 0, none⟩ (.int .i64 0) _ ?_ ?_ ?_) ?_); exact HG.out.fr ((Fr.refl [] w).alloc _) (by simp); simp; simp; rintro e w' ⟨rfl, rfl⟩)
  go_ret
  exact ⟨rfl, by repeat (first | exact Fr.refl _ _ | apply Fr.alloc)⟩
/-- The laws' own Error: is an error the one told? -/
theorem error_any (c k : Int) (w : World) (hg : ErrType w) : Calls Tryz.prog 10 #[errV c, .int .i64 k] w (OkB (decide (c = k)) w) := by
  have HG := Lib.hid hg
  clear hg
  have hb : decide (c = k) = (c == k) := by by_cases h : c = k <;> simp [h]
  rw [hb]
  clear hb
  by_cases hc : c = 0
  · subst hc
    unfold errV
    rw [if_pos rfl]
    go_enter Tryz.func10, Tryz.ntmps10
    go_wp2_with (go_at_call 26; (with_reducible refine useC (told_nil _) ?_); rintro e w' ⟨rfl, hF⟩; have HF := Lib.hid hF; clear hF)
    go_ret
    exact ⟨rfl, HF.out⟩
  · rw [errV_no hc]
    go_enter Tryz.func10, Tryz.ntmps10
    go_wp2_with (go_at_call 26; (with_reducible refine useC (told_err c _ HG.out) ?_); rintro e w' ⟨rfl, hF⟩; have HF := Lib.hid hF; clear hF)
    go_ret
    exact ⟨rfl, HF.out⟩
theorem error_at (c k : Int) (w : World) (hg : ErrType w) : Calls Tryz.prog 10 #[.iface 66 (.int .i64 c), .int .i64 k] w (OkB (c == k) w) := by
  have HG := Lib.hid hg
  clear hg
  go_enter Tryz.func10, Tryz.ntmps10
  go_wp2_with (go_at_call 26; (with_reducible refine useC (told_err c _ HG.out) ?_); rintro e w' ⟨rfl, hF⟩; have HF := Lib.hid hF; clear hF)
  go_ret
  exact ⟨rfl, HF.out⟩
theorem error_yes (c : Int) (w : World) (hg : ErrType w) : Calls Tryz.prog 10 #[errV c, .int .i64 c] w (OkT w) :=
  (error_any c c w hg).mono fun _ _ ⟨h1, h2⟩ => ⟨by rw [h1, decide_eq_true rfl], h2⟩
end Go.Proofs.YtnglhfeialomgaaGreatDoor

/- Trees of directories: List. -/
namespace Go.Proofs
open Go.RowKit Go.Maps Go.Sort Go.Shelf

shelf_lay_g SlLaysZ.n7 Ggz 7 at Tryz 39 as Tryz.keysL
shelf_lay_g SlLaysZ.n6 Ggz 6 at Tryz 38 as Tryz.sortedL
shelf_lay_g SlLaysM.n6 Slgm 6 at Tryz 52 as Tryz.sortL
namespace YtnglhfeialomgaaGreatDoor
theorem sortsL (m : Nat) : AnyZ.SortsIn Tryz.prog Tryz.sortedL_ren Fence.wide m :=
  ⟨fun blk off cap ss W hH hblk hsz => callsIn_wide.2 (AnyM.slices_Sort_string Tryz.sortL blk off cap ss W hH hblk hsz),
   fun p cap W => callsIn_wide.2 (AnyM.slices_Sort_string_none Tryz.sortL p cap W)⟩
theorem keys_in (mb : Option Nat) (W : World) : CallsIn Fence.wide 5 Tryz.prog 39 #[.map mb] W fun e w' => e = .returned (.func (.func 53) #[] #[.pointer (some ⟨W.heap.size, 0, none⟩)]) ∧ w' = W.alloc (.cells #[.map mb] 54) :=
  AnyZ.keys_in Tryz.keysL Fence.wide 5 trivial rfl mb W
set_option maxHeartbeats 1000000 in
theorem sorted_in (b nn : Nat) (D0 : DataW Unit) (w : World) (hown : w.ownsMap Tryz.prog 9 ptrR b nn D0) (hmax : Maps.size D0 ≤ maxLen) (hbytes : Maps.size D0 * 16 ≤ 140737488355328) :
    CallsIn Fence.wide 5 Tryz.prog 38 #[.func (.func 53) #[] #[.pointer (some ⟨w.heap.size, 0, none⟩)]] (w.alloc (.cells #[.map (some b)] 54)) fun e w' => ∃ (v : Value) (ss : List (List UInt8)), e = .returned v ∧ ss.Perm (strKeys D0) ∧
      w'.ownsRow (w.alloc (.cells #[.map (some b)] 54)).heap.size 9 1 v ss.length ((ss.mergeSort (fun x y => decide (x ≤ y))).map encStr) ∧ (v = .slice none 0 0 ↔ ss = []) ∧ Below (w.alloc (.cells #[.map (some b)] 54)).heap.size (w.alloc (.cells #[.map (some b)] 54)) w' := by
  have hbl := hown.lt
  have hseq : SeqGives Fence.wide 2 Tryz.prog 53 #[.pointer (some ⟨w.heap.size, 0, none⟩)] encStr (fun ss => ss.Perm (strKeys D0)) (Maps.size D0) (w.alloc (.cells #[.map (some b)] 54)) :=
    AnyZ.keys_gives (ρ := Tryz.keysL_ren) { Tryz.keysL with } Fence.wide _ trivial rfl (by omega) w.heap.size b nn D0 _ (by simp) (by simp) (by
      obtain ⟨es, clock, hb, Ft, hs, hD⟩ := hown
      exact ⟨es, clock, (Below.heap_alloc _ _ b hbl).trans hb, Ft, hs, hD⟩)
  exact AnyZ.sorted_in Tryz.sortedL Fence.wide 5 trivial trivial trivial trivial rfl (by omega) (sortsL _) (enters_of Tryz.func52 (by kernel_rfl) rfl) 53 #[.pointer (some ⟨w.heap.size, 0, none⟩)] trivial (enters_of Tryz.func53 (by kernel_rfl) rfl) _ _ hmax hbytes _ hseq
/-- A map's keys. -/
theorem smap_keys {P : Program} {k : TypeId} {w : World} {b n : Nat} {m : Nm → Option Nat} {D : DataW Unit} (h : w.ownsMap P k ptrR b n D) (hm : SMapIs D m) (hk : P.underlying k = some .string) : (strKeys D).Nodup ∧ ∀ x, x ∈ strKeys D ↔ (m x).isSome = true := by
  obtain ⟨es, e1, hp⟩ := World.ownsMap.tidy h (string_keyed hk)
  subst e1
  have hkey : ∀ p ∈ es, ∃ x, p.1 = .string x := fun p hpm => by
    obtain ⟨es', clock, hb, F, hs, he⟩ := h
    injection he with he
    rw [he] at hpm
    obtain ⟨key, hkey⟩ := Maps.fit_keys F p ((Go.WideShapes.sorted_perm _).mem_iff.1 hpm)
    obtain ⟨x, -, hx, -⟩ := Maps.keyOf_str hk hkey
    exact ⟨x, hx⟩
  refine ⟨?_, fun x => ?_⟩
  · show (es.map fun p => strOf p.1).Nodup
    refine List.pairwise_map.2 (hp.imp_of_mem fun {p q} hpm hqm hne e => hne ?_)
    obtain ⟨x, hx⟩ := hkey p hpm
    obtain ⟨y, hy⟩ := hkey q hqm
    rw [hx, hy] at e ⊢
    exact congrArg _ e
  · rw [← hm.has x, Maps.has_eq]
    show x ∈ es.map (fun p => strOf p.1) ↔ _
    rw [List.mem_map, List.any_eq_true]
    constructor
    · rintro ⟨p, hpm, rfl⟩
      obtain ⟨y, hy⟩ := hkey p hpm
      exact ⟨p, hpm, by rw [hy]; simp [strOf, Lit.sameKey]⟩
    · rintro ⟨p, hpm, he⟩
      obtain ⟨y, hy⟩ := hkey p hpm
      rw [hy, same_str] at he
      exact ⟨p, hpm, by rw [hy]; exact eq_of_beq he⟩
theorem srt_lt {l : List (List UInt8)} (h : l.Nodup) : (l.mergeSort (fun x y => decide (x ≤ y))).Pairwise (· < ·) := by
  have h1 : (l.mergeSort (fun x y => decide (x ≤ y))).Pairwise (fun x y => decide (x ≤ y) = true) := List.pairwise_mergeSort (fun x y z a b => by
    simp only [decide_eq_true_eq] at *
    exact List.le_trans a b) (fun x y => by
    simp only [Bool.or_eq_true, decide_eq_true_eq]
    exact List.le_total x y) l
  have h2 : (l.mergeSort (fun x y => decide (x ≤ y))).Nodup := (List.mergeSort_perm l _).nodup_iff.2 h
  refine (h1.and h2).imp (fun {a b} ⟨p, q⟩ => ?_)
  simp only [decide_eq_true_eq] at p
  rcases Decidable.em (a < b) with h | h
  · exact h
  · exact absurd (List.le_antisymm p (List.not_lt.1 h)) q
theorem strE_cells : ∀ l : List (List UInt8), strE.cells l = l.map encStr
  | [] => rfl
  | x :: l => by
    have ih := strE_cells l
    have e : strE.cells (x :: l) = strE.enc x ++ strE.cells l := rfl
    rw [e, ih]
    rfl
/-- The names in a directory, rising. -/
def NamesIn (m : Nm → Option Nat) (w : World) (e : Ending) (w' : World) : Prop := ∃ v gv l, e = .returned v ∧ (w.heap.size ≤ gv ∨ l = []) ∧ SlR strE w' v gv l ∧ l.Pairwise (· < ·) ∧ (∀ x, x ∈ l ↔ (m x).isSome = true) ∧ l.length ≤ 100000 ∧ Fr [] w w'
theorem sorted_c (b n : Nat) (m : Nm → Option Nat) (w : World) (h : SMap Tryz.prog 9 w b n m) (hn : n ≤ 100000) :
    Calls Tryz.prog 38 #[.func (.func 53) #[] #[.pointer (some ⟨w.heap.size, 0, none⟩)]] (w.alloc (.cells #[.map (some b)] 54)) (NamesIn m w) := by
  obtain ⟨D, hown, hm⟩ := h
  have hsz := World.ownsMap.size_le hown
  refine (callsIn_wide.1 (sorted_in b n D w hown (by unfold maxLen; omega) (by omega))).mono ?_
  rintro e w' ⟨v, ss, rfl, hp, ho, -, hb⟩
  obtain ⟨hnd, hmem⟩ := smap_keys hown hm Tryz.underlying9
  have hl : (ss.mergeSort (fun x y => decide (x ≤ y))).length = ss.length := (List.mergeSort_perm ss _).length_eq
  have hO : OwnR strE w' (w.alloc (.cells #[.map (some b)] 54)).heap.size 9 v (ss.mergeSort (fun x y => decide (x ≤ y))) := by
    show w'.ownsRow _ _ 1 v (ss.mergeSort (fun x y => decide (x ≤ y))).length (strE.cells _)
    rw [hl, strE_cells]
    exact ho
  obtain ⟨gv, hg, hs⟩ := hO.sl
  have hz : (w.alloc (.cells #[.map (some b)] 54)).heap.size = w.heap.size + 1 := by simp
  have hks : (strKeys D).length = Maps.size D := by
    obtain ⟨es, rfl⟩ := World.ownsMap.isMap hown
    show (es.map _).length = _
    rw [List.length_map, Maps.size_eq]
  refine ⟨v, gv, _, rfl, ?_, hs, srt_lt (hp.nodup_iff.2 hnd), fun x => ?_, ?_, ((Fr.refl [] w).alloc _).below_step hb (by omega)⟩
  · rcases hg with hg | hg
    · exact .inl (by omega)
    · exact .inr hg
  · rw [(List.mergeSort_perm ss _).mem_iff, hp.mem_iff, hmem]
  · rw [hl, hp.length_eq, hks]; omega
/-- What List hands back. -/
def ListD (o : Option (Nm → Option Nat)) (w : World) (e : Ending) (w' : World) : Prop := match o with
  | none => e = .returned (.tuple #[.slice none 0 0, errV 3])
  | some m => ∃ v gv l, e = .returned (.tuple #[v, .nilIface]) ∧ (w.heap.size ≤ gv ∨ l = []) ∧ SlR strE w' v gv l ∧ l.Pairwise (· < ·) ∧ (∀ x, x ∈ l ↔ (m x).isSome = true) ∧ l.length ≤ 100000
def ListA (g : Tr.G) (s : List UInt8) (w : World) (e : Ending) (w' : World) : Prop := Fr [] w w' ∧ match atV g s with
  | .err c => e = .returned (.tuple #[.slice none 0 0, errV c])
  | .ok n => ListD (g.ent n) w e w'
theorem ListA.err {g : Tr.G} {s : List UInt8} {w w' : World} {c : Int} {e : Ending} (h : atV g s = .err c) (hf : Fr [] w w') (he : e = .returned (.tuple #[.slice none 0 0, errV c])) : ListA g s w e w' := ⟨hf, by rw [h]; exact he⟩
theorem ListA.ok {g : Tr.G} {s : List UInt8} {w w' : World} {n : Nat} {e : Ending} (h : atV g s = .ok n) (hf : Fr [] w w') (he : ListD (g.ent n) w e w') : ListA g s w e w' := ⟨hf, by rw [h]; exact he⟩
theorem ListA.at_ {g : Tr.G} {s : List UInt8} {w w' : World} {n : Nat} {e : Ending} (h : ListA g s w e w') (ha : atV g s = .ok n) : ListD (g.ent n) w e w' := by
  have := h.2
  rw [ha] at this
  exact this
set_option maxRecDepth 100000 in
set_option maxHeartbeats 2000000 in
theorem tr_List (w : World) (tb : Nat) (g : Tr.G) (dom : Nat → Prop) (K : Nat) (s : ByteArray) (hS : TrS w tb g dom K) (hK : K ≤ 100000) :
    Calls Tryz.prog 20 #[.pointer (some ⟨tb, 0, none⟩), .string s] w (ListA g s.data.toList w) := by
  have HS := Lib.hid hS
  have HAT := Lib.hid (tr_at w tb g dom K s hS)
  go_enter Tryz.func20, Tryz.ntmps20
  cases hat : atV g s.data.toList with
  | err c =>
    have HA := Lib.hid hat
    rw [hat, fndV_err] at HAT
    have hne := Tr.atV_err_ne hat
    have hev := errV_no hne
    have HEV := Lib.hid hev
    clear hat hne hS
    go_wp2_with (go_at_call 36; (with_reducible refine useC HAT.out ?_); rintro e w1 ⟨rfl, hf⟩; have HF := Lib.hid hf; clear hf; rw [hev]; clear hev)
    go_ret2
    exact ListA.err HA.out HF.out (by rw [HEV.out]; rfl)
  | ok n =>
    have HA := Lib.hid hat
    rw [hat] at HAT
    have hd := Tr.atV_dom hS.rootD hS.closed hat
    have hnode := hS.node n hd
    unfold fndV at HAT
    clear hat hd hS
    cases he : g.ent n with
    | none =>
      have h0 := hnode.file he
      have HE := Lib.hid he
      have HB := Lib.hid (fun W (hW : Fr [] w W) => (show W.cell? ⟨n, 0, none⟩ = some (.map none) by rw [cell_of_row _ _ _ _ _ _ (hW.get h0 (by simp))]; rfl))
      clear h0 hnode he
      go_wp2_with (go_at_call 36; (with_reducible refine useC HAT.out ?_); rintro e w1 ⟨rfl, hf⟩; have HF := Lib.hid hf; have n0 := HB.out w1 hf; have q0 := mapNil w1 none; clear hf)

      go_ret2
      exact ListA.ok HA.out HF.out (by rw [HE.out]; rfl)
    | some m =>
      obtain ⟨h0, hm0⟩ := hnode.dir he
      have HE := Lib.hid he
      have HB := Lib.hid (fun W (hW : Fr [] w W) => (show W.cell? ⟨n, 0, none⟩ = some (.map (some (g.mb n))) by rw [cell_of_row _ _ _ _ _ _ (hW.get h0 (by simp))]; rfl))
      have HK1 := Lib.hid (fun W => callsIn_wide.1 (keys_in (some (g.mb n)) W))
      have HSO := Lib.hid (fun W (hW : Fr [] w W) => sorted_c (g.mb n) K m W (hm0.keep (hW.block _ hm0.lt (by simp))) hK)
      clear h0 hm0 hnode he
      go_wp2_with (first
        | (go_at_call 36; (with_reducible refine useC HAT.out ?_); rintro e w1 ⟨rfl, hf⟩; have HF := Lib.hid hf; have n0 := HB.out w1 hf; have q0 := mapNil w1 (some (g.mb n)); clear hf)
        | (go_at_call 39; (with_reducible refine useC (HK1.out w1) ?_); rintro e w2 ⟨rfl, rfl⟩)
        | (go_at_call 38; (with_reducible refine useC (HSO.out w1 HF.out) ?_); rintro e w3 ⟨v, gv, l, rfl, h1, h2, h3, h4, h5, h6⟩; have HR := Lib.hid (And.intro h1 (And.intro h2 (And.intro h3 (And.intro h4 h5)))); have HF3 := Lib.hid h6; clear h1 h2 h3 h4 h5 h6))
      go_ret2
      obtain ⟨h1, h2, h3, h4, h5⟩ := HR.out
      refine ListA.ok HA.out (HF.out.trans HF3.out) ?_
      rw [HE.out]
      refine ⟨v, gv, l, rfl, ?_, h2, h3, h4, h5⟩
      rcases h1 with h1 | h1
      · exact .inl (Nat.le_trans HF.out.size h1)
      · exact .inr h1
theorem trl_List {w0 w : World} {tb K : Nat} {g : Tr.G} {dom : Nat → Prop} (h : TrL w0 w tb g dom K) (hK : K ≤ 100000) (s : ByteArray) :
    Calls Tryz.prog 20 #[.pointer (some ⟨tb, 0, none⟩), .string s] w fun e w' => ListA g s.data.toList w e w' ∧ TrL w0 w' tb g dom K :=
  (tr_List w tb g dom K s h.s hK).mono fun _ _ ha => ⟨ha, h.step ha.1⟩
end YtnglhfeialomgaaGreatDoor
end Go.Proofs
