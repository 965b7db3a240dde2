/- A region of plain operations (no calls) that draws its order, within a fence, in a round or not: walked as XMix walks it outside. No program in sight. -/
import Derived.Test.YtmhmbgkpojgbbabDoorMix
import Derived.Test.YtmhmbgkpojgbbabDoorBase
import Derived.OrdersIn
namespace Go.Proofs.YtmhmbgkpojgbbabDoor
open Go
/-- An operation that calls nothing. -/
def plainOp (o : Oper) : Bool := match o.op with
  | .move .. | .assign .. | .load .. | .store .. | .fieldAddr .. | .indexAddr .. | .binOp .. | .unOp .. | .pick .. | .alloc .. | .build .. => true
  | .nilCheck .. => true
  | _ => false
/-- The normal end alone. -/
def NormalOnly (K : Act → World → Prop) : Exit → Act → World → Prop
  | .normal, a, w => K a w
  | _, _, _ => False
theorem NormalOnly.not_out {K : Act → World → Prop} : ¬ LetsOut (NormalOnly K) := fun ⟨_, _, h⟩ => h
section
variable {F : Fence} {nf : Nat} {P : Program} {ops : Array Oper} {Q : Exit → Act → World → Prop} {md : Region.Mode}
/-- It yields a value, or nothing. -/
def Tame (r : Result Next) : Prop := match r with
  | .ok (.value _) _ => True
  | .ok .skip _ => True
  | .halt _ _ => True
  | _ => False
theorem tame_v {s : Sem Value} {w : World} : Tame ((do pure (.value (← s)) : Sem Next).run P w) := by
  rw [Sem.run_bind]
  cases s.run P w <;> simp [Tame, Result.andThen]
theorem tame_u {s : Sem Unit} {w : World} : Tame ((do s; pure .skip : Sem Next).run P w) := by
  rw [Sem.run_bind]
  cases s.run P w <;> simp [Tame, Result.andThen]
theorem plain_tame {o : Oper} (ho : plainOp o = true) (ρ : Operand → Value) (w : World) : Tame ((execOp ρ o).run P w) := by
  cases o with
  | mk dst op ty pos after guard =>
    cases op <;> first
      | exact tame_v
      | exact tame_u
      | (cases ho; done)
      | skip
    · trivial
    · trivial
    · rename_i c a b
      show Tame ((do let x ← asBool (ρ c); pure (.value (if x then ρ a else ρ b)) : Sem Next).run P w)
      rw [Sem.run_bind]
      cases (asBool (ρ c)).run P w <;> simp [Tame, Result.andThen]
    · rename_i x
      unfold execOp
      dsimp only
      split
      · simp [Tame, runtimePanic]
      · simp [Tame, runtimePanic]
      · simp [Tame, runtimePanic]
      · split
        · simp [Tame, runtimePanic]
        · simp only [Sem.run_bind]
          simp only [run_program, Result.andThen]
          generalize (Sem.run P (nilAhead _ _ _ _) w) = r
          cases r with
          | halt y w2 => trivial
          | ok y w2 =>
            dsimp only
            by_cases e : y = some false
            · subst e; trivial
            · rw [if_pos (by simpa using e)]; trivial
        · trivial
      · trivial
theorem plain_about {o : Oper} (ho : plainOp o = true) (w : World) (ρ : Operand → Value) : o.about P w ρ = none := by
  cases o with
  | mk dst op ty pos after guard => cases op <;> first | rfl | (cases ho; done)
theorem plain_semAt {o : Oper} (ho : plainOp o = true) (ro : Option Nat) (ρ : Operand → Value) : o.semAt ro ρ = execOp ρ o := by
  refine Oper.semAt_eq ro ρ o (fun c h => ?_)
  unfold plainOp at ho
  rw [h] at ho
  cases ho
theorem Oper.wpIn_of_plain {o : Oper} {K K' : Act → World → Prop} {a : Act} {w : World} {N : Act → World → Prop} (hp : plainOp o = true) (hK : ∀ a w, K a w → K' a w) (h : o.wp P a w K (NormalOnly N)) : o.wpIn F nf P a w K' Q := by
  have ha := plain_about (P := P) hp w a.eval
  refine ⟨fun f hf => (by rw [ha] at hf; cases hf), ?_⟩
  rw [plain_semAt hp]
  have ht := plain_tame (P := P) hp a.eval w
  unfold Oper.wp at h
  generalize (execOp a.eval o).run P w = r at *
  cases r with
  | ok x w' =>
    cases x with
    | value v => exact hK _ _ h
    | skip => exact hK _ _ h
    | _ => exact ht.elim
  | halt x w' =>
    cases x with
    | panic v => exact (show False from h).elim
    | _ => exact (show False from h).elim
theorem wpOpIn_of_plain {i : Nat} {K K' : Act → World → Prop} {a : Act} {w : World} (ho : ∀ o, ops[i]? = some o → plainOp o = true) (hK : ∀ a w, K a w → K' a w) (h : wpOp P ops (NormalOnly (Q .normal)) i K a w) : wpOpIn F nf P ops Q i K' a w := by
  unfold wpOp at h
  unfold wpOpIn
  split
  · rename_i hn
    rw [hn] at h
    exact hK _ _ h
  · rename_i o hn
    rw [hn] at h
    have hp := ho o hn
    have ha := plain_about (P := P) hp w a.eval
    dsimp only at h
    split at h
    · rename_i hw
      rw [if_pos hw]
      rcases h with h | ⟨_, h⟩
      · exact Oper.wpIn_of_plain hp hK h
      · exact (NormalOnly.not_out h).elim
    · rename_i hw
      rw [if_neg hw]
      exact ⟨fun f hf => (by rw [ha] at hf; cases hf), hK _ _ h⟩
/-- A load of n cells from a place in a block on. -/
theorem wpListIn_load_part {rest : List Oper} {o : Oper} {a : Act} {w : World} (hgd : o.guard = none) (ty : TypeId) (x : Operand) (ho : o.op = .load ty x)
    (g off n : Nat) (hx : a.eval x = .pointer (some ⟨g, off, none⟩)) (t : TypeId) (cur : Array Value) (fr : Nat × Nat) (d : TypeDesc) (hg : w.heap[g]? = some (.cells cur t fr))
    (hu : P.underlying ty = some d) (hd : (match d with | .struct _ | .array _ _ => true | _ => false) = true) (hi : (P.info? ty).map (·.size) = some n) (hn : off + n ≤ cur.size)
    (vs : Array Value) (hvs : ((cur.toList.drop off).take n).toArray = vs)
    (h : wpListIn F nf P ops Q rest (a.put o.dst (.agg vs)) w) : wpListIn F nf P ops Q (o :: rest) a w :=
  wpListIn_plain hgd fun _ hK => Oper.wpIn_of_plain (N := fun _ _ => True) (by unfold plainOp; rw [ho]) hK (wp_load_part ty x ho g off n hx t cur fr d hg hu hd hi hn (by rw [hvs]; exact h))
theorem wpAnyIn_of_plain (ho : ∀ (i : Nat) (o : Oper), ops[i]? = some o → plainOp o = true) : ∀ (fuel : Nat) (listed : Array Bool) (a : Act) (w : World), wpAny P md ops (NormalOnly (Q .normal)) fuel listed a w → wpAnyIn F nf P md ops Q fuel listed a w
  | 0, _, _, _, h => h
  | fuel + 1, listed, a, w, h => ⟨h.1, fun i hi => wpOpIn_of_plain (ho i) (fun a' w' h' => wpAnyIn_of_plain ho fuel _ a' w' h') (h.2 i hi)⟩
theorem plain_all {l : List Oper} (h : l.all plainOp = true) : ∀ (i : Nat) (o : Oper), l.toArray[i]? = some o → plainOp o = true := fun i o hi => by
  rw [List.getElem?_toArray] at hi
  exact List.all_eq_true.1 h o (List.mem_of_getElem? hi)
/-- **THE LAW**: a region of plain operations, all that is ahead of the tail only reads. -/
theorem wpIn_region_mixq {id : Nat} {a : Act} {w : World} {l : List Oper} (n : Nat) (pl : List (Bool × Nat)) (hm : P.follows .mixedOrders = true)
    (hB : (l.all plainOp && (tailB .any l.toArray n && (Region.noSelect l.toArray && (decide (pl.length + (l.drop n).length = l.length) && mixB .any l.toArray n pl (Array.replicate l.length false))))) = true)
    (h : wpMix P l.toArray (NormalOnly (Q .normal)) (· = w.drew) (wpList P l.toArray (NormalOnly (Q .normal)) (l.drop n)) (pickOps l pl) a w.drew) : (Code.region id l.toArray true).wpIn F nf P Q a w := by
  simp only [Bool.and_eq_true, decide_eq_true_eq] at hB
  obtain ⟨hp, ht, hsel, hlen, hmix⟩ := hB
  have inv0 : HeadInv .any l.toArray n (Array.replicate l.length false) :=
    ⟨by simp, fun j oj _ hl => (by rw [getD_replicate_false] at hl; cases hl), fun t _ ht => getD_in (by simpa using ht) (getD_replicate_false _ _)⟩
  have h1 := wpAnyT_of_mix (Q := NormalOnly (Q .normal)) (S := (· = w.drew)) (P := P) ht hsel pl _ a w.drew inv0 hmix rfl h
  rw [hlen] at h1
  have h2 := wpAny_of_T (S := (· = w.drew)) (n := n) _ _ _ _ h1
  have h3 := wpAnyIn_of_plain (F := F) (nf := nf) (Q := Q) (plain_all hp) _ _ _ _ h2
  exact wpIn_region_any hm (by simpa using h3)
end
end Go.Proofs.YtmhmbgkpojgbbabDoor
