/- Maps from texts to pointers: len. -/
import Derived.Test.YtnglhfeialomgaaDoorSMap
namespace Go.Proofs.YtnglhfeialomgaaDoor
open Go.RowKit Go.Maps
open Go.WideElems (rg)

section
variable {P : Program} {k e t : TypeId} {w : World} {b n : Nat} {m : Nm → Option Nat}
/-- 'len(m)'. -/
theorem SMap.len (h : SMap P k w b n m) (hk : P.underlying k = some .string) (ht : P.underlying t = some (.map k e)) : ∃ c : Nat, c ≤ n ∧ (c = 0 ↔ ∀ x, m x = none) ∧
    ∀ {ops : Array Oper} {rest : List Oper} {o : Oper} {a : Act} {Q : Exit → Act → World → Prop} (_ : o.guard = none) (mm : Operand) (_ : o.op = Op.call { callee := Callee.builtin Builtin.len, args := #[mm], argTypes := #[t] }) (_ : a.eval mm = .map (some b)) (_ : wpList P ops Q rest (a.put o.dst (.int .i64 c)) w), wpList P ops Q (o :: rest) a w := by
  obtain ⟨D, hD, hm⟩ := h
  refine ⟨Maps.size D, World.ownsMap.size_le hD, ⟨fun h0 x => ?_, fun h0 => ?_⟩, fun {ops rest o a Q} hg mm hop hmm hK => wpList_len_own w hg mm t hop k e ht ptrR b n D hmm hD hK⟩
  · obtain ⟨es, rfl⟩ := World.ownsMap.isMap hD
    have : es = [] := List.length_eq_zero_iff.1 h0
    subst this
    have h1 := hm.has x
    cases e : m x with
    | none => rfl
    | some y => rw [e] at h1; cases h1
  · obtain ⟨es, clock, hb, F, hs, rfl⟩ := hD
    rw [Maps.size_eq]
    refine List.length_eq_zero_iff.2 ?_
    cases hl : (es.toList.map (rg P k ptrR)).foldr DataW.insert [] with
    | nil => rfl
    | cons p r =>
      exfalso
      have hmem : p ∈ (es.toList.map (rg P k ptrR)).foldr DataW.insert [] := by rw [hl]; simp
      have hkey := Maps.fit_keys F p ((Go.WideShapes.sorted_perm _).mem_iff.1 hmem)
      obtain ⟨key, hkey⟩ := hkey
      obtain ⟨x, -, hx, -⟩ := Maps.keyOf_str hk hkey
      have h1 := hm.has x
      rw [h0 x, hl, Maps.has_eq, List.any_cons, hx] at h1
      simp [Lit.sameKey] at h1
end
end Go.Proofs.YtnglhfeialomgaaDoor
