/- Sets of pointers (maps to bool): what a call reads, and adds. No program in sight. -/
import Derived.Test.YtbedfffmicbgmaaBase
import Derived.Maps.OwnSet
import Derived.LaidEql
import Derived.MapKept
namespace Go.Proofs.Ytbedfffmicbgmaa
open Go.RowKit

/-- Block m is a set of pointers at the heads of the blocks L. -/
def PSet (w : World) (m : Nat) (L : List Nat) : Prop := ∃ es clk, w.heap[m]? = some (.map es clk) ∧ es.toList.map (fun e => (e.key, e.val)) = L.map fun b => (Value.pointer (some ⟨b, 0, none⟩), Value.bool true)
/-- The block is a plain row of cells. -/
def Plain (w : World) (b : Nat) : Prop := ∃ cs t, w.heap[b]? = some (.cells cs t (0, 0))
theorem PSet.fr {S : List Nat} {w w' : World} {m : Nat} {L : List Nat} (h : PSet w m L) (hf : Fr S w w') (hm : m ∉ S) : PSet w' m L := by
  obtain ⟨es, clk, h1, h2⟩ := h
  exact ⟨es, clk, hf.get h1 hm, h2⟩
theorem PSet.made (w : World) : PSet (w.alloc (.map #[] 0)) w.heap.size [] := ⟨#[], 0, heap_alloc_new w _, rfl⟩
theorem PSet.lt {w : World} {m : Nat} {L : List Nat} (h : PSet w m L) : m < w.heap.size := by
  obtain ⟨es, clk, h1, _⟩ := h
  exact lt_of_heap h1
section
variable {P : Program} {w : World} {k el e t : TypeId} {i : TypeInfo} {x : Nat}
theorem run_eqIn_ptr (d : Nat) (hk : P.underlying k = some (.pointer el)) (hi : P.info? el = some i) (hz : i.size ≠ 0) {a b : Addr} {r : Bool} (hs : (sameAddr a b).run P w = .ok r w) :
    (Op.equalIn (d + 1) k (.pointer (some a)) (.pointer (some b))).run P w = .ok r w := by
  simp [Op.equalIn, run_underlying hk, sizeOf, typeInfo, hi, hz, hs]
theorem run_eq_ptr (hk : P.underlying k = some (.pointer el)) (hi : P.info? el = some i) (hz : i.size ≠ 0) {a b : Nat} (ha : Plain w a) (hb : Plain w b) :
    (Op.equal k (.pointer (some ⟨a, 0, none⟩)) (.pointer (some ⟨b, 0, none⟩))).run P w = .ok (decide (a = b)) w := by
  obtain ⟨ca, ta, ha⟩ := ha
  obtain ⟨cb, tb, hb⟩ := hb
  have hs : (sameAddr ⟨a, 0, none⟩ ⟨b, 0, none⟩).run P w = .ok (decide (a = b)) w := by
    by_cases hab : a = b
    · subst hab
      rw [run_sameAddr_same]; simp
    · rw [run_sameAddr_other w (a := ⟨a, 0, none⟩) (b := ⟨b, 0, none⟩) (fun h => hab (by injection h)) ha hb]; simp [hab]
  exact run_eqIn_ptr 9999 hk hi hz hs
theorem run_asking (hk : P.underlying k = some (.pointer el)) (hi : P.info? el = some i) (hz : i.size ≠ 0) (hx : Plain w x) : ∀ (es : List MapEntry) (L : List Nat) (n : Nat),
    es.map (fun e => (e.key, e.val)) = L.map (fun b => (Value.pointer (some ⟨b, 0, none⟩), Value.bool true)) → (∀ b ∈ L, Plain w b) →
    ∃ r, (Instr.findAsking k (.pointer (some ⟨x, 0, none⟩)) es n).run P w = .ok r w ∧ (x ∉ L → r = none) ∧ (x ∈ L → ∃ j, r = some (j, .bool true))
  | [], [], n, _, _ => ⟨none, by simp [Instr.findAsking], fun _ => rfl, fun h => by simp at h⟩
  | [], _ :: _, _, h, _ => by simp at h
  | _ :: _, [], _, h, _ => by simp at h
  | en :: es, b :: L, n, h, hL => by
    simp only [List.map_cons, List.cons.injEq, Prod.mk.injEq] at h
    obtain ⟨⟨h1, h2⟩, h3⟩ := h
    have he := run_eq_ptr hk hi hz hx (hL b (by simp))
    by_cases hxb : x = b
    · subst hxb
      refine ⟨some (n, .bool true), ?_, fun hn => absurd (by simp) hn, fun _ => ⟨n, rfl⟩⟩
      unfold Instr.findAsking
      simp [Sem.run_bind, h1, h2, he, Result.andThen]
    · obtain ⟨r, hr, r1, r2⟩ := run_asking hk hi hz hx es L (n + 1) h3 (fun c hc => hL c (by simp [hc]))
      refine ⟨r, ?_, fun hn => r1 (fun hm => hn (by simp [hm])), fun hm => r2 (by simpa [hxb] using hm)⟩
      unfold Instr.findAsking
      simp [Sem.run_bind, h1, he, hxb, Result.andThen, hr]
theorem run_find (hk : P.underlying k = some (.pointer el)) (hi : P.info? el = some i) (hz : i.size ≠ 0) (hx : Plain w x) (es : List MapEntry) (L : List Nat)
    (h : es.map (fun e => (e.key, e.val)) = L.map (fun b => (Value.pointer (some ⟨b, 0, none⟩), Value.bool true))) (hL : ∀ b ∈ L, Plain w b) :
    ∃ r, (Instr.findKey k (.pointer (some ⟨x, 0, none⟩)) es).run P w = .ok r w ∧ (x ∉ L → r = none) ∧ (x ∈ L → ∃ j, r = some (j, .bool true)) := by
  cases es with
  | nil =>
    cases L with
    | nil => exact ⟨none, by simp [Instr.findKey, run_underlying hk, Instr.findNow], fun _ => rfl, fun h => by simp at h⟩
    | cons b L => simp at h
  | cons en es =>
    obtain ⟨r, hr, h1, h2⟩ := run_asking hk hi hz hx (en :: es) L 0 h hL
    refine ⟨r, ?_, h1, h2⟩
    have hen : ∃ b, en.key = .pointer (some ⟨b, 0, none⟩) := by
      cases L with
      | nil => simp at h
      | cons b L =>
        simp only [List.map_cons, List.cons.injEq, Prod.mk.injEq] at h
        exact ⟨b, h.1.1⟩
    obtain ⟨b, hb⟩ := hen
    simp [Instr.findKey, run_underlying hk, Instr.findNow, Instr.sameNow, hb, hr]
theorem run_checkIn_ptr (d : Nat) (hk : P.underlying k = some (.pointer el)) (v : Option Addr) (b : Bool) : (Instr.checkKey b (d + 1) k (.pointer v)).run P w = .ok () w := by
  simp [Instr.checkKey, run_underlying hk]
theorem run_check_ptr (hk : P.underlying k = some (.pointer el)) (v : Option Addr) (b : Bool) : (Instr.checkKey b 10000 k (.pointer v)).run P w = .ok () w := run_checkIn_ptr 9999 hk v b
theorem run_lookup_pset (ht : P.underlying t = some (.map k e)) (hk : P.underlying k = some (.pointer el)) (hi : P.info? el = some i) (hz : i.size ≠ 0) (he : (zeroValue e).run P w = .ok (.bool false) w)
    {m : Nat} {L : List Nat} (h : PSet w m L) (hx : Plain w x) (hL : ∀ b ∈ L, Plain w b) : (Instr.lookup t (.map (some m)) (.pointer (some ⟨x, 0, none⟩)) false).run P w = .ok (.bool (L.contains x)) w := by
  obtain ⟨es, clk, hb, h2⟩ := h
  obtain ⟨r, hr, r1, r2⟩ := run_find hk hi hz hx es.toList L h2 hL
  by_cases hxL : x ∈ L
  · obtain ⟨j, rfl⟩ := r2 hxL
    rw [show L.contains x = true by simpa using hxL]
    simp [Instr.lookup, run_underlying ht, MapKept.run_getObj_map hb, run_check_ptr hk, hr, Result.andThen]
  · obtain rfl := r1 hxL
    rw [show L.contains x = false by simpa using hxL]
    simp [Instr.lookup, run_underlying ht, MapKept.run_getObj_map hb, run_check_ptr hk, hr, he, Result.andThen]
theorem run_update_pset (ht : P.underlying t = some (.map k e)) (hk : P.underlying k = some (.pointer el)) (hi : P.info? el = some i) (hz : i.size ≠ 0)
    {m : Nat} {L : List Nat} (h : PSet w m L) (hx : Plain w x) (hL : ∀ b ∈ L, Plain w b) (hn : x ∉ L) :
    ∃ w', (Instr.mapUpdate t (.map (some m)) (.pointer (some ⟨x, 0, none⟩)) (.bool true)).run P w = .ok () w' ∧ PSet w' m (L ++ [x]) ∧ Fr [m] w w' := by
  obtain ⟨es, clk, hb, h2⟩ := h
  obtain ⟨r, hr, r1, r2⟩ := run_find hk hi hz hx es.toList L h2 hL
  obtain rfl := r1 hn
  have hlt := lt_of_heap hb
  refine ⟨{ w with heap := w.heap.setIfInBounds m (.map (es.push { key := .pointer (some ⟨x, 0, none⟩), val := .bool true, born := clk }) (clk + 1)) }, ?_, ⟨es.push { key := .pointer (some ⟨x, 0, none⟩), val := .bool true, born := clk }, clk + 1, ?_, ?_⟩, ⟨rfl, rfl, rfl, by simp, fun j hj hjm => ?_⟩⟩
  · simp [Instr.mapUpdate, run_underlying ht, MapKept.run_getObj_map hb, run_check_ptr hk, hr, MapKept.run_setObj_map _ hb, Result.andThen]
  · simp [hlt]
  · rw [Array.toList_push, List.map_append, h2, List.map_append]; rfl
  · simp only [List.mem_singleton] at hjm
    simp [Array.getElem?_setIfInBounds, Ne.symm hjm]
end
end Go.Proofs.Ytbedfffmicbgmaa
