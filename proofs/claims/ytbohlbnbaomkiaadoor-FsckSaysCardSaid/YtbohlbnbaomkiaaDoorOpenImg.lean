/- An argument of type api.Image, opened. -/
import Derived.Test.YtbohlbnbaomkiaaDoorClose
import Derived.Test.YtbohlbnbaomkiaaDoorFkWalk
import Derived.Lib.SmallJoins
import Derived.Deep.Slices
namespace Go.Proofs.YtbohlbnbaomkiaaDoor
open Go.ChangeShapes Go.WideShapes Go.ChangeAt Go.RowKit Go.WideElems Go.Deep Go.Joins
theorem cellsImg : Tryd.prog.cellsOf 25 = 2 := by kernel_rfl
theorem cellsEnt : Tryd.prog.cellsOf 33 = 2 := by kernel_rfl
theorem cellsInt : Tryd.prog.cellsOf 3 = 1 := by kernel_rfl
theorem spot_none {w : World} {a : Addr} {x : Value} (h : w.cell? a = some x) : a = ⟨a.block, a.off, none⟩ := by
  have hsp : a.spot = none := World.cell?_spot h
  obtain ⟨bl, of, sp⟩ := a
  simp only at hsp
  subst hsp
  rfl
section
variable {H : Type} {enc : TypeId × Value → H} {W : World}
theorem open_counts {fuel : Nat} {v : Value} {x : DataW H × List MemPlace} (h : DataW.trod enc Tryd.prog W 0 (fun _ => true) true fuel 22 [v] = some x) : ∃ g xs, Sl W v g xs := by
  rcases open_ints Tryd.underlying22 Tryd.underlying3 cellsInt h with ⟨hcs, _⟩ | ⟨a, len, cap, zs, hcs, _, hl, hm, hz, _, hc, _⟩
  · simp only [List.cons.injEq, and_true] at hcs
    subst hcs
    exact ⟨0, [], .inl ⟨rfl, _, _, rfl⟩⟩
  · simp only [List.cons.injEq, and_true] at hcs
    subst hcs
    have hz' : zs.length = cap := by simpa using hz
    by_cases h0 : len = 0
    · subst h0; exact ⟨0, [], .inl ⟨rfl, _, _, rfl⟩⟩
    · have hc0 := hc 0 (by omega)
      rw [Addr.add_zero'] at hc0
      have ha := spot_none hc0
      rw [ha] at hc ⊢
      refine ⟨a.block, zs.take len, .inr ⟨a.off, cap, ?_, by rw [List.length_take]; omega, hm, fun i hi => ?_⟩⟩
      · rw [List.length_take, Nat.min_eq_left (by omega)]
      · rw [List.length_take] at hi
        have := hc i (by omega)
        rw [Addr.add_lit] at this
        rw [this]
        have hi2 : i < len := by omega
        simp [nth, List.getD, List.getElem?_take, hi2]
theorem open_ents {fuel : Nat} {v : Value} {x : DataW H × List MemPlace} (h : DataW.trod enc Tryd.prog W 0 (fun _ => true) true fuel 23 [v] = some x) : ∃ g l, SlR enE W v g l := by
  rcases open_slice Tryd.underlying23 h with ⟨hcs, _⟩ | ⟨a, len, cap, m, n, D, Pl, hcs, _, hl, hm, hmm, _, hi⟩
  · simp only [List.cons.injEq, and_true] at hcs
    subst hcs
    exact ⟨0, [], .inl ⟨rfl, _, _, rfl⟩⟩
  · simp only [List.cons.injEq, and_true] at hcs
    subst hcs
    have hm' : m = cap := by simpa using hmm
    have hel : ∀ i, ∃ y : Int × Int, i < m → W.cell? (a.add (i * 2)) = some (.int .i64 y.1) ∧ W.cell? (a.add (i * 2 + 1)) = some (.int .i64 y.2) := by
      intro i
      by_cases him : i < m
      · obtain ⟨cs, hcs, ht⟩ := hi i him
        rw [cellsEnt] at hcs
        obtain ⟨_, hlen, hat⟩ := World.cells?_some hcs
        obtain ⟨y0, y1, k, _, _, h0, h1⟩ := trod_struct2 Tryd.underlying33 ht
        match cs, hlen with
        | [c0, c1], _ =>
          obtain ⟨p, e0, _, _⟩ := DataW.trod_int Tryd.underlying3 h0
          obtain ⟨q, e1, _, _⟩ := DataW.trod_int Tryd.underlying3 h1
          have q0 := hat 0 (by decide)
          have q1 := hat 1 (by decide)
          rw [show Tryd.prog.cellsOf 3 = 1 from cellsInt] at e0 e1
          simp at e0 e1 q0 q1
          subst e0 e1
          refine ⟨(p, q), fun _ => ⟨?_, ?_⟩⟩
          · rw [Addr.add_zero'] at q0; exact q0
          · rw [← Go.Deep.add_add]; exact q1
      · exact ⟨(0, 0), fun h => absurd h him⟩
    obtain ⟨f, hf⟩ := Classical.skolem.1 hel
    by_cases h0 : len = 0
    · subst h0; exact ⟨0, [], .inl ⟨rfl, _, _, rfl⟩⟩
    · have hc0 := (hf 0 (by omega)).1
      rw [Nat.zero_mul, Addr.add_zero'] at hc0
      have ha := spot_none hc0
      rw [ha] at hf ⊢
      refine ⟨a.block, (List.range len).map f, .inr ⟨a.off, cap, by simp, by simpa using hl, hm, fun i hi' r hr => ?_⟩⟩
      have hil : i < len := by simpa using hi'
      obtain ⟨c0, c1⟩ := hf i (by omega)
      rw [Addr.add_lit] at c0 c1
      have hr2 : r < 2 := hr
      rw [show ((List.range len).map f)[i] = f i by simp]
      match r, hr2 with
      | 0, _ => exact c0
      | 1, _ => exact c1
set_option maxRecDepth 100000 in
theorem open_image {r : Reach} {b0 : Nat} {v : Value} {d : DataW H} {p : List MemPlace} (hv : Value.okWide Tryd.prog W r b0 25 v) (h : DataW.Trod enc Tryd.prog W 0 (fun _ => true) true 25 v d p) : ∃ C E, ImV W v C E := by
  obtain ⟨c0, c1, y0, y1, n, rfl, _, _, h0, h1⟩ := open_agg2 Tryd.underlying25 (by kernel_rfl) cellsImg hv h
  obtain ⟨g1, C, hC⟩ := open_counts h0
  obtain ⟨g2, E, hE⟩ := open_ents h1
  exact ⟨C, E, _, _, _, _, rfl, hC, hE⟩
end
end Go.Proofs.YtbohlbnbaomkiaaDoor
