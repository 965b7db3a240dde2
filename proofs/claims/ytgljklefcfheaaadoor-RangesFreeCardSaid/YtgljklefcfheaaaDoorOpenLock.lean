/- An argument of type api.Lock, opened. -/
import Derived.Test.YtgljklefcfheaaaDoorClose
import Derived.Lib.SmallJoins
namespace Go.Proofs.YtgljklefcfheaaaDoor
open Go.ChangeShapes Go.WideShapes Go.ChangeAt Go.RowKit Go.WideElems Go.Deep Go.Joins
theorem cellsLock : Tryd.prog.cellsOf 29 = 4 := by kernel_rfl
set_option maxRecDepth 100000 in
theorem open_lock {H : Type} {enc : TypeId × Value → H} {W : World} {r : Reach} {base b0 : Nat} {spare : Nat → Bool} {held : Bool} {v : Value} {d : DataW H} {p : List MemPlace}
    (hv : Value.okWide Tryd.prog W r b0 29 v) (h : DataW.Trod enc Tryd.prog W base spare held 29 v d p) :
    ∃ (o f n : Int) (a : Bool), v = .agg #[.int .i64 o, .int .i64 f, .int .i64 n, .bool a] ∧ I64 o ∧ I64 f ∧ I64 n := by
  obtain ⟨c0, c1, c2, c3, y0, y1, y2, y3, m, rfl, _, _, h0, h1, h2, h3⟩ := open_agg4 Tryd.underlying29 (by kernel_rfl) cellsLock hv h
  obtain ⟨o, e0, _, w0⟩ := DataW.trod_int Tryd.underlying3 h0
  obtain ⟨f, e1, _, w1⟩ := DataW.trod_int Tryd.underlying3 h1
  obtain ⟨n, e2, _, w2⟩ := DataW.trod_int Tryd.underlying3 h2
  obtain ⟨a, e3, _⟩ := DataW.trod_bool Tryd.underlying4 h3
  simp only [List.cons.injEq, and_true] at e0 e1 e2 e3
  subst e0 e1 e2 e3
  exact ⟨o, f, n, a, rfl, i64_of_wf w0, i64_of_wf w1, i64_of_wf w2⟩
end Go.Proofs.YtgljklefcfheaaaDoor
