/- The walk of FdsMove: whatever came in, the answer is true. -/
import Derived.Test.YtmgalnkcpolafaaFdLaw
namespace Go.Proofs.Ytmgalnkcpolafaa
open Go.RowKit

theorem fdsMove_walk (w : World) (v : Value) (ls : List (List Int)) (fd by_ : Int) (hR : Rw w.heap.size w v ls) :
    Calls Try.prog 4 #[v, .int .i64 fd, .int .i64 by_] w (OkT w) := by
  have HR := Lib.hid hR
  clear hR
  go_enter Try.func4, Try.ntmps4
  go_wp2_with fail
  (refine useC (fd_fact _) ?_); rintro e w0 ⟨rfl, hF0⟩
  have HF0 := Lib.hid hF0
  clear hF0
  go_wp2_with fail
  (refine useC (fd_opened _ w.heap.size v ls (HR.out.below HF0.out.below) HF0.out.size) ?_); rintro e w1 ⟨b, t, rfl, hT1, hO, hB1, hs1⟩
  have HT1 := Lib.hid hT1
  have HO := Lib.hid hO
  have HB1 := Lib.hid (HF0.out.below.trans hB1)
  clear hT1 hO hB1 HR HF0
  go_wp2_with fail
  (refine useC (fd_at _ _ _ _ _ HT1.out) ?_); rintro e w2 ⟨rfl, rfl⟩
  go_wp2_with fail
  rcases Fd.move_cases HO.out fd by_ with ⟨c, hc, hx⟩ | ⟨o, hfd, ho, hbd, hby, hx⟩
  · (refine useC (fd_move _ _ _ _ _ _ HT1.out HO.out) ?_); rintro e w3 h3
    obtain ⟨rfl, hT3, hB3, hs3⟩ := h3.no hx hc
    have HT3 := Lib.hid hT3
    have HB3 := Lib.hid (HB1.out.trans hB3)
    clear hT3 hB3 h3 HT1 HB1 hx hc
    go_wp2_with fail
    (refine useC (fd_at _ _ _ _ _ HT3.out) ?_); rintro e w4 ⟨rfl, rfl⟩
    go_wp2
    go_ret
    exact ⟨rfl, Fr.of_below HB3.out⟩
  · (refine useC (fd_move _ _ _ _ _ _ HT1.out HO.out) ?_); rintro e w3 h3
    obtain ⟨rfl, hT3, hB3, hs3⟩ := h3.ok hx
    have hOk := Fd.move_ok HO.out fd by_
    rw [hx] at hOk
    have HO3 := Lib.hid hOk
    rw [Fd.at_of hfd ho]
    have hat := Lib.hid (show Fd.at_ ⟨t.sl, Fd.upd t.f o ((t.f o).1, (t.f o).2 + by_)⟩ fd = (t.f o).2 + by_ from by rw [Fd.at_of hfd (by exact ho)]; simp [Fd.upd])
    obtain ⟨b1, b2, b3⟩ := hbd
    obtain ⟨b4, b5⟩ := hby
    have hback : Hid (∃ t', Fd.move ⟨t.sl, Fd.upd t.f o ((t.f o).1, (t.f o).2 + by_)⟩ fd ((t.f o).2 - ((t.f o).2 + by_)) = (t', (t.f o).2, 0)) := by
      have e := Fd.move_of (t := ⟨t.sl, Fd.upd t.f o ((t.f o).1, (t.f o).2 + by_)⟩) (by_ := (t.f o).2 - ((t.f o).2 + by_)) (o := o) hfd ho (by simp only [Fd.upd, if_true]; omega)
      rw [show ((Fd.upd t.f o ((t.f o).1, (t.f o).2 + by_)) o).2 + ((t.f o).2 - ((t.f o).2 + by_)) = (t.f o).2 from by simp only [Fd.upd, if_true]; omega] at e
      exact ⟨_, e⟩
    have HT3 := Lib.hid hT3
    have HB3 := Lib.hid (HB1.out.trans hB3)
    clear hT3 hB3 h3 HT1 HB1 hx hOk ho hfd
    generalize (⟨t.sl, Fd.upd t.f o ((t.f o).1, (t.f o).2 + by_)⟩ : Fd.T) = t3 at *
    generalize (t.f o).1 = s at *
    generalize (t.f o).2 = a at *
    go_wp2_with fail
    (refine useC (fd_at _ _ _ _ _ HT3.out) ?_); rw [hat.out]; rintro e w4 ⟨rfl, rfl⟩
    obtain ⟨t4, hx4⟩ := hback.out
    have hm := Lib.hid (fd_move _ _ _ _ fd (a - (a + by_)) HT3.out HO3.out)
    go_wp2_with fail
    (refine useC hm.out ?_); rintro e w6 h6
    obtain ⟨rfl, _, hB6, _⟩ := h6.ok hx4
    have HB6 := Lib.hid (HB3.out.trans hB6)
    clear hB6 h6 HB3 hx4 hm
    go_wp2
    go_ret
    exact ⟨rfl, Fr.of_below HB6.out⟩
end Go.Proofs.Ytmgalnkcpolafaa
