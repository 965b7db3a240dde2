/- What the laws on package undo begin with: the closed fact. -/
import Derived.Test.YtmhmbgkpojgbbaaDoorUnUndo
import Derived.Test.YtmhmbgkpojgbbaaDoorUnSt
import Derived.Test.YtmhmbgkpojgbbaaDoorCInts
import Derived.Test.YtmhmbgkpojgbbaaDoorRw2
namespace Go.Proofs.YtmhmbgkpojgbbaaDoor
open Go.RowKit

theorem RowO.some8 {P : Nat → Prop} {w : World} {v : Value} {xs : List Int} (h : RowO P w v xs) (h0 : 0 < xs.length) : ∃ g o c, v = .slice (some ⟨g, o, none⟩) xs.length c := by
  obtain ⟨g, _, hs⟩ := h
  obtain ⟨A, o, c, rfl, -, hA, -⟩ := hs.form
  exact ⟨g, o, c, by rw [hA h0]⟩
theorem RowO.cell {P : Nat → Prop} {w : World} {g o n c : Nat} {xs : List Int} (h : RowO P w (.slice (some ⟨g, o, none⟩) n c) xs) {i : Nat} (hi : i < xs.length) : w.cell? ⟨g, o + i, none⟩ = some (.int .i64 (nth xs i)) := by
  obtain ⟨g', _, hs⟩ := h
  obtain ⟨A, o', c', e, -, hA, hc⟩ := hs.form
  rw [hA (by omega)] at e
  injection e with e1 e2 e3
  injection e1 with e1
  injection e1 with e1 e4 _
  subst e1 e4
  exact hc i hi
theorem RowO.same {P P' : Nat → Prop} {w : World} {v u : Value} {xs : List Int} (h : RowO P w v xs) (h' : RowO P' w u xs) : Calls Tryd.prog 15 #[v, u] w (OkT w) := by
  obtain ⟨g, _, hs⟩ := h
  obtain ⟨g', _, hs'⟩ := h'
  exact (ints_same w v u g g' xs hs hs').mono fun _ _ ⟨h1, h2⟩ => ⟨h1, h2.fr []⟩
theorem UnS.rebase {w0 w w' : World} {P : Nat → Prop} {b : Nat} {d : Un.D} (h0 : Fr [] w0 w) (h : UnS w w' P b d) : UnS w0 w' P b d := ⟨h.file, fun k hk => ⟨Nat.le_trans h0.size (h.hP k hk).1, (h.hP k hk).2⟩, h0.trans h.fr⟩
theorem Un.fact_w : Un.wrErr Un.new 1 2 9 = 0 := by decide
theorem Un.fact_l : (Un.write Un.new 1 2 9).blk = [0, 0, 9, 0, 0, 0, 0, 0] := by decide
theorem Un.fact_m : (Un.undo (Un.write Un.new 1 2 9) 1).blk = [0, 0, 0, 0, 0, 0, 0, 0] := by decide
theorem Un.fact_t : Un.turnErr 1 = 0 := by decide
set_option maxRecDepth 100000 in
set_option maxHeartbeats 1000000 in
theorem un_fact (w : World) : Calls Tryd.prog 18 #[] w (OkT w) := by
  have a1 := Lib.hid Un.fact_w
  have a2 := Lib.hid Un.fact_l
  have a3 := Lib.hid Un.fact_t
  have a4 := Lib.hid Un.fact_m
  generalize hd1 : Un.write Un.new 1 2 9 = d1 at *
  generalize hd2 : Un.undo d1 1 = d2 at *
  have D1 := Lib.hid hd1
  have D2 := Lib.hid hd2
  have HN := Lib.hid (un_New w)
  clear hd1 hd2
  go_enter Tryd.func18, Tryd.ntmps18
  go_wp2_with (first
    | (go_at_call 19; (with_reducible refine useC HN.out ?_); rintro e w1 ⟨b, rfl, hs, hf⟩; obtain ⟨P1, HS1⟩ : ∃ P, Hid (UnS w w1 P b Un.new) := ⟨_, UnS.start hs hf⟩; have HC1 := Lib.hid (un_Write w1 P1 b Un.new 1 2 9 HS1.out.file); unfold UnWr at HC1; rw [a1.out, D1.out] at HC1; clear hs hf)
    | (go_at_call 20; (with_reducible refine useC HC1.out ?_); rintro e w2 ha; obtain ⟨rfl, hs, -⟩ := HS1.out.turn ha; rw [show errV 0 = .nilIface from rfl]; obtain ⟨P2, HS2⟩ : ∃ P, Hid (UnS w w2 P b d1) := ⟨_, hs⟩; have HC2 := Lib.hid (un_Values w2 P2 b d1 HS2.out.file); rw [a2.out] at HC2; clear ha hs)
    | (go_at_call 44; (with_reducible refine useC HC2.out ?_); rintro e w3 hn; obtain ⟨v3, rfl, hr, hf⟩ := RowO.ofU HS2.out hn; obtain ⟨g3, o3, c3, rfl⟩ := hr.some8 (by decide); have HR3 := Lib.hid hr; have HS3 := Lib.hid (HS2.out.step hf); have HC3 := Lib.hid (un_Undo w3 P2 b d1 1 HS3.out.file); rw [a3.out, D2.out] at HC3; clear hn hr hf HC2)
    | (go_at_call 45; (with_reducible refine useC HC3.out ?_); rintro e w4 ha; obtain ⟨rfl, hs, hfp⟩ := HS3.out.turn ha; rw [show errV 0 = .nilIface from rfl]; obtain ⟨P4, HS4, HR4⟩ : ∃ P, Hid (UnS w w4 P b d2) ∧ Hid (RowO P w4 (.slice (some ⟨g3, o3, none⟩) 8 c3) [0, 0, 9, 0, 0, 0, 0, 0]) := ⟨_, hs, HR3.out.turn hfp⟩; have HC4 := Lib.hid (un_Values w4 P4 b d2 HS4.out.file); rw [a4.out] at HC4; clear ha hs hfp)
    | (go_at_call 44; (with_reducible refine useC HC4.out ?_); rintro e w5 hn; obtain ⟨v5, rfl, hr, hf⟩ := RowO.ofU HS4.out hn; obtain ⟨g5, o5, c5, rfl⟩ := hr.some8 (by decide); have q5 := hr.cell (i := 2) (by decide); have q3 := (HR4.out.step hf).cell (i := 2) (by decide); rw [show nth [0, 0, 0, 0, 0, 0, 0, 0] 2 = 0 from rfl] at q5; rw [show nth [0, 0, 9, 0, 0, 0, 0, 0] 2 = 9 from rfl] at q3; have HF5 := Lib.hid (HS4.out.fr.trans hf); clear hn hr hf HC4))
  go_ret
  exact ⟨rfl, HF5.out⟩
end Go.Proofs.YtmhmbgkpojgbbaaDoor
