/- set of package lsm: an entry laid into a table that rises. -/
import Derived.Test.YtokbhiokcoldbaaDoorInsE
import Derived.Test.YtokbhiokcoldbaaDoorLsModel2
import Derived.Test.YtokbhiokcoldbaaDoorEnc2
namespace Go.Proofs.YtokbhiokcoldbaaDoor
open Go.RowKit

theorem ent_info : (Tryd.prog.info? 117).map (·.size) = some 2 := by kernel_rfl
set_option maxRecDepth 100000 in
set_option maxHeartbeats 4000000 in
theorem ls_set (w : World) (B : Nat) (v : Value) (l : List (Int × Int)) (k x : Int) (h : OwnR entE w B 117 v l) (hu : Ls.Up l) (hl : l.length ≤ 1000) (hB : B ≤ w.heap.size) :
    Calls Tryd.prog 71 #[v, .agg #[.int .i64 k, .int .i64 x]] w (InsAE w B v (Ls.set l (k, x))) := by
  obtain ⟨g0, -, hs⟩ := h.sl
  obtain ⟨w1, hw1⟩ : ∃ w1, w.alloc (.cells #[.int .i64 k, .int .i64 x] 117) = w1 := ⟨_, rfl⟩
  have hbx : w1.heap[w.heap.size]? = some (.cells #[.int .i64 k, .int .i64 x] 117 (0, 0)) := by rw [← hw1]; exact heap_alloc_new w _
  have hf1 : Fr [] w w1 := by rw [← hw1]; exact (Fr.refl _ _).alloc _
  have HBS := Lib.hid (ls_bs w1 v g0 l (k, x) (hs.fr hf1 (by simp)) hu (by omega))
  have HT := Lib.hid (Ls.set_there (k, x) l)
  have HN := Lib.hid (Ls.set_new (k, x) l)
  have hle := Ls.lb_le k l
  have HO := Lib.hid h
  have HBX := Lib.hid hbx
  have HF1 := Lib.hid hf1
  dsimp only at HBS HT HN
  obtain ⟨A, c, hv⟩ : ∃ A c, v = .slice A l.length c := by
    rcases h.2 with ⟨rfl, hn⟩ | ⟨g, cap, cur, rfl, _⟩
    · exact ⟨none, 0, by rw [hn]⟩
    · exact ⟨_, cap, rfl⟩
  subst hv
  have b0 : w1.cell? ⟨w.heap.size, 0, none⟩ = some (.int .i64 k) := by rw [cell_of_row _ _ _ _ _ _ hbx]; rfl
  have b1 : w1.cell? ⟨w.heap.size, 1, none⟩ = some (.int .i64 x) := by rw [cell_of_row _ _ _ _ _ _ hbx]; rfl
  clear h hs hbx hf1 hu
  go_enter Tryd.func71, Tryd.ntmps71
  go_wp2_with (rw [hw1])
  clear hw1
  have hl0 : (0 : Int) ≤ (Ls.lb k l : Nat) := by omega
  generalize hp : Ls.lb k l = p at *
  go_wp2_with fail
  refine useC HBS.out ?_
  rintro e' w2 ⟨⟨b, rfl, hb⟩, hf⟩
  have hbx2 := hf.get HBX.out (by simp)
  have c0 : w2.cell? ⟨w.heap.size, 0, none⟩ = some (.int .i64 k) := by rw [cell_of_row _ _ _ _ _ _ hbx2]; rfl
  have c1 : w2.cell? ⟨w.heap.size, 1, none⟩ = some (.int .i64 x) := by rw [cell_of_row _ _ _ _ _ _ hbx2]; rfl
  have hF2 := HF1.out.trans hf
  have hO2 := HO.out.kept hF2 (by simp)
  have HF2 := Lib.hid hF2
  have HO2 := Lib.hid hO2
  have hb2 := hF2.size
  clear hf hbx2 HBS b0 b1 hF2 hO2 HO HF1 HBX
  cases b with
  | true =>
    obtain ⟨hlt, he⟩ := hb.1 rfl
    have HE := Lib.hid (HT.out hlt he)
    have i1 : (p : Int) < l.length := by omega
    have hpl : p ≤ 100000 := by omega
    have ⟨ho1, ho2⟩ := HO2.out
    rcases ho2 with ⟨_, hn⟩ | ⟨g, cap, cur, e0, hbg, hg, hc, hm, hs, ht⟩
    · omega
    · injection e0 with e1 e2 e3
      subst e1 e3
      obtain ⟨cur', new, hg', hfit, hnew, hD⟩ := DfR.put (E := entE) (w := w2) (e := 117) (g := g) (cap := c) (xs := l) ⟨cur, hg, hs, hc, ht⟩ hlt (k, x)
      have HG := Lib.hid hg'
      have HNEW := Lib.hid hnew
      have HFI : Hid (InsAE w B (.slice (some ⟨g, 0, none⟩) l.length c) (Ls.set l (k, x)) (.returned (.slice (some ⟨g, 0, none⟩) l.length c)) (w2.setRow g new)) := by
        obtain ⟨cur2, d1, d2, d3, d4⟩ := hD
        refine ⟨⟨_, rfl, own_at d1 hbg (by rw [HE.out, List.length_set]) hc hm d2 ?_, .inl rfl⟩, ?_⟩
        · rw [HE.out, ← d4, List.length_set]
        · have hq := HF2.out
          exact ⟨hq.os, hq.tape, hq.output, by rw [setRow_size]; exact hq.size, fun q hq1 hq2 => (setRow_other w2 g q new (fun e => hq2 (by rw [e]; rfl))).trans (hq.block q hq1 (by simp))⟩
      have HFT : Hid (p * 2 + 2 ≤ cur'.size) := hfit
      clear hfit hnew hD hg' hg hs ht hm hc ho1 he hb HO2 HT HN HE HF2
      go_wp2_with (refine wpList_store_part rfl 117 _ _ rfl g (p * 2) #[.int .i64 k, .int .i64 x] rfl rfl _ cur' HG.out ent_info HFT.out (by simp [Value.oneCell']) new HNEW.out ?_)
      go_ret
      exact HFI.out
  | false =>
    have HE := Lib.hid (HN.out (fun hlt he => by have := hb.2 ⟨hlt, he⟩; cases this))
    have HI := Lib.hid (insE (w2.alloc (.cells #[.int .i64 k, .int .i64 x] 117)) B (.slice A l.length c) p l (k, x) w2.heap.size (HO2.out.alloc _) hle (heap_alloc_new w2 _) (fun e => by have := (HO2.out.ge _ e).2; omega) (by omega) (by simp; omega))
    have HF3 : Hid (Fr [] w (w2.alloc (.cells #[.int .i64 k, .int .i64 x] 117))) := HF2.out.alloc _
    clear hb HT HN HO2 HF2
    go_wp2_with (go_at_call 90; (with_reducible refine useC HI.out ?_); intro e3 w3 h3; have HA := Lib.hid (h3.of HF3.out); obtain ⟨⟨v', rfl, _, _⟩, _⟩ := h3)
    refine bodyPost_ret (v := v') (results_tmp (t := 4) rfl _ _ _) (by rfl) ?_
    rw [HE.out]
    exact HA.out
end Go.Proofs.YtokbhiokcoldbaaDoor
