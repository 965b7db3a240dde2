/- SoftSync: behind a sync a crash loses nothing, and one more sync writes nothing. -/
import Derived.Test.YtghgbihojdjbgaaDoorSoLaw
import Derived.Test.YtghgbihojdjbgaaDoorRw2
import Derived.Test.YtghgbihojdjbgaaDoorCInts
namespace Go.Proofs.YtghgbihojdjbgaaDoor
open Go.RowKit

theorem So.crash_full {L : List Int} (hl : L.length = 40) : ∀ q, q < 20 → nth (So.crash L) q = nth L q ∧ nth (So.crash L) (20 + q) = nth L q := fun q hq =>
  ⟨by rw [So.crash_nth hl, if_pos hq], by rw [So.crash_nth hl, if_neg (by omega), if_pos (by omega), Nat.add_sub_cancel_left]⟩
/-- What a sync and a crash leave. -/
theorem So.after {L : List Int} {k : Nat} (h : So.OK L k) : So.OK (So.crash (So.sync L).1) k ∧ part (So.crash (So.sync L).1) 20 8 = part L 20 8 ∧ part (So.crash (So.sync L).1) 28 12 = part L 28 12 ∧ part (So.crash (So.sync L).1) 0 8 = part L 20 8 ∧ part (So.crash (So.sync L).1) 8 12 = part L 28 12 ∧ (So.sync (So.crash (So.sync L).1)).2 = 0 := by
  have h1 := (So.sync_ok h).1
  have h2 := So.crash_ok h1
  have hl := h.shp.len
  have c := So.crash_full h1.shp.len
  have s := So.sync_all h
  have hl2 := h2.shp.len
  refine ⟨h2, ?_, ?_, ?_, ?_, So.sync_idle h2 (fun q hq => by rw [(c q hq).1, (c q hq).2])⟩
  · refine eq_of_getD (by rw [part_len (by omega), part_len (by omega)]) (fun j hj => ?_)
    rw [part_len (by omega)] at hj
    rw [part_nth hj, part_nth hj, (c j (by omega)).2, (s j (by omega)).1]
  · refine eq_of_getD (by rw [part_len (by omega), part_len (by omega)]) (fun j hj => ?_)
    rw [part_len (by omega)] at hj
    rw [part_nth hj, part_nth hj, show 28 + j = 20 + (8 + j) by omega, (c (8 + j) (by omega)).2, (s (8 + j) (by omega)).1]
  · refine eq_of_getD (by rw [part_len (by omega), part_len (by omega)]) (fun j hj => ?_)
    rw [part_len (by omega)] at hj
    rw [part_nth hj, part_nth hj, Nat.zero_add, (c j (by omega)).1, (s j (by omega)).1]
  · refine eq_of_getD (by rw [part_len (by omega), part_len (by omega)]) (fun j hj => ?_)
    rw [part_len (by omega)] at hj
    rw [part_nth hj, part_nth hj, (c (8 + j) (by omega)).1, (s (8 + j) (by omega)).1, show 20 + (8 + j) = 28 + j by omega]
set_option maxRecDepth 100000 in
set_option maxHeartbeats 4000000 in
theorem so_syncs (w : World) (v : Value) (ls : List (List Int)) (hR : Rw w.heap.size w v ls) (hE : ErrType w) (hpos : 0 < w.heap.size) :
    Calls Tryd.prog 5 #[v] w (OkT w) := by
  have HR := Lib.hid hR
  have HE := Lib.hid hE
  have HP := Lib.hid hpos
  clear hR hE hpos
  go_enter Tryd.func5, Tryd.ntmps5
  go_wp2_with (first
    | (go_at_call 7; (with_reducible refine useC (so_fact _ HE.out HP.out) ?_); rintro e w1 ⟨rfl, hf⟩; have HF1 := Lib.hid hf; have HR1 : Hid (Rw w1.heap.size w1 v ls) := (HR.out.mono1 hf); clear hf)
    | (go_at_call 14; (with_reducible refine useC (so_softened _ v ls HR1.out) ?_); rintro e w2 ⟨b, L, rfl, hs⟩; have HS := Lib.hid hs; clear hs; have HAF := Lib.hid (So.after HS.out.ok); have I1 := Lib.hid (so_Images w2 b L HS.out.disk HS.out.ok.shp.len))
    | (go_at_call 12; (with_reducible refine useC I1.out ?_); rintro e w3 ⟨v1, v2, v3, v4, g1, g2, g3, g4, rfl, hs1, hs2, hs3, hs4, hf, hg1, hg2, _⟩; have S3 := Lib.hid (HS.out.fr' hf); have A1 := Lib.hid hs1; have A2 := Lib.hid hs2; have hbl := lt_of_heap HS.out.disk; have N1 := Lib.hid (show g1 ∉ [b] by simp; omega); have N2 := Lib.hid (show g2 ∉ [b] by simp; omega); clear hs1 hs2 hs3 hs4 hf hg1 hg2 hbl; have Y1 := Lib.hid (so_Sync w3 b L 60 S3.out.disk S3.out.ok))
    | (go_at_call 9; (with_reducible refine useC Y1.out ?_); rintro e w4 ha; have he := ha.1; subst he; have S4 := Lib.hid (S3.out.ans ha (So.sync_ok S3.out.ok).1); have B1 := Lib.hid (A1.out.fr ha.2.2 N1.out); have B2 := Lib.hid (A2.out.fr ha.2.2 N2.out); clear ha; have Y2 := Lib.hid (so_Crash w4 b _ S4.out.disk S4.out.ok.shp.len))
    | (go_at_call 15; (with_reducible refine useC Y2.out ?_); rintro e w5 ha; have he := ha.1; subst he; have S5 := Lib.hid (S4.out.ans ha (So.crash_ok S4.out.ok)); have C1 := Lib.hid (B1.out.fr ha.2.2 N1.out); have C2 := Lib.hid (B2.out.fr ha.2.2 N2.out); clear ha; have I2 := Lib.hid (so_Images w5 b _ S5.out.disk S5.out.ok.shp.len))
    | (go_at_call 12; (with_reducible refine useC I2.out ?_); rintro e w6 ⟨u1, u2, u3, u4, k1, k2, k3, k4, rfl, hs1, hs2, hs3, hs4, hf, _⟩; have S6 := Lib.hid (S5.out.fr' hf); rw [HAF.out.2.1] at hs1; rw [HAF.out.2.2.1] at hs2; rw [HAF.out.2.2.2.1] at hs3; rw [HAF.out.2.2.2.2.1] at hs4; have D1 := Lib.hid (C1.out.fr hf (by simp)); have D2 := Lib.hid (C2.out.fr hf (by simp)); have E1 := Lib.hid hs1; have E2 := Lib.hid hs2; have E3 := Lib.hid hs3; have E4 := Lib.hid hs4; clear hs1 hs2 hs3 hs4 hf; have T1 := Lib.hid (ints_same w6 _ _ _ _ _ D1.out E1.out))
    | (go_at_call 16; (with_reducible refine useC T1.out ?_); rintro e w7 ⟨rfl, hd⟩; have Q7 := Lib.hid (hd.fr []); clear hd; have T2 := Lib.hid (ints_same w7 _ _ _ _ _ (D2.out.fr Q7.out (by simp)) (E2.out.fr Q7.out (by simp))))
    | (go_at_call 16; (with_reducible refine useC T2.out ?_); rintro e w8 ⟨rfl, hd⟩; have Q8 := Lib.hid (Q7.out.trans (hd.fr [])); clear hd; have T3 := Lib.hid (ints_same w8 _ _ _ _ _ (E1.out.fr Q8.out (by simp)) (E3.out.fr Q8.out (by simp))))
    | (go_at_call 16; (with_reducible refine useC T3.out ?_); rintro e w9 ⟨rfl, hd⟩; have Q9 := Lib.hid (Q8.out.trans (hd.fr [])); clear hd; have T4 := Lib.hid (ints_same w9 _ _ _ _ _ (E2.out.fr Q9.out (by simp)) (E4.out.fr Q9.out (by simp))))
    | (go_at_call 16; (with_reducible refine useC T4.out ?_); rintro e w10 ⟨rfl, hd⟩; have Q10 := Lib.hid (Q9.out.trans (hd.fr [])); clear hd; have S10 := Lib.hid (S6.out.fr' Q10.out); have Y3 := Lib.hid (so_Sync w10 b _ 60 S10.out.disk S10.out.ok))
    | (go_at_call 9; (with_reducible refine useC Y3.out ?_); rintro e w11 ha; have he := ha.1; subst he; rw [HAF.out.2.2.2.2.2]; have S11 := Lib.hid (S10.out.ans ha (So.sync_ok S10.out.ok).1); clear ha))
  go_ret
  exact ⟨rfl, HF1.out.trans S11.out.fr⟩
end Go.Proofs.YtghgbihojdjbgaaDoor
