/- The walk of CowShared: whatever came in, the answer is true. -/
import Derived.Test.YtbedfffmicbgmaaCoLaw
namespace Go.Proofs.Ytbedfffmicbgmaa
open Go.RowKit

theorem Co.putErr_has {st : List Ct} {v k x : Int} (h : Co.putErr st v k x = 0) : Co.has st v := by
  unfold Co.putErr at h
  split at h
  · assumption
  · cases h
theorem coShared_of {st : List Ct} {a b : Int} (ha : Co.has st a) (hb : Co.has st b) : coShared st a b = .tuple #[.int .i64 (Co.shared (Co.tree st a) (Co.tree st b) : Int), .nilIface] := if_pos ⟨ha, hb⟩
set_option maxRecDepth 100000 in
set_option maxHeartbeats 4000000 in
theorem cowShared_walk (w : World) (v : Value) (ls : List (List Int)) (ver key val : Int) (hR : Rw w.heap.size w v ls) :
    Calls Try.prog 4 #[v, .int .i64 ver, .int .i64 key, .int .i64 val] w (OkT w) := by
  have HR := Lib.hid hR
  clear hR
  go_enter Try.func4, Try.ntmps4
  go_wp2_with fail
  (refine useC (co_fact w) ?_); rintro e w0 ⟨rfl, hF0⟩
  have HF0 := Lib.hid hF0
  clear hF0
  go_wp2_with fail
  (refine useC (co_stored w0 v ls (HR.out.mono1 HF0.out)) ?_); rintro e w1 ⟨sb, st, rfl, hl⟩
  have HL1 : Hid (CoL w0 w1 sb st) := hl
  clear hl
  go_wp2_with fail
  (refine useC (co_Put w0 w1 sb st ver key val HL1.out) ?_); rintro e w2 ⟨r, c, st', rfl, hl, hk, hc, hcase⟩
  have HL2 : Hid (CoL w0 w2 sb st') := hl
  clear hl
  rcases hcase with ⟨hc0, rfl, N, hN, rfl⟩ | ⟨hc0, rfl, rfl⟩
  · rw [hc0] at hc ⊢
    have hv := Co.putErr_has hc.symm
    obtain ⟨h1, h2, h3, h4, h5⟩ := Co.shared_law (((HL1.out.s.ok.apt _ (Co.tree_mem hv))).mono hN) key val _ rfl
    have hn := Co.has_new (st := st) (Co.put (Co.tree st ver) N key val)
    have ho := Co.has_old hv (Co.put (Co.tree st ver) N key val)
    have eo := Co.tree_old hv (Co.put (Co.tree st ver) N key val)
    have en := Co.tree_new st (Co.put (Co.tree st ver) N key val)
    have so := coShared_of ho hn
    have so' := coShared_of hn ho
    have so'' := coShared_of hn hn
    rw [eo, en, ← h1] at so'
    rw [eo, en] at so
    rw [en, h2] at so''
    have HKA := Lib.hid (fun W (hW : Fr [] w2 W) => co_KeysB w0 W sb _ ver (HL2.out.step hW) ho)
    have HKB := Lib.hid (fun W (hW : Fr [] w2 W) => co_KeysB w0 W sb _ st.length (HL2.out.step hW) hn)
    have HS1 := Lib.hid (fun W (hW : Fr [] w2 W) => so ▸ co_shared W _ sb _ ver st.length (HL2.out.step hW).s)
    have HS2 := Lib.hid (fun W (hW : Fr [] w2 W) => so' ▸ co_shared W _ sb _ st.length ver (HL2.out.step hW).s)
    have HS3 := Lib.hid (fun W (hW : Fr [] w2 W) => so'' ▸ co_shared W _ sb _ st.length st.length (HL2.out.step hW).s)
    unfold CoKeysB at HKA HKB
    rw [eo] at HKA
    rw [en] at HKB
    generalize Co.shared (Co.tree st ver) (Co.put (Co.tree st ver) N key val) = s at *
    generalize Co.keys (Co.put (Co.tree st ver) N key val) = kb at *
    generalize Co.keys (Co.tree st ver) = ka at *
    have i3 : (s : Int) < kb.length := by omega
    have i4 : (s : Int) ≤ ka.length := by omega
    have i5 : (ka.length : Int) = 0 ∨ (s : Int) < ka.length := by omega
    clear h1 h2 h3 h4 h5 hn ho eo en so so' so'' hv hc hc0 hk hN
    generalize st ++ [Co.put (Co.tree st ver) N key val] = st2 at *
    have HF2 := Lib.hid (Fr.refl [] w2)
    rw [show errV 0 = .nilIface from rfl]
    have hcase : ((ka.length : Int) == 0) = true ∨ (((ka.length : Int) == 0) = false ∧ (s : Int) < ka.length) := by
      by_cases h : (ka.length : Int) = 0
      · exact .inl (by rw [h]; rfl)
      · exact .inr ⟨beq_eq_false_iff_ne.2 h, i5.resolve_left h⟩
    clear i5
    go_wp2_with fail
    (refine useC (HKA.out w2 HF2.out) ?_); rintro e w3 ⟨A3, c3, g3, rfl, -, -, -, -, hf⟩
    have HF3 := Lib.hid (HF2.out.trans hf); clear hf
    go_wp2_with fail
    (refine useC (HKB.out w3 HF3.out) ?_); rintro e w4 ⟨A4, c4, g4, rfl, -, -, -, -, hf⟩
    have HF4 := Lib.hid (HF3.out.trans hf); clear hf
    go_wp2_with fail
    (refine useC (HS1.out w4 HF4.out) ?_); rintro e w5 ⟨rfl, hf⟩
    have HF5 := Lib.hid (HF4.out.trans hf); clear hf
    go_wp2_with fail
    (refine useC (HS2.out w5 HF5.out) ?_); rintro e w6 ⟨rfl, hf⟩
    have HF6 := Lib.hid (HF5.out.trans hf); clear hf
    go_wp2_with fail
    (refine useC (HS3.out w6 HF6.out) ?_); rintro e w7 ⟨rfl, hf⟩
    have HF7 := Lib.hid (HF6.out.trans hf); clear hf
    have HF := Lib.hid (HF0.out.trans (HL2.out.fr.trans HF7.out))
    clear HKA HKB HS1 HS2 HS3 HF0 HL1 HL2 HF2 HF3 HF4 HF5 HF6 HF7 HR
    rcases hcase with h | ⟨h, h'⟩
    all_goals
      go_wp2
      go_ret
      exact ⟨rfl, HF.out⟩
  · rw [errV_no hc0]
    clear hk hc hc0
    go_wp2
    go_ret
    exact ⟨rfl, HF0.out.trans HL2.out.fr⟩
end Go.Proofs.Ytbedfffmicbgmaa
