/- The walk of PathJoin: whatever came in, the answer is true. -/
import Derived.Test.YtcghdnabajhipaaDoorPaUp
namespace Go.Proofs.YtcghdnabajhipaaDoor
open Go.RowKit

theorem slash_bytes (b : ByteArray) : ((⟨#[47]⟩ : ByteArray) ++ b).data.toList = 47 :: b.data.toList := by simp
theorem name_head {n : List UInt8} (h : Pa.IsName n) : (n ++ [47, 46, 46]).head? ≠ some 47 := by
  cases n with
  | nil => have := h.1; simp at this
  | cons b t =>
    intro e
    injection e with e
    subst e
    have := (h.2.2 47 (by simp)).1
    simp at this
set_option maxRecDepth 100000 in
set_option maxHeartbeats 4000000 in
theorem path_join (w : World) (a n b : ByteArray) (ha : a.size ≤ 140737488355328) (hn : n.size ≤ 140737488355328) (hb : b.size ≤ 140737488355000) :
    Calls Tryd.prog 5 #[.string a, .string n, .string b] w (OkT w) := by
  have HC := Lib.hid (fun W => pa_Clean a W)
  by_cases hc : (Pa.parts a.data.toList).2 = 0
  · obtain ⟨l, hl⟩ : ∃ l, Pa.parts a.data.toList = (l, 0) := ⟨_, by rw [← hc]⟩
    rw [Pa.clean_ok hl] at HC
    dsimp only at HC
    rw [show errV 0 = .nilIface from rfl] at HC
    have hsz : ((⟨#[47]⟩ : ByteArray) ++ b).size ≤ 140737488355328 := by rw [ByteArray.size_append]; show 1 + b.size ≤ _; omega
    have HJ := Lib.hid (fun W => pa_Join a ((⟨#[47]⟩ : ByteArray) ++ b) W (47 :: b.data.toList) (by rw [slash_bytes]; rfl) ha hsz)
    have HK := Lib.hid (fun W => pa_Clean ((⟨#[47]⟩ : ByteArray) ++ b) W)
    rw [slash_bytes] at HK
    have HN := Lib.hid (fun W => pa_Name n W)
    have HL := Lib.hid (fun (h : Pa.IsName n.data.toList) (h5 : a.size ≤ 50) (W : World) => by
      have hx : (47 :: (n ++ (⟨#[47, 46, 46]⟩ : ByteArray)).data.toList) = 47 :: (n.data.toList ++ [47, 46, 46]) := by
        rw [show (⟨#[47, 46, 46]⟩ : ByteArray) = ⟨([47, 46, 46] : List UInt8).toArray⟩ from rfl, str_append]
      have hsn : (n ++ (⟨#[47, 46, 46]⟩ : ByteArray)).size ≤ 140737488355328 := by
        have := h.2.1
        rw [← Lib.size_eq] at this
        rw [ByteArray.size_append]
        show n.size + 3 ≤ _
        omega
      have := pa_Join a (n ++ ⟨#[47, 46, 46]⟩) W (a.data.toList ++ 47 :: (n.data.toList ++ [47, 46, 46])) (by
        injection hx with _ hx
        rw [hx, if_neg (name_head h)]) ha hsn
      rw [Pa.clean_ok (Pa.parts_down_up hl h (by rw [← Lib.size_eq]; exact h5))] at this
      dsimp only at this
      rw [show errV 0 = .nilIface from rfl] at this
      exact this)
    clear hc hl
    generalize Pa.mk (Pa.shown l) = m at *
    have hg : ∃ (q : ByteArray) (c : Int), Pa.mk (Pa.clean (47 :: b.data.toList)).1 = q ∧ (Pa.clean (47 :: b.data.toList)).2 = c := ⟨_, _, rfl, rfl⟩
    obtain ⟨q, c, hq, hcc⟩ := hg
    rw [hq, hcc] at HJ HK
    clear hq hcc
    have hsb : b.size ≤ 140737488355328 := by omega
    go_enter Tryd.func5, Tryd.ntmps5
    go_wp2_with fail
    (refine useC (pa_fact w) ?_); rintro e w0 ⟨rfl, hF0⟩
    have HF0 := Lib.hid hF0
    clear hF0
    go_wp2_with fail
    (refine useC (HC.out w0) ?_); rintro e w1 ⟨rfl, hf⟩
    have HF1 := Lib.hid (HF0.out.trans hf)
    clear hf HC
    have hev : (errV c = .nilIface ∨ ∃ x, errV c = .iface 52 (.int .i64 x)) := by
      by_cases h : c = 0
      · subst h; exact .inl rfl
      · exact .inr ⟨c, errV_no h⟩
    have key : ∀ ev : Value, (ev = .nilIface ∨ ∃ x, ev = .iface 52 (.int .i64 x)) → errV c = ev → True := fun _ _ _ => trivial
    clear key
    have hnm : (decide (Pa.IsName n.data.toList) = false) ∨ (decide (Pa.IsName n.data.toList) = true ∧ ¬ a.size ≤ 50) ∨ (Pa.IsName n.data.toList ∧ a.size ≤ 50) := by
      by_cases h : Pa.IsName n.data.toList
      · by_cases h5 : a.size ≤ 50
        · exact .inr (.inr ⟨h, h5⟩)
        · exact .inr (.inl ⟨decide_eq_true h, h5⟩)
      · exact .inl (decide_eq_false h)
    generalize errV c = ev at *
    rcases hev with rfl | ⟨x, rfl⟩
    all_goals
      go_wp2_with (first
        | (go_at_call 17; (with_reducible refine useC (HJ.out w1) ?_); rintro e w2 ⟨rfl, hf⟩; have HF2 := Lib.hid (HF1.out.trans hf); clear hf)
        | (go_at_call 13; (with_reducible refine useC (HK.out w2) ?_); rintro e w3 ⟨rfl, hf⟩; have HF3 := Lib.hid (HF2.out.trans hf); clear hf))
      (refine wp_region_mixq 8 [(true, 0), (true, 1), (true, 2), (true, 3), (true, 4), (true, 5), (true, 6), (true, 7)] (by kernel_rfl) (by kernel_rfl) ?_; simp only [pickOps, List.map_cons, List.map_nil, List.getD_cons_zero, List.getD_cons_succ, List.drop_succ_cons, List.drop_zero]; (iterate 8 (first | (refine wpMix_take (v := ?_) (by rfl) ?_ ?_; rotate_left; (focus (intro W hW; subst hW; go_simp; (try with_reducible rfl); done)); try simp only [Act.put, List.setIfInBounds_toArray, List.set_cons_zero, List.set_cons_succ]) | (refine wpMix_leave (by rfl) ?_; try simp only [Act.put, List.setIfInBounds_toArray, List.set_cons_zero, List.set_cons_succ]))); refine wpMix_nil ?_)
      go_wp2_with fail
      (refine useC (HN.out _) ?_); rintro e w4 ⟨rfl, hf⟩
      have HF4 := Lib.hid ((HF3.out.step (Fr.refl [] w3).drew (by simp)).trans hf)
      clear hf HN HJ HK HF0 HF1 HF2 HF3
      rcases hnm with h | ⟨h, h5⟩ | ⟨h, h5⟩
      · rw [h]
        go_wp2
        go_ret
        exact ⟨rfl, HF4.out⟩
      · have hI : (50 : Int) < a.size := by omega
        rw [h]
        clear h h5
        go_wp2
        go_ret
        exact ⟨rfl, HF4.out⟩
      · have hI : ¬ (50 : Int) < a.size := by omega
        have HLL := Lib.hid (HL.out h h5 w4)
        rw [decide_eq_true h]
        clear h HL
        go_wp2_with (go_at_call 17; (with_reducible refine useC HLL.out ?_); rintro e w5 ⟨rfl, hf⟩; have HF5 := Lib.hid (HF4.out.trans hf); clear hf)
        go_ret
        exact ⟨rfl, HF5.out⟩
  · rw [Pa.clean_err hc] at HC
    dsimp only at HC
    rw [errV_no hc] at HC
    generalize (Pa.parts a.data.toList).2 = c at *
    generalize Pa.mk [] = m at *
    go_enter Tryd.func5, Tryd.ntmps5
    go_wp2_with fail
    (refine useC (pa_fact w) ?_); rintro e w0 ⟨rfl, hF0⟩
    have HF0 := Lib.hid hF0
    clear hF0
    go_wp2_with fail
    (refine useC (HC.out w0) ?_); rintro e w1 ⟨rfl, hf⟩
    have HF1 := Lib.hid (HF0.out.trans hf)
    clear hf HC
    go_wp2
    go_ret
    exact ⟨rfl, HF1.out⟩
end Go.Proofs.YtcghdnabajhipaaDoor
