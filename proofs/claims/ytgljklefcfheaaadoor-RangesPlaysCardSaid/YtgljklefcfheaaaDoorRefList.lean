/- The contract of the reference's Locks: List. -/
import Derived.Test.YtgljklefcfheaaaDoorRefFill
import Derived.Test.YtgljklefcfheaaaDoorRaRefP
import Derived.Test.YtgljklefcfheaaaDoorRaWalk2
namespace Go.Proofs.YtgljklefcfheaaaDoor
open Go.RowKit

/-- What the rounds know: so far the list is the document's. -/
def RlI (T : List Int) (wB wr : World) (u : Value) (i : Nat) : Prop := ∃ k p l, k ≤ 4 ∧ p < 64 ∧ (k = 4 → p = 0) ∧ i = 64 * k + p ∧ Ra.Ref T k p l ∧ OwnR lkE wr wB.heap.size 29 u (Ra.listTo T k ++ l) ∧ Fr [] wB wr
theorem RlI.next {T : List Int} {wB w' : World} {u : Value} {k p : Nat} {l : List Ra.Lk} (hk : k < 4) (hp : p < 64) (hr : Ra.Ref T k (p + 1) l) (ho : OwnR lkE w' wB.heap.size 29 u (Ra.listTo T k ++ l)) (hf : Fr [] wB w') : RlI T wB w' u (64 * k + p + 1) := by
  by_cases h : p + 1 = 64
  · rw [h] at hr
    have hl := hr.all
    refine ⟨k + 1, 0, [], by omega, by omega, fun _ => rfl, by omega, Ra.Ref.zero T _, ?_, hf⟩
    rw [List.append_nil]
    show OwnR lkE w' _ _ u (Ra.listTo T k ++ Ra.rowTo T k 64)
    rw [← hl]
    exact ho
  · exact ⟨k, p + 1, l, by omega, by omega, fun e => by omega, by omega, hr, ho, hf⟩
theorem RlI.step {T : List Int} {wB wr w' : World} {u : Value} {i : Nat} (h : RlI T wB wr u i) (hf : Fr [] wr w') : RlI T wB w' u i := by
  obtain ⟨k, p, l, h1, h2, h3, h4, h5, h6, h7⟩ := h
  exact ⟨k, p, l, h1, h2, h3, h4, h5, h6.kept hf (by simp), h7.trans hf⟩
/-- What List hands back. -/
def RlAns (l : List Ra.Lk) (w : World) (e : Ending) (w' : World) : Prop := ∃ v g, e = .returned v ∧ SlR lkE w' v g l ∧ Fr [] w w'
set_option maxRecDepth 100000 in
set_option maxHeartbeats 2000000 in
theorem ref_List (w : World) (v : Value) (g : Nat) (T : List Int) (hS : Sl w v g T) (hT : Ra.Tab T) :
    Calls Tryd.prog 26 #[.agg #[v]] w (RlAns (Ra.locks T) w) := by
  have hl := hT.1
  obtain ⟨A, so, c, rfl, -, hA, hc⟩ := hS.form
  obtain rfl := hA (by omega)
  rw [hl]
  have HF : Hid (Fr [] w (w.alloc (.cells #[.slice (some ⟨g, so, none⟩) 256 c] 47))) := (Fr.refl _ _).alloc _
  have HB : Hid (RkX (w.alloc (.cells #[.slice (some ⟨g, so, none⟩) 256 c] 47)) w.heap.size (.slice (some ⟨g, so, none⟩) 256 c)) := heap_alloc_new w _
  have HC := Lib.hid (fun W (hW : Fr [] (w.alloc (.cells #[.slice (some ⟨g, so, none⟩) 256 c] 47)) W) (i : Nat) (hi : i < 256) => (HF.out.trans hW).cell (hc i (by rw [hl]; exact hi)) (by simp))
  have HT := Lib.hid hT
  clear hS hA hc hl hT
  go_enter Tryd.func26, Tryd.ntmps26
  go_wp2_with fail
  generalize hW : (w.alloc (.cells #[.slice (some ⟨g, so, none⟩) 256 c] 47)) = wB at *
  clear hW
  generalize w.heap.size = X at *
  have HI0 : Hid (RlI T wB wB (.slice none 0 0) 0) := ⟨0, 0, [], by omega, by omega, fun _ => rfl, rfl, Ra.Ref.zero T 0, OwnR.nil, Fr.refl _ _⟩
  go_loopw [3, 4] (fun u i wr => ∃ k : Nat, k ≤ 256 ∧ i = .int .i64 k ∧ Hid (RlI T wB wr u k)) (fun _ i _ => 256 - (intOf i).toNat)
  case atStart => exact ⟨0, Nat.zero_le _, rfl, HI0⟩
  case round =>
    clear HI0
    obtain ⟨i, hi, rfl, hI⟩ := hrel
    obtain ⟨k, p, l, hk4, hp, hkp, hikp, hRf, hOw, hFr⟩ := hI.out
    have b0 := RkX.cell (hFr.get HB.out (by simp))
    by_cases hlt : i < 256
    · have iI : (i : Int) < 256 := by omega
      have i0 : (0 : Int) ≤ i := by omega
      have hk : k < 4 := by omega
      have q0 := HC.out wr hFr i hlt
      have hst : Ra.st T k p = nth T i := by unfold Ra.st; rw [hikp]
      have HRF := Lib.hid hRf
      have HOW := Lib.hid hOw
      have HFR := Lib.hid hFr
      have HKP := Lib.hid (And.intro hk (And.intro hp hikp))
      have hm : (i : Int) % 64 = p := by omega
      have hmt : Int.tmod i 64 = p := by rw [Int.tmod_eq_emod_of_nonneg (by omega)]; exact hm
      have hd : (i : Int) / 64 = k := by omega
      have hdt : Int.tdiv i 64 = k := by rw [Int.tdiv_eq_ediv_of_nonneg (by omega)]; exact hd
      have HST := Lib.hid hst
      have hlen : (Ra.listTo T k ++ l).length < 1000000 := by
        rw [List.length_append, HRF.out.len]
        have := Ra.listTo_len T k
        have := Ra.rowTo_len T k p
        omega
      clear hRf hOw hFr hI hikp
      by_cases h0 : nth T i = 0
      · have hb0 : (nth T i == 0) = true := by simpa using h0
        have HN := Lib.hid (RlI.next hk hp (HRF.out.free hp (by rw [HST.out]; exact h0)) HOW.out HFR.out)
        rw [← HKP.out.2.2] at HN
        clear hst h0
        generalize nth T i = y at *
        go_wp2
        go_roundw
        case rel => exact ⟨i + 1, by omega, by go_num, HN⟩
        case measure => (simp [intOf]; try omega)
      · have hb0 : (nth T i == 0) = false := by simpa using h0
        by_cases hpr : 0 < p ∧ Ra.st T k (p - 1) = nth T i
        · have q1 := HC.out wr HFR.out (i - 1) (by omega)
          have hp1 : nth T (i - 1) = Ra.st T k (p - 1) := by unfold Ra.st; rw [show 64 * k + (p - 1) = i - 1 by have := HKP.out.2.2; omega]
          have hbe : (nth T (i - 1) == nth T i) = true := by rw [hp1]; simpa using hpr.2
          have hpI : (0 : Int) < p := by omega
          have hi1 : ((i - 1 : Nat) : Int) = (i : Int) - 1 := by have := HKP.out.2.2; omega
          have HN := Lib.hid (RlI.next hk hp (HRF.out.more hp (by rw [HST.out]; exact h0) hpr.1 (by rw [HST.out]; exact hpr.2)) HOW.out HFR.out)
          rw [← HKP.out.2.2] at HN
          obtain ⟨i1, hii⟩ : ∃ i1 : Nat, i = i1 + 1 := ⟨i - 1, by have := HKP.out.2.2; omega⟩
          have hwi : IntKind.i64.wrap ((i : Int) - 1) = ((i - 1 : Nat) : Int) := by rw [IntKind.wrap_i64]; omega
          have hi2 : ((i - 1 : Nat) : Int) < 256 := by omega
          clear hst h0 hpr hp1 hii hi1
          generalize nth T i = y at *
          generalize nth T (i - 1) = y1 at *
          go_wp2
          go_roundw
          case rel => exact ⟨i + 1, by omega, by go_num, HN⟩
          case measure => (simp [intOf]; try omega)
        · have hcond : ¬ (0 : Int) < p ∨ ((0 : Int) < p ∧ (nth T (i - 1) == nth T i) = false) := by
            by_cases h : 0 < p
            · refine .inr ⟨by omega, ?_⟩
              have hp1 : nth T (i - 1) = Ra.st T k (p - 1) := by unfold Ra.st; rw [show 64 * k + (p - 1) = i - 1 by have := HKP.out.2.2; omega]
              rw [hp1]
              have : ¬ Ra.st T k (p - 1) = nth T i := fun e => hpr ⟨h, e⟩
              simpa using this
            · exact .inl (by omega)
          have HST0 : Hid (p = 0 ∨ Ra.st T k (p - 1) ≠ Ra.st T k p) := by
            by_cases h : 0 < p
            · exact .inr (fun e => hpr ⟨h, by rw [e]; exact hst⟩)
            · exact .inl (by omega)
          have HSN : Hid (Ra.st T k p ≠ 0) := by show _ ≠ _; rw [hst]; exact h0
          have q1 := HC.out wr HFR.out (i - 1) (by omega)
          have hwi : IntKind.i64.wrap ((i : Int) - 1) = (i : Int) - 1 := by rw [IntKind.wrap_i64]; omega
          obtain ⟨b2, hb2⟩ : ∃ b2 : Bool, b2 = decide (nth T i = 2) := ⟨_, rfl⟩
          have hbb : (nth T i == 2) = b2 := by
            rw [hb2]
            by_cases h : nth T i = 2
            · rw [h]; rfl
            · rw [decide_eq_false h]; simpa using h
          have HB2 : Hid (b2 = decide (Ra.st T k p = 2)) := by show _ = _; rw [hst]; exact hb2
          have HNX := Lib.hid (fun m (hr : Ra.Run T k p m) u w' (ho : OwnR lkE w' wB.heap.size 29 u (Ra.listTo T k ++ l ++ [(k, p, m, b2)])) (hf : Fr [] wB w') => RlI.next hk hp (HRF.out.start hp HSN.out HST0.out hr) (by rw [← HB2.out, ← List.append_assoc]; exact ho) hf)
          have HCS := Lib.hid (fun m (hm : p + m < 64) => And.intro (HC.out wr HFR.out (i + m) (by have := HKP.out.2.2; omega)) (show nth T (i + m) = Ra.st T k (p + m) by unfold Ra.st; rw [← Nat.add_assoc, ← HKP.out.2.2]))
          have HS0 : Hid (∀ q, p ≤ q → q < p + 1 → Ra.st T k q = Ra.st T k p) := fun q h1 h2 => by rw [show q = p by omega]
          rw [← HKP.out.2.2] at HNX
          generalize hyy : nth T i = y at *
          have HYY := Lib.hid hyy
          generalize nth T (i - 1) = y1 at *
          have hi1 : 0 < p → ((i - 1 : Nat) : Int) = (i : Int) - 1 := fun h => by have := HKP.out.2.2; omega
          rcases hcond with hcond | ⟨hcond, hbe⟩
          all_goals
            clear hst h0 hpr hyy hb2
            go_wp2_with fail
            clear q1
            go_loop [6] (fun n => ∃ m : Nat, 1 ≤ m ∧ p + m ≤ 64 ∧ n = .int .i64 m ∧ Hid (∀ q, p ≤ q → q < p + m → Ra.st T k q = Ra.st T k p)) (fun n => 64 - (intOf n).toNat)
            case atStart => exact ⟨1, Nat.le_refl _, by omega, rfl, HS0⟩
            case round =>
              clear HS0
              obtain ⟨m, hm1, hm64, rfl, hs⟩ := hrel
              have hwm : IntKind.i64.wrap ((i : Int) + (m : Int)) = (i : Int) + (m : Int) := by rw [IntKind.wrap_i64]; omega
              by_cases hpm : p + m < 64
              · have hr1 : ((i : Int) + (m : Int)) % 64 = (p : Int) + m := by have := HKP.out.2.2; omega
                have hr2 : Int.tmod ((i : Int) + (m : Int)) 64 = (p : Int) + m := by rw [Int.tmod_eq_emod_of_nonneg (by omega)]; exact hr1
                have hr3 : (((p : Int) + m) != 0) = true := by simp; omega
                have him : ((i : Int) + (m : Int)) < 256 := by have := HKP.out.2.2; omega
                obtain ⟨qm, hqm⟩ := HCS.out m hpm
                by_cases heq : nth T (i + m) = y
                · have hbe2 : (nth T (i + m) == y) = true := by simpa using heq
                  have HSX : Hid (∀ q, p ≤ q → q < p + (m + 1) → Ra.st T k q = Ra.st T k p) := fun q h1 h2 => by
                    by_cases h : q = p + m
                    · rw [h, ← hqm, heq, HST.out]
                    · exact hs.out q h1 (by omega)
                  clear heq hqm hs
                  generalize nth T (i + m) = z at *
                  go_wp2
                  go_round
                  case rel => exact ⟨m + 1, by omega, by omega, by go_num, HSX⟩
                  case measure => (simp [intOf]; try omega)
                · have hbe2 : (nth T (i + m) == y) = false := by simpa using heq
                  have HRN : Hid (Ra.Run T k p m) := ⟨hm1, hm64, hs.out, .inr (fun e => heq (by rw [hqm, e, HST.out]))⟩
                  clear heq hqm hs
                  generalize nth T (i + m) = z at *
                  go_wp2_with (at_builtin; refine wpList_push_enc (E := lkE) (y := (k, p, m, b2)) (wr := wr) Tryd.underlying24 Tryd.info_lock rfl (by decide) rfl _ _ rfl wB.heap.size _ _ rfl rfl HOW.out rfl hlen HFR.out.size ?_; intro v6 w6 h1 _ hb6; have HN := Lib.hid (HNX.out m HRN.out v6 w6 h1 (HFR.out.below_step hb6 (Nat.le_refl _))); clear h1 hb6)
                  go_roundw
                  case rel => exact ⟨i + 1, by omega, by go_num, HN⟩
                  case measure => (simp [intOf]; try omega)
              · have hr1 : ((i : Int) + (m : Int)) % 64 = 0 := by have := HKP.out.2.2; omega
                have hr2 : Int.tmod ((i : Int) + (m : Int)) 64 = 0 := by rw [Int.tmod_eq_emod_of_nonneg (by omega)]; exact hr1
                have HRN : Hid (Ra.Run T k p m) := ⟨hm1, hm64, hs.out, .inl (by omega)⟩
                clear hs
                go_wp2_with (at_builtin; refine wpList_push_enc (E := lkE) (y := (k, p, m, b2)) (wr := wr) Tryd.underlying24 Tryd.info_lock rfl (by decide) rfl _ _ rfl wB.heap.size _ _ rfl rfl HOW.out rfl hlen HFR.out.size ?_; intro v6 w6 h1 _ hb6; have HN := Lib.hid (HNX.out m HRN.out v6 w6 h1 (HFR.out.below_step hb6 (Nat.le_refl _))); clear h1 hb6)
                go_roundw
                case rel => exact ⟨i + 1, by omega, by go_num, HN⟩
                case measure => (simp [intOf]; try omega)
    · have iI : ¬ (i : Int) < 256 := by omega
      have h4 : k = 4 := by omega
      have hp0 := hkp h4
      subst h4 hp0
      have hl0 : l = [] := hRf.close (fun _ => .inl rfl) (by omega)
      subst hl0
      rw [List.append_nil] at hOw
      obtain ⟨gz, -, hz⟩ := hOw.sl
      have HZ := Lib.hid hz
      have HFZ := Lib.hid (HF.out.trans hFr)
      clear hI hRf hOw hFr hz
      go_wp2
      go_ret
      exact ⟨_, gz, rfl, HZ.out, HFZ.out⟩
end Go.Proofs.YtgljklefcfheaaaDoor
