/- The contracts of package fsck's functions: Check; of core.Set's Add; how entries and images lie. -/
import Derived.Test.YtbohlbnbaomkiaaFkPlain
import Derived.Test.YtbohlbnbaomkiaaEnc
import Derived.Test.YtbohlbnbaomkiaaSet
import Derived.Test.YtbohlbnbaomkiaaCAll
import Derived.Test.YtbohlbnbaomkiaaCIdx
import Derived.Test.YtbohlbnbaomkiaaCopy
namespace Go.Proofs.Ytbohlbnbaomkiaa
open Go.RowKit

/-- How an entry lies in cells. -/
def enE : Enc (Int × Int) where
  k := 2
  enc := fun x => [.int .i64 x.1, .int .i64 x.2]
  len := fun _ => rfl
  one := fun a v hv => by
    simp only [List.mem_cons, List.not_mem_nil, or_false] at hv
    rcases hv with rfl | rfl <;> rfl
  pos := by decide
theorem Try.info_ent : (Try.prog.info? 36).map (fun i => (i.zero, i.size, i.bytes)) = some (some (.agg #[.int .i64 0, .int .i64 0]), enE.k, 16) := by kernel_rfl
theorem SlR.formE {w : World} {v : Value} {g : Nat} {E : List (Int × Int)} (h : SlR enE w v g E) : ∃ (A : Option Addr) (o c : Nat), v = .slice A E.length c ∧ E.length ≤ 9223372036854775807 ∧ (0 < E.length → A = some ⟨g, o, none⟩) ∧
    ∀ k, k < E.length → w.cell? ⟨g, o + k * 2, none⟩ = some (.int .i64 (entN E k)) ∧ w.cell? ⟨g, o + k * 2 + 1, none⟩ = some (.int .i64 (entI E k)) := by
  obtain ⟨A, o, c, h1, h2, h3, h4⟩ := h.form
  refine ⟨A, o, c, h1, h2, h3, fun k hk => ?_⟩
  have e0 := h4 k hk 0 (by decide)
  have e1 := h4 k hk 1 (by decide)
  have x : E.getD k (0, 0) = E[k] := by simp [List.getD, hk]
  unfold entN entI
  rw [x]
  exact ⟨e0, e1⟩
/-- An image's value, and what it reads as. -/
def ImV (w : World) (v : Value) (C : List Int) (E : List (Int × Int)) : Prop := ∃ c e g1 g2, v = .agg #[c, e] ∧ Sl w c g1 C ∧ SlR enE w e g2 E
theorem ImV.fr {w w' : World} {v : Value} {C : List Int} {E : List (Int × Int)} (h : ImV w v C E) (hf : Fr [] w w') : ImV w' v C E := by
  obtain ⟨c, e, g1, g2, h0, h1, h2⟩ := h
  exact ⟨c, e, g1, g2, h0, h1.fr hf (by simp), h2.fr hf (by simp)⟩
/-- A variable of type api.Image. -/
def Im2 (w : World) (B : Nat) (c e : Value) : Prop := w.heap[B]? = some (.cells #[c, e] 25 (0, 0))
theorem Im2.cells {w : World} {B : Nat} {c e : Value} (h : Im2 w B c e) : w.cell? ⟨B, 0, none⟩ = some c ∧ w.cell? ⟨B, 1, none⟩ = some e := by
  constructor <;> rw [cell_of_row w B _ _ _ _ h] <;> rfl
theorem im2_new (w : World) (c e : Value) : Im2 (w.alloc (.cells #[c, e] 25)) w.heap.size c e := heap_alloc_new w _

theorem zero_bool (w : World) : (zeroValue 4).run Try.prog w = .ok (.bool false) w := by kernel_rfl
/-- A set of the program's own. -/
abbrev St (w : World) (b n : Nat) (L : List Int) : Prop := SetI Try.prog 3 4 w b n L
theorem set_Add (w : World) (b n : Nat) (L : List Int) (x : Int) (h : St w b n L) (hx : I64 x) (hn : n < 1000000) :
    Calls Try.prog 26 #[.map (some b), .int .i64 x] w fun e w' => e = .returned (.bool (!hasB L x)) ∧ St w' b (n + 1) (L ++ [x]) ∧ Fr [b] w w' := by
  have H := Lib.hid h
  have HX := Lib.hid hx
  have hn' : n < maxLen := by unfold maxLen; omega
  clear h hx
  go_enter Try.func26, Try.ntmps26
  go_wp2_with (first
    | (at_lookup; refine wpList_lookup_set rfl _ _ rfl H.out Try.underlying3 Try.underlying4 Try.underlying54 (zero_bool _) rfl _ rfl HX.out ?_)
    | (at_mapUpdate; refine wpList_update_set rfl _ _ _ rfl H.out Try.underlying3 Try.underlying4 Try.underlying54 hn' rfl _ rfl rfl HX.out ?_; intro w1 h1 h2; have H1 := Lib.hid h1; have H2 := Lib.hid h2; clear h1 h2))
  go_ret
  exact ⟨rfl, H1.out, H2.out⟩

namespace Fk
def goodE (x : Int × Int) : Bool := decide (0 ≤ x.1 ∧ x.1 ≤ 1000) && decide (0 ≤ x.2 ∧ x.2 ≤ 1000)
theorem okE_cut {E : List (Int × Int)} {k : Nat} (hk : k < E.length) (h : (decide (0 ≤ entN E k ∧ entN E k ≤ 1000) && decide (0 ≤ entI E k ∧ entI E k ≤ 1000)) = false) : okE E = false := by
  unfold okE
  rw [List.all_eq_false]
  refine ⟨E[k], List.getElem_mem _, ?_⟩
  unfold entN entI at h
  rw [show E.getD k (0, 0) = E[k] by simp [List.getD, hk]] at h
  rw [h]; decide
theorem okE_full {E : List (Int × Int)} (h : ∀ k, k < E.length → (decide (0 ≤ entN E k ∧ entN E k ≤ 1000) && decide (0 ≤ entI E k ∧ entI E k ≤ 1000)) = true) : okE E = true := by
  unfold okE
  rw [List.all_eq_true]
  intro x hx
  obtain ⟨k, hk, rfl⟩ := List.getElem_of_mem hx
  have := h k hk
  unfold entN entI at this
  rwa [show E.getD k (0, 0) = E[k] by simp [List.getD, hk]] at this
theorem okC_allIn (C : List Int) : okC C = allIn C 0 1000 := rfl
end Fk
set_option maxRecDepth 100000 in
set_option maxHeartbeats 1000000 in
theorem fk_Check (w : World) (v : Value) (C : List Int) (E : List (Int × Int)) (hv : ImV w v C E) :
    Calls Try.prog 25 #[v] w fun e w' => e = .returned (errV (Fk.check C E)) ∧ Fr [] w w' := by
  obtain ⟨c, e, g1, g2, rfl, hC, hE⟩ := hv
  obtain ⟨A1, o1, c1, rfl, m1, hA1, hc1⟩ := hC.form
  obtain ⟨A2, o2, c2, rfl, m2, hA2, hc2⟩ := hE.formE
  have HC := Lib.hid (fun W (hW : Fr [] w W) => hC.fr hW (by simp))
  have HA2 := Lib.hid hA2
  have HE := Lib.hid (fun W (hW : Fr [] w W) k (hk : k < E.length) => And.intro (hW.cell (hc2 k hk).1 (by simp)) (hW.cell (hc2 k hk).2 (by simp)))
  have HF : Hid (Fr [] w (w.alloc (.cells #[.slice A1 C.length c1, .slice A2 E.length c2] 25))) := (Fr.refl _ _).alloc _
  have HB := Lib.hid (im2_new w (.slice A1 C.length c1) (.slice A2 E.length c2))
  obtain ⟨d0, d1⟩ := HB.out.cells
  clear hC hE hA1 hc1 hA2 hc2
  by_cases h8 : C.length ≤ 8
  · have h8' : ¬ (8 : Int) < C.length := by omega
    by_cases h12 : E.length ≤ 12
    · have h12' : ¬ (12 : Int) < E.length := by omega
      cases hoc : allIn C 0 1000 with
      | false =>
        have er := Lib.hid (show Fk.check C E = 1 from by unfold Fk.check; rw [if_pos ⟨h8, h12⟩, Fk.okC_allIn, hoc]; rfl)
        have HO := Lib.hid hoc
        clear hoc
        go_enter Try.func25, Try.ntmps25
        go_wp2_with (go_at_call 33; (with_reducible refine useC (all_any _ _ _ _ _ _ (HC.out _ HF.out)) ?_); rw [HO.out]; rintro e w2 ⟨rfl, rfl⟩)
        go_ret
        exact ⟨by rw [er.out]; rfl, HF.out⟩
      | true =>
        have HO := Lib.hid hoc
        have er0 := Lib.hid (show Fk.check C E = if Fk.okE E then 0 else 1 from by unfold Fk.check; rw [if_pos ⟨h8, h12⟩, Fk.okC_allIn, hoc]; rfl)
        clear hoc
        go_enter Try.func25, Try.ntmps25
        go_wp2_with (go_at_call 33; (with_reducible refine useC (all_any _ _ _ _ _ _ (HC.out _ HF.out)) ?_); rw [HO.out]; rintro e w2 ⟨rfl, rfl⟩)
        go_loopw [24] (fun i wr => ∃ k : Nat, k ≤ E.length ∧ i = .int .i64 k ∧ Hid (∀ j, j < k → (decide (0 ≤ entN E j ∧ entN E j ≤ 1000) && decide (0 ≤ entI E j ∧ entI E j ≤ 1000)) = true) ∧ Hid (Fr [] w wr)) (fun i _ => E.length - (intOf i).toNat)
        case atStart => exact ⟨0, Nat.zero_le _, rfl, fun j hj => absurd hj (Nat.not_lt_zero _), HF⟩
        case round =>
          obtain ⟨k, hk, rfl, hs, hF⟩ := hrel
          by_cases hlt : k < E.length
          · obtain rfl := HA2.out (by omega)
            obtain ⟨q0, q1⟩ := HE.out wr hF.out k hlt
            have hcut := Lib.hid (fun h => Fk.okE_cut (E := E) hlt h)
            have hstep : Hid ((decide (0 ≤ entN E k ∧ entN E k ≤ 1000) && decide (0 ≤ entI E k ∧ entI E k ≤ 1000)) = true → ∀ j, j < k + 1 → (decide (0 ≤ entN E j ∧ entN E j ≤ 1000) && decide (0 ≤ entI E j ∧ entI E j ≤ 1000)) = true) := fun h j hj => by
              by_cases e : j = k
              · subst e; exact h
              · exact hs.out j (by omega)
            generalize entN E k = x at *
            generalize entI E k = y at *
            cases e1 : decide (0 ≤ x ∧ x ≤ 1000) with
            | false =>
              have er := Lib.hid (show Fk.check C E = 1 from by rw [er0.out, hcut.out (by rw [e1]; rfl)]; rfl)
              clear hcut hstep
              go_wp2_with (first
                | (go_at_call 34; (with_reducible refine useC (within_is _ _ _ false _ e1) ?_); rintro e w2 ⟨rfl, rfl⟩))
              go_ret
              exact ⟨by rw [er.out]; rfl, hF.out.alloc _⟩
            | true =>
              cases e2 : decide (0 ≤ y ∧ y ≤ 1000) with
              | false =>
                have er := Lib.hid (show Fk.check C E = 1 from by rw [er0.out, hcut.out (by rw [e1, e2]; rfl)]; rfl)
                clear hcut hstep
                go_wp2_with (first
                  | (go_at_call 34; (with_reducible refine useC (within_is _ _ _ true _ e1) ?_); rintro e w2 ⟨rfl, rfl⟩)
                  | (go_at_call 34; (with_reducible refine useC (within_is _ _ _ false _ e2) ?_); rintro e w2 ⟨rfl, rfl⟩))
                go_ret
                exact ⟨by rw [er.out]; rfl, hF.out.alloc _⟩
              | true =>
                have HS := Lib.hid (hstep.out (by rw [e1, e2]; rfl))
                clear hcut hstep
                go_wp2_with (first
                  | (go_at_call 34; (with_reducible refine useC (within_is _ _ _ true _ e1) ?_); rintro e w2 ⟨rfl, rfl⟩)
                  | (go_at_call 34; (with_reducible refine useC (within_is _ _ _ true _ e2) ?_); rintro e w2 ⟨rfl, rfl⟩))
                go_roundw
                case rel => exact ⟨k + 1, by omega, by go_num, HS, hF.out.alloc _⟩
                case measure => simp [intOf]; omega
          · have er := Lib.hid (show Fk.check C E = 0 from by rw [er0.out, Fk.okE_full (fun j hj => hs.out j (by omega))]; rfl)
            go_wp2
            go_ret
            exact ⟨by rw [er.out]; rfl, hF.out⟩
    · have h12' : (12 : Int) < E.length := by omega
      have er := Lib.hid (show Fk.check C E = 4 from by unfold Fk.check; rw [if_neg (by omega)])
      clear h8 h12
      go_enter Try.func25, Try.ntmps25
      go_wp2
      go_ret
      exact ⟨by rw [er.out]; rfl, HF.out⟩
  · have h8' : (8 : Int) < C.length := by omega
    have er := Lib.hid (show Fk.check C E = 4 from by unfold Fk.check; rw [if_neg (by omega)])
    clear h8
    go_enter Try.func25, Try.ntmps25
    go_wp2
    go_ret
    exact ⟨by rw [er.out]; rfl, HF.out⟩
end Go.Proofs.Ytbohlbnbaomkiaa
