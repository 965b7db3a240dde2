/- The document's answer for package wal: its struct in memory; Ended. -/
import Derived.Test.YtmhmbgkpojgbbaaDoorWlPlain2
import Derived.Test.YtmhmbgkpojgbbaaDoorEnc
import Derived.Test.YtmhmbgkpojgbbaaDoorOwn2
import Derived.Test.YtmhmbgkpojgbbaaDoorCSet
import Derived.Test.YtmhmbgkpojgbbaaDoorMkInts0
import Derived.Test.YtmhmbgkpojgbbaaDoorMix
import Derived.Test.YtmhmbgkpojgbbaaDoorCopy
namespace Go.Proofs.YtmhmbgkpojgbbaaDoor
open Go.RowKit

/-- How a record lies in cells: an end has the value -1. -/
def enW : Enc Wl.R where
  k := 3
  enc := fun r => [.int .i64 r.t, .int .i64 (if r.e then 0 else r.b), .int .i64 (if r.e then -1 else r.v)]
  len := fun _ => rfl
  one := fun a v hv => by
    simp only [List.mem_cons, List.not_mem_nil, or_false] at hv
    rcases hv with rfl | rfl | rfl <;> rfl
  pos := by decide
theorem Tryd.info_putW : (Tryd.prog.info? 49).map (fun i => (i.zero, i.size, i.bytes)) = some (some (.agg #[.int .i64 0, .int .i64 0, .int .i64 0]), enW.k, 24) := by kernel_rfl
/-- Of the records only ends have a value below 0. -/
def Wl.Nv (L : List Wl.R) : Prop := ∀ r ∈ L, r.e = false → 0 ≤ r.v
/-- A value of the document's type, and what it says; its rows lie in blocks of G. -/
def WxV (G : Nat → Prop) (w : World) (v : Value) (d : Wl.D) : Prop := ∃ h l g1 g2, v = .agg #[h, l, .int .i64 d.syn] ∧ (G g1 ∧ G g2) ∧ Sl w h g1 d.home ∧ SlR enW w l g2 d.log
/-- A variable of that type. -/
def WxX (w : World) (B : Nat) (h l : Value) (s : Int) : Prop := w.heap[B]? = some (.cells #[h, l, .int .i64 s] 57 (0, 0))
theorem WxX.cells {w : World} {B : Nat} {h l : Value} {s : Int} (x : WxX w B h l s) : w.cell? ⟨B, 0, none⟩ = some h ∧ w.cell? ⟨B, 1, none⟩ = some l ∧ w.cell? ⟨B, 2, none⟩ = some (.int .i64 s) := by
  refine ⟨?_, ?_, ?_⟩ <;> rw [cell_of_row w B _ _ _ _ x] <;> rfl
theorem wxX_new (w : World) (h l : Value) (s : Int) : WxX (w.alloc (.cells #[h, l, .int .i64 s] 57)) w.heap.size h l s := heap_alloc_new w _
theorem Wl.ended_yes {L : List Wl.R} {t : Int} {k : Nat} (hk : k < L.length) (he : L[k].e = true) (ht : L[k].t = t) : Wl.ended L t = true := by
  unfold Wl.ended
  rw [List.any_eq_true]
  exact ⟨L[k], List.getElem_mem _, by simp [he, ht]⟩
theorem Wl.ended_no {L : List Wl.R} {t : Int} (h : ∀ j (hj : j < L.length), ¬ (L[j].e = true ∧ L[j].t = t)) : Wl.ended L t = false := by
  unfold Wl.ended
  rw [List.any_eq_false]
  intro r hr e
  obtain ⟨j, hj, rfl⟩ := List.getElem_of_mem hr
  simp at e
  exact h j hj e
/-- The cells of a row of records. -/
theorem SlR.w3 {w : World} {v : Value} {g : Nat} {L : List Wl.R} (h : SlR enW w v g L) : ∃ (A : Option Addr) (o c : Nat), v = .slice A L.length c ∧ (0 < L.length → A = some ⟨g, o, none⟩) ∧ ∀ i (hi : i < L.length),
    w.cell? ⟨g, o + i * 3, none⟩ = some (.int .i64 L[i].t) ∧ w.cell? ⟨g, o + i * 3 + 1, none⟩ = some (.int .i64 (if L[i].e then 0 else L[i].b)) ∧ w.cell? ⟨g, o + i * 3 + 2, none⟩ = some (.int .i64 (if L[i].e then -1 else L[i].v)) := by
  obtain ⟨A, o, c, rfl, -, hA, hc⟩ := h.form
  exact ⟨A, o, c, rfl, hA, fun i hi => ⟨hc i hi 0 (by decide), hc i hi 1 (by decide), hc i hi 2 (by decide)⟩⟩
set_option maxRecDepth 100000 in
set_option maxHeartbeats 1000000 in
theorem wx_Ended (w : World) (h l : Value) (s t : Int) (g : Nat) (L : List Wl.R) (hL : SlR enW w l g L) (hnv : Wl.Nv L) (hn : L.length ≤ 60) :
    Calls Tryd.prog 49 #[.agg #[h, l, .int .i64 s], .int .i64 t] w fun e w' => e = .returned (.bool (Wl.ended L t)) ∧ Fr [] w w' := by
  obtain ⟨A, o, c, rfl, hA, hc⟩ := hL.w3
  have HF : Hid (Fr [] w (w.alloc (.cells #[h, .slice A L.length c, .int .i64 s] 57))) := (Fr.refl _ _).alloc _
  have HX := Lib.hid (wxX_new w h (.slice A L.length c) s)
  have HC := Lib.hid (fun i (hi : i < L.length) => And.intro (HF.out.cell (hc i hi).1 (by simp)) (HF.out.cell (hc i hi).2.2 (by simp)))
  have HA := Lib.hid hA
  have HV := Lib.hid hnv
  obtain ⟨b0, b1, b2⟩ := HX.out.cells
  clear hA hc hnv hL
  go_enter Tryd.func49, Tryd.ntmps49
  go_wp2
  generalize hw1 : w.alloc (.cells #[h, .slice A L.length c, .int .i64 s] 57) = w1 at *
  clear hw1
  generalize w.heap.size = X at *
  go_loop [5] (fun i => ∃ k : Nat, k ≤ L.length ∧ i = .int .i64 k ∧ Hid (∀ j (hj : j < L.length), j < k → ¬ (L[j].e = true ∧ L[j].t = t))) (fun i => L.length - (intOf i).toNat)
  case atStart => exact ⟨0, Nat.zero_le _, rfl, fun j _ hj => absurd hj (Nat.not_lt_zero _)⟩
  case round =>
    obtain ⟨k, hk, rfl, hno⟩ := hrel
    by_cases hlt : k < L.length
    · obtain rfl := HA.out (by omega)
      obtain ⟨c0, c2⟩ := HC.out k hlt
      have kI : (k : Int) < L.length := by omega
      have k0 : (0 : Int) ≤ k := by omega
      have hk60 : k < 60 := by omega
      by_cases ht : L[k].t = t
      · have e1 : (L[k].t == t) = true := by simpa using ht
        by_cases he : L[k].e = true
        · have HY := Lib.hid (Wl.ended_yes hlt he ht)
          rw [if_pos he] at c2
          clear he ht hno
          generalize L[k].t = y at *
          go_wp2
          go_ret
          exact ⟨by rw [HY.out]; rfl, HF.out⟩
        · have hv := HV.out L[k] (List.getElem_mem _) (by simpa using he)
          rw [if_neg he] at c2
          have HN : Hid (∀ j (hj : j < L.length), j < k + 1 → ¬ (L[j].e = true ∧ L[j].t = t)) := fun j hj hjk => by
            by_cases e : j = k
            · subst e; exact fun h => he h.1
            · exact hno.out j hj (by omega)
          clear he ht hno
          generalize L[k].t = y at *
          generalize L[k].v = z at *
          go_wp2
          go_round
          case rel => exact ⟨k + 1, by omega, by go_num, HN⟩
          case measure => simp [intOf]; omega
      · have e1 : (L[k].t == t) = false := by simpa using ht
        have HN : Hid (∀ j (hj : j < L.length), j < k + 1 → ¬ (L[j].e = true ∧ L[j].t = t)) := fun j hj hjk => by
          by_cases e : j = k
          · subst e; exact fun h => ht h.2
          · exact hno.out j hj (by omega)
        clear ht hno c2
        generalize L[k].t = y at *
        go_wp2
        go_round
        case rel => exact ⟨k + 1, by omega, by go_num, HN⟩
        case measure => simp [intOf]; omega
    · have kI : ¬ (k : Int) < L.length := by omega
      have HN := Lib.hid (Wl.ended_no (L := L) (t := t) (fun j hj => hno.out j hj (by omega)))
      clear hno hlt
      go_wp2
      go_ret
      exact ⟨by rw [HN.out]; rfl, HF.out⟩
end Go.Proofs.YtmhmbgkpojgbbaaDoor
