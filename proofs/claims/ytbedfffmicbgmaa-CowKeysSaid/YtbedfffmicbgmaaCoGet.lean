/- The contracts of package cow: New, root, Get, Put. -/
import Derived.Test.YtbedfffmicbgmaaCoWalk
import Derived.Test.YtbedfffmicbgmaaCAll
import Derived.Test.YtbedfffmicbgmaaOwn2
import Derived.Deep.LoopGhost
namespace Go.Proofs.Ytbedfffmicbgmaa
open Go.RowKit

theorem Try.info_ptn : (Try.prog.info? 41).map (fun i => (i.zero, i.size, i.bytes)) = some (some (.pointer none), 1, 8) := by kernel_rfl
theorem co_new (w : World) : Calls Try.prog 16 #[] w fun e w' => ∃ sb, e = .returned (.pointer (some ⟨sb, 0, none⟩)) ∧ CoS w.heap.size w' sb [.nil] ∧ Fr [] w w' := by
  go_enter Try.func16, Try.ntmps16
  go_wp2_with fail
  go_ret
  have hf1 : Fr [] w (w.alloc (.cells #[.pointer none] 41)) := (Fr.refl _ _).alloc _
  have hf : Fr [] w ((w.alloc (.cells #[.pointer none] 41)).alloc (.cells #[.slice (some ⟨w.heap.size, 0, none⟩) 1 1] 48)) := hf1.alloc _
  refine ⟨w.heap.size + 1, rfl, ⟨by omega, ⟨_, w.heap.size, 1, ?_, rfl, ?_⟩, fun T hT => ?_, Co.new_ok _⟩, hf⟩
  · have := heap_alloc_new (w.alloc (.cells #[.pointer none] 41)) (.cells #[.slice (some ⟨w.heap.size, 0, none⟩) 1 1] 48)
    rw [show (w.alloc (.cells #[.pointer none] 41)).heap.size = w.heap.size + 1 by simp] at this
    exact this
  · refine ⟨rfl, .inr ⟨w.heap.size, 1, #[.pointer none], rfl, Nat.le_refl _, ?_, Nat.le_refl _, by unfold maxLen; decide, rfl, rfl⟩⟩
    exact ((Fr.refl [] _).alloc _).get (heap_alloc_new w _) (by simp)
  · simp only [List.mem_singleton] at hT
    subst hT
    trivial
/-- What root hands back. -/
def coRoot (st : List Ct) (v : Int) : Value := if Co.has st v then .tuple #[(Co.tree st v).ptr, .nilIface] else .tuple #[.pointer none, .iface 45 (.int .i64 1)]
theorem CoS.facts {B : Nat} {w : World} {sb : Nat} {st : List Ct} (h : CoS B w sb st) : ∃ g c, w.cell? ⟨sb, 0, none⟩ = some (.slice (some ⟨g, 0, none⟩) st.length c) ∧ w.frozen? ⟨sb, 0, none⟩ = false ∧ (∀ i (hi : i < st.length), w.cell? ⟨g, i, none⟩ = some st[i].ptr) := by
  obtain ⟨g, c, cur, h1, h2, -, -, -, h5⟩ := h.row
  exact ⟨g, c, by rw [cell_of_row w sb 0 _ _ _ h1]; rfl, free_block h1 0 none, h5⟩
theorem co_root (w : World) (B sb : Nat) (st : List Ct) (v : Int) (hS : CoS B w sb st) :
    Calls Try.prog 17 #[.pointer (some ⟨sb, 0, none⟩), .int .i64 v] w fun e w' => e = .returned (coRoot st v) ∧ w' = w := by
  obtain ⟨g, c, c0, -, hc⟩ := hS.facts
  obtain ⟨l1, l2⟩ := hS.ok.len
  have n1 : (st.length : Int) - 1 ≤ 20 := by omega
  have n0 : (0 : Int) ≤ (st.length : Int) - 1 := by omega
  by_cases hv : Co.has st v
  · have e1 : decide (0 ≤ v ∧ v ≤ (st.length : Int) - 1) = true := decide_eq_true hv
    have HR : Hid (coRoot st v = .tuple #[(Co.tree st v).ptr, .nilIface]) := if_pos hv
    unfold Co.has at hv
    obtain ⟨q, rfl⟩ : ∃ q : Nat, v = q := ⟨v.toNat, by omega⟩
    have hq : q < st.length := by omega
    have hqI : (q : Int) < st.length := by omega
    have hq0 : (0 : Int) ≤ q := by omega
    have ht : Co.tree st q = st[q] := by
      unfold Co.tree
      rw [Int.toNat_natCast, List.getD_eq_getElem?_getD, List.getElem?_eq_getElem hq]
      rfl
    have cq := hc q hq
    rw [← ht] at cq
    obtain ⟨u, hu⟩ := (Co.tree st q).ptr_form
    rw [hu] at cq HR
    clear hS hc hv ht hu
    go_enter Try.func17, Try.ntmps17
    go_wp2_with (go_at_call 26; (with_reducible refine useC (within_is _ _ _ true _ e1) ?_); rintro e w ⟨rfl, rfl⟩)
    go_ret2
    exact ⟨by rw [HR.out]; rfl, rfl⟩
  · have e1 : decide (0 ≤ v ∧ v ≤ (st.length : Int) - 1) = false := decide_eq_false hv
    have HR : Hid (coRoot st v = .tuple #[.pointer none, .iface 45 (.int .i64 1)]) := if_neg hv
    clear hS hc hv
    go_enter Try.func17, Try.ntmps17
    go_wp2_with (go_at_call 26; (with_reducible refine useC (within_is _ _ _ false _ e1) ?_); rintro e w ⟨rfl, rfl⟩)
    go_ret2
    exact ⟨by rw [HR.out]; rfl, rfl⟩
/-- What Get hands back. -/
def coGet (st : List Ct) (v a : Int) : Value := if Co.has st v then (match Co.get (Co.tree st v) a with | some x => .tuple #[.int .i64 x, .nilIface] | none => .tuple #[.int .i64 0, .iface 45 (.int .i64 5)]) else .tuple #[.int .i64 0, .iface 45 (.int .i64 1)]
def coGetT (T : Ct) (a : Int) : Value := match Co.get T a with | some x => .tuple #[.int .i64 x, .nilIface] | none => .tuple #[.int .i64 0, .iface 45 (.int .i64 5)]
def Ct.high : Ct → Nat
  | .nil => 0
  | .node _ _ _ l r => max l.high r.high + 1
theorem co_get (w : World) (B sb : Nat) (st : List Ct) (v a : Int) (hS : CoS B w sb st) :
    Calls Try.prog 15 #[.pointer (some ⟨sb, 0, none⟩), .int .i64 v, .int .i64 a] w fun e w' => e = .returned (coGet st v a) ∧ w' = w := by
  have HRT := Lib.hid (co_root w B sb st v hS)
  by_cases hv : Co.has st v
  · have HR : Hid (coGet st v a = coGetT (Co.tree st v) a) := if_pos hv
    have hr : coRoot st v = .tuple #[(Co.tree st v).ptr, .nilIface] := if_pos hv
    have hin := hS.ins _ (Co.tree_mem hv)
    rw [hr] at HRT
    clear hr hS hv
    generalize Co.tree st v = T0 at *
    obtain ⟨u, hu⟩ := T0.ptr_form
    rw [hu] at HRT
    have HU := Lib.hid hu
    have HI := Lib.hid hin
    clear hu hin
    go_enter Try.func15, Try.ntmps15
    go_wp2_with (go_at_call 17; (with_reducible refine useC HRT.out ?_); rintro e w ⟨rfl, rfl⟩)
    go_loopg [8] T0.high (fun n p wr => ∃ T : Ct, Hid (p = T.ptr) ∧ Hid (T.high ≤ n) ∧ Hid (CoIn w T) ∧ Hid (Co.get T0 a = Co.get T a) ∧ wr = w)
    case atStart => exact ⟨T0, HU.out.symm, Nat.le_refl _, HI, rfl, rfl⟩
    case round =>
      obtain ⟨T, hp, hn, hI, hg, rfl⟩ := hrel
      cases T with
      | nil =>
        have hpp := hp.out
        rw [show Ct.nil.ptr = .pointer none from rfl] at hpp
        subst hpp
        have HQ : Hid (coGet st v a = .tuple #[.int .i64 0, .iface 45 (.int .i64 5)]) := by
          show _ = _
          rw [HR.out]
          unfold coGetT
          rw [hg.out]; rfl
        clear hp hn hg hI
        go_wp2
        go_ret2
        exact ⟨by rw [HQ.out]; rfl, rfl⟩
      | node b k x l r =>
        have hpp := hp.out
        rw [show (Ct.node b k x l r).ptr = .pointer (some ⟨b, 0, none⟩) from rfl] at hpp
        subst hpp
        obtain ⟨c0, c1, c2, c3⟩ := hI.out.cells
        obtain ⟨ul, hul⟩ := l.ptr_form
        obtain ⟨ur, hur⟩ := r.ptr_form
        rw [hul] at c2
        rw [hur] at c3
        have HUL := Lib.hid hul.symm
        have HUR := Lib.hid hur.symm
        have hhn := hn.out
        unfold Ct.high at hhn
        have HG : Hid (Co.get T0 a = if k = a then some x else if a < k then Co.get l a else Co.get r a) := hg
        clear hul hur hn hg hp
        by_cases hk : k = a
        · have b1 : (k != a) = false := by simp [hk]
          have HQ : Hid (coGet st v a = .tuple #[.int .i64 x, .nilIface]) := by
            show _ = _
            rw [HR.out]
            unfold coGetT
            rw [HG.out, if_pos hk]
          clear hk HG hhn
          go_wp2
          go_ret2
          exact ⟨by rw [HQ.out]; rfl, rfl⟩
        · have b1 : (k != a) = true := by simp [hk]
          have HG2 := Lib.hid (HG.out.trans (if_neg hk))
          clear hk HG
          by_cases hlt : a < k
          · have HG3 := Lib.hid (HG2.out.trans (if_pos hlt))
            clear HG2
            go_wp2
            go_roundg l.high
            case measure => omega
            case rel => exact ⟨l, HUL, Nat.le_refl _, hI.out.2.1, HG3, rfl⟩
          · have HG3 := Lib.hid (HG2.out.trans (if_neg hlt))
            clear HG2
            go_wp2
            go_roundg r.high
            case measure => omega
            case rel => exact ⟨r, HUR, Nat.le_refl _, hI.out.2.2, HG3, rfl⟩
  · have HR : Hid (coGet st v a = .tuple #[.int .i64 0, .iface 45 (.int .i64 1)]) := if_neg hv
    have hr : coRoot st v = .tuple #[.pointer none, .iface 45 (.int .i64 1)] := if_neg hv
    rw [hr] at HRT
    clear hr hS hv
    go_enter Try.func15, Try.ntmps15
    go_wp2_with (go_at_call 17; (with_reducible refine useC HRT.out ?_); rintro e w ⟨rfl, rfl⟩)
    go_ret2
    exact ⟨by rw [HR.out]; rfl, rfl⟩
end Go.Proofs.Ytbedfffmicbgmaa
