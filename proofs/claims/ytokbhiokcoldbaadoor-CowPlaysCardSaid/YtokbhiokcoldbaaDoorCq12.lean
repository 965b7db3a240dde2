/- The contract of core.All at a row of numbers. -/
import Derived.Deep.LoopGhost
import Derived.Handy
import Derived.Test.YtokbhiokcoldbaaDoorCq02
import Derived.Test.YtokbhiokcoldbaaDoorCq04
import Derived.Test.YtokbhiokcoldbaaDoorCq11
namespace Go.Proofs.YtokbhiokcoldbaaDoor
open Go.RowKit

theorem sl_new {w : World} {g : Nat} {t : TypeId} {fr : Nat × Nat} (xs : List Int) (h : w.heap[g]? = some (.cells (ints xs) t fr)) (hl : xs.length ≤ maxLen) : Sl w (.slice (some ⟨g, 0, none⟩) xs.length xs.length) g xs :=
  .inr ⟨0, xs.length, rfl, Nat.le_refl _, hl, fun i hi => by rw [Nat.zero_add]; exact cell_ints h hi⟩
/-- Are all within bounds? -/
def allIn (xs : List Int) (lo hi : Int) : Bool := xs.all fun x => decide (lo ≤ x ∧ x ≤ hi)
theorem allIn_cut {xs : List Int} {lo hi : Int} {k : Nat} (hk : k < xs.length) (h : decide (lo ≤ nth xs k ∧ nth xs k ≤ hi) = false) : allIn xs lo hi = false := by
  unfold allIn
  rw [List.all_eq_false]
  exact ⟨nth xs k, getD_mem hk, by rw [h]; decide⟩
theorem allIn_full {xs : List Int} {lo hi : Int} (h : ∀ k, k < xs.length → decide (lo ≤ nth xs k ∧ nth xs k ≤ hi) = true) : allIn xs lo hi = true := by
  unfold allIn
  rw [List.all_eq_true]
  intro x hx
  obtain ⟨k, hk, e⟩ := List.getElem_of_mem hx
  have := h k hk
  rw [show nth xs k = x by simp [nth, List.getD, hk, e]] at this
  exact this
theorem all_any (w : World) (v : Value) (g : Nat) (xs : List Int) (lo hi : Int) (h : Sl w v g xs) :
    Calls Tryd.prog 50 #[v, .int .i64 lo, .int .i64 hi] w fun e w' => e = .returned (.bool (allIn xs lo hi)) ∧ w = w' := by
  obtain ⟨A, o, c, rfl, hm, hA, hc⟩ := h.form
  clear h
  have HA := Lib.hid hA
  have HC := Lib.hid hc
  clear hA hc
  go_enter Tryd.func50, Tryd.ntmps50
  go_wp2
  go_loop [11] (fun i => ∃ k : Nat, k ≤ xs.length ∧ i = .int .i64 k ∧ Hid (∀ j, j < k → decide (lo ≤ nth xs j ∧ nth xs j ≤ hi) = true)) (fun i => xs.length - (intOf i).toNat)
  case atStart => exact ⟨0, Nat.zero_le _, rfl, fun j hj => absurd hj (Nat.not_lt_zero _)⟩
  case round =>
    obtain ⟨k, hk, rfl, hs⟩ := hrel
    by_cases hlt : k < xs.length
    · obtain rfl := HA.out (by omega)
      have hcell := HC.out k hlt
      by_cases hy : lo ≤ nth xs k ∧ nth xs k ≤ hi
      · have e1 := decide_eq_true hy
        have HS : Hid (∀ j, j < k + 1 → decide (lo ≤ nth xs j ∧ nth xs j ≤ hi) = true) := fun j hj => by
          by_cases e : j = k
          · subst e; exact e1
          · exact hs.out j (by omega)
        clear hy
        generalize nth xs k = y at *
        go_wp2_with (go_at_call 63; (with_reducible refine useC (within_is _ _ _ true _ e1) ?_); rintro e w2 ⟨rfl, rfl⟩)
        go_round
        case rel => exact ⟨k + 1, by omega, by go_num, HS⟩
        case measure => simp [intOf]; omega
      · have e1 := decide_eq_false hy
        have hr := Lib.hid (allIn_cut hlt e1)
        clear hy
        generalize nth xs k = y at *
        go_wp2_with (go_at_call 63; (with_reducible refine useC (within_is _ _ _ false _ e1) ?_); rintro e w2 ⟨rfl, rfl⟩)
        go_ret
        exact ⟨ret_bool hr.out.symm, rfl⟩
    · have hr := Lib.hid (allIn_full (fun j hj => hs.out j (by omega)))
      go_wp2
      go_ret
      exact ⟨ret_bool hr.out.symm, rfl⟩
end Go.Proofs.YtokbhiokcoldbaaDoor
/- The contracts of package cow: New, root, Get, Put. -/
namespace Go.Proofs.YtokbhiokcoldbaaDoor
open Go.RowKit

theorem Tryd.info_ptn : (Tryd.prog.info? 84).map (fun i => (i.zero, i.size, i.bytes)) = some (some (.pointer none), 1, 8) := by kernel_rfl
theorem co_new (w : World) : Calls Tryd.prog 8 #[] w fun e w' => ∃ sb, e = .returned (.pointer (some ⟨sb, 0, none⟩)) ∧ CoS w.heap.size w' sb [.nil] ∧ Fr [] w w' := by
  go_enter Tryd.func8, Tryd.ntmps8
  go_wp2_with fail
  go_ret
  have hf1 : Fr [] w (w.alloc (.cells #[.pointer none] 84)) := (Fr.refl _ _).alloc _
  have hf : Fr [] w ((w.alloc (.cells #[.pointer none] 84)).alloc (.cells #[.slice (some ⟨w.heap.size, 0, none⟩) 1 1] 81)) := hf1.alloc _
  refine ⟨w.heap.size + 1, rfl, ⟨by omega, ⟨_, w.heap.size, 1, ?_, rfl, ?_⟩, fun T hT => ?_, Co.new_ok _⟩, hf⟩
  · have := heap_alloc_new (w.alloc (.cells #[.pointer none] 84)) (.cells #[.slice (some ⟨w.heap.size, 0, none⟩) 1 1] 81)
    rw [show (w.alloc (.cells #[.pointer none] 84)).heap.size = w.heap.size + 1 by simp] at this
    exact this
  · refine ⟨rfl, .inr ⟨w.heap.size, 1, #[.pointer none], rfl, Nat.le_refl _, ?_, Nat.le_refl _, by unfold maxLen; decide, rfl, rfl⟩⟩
    exact ((Fr.refl [] _).alloc _).get (heap_alloc_new w _) (by simp)
  · simp only [List.mem_singleton] at hT
    subst hT
    trivial
/-- What root hands back. -/
def coRoot (st : List Ct) (v : Int) : Value := if Co.has st v then .tuple #[(Co.tree st v).ptr, .nilIface] else .tuple #[.pointer none, .iface 88 (.int .i64 1)]
theorem CoS.facts {B : Nat} {w : World} {sb : Nat} {st : List Ct} (h : CoS B w sb st) : ∃ g c, w.cell? ⟨sb, 0, none⟩ = some (.slice (some ⟨g, 0, none⟩) st.length c) ∧ w.frozen? ⟨sb, 0, none⟩ = false ∧ (∀ i (hi : i < st.length), w.cell? ⟨g, i, none⟩ = some st[i].ptr) := by
  obtain ⟨g, c, cur, h1, h2, -, -, -, h5⟩ := h.row
  exact ⟨g, c, by rw [cell_of_row w sb 0 _ _ _ h1]; rfl, free_block h1 0 none, h5⟩
theorem co_root (w : World) (B sb : Nat) (st : List Ct) (v : Int) (hS : CoS B w sb st) :
    Calls Tryd.prog 49 #[.pointer (some ⟨sb, 0, none⟩), .int .i64 v] w fun e w' => e = .returned (coRoot st v) ∧ w' = w := by
  obtain ⟨g, c, c0, -, hc⟩ := hS.facts
  obtain ⟨l1, l2⟩ := hS.ok.len
  have n1 : (st.length : Int) - 1 ≤ 20 := by omega
  have n0 : (0 : Int) ≤ (st.length : Int) - 1 := by omega
  by_cases hv : Co.has st v
  · have e1 : decide (0 ≤ v ∧ v ≤ (st.length : Int) - 1) = true := decide_eq_true hv
    have HR : Hid (coRoot st v = .tuple #[(Co.tree st v).ptr, .nilIface]) := if_pos hv
    unfold Co.has at hv
    obtain ⟨q, rfl⟩ : ∃ q : Nat, v = q := ⟨v.toNat, by omega⟩
    have hq : q < st.length := by omega
    have hqI : (q : Int) < st.length := by omega
    have hq0 : (0 : Int) ≤ q := by omega
    have ht : Co.tree st q = st[q] := by
      unfold Co.tree
      rw [Int.toNat_natCast, List.getD_eq_getElem?_getD, List.getElem?_eq_getElem hq]
      rfl
    have cq := hc q hq
    rw [← ht] at cq
    obtain ⟨u, hu⟩ := (Co.tree st q).ptr_form
    rw [hu] at cq HR
    clear hS hc hv ht hu
    go_enter Tryd.func49, Tryd.ntmps49
    go_wp2_with (go_at_call 63; (with_reducible refine useC (within_is _ _ _ true _ e1) ?_); rintro e w ⟨rfl, rfl⟩)
    go_ret2
    exact ⟨by rw [HR.out]; rfl, rfl⟩
  · have e1 : decide (0 ≤ v ∧ v ≤ (st.length : Int) - 1) = false := decide_eq_false hv
    have HR : Hid (coRoot st v = .tuple #[.pointer none, .iface 88 (.int .i64 1)]) := if_neg hv
    clear hS hc hv
    go_enter Tryd.func49, Tryd.ntmps49
    go_wp2_with (go_at_call 63; (with_reducible refine useC (within_is _ _ _ false _ e1) ?_); rintro e w ⟨rfl, rfl⟩)
    go_ret2
    exact ⟨by rw [HR.out]; rfl, rfl⟩
/-- What Get hands back. -/
def coGet (st : List Ct) (v a : Int) : Value := if Co.has st v then (match Co.get (Co.tree st v) a with | some x => .tuple #[.int .i64 x, .nilIface] | none => .tuple #[.int .i64 0, .iface 88 (.int .i64 5)]) else .tuple #[.int .i64 0, .iface 88 (.int .i64 1)]
def coGetT (T : Ct) (a : Int) : Value := match Co.get T a with | some x => .tuple #[.int .i64 x, .nilIface] | none => .tuple #[.int .i64 0, .iface 88 (.int .i64 5)]
def Ct.high : Ct → Nat
  | .nil => 0
  | .node _ _ _ l r => max l.high r.high + 1
theorem co_get (w : World) (B sb : Nat) (st : List Ct) (v a : Int) (hS : CoS B w sb st) :
    Calls Tryd.prog 16 #[.pointer (some ⟨sb, 0, none⟩), .int .i64 v, .int .i64 a] w fun e w' => e = .returned (coGet st v a) ∧ w' = w := by
  have HRT := Lib.hid (co_root w B sb st v hS)
  by_cases hv : Co.has st v
  · have HR : Hid (coGet st v a = coGetT (Co.tree st v) a) := if_pos hv
    have hr : coRoot st v = .tuple #[(Co.tree st v).ptr, .nilIface] := if_pos hv
    have hin := hS.ins _ (Co.tree_mem hv)
    rw [hr] at HRT
    clear hr hS hv
    generalize Co.tree st v = T0 at *
    obtain ⟨u, hu⟩ := T0.ptr_form
    rw [hu] at HRT
    have HU := Lib.hid hu
    have HI := Lib.hid hin
    clear hu hin
    go_enter Tryd.func16, Tryd.ntmps16
    go_wp2_with (go_at_call 49; (with_reducible refine useC HRT.out ?_); rintro e w ⟨rfl, rfl⟩)
    go_loopg [8] T0.high (fun n p wr => ∃ T : Ct, Hid (p = T.ptr) ∧ Hid (T.high ≤ n) ∧ Hid (CoIn w T) ∧ Hid (Co.get T0 a = Co.get T a) ∧ wr = w)
    case atStart => exact ⟨T0, HU.out.symm, Nat.le_refl _, HI, rfl, rfl⟩
    case round =>
      obtain ⟨T, hp, hn, hI, hg, rfl⟩ := hrel
      cases T with
      | nil =>
        have hpp := hp.out
        rw [show Ct.nil.ptr = .pointer none from rfl] at hpp
        subst hpp
        have HQ : Hid (coGet st v a = .tuple #[.int .i64 0, .iface 88 (.int .i64 5)]) := by
          show _ = _
          rw [HR.out]
          unfold coGetT
          rw [hg.out]; rfl
        clear hp hn hg hI
        go_wp2
        go_ret2
        exact ⟨by rw [HQ.out]; rfl, rfl⟩
      | node b k x l r =>
        have hpp := hp.out
        rw [show (Ct.node b k x l r).ptr = .pointer (some ⟨b, 0, none⟩) from rfl] at hpp
        subst hpp
        obtain ⟨c0, c1, c2, c3⟩ := hI.out.cells
        obtain ⟨ul, hul⟩ := l.ptr_form
        obtain ⟨ur, hur⟩ := r.ptr_form
        rw [hul] at c2
        rw [hur] at c3
        have HUL := Lib.hid hul.symm
        have HUR := Lib.hid hur.symm
        have hhn := hn.out
        unfold Ct.high at hhn
        have HG : Hid (Co.get T0 a = if k = a then some x else if a < k then Co.get l a else Co.get r a) := hg
        clear hul hur hn hg hp
        by_cases hk : k = a
        · have b1 : (k != a) = false := by simp [hk]
          have HQ : Hid (coGet st v a = .tuple #[.int .i64 x, .nilIface]) := by
            show _ = _
            rw [HR.out]
            unfold coGetT
            rw [HG.out, if_pos hk]
          clear hk HG hhn
          go_wp2
          go_ret2
          exact ⟨by rw [HQ.out]; rfl, rfl⟩
        · have b1 : (k != a) = true := by simp [hk]
          have HG2 := Lib.hid (HG.out.trans (if_neg hk))
          clear hk HG
          by_cases hlt : a < k
          · have HG3 := Lib.hid (HG2.out.trans (if_pos hlt))
            clear HG2
            go_wp2
            go_roundg l.high
            case measure => omega
            case rel => exact ⟨l, HUL, Nat.le_refl _, hI.out.2.1, HG3, rfl⟩
          · have HG3 := Lib.hid (HG2.out.trans (if_neg hlt))
            clear HG2
            go_wp2
            go_roundg r.high
            case measure => omega
            case rel => exact ⟨r, HUR, Nat.le_refl _, hI.out.2.2, HG3, rfl⟩
  · have HR : Hid (coGet st v a = .tuple #[.int .i64 0, .iface 88 (.int .i64 1)]) := if_neg hv
    have hr : coRoot st v = .tuple #[.pointer none, .iface 88 (.int .i64 1)] := if_neg hv
    rw [hr] at HRT
    clear hr hS hv
    go_enter Tryd.func16, Tryd.ntmps16
    go_wp2_with (go_at_call 49; (with_reducible refine useC HRT.out ?_); rintro e w ⟨rfl, rfl⟩)
    go_ret2
    exact ⟨by rw [HR.out]; rfl, rfl⟩
end Go.Proofs.YtokbhiokcoldbaaDoor

/- The contract of cow.each: the nodes are handed over as keys rise. Printed by wip/gen_coeach.py. -/
namespace Go.Proofs.YtokbhiokcoldbaaDoor
open Go.RowKit

theorem CoIn.key_at {w : World} : ∀ {T : Ct}, CoIn w T → ∀ p ∈ Co.nodes T, w.cell? ⟨p.1, 0, none⟩ = some (.int .i64 p.2) ∧ ∃ cs, w.heap[p.1]? = some (.cells cs 93 (0, 0))
  | .nil, _, p, h => by simp [Co.nodes] at h
  | .node b k v l r, hi, p, h => by
    simp only [Co.nodes, List.mem_append, List.mem_cons] at h
    rcases h with h | rfl | h
    · exact hi.2.1.key_at p h
    · exact ⟨hi.cells.1, _, hi.1⟩
    · exact hi.2.2.key_at p h
set_option maxRecDepth 100000 in
set_option maxHeartbeats 1000000 in
theorem each_keys (p0 : Value) (N : List (Nat × Int)) (J : Nat → World → Prop)
    (hc : ∀ i (hi : i < N.length) w, J i w → Calls Tryd.prog 54 #[.pointer (some ⟨(N[i]).1, 0, none⟩), p0] w fun e w' => e = .returned (.tuple #[]) ∧ J (i + 1) w') :
    ∀ (T : Ct) (pre post : List (Nat × Int)) (w : World), N = pre ++ Co.nodes T ++ post → (∀ i w, J i w → CoIn w T) → J pre.length w →
      Calls Tryd.prog 53 #[T.ptr, .func (.func 54) #[] #[p0]] w fun e w' => e = .returned (.tuple #[]) ∧ J (pre.length + (Co.nodes T).length) w' := by
  intro T
  induction T with
  | nil =>
    intro pre post w _ _ hJ
    rw [show Ct.nil.ptr = .pointer none from rfl]
    have HJ := Lib.hid hJ
    clear hJ
    go_enter Tryd.func53, Tryd.ntmps53
    go_wp2_with fail
    go_returns
    exact ⟨rfl, by simpa [Co.nodes] using HJ.out⟩
  | node b k v l r ihl ihr =>
    intro pre post w hN hIn hJ
    have hi0 := hIn _ w hJ
    obtain ⟨c0, c1, c2, c3⟩ := hi0.cells
    obtain ⟨ul, hul⟩ := l.ptr_form
    obtain ⟨ur, hur⟩ := r.ptr_form
    rw [hul] at c2
    have e0 : Co.nodes (.node b k v l r) = Co.nodes l ++ (b, k) :: Co.nodes r := rfl
    have e1 : N = pre ++ Co.nodes l ++ ((b, k) :: Co.nodes r ++ post) := by rw [hN, e0]; simp
    have e2 : N = (pre ++ Co.nodes l ++ [(b, k)]) ++ Co.nodes r ++ post := by rw [hN, e0]; simp
    have hL := ihl pre ((b, k) :: Co.nodes r ++ post) w e1 (fun i w h => (hIn i w h).2.1) hJ
    rw [hul] at hL
    have HL := Lib.hid hL
    have hlt : pre.length + (Co.nodes l).length < N.length := by rw [e1]; simp
    have hat : N[pre.length + (Co.nodes l).length]'hlt = (b, k) := by
      have h1 : N[pre.length + (Co.nodes l).length]? = some (b, k) := by
        rw [e1, ← List.length_append, List.getElem?_append_right (Nat.le_refl _), Nat.sub_self]
        rfl
      rw [List.getElem?_eq_getElem hlt] at h1
      exact Option.some.inj h1
    have hC : ∀ w', J (pre.length + (Co.nodes l).length) w' → Calls Tryd.prog 54 #[.pointer (some ⟨b, 0, none⟩), p0] w' fun e w'' => e = .returned (.tuple #[]) ∧ J (pre.length + (Co.nodes l).length + 1) w'' := fun w' hw' => by
      have := hc _ hlt w' hw'
      rw [hat] at this
      exact this
    have HC := Lib.hid hC
    have hR : ∀ w', J (pre.length + (Co.nodes l).length + 1) w' → Calls Tryd.prog 53 #[.pointer ur, .func (.func 54) #[] #[p0]] w' fun e w'' => e = .returned (.tuple #[]) ∧ J (pre.length + (Co.nodes l).length + 1 + (Co.nodes r).length) w'' := fun w' hw' => by
      have hl3 : (pre ++ Co.nodes l ++ [(b, k)]).length = pre.length + (Co.nodes l).length + 1 := by rw [List.length_append, List.length_append, List.length_singleton]
      have := ihr (pre ++ Co.nodes l ++ [(b, k)]) post w' e2 (fun i w h => (hIn i w h).2.2) (by rw [hl3]; exact hw')
      rw [hur, hl3] at this
      exact this
    have HR := Lib.hid hR
    have HX := Lib.hid (fun i w h => (hIn i w h).cells.2.2.2)
    rw [show (Ct.node b k v l r).ptr = .pointer (some ⟨b, 0, none⟩) from rfl]
    have hlen : pre.length + (Co.nodes l).length + 1 + (Co.nodes r).length = pre.length + (Co.nodes (.node b k v l r)).length := by rw [e0]; simp; omega
    have HLEN := Lib.hid hlen
    have HUR := Lib.hid hur
    clear hlen hR hC hat hlt hL e0 e1 e2 hul hur hi0 c0 c1 c3 ihl ihr hN hIn hJ hc
    go_enter Tryd.func53, Tryd.ntmps53
    go_wp2_with (first
      | (go_at_call 53; (with_reducible refine useC HL.out ?_); rintro e w1 ⟨rfl, hj⟩; have HJ1 := Lib.hid hj; clear hj HL)
      | (go_at_call 54; (with_reducible refine useC (HC.out w1 HJ1.out) ?_); rintro e w2 ⟨rfl, hj⟩; have HJ2 := Lib.hid hj; clear hj HJ1; have c3 := HX.out _ w2 HJ2.out; rw [HUR.out] at c3)
      | (have h' := HJ2; clear h'; go_at_call 53; (with_reducible refine useC (HR.out w2 HJ2.out) ?_); rintro e w3 ⟨rfl, hj⟩; have HJ3 := Lib.hid hj; clear hj))
    go_returns
    exact ⟨rfl, by rw [← HLEN.out]; exact HJ3.out⟩
end Go.Proofs.YtokbhiokcoldbaaDoor

/- The contract of cow.each for the two closures of Shared. Printed by wip/gen_coeach.py, then parted from XCoEach. -/
namespace Go.Proofs.YtokbhiokcoldbaaDoor
open Go.RowKit

set_option maxRecDepth 100000 in
set_option maxHeartbeats 1000000 in
theorem each_sh1 (p0 : Value) (N : List (Nat × Int)) (J : Nat → World → Prop)
    (hc : ∀ i (hi : i < N.length) w, J i w → Calls Tryd.prog 56 #[.pointer (some ⟨(N[i]).1, 0, none⟩), p0] w fun e w' => e = .returned (.tuple #[]) ∧ J (i + 1) w') :
    ∀ (T : Ct) (pre post : List (Nat × Int)) (w : World), N = pre ++ Co.nodes T ++ post → (∀ i w, J i w → CoIn w T) → J pre.length w →
      Calls Tryd.prog 53 #[T.ptr, .func (.func 56) #[] #[p0]] w fun e w' => e = .returned (.tuple #[]) ∧ J (pre.length + (Co.nodes T).length) w' := by
  intro T
  induction T with
  | nil =>
    intro pre post w _ _ hJ
    rw [show Ct.nil.ptr = .pointer none from rfl]
    have HJ := Lib.hid hJ
    clear hJ
    go_enter Tryd.func53, Tryd.ntmps53
    go_wp2_with fail
    go_returns
    exact ⟨rfl, by simpa [Co.nodes] using HJ.out⟩
  | node b k v l r ihl ihr =>
    intro pre post w hN hIn hJ
    have hi0 := hIn _ w hJ
    obtain ⟨c0, c1, c2, c3⟩ := hi0.cells
    obtain ⟨ul, hul⟩ := l.ptr_form
    obtain ⟨ur, hur⟩ := r.ptr_form
    rw [hul] at c2
    have e0 : Co.nodes (.node b k v l r) = Co.nodes l ++ (b, k) :: Co.nodes r := rfl
    have e1 : N = pre ++ Co.nodes l ++ ((b, k) :: Co.nodes r ++ post) := by rw [hN, e0]; simp
    have e2 : N = (pre ++ Co.nodes l ++ [(b, k)]) ++ Co.nodes r ++ post := by rw [hN, e0]; simp
    have hL := ihl pre ((b, k) :: Co.nodes r ++ post) w e1 (fun i w h => (hIn i w h).2.1) hJ
    rw [hul] at hL
    have HL := Lib.hid hL
    have hlt : pre.length + (Co.nodes l).length < N.length := by rw [e1]; simp
    have hat : N[pre.length + (Co.nodes l).length]'hlt = (b, k) := by
      have h1 : N[pre.length + (Co.nodes l).length]? = some (b, k) := by
        rw [e1, ← List.length_append, List.getElem?_append_right (Nat.le_refl _), Nat.sub_self]
        rfl
      rw [List.getElem?_eq_getElem hlt] at h1
      exact Option.some.inj h1
    have hC : ∀ w', J (pre.length + (Co.nodes l).length) w' → Calls Tryd.prog 56 #[.pointer (some ⟨b, 0, none⟩), p0] w' fun e w'' => e = .returned (.tuple #[]) ∧ J (pre.length + (Co.nodes l).length + 1) w'' := fun w' hw' => by
      have := hc _ hlt w' hw'
      rw [hat] at this
      exact this
    have HC := Lib.hid hC
    have hR : ∀ w', J (pre.length + (Co.nodes l).length + 1) w' → Calls Tryd.prog 53 #[.pointer ur, .func (.func 56) #[] #[p0]] w' fun e w'' => e = .returned (.tuple #[]) ∧ J (pre.length + (Co.nodes l).length + 1 + (Co.nodes r).length) w'' := fun w' hw' => by
      have hl3 : (pre ++ Co.nodes l ++ [(b, k)]).length = pre.length + (Co.nodes l).length + 1 := by rw [List.length_append, List.length_append, List.length_singleton]
      have := ihr (pre ++ Co.nodes l ++ [(b, k)]) post w' e2 (fun i w h => (hIn i w h).2.2) (by rw [hl3]; exact hw')
      rw [hur, hl3] at this
      exact this
    have HR := Lib.hid hR
    have HX := Lib.hid (fun i w h => (hIn i w h).cells.2.2.2)
    rw [show (Ct.node b k v l r).ptr = .pointer (some ⟨b, 0, none⟩) from rfl]
    have hlen : pre.length + (Co.nodes l).length + 1 + (Co.nodes r).length = pre.length + (Co.nodes (.node b k v l r)).length := by rw [e0]; simp; omega
    have HLEN := Lib.hid hlen
    have HUR := Lib.hid hur
    clear hlen hR hC hat hlt hL e0 e1 e2 hul hur hi0 c0 c1 c3 ihl ihr hN hIn hJ hc
    go_enter Tryd.func53, Tryd.ntmps53
    go_wp2_with (first
      | (go_at_call 53; (with_reducible refine useC HL.out ?_); rintro e w1 ⟨rfl, hj⟩; have HJ1 := Lib.hid hj; clear hj HL)
      | (go_at_call 56; (with_reducible refine useC (HC.out w1 HJ1.out) ?_); rintro e w2 ⟨rfl, hj⟩; have HJ2 := Lib.hid hj; clear hj HJ1; have c3 := HX.out _ w2 HJ2.out; rw [HUR.out] at c3)
      | (have h' := HJ2; clear h'; go_at_call 53; (with_reducible refine useC (HR.out w2 HJ2.out) ?_); rintro e w3 ⟨rfl, hj⟩; have HJ3 := Lib.hid hj; clear hj))
    go_returns
    exact ⟨rfl, by rw [← HLEN.out]; exact HJ3.out⟩
set_option maxRecDepth 100000 in
set_option maxHeartbeats 1000000 in
theorem each_sh2 (p0 p1 : Value) (N : List (Nat × Int)) (J : Nat → World → Prop)
    (hc : ∀ i (hi : i < N.length) w, J i w → Calls Tryd.prog 58 #[.pointer (some ⟨(N[i]).1, 0, none⟩), p0, p1] w fun e w' => e = .returned (.tuple #[]) ∧ J (i + 1) w') :
    ∀ (T : Ct) (pre post : List (Nat × Int)) (w : World), N = pre ++ Co.nodes T ++ post → (∀ i w, J i w → CoIn w T) → J pre.length w →
      Calls Tryd.prog 53 #[T.ptr, .func (.func 58) #[] #[p0, p1]] w fun e w' => e = .returned (.tuple #[]) ∧ J (pre.length + (Co.nodes T).length) w' := by
  intro T
  induction T with
  | nil =>
    intro pre post w _ _ hJ
    rw [show Ct.nil.ptr = .pointer none from rfl]
    have HJ := Lib.hid hJ
    clear hJ
    go_enter Tryd.func53, Tryd.ntmps53
    go_wp2_with fail
    go_returns
    exact ⟨rfl, by simpa [Co.nodes] using HJ.out⟩
  | node b k v l r ihl ihr =>
    intro pre post w hN hIn hJ
    have hi0 := hIn _ w hJ
    obtain ⟨c0, c1, c2, c3⟩ := hi0.cells
    obtain ⟨ul, hul⟩ := l.ptr_form
    obtain ⟨ur, hur⟩ := r.ptr_form
    rw [hul] at c2
    have e0 : Co.nodes (.node b k v l r) = Co.nodes l ++ (b, k) :: Co.nodes r := rfl
    have e1 : N = pre ++ Co.nodes l ++ ((b, k) :: Co.nodes r ++ post) := by rw [hN, e0]; simp
    have e2 : N = (pre ++ Co.nodes l ++ [(b, k)]) ++ Co.nodes r ++ post := by rw [hN, e0]; simp
    have hL := ihl pre ((b, k) :: Co.nodes r ++ post) w e1 (fun i w h => (hIn i w h).2.1) hJ
    rw [hul] at hL
    have HL := Lib.hid hL
    have hlt : pre.length + (Co.nodes l).length < N.length := by rw [e1]; simp
    have hat : N[pre.length + (Co.nodes l).length]'hlt = (b, k) := by
      have h1 : N[pre.length + (Co.nodes l).length]? = some (b, k) := by
        rw [e1, ← List.length_append, List.getElem?_append_right (Nat.le_refl _), Nat.sub_self]
        rfl
      rw [List.getElem?_eq_getElem hlt] at h1
      exact Option.some.inj h1
    have hC : ∀ w', J (pre.length + (Co.nodes l).length) w' → Calls Tryd.prog 58 #[.pointer (some ⟨b, 0, none⟩), p0, p1] w' fun e w'' => e = .returned (.tuple #[]) ∧ J (pre.length + (Co.nodes l).length + 1) w'' := fun w' hw' => by
      have := hc _ hlt w' hw'
      rw [hat] at this
      exact this
    have HC := Lib.hid hC
    have hR : ∀ w', J (pre.length + (Co.nodes l).length + 1) w' → Calls Tryd.prog 53 #[.pointer ur, .func (.func 58) #[] #[p0, p1]] w' fun e w'' => e = .returned (.tuple #[]) ∧ J (pre.length + (Co.nodes l).length + 1 + (Co.nodes r).length) w'' := fun w' hw' => by
      have hl3 : (pre ++ Co.nodes l ++ [(b, k)]).length = pre.length + (Co.nodes l).length + 1 := by rw [List.length_append, List.length_append, List.length_singleton]
      have := ihr (pre ++ Co.nodes l ++ [(b, k)]) post w' e2 (fun i w h => (hIn i w h).2.2) (by rw [hl3]; exact hw')
      rw [hur, hl3] at this
      exact this
    have HR := Lib.hid hR
    have HX := Lib.hid (fun i w h => (hIn i w h).cells.2.2.2)
    rw [show (Ct.node b k v l r).ptr = .pointer (some ⟨b, 0, none⟩) from rfl]
    have hlen : pre.length + (Co.nodes l).length + 1 + (Co.nodes r).length = pre.length + (Co.nodes (.node b k v l r)).length := by rw [e0]; simp; omega
    have HLEN := Lib.hid hlen
    have HUR := Lib.hid hur
    clear hlen hR hC hat hlt hL e0 e1 e2 hul hur hi0 c0 c1 c3 ihl ihr hN hIn hJ hc
    go_enter Tryd.func53, Tryd.ntmps53
    go_wp2_with (first
      | (go_at_call 53; (with_reducible refine useC HL.out ?_); rintro e w1 ⟨rfl, hj⟩; have HJ1 := Lib.hid hj; clear hj HL)
      | (go_at_call 58; (with_reducible refine useC (HC.out w1 HJ1.out) ?_); rintro e w2 ⟨rfl, hj⟩; have HJ2 := Lib.hid hj; clear hj HJ1; have c3 := HX.out _ w2 HJ2.out; rw [HUR.out] at c3)
      | (have h' := HJ2; clear h'; go_at_call 53; (with_reducible refine useC (HR.out w2 HJ2.out) ?_); rintro e w3 ⟨rfl, hj⟩; have HJ3 := Lib.hid hj; clear hj))
    go_returns
    exact ⟨rfl, by rw [← HLEN.out]; exact HJ3.out⟩
end Go.Proofs.YtokbhiokcoldbaaDoor
