/- The contract of package cow: Shared. -/
import Derived.Test.YtbedfffmicbgmaaCoPut
import Derived.Test.YtbedfffmicbgmaaPSet
namespace Go.Proofs.Ytbedfffmicbgmaa
open Go.RowKit

theorem Try.info_node : ∃ i, Try.prog.info? 52 = some i ∧ i.size ≠ 0 := by
  have h : (Try.prog.info? 52).map (·.size) = some 4 := by kernel_rfl
  cases hi : Try.prog.info? 52 with
  | none => rw [hi] at h; cases h
  | some i => rw [hi] at h; exact ⟨i, rfl, by simp at h; omega⟩
theorem zero_boolC (w : World) : (zeroValue 4).run Try.prog w = .ok (.bool false) w := by kernel_rfl
theorem look_set (w : World) {m x : Nat} {L : List Nat} (h : PSet w m L) (hx : Plain w x) (hL : ∀ b ∈ L, Plain w b) : (Instr.lookup 56 (.map (some m)) (.pointer (some ⟨x, 0, none⟩)) false).run Try.prog w = .ok (.bool (L.contains x)) w := by
  obtain ⟨i, hi, hz⟩ := Try.info_node
  exact run_lookup_pset Try.underlying56 Try.underlying41 hi hz (zero_boolC w) h hx hL
theorem co_Add (w : World) {m x : Nat} {L : List Nat} (h : PSet w m L) (hx : Plain w x) (hL : ∀ b ∈ L, Plain w b) (hn : x ∉ L) :
    Calls Try.prog 24 #[.map (some m), .pointer (some ⟨x, 0, none⟩)] w fun e w' => e = .returned (.bool true) ∧ PSet w' m (L ++ [x]) ∧ Fr [m] w w' := by
  obtain ⟨i, hi, hz⟩ := Try.info_node
  have hlk := look_set w h hx hL
  rw [show L.contains x = false by simpa using hn] at hlk
  obtain ⟨w2, hu, hs2, hf2⟩ := run_update_pset Try.underlying56 Try.underlying41 hi hz h hx hL hn
  have H2 := Lib.hid (And.intro hs2 hf2)
  clear hs2 hf2 h hx hL hn hi hz
  go_enter Try.func24, Try.ntmps24
  go_wp2
  go_ret
  exact ⟨rfl, H2.out.1, H2.out.2⟩
/-- The blocks of the first i nodes. -/
def Co.blkTo (T : Ct) (i : Nat) : List Nat := ((Co.nodes T).take i).map (·.1)
theorem Co.blkTo_all (T : Ct) : Co.blkTo T (Co.nodes T).length = Co.blks T := by unfold Co.blkTo Co.blks; rw [List.take_length]
theorem Co.blkTo_succ {T : Ct} {i : Nat} (h : i < (Co.nodes T).length) : Co.blkTo T (i + 1) = Co.blkTo T i ++ [((Co.nodes T)[i]).1] := by
  unfold Co.blkTo
  rw [List.take_add_one, List.map_append, List.getElem?_eq_getElem h]
  rfl
theorem Co.blkTo_sub {T : Ct} {i : Nat} : ∀ b ∈ Co.blkTo T i, b ∈ Co.blks T := fun b hb => by
  unfold Co.blkTo at hb
  rw [List.map_take] at hb
  exact List.mem_of_mem_take hb
theorem Co.blkTo_new {T : Ct} (hn : (Co.blks T).Nodup) {i : Nat} (h : i < (Co.nodes T).length) : ((Co.nodes T)[i]).1 ∉ Co.blkTo T i := by
  unfold Co.blkTo
  rw [List.map_take]
  intro hm
  have hl : i < (Co.blks T).length := by rw [Co.len_blks]; exact h
  have he : (Co.blks T)[i] = ((Co.nodes T)[i]).1 := by simp [Co.blks]
  have hm' : ((Co.nodes T)[i]).1 ∈ (Co.blks T).take i := hm
  obtain ⟨j, hj, ej⟩ := List.getElem_of_mem hm'
  rw [List.length_take] at hj
  rw [List.getElem_take, ← he] at ej
  have := (List.getElem_inj hn).1 ej
  omega
theorem CoIn.plain {w : World} {T : Ct} (h : CoIn w T) : ∀ b ∈ Co.blks T, Plain w b := fun b hb => by
  obtain ⟨cs, hc⟩ := h.node_at hb
  exact ⟨cs, _, hc⟩
structure Sh1 (T : Ct) (w0 : World) (vb m i : Nat) (w : World) : Prop where
  box : w.heap[vb]? = some (.cells #[.map (some m)] 56 (0, 0))
  set : PSet w m (Co.blkTo T i)
  fr : Fr [] w0 w
  ge : w0.heap.size ≤ vb ∧ w0.heap.size ≤ m
  t0 : CoIn w0 T
theorem co_sh1 (T : Ct) (w0 : World) (vb m : Nat) (hn : (Co.blks T).Nodup) : ∀ i (hi : i < (Co.nodes T).length) w, Sh1 T w0 vb m i w →
    Calls Try.prog 23 #[.pointer (some ⟨((Co.nodes T)[i]).1, 0, none⟩), .pointer (some ⟨vb, 0, none⟩)] w fun e w' => e = .returned (.tuple #[]) ∧ Sh1 T w0 vb m (i + 1) w' := by
  intro i hi w hJ
  have c0 := cell_of_row w vb 0 _ _ _ hJ.box
  have c0 : w.cell? ⟨vb, 0, none⟩ = some (.map (some m)) := by rw [c0]; rfl
  have hin := hJ.t0.step hJ.fr
  have hx : Plain w ((Co.nodes T)[i]).1 := hin.plain _ (by unfold Co.blks; exact List.mem_map_of_mem (List.getElem_mem hi))
  have HA := Lib.hid (co_Add w hJ.set hx (fun b hb => hin.plain b (Co.blkTo_sub b hb)) (Co.blkTo_new hn hi))
  have HS := Lib.hid (Co.blkTo_succ hi)
  have HJ := Lib.hid hJ
  have hne : vb ≠ m := fun e => by
    obtain ⟨es, clk, h1, _⟩ := hJ.set
    rw [← e, hJ.box] at h1
    cases h1
  have HNE := Lib.hid hne
  clear hx hin hJ hne
  generalize ((Co.nodes T)[i]).1 = x at *
  go_enter Try.func23, Try.ntmps23
  go_wp2_with (go_at_call 24; (with_reducible refine useC HA.out ?_); rintro e w2 ⟨rfl, hs, hf⟩; have H2 := Lib.hid (And.intro hs hf); clear hs hf)
  go_returns
  exact ⟨rfl, H2.out.2.get HJ.out.box (by simpa using HNE.out), by rw [HS.out]; exact H2.out.1, HJ.out.fr.step H2.out.2 (fun y hy => .inr (by simp only [List.mem_singleton] at hy; subst hy; exact HJ.out.ge.2)), HJ.out.ge, HJ.out.t0⟩
/-- How many of the blocks l are among the blocks A. -/
def Co.shIn (A l : List Nat) : Nat := (l.filter fun b => A.contains b).length
theorem Co.shIn_succ (A l : List Nat) (x : Nat) : Co.shIn A (l ++ [x]) = Co.shIn A l + if A.contains x then 1 else 0 := by
  unfold Co.shIn
  rw [List.filter_append, List.length_append]
  congr 1
  simp only [List.filter_cons, List.filter_nil]
  split <;> rfl
theorem Co.shIn_le (A l : List Nat) : Co.shIn A l ≤ l.length := List.length_filter_le _ _
structure Sh2 (T TA : Ct) (w0 : World) (vb m cb i : Nat) (w : World) : Prop where
  box : w.heap[vb]? = some (.cells #[.map (some m)] 56 (0, 0))
  set : PSet w m (Co.blks TA)
  cnt : w.heap[cb]? = some (.cells #[.int .i64 (Co.shIn (Co.blks TA) (Co.blkTo T i) : Int)] 3 (0, 0))
  fr : Fr [] w0 w
  ge : w0.heap.size ≤ vb ∧ w0.heap.size ≤ m ∧ w0.heap.size ≤ cb
  t0 : CoIn w0 T
  ta : CoIn w0 TA
theorem co_sh2 (T TA : Ct) (w0 : World) (vb m cb : Nat) (hN : (Co.nodes T).length ≤ 900000) : ∀ i (hi : i < (Co.nodes T).length) w, Sh2 T TA w0 vb m cb i w →
    Calls Try.prog 25 #[.pointer (some ⟨((Co.nodes T)[i]).1, 0, none⟩), .pointer (some ⟨vb, 0, none⟩), .pointer (some ⟨cb, 0, none⟩)] w fun e w' => e = .returned (.tuple #[]) ∧ Sh2 T TA w0 vb m cb (i + 1) w' := by
  intro i hi w hJ
  have c0 := cell_of_row w vb 0 _ _ _ hJ.box
  have c0 : w.cell? ⟨vb, 0, none⟩ = some (.map (some m)) := by rw [c0]; rfl
  have c1 := cell_of_row w cb 0 _ _ _ hJ.cnt
  have c1 : w.cell? ⟨cb, 0, none⟩ = some (.int .i64 (Co.shIn (Co.blks TA) (Co.blkTo T i) : Int)) := by rw [c1]; rfl
  have f1 := free_block hJ.cnt 0 none
  have hin := hJ.t0.step hJ.fr
  have hx : Plain w ((Co.nodes T)[i]).1 := hin.plain _ (by unfold Co.blks; exact List.mem_map_of_mem (List.getElem_mem hi))
  have hlk := look_set w hJ.set hx (fun b hb => (hJ.ta.step hJ.fr).plain b hb)
  have HS := Lib.hid (Co.blkTo_succ hi)
  have HC := Lib.hid (Co.shIn_succ (Co.blks TA) (Co.blkTo T i) ((Co.nodes T)[i]).1)
  rw [← HS.out] at HC
  have hle := Co.shIn_le (Co.blks TA) (Co.blkTo T i)
  have hle2 : (Co.blkTo T i).length ≤ 900000 := by unfold Co.blkTo; simp; omega
  have HJ := Lib.hid hJ
  have hne : cb ≠ m := fun e => by
    obtain ⟨es, clk, h1, _⟩ := hJ.set
    rw [← e, hJ.cnt] at h1
    cases h1
  have hne2 : cb ≠ vb := fun e => by
    have h1 := hJ.box
    rw [← e, hJ.cnt] at h1
    injection h1 with h1
    injection h1 with _ h1 _
    exact absurd h1 (by decide)
  have HNE := Lib.hid (And.intro hne hne2)
  have q0 : (0 : Int) ≤ (Co.shIn (Co.blks TA) (Co.blkTo T i) : Int) := by omega
  have q9 : (Co.shIn (Co.blks TA) (Co.blkTo T i) : Int) ≤ 900000 := by omega
  clear hx hin hJ hne hne2 hle hle2 HS
  generalize ((Co.nodes T)[i]).1 = x at *
  have HX : Hid (∀ w', Fr [cb] w w' → w'.heap[cb]? = some (.cells #[.int .i64 (Co.shIn (Co.blks TA) (Co.blkTo T (i + 1)) : Int)] 3 (0, 0)) → Sh2 T TA w0 vb m cb (i + 1) w') := fun w' hf hc =>
    ⟨hf.get HJ.out.box (by simpa using HNE.out.2.symm), HJ.out.set.fr hf (by simpa using HNE.out.1.symm), hc, HJ.out.fr.step hf (fun y hy => .inr (by simp only [List.mem_singleton] at hy; subst hy; exact HJ.out.ge.2.2)), HJ.out.ge, HJ.out.t0, HJ.out.ta⟩
  cases hb : (Co.blks TA).contains x with
  | true =>
    rw [hb] at hlk HC
    have HCN := Lib.hid HJ.out.cnt
    clear hb
    go_enter Try.func25, Try.ntmps25
    go_wp2
    go_returns
    refine ⟨rfl, HX.out _ ((Fr.refl _ _).setCell (.inl (by simp)) _) ?_⟩
    rw [set_block HCN.out, HC.out]
    rfl
  | false =>
    rw [hb] at hlk HC
    have HCN := Lib.hid HJ.out.cnt
    clear hb
    go_enter Try.func25, Try.ntmps25
    go_wp2
    go_returns
    exact ⟨rfl, HX.out _ (Fr.refl _ _) (by rw [HC.out]; exact HCN.out)⟩
def coShared (st : List Ct) (a b : Int) : Value := if Co.has st a ∧ Co.has st b then .tuple #[.int .i64 (Co.shared (Co.tree st a) (Co.tree st b) : Int), .nilIface] else .tuple #[.int .i64 0, .iface 45 (.int .i64 1)]
set_option maxRecDepth 100000 in
set_option maxHeartbeats 1000000 in
theorem co_shared (w : World) (B sb : Nat) (st : List Ct) (a b : Int) (hS : CoS B w sb st) :
    Calls Try.prog 14 #[.pointer (some ⟨sb, 0, none⟩), .int .i64 a, .int .i64 b] w fun e w' => e = .returned (coShared st a b) ∧ Fr [] w w' := by
  have HRA := Lib.hid (co_root w B sb st a hS)
  have HRB := Lib.hid (co_root w B sb st b hS)
  by_cases ha : Co.has st a
  · by_cases hb : Co.has st b
    · have HR : Hid (coShared st a b = .tuple #[.int .i64 (Co.shared (Co.tree st a) (Co.tree st b) : Int), .nilIface]) := if_pos ⟨ha, hb⟩
      have ra : coRoot st a = .tuple #[(Co.tree st a).ptr, .nilIface] := if_pos ha
      have rb : coRoot st b = .tuple #[(Co.tree st b).ptr, .nilIface] := if_pos hb
      have ina := hS.ins _ (Co.tree_mem ha)
      have inb := hS.ins _ (Co.tree_mem hb)
      have nda := (hS.ok.apt _ (Co.tree_mem ha)).1
      have hfew := hS.ok.few _ (Co.tree_mem hb)
      have hl := hS.ok.len
      rw [ra] at HRA
      rw [rb] at HRB
      clear ra rb hS ha hb
      generalize Co.tree st a = TA at *
      generalize Co.tree st b = TB at *
      have hN : (Co.nodes TB).length ≤ 900000 := by omega
      have HE1 := Lib.hid (fun W vb m (h : Sh1 TA w vb m 0 W) => each_sh1 (.pointer (some ⟨vb, 0, none⟩)) (Co.nodes TA) (Sh1 TA w vb m) (co_sh1 TA w vb m nda) TA [] [] W (by simp) (fun i W hJ => hJ.t0.step hJ.fr) h)
      have HE2 := Lib.hid (fun W vb m cb (h : Sh2 TB TA w vb m cb 0 W) => each_sh2 (.pointer (some ⟨vb, 0, none⟩)) (.pointer (some ⟨cb, 0, none⟩)) (Co.nodes TB) (Sh2 TB TA w vb m cb) (co_sh2 TB TA w vb m cb hN) TB [] [] W (by simp) (fun i W hJ => hJ.t0.step hJ.fr) h)
      have HS1 : Hid (Sh1 TA w (w.heap.size + 1) w.heap.size 0 ((w.alloc (.map #[] 0)).alloc (.cells #[.map (some w.heap.size)] 56))) := by
        have hs : (w.alloc (.map #[] 0)).heap.size = w.heap.size + 1 := by simp
        have h1 := heap_alloc_new (w.alloc (.map #[] 0)) (.cells #[.map (some w.heap.size)] 56)
        rw [hs] at h1
        exact ⟨h1, (PSet.made w).fr (S := []) ((Fr.refl _ _).alloc _) (by simp), ((Fr.refl _ _).alloc _).alloc _, ⟨by omega, Nat.le_refl _⟩, ina⟩
      have HIN := Lib.hid (And.intro ina inb)
      obtain ⟨ua, hua⟩ := TA.ptr_form
      obtain ⟨ub, hub⟩ := TB.ptr_form
      rw [hua] at HRA HE1
      rw [hub] at HRB HE2
      have hmm := @run_makeMap Try.prog
      clear hua hub ina inb nda hfew hl hN
      go_enter Try.func14, Try.ntmps14
      go_wp2_with (first
        | (go_at_call 17; (with_reducible refine useC HRA.out ?_); rintro e w0 ⟨rfl, rfl⟩)
        | (go_at_call 17; (with_reducible refine useC HRB.out ?_); rintro e w0 ⟨rfl, rfl⟩)
        | (go_at_call 20; (with_reducible refine useC (HE1.out _ _ _ HS1.out) ?_); rintro e w1 ⟨rfl, hj⟩; rw [List.length_nil, Nat.zero_add] at hj; have H1 := Lib.hid hj; clear hj)
        | (have h' := H1; clear h'; go_at_call 20; (with_reducible refine useC (HE2.out _ _ _ _ ⟨((Fr.refl [] w1).alloc _).get H1.out.box (by simp), (by have h2 := H1.out.set; rw [Co.blkTo_all] at h2; exact h2.fr (S := []) ((Fr.refl _ _).alloc _) (by simp)), heap_alloc_new w1 _, H1.out.fr.alloc _, ⟨H1.out.ge.1, H1.out.ge.2, H1.out.fr.size⟩, HIN.out.2, HIN.out.1⟩) ?_); rintro e w2 ⟨rfl, hj⟩; rw [List.length_nil, Nat.zero_add] at hj; have H2 := Lib.hid hj; have c2 := cell_of_row w2 w1.heap.size 0 _ _ _ hj.cnt; have c2 : w2.cell? ⟨w1.heap.size, 0, none⟩ = some (.int .i64 (Co.shIn (Co.blks TA) (Co.blkTo TB (Co.nodes TB).length) : Int)) := (by rw [c2]; rfl); clear hj))
      go_ret2
      rw [HR.out]
      refine ⟨?_, H2.out.fr⟩
      rw [show Co.shared TA TB = Co.shIn (Co.blks TA) (Co.blkTo TB (Co.nodes TB).length) from by rw [Co.blkTo_all]; rfl]
      rfl
    · have HR : Hid (coShared st a b = .tuple #[.int .i64 0, .iface 45 (.int .i64 1)]) := if_neg (fun h => hb h.2)
      have ra : coRoot st a = .tuple #[(Co.tree st a).ptr, .nilIface] := if_pos ha
      have rb : coRoot st b = .tuple #[.pointer none, .iface 45 (.int .i64 1)] := if_neg hb
      rw [ra] at HRA
      rw [rb] at HRB
      obtain ⟨ua, hua⟩ := (Co.tree st a).ptr_form
      rw [hua] at HRA
      clear ra rb hS ha hb hua
      go_enter Try.func14, Try.ntmps14
      go_wp2_with (first
        | (go_at_call 17; (with_reducible refine useC HRA.out ?_); rintro e w0 ⟨rfl, rfl⟩)
        | (go_at_call 17; (with_reducible refine useC HRB.out ?_); rintro e w0 ⟨rfl, rfl⟩))
      go_ret2
      exact ⟨by rw [HR.out]; rfl, Fr.refl _ _⟩
  · have HR : Hid (coShared st a b = .tuple #[.int .i64 0, .iface 45 (.int .i64 1)]) := if_neg (fun h => ha h.1)
    have ra : coRoot st a = .tuple #[.pointer none, .iface 45 (.int .i64 1)] := if_neg ha
    rw [ra] at HRA
    clear ra hS ha HRB
    go_enter Try.func14, Try.ntmps14
    go_wp2_with (go_at_call 17; (with_reducible refine useC HRA.out ?_); rintro e w0 ⟨rfl, rfl⟩)
    go_ret2
    exact ⟨by rw [HR.out]; rfl, Fr.refl _ _⟩
end Go.Proofs.Ytbedfffmicbgmaa
