/- The contract of package cow: Shared. -/
import Derived.WalkKit
import Derived.Test.YtokbhiokcoldbaaDoorCq12
import Derived.Test.YtokbhiokcoldbaaDoorCq14
namespace Go.Proofs.YtokbhiokcoldbaaDoor
open Go.RowKit

theorem Tryd.info_node : ∃ i, Tryd.prog.info? 93 = some i ∧ i.size ≠ 0 := by
  have h : (Tryd.prog.info? 93).map (·.size) = some 4 := by kernel_rfl
  cases hi : Tryd.prog.info? 93 with
  | none => rw [hi] at h; cases h
  | some i => rw [hi] at h; exact ⟨i, rfl, by simp at h; omega⟩
theorem zero_boolC (w : World) : (zeroValue 4).run Tryd.prog w = .ok (.bool false) w := by kernel_rfl
theorem look_set (w : World) {m x : Nat} {L : List Nat} (h : PSet w m L) (hx : Plain w x) (hL : ∀ b ∈ L, Plain w b) : (Instr.lookup 97 (.map (some m)) (.pointer (some ⟨x, 0, none⟩)) false).run Tryd.prog w = .ok (.bool (L.contains x)) w := by
  obtain ⟨i, hi, hz⟩ := Tryd.info_node
  exact run_lookup_pset Tryd.underlying97 Tryd.underlying84 hi hz (zero_boolC w) h hx hL
theorem co_Add (w : World) {m x : Nat} {L : List Nat} (h : PSet w m L) (hx : Plain w x) (hL : ∀ b ∈ L, Plain w b) (hn : x ∉ L) :
    Calls Tryd.prog 57 #[.map (some m), .pointer (some ⟨x, 0, none⟩)] w fun e w' => e = .returned (.bool true) ∧ PSet w' m (L ++ [x]) ∧ Fr [m] w w' := by
  obtain ⟨i, hi, hz⟩ := Tryd.info_node
  have hlk := look_set w h hx hL
  rw [show L.contains x = false by simpa using hn] at hlk
  obtain ⟨w2, hu, hs2, hf2⟩ := run_update_pset Tryd.underlying97 Tryd.underlying84 hi hz h hx hL hn
  have H2 := Lib.hid (And.intro hs2 hf2)
  clear hs2 hf2 h hx hL hn hi hz
  go_enter Tryd.func57, Tryd.ntmps57
  go_wp2
  go_ret
  exact ⟨rfl, H2.out.1, H2.out.2⟩
/-- The blocks of the first i nodes. -/
def Co.blkTo (T : Ct) (i : Nat) : List Nat := ((Co.nodes T).take i).map (·.1)
theorem Co.blkTo_all (T : Ct) : Co.blkTo T (Co.nodes T).length = Co.blks T := by unfold Co.blkTo Co.blks; rw [List.take_length]
theorem Co.blkTo_succ {T : Ct} {i : Nat} (h : i < (Co.nodes T).length) : Co.blkTo T (i + 1) = Co.blkTo T i ++ [((Co.nodes T)[i]).1] := by
  unfold Co.blkTo
  rw [List.take_add_one, List.map_append, List.getElem?_eq_getElem h]
  rfl
theorem Co.blkTo_sub {T : Ct} {i : Nat} : ∀ b ∈ Co.blkTo T i, b ∈ Co.blks T := fun b hb => by
  unfold Co.blkTo at hb
  rw [List.map_take] at hb
  exact List.mem_of_mem_take hb
theorem Co.blkTo_new {T : Ct} (hn : (Co.blks T).Nodup) {i : Nat} (h : i < (Co.nodes T).length) : ((Co.nodes T)[i]).1 ∉ Co.blkTo T i := by
  unfold Co.blkTo
  rw [List.map_take]
  intro hm
  have hl : i < (Co.blks T).length := by rw [Co.len_blks]; exact h
  have he : (Co.blks T)[i] = ((Co.nodes T)[i]).1 := by simp [Co.blks]
  have hm' : ((Co.nodes T)[i]).1 ∈ (Co.blks T).take i := hm
  obtain ⟨j, hj, ej⟩ := List.getElem_of_mem hm'
  rw [List.length_take] at hj
  rw [List.getElem_take, ← he] at ej
  have := (List.getElem_inj hn).1 ej
  omega
theorem CoIn.plain {w : World} {T : Ct} (h : CoIn w T) : ∀ b ∈ Co.blks T, Plain w b := fun b hb => by
  obtain ⟨cs, hc⟩ := h.node_at hb
  exact ⟨cs, _, hc⟩
structure Sh1 (T : Ct) (w0 : World) (vb m i : Nat) (w : World) : Prop where
  box : w.heap[vb]? = some (.cells #[.map (some m)] 97 (0, 0))
  set : PSet w m (Co.blkTo T i)
  fr : Fr [] w0 w
  ge : w0.heap.size ≤ vb ∧ w0.heap.size ≤ m
  t0 : CoIn w0 T
theorem co_sh1 (T : Ct) (w0 : World) (vb m : Nat) (hn : (Co.blks T).Nodup) : ∀ i (hi : i < (Co.nodes T).length) w, Sh1 T w0 vb m i w →
    Calls Tryd.prog 56 #[.pointer (some ⟨((Co.nodes T)[i]).1, 0, none⟩), .pointer (some ⟨vb, 0, none⟩)] w fun e w' => e = .returned (.tuple #[]) ∧ Sh1 T w0 vb m (i + 1) w' := by
  intro i hi w hJ
  have c0 := cell_of_row w vb 0 _ _ _ hJ.box
  have c0 : w.cell? ⟨vb, 0, none⟩ = some (.map (some m)) := by rw [c0]; rfl
  have hin := hJ.t0.step hJ.fr
  have hx : Plain w ((Co.nodes T)[i]).1 := hin.plain _ (by unfold Co.blks; exact List.mem_map_of_mem (List.getElem_mem hi))
  have HA := Lib.hid (co_Add w hJ.set hx (fun b hb => hin.plain b (Co.blkTo_sub b hb)) (Co.blkTo_new hn hi))
  have HS := Lib.hid (Co.blkTo_succ hi)
  have HJ := Lib.hid hJ
  have hne : vb ≠ m := fun e => by
    obtain ⟨es, clk, h1, _⟩ := hJ.set
    rw [← e, hJ.box] at h1
    cases h1
  have HNE := Lib.hid hne
  clear hx hin hJ hne
  generalize ((Co.nodes T)[i]).1 = x at *
  go_enter Tryd.func56, Tryd.ntmps56
  go_wp2_with (go_at_call 57; (with_reducible refine useC HA.out ?_); rintro e w2 ⟨rfl, hs, hf⟩; have H2 := Lib.hid (And.intro hs hf); clear hs hf)
  go_returns
  exact ⟨rfl, H2.out.2.get HJ.out.box (by simpa using HNE.out), by rw [HS.out]; exact H2.out.1, HJ.out.fr.step H2.out.2 (fun y hy => .inr (by simp only [List.mem_singleton] at hy; subst hy; exact HJ.out.ge.2)), HJ.out.ge, HJ.out.t0⟩
/-- How many of the blocks l are among the blocks A. -/
def Co.shIn (A l : List Nat) : Nat := (l.filter fun b => A.contains b).length
theorem Co.shIn_succ (A l : List Nat) (x : Nat) : Co.shIn A (l ++ [x]) = Co.shIn A l + if A.contains x then 1 else 0 := by
  unfold Co.shIn
  rw [List.filter_append, List.length_append]
  congr 1
  simp only [List.filter_cons, List.filter_nil]
  split <;> rfl
theorem Co.shIn_le (A l : List Nat) : Co.shIn A l ≤ l.length := List.length_filter_le _ _
structure Sh2 (T TA : Ct) (w0 : World) (vb m cb i : Nat) (w : World) : Prop where
  box : w.heap[vb]? = some (.cells #[.map (some m)] 97 (0, 0))
  set : PSet w m (Co.blks TA)
  cnt : w.heap[cb]? = some (.cells #[.int .i64 (Co.shIn (Co.blks TA) (Co.blkTo T i) : Int)] 3 (0, 0))
  fr : Fr [] w0 w
  ge : w0.heap.size ≤ vb ∧ w0.heap.size ≤ m ∧ w0.heap.size ≤ cb
  t0 : CoIn w0 T
  ta : CoIn w0 TA
theorem co_sh2 (T TA : Ct) (w0 : World) (vb m cb : Nat) (hN : (Co.nodes T).length ≤ 900000) : ∀ i (hi : i < (Co.nodes T).length) w, Sh2 T TA w0 vb m cb i w →
    Calls Tryd.prog 58 #[.pointer (some ⟨((Co.nodes T)[i]).1, 0, none⟩), .pointer (some ⟨vb, 0, none⟩), .pointer (some ⟨cb, 0, none⟩)] w fun e w' => e = .returned (.tuple #[]) ∧ Sh2 T TA w0 vb m cb (i + 1) w' := by
  intro i hi w hJ
  have c0 := cell_of_row w vb 0 _ _ _ hJ.box
  have c0 : w.cell? ⟨vb, 0, none⟩ = some (.map (some m)) := by rw [c0]; rfl
  have c1 := cell_of_row w cb 0 _ _ _ hJ.cnt
  have c1 : w.cell? ⟨cb, 0, none⟩ = some (.int .i64 (Co.shIn (Co.blks TA) (Co.blkTo T i) : Int)) := by rw [c1]; rfl
  have f1 := free_block hJ.cnt 0 none
  have hin := hJ.t0.step hJ.fr
  have hx : Plain w ((Co.nodes T)[i]).1 := hin.plain _ (by unfold Co.blks; exact List.mem_map_of_mem (List.getElem_mem hi))
  have hlk := look_set w hJ.set hx (fun b hb => (hJ.ta.step hJ.fr).plain b hb)
  have HS := Lib.hid (Co.blkTo_succ hi)
  have HC := Lib.hid (Co.shIn_succ (Co.blks TA) (Co.blkTo T i) ((Co.nodes T)[i]).1)
  rw [← HS.out] at HC
  have hle := Co.shIn_le (Co.blks TA) (Co.blkTo T i)
  have hle2 : (Co.blkTo T i).length ≤ 900000 := by unfold Co.blkTo; simp; omega
  have HJ := Lib.hid hJ
  have hne : cb ≠ m := fun e => by
    obtain ⟨es, clk, h1, _⟩ := hJ.set
    rw [← e, hJ.cnt] at h1
    cases h1
  have hne2 : cb ≠ vb := fun e => by
    have h1 := hJ.box
    rw [← e, hJ.cnt] at h1
    injection h1 with h1
    injection h1 with _ h1 _
    exact absurd h1 (by decide)
  have HNE := Lib.hid (And.intro hne hne2)
  have q0 : (0 : Int) ≤ (Co.shIn (Co.blks TA) (Co.blkTo T i) : Int) := by omega
  have q9 : (Co.shIn (Co.blks TA) (Co.blkTo T i) : Int) ≤ 900000 := by omega
  clear hx hin hJ hne hne2 hle hle2 HS
  generalize ((Co.nodes T)[i]).1 = x at *
  have HX : Hid (∀ w', Fr [cb] w w' → w'.heap[cb]? = some (.cells #[.int .i64 (Co.shIn (Co.blks TA) (Co.blkTo T (i + 1)) : Int)] 3 (0, 0)) → Sh2 T TA w0 vb m cb (i + 1) w') := fun w' hf hc =>
    ⟨hf.get HJ.out.box (by simpa using HNE.out.2.symm), HJ.out.set.fr hf (by simpa using HNE.out.1.symm), hc, HJ.out.fr.step hf (fun y hy => .inr (by simp only [List.mem_singleton] at hy; subst hy; exact HJ.out.ge.2.2)), HJ.out.ge, HJ.out.t0, HJ.out.ta⟩
  cases hb : (Co.blks TA).contains x with
  | true =>
    rw [hb] at hlk HC
    have HCN := Lib.hid HJ.out.cnt
    clear hb
    go_enter Tryd.func58, Tryd.ntmps58
    go_wp2
    go_returns
    refine ⟨rfl, HX.out _ ((Fr.refl _ _).setCell (.inl (by simp)) _) ?_⟩
    rw [set_block HCN.out, HC.out]
    rfl
  | false =>
    rw [hb] at hlk HC
    have HCN := Lib.hid HJ.out.cnt
    clear hb
    go_enter Tryd.func58, Tryd.ntmps58
    go_wp2
    go_returns
    exact ⟨rfl, HX.out _ (Fr.refl _ _) (by rw [HC.out]; exact HCN.out)⟩
def coShared (st : List Ct) (a b : Int) : Value := if Co.has st a ∧ Co.has st b then .tuple #[.int .i64 (Co.shared (Co.tree st a) (Co.tree st b) : Int), .nilIface] else .tuple #[.int .i64 0, .iface 88 (.int .i64 1)]
set_option maxRecDepth 100000 in
set_option maxHeartbeats 1000000 in
theorem co_shared (w : World) (B sb : Nat) (st : List Ct) (a b : Int) (hS : CoS B w sb st) :
    Calls Tryd.prog 18 #[.pointer (some ⟨sb, 0, none⟩), .int .i64 a, .int .i64 b] w fun e w' => e = .returned (coShared st a b) ∧ Fr [] w w' := by
  have HRA := Lib.hid (co_root w B sb st a hS)
  have HRB := Lib.hid (co_root w B sb st b hS)
  by_cases ha : Co.has st a
  · by_cases hb : Co.has st b
    · have HR : Hid (coShared st a b = .tuple #[.int .i64 (Co.shared (Co.tree st a) (Co.tree st b) : Int), .nilIface]) := if_pos ⟨ha, hb⟩
      have ra : coRoot st a = .tuple #[(Co.tree st a).ptr, .nilIface] := if_pos ha
      have rb : coRoot st b = .tuple #[(Co.tree st b).ptr, .nilIface] := if_pos hb
      have ina := hS.ins _ (Co.tree_mem ha)
      have inb := hS.ins _ (Co.tree_mem hb)
      have nda := (hS.ok.apt _ (Co.tree_mem ha)).1
      have hfew := hS.ok.few _ (Co.tree_mem hb)
      have hl := hS.ok.len
      rw [ra] at HRA
      rw [rb] at HRB
      clear ra rb hS ha hb
      generalize Co.tree st a = TA at *
      generalize Co.tree st b = TB at *
      have hN : (Co.nodes TB).length ≤ 900000 := by omega
      have HE1 := Lib.hid (fun W vb m (h : Sh1 TA w vb m 0 W) => each_sh1 (.pointer (some ⟨vb, 0, none⟩)) (Co.nodes TA) (Sh1 TA w vb m) (co_sh1 TA w vb m nda) TA [] [] W (by simp) (fun i W hJ => hJ.t0.step hJ.fr) h)
      have HE2 := Lib.hid (fun W vb m cb (h : Sh2 TB TA w vb m cb 0 W) => each_sh2 (.pointer (some ⟨vb, 0, none⟩)) (.pointer (some ⟨cb, 0, none⟩)) (Co.nodes TB) (Sh2 TB TA w vb m cb) (co_sh2 TB TA w vb m cb hN) TB [] [] W (by simp) (fun i W hJ => hJ.t0.step hJ.fr) h)
      have HS1 : Hid (Sh1 TA w (w.heap.size + 1) w.heap.size 0 ((w.alloc (.map #[] 0)).alloc (.cells #[.map (some w.heap.size)] 97))) := by
        have hs : (w.alloc (.map #[] 0)).heap.size = w.heap.size + 1 := by simp
        have h1 := heap_alloc_new (w.alloc (.map #[] 0)) (.cells #[.map (some w.heap.size)] 97)
        rw [hs] at h1
        exact ⟨h1, (PSet.made w).fr (S := []) ((Fr.refl _ _).alloc _) (by simp), ((Fr.refl _ _).alloc _).alloc _, ⟨by omega, Nat.le_refl _⟩, ina⟩
      have HIN := Lib.hid (And.intro ina inb)
      obtain ⟨ua, hua⟩ := TA.ptr_form
      obtain ⟨ub, hub⟩ := TB.ptr_form
      rw [hua] at HRA HE1
      rw [hub] at HRB HE2
      have hmm := @run_makeMap Tryd.prog
      clear hua hub ina inb nda hfew hl hN
      go_enter Tryd.func18, Tryd.ntmps18
      go_wp2_with (first
        | (go_at_call 49; (with_reducible refine useC HRA.out ?_); rintro e w0 ⟨rfl, rfl⟩)
        | (go_at_call 49; (with_reducible refine useC HRB.out ?_); rintro e w0 ⟨rfl, rfl⟩)
        | (go_at_call 53; (with_reducible refine useC (HE1.out _ _ _ HS1.out) ?_); rintro e w1 ⟨rfl, hj⟩; rw [List.length_nil, Nat.zero_add] at hj; have H1 := Lib.hid hj; clear hj)
        | (have h' := H1; clear h'; go_at_call 53; (with_reducible refine useC (HE2.out _ _ _ _ ⟨((Fr.refl [] w1).alloc _).get H1.out.box (by simp), (by have h2 := H1.out.set; rw [Co.blkTo_all] at h2; exact h2.fr (S := []) ((Fr.refl _ _).alloc _) (by simp)), heap_alloc_new w1 _, H1.out.fr.alloc _, ⟨H1.out.ge.1, H1.out.ge.2, H1.out.fr.size⟩, HIN.out.2, HIN.out.1⟩) ?_); rintro e w2 ⟨rfl, hj⟩; rw [List.length_nil, Nat.zero_add] at hj; have H2 := Lib.hid hj; have c2 := cell_of_row w2 w1.heap.size 0 _ _ _ hj.cnt; have c2 : w2.cell? ⟨w1.heap.size, 0, none⟩ = some (.int .i64 (Co.shIn (Co.blks TA) (Co.blkTo TB (Co.nodes TB).length) : Int)) := (by rw [c2]; rfl); clear hj))
      go_ret2
      rw [HR.out]
      refine ⟨?_, H2.out.fr⟩
      rw [show Co.shared TA TB = Co.shIn (Co.blks TA) (Co.blkTo TB (Co.nodes TB).length) from by rw [Co.blkTo_all]; rfl]
      rfl
    · have HR : Hid (coShared st a b = .tuple #[.int .i64 0, .iface 88 (.int .i64 1)]) := if_neg (fun h => hb h.2)
      have ra : coRoot st a = .tuple #[(Co.tree st a).ptr, .nilIface] := if_pos ha
      have rb : coRoot st b = .tuple #[.pointer none, .iface 88 (.int .i64 1)] := if_neg hb
      rw [ra] at HRA
      rw [rb] at HRB
      obtain ⟨ua, hua⟩ := (Co.tree st a).ptr_form
      rw [hua] at HRA
      clear ra rb hS ha hb hua
      go_enter Tryd.func18, Tryd.ntmps18
      go_wp2_with (first
        | (go_at_call 49; (with_reducible refine useC HRA.out ?_); rintro e w0 ⟨rfl, rfl⟩)
        | (go_at_call 49; (with_reducible refine useC HRB.out ?_); rintro e w0 ⟨rfl, rfl⟩))
      go_ret2
      exact ⟨by rw [HR.out]; rfl, Fr.refl _ _⟩
  · have HR : Hid (coShared st a b = .tuple #[.int .i64 0, .iface 88 (.int .i64 1)]) := if_neg (fun h => ha h.1)
    have ra : coRoot st a = .tuple #[.pointer none, .iface 88 (.int .i64 1)] := if_neg ha
    rw [ra] at HRA
    clear ra hS ha HRB
    go_enter Tryd.func18, Tryd.ntmps18
    go_wp2_with (go_at_call 49; (with_reducible refine useC HRA.out ?_); rintro e w0 ⟨rfl, rfl⟩)
    go_ret2
    exact ⟨by rw [HR.out]; rfl, Fr.refl _ _⟩
end Go.Proofs.YtokbhiokcoldbaaDoor
/- Trees of keys whose leaves are all as deep (package btree), in plain Lean: by their depth. No program in sight. -/
namespace Go.Proofs.YtokbhiokcoldbaaDoor
namespace Bt

/-- A tree of depth d: its keys and, above the leaves, its kids. -/
def T : Nat → Type
  | 0 => List Int
  | d + 1 => List Int × List (T d)
def ks : (d : Nat) → T d → List Int
  | 0, t => t
  | _ + 1, t => t.1
/-- How many keys are below. -/
def lb (x : Int) : List Int → Nat
  | [] => 0
  | y :: r => if y < x then lb x r + 1 else 0
def ins {α : Type} (l : List α) (i : Nat) (x : α) : List α := l.take i ++ x :: l.drop i
/-- Keys between lists. -/
def weave : List Int → List (List Int) → List Int
  | [], ls => ls.headD []
  | k :: r, ls => ls.headD [] ++ k :: weave r ls.tail
/-- All keys, from left to right. -/
def all : (d : Nat) → T d → List Int
  | 0, t => t
  | d + 1, t => weave t.1 (t.2.map (all d))
def hasK (l : List Int) (x : Int) : Bool := l[lb x l]? == some x
def has : (d : Nat) → T d → Int → Bool
  | 0, t, x => hasK t x
  | d + 1, t, x => if hasK t.1 x then true else match t.2[lb x t.1]? with
    | some s => has d s x
    | none => false
/-- A node whose keys are too many is split; the middle one goes up. -/
def cut0 (l : List Int) : List Int × Option (Int × List Int) := if l.length ≤ 4 then (l, none) else (l.take 2, some (l.getD 2 0, l.drop 3))
def cutN {α : Type} (l : List Int) (m : List α) : (List Int × List α) × Option (Int × (List Int × List α)) := if l.length ≤ 4 then ((l, m), none) else ((l.take 2, m.take 3), some (l.getD 2 0, (l.drop 3, m.drop 3)))
def add : (d : Nat) → T d → Int → T d × Option (Int × T d)
  | 0, t, x => cut0 (ins (α := Int) t (lb x t) x)
  | d + 1, t, x => match t.2[lb x t.1]? with
    | none => (t, none)
    | some s => match add d s x with
      | (s', none) => ((t.1, t.2.set (lb x t.1) s'), none)
      | (s', some (up, r)) => cutN (ins t.1 (lb x t.1) up) (ins (t.2.set (lb x t.1) s') (lb x t.1 + 1) r)
/-- Of how many keys the nodes are: lo of the topmost one at least. -/
def Ok : (d : Nat) → Nat → T d → Prop
  | 0, lo, t => lo ≤ List.length (α := Int) t ∧ List.length (α := Int) t ≤ 4
  | d + 1, lo, t => (lo ≤ t.1.length ∧ t.1.length ≤ 4) ∧ t.2.length = t.1.length + 1 ∧ ∀ s ∈ t.2, Ok d 2 s
def Up (l : List Int) : Prop := l.Pairwise (· < ·)
/-- A number into a rising list. -/
def insS (x : Int) : List Int → List Int
  | [] => [x]
  | y :: r => if y < x then y :: insS x r else x :: y :: r
theorem lb_le (x : Int) : ∀ (l : List Int), lb x l ≤ l.length
  | [] => Nat.le_refl _
  | y :: r => by
    have := lb_le x r
    unfold lb
    split <;> simp <;> omega
theorem ins_len {α : Type} (l : List α) (i : Nat) (x : α) (h : i ≤ l.length) : (ins l i x).length = l.length + 1 := by
  unfold ins
  simp only [List.length_append, List.length_take, List.length_cons, List.length_drop]
  omega
theorem insS_append_lt (x : Int) : ∀ (a b : List Int), (∀ y ∈ a, y < x) → insS x (a ++ b) = a ++ insS x b
  | [], _, _ => rfl
  | y :: r, b, h => by
    rw [List.cons_append, insS, if_pos (h y (by simp)), insS_append_lt x r b (fun z hz => h z (by simp [hz]))]
    rfl
theorem insS_append_gt (x : Int) : ∀ (a b : List Int), (∀ y ∈ b, x < y) → insS x (a ++ b) = insS x a ++ b
  | [], [], _ => rfl
  | [], y :: r, h => by
    have := h y (by simp)
    show insS x (y :: r) = x :: y :: r
    rw [insS, if_neg (by omega)]
  | z :: r, b, h => by
    rw [List.cons_append, insS, insS]
    split
    · rw [insS_append_gt x r b h]; rfl
    · rfl
theorem insS_lb (x : Int) : ∀ (l : List Int), insS x l = ins l (lb x l) x
  | [] => rfl
  | y :: r => by
    rw [insS]
    unfold lb
    split
    · rw [insS_lb x r]; rfl
    · rfl
theorem mem_insS (x y : Int) : ∀ (l : List Int), y ∈ insS x l ↔ y = x ∨ y ∈ l
  | [] => by simp [insS]
  | z :: r => by
    rw [insS]
    split
    · simp [mem_insS x y r]; constructor <;> (rintro (h | h | h) <;> simp [h])
    · simp
theorem up_insS (x : Int) : ∀ (l : List Int), Up l → x ∉ l → Up (insS x l)
  | [], _, _ => by simp [insS, Up]
  | y :: r, h, hn => by
    have hh := h
    rw [Up, List.pairwise_cons] at h
    rw [insS]
    split
    · rename_i hy
      rw [Up, List.pairwise_cons]
      refine ⟨fun z hz => ?_, up_insS x r h.2 (fun hm => hn (by simp [hm]))⟩
      rcases (mem_insS x z r).1 hz with rfl | hz
      · exact hy
      · exact h.1 z hz
    · rename_i hy
      have hne : x ≠ y := fun e => hn (by simp [e])
      rw [Up, List.pairwise_cons]
      refine ⟨fun z hz => ?_, hh⟩
      rcases List.mem_cons.1 hz with rfl | hz
      · omega
      · have := h.1 z hz; omega
theorem len_insS (x : Int) : ∀ (l : List Int), (insS x l).length = l.length + 1
  | [] => rfl
  | y :: r => by
    rw [insS]
    split
    · simp [len_insS x r]
    · rfl
/-! ### Keys between lists -/
theorem weave_len : ∀ (k : List Int) (ls : List (List Int)), ls.length = k.length + 1 → (weave k ls).length = k.length + (ls.map List.length).sum
  | [], [l], _ => by simp [weave]
  | k :: r, l :: ls, h => by
    have ih := weave_len r ls (by simpa using h)
    simp only [weave, List.headD_cons, List.tail_cons, List.length_append, List.length_cons, ih, List.map_cons, List.sum_cons]
    omega
theorem mem_weave (x : Int) : ∀ (k : List Int) (ls : List (List Int)), ls.length = k.length + 1 → (x ∈ weave k ls ↔ x ∈ k ∨ ∃ l ∈ ls, x ∈ l)
  | [], [l], _ => by simp [weave]
  | k :: r, l :: ls, h => by
    have ih := mem_weave x r ls (by simpa using h)
    simp only [weave, List.headD_cons, List.tail_cons, List.mem_append, List.mem_cons, ih]
    constructor
    · rintro (h | h | h | ⟨m, h1, h2⟩)
      · exact .inr ⟨l, .inl rfl, h⟩
      · exact .inl (.inl h)
      · exact .inl (.inr h)
      · exact .inr ⟨m, .inr h1, h2⟩
    · rintro ((h | h) | ⟨m, h1 | h1, h2⟩)
      · exact .inr (.inl h)
      · exact .inr (.inr (.inl h))
      · subst h1; exact .inl h2
      · exact .inr (.inr (.inr ⟨m, h1, h2⟩))
/-- A number lies in the list that its place says. -/
theorem insS_weave (x : Int) : ∀ (k : List Int) (ls : List (List Int)), ls.length = k.length + 1 → Up (weave k ls) → x ∉ k → insS x (weave k ls) = weave k (ls.set (lb x k) (insS x (ls.getD (lb x k) [])))
  | [], [l], _, _, _ => by simp [weave, lb]
  | k :: r, l :: ls, h, hu, hn => by
    have hu' : Up (l ++ k :: weave r ls) := hu
    rw [Up, List.pairwise_append, List.pairwise_cons] at hu'
    obtain ⟨h1, ⟨h2, h3⟩, h4⟩ := hu'
    simp only [weave, List.headD_cons, List.tail_cons]
    by_cases hk : k < x
    · have e : lb x (k :: r) = lb x r + 1 := by rw [lb, if_pos hk]
      have ih := insS_weave x r ls (by simpa using h) h3 (fun hm => hn (by simp [hm]))
      rw [e, insS_append_lt x l _ (fun y hy => by have := h4 y hy k (by simp); omega), insS, if_pos hk, ih]
      simp
    · have hkx : x < k := by
        have : x ≠ k := fun e => hn (by simp [e])
        omega
      have e : lb x (k :: r) = 0 := by rw [lb, if_neg hk]
      rw [e, insS_append_gt x l _ (fun y hy => by
        rcases List.mem_cons.1 hy with rfl | hy
        · exact hkx
        · have := h2 y hy; omega)]
      simp
/-- A list is split: its middle goes between. -/
theorem weave_split (u : Int) (a b : List Int) : ∀ (k : List Int) (ls : List (List Int)) (i : Nat), ls.length = k.length + 1 → i ≤ k.length → weave k (ls.set i (a ++ u :: b)) = weave (ins k i u) (ins (ls.set i a) (i + 1) b)
  | [], [l], 0, _, _ => by simp [weave, ins]
  | k :: r, l :: ls, 0, h, _ => by
    cases ls with
    | nil => simp at h
    | cons m ls => simp [weave, ins]
  | k :: r, l :: ls, i + 1, h, hi => by
    have ih := weave_split u a b r ls i (by simpa using h) (by simpa using hi)
    have e1 : ins (k :: r) (i + 1) u = k :: ins r i u := by simp [ins]
    have e2 : ins ((l :: ls).set (i + 1) a) (i + 1 + 1) b = l :: ins (ls.set i a) (i + 1) b := by simp [ins]
    rw [e1, e2]
    simp only [weave, List.set_cons_succ, List.headD_cons, List.tail_cons, ih]
theorem weave_cut : ∀ (k : List Int) (ls : List (List Int)) (i : Nat), ls.length = k.length + 1 → i < k.length → weave k ls = weave (k.take i) (ls.take (i + 1)) ++ k.getD i 0 :: weave (k.drop (i + 1)) (ls.drop (i + 1))
  | k :: r, l :: ls, 0, h, _ => by
    cases ls with
    | nil => simp at h
    | cons m ls => simp [weave]
  | k :: r, l :: ls, i + 1, h, hi => by
    have ih := weave_cut r ls i (by simpa using h) (by simpa using hi)
    simp only [weave, List.take_succ_cons, List.drop_succ_cons, List.headD_cons, List.tail_cons, List.getD_cons_succ]
    rw [ih]
    simp
/-! ### What adding does -/
def fullAll (d : Nat) (p : T d × Option (Int × T d)) : List Int := all d p.1 ++ match p.2 with | none => [] | some (u, r) => u :: all d r
theorem map_set' {α β : Type} (f : α → β) (l : List α) (i : Nat) (x : α) : (l.set i x).map f = (l.map f).set i (f x) := by rw [List.map_set]
theorem map_ins {α β : Type} (f : α → β) (l : List α) (i : Nat) (x : α) : (ins l i x).map f = ins (l.map f) i (f x) := by
  unfold ins
  rw [List.map_append, List.map_cons, List.map_take, List.map_drop]
theorem mem_lb {x : Int} : ∀ {l : List Int}, Up l → (x ∈ l ↔ l[lb x l]? = some x)
  | [], _ => by simp
  | y :: r, h => by
    rw [Up, List.pairwise_cons] at h
    by_cases hy : y < x
    · have e : lb x (y :: r) = lb x r + 1 := by rw [lb, if_pos hy]
      rw [e, List.getElem?_cons_succ, ← mem_lb h.2, List.mem_cons]
      exact ⟨fun hx => hx.resolve_left (by omega), .inr⟩
    · have e : lb x (y :: r) = 0 := by rw [lb, if_neg hy]
      rw [e, List.getElem?_cons_zero, List.mem_cons]
      constructor
      · rintro (hx | hx)
        · rw [hx]
        · have := h.1 x hx; omega
      · intro hx; injection hx with hx; exact .inl hx.symm
theorem up_keys : ∀ (k : List Int) (ls : List (List Int)), ls.length = k.length + 1 → Up (weave k ls) → Up k
  | [], _, _, _ => List.Pairwise.nil
  | k :: r, l :: ls, h, hu => by
    have hu' : Up (l ++ k :: weave r ls) := hu
    rw [Up, List.pairwise_append, List.pairwise_cons] at hu'
    rw [Up, List.pairwise_cons]
    exact ⟨fun y hy => hu'.2.1.1 y ((mem_weave y r ls (by simpa using h)).2 (.inl hy)), up_keys r ls (by simpa using h) hu'.2.1.2⟩
theorem up_kid : ∀ (k : List Int) (ls : List (List Int)), ls.length = k.length + 1 → Up (weave k ls) → ∀ l ∈ ls, Up l
  | [], [l], _, hu, m, hm => by
    simp only [List.mem_singleton] at hm
    subst hm
    exact hu
  | k :: r, l :: ls, h, hu, m, hm => by
    have hu' : Up (l ++ k :: weave r ls) := hu
    rw [Up, List.pairwise_append, List.pairwise_cons] at hu'
    rcases List.mem_cons.1 hm with rfl | hm
    · exact hu'.1
    · exact up_kid r ls (by simpa using h) hu'.2.1.2 m hm
/-- Where a number lies: in the kid of its place, if it is no key. -/
theorem mem_kid (x : Int) : ∀ (k : List Int) (ls : List (List Int)), ls.length = k.length + 1 → Up (weave k ls) → x ∉ k → (x ∈ weave k ls ↔ x ∈ ls.getD (lb x k) [])
  | [], [l], _, _, _ => by simp [weave, lb]
  | k :: r, l :: ls, h, hu, hn => by
    have hu' : Up (l ++ k :: weave r ls) := hu
    rw [Up, List.pairwise_append, List.pairwise_cons] at hu'
    obtain ⟨h1, ⟨h2, h3⟩, h4⟩ := hu'
    have hne : x ≠ k := fun e => hn (by simp [e])
    simp only [weave, List.headD_cons, List.tail_cons, List.mem_append, List.mem_cons]
    by_cases hk : k < x
    · have e : lb x (k :: r) = lb x r + 1 := by rw [lb, if_pos hk]
      rw [e, List.getD_cons_succ, ← mem_kid x r ls (by simpa using h) h3 (fun hm => hn (by simp [hm]))]
      constructor
      · rintro (hx | hx | hx)
        · have := h4 x hx k (by simp); omega
        · omega
        · exact hx
      · intro hx; exact .inr (.inr hx)
    · have e : lb x (k :: r) = 0 := by rw [lb, if_neg hk]
      rw [e, List.getD_cons_zero]
      constructor
      · rintro (hx | hx | hx)
        · exact hx
        · omega
        · have := h2 x hx; omega
      · exact .inl
end Bt
end Go.Proofs.YtokbhiokcoldbaaDoor
