/- The levels of a tree of keys, in plain Lean. -/
import Derived.Deep.Cut
import Derived.Test.YtokbhiokcoldbaaDoorBq02
import Derived.Test.YtokbhiokcoldbaaDoorBq04
import Derived.Test.YtokbhiokcoldbaaDoorBq13
import Derived.Test.YtokbhiokcoldbaaDoorBq14
namespace Go.Proofs.YtokbhiokcoldbaaDoor
namespace Bt

/-- Trees of one depth, with so many keys. -/
def OkD (n lo : Nat) (L : List Sub) : Prop := ∀ q ∈ L, q.1 = n ∧ Ok q.1 lo q.2
theorem okD_kids {n lo : Nat} {L : List Sub} (h : OkD (n + 1) lo L) : OkD n 2 (L.flatMap kidsOf) ∧ (L.flatMap kidsOf).length = ((L.map keysOf).map (fun l => l.length + 1)).sum := by
  induction L with
  | nil => exact ⟨fun q hq => by simp at hq, rfl⟩
  | cons s L ih =>
    obtain ⟨h1, h2⟩ := ih (fun q hq => h q (by simp [hq]))
    obtain ⟨e, ho⟩ := h s (by simp)
    obtain ⟨d, t⟩ := s
    obtain rfl : d = n + 1 := e
    refine ⟨fun q hq => ?_, ?_⟩
    · rw [List.flatMap_cons] at hq
      rcases List.mem_append.1 hq with hq | hq
      · obtain ⟨k, hk, rfl⟩ := List.mem_map.1 hq
        exact ⟨rfl, ho.2.2 k hk⟩
      · exact h1 q hq
    · rw [List.flatMap_cons, List.length_append, h2]
      simp only [List.map_cons, List.sum_cons]
      have h3 : (kidsOf ⟨n + 1, t⟩).length = t.2.length := by show (t.2.map _).length = _; rw [List.length_map]
      have h4 : t.2.length = t.1.length + 1 := ho.2.1
      have h5 : (keysOf ⟨n + 1, t⟩).length = t.1.length := rfl
      rw [h3, h4, h5]
theorem okD_leaf {lo : Nat} {L : List Sub} (h : OkD 0 lo L) : L.flatMap kidsOf = [] := by
  induction L with
  | nil => rfl
  | cons s L ih =>
    obtain ⟨e, _⟩ := h s (by simp)
    obtain ⟨d, t⟩ := s
    obtain rfl : d = 0 := e
    rw [List.flatMap_cons, ih (fun q hq => h q (by simp [hq]))]
    rfl
theorem lev_okd {s : Tree} (hO : s.OK) : ∀ k, k ≤ s.d → OkD (s.d - k) (if k = 0 then lowOf s.d else 2) (lev k [⟨s.d, s.t⟩])
  | 0, _ => fun q hq => by
    simp only [lev, List.mem_singleton] at hq
    subst hq
    exact ⟨rfl, hO.ok⟩
  | k + 1, hk => by
    have ih := lev_okd hO k (by omega)
    rw [lev_succ]
    obtain ⟨n, hn⟩ : ∃ n, s.d - k = n + 1 := ⟨s.d - k - 1, by omega⟩
    rw [hn] at ih
    have := (okD_kids ih).1
    rw [show s.d - (k + 1) = n by omega, if_neg (by omega)]
    exact this
theorem level_len0 (s : Tree) : level s 0 = [keysOf ⟨s.d, s.t⟩] := rfl
theorem level_high {s : Tree} (hO : s.OK) : level s (s.d + 1) = [] := by
  unfold level
  rw [lev_succ]
  have := lev_okd hO s.d (Nat.le_refl _)
  rw [Nat.sub_self] at this
  rw [okD_leaf this]
  rfl
theorem keys_four {d lo : Nat} {t : T d} (h : Ok d lo t) : lo ≤ (ks d t).length ∧ (ks d t).length ≤ 4 := by
  cases d with
  | zero => exact h
  | succ d => exact h.1
theorem level_sizes {s : Tree} (hO : s.OK) {k : Nat} (hk : k ≤ s.d) : ∀ l ∈ level s k, l.length ≤ 4 ∧ (k = 0 → lowOf s.d ≤ l.length) ∧ (0 < k → 2 ≤ l.length) := fun l hl => by
  obtain ⟨q, hq, rfl⟩ := List.mem_map.1 hl
  obtain ⟨_, ho⟩ := lev_okd hO k hk q hq
  obtain ⟨h1, h2⟩ := keys_four ho
  refine ⟨h2, fun h0 => ?_, fun h0 => ?_⟩
  · rw [if_pos h0] at h1; exact h1
  · rw [if_neg (by omega)] at h1; exact h1
theorem level_kids {s : Tree} (hO : s.OK) {k : Nat} (hk : k + 1 ≤ s.d) : (level s (k + 1)).length = ((level s k).map (fun l => l.length + 1)).sum := by
  have ih := lev_okd hO k (by omega)
  obtain ⟨n, hn⟩ : ∃ n, s.d - k = n + 1 := ⟨s.d - k - 1, by omega⟩
  rw [hn] at ih
  unfold level
  rw [List.length_map, lev_succ, (okD_kids ih).2]
theorem level_few {s : Tree} (hO : s.OK) (k : Nat) : (level s k).length ≤ 61 := by
  unfold level
  rw [List.length_map]
  have hw : ∀ k, ((lev k [⟨s.d, s.t⟩]).map wt).sum ≤ 61 ∧ OkL (lev k [⟨s.d, s.t⟩]) := fun k => by
    induction k with
    | zero =>
      refine ⟨?_, fun q hq => ?_⟩
      · show (all s.d s.t).length + 1 + 0 ≤ 61
        have h1 : (all s.d s.t).length = s.many := hO.len
        have := hO.many
        omega
      · simp only [lev, List.mem_singleton] at hq
        subst hq
        exact ⟨_, hO.ok⟩
    | succ k ih =>
      rw [lev_succ]
      exact ⟨Nat.le_trans (wt_flat ih.2) ih.1, okL_kids ih.2⟩
  exact Nat.le_trans (wt_len _) (hw k).1
/-- The tree that grows out of keys. -/
def growAll (l : List Int) : Tree := l.foldl put new
theorem foldl_ok : ∀ (l : List Int) (s : Tree), s.OK → (l.foldl put s).OK
  | [], _, h => h
  | x :: r, s, h => foldl_ok r (put s x) (h.put x)
def f5 : Tree := growAll [1, 2, 3, 4, 5]
theorem fact_err : addErr (growAll []) 1 = 0 ∧ addErr (growAll [1]) 2 = 0 ∧ addErr (growAll [1, 2]) 3 = 0 ∧ addErr (growAll [1, 2, 3]) 4 = 0 ∧ addErr (growAll [1, 2, 3, 4]) 5 = 0 := by decide
theorem fact_d : f5.d = 1 := by decide
theorem fact_l0 : level f5 0 = [[3]] := by decide
theorem fact_l1 : level f5 1 = [[1, 2], [4, 5]] := by decide
end Bt
end Go.Proofs.YtokbhiokcoldbaaDoor
/- The document's tree by numbers, in plain Lean: whole insertions, levels. No program in sight. -/
namespace Go.Proofs.YtokbhiokcoldbaaDoor
namespace Bt

/-- The document's tree: its nodes, the topmost one's number. -/
structure Qt where
  ns : List Nn
  root : Nat
def Qt.new : Qt := ⟨[([], [])], 0⟩
def Qt.top (q : Qt) (r : List Nn × Option (Int × Int)) : Qt := match r.2 with
  | none => ⟨r.1, q.root⟩
  | some (k, kid) => ⟨r.1 ++ [([k], [(q.root : Int), kid])], r.1.length⟩
/-- Both trees are the same. -/
def Same (s : Tree) (q : Qt) : Prop := ∃ F, Rep s.d q.ns q.root s.t F ∧ F.Nodup
def Qt.put (d : Nat) (q : Qt) (x : Int) : Qt := q.top (upw q.ns x (path q.ns x d q.root))
theorem same_new : Same new Qt.new := ⟨[0], ⟨rfl, rfl⟩, by simp⟩
theorem same_put {s : Tree} {q : Qt} (h : Same s q) (hO : s.OK) {x : Int} (he : addErr s x = 0) : Same (Bt.put s x) (q.put s.d x) := by
  obtain ⟨F, hr, hn⟩ := h
  have hx := (put_keys hO he).2
  have hA := up_add s.d _ q.ns q.root s.t F x hr hn hO.ok hO.up hx
  unfold Bt.put
  rw [if_pos he]
  unfold Qt.put
  generalize upw q.ns x (path q.ns x s.d q.root) = r at *
  generalize add s.d s.t x = p at *
  obtain ⟨t', o⟩ := p
  obtain ⟨ns', o'⟩ := r
  cases o with
  | none =>
    obtain ⟨rfl, F', g1, g2, -⟩ : o' = none ∧ ∃ F', Rep s.d ns' q.root t' F' ∧ F'.Nodup ∧ Chg q.ns ns' F F' := hA
    exact ⟨F', g1, g2⟩
  | some uq =>
    obtain ⟨u, k⟩ := uq
    obtain ⟨kid, F1, F2, rfl, g1, g2, g3, -⟩ : ∃ (kid : Nat) (F1 F2 : List Nat), o' = some (u, (kid : Int)) ∧ Rep s.d ns' q.root t' F1 ∧ Rep s.d ns' kid k F2 ∧ (F1 ++ F2).Nodup ∧ Chg q.ns ns' F (F1 ++ F2) := hA
    have hk : ∀ (j : Nat) (t : T s.d) (F : List Nat), Rep s.d ns' j t F → Rep s.d (ns' ++ [([u], [(q.root : Int), (kid : Int)])]) j t F := fun j t F hr => hr.keep (fun x hx => List.getElem?_append_left (hr.lt x hx))
    refine ⟨ns'.length :: (F1 ++ (F2 ++ [])), ⟨[(q.root, t', F1), (kid, k, F2)], ?_, rfl, fun p hp => ?_, rfl⟩, ?_⟩
    · show (ns' ++ [([u], [(q.root : Int), (kid : Int)])])[ns'.length]? = _
      simp
      rfl
    · rcases List.mem_cons.1 hp with rfl | hp
      · exact hk _ _ _ g1
      · rw [List.mem_singleton] at hp
        subst hp
        exact hk _ _ _ g2
    · rw [List.append_nil]
      refine List.nodup_cons.2 ⟨fun h => ?_, g3⟩
      rcases List.mem_append.1 h with h | h
      · have := g1.lt _ h; omega
      · have := g2.lt _ h; omega
/-- Numbers of nodes, and the trees below them. -/
def RepL (ns : List Nn) : List Nat → List Sub → Prop
  | [], [] => True
  | i :: r, s :: L => (∃ F, Rep s.1 ns i s.2 F) ∧ RepL ns r L
  | _, _ => False
def kidN (ns : List Nn) (i : Nat) : List Nat := (nd ns i).2.map Int.toNat
theorem RepL.app : ∀ {ns : List Nn} {a b : List Nat} {L M : List Sub}, RepL ns a L → RepL ns b M → RepL ns (a ++ b) (L ++ M)
  | ns, [], b, [], M, _, h => h
  | ns, i :: r, b, s :: L, M, h, h' => ⟨h.1, h.2.app h'⟩
  | ns, [], _, _ :: _, _, h, _ => h.elim
  | ns, _ :: _, _, [], _, h, _ => h.elim
theorem RepL.keys : ∀ {ns : List Nn} {a : List Nat} {L : List Sub}, RepL ns a L → a.map (fun i => (nd ns i).1) = L.map keysOf
  | ns, [], [], _ => rfl
  | ns, i :: r, ⟨0, t⟩ :: L, h => by
    obtain ⟨⟨F, h1, -⟩, h2⟩ := h
    rw [List.map_cons, List.map_cons, h2.keys, nd_of h1]
    rfl
  | ns, i :: r, ⟨d + 1, t⟩ :: L, h => by
    obtain ⟨⟨F, K, h1, -⟩, h2⟩ := h
    rw [List.map_cons, List.map_cons, h2.keys, nd_of h1]
    rfl
  | ns, [], _ :: _, h => h.elim
  | ns, _ :: _, [], h => h.elim
theorem repL_of : ∀ {d : Nat} {ns : List Nn} (K : List (Nat × T d × List Nat)), (∀ p ∈ K, Rep d ns p.1 p.2.1 p.2.2) → RepL ns (K.map (·.1)) (K.map (fun p => (⟨d, p.2.1⟩ : Sub)))
  | _, _, [], _ => trivial
  | _, _, p :: K, h => ⟨⟨_, h p (by simp)⟩, repL_of K (fun q hq => h q (by simp [hq]))⟩
theorem RepL.kids : ∀ {ns : List Nn} {a : List Nat} {L : List Sub}, RepL ns a L → RepL ns (a.flatMap (kidN ns)) (L.flatMap kidsOf)
  | ns, [], [], _ => trivial
  | ns, i :: r, ⟨0, t⟩ :: L, h => by
    obtain ⟨⟨F, h1, -⟩, h2⟩ := h
    have e : kidN ns i = [] := by unfold kidN; rw [nd_of h1]; rfl
    rw [List.flatMap_cons, List.flatMap_cons, e]
    exact h2.kids
  | ns, i :: r, ⟨d + 1, t⟩ :: L, h => by
    obtain ⟨⟨F, K, h1, h3, h4, -⟩, h2⟩ := h
    have e : kidN ns i = K.map (·.1) := by unfold kidN; rw [nd_of h1]; simp [Function.comp_def]
    have e2 : kidsOf ⟨d + 1, t⟩ = K.map (fun p => (⟨d, p.2.1⟩ : Sub)) := by
      show t.2.map _ = _
      rw [h3, List.map_map]
      rfl
    rw [List.flatMap_cons, List.flatMap_cons, e, e2]
    exact (repL_of K h4).app h2.kids
  | ns, [], _ :: _, h => h.elim
  | ns, _ :: _, [], h => h.elim
/-- The numbers of a level's nodes. -/
def lvN (ns : List Nn) : Nat → List Nat → List Nat
  | 0, a => a
  | k + 1, a => lvN ns k (a.flatMap (kidN ns))
theorem repL_lv : ∀ (k : Nat) {ns : List Nn} {a : List Nat} {L : List Sub}, RepL ns a L → RepL ns (lvN ns k a) (lev k L)
  | 0, _, _, _, h => h
  | k + 1, _, _, _, h => repL_lv k h.kids
theorem same_level {s : Tree} {q : Qt} (h : Same s q) (k : Nat) : (lvN q.ns k [q.root]).map (fun i => (nd q.ns i).1) = level s k := by
  obtain ⟨F, hr, -⟩ := h
  have h0 : RepL q.ns [q.root] [⟨s.d, s.t⟩] := ⟨⟨F, hr⟩, trivial⟩
  exact (repL_lv k h0).keys
end Bt
end Go.Proofs.YtokbhiokcoldbaaDoor

/- The document's answer for package btree: its nodes in memory. -/
namespace Go.Proofs.YtokbhiokcoldbaaDoor
open Go.RowKit

/-- A node as an element of a row: two slices. -/
def ndE : Enc (SlV × SlV) where
  k := 2
  enc := fun p => [p.1.val, p.2.val]
  len := fun _ => rfl
  one := fun e v hv => by simp only [List.mem_cons, List.not_mem_nil, or_false] at hv; rcases hv with rfl | rfl <;> rfl
  pos := by decide
namespace Bt
def withN (ns : List Nn) (i : Nat) (n : Nn) : List Nn := if i = ns.length then ns ++ [n] else ns.set i n
theorem withN_set {ns : List Nn} {i : Nat} {n : Nn} (h : i < ns.length) : withN ns i n = ns.set i n := if_neg (by omega)
theorem withN_end (ns : List Nn) (n : Nn) : withN ns ns.length n = ns ++ [n] := if_pos rfl
end Bt
/-- Nodes in memory; of all their blocks G holds. -/
structure BqS (G : Nat → Prop) (w : World) (g c : Nat) (vs : List (SlV × SlV)) (ns : List Bt.Nn) : Prop where
  gg : G g
  pos : 0 < ns.length
  cap : ns.length ≤ c ∧ c ≤ maxLen
  len : vs.length = ns.length
  cell : ∀ j (h : j < vs.length), w.cell? ⟨g, j * 2, none⟩ = some vs[j].1.val ∧ w.cell? ⟨g, j * 2 + 1, none⟩ = some vs[j].2.val
  row : ∀ j (h : j < vs.length), RowH G w vs[j].1.val (Bt.nd ns j).1 ∧ RowH G w vs[j].2.val (Bt.nd ns j).2
def BqT (G : Nat → Prop) (w : World) (v : Value) (ns : List Bt.Nn) : Prop := ∃ g c vs, v = .slice (some ⟨g, 0, none⟩) ns.length c ∧ BqS G w g c vs ns
section
variable {G G' : Nat → Prop} {w w' : World} {v : Value} {ns : List Bt.Nn} {g c : Nat} {vs : List (SlV × SlV)}
theorem BqS.fr {S : List Nat} (h : BqS G w g c vs ns) (hf : Fr S w w') (hS : ∀ g ∈ S, ¬ G g) : BqS G w' g c vs ns :=
  ⟨h.gg, h.pos, h.cap, h.len, fun j hj => ⟨hf.cell (h.cell j hj).1 (fun hm => hS g hm h.gg), hf.cell (h.cell j hj).2 (fun hm => hS g hm h.gg)⟩, fun j hj => ⟨(h.row j hj).1.fr hf hS, (h.row j hj).2.fr hf hS⟩⟩
theorem BqS.lt (h : BqS G w g c vs ns) : g < w.heap.size := block_lt_of_cell (h.cell 0 (by rw [h.len]; exact h.pos)).1
theorem BqS.mono (h : BqS G w g c vs ns) (hG : ∀ g, g < w.heap.size → G g → G' g) : BqS G' w g c vs ns :=
  ⟨hG g h.lt h.gg, h.pos, h.cap, h.len, h.cell, fun j hj => ⟨(h.row j hj).1.mono hG, (h.row j hj).2.mono hG⟩⟩
theorem BqT.fr {S : List Nat} (h : BqT G w v ns) (hf : Fr S w w') (hS : ∀ g ∈ S, ¬ G g) : BqT G w' v ns := by
  obtain ⟨g, c, vs, e, h⟩ := h
  exact ⟨g, c, vs, e, h.fr hf hS⟩
theorem BqT.step (h : BqT G w v ns) (hf : Fr [] w w') : BqT G w' v ns := h.fr hf (by simp)
theorem BqT.mono (h : BqT G w v ns) (hG : ∀ g, g < w.heap.size → G g → G' g) : BqT G' w v ns := by
  obtain ⟨g, c, vs, e, h⟩ := h
  exact ⟨g, c, vs, e, h.mono hG⟩
theorem BqS.slR (h : BqS G w g c vs ns) : SlR ndE w (.slice (some ⟨g, 0, none⟩) ns.length c) g vs := by
  refine .inr ⟨0, c, by rw [h.len], by rw [h.len]; exact h.cap.1, h.cap.2, fun i hi r hr => ?_⟩
  have hr2 : r = 0 ∨ r = 1 := by have : r < 2 := hr; omega
  rcases hr2 with rfl | rfl
  · have : (0 + i * ndE.k + 0) = i * 2 := by show 0 + i * 2 + 0 = i * 2; omega
    rw [this, (h.cell i hi).1]
    rfl
  · have : (0 + i * ndE.k + 1) = i * 2 + 1 := by show 0 + i * 2 + 1 = i * 2 + 1; omega
    rw [this, (h.cell i hi).2]
    rfl
/-- A node, as it is read. -/
theorem BqS.at (h : BqS G w g c vs ns) {j : Nat} (hj : j < ns.length) : ∃ A c1 B c2, w.cell? ⟨g, j * 2, none⟩ = some (.slice A (Bt.nd ns j).1.length c1) ∧ w.cell? ⟨g, j * 2 + 1, none⟩ = some (.slice B (Bt.nd ns j).2.length c2) ∧ RowH G w (.slice A (Bt.nd ns j).1.length c1) (Bt.nd ns j).1 ∧ RowH G w (.slice B (Bt.nd ns j).2.length c2) (Bt.nd ns j).2 := by
  have hj' : j < vs.length := by rw [h.len]; exact hj
  obtain ⟨r1, r2⟩ := h.row j hj'
  obtain ⟨A, g2, o, c1, e, -⟩ := r1.form
  obtain ⟨B, g3, o', c2, e', -⟩ := r2.form
  refine ⟨A, c1, B, c2, ?_, ?_, by rw [← e]; exact r1, by rw [← e']; exact r2⟩
  · rw [(h.cell j hj').1, e]
  · rw [(h.cell j hj').2, e']
theorem BqT.ofOwn {B t : Nat} (ho : OwnR ndE w B t v vs) (hl : vs.length = ns.length) (hp : 0 < ns.length) (hG : ∀ g, B ≤ g → G g) (hr : ∀ j (h : j < vs.length), RowH G w vs[j].1.val (Bt.nd ns j).1 ∧ RowH G w vs[j].2.val (Bt.nd ns j).2) : BqT G w v ns := by
  rcases ho.2 with ⟨rfl, hn⟩ | ⟨g, cap, cur, rfl, hb, hg, hc, hm, hs, ht⟩
  · omega
  · refine ⟨g, cap, vs, by rw [hl], hG g hb, hp, ⟨by omega, hm⟩, hl, fun j hj => ?_, hr⟩
    have h5 := ndE.cells_get vs j 0 hj (by decide)
    have h6 := ndE.cells_get vs j 1 hj (by decide)
    rw [← ht, List.getElem?_take] at h5 h6
    rw [show j * ndE.k + 0 = j * 2 from by show j * 2 + 0 = j * 2; omega] at h5
    rw [show j * ndE.k + 1 = j * 2 + 1 from rfl] at h6
    constructor
    · rw [cell_of_row _ g (j * 2) cur _ _ hg]
      split at h5
      · simpa [ndE] using h5
      · simp [ndE] at h5
    · rw [cell_of_row _ g (j * 2 + 1) cur _ _ hg]
      split at h6
      · simpa [ndE] using h6
      · simp [ndE] at h6
end
end Go.Proofs.YtokbhiokcoldbaaDoor

/- The document's answer for package btree: a node set. -/
namespace Go.Proofs.YtokbhiokcoldbaaDoor
open Go.RowKit

theorem bq_info : (Tryd.prog.info? 54).map (fun i => (i.zero, i.size, i.bytes)) = some (some (.agg #[.slice none 0 0, .slice none 0 0]), ndE.k, 48) := by kernel_rfl
theorem bq_und : Tryd.prog.underlying 45 = some (.slice 54) := by kernel_rfl
theorem own_set2 {w : World} {B t g c n : Nat} {vs : List (SlV × SlV)} (h : OwnR ndE w B t (.slice (some ⟨g, 0, none⟩) n c) vs) (i : Nat) (hi : i < vs.length) (s s' : SlV) : OwnR ndE ((w.setCell ⟨g, i * 2, none⟩ s.val).setCell ⟨g, i * 2 + 1, none⟩ s'.val) B t (.slice (some ⟨g, 0, none⟩) n c) (vs.set i (s, s')) := by
  have h1 := h.setCell rfl i 0 hi (by decide) (s, vs[i].2) s.val rfl
  have e : i * ndE.k + 0 = i * 2 := by show i * 2 + 0 = i * 2; omega
  rw [e] at h1
  have h2 := h1.setCell rfl i 1 (by simpa using hi) (by decide) (s, s') s'.val (by simp [ndE])
  have e2 : i * ndE.k + 1 = i * 2 + 1 := rfl
  rw [e2, List.set_set] at h2
  exact h2
/-- A value of the document's type, and what it says. -/
def BqV (G : Nat → Prop) (w : World) (v : Value) (q : Bt.Qt) : Prop := ∃ a, v = .agg #[a, .int .i64 (q.root : Int)] ∧ BqT G w a q.ns
/-- A variable of the document's type. -/
def BqX (w : World) (B : Nat) (a : Value) (r : Nat) : Prop := w.heap[B]? = some (.cells #[a, .int .i64 (r : Int)] 47 (0, 0))
/-- In a call that began at w: the receiver's variable X, the answer's X2, what the receiver says. -/
structure BqW (G : Nat → Prop) (w wr : World) (X X2 : Nat) (a : Value) (ns : List Bt.Nn) (r : Nat) : Prop where
  box : BqX wr X a r
  out : BqX wr X2 (.slice none 0 0) 0
  ta : BqT (fun g => G g ∧ g ≠ X ∧ g ≠ X2) wr a ns
  fr : Fr [] w wr
  hG : ∀ k, w.heap.size ≤ k → G k
  ge : w.heap.size ≤ X ∧ w.heap.size ≤ X2
  ne : X ≠ X2
def bqSet (w : World) (B : Nat) (a : Value) (r : Nat) : World := (w.setCell ⟨B, 0, none⟩ a).setCell ⟨B, 1, none⟩ (.int .i64 (r : Int))
theorem bq_set (w : World) (B : Nat) (a : Value) (r : Nat) {a' : Value} {r' : Nat} (hx : BqX w B a' r') : BqX (bqSet w B a r) B a r ∧ Fr [B] w (bqSet w B a r) := by
  have h1 : BqX (w.setCell ⟨B, 0, none⟩ a) B a r' := set_block hx _
  unfold bqSet
  exact ⟨set_block h1 _, ((Fr.refl _ w).setCell (.inl (by simp)) _).setCell (.inl (by simp)) _⟩
section
variable {G : Nat → Prop} {w wr w' : World} {X X2 : Nat} {a v : Value} {ns ms : List Bt.Nn} {r : Nat} {q : Bt.Qt}
theorem BqX.cells (x : BqX w X a r) : w.cell? ⟨X, 0, none⟩ = some a ∧ w.cell? ⟨X, 1, none⟩ = some (.int .i64 (r : Int)) := by
  refine ⟨?_, ?_⟩ <;> rw [cell_of_row w X _ _ _ _ x] <;> rfl
theorem BqX.load (x : BqX w X a r) : (loadVar 47 ⟨X, 0, none⟩).run Tryd.prog w = .ok (.agg #[a, .int .i64 (r : Int)]) w := by
  have := run_load_part (P := Tryd.prog) w X 0 2 _ 47 _ _ _ x Tryd.underlying47 rfl (by kernel_rfl) (by simp)
  simpa using this
theorem BqV.step (h : BqV G w v q) (hf : Fr [] w w') : BqV G w' v q := by
  obtain ⟨a, rfl, h1⟩ := h
  exact ⟨a, rfl, h1.step hf⟩
theorem BqV.mono {G' : Nat → Prop} (h : BqV G w v q) (hG : ∀ g, g < w.heap.size → G g → G' g) : BqV G' w v q := by
  obtain ⟨a, rfl, h1⟩ := h
  exact ⟨a, rfl, h1.mono hG⟩
theorem BqV.form (h : BqV G w v q) : ∃ g c, v = .agg #[.slice (some ⟨g, 0, none⟩) q.ns.length c, .int .i64 (q.root : Int)] ∧ BqT G w (.slice (some ⟨g, 0, none⟩) q.ns.length c) q.ns := by
  obtain ⟨a, rfl, h1⟩ := h
  obtain ⟨g, c, _, e, -⟩ := id h1
  exact ⟨g, c, by rw [e], by rw [← e]; exact h1⟩
theorem BqT.op {g n c : Nat} (h : BqT G w (.slice (some ⟨g, 0, none⟩) n c) ns) : ∃ vs, n = ns.length ∧ BqS G w g c vs ns := by
  obtain ⟨g', c', vs, e, h⟩ := h
  injection e with e1 e2 e3
  injection e1 with e1
  injection e1 with e1 _ _
  subst e1 e2 e3
  exact ⟨vs, rfl, h⟩
theorem BqW.lt (h : BqW G w wr X X2 a ns r) : X < wr.heap.size ∧ X2 < wr.heap.size := ⟨lt_of_heap h.box, lt_of_heap h.out⟩
theorem BqW.step (h : BqW G w wr X X2 a ns r) (hf : Fr [] wr w') : BqW G w w' X X2 a ns r :=
  ⟨hf.get h.box (by simp), hf.get h.out (by simp), h.ta.step hf, h.fr.trans hf, h.hG, h.ge, h.ne⟩
theorem BqW.new (h : BqW G w wr X X2 a ns r) : ∀ k, wr.heap.size ≤ k → (G k ∧ k ≠ X ∧ k ≠ X2) := fun k hk => by
  have := h.lt
  have := h.fr.size
  exact ⟨h.hG k (by omega), by omega, by omega⟩
theorem BqW.cells (h : BqW G w wr X X2 a ns r) : (wr.cell? ⟨X, 0, none⟩ = some a ∧ wr.cell? ⟨X, 1, none⟩ = some (.int .i64 (r : Int))) ∧ ∀ i, wr.frozen? ⟨X, i, none⟩ = false := ⟨h.box.cells, fun i => free_block h.box i none⟩
theorem BqW.outs (h : BqW G w wr X X2 a ns r) : (wr.cell? ⟨X2, 0, none⟩ = some (.slice none 0 0) ∧ wr.cell? ⟨X2, 1, none⟩ = some (.int .i64 0)) ∧ ∀ i, wr.frozen? ⟨X2, i, none⟩ = false := ⟨h.out.cells, fun i => free_block h.out i none⟩
theorem BqW.one (wr : World) (X i : Nat) (v : Value) : Fr [X] wr (wr.setCell ⟨X, i, none⟩ v) := (Fr.refl _ wr).setCell (.inl (by simp)) _
theorem BqW.frX (h : BqW G w wr X X2 a ns r) (hf : Fr [X] wr w') : Fr [] w w' := h.fr.step hf (fun y hy => .inr (by simp only [List.mem_singleton] at hy; subst hy; exact h.ge.1))
theorem BqW.nX : ∀ g ∈ [X], ¬ (G g ∧ g ≠ X ∧ g ≠ X2) := fun g hg h => h.2.1 (by simpa using hg)
theorem BqW.setT (h : BqW G w wr X X2 a ns r) (hv : BqT (fun g => G g ∧ g ≠ X ∧ g ≠ X2) wr v ms) : BqW G w (wr.setCell ⟨X, 0, none⟩ v) X X2 v ms r :=
  have hf := BqW.one wr X 0 v
  ⟨set_block h.box v, hf.get h.out (by simpa using h.ne.symm), hv.fr hf BqW.nX, h.frX hf, h.hG, h.ge, h.ne⟩
theorem BqW.setR (h : BqW G w wr X X2 a ns r) (k : Nat) : BqW G w (wr.setCell ⟨X, 1, none⟩ (.int .i64 (k : Int))) X X2 a ns k :=
  have hf := BqW.one wr X 1 (.int .i64 (k : Int))
  ⟨set_block h.box _, hf.get h.out (by simpa using h.ne.symm), h.ta.fr hf BqW.nX, h.frX hf, h.hG, h.ge, h.ne⟩
/-- Another struct is the answer. -/
theorem BqW.finV (h : BqW G w wr X X2 a ns r) {a' : Value} (hv : BqV (fun g => G g ∧ g ≠ X ∧ g ≠ X2) wr (.agg #[a', .int .i64 (q.root : Int)]) q) : BqX (bqSet wr X2 a' q.root) X2 a' q.root ∧ BqV G (bqSet wr X2 a' q.root) (.agg #[a', .int .i64 (q.root : Int)]) q ∧ Fr [] w (bqSet wr X2 a' q.root) := by
  obtain ⟨h1, h2⟩ := bq_set wr X2 a' q.root h.out
  have hS : ∀ g ∈ [X2], ¬ (G g ∧ g ≠ X ∧ g ≠ X2) := fun g hg hq => hq.2.2 (by simpa using hg)
  obtain ⟨a2, e, ht⟩ := hv
  simp only [Value.agg.injEq, Array.mk.injEq, List.cons.injEq] at e
  obtain ⟨rfl, -⟩ := e
  exact ⟨h1, ⟨_, rfl, (ht.fr h2 hS).mono (fun g _ hq => hq.1)⟩, h.fr.step h2 (fun y hy => .inr (by simp only [List.mem_singleton] at hy; subst hy; exact h.ge.2))⟩
theorem BqW.val (h : BqW G w wr X X2 a ns r) : BqV (fun g => G g ∧ g ≠ X ∧ g ≠ X2) wr (.agg #[a, .int .i64 (r : Int)]) ⟨ns, r⟩ := ⟨_, rfl, h.ta⟩
end
theorem bq_results {fn : Func} {tmps : Array Value} {w : World} {i : Nat} {B : Nat} {a : Value} {r : Nat} (hr : fn.results = #[.cell i 47]) (ha : tmps.getD i undef = .pointer (some ⟨B, 0, none⟩)) (hx : BqX w B a r) :
    (results fn tmps).run Tryd.prog w = .ok (.agg #[a, .int .i64 (r : Int)]) w := by
  have ha' : tmps[i]?.getD undef = .pointer (some ⟨B, 0, none⟩) := by rw [← ha]; simp
  unfold results
  rw [hr]
  simp [asAddr, Sem.run_bind, ha', hx.load]
/-- The call hands back a struct. -/
def BqA (G : Nat → Prop) (q : Bt.Qt) (w : World) (e : Ending) (w' : World) : Prop := ∃ v, e = .returned v ∧ BqV G w' v q ∧ Fr [] w w'
end Go.Proofs.YtokbhiokcoldbaaDoor
