/- Level of package btree. -/

import Derived.Test.YtokbhiokcoldbaaDoorBq02
import Derived.Test.YtokbhiokcoldbaaDoorBq13
namespace Go.Proofs.YtokbhiokcoldbaaDoor
open Go.RowKit

namespace Bt
/-- A tree of whatever depth. -/
abbrev Sub := (d : Nat) × T d
def kidsOf : Sub → List Sub
  | ⟨0, _⟩ => []
  | ⟨d + 1, t⟩ => t.2.map (fun s => ⟨d, s⟩)
def keysOf (s : Sub) : List Int := ks s.1 s.2
def lev : Nat → List Sub → List Sub
  | 0, L => L
  | k + 1, L => lev k (L.flatMap kidsOf)
theorem lev_nil : ∀ k, lev k [] = []
  | 0 => rfl
  | k + 1 => lev_nil k
/-- The keys of the nodes of a level. -/
def level (s : Tree) (k : Nat) : List (List Int) := (lev k [⟨s.d, s.t⟩]).map keysOf
theorem lev_succ : ∀ (k : Nat) (L : List Sub), lev (k + 1) L = (lev k L).flatMap kidsOf
  | 0, _ => rfl
  | k + 1, L => lev_succ k (L.flatMap kidsOf)
end Bt
/-- Nodes side by side: their blocks. -/
inductive NdL (w : World) : List Nat → List Bt.Sub → Prop where
  | nil : NdL w [] []
  | cons {b : Nat} {s : Bt.Sub} {bs : List Nat} {L : List Bt.Sub} {F : List Nat} {lo : Nat} (h : Nd s.1 w b s.2 F) (k : Bt.Ok s.1 lo s.2) (r : NdL w bs L) : NdL w (b :: bs) (s :: L)
theorem NdL.keep {w w' : World} {bs : List Nat} {L : List Bt.Sub} (h : NdL w bs L) (hf : Fr [] w w') : NdL w' bs L := by
  induction h with
  | nil => exact .nil
  | cons h k _ ih => exact .cons (h.keep hf) k ih
theorem NdL.append {w : World} {bs cs : List Nat} {L M : List Bt.Sub} (h : NdL w bs L) (k : NdL w cs M) : NdL w (bs ++ cs) (L ++ M) := by
  induction h with
  | nil => exact k
  | cons h k' _ ih => exact .cons h k' ih
theorem NdL.len {w : World} {bs : List Nat} {L : List Bt.Sub} (h : NdL w bs L) : bs.length = L.length := by
  induction h with
  | nil => rfl
  | cons _ _ _ ih => simp [ih]
theorem NdL.at_ {w : World} {bs : List Nat} {L : List Bt.Sub} (h : NdL w bs L) : ∀ i (hi : i < bs.length), ∃ s F lo, L[i]? = some s ∧ Nd s.1 w bs[i] s.2 F ∧ Bt.Ok s.1 lo s.2 := by
  induction h with
  | nil => intro i hi; simp at hi
  | cons h k _ ih =>
    intro i hi
    cases i with
    | zero => exact ⟨_, _, _, rfl, h, k⟩
    | succ i => simpa using ih i (by simpa using hi)
theorem ndL_map {d : Nat} {w : World} : ∀ (K : List (Kd d)), (∀ p ∈ K, Nd d w p.1 p.2.1 p.2.2 ∧ Bt.Ok d 2 p.2.1) → NdL w (K.map (·.1)) (K.map (fun p => (⟨d, p.2.1⟩ : Bt.Sub)))
  | [], _ => .nil
  | p :: K, h => .cons (s := ⟨d, p.2.1⟩) (h p (by simp)).1 (h p (by simp)).2 (ndL_map K (fun q hq => h q (by simp [hq])))
/-- A node's row of kids. -/
theorem nd_kids {w : World} {b : Nat} (s : Bt.Sub) {F : List Nat} {lo : Nat} (h : Nd s.1 w b s.2 F) (hok : Bt.Ok s.1 lo s.2) : ∃ vk A n c cs g, w.heap[b]? = some (.cells #[vk, .slice A n c] 102 (0, 0)) ∧ OwnR inE w 0 3 vk (Bt.keysOf s) ∧ (Bt.keysOf s).length ≤ 4 ∧ SlR pbE w (.slice A n c) g cs ∧ NdL w cs (Bt.kidsOf s) ∧ cs.length ≤ 5 := by
  obtain ⟨d, t⟩ := s
  cases d with
  | zero =>
    obtain ⟨vk, h1, h2, _⟩ := h
    exact ⟨vk, none, 0, 0, [], 0, h1, h2, hok.2, .inl ⟨rfl, none, 0, rfl⟩, NdL.nil, by simp⟩
  | succ d =>
    obtain ⟨vk, vc, K, h1, h2, h3, h4, h5, _⟩ := h
    obtain ⟨g, _, hs⟩ := h3.sl
    obtain ⟨A, c, rfl⟩ : ∃ A c, vc = .slice A (K.map (·.1)).length c := by
      obtain ⟨A, c, e, _⟩ := h3.form'
      exact ⟨A, c, e⟩
    have h4' : t.2 = K.map (·.2.1) := h4
    have hok' : Bt.Ok (d + 1) lo t := hok
    have hl : K.length = t.1.length + 1 := by rw [← hok'.2.1, h4', List.length_map]
    have hkk : Bt.kidsOf ⟨d + 1, t⟩ = K.map (fun p => (⟨d, p.2.1⟩ : Bt.Sub)) := by
      show t.2.map (fun s => (⟨d, s⟩ : Bt.Sub)) = _
      rw [h4', List.map_map]
      rfl
    refine ⟨vk, A, _, c, K.map (·.1), g, h1, h2, hok'.1.2, hs, ?_, by rw [List.length_map, hl]; have := hok'.1.2; omega⟩
    rw [hkk]
    exact ndL_map K (fun q hq => ⟨h5 q hq, hok'.2.2 _ (by rw [h4']; exact List.mem_map.2 ⟨q, hq, rfl⟩)⟩)
namespace Bt
def wt (s : Sub) : Nat := (all s.1 s.2).length + 1
def OkL (L : List Sub) : Prop := ∀ s ∈ L, ∃ lo, Ok s.1 lo s.2
theorem okL_kids {L : List Sub} (h : OkL L) : OkL (L.flatMap kidsOf) := fun s hs => by
  obtain ⟨q, hq, hs⟩ := List.mem_flatMap.1 hs
  obtain ⟨lo, ho⟩ := h q hq
  obtain ⟨d, t⟩ := q
  cases d with
  | zero => simp [kidsOf] at hs
  | succ d =>
    obtain ⟨k, hk, rfl⟩ := List.mem_map.1 hs
    exact ⟨2, ho.2.2 k hk⟩
theorem wt_kids {s : Sub} {lo : Nat} (h : Ok s.1 lo s.2) : ((kidsOf s).map wt).sum ≤ wt s := by
  obtain ⟨d, t⟩ := s
  cases d with
  | zero => simp [kidsOf]
  | succ d =>
    have h1 := weave_len t.1 (t.2.map (all d)) (map_len h)
    have h2 : (t.2.map (all d)).map List.length = t.2.map (fun s => (all d s).length) := by rw [List.map_map]; rfl
    have h3 : (t.2.map (fun s => (all d s).length + 1)).sum = (t.2.map (fun s => (all d s).length)).sum + t.2.length := by
      clear h h1 h2
      induction t.2 with
      | nil => rfl
      | cons a l ih => simp only [List.map_cons, List.sum_cons, List.length_cons, ih]; omega
    have h4 : ((kidsOf ⟨d + 1, t⟩).map wt) = t.2.map (fun s => (all d s).length + 1) := by
      show (t.2.map (fun s => (⟨d, s⟩ : Sub))).map wt = _
      rw [List.map_map]
      rfl
    have h5 : t.2.length = t.1.length + 1 := h.2.1
    have h6 : (all (d + 1) t).length = t.1.length + (t.2.map (fun s => (all d s).length)).sum := by rw [← h2]; exact h1
    rw [h4, h3]
    show _ ≤ (all (d + 1) t).length + 1
    omega
theorem wt_flat : ∀ {L : List Sub}, OkL L → ((L.flatMap kidsOf).map wt).sum ≤ (L.map wt).sum
  | [], _ => by simp
  | s :: L, h => by
    obtain ⟨lo, ho⟩ := h s (by simp)
    have h1 := wt_kids ho
    have h2 := wt_flat (L := L) (fun q hq => h q (by simp [hq]))
    rw [List.flatMap_cons, List.map_append, List.sum_append, List.map_cons, List.sum_cons]
    omega
theorem wt_len : ∀ (L : List Sub), L.length ≤ (L.map wt).sum
  | [] => by simp
  | s :: L => by
    have := wt_len L
    have h1 : 1 ≤ wt s := Nat.le_add_left 1 _
    rw [List.length_cons, List.map_cons, List.sum_cons]
    omega
theorem flat_take {L : List Sub} {i : Nat} {s : Sub} (h : L[i]? = some s) : (L.take (i + 1)).flatMap kidsOf = (L.take i).flatMap kidsOf ++ kidsOf s := by
  rw [List.take_add_one, h, List.flatMap_append]
  simp
theorem flat_take_wt {L : List Sub} (h : OkL L) (i : Nat) : ((L.take i).flatMap kidsOf).length ≤ (L.map wt).sum := by
  have h1 := wt_len ((L.take i).flatMap kidsOf)
  have h2 := wt_flat (L := L.take i) (fun q hq => h q (List.mem_of_mem_take hq))
  have h3 : (L.map wt).sum = ((L.take i).map wt).sum + ((L.drop i).map wt).sum := by rw [← List.sum_append, ← List.map_append, List.take_append_drop]
  omega
end Bt
/-- What Level hands back: rows in new memory. -/
def BtLv (xs : List (List Int)) (w : World) (e : Ending) (w' : World) : Prop := ∃ v vs, e = .returned v ∧ OwnR slE w' w.heap.size 25 v vs ∧ vs.length = xs.length ∧ (∀ j (h : j < vs.length), OwnR inE w' 0 3 vs[j].val (xs.getD j [])) ∧ Fr [] w w'
theorem info_sl : (Tryd.prog.info? 25).map (fun i => (i.zero, i.size, i.bytes)) = some (some (.slice none 0 0), slE.k, 24) := by kernel_rfl
theorem und_sl : Tryd.prog.underlying 22 = some (.slice 25) := by kernel_rfl
/-- What the outer rounds know. -/
structure BtO (w wr : World) (v : Value) (L : List Bt.Sub) : Prop where
  row : ∃ bs, OwnR pbE wr w.heap.size 99 v bs ∧ NdL wr bs L
  fr : Fr [] w wr
  ok : Bt.OkL L
  wt : (L.map Bt.wt).sum ≤ 61
/-- What the inner rounds know. -/
structure BtI (wI wr : World) (u : Value) (M : List Bt.Sub) : Prop where
  row : ∃ cs, OwnR pbE wr wI.heap.size 99 u cs ∧ NdL wI cs M
  fr : Fr [] wI wr
/-- What the last rounds know. -/
structure BtE (wJ wr : World) (u : Value) (xs : List (List Int)) (i : Nat) : Prop where
  row : ∃ vs, OwnR slE wr wJ.heap.size 25 u vs ∧ vs.length = i ∧ ∀ j (h : j < vs.length), OwnR inE wr 0 3 vs[j].val (xs.getD j [])
  fr : Fr [] wJ wr
theorem getD_keys {L : List Bt.Sub} {i : Nat} {s : Bt.Sub} (h : L[i]? = some s) : (L.map Bt.keysOf).getD i [] = Bt.keysOf s := by
  simp [List.getD, h]
theorem BtE.next {wJ wr w2 W : World} {u u' : Value} {xs : List (List Int)} {i : Nat} {vs : List SlV} {y : SlV} (hrow : OwnR slE wr wJ.heap.size 25 u vs) (hl : vs.length = i) (he : ∀ j (h : j < vs.length), OwnR inE wr 0 3 vs[j].val (xs.getD j [])) (hf : Fr [] wJ wr)
    (h2 : Fr [] wr w2) (hy : OwnR inE w2 0 3 y.val (xs.getD i [])) (h3 : OwnR slE W wJ.heap.size 25 u' (vs ++ [y])) (hg : w2.grownBy W u.ownBlock) : BtE wJ W u' xs (i + 1) := by
  have hr2 := hrow.kept h2 (by simp)
  have hfg := fr_grown hg
  refine ⟨⟨_, h3, by rw [List.length_append, hl]; rfl, fun j hj => ?_⟩, (hf.trans h2).grown hg (fun g hg => .inr (hrow.ge g hg).1)⟩
  rw [List.length_append, List.length_singleton] at hj
  by_cases hjl : j < vs.length
  · have e : (vs ++ [y])[j]'(by rw [List.length_append]; exact hj) = vs[j] := List.getElem_append_left hjl
    rw [e]
    have h4 := (he j hjl).kept h2 (by simp)
    exact h4.kept hfg (fun x hx e => own_ne_own h4 hr2 (by decide) x e (by simpa using hx))
  · obtain rfl : j = i := by omega
    have e : (vs ++ [y])[j]'(by rw [List.length_append]; exact hj) = y := by
      rw [List.getElem_append_right (by omega)]
      simp [hl]
    rw [e]
    exact hy.kept hfg (fun x hx e => own_ne_own hy hr2 (by decide) x e (by simpa using hx))
set_option maxRecDepth 100000 in
set_option maxHeartbeats 4000000 in
theorem bt_Level (w : World) (P : Nat → Prop) (p : Nat) (s : Bt.Tree) (k0 : Int) (h : BtF P w p s) (hO : s.OK) (hk0 : -1000 ≤ k0 ∧ k0 ≤ 1000) :
    Calls Tryd.prog 26 #[.pointer (some ⟨p, 0, none⟩), .int .i64 k0] w (BtLv (if k0 < 0 then [] else Bt.level s k0.toNat) w) := by
  obtain ⟨r, F, hS⟩ := h
  obtain ⟨c0, -, -⟩ := hS.cells
  have hc0 : (w.alloc (.cells #[.pointer (some ⟨r, 0, none⟩)] 99)).heap[w.heap.size]? = some (.cells #[.pointer (some ⟨r, 0, none⟩)] 99 (0, 0)) := heap_alloc_new w _
  have HI0 : Hid (BtO w (w.alloc (.cells #[.pointer (some ⟨r, 0, none⟩)] 99)) (.slice (some ⟨w.heap.size, 0, none⟩) 1 1) [⟨s.d, s.t⟩]) :=
    ⟨⟨[r], own_at hc0 (Nat.le_refl _) rfl (Nat.le_refl _) (by decide) rfl rfl, .cons (s := ⟨s.d, s.t⟩) (hS.nd.keep ((Fr.refl _ _).alloc _)) hO.ok .nil⟩, (Fr.refl _ _).alloc _, fun q hq => by simp only [List.mem_singleton] at hq; subst hq; exact ⟨_, hO.ok⟩, by
      have h1 := hO.len
      have h2 := hO.many
      show Bt.wt ⟨s.d, s.t⟩ + 0 ≤ 61
      unfold Bt.wt
      have h3 : (Bt.all s.d s.t).length = s.many := h1
      show (Bt.all s.d s.t).length + 1 + 0 ≤ 61
      omega⟩
  have HLV : Hid (∀ L, Bt.lev 0 L = L) := fun _ => rfl
  have HX : Hid ((if k0 < 0 then [] else Bt.level s k0.toNat) = if k0 < 0 then [] else (Bt.lev k0.toNat [⟨s.d, s.t⟩]).map Bt.keysOf) := rfl
  generalize hxs : (if k0 < 0 then [] else Bt.level s k0.toNat) = XS at *
  have HK0 := Lib.hid hk0
  obtain ⟨ka, kb⟩ := hk0
  clear hS hO hxs hc0
  generalize hrt : [(⟨s.d, s.t⟩ : Bt.Sub)] = RT at *
  clear hrt
  go_enter Tryd.func26, Tryd.ntmps26
  go_wp2_with fail
  generalize w.alloc (.cells #[.pointer (some ⟨r, 0, none⟩)] 99) = w1 at *
  go_loopw [1, 5] (fun kv v wr => ∃ κ : Int, kv = .int .i64 κ ∧ -1000 ≤ κ ∧ κ ≤ 1000 ∧ ∃ (A : Option Addr) (n c : Nat), v = .slice A n c ∧ Hid (∃ L, BtO w wr (.slice A n c) L ∧ L.length = n ∧ (k0 < 0 → κ = k0) ∧ (¬ k0 < 0 → ¬ κ < 0 ∧ Bt.lev κ.toNat L = Bt.lev k0.toNat RT))) (fun kv _ _ => (intOf kv).toNat)
  case atStart => exact ⟨k0, rfl, ka, kb, _, 1, 1, rfl, RT, HI0.out, by
    obtain ⟨⟨bs, h1, h2⟩, _, _, _⟩ := HI0.out
    obtain ⟨A, c, e, _⟩ := h1.form'
    injection e with _ e _
    rw [← h2.len, ← e], fun _ => rfl, fun h => ⟨h, rfl⟩⟩
  case round =>
    clear HI0 c0
    obtain ⟨κ, rfl, κa, κb, A, n, c, rfl, hI⟩ := hrel
    obtain ⟨L, hO, hLn, hneg, hpos⟩ := hI.out
    by_cases hgo : 0 < κ ∧ 0 < n
    · obtain ⟨hκ, hn⟩ := hgo
      have hnI : (0 : Int) < n := by omega
      have hw : IntKind.i64.wrap (κ - 1) = κ - 1 := by rw [IntKind.wrap_i64]; omega
      obtain ⟨⟨bs, hrow, hnd⟩, hfr, hok, hwt⟩ := hO
      have hbl := hnd.len
      obtain ⟨g, c', e, -, -, hcel⟩ := own_cellP hrow (by omega)
      injection e with e1 e2 e3
      subst e1 e2 e3
      have HCEL := Lib.hid hcel
      have HND := Lib.hid hnd
      have HOK := Lib.hid hok
      have HWT := Lib.hid hwt
      have HFR := Lib.hid hfr
      have HBL := Lib.hid hbl
      have HNG := Lib.hid hneg
      have hk0' : ¬ k0 < 0 := fun h => by have := hneg h; omega
      have HPS := Lib.hid (hpos hk0').2
      have hb61 : bs.length ≤ 61 := by have := Bt.wt_len L; omega
      obtain ⟨wI, hwI⟩ : ∃ x, x = wr := ⟨_, rfl⟩
      subst hwI
      have HJ0 : Hid (BtI wI wI (.slice none 0 0) ((L.take 0).flatMap Bt.kidsOf)) := ⟨⟨[], OwnR.nil, by simpa using NdL.nil⟩, Fr.refl _ _⟩
      clear hI hcel hnd hok hwt hfr hbl hneg hpos hrow hLn
      go_wp2_with fail
      go_loopw [6, 28] (fun u i wr => ∃ q : Nat, q ≤ bs.length ∧ i = .int .i64 q ∧ ∃ (A2 : Option Addr) (n2 c2 : Nat), u = .slice A2 n2 c2 ∧ Hid (BtI wI wr (.slice A2 n2 c2) ((L.take q).flatMap Bt.kidsOf))) (fun _ i _ => bs.length - (intOf i).toNat)
      case atStart => exact ⟨0, Nat.zero_le _, rfl, none, 0, 0, rfl, HJ0⟩
      case round =>
        clear HJ0
        obtain ⟨q, hq, rfl, A2, n2, c2, rfl, hJ⟩ := hrel
        by_cases hlt : q < bs.length
        · have qI : (q : Int) < bs.length := by omega
          have q0 : (0 : Int) ≤ q := by omega
          obtain ⟨⟨cs, hrow, hcs⟩, hfr⟩ := hJ.out
          have qc := hfr.cell (HCEL.out q hlt) (by simp)
          obtain ⟨s0, F0, lo0, hs0, hn0, hok0⟩ := HND.out.at_ q hlt
          generalize bs[q] = b0 at *
          obtain ⟨vk, A3, n3, c3, ds, gd, hb0, -, -, hsl, hds, hd5⟩ := nd_kids s0 hn0 hok0
          obtain ⟨-, k1, -⟩ := nd_cells (hfr.get hb0 (by simp))
          have hfl := Bt.flat_take hs0
          have hw1 := Bt.flat_take_wt HOK.out q
          have hcl := hcs.len
          have HSL := Lib.hid (hsl.fr hfr (by simp))
          have HROW := Lib.hid hrow
          have hz := hfr.size
          have hll : cs.length + ds.length < 1000000 := by have := HWT.out; omega
          have HNX : Hid (∀ W v', OwnR pbE W wI.heap.size 99 v' (cs ++ ds) → Fr [] wI W → BtI wI W v' ((L.take (q + 1)).flatMap Bt.kidsOf)) := fun W v' j1 j2 => ⟨⟨_, j1, by rw [hfl]; exact hcs.append hds⟩, j2⟩
          have HFW := Lib.hid hfr
          clear hrow hcs hn0 hok0 hsl hds hfl hw1 hcl hb0 hs0 hJ hd5
          go_wp2_with (at_builtin; refine wpList_spread_enc (E := pbE) Tryd.und_insP Tryd.info_insP rfl (by decide) rfl _ _ rfl wI.heap.size _ _ cs ds gd rfl HROW.out rfl HSL.out hll hz ?_; intro v' w2 h1 _ h3; have hnx := HNX.out w2 v' h1 (HFW.out.below_step h3 (Nat.le_refl _)); obtain ⟨A6, c6, hv6, -⟩ := h1.form'; rw [List.length_append] at hv6; subst hv6; have HNX2 := Lib.hid hnx; clear h1 h3 hnx)
          go_roundw
          case rel => exact ⟨q + 1, by omega, by go_num, _, _, _, rfl, HNX2⟩
          case measure => (simp [intOf]; try omega)
        · obtain rfl : q = bs.length := by omega
          have qI : ¬ (bs.length : Int) < bs.length := by omega
          obtain ⟨⟨cs, hrow, hcs⟩, hfr⟩ := hJ.out
          obtain ⟨A7, c7, e7, -⟩ := hrow.form'
          injection e7 with e7 e8 e9
          subst e7 e8 e9
          have HOUT : Hid (∃ L, BtO w wr (.slice A2 cs.length c2) L ∧ L.length = cs.length ∧ (k0 < 0 → κ - 1 = k0) ∧ (¬ k0 < 0 → ¬ κ - 1 < 0 ∧ Bt.lev (κ - 1).toNat L = Bt.lev k0.toNat RT)) := by
            rw [HBL.out, List.take_length] at hcs
            refine ⟨_, ⟨⟨cs, own_mono hrow HFR.out.size, hcs.keep hfr⟩, HFR.out.trans hfr, Bt.okL_kids HOK.out, Nat.le_trans (Bt.wt_flat HOK.out) HWT.out⟩, hcs.len.symm, fun h => by omega, fun _ => ⟨by omega, ?_⟩⟩
            have e : κ.toNat = (κ - 1).toNat + 1 := by omega
            have := HPS.out
            rw [e] at this
            exact this
          clear hrow hcs hfr hJ hlt hq
          go_wp2
          go_roundw
          case rel => exact ⟨κ - 1, rfl, by omega, by omega, A2, _, c2, rfl, HOUT⟩
          case measure => (simp [intOf]; try omega)
    · by_cases hk0' : k0 < 0
      · have hκ := hneg hk0'
        have HXS := Lib.hid (HX.out.trans (if_pos hk0'))
        have HFR := Lib.hid hO.fr
        have hκ1 : ¬ (0 < κ) := by omega
        have hκ2 : κ < 0 := by omega
        clear hI hO hneg hpos hgo hLn hκ hk0' ka kb
        go_wp2
        go_ret
        exact ⟨_, [], rfl, OwnR.nil, by rw [HXS.out]; rfl, fun j hj => (by simp at hj), HFR.out⟩
      · obtain ⟨hκ0, hlev⟩ := hpos hk0'
        have hL : Bt.lev k0.toNat RT = L := by
          rw [← hlev]
          by_cases hκ : 0 < κ
          · have hn0 : n = 0 := by omega
            have : L = [] := List.eq_nil_of_length_eq_zero (by omega)
            rw [this, Bt.lev_nil]
          · have : κ.toNat = 0 := by omega
            rw [this]; rfl
        have HXS : Hid (XS = L.map Bt.keysOf) := by
          show _ = _
          rw [HX.out, if_neg hk0', hL]
        obtain ⟨⟨bs, hrow, hnd⟩, hfr, hok, hwt⟩ := hO
        have hbn : bs.length = n := by rw [hnd.len, hLn]
        have HND := Lib.hid hnd
        have HROW := Lib.hid hrow
        have HFR := Lib.hid hfr
        have hb61 : n ≤ 61 := by have := Bt.wt_len L; omega
        have HBN := Lib.hid hbn
        have HLN := Lib.hid hLn
        obtain ⟨wJ, hwJ⟩ : ∃ x, x = wr := ⟨_, rfl⟩
        subst hwJ
        have HE0 : Hid (BtE wJ wJ (.slice none 0 0) (L.map Bt.keysOf) 0) := ⟨⟨[], OwnR.nil, rfl, fun j hj => by simp at hj⟩, Fr.refl _ _⟩
        have hκ2 : ¬ κ < 0 := hκ0
        have hcond : Hid (¬ 0 < κ ∨ (0 < κ ∧ ¬ (0 : Int) < n)) := by
          by_cases hκ : 0 < κ
          · exact .inr ⟨hκ, by omega⟩
          · exact .inl hκ
        clear hI hneg hpos hgo hLn hnd hrow hfr hok hwt hbn hlev hL hk0' hκ0 ka kb
        rcases hcond.out with hc1 | ⟨hc1, hc2⟩
        · clear hcond
          go_wp2_with fail
          go_loopw [9, 44] (fun u i wr => ∃ q : Nat, q ≤ n ∧ i = .int .i64 q ∧ ∃ (A2 : Option Addr) (c2 : Nat), u = .slice A2 q c2 ∧ Hid (BtE wJ wr (.slice A2 q c2) (L.map Bt.keysOf) q)) (fun _ i _ => n - (intOf i).toNat)
          case atStart => exact ⟨0, Nat.zero_le _, rfl, none, 0, rfl, HE0⟩
          case round =>
            clear HE0
            obtain ⟨q, hq, rfl, A2, c2, rfl, hJ⟩ := hrel
            by_cases hlt : q < n
            · have qI : (q : Int) < n := by omega
              have q0 : (0 : Int) ≤ q := by omega
              obtain ⟨⟨vs, hvr, hvl, hve⟩, hfr⟩ := hJ.out
              obtain ⟨g, c', e, -, -, hcel⟩ := own_cellP HROW.out (by have := HBN.out; omega)
              injection e with e1 e2 e3
              subst e1 e3
              have hqb : q < bs.length := by have := HBN.out; omega
              have qc := hfr.cell (hcel q hqb) (by simp)
              obtain ⟨s0, F0, lo0, hs0, hn0, hok0⟩ := HND.out.at_ q hqb
              generalize bs[q] = b0 at *
              obtain ⟨vk, A3, n3, c3, ds, gd, hb0, hvk, hk4, -, -, -⟩ := nd_kids s0 hn0 hok0
              obtain ⟨k0c, -, -⟩ := nd_cells (hfr.get hb0 (by simp))
              have hvk2 := hvk.kept hfr (by simp)
              obtain ⟨gv, -, hsv⟩ := hvk2.sl
              have HCL := Lib.hid (cloneI wr vk gv _ hsv (by omega))
              have HNX : Hid (∀ w2 W u' y, Fr [] wr w2 → OwnR inE w2 0 3 y.val (Bt.keysOf s0) → OwnR slE W wJ.heap.size 25 u' (vs ++ [y]) → w2.grownBy W (Value.slice A2 q c2).ownBlock → BtE wJ W u' (L.map Bt.keysOf) (q + 1)) := fun w2 W u' y j1 j2 j3 j4 => BtE.next hvr hvl hve hfr j1 (by rw [getD_keys hs0]; exact j2) j3 j4
              have HVR := Lib.hid hvr
              have hz := hfr.size
              have HVL := Lib.hid hvl
              clear hcel hs0 hn0 hok0 hb0 hvk hvk2 hsv hvr hvl hve hJ hfr hk4 e2
              go_wp2_with (first
                | (go_at_call 65; (with_reducible refine useC HCL.out ?_); rintro e w2 ⟨v2, rfl, ho2, hf2⟩; obtain ⟨A5, c5, hv5, -⟩ := ho2.form'; obtain ⟨L5, hL5⟩ : ∃ L5, (Bt.keysOf s0).length = L5 := ⟨_, rfl⟩; rw [hL5] at hv5; clear hL5; subst hv5; have HO2 := Lib.hid ho2.base'; have HF2 := Lib.hid hf2; have HV2 := Lib.hid (HVR.out.kept hf2 (by simp)); have hz2 : wJ.heap.size ≤ w2.heap.size := Nat.le_trans hz hf2.size; clear ho2 hf2)
                | (have hi := HV2; at_builtin; refine wpList_push_enc2 (E := slE) (y := ⟨A5, L5, c5⟩) (wr := w2) und_sl info_sl rfl (by decide) rfl _ _ rfl wJ.heap.size _ vs rfl rfl HV2.out rfl (by have := HVL.out; omega) hz2 ?_; intro v' w3 h1 h2 h3; have hnx := HNX.out w2 w3 v' ⟨A5, L5, c5⟩ HF2.out HO2.out h1 h2; obtain ⟨A6, c6, hv6, -⟩ := h1.form'; rw [List.length_append, HVL.out] at hv6; subst hv6; have HNX2 : Hid (BtE wJ w3 (.slice A6 (q + 1) c6) (L.map Bt.keysOf) (q + 1)) := hnx; clear h1 h2 h3 hnx))
              go_roundw
              case rel => exact ⟨q + 1, by omega, by go_num, A6, c6, rfl, HNX2⟩
              case measure => (simp [intOf]; try omega)
            · obtain rfl : q = n := by omega
              have qI : ¬ (q : Int) < q := by omega
              obtain ⟨⟨vs, hvr, hvl, hve⟩, hfr⟩ := hJ.out
              have HRES : Hid (BtLv XS w (.returned (.slice A2 q c2)) wr) := ⟨_, vs, rfl, own_mono hvr HFR.out.size, by rw [HXS.out, List.length_map, HLN.out, hvl], fun j hj => by rw [HXS.out]; exact hve j hj, HFR.out.trans hfr⟩
              clear hvr hvl hve hfr hJ hlt hq
              go_wp2
              go_ret
              exact HRES.out
        · clear hcond
          go_wp2_with fail
          go_loopw [9, 44] (fun u i wr => ∃ q : Nat, q ≤ n ∧ i = .int .i64 q ∧ ∃ (A2 : Option Addr) (c2 : Nat), u = .slice A2 q c2 ∧ Hid (BtE wJ wr (.slice A2 q c2) (L.map Bt.keysOf) q)) (fun _ i _ => n - (intOf i).toNat)
          case atStart => exact ⟨0, Nat.zero_le _, rfl, none, 0, rfl, HE0⟩
          case round =>
            clear HE0
            obtain ⟨q, hq, rfl, A2, c2, rfl, hJ⟩ := hrel
            by_cases hlt : q < n
            · exfalso; omega
            · obtain rfl : q = n := by omega
              have qI : ¬ (q : Int) < q := by omega
              obtain ⟨⟨vs, hvr, hvl, hve⟩, hfr⟩ := hJ.out
              have HRES : Hid (BtLv XS w (.returned (.slice A2 q c2)) wr) := ⟨_, vs, rfl, own_mono hvr HFR.out.size, by rw [HXS.out, List.length_map, HLN.out, hvl], fun j hj => by rw [HXS.out]; exact hve j hj, HFR.out.trans hfr⟩
              clear hvr hvl hve hfr hJ hlt hq
              go_wp2
              go_ret
              exact HRES.out
end Go.Proofs.YtokbhiokcoldbaaDoor
