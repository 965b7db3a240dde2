/- The document's answer for package btree: Level. -/

import Derived.Test.YtokbhiokcoldbaaDoorBq02
import Derived.Test.YtokbhiokcoldbaaDoorBq17
import Derived.Test.YtokbhiokcoldbaaDoorBq20
namespace Go.Proofs.YtokbhiokcoldbaaDoor
open Go.RowKit

namespace Bt
theorem lvN_succ (ns : List Nn) : ∀ (k : Nat) (a : List Nat), lvN ns (k + 1) a = (lvN ns k a).flatMap (kidN ns)
  | 0, _ => rfl
  | k + 1, a => lvN_succ ns k (a.flatMap (kidN ns))
theorem repL_mem : ∀ {ns : List Nn} {a : List Nat} {L : List Sub}, RepL ns a L → ∀ j ∈ a, j < ns.length ∧ (nd ns j).2 = (kidN ns j).map (fun i : Nat => (i : Int))
  | ns, [], [], _, j, hj => by cases hj
  | ns, i :: r, ⟨0, t⟩ :: L, h, j, hj => by
    obtain ⟨⟨F, h1⟩, h2⟩ := h
    rcases List.mem_cons.1 hj with rfl | hj
    · refine ⟨h1.lt _ h1.self, ?_⟩
      unfold kidN
      rw [nd_of h1.1]
      rfl
    · exact repL_mem h2 j hj
  | ns, i :: r, ⟨d + 1, t⟩ :: L, h, j, hj => by
    obtain ⟨⟨F, h1⟩, h2⟩ := h
    rcases List.mem_cons.1 hj with rfl | hj
    · refine ⟨h1.lt _ h1.self, ?_⟩
      obtain ⟨K, g1, -⟩ := h1
      unfold kidN
      rw [nd_of g1]
      simp [Function.comp_def]
    · exact repL_mem h2 j hj
  | ns, [], _ :: _, h, _, _ => h.elim
  | ns, _ :: _, [], h, _, _ => h.elim
/-- Of a level's nodes. -/
def LvOk (ns : List Nn) (a : List Nat) : Prop := a.length ≤ 100 ∧ ∀ j ∈ a, j < ns.length ∧ (nd ns j).2 = (kidN ns j).map (fun i : Nat => (i : Int)) ∧ (kidN ns j).length ≤ 1000
theorem flatm_take {α β : Type} (f : α → List β) {l : List α} {j : Nat} (h : j < l.length) : (l.take (j + 1)).flatMap f = (l.take j).flatMap f ++ f l[j] := by
  rw [List.take_add_one, List.getElem?_eq_getElem h, List.flatMap_append]
  simp
theorem flatm_le {α β : Type} (f : α → List β) (n : Nat) : ∀ (l : List α), (∀ x ∈ l, (f x).length ≤ n) → (l.flatMap f).length ≤ l.length * n
  | [], _ => by simp
  | x :: r, h => by
    rw [List.flatMap_cons, List.length_append, List.length_cons, Nat.succ_mul]
    have := flatm_le f n r (fun y hy => h y (by simp [hy]))
    have := h x (by simp)
    omega
end Bt
abbrev intsN (l : List Nat) : List Int := l.map (fun i : Nat => (i : Int))
set_option maxRecDepth 100000 in
set_option maxHeartbeats 4000000 in
theorem bq_Level (w : World) (G : Nat → Prop) (v : Value) (q : Bt.Qt) (k : Nat) (hv : BqV G w v q) (hl : q.ns.length ≤ 1000) (hk : k ≤ 10) (hok : ∀ i, i ≤ k → Bt.LvOk q.ns (Bt.lvN q.ns i [q.root])) :
    Calls Tryd.prog 24 #[v, .int .i64 k] w (NewRow (intsN (Bt.lvN q.ns k [q.root])) w) := by
  obtain ⟨g, c, rfl, hT⟩ := hv.form
  have HX0 := Lib.hid (heap_alloc_new w (.cells #[.slice (some ⟨g, 0, none⟩) q.ns.length c, .int .i64 (q.root : Int)] 47))
  have HF0 : Hid (Fr [] w (w.alloc (.cells #[.slice (some ⟨g, 0, none⟩) q.ns.length c, .int .i64 (q.root : Int)] 47))) := (Fr.refl _ _).alloc _
  have HT := Lib.hid (hT.step HF0.out)
  have HOK := Lib.hid hok
  clear hv hT hok
  go_enter Tryd.func24, Tryd.ntmps24
  go_upto_region 1 with (fail)
  revert HX0 HF0 HT
  generalize w.alloc (.cells #[.slice (some ⟨g, 0, none⟩) q.ns.length c, .int .i64 (q.root : Int)] 47) = WB
  generalize w.heap.size = X
  intro HX0 HF0 HT
  have HXC : Hid (∀ W, Fr [] WB W → W.cell? ⟨X, 0, none⟩ = some (.slice (some ⟨g, 0, none⟩) q.ns.length c) ∧ W.cell? ⟨X, 1, none⟩ = some (.int .i64 (q.root : Int))) := fun W hW => by
    have := hW.get HX0.out (by simp)
    constructor <;> rw [cell_of_row _ _ _ _ _ _ this] <;> rfl
  obtain ⟨vs, -, hS⟩ := HT.out.op
  have HS := Lib.hid hS
  obtain ⟨b0, b1⟩ := HXC.out WB (Fr.refl _ _)
  have hszX : X < WB.heap.size := lt_of_heap HX0.out
  clear hS
  have HR0 : Hid (Fr [] WB (WB.alloc (.cells #[.int .i64 (q.root : Int)] 3)) ∧ ∃ gg, WB.heap.size ≤ gg ∧ Sl (WB.alloc (.cells #[.int .i64 (q.root : Int)] 3)) (.slice (some ⟨WB.heap.size, 0, none⟩) 1 1) gg (intsN (Bt.lvN q.ns 0 [q.root]))) := by
    refine ⟨(Fr.refl _ _).alloc _, ?_⟩
    obtain ⟨gg, hgg, hs⟩ := (own_int1 WB 3 (q.root : Int)).sl
    exact ⟨gg, hgg.resolve_right (by simp), hs⟩
  go_wp2_with fail
  clear b0 b1
  go_loopw [5, 6] (fun nv iv wr => ∃ i : Nat, i ≤ k ∧ iv = .int .i64 i ∧ Hid (Fr [] WB wr ∧ ∃ gg, (WB.heap.size ≤ gg ∨ intsN (Bt.lvN q.ns i [q.root]) = []) ∧ Sl wr nv gg (intsN (Bt.lvN q.ns i [q.root])))) (fun _ iv _ => k - (intOf iv).toNat)
  case atStart => exact ⟨0, Nat.zero_le _, rfl, HR0.out.1, HR0.out.2.elim (fun gg h => ⟨gg, .inl h.1, h.2⟩)⟩
  case round =>
    clear HR0
    obtain ⟨i, hi, rfl, hI⟩ := hrel
    obtain ⟨hfr, gg, hgg, hsl⟩ := hI.out
    have HFR := Lib.hid hfr
    have HSL := Lib.hid hsl
    have HGG := Lib.hid hgg
    obtain ⟨A1, o1, k1, rfl, -, hA1, hc1⟩ := hsl.form
    have HLO := Lib.hid (HOK.out i hi)
    have HLS := Lib.hid (Bt.lvN_succ q.ns i [q.root])
    clear hfr hsl hgg hI
    obtain ⟨a, ha⟩ : ∃ a, Bt.lvN q.ns i [q.root] = a := ⟨_, rfl⟩
    rw [ha] at HSL HGG HLO HLS hA1 hc1 ⊢
    rw [List.length_map] at HSL hA1 hc1 ⊢
    have HAE := Lib.hid ha
    clear ha
    by_cases hlt : i < k
    · have iI : (i : Int) < k := by omega
      have HA1 := Lib.hid hA1
      have HC1 := Lib.hid (fun W (hW : Fr [] wr W) j (hj : j < a.length) => hW.cell (hc1 j hj) (by simp))
      have hal := HLO.out.1
      clear hA1 hc1
      go_wp2_with fail
      obtain ⟨wD, hwD⟩ : ∃ x, x = wr := ⟨_, rfl⟩
      subst hwD
      have HG0 : Hid (Own wD wD.heap.size 3 (.slice none 0 0) (intsN ((a.take 0).flatMap (Bt.kidN q.ns))) ∧ Fr [] wD wD) := ⟨Own.nil _ _ _, Fr.refl _ _⟩
      go_loopw [7, 8] (fun nv jv wr => ∃ j : Nat, j ≤ a.length ∧ jv = .int .i64 j ∧ Hid (Own wr wD.heap.size 3 nv (intsN ((a.take j).flatMap (Bt.kidN q.ns))) ∧ Fr [] wD wr)) (fun _ jv _ => a.length - (intOf jv).toNat)
      case atStart => exact ⟨0, Nat.zero_le _, rfl, HG0⟩
      case round =>
        clear HG0
        obtain ⟨j, hj, rfl, hJ⟩ := hrel
        have HJ := Lib.hid hJ.out
        clear hJ
        by_cases hlj : j < a.length
        · have jI : (j : Int) < a.length := by omega
          have j0 : (0 : Int) ≤ j := by omega
          obtain rfl := HA1.out (by omega)
          have hjm : a[j] ∈ a := List.getElem_mem hlj
          obtain ⟨hx, hkid, hkl⟩ := HLO.out.2 _ hjm
          have hq := fun W (hW : Fr [] wD W) => HC1.out W hW j hlj
          rw [show nth (intsN a) j = ((a[j] : Nat) : Int) by simp [nth, List.getD, hlj]] at hq
          have HFT := Lib.hid (Bt.flatm_take (Bt.kidN q.ns) hlj)
          have hfl : ((a.take j).flatMap (Bt.kidN q.ns)).length < 200000 := by
            have h1 := Bt.flatm_le (Bt.kidN q.ns) 1000 (a.take j) (fun x hx => (HLO.out.2 x (List.mem_of_mem_take hx)).2.2)
            have h2 : (a.take j).length ≤ a.length := by rw [List.length_take]; omega
            have h3 : (a.take j).length * 1000 ≤ 100 * 1000 := Nat.mul_le_mul_right _ (by omega)
            omega
          generalize a[j] = x at *
          have x0 : (0 : Int) ≤ x := by omega
          have xI : (x : Int) < q.ns.length := by omega
          obtain ⟨A2, k2, A3, k3, q2, q3, r2, r3⟩ := HS.out.at hx
          have hd : Fr [] wD wr.drew := HJ.out.2.trans (Fr.refl [] wr).drew
          have hr3 := (r3.step (HFR.out.trans hd))
          rw [hkid] at hr3
          obtain ⟨g3, -, hs3⟩ := hr3
          rw [List.length_map] at hs3
          rw [hkid, List.length_map] at q3
          have HS3 := Lib.hid hs3
          have HOW := Lib.hid (HJ.out.1.kept (Fr.refl [] wr).drew (by simp))
          have HFD := Lib.hid hd
          have q0 := hq wr HJ.out.2
          obtain ⟨b0, b1⟩ := HXC.out wr (HFR.out.trans HJ.out.2)
          have p3 := (HFR.out.trans HJ.out.2).cell q3 (by simp)
          have hln : ((a.take j).flatMap (Bt.kidN q.ns)).length + (Bt.kidN q.ns x).length < 1000000 := by omega
          generalize Bt.kidN q.ns x = kx at *
          generalize (a.take j).flatMap (Bt.kidN q.ns) = acc at *
          obtain ⟨A4, k4, hv4⟩ := HJ.out.1.form0
          rw [List.length_map] at hv4
          subst hv4
          have hsz := HFD.out.size
          clear q2 q3 r2 r3 hs3 hq hkid hkl hjm hd
          go_wp2_with fail
          (refine wp_region_mixq 10 [(true, 0), (true, 1), (true, 2), (true, 3), (true, 4), (true, 5), (true, 6), (true, 7), (true, 8), (true, 9)] (by kernel_rfl) (by kernel_rfl) ?_; simp only [pickOps, List.map_cons, List.map_nil, List.getD_cons_zero, List.getD_cons_succ, List.drop_succ_cons, List.drop_zero]; (iterate 10 (first | (refine wpMix_take (v := ?_) (by rfl) ?_ ?_; rotate_left; (focus (intro W hW; subst hW; go_simp; (try with_reducible rfl); done)); try simp only [Act.put, List.setIfInBounds_toArray, List.set_cons_zero, List.set_cons_succ]) | (refine wpMix_leave (by rfl) ?_; try simp only [Act.put, List.setIfInBounds_toArray, List.set_cons_zero, List.set_cons_succ]))); refine wpMix_nil ?_)
          go_wp2_with (at_builtin; refine wpList_spread_int Tryd.intT rfl _ _ rfl wD.heap.size _ _ (intsN acc) (intsN kx) g3 rfl HOW.out rfl HS3.out (by simp only [List.length_map]; exact hln) hsz ?_; intro v' w3 h1 _ h3; have HJ2 : Hid (Own w3 wD.heap.size 3 v' (intsN (acc ++ kx)) ∧ Fr [] wD w3) := ⟨(show intsN (acc ++ kx) = intsN acc ++ intsN kx from List.map_append) ▸ h1, HFD.out.below_step h3 (Nat.le_refl _)⟩; clear h1 h3)
          go_roundw
          case rel => exact ⟨j + 1, by omega, by go_num, by show _ ∧ _; rw [HFT.out]; exact HJ2.out⟩
          case measure => (simp [intOf]; try omega)
        · obtain rfl : j = a.length := by omega
          have jI : ¬ ((a.length : Nat) : Int) < a.length := by omega
          rw [List.take_length, ← HLS.out] at HJ
          have HN : Hid (Fr [] WB wr ∧ ∃ gg, (WB.heap.size ≤ gg ∨ intsN (Bt.lvN q.ns (i + 1) [q.root]) = []) ∧ Sl wr u7 gg (intsN (Bt.lvN q.ns (i + 1) [q.root]))) := by
            refine ⟨HFR.out.trans HJ.out.2, ?_⟩
            obtain ⟨g4, hg4, hs4⟩ := HJ.out.1.sl
            exact ⟨g4, hg4.imp (fun h => Nat.le_trans HFR.out.size h) id, hs4⟩
          clear hlj
          go_wp2
          go_roundw
          case rel => exact ⟨i + 1, by omega, by go_num, HN.out⟩
          case measure => (simp [intOf]; try omega)
    · obtain rfl : i = k := by omega
      have iI : ¬ ((i : Nat) : Int) < i := by omega
      clear hA1 hc1 hlt
      go_wp2
      go_ret
      rw [HAE.out]
      exact ⟨_, gg, rfl, HGG.out.imp (fun h => by have := HF0.out.size; omega) id, HSL.out, HF0.out.trans HFR.out⟩
end Go.Proofs.YtokbhiokcoldbaaDoor
/- The document's levels, in plain Lean: few nodes. No program in sight. -/
namespace Go.Proofs.YtokbhiokcoldbaaDoor
namespace Bt
theorem same_lvLen {s : Tree} {q : Qt} (h : Same s q) (k : Nat) : (lvN q.ns k [q.root]).length = (level s k).length := by
  have := congrArg List.length (same_level h k)
  simpa using this
theorem same_lvOk {s : Tree} {q : Qt} (h : Same s q) (hO : s.OK) (hs : Small 1000 q.ns) (k : Nat) : LvOk q.ns (lvN q.ns k [q.root]) := by
  obtain ⟨F, hr, -⟩ := id h
  have h0 : RepL q.ns [q.root] [⟨s.d, s.t⟩] := ⟨⟨F, hr⟩, trivial⟩
  have hL := repL_lv k h0
  refine ⟨by rw [same_lvLen h]; have := level_few hO k; omega, fun j hj => ?_⟩
  obtain ⟨h1, h2⟩ := repL_mem hL j hj
  refine ⟨h1, h2, ?_⟩
  unfold kidN
  rw [List.length_map]
  exact (hs j).2
end Bt
end Go.Proofs.YtokbhiokcoldbaaDoor

/- BtreePlays: which levels have nodes; a level's rows, gathered. -/
namespace Go.Proofs.YtokbhiokcoldbaaDoor
open Go.RowKit

namespace Bt
theorem level_pos {s : Tree} (hO : s.OK) : ∀ k, k ≤ s.d → 0 < (level s k).length
  | 0, _ => by rw [level_len0]; exact Nat.zero_lt_one
  | k + 1, hk => by
    have ih := level_pos hO k (by omega)
    rw [level_kids hO hk]
    generalize level s k = xs at *
    cases xs with
    | nil => exact absurd ih (by simp)
    | cons a r => rw [List.map_cons, List.sum_cons]; omega
theorem level_next {s : Tree} {k : Nat} (h : level s k = []) : level s (k + 1) = [] := by
  unfold level at *
  rw [lev_succ, List.map_eq_nil_iff.1 h]
  rfl
theorem level_none {s : Tree} (hO : s.OK) : ∀ j, level s (s.d + 1 + j) = []
  | 0 => level_high hO
  | j + 1 => level_next (level_none hO j)
theorem level_has {s : Tree} (hO : s.OK) (k : Nat) : 0 < (level s k).length ↔ k < s.d + 1 := by
  constructor
  · intro h
    apply Classical.byContradiction
    intro hk
    obtain ⟨j, rfl⟩ : ∃ j, k = s.d + 1 + j := ⟨k - (s.d + 1), by omega⟩
    rw [level_none hO j] at h
    exact absurd h (by simp)
  · exact fun h => level_pos hO k (by omega)
theorem level_if (s : Tree) (k : Nat) : (if (k : Int) < 0 then [] else level s (k : Int).toNat) = level s k := by
  rw [if_neg (by omega), Int.toNat_natCast]
/-- The document's rows of a level. -/
def rowsN (ns : List Nn) (a : List Nat) : List (List Int) := a.map (fun i => (nd ns i).1)
theorem rowsN_at {ns : List Nn} {a : List Nat} {i : Nat} (h : i < a.length) : (rowsN ns a).getD i [] = (nd ns a[i]).1 := by
  simp [rowsN, List.getD, h]
end Bt
/-- What the rounds that gather rows know: they began at wJ. -/
structure BqE (wJ wr : World) (u : Value) (xs : List (List Int)) (i : Nat) : Prop where
  row : ∃ vs, OwnR slE wr wJ.heap.size 25 u vs ∧ vs.length = i ∧ ∀ j (h : j < vs.length), vs[j].n = (xs.getD j []).length ∧ ∃ g, Sl wJ vs[j].val g (xs.getD j [])
  fr : Fr [] wJ wr
theorem BqE.start (wJ : World) (xs : List (List Int)) : BqE wJ wJ (.slice none 0 0) xs 0 := ⟨⟨[], OwnR.nil, rfl, fun j hj => by simp at hj⟩, Fr.refl _ _⟩
theorem BqE.next {wJ wr w2 W : World} {u u' : Value} {xs : List (List Int)} {i : Nat} {vs : List SlV} {y : SlV} {gy : Nat} (hrow : OwnR slE wr wJ.heap.size 25 u vs) (hl : vs.length = i) (he : ∀ j (h : j < vs.length), vs[j].n = (xs.getD j []).length ∧ ∃ g, Sl wJ vs[j].val g (xs.getD j [])) (hf : Fr [] wJ wr)
    (h2 : Fr [] wr w2) (hn : y.n = (xs.getD i []).length) (hy : Sl wJ y.val gy (xs.getD i [])) (h3 : OwnR slE W wJ.heap.size 25 u' (vs ++ [y])) (hg : w2.grownBy W u.ownBlock) : BqE wJ W u' xs (i + 1) := by
  refine ⟨⟨_, h3, by rw [List.length_append, hl]; rfl, fun j hj => ?_⟩, (hf.trans h2).grown hg (fun g hg => .inr (hrow.ge g hg).1)⟩
  rw [List.length_append, List.length_singleton] at hj
  by_cases hjl : j < vs.length
  · have e : (vs ++ [y])[j]'(by rw [List.length_append]; exact hj) = vs[j] := List.getElem_append_left hjl
    rw [e]
    exact he j hjl
  · obtain rfl : j = i := by omega
    have e : (vs ++ [y])[j]'(by rw [List.length_append]; exact hj) = y := by
      rw [List.getElem_append_right (by omega)]
      simp [hl]
    rw [e]
    exact ⟨hn, gy, hy⟩
theorem BqE.rr {wJ wr : World} {u : Value} {xs : List (List Int)} {i : Nat} (h : BqE wJ wr u xs i) (hi : xs.length = i) : RR wr u xs := by
  subst hi
  obtain ⟨⟨vs, h1, h2, h3⟩, hf⟩ := h
  rcases h1.2 with ⟨rfl, hn⟩ | ⟨g, cap, cur, rfl, hb, hg, hc, hm, hs, ht⟩
  · have : xs = [] := List.eq_nil_of_length_eq_zero (by omega)
    subst this
    exact ⟨none, 0, 0, rfl, fun h => by simp at h, fun j hj => by simp at hj⟩
  · refine ⟨_, g, cap, by rw [h2], fun _ => rfl, fun j hj => ?_⟩
    have hjv : j < vs.length := by omega
    obtain ⟨h5, gj, h6⟩ := h3 j hjv
    have hv : vs[j].val = .slice vs[j].A (xs.getD j []).length vs[j].c := by rw [← h5]; rfl
    refine ⟨vs[j].A, vs[j].c, gj, ?_, by rw [← hv]; exact h6.fr hf (by simp)⟩
    rw [cell_of_row _ g j cur _ _ hg]
    have h7 := slE.cells_get vs j 0 hjv (by decide)
    rw [← ht, List.getElem?_take] at h7
    rw [show j * slE.k + 0 = j from by show j * 1 + 0 = j; omega] at h7
    split at h7
    · rw [← hv]
      simpa [slE] using h7
    · simp [slE] at h7
/-- A new row of numbers of nodes. -/
theorem NewRow.nat {a : List Nat} {w w' : World} {e : Ending} (h : NewRow (intsN a) w e w') : ∃ (A : Option Addr) (g o c : Nat), e = .returned (.slice A a.length c) ∧ (0 < a.length → A = some ⟨g, o, none⟩) ∧ (∀ i (hi : i < a.length), w'.cell? ⟨g, o + i, none⟩ = some (.int .i64 ((a[i] : Nat) : Int))) ∧ Fr [] w w' := by
  obtain ⟨v, g, rfl, -, hs, hf⟩ := h
  obtain ⟨A, o, c, rfl, -, hA, hc⟩ := hs.form
  have hl : (intsN a).length = a.length := List.length_map ..
  refine ⟨A, g, o, c, by rw [hl], fun h => hA (by rw [hl]; exact h), fun i hi => ?_, hf⟩
  have := hc i (by rw [hl]; exact hi)
  rw [show nth (intsN a) i = ((a[i] : Nat) : Int) by simp [nth, List.getD, hi]] at this
  exact this
theorem sl_lt {w : World} {v : Value} {g : Nat} {xs : List Int} (hs : Sl w v g xs) : g < w.heap.size ∨ xs = [] := by
  by_cases hx : xs = []
  · exact .inr hx
  · exact .inl (RowH.lt hs hx)
end Go.Proofs.YtokbhiokcoldbaaDoor

/- The contract of the laws' own 'in'. -/
namespace Go.Proofs.YtokbhiokcoldbaaDoor
open Go.RowKit

theorem in3_any (n lo hi : Int) (w : World) :
    Calls Tryd.prog 9 #[.int .i64 n, .int .i64 lo, .int .i64 hi] w fun e w' => e = .returned (.bool (decide (lo ≤ n ∧ n ≤ hi))) ∧ w = w' := by
  go_enter Tryd.func9, Tryd.ntmps9
  go_wp2
  all_goals (go_ret; refine ⟨?_, rfl⟩; congr; try simp; try omega)

theorem in3_is (n lo hi : Int) (b : Bool) (w : World) (h : decide (lo ≤ n ∧ n ≤ hi) = b) :
    Calls Tryd.prog 9 #[.int .i64 n, .int .i64 lo, .int .i64 hi] w fun e w' => e = .returned (.bool b) ∧ w' = w :=
  (in3_any n lo hi w).mono fun _ _ ⟨h1, h2⟩ => ⟨by rw [h1, h], h2.symm⟩
end Go.Proofs.YtokbhiokcoldbaaDoor

/- The contract of platterholdref1.Has. -/
namespace Go.Proofs.YtokbhiokcoldbaaDoor
open Go.RowKit

theorem has_yes {xs : List Int} {x : Int} {k : Nat} (hk : k < xs.length) (h : nth xs k = x) : hasB xs x = true := by
  unfold hasB
  rw [List.contains_iff_mem, ← h]
  exact getD_mem hk
theorem has_no {xs : List Int} {x : Int} (h : ∀ j, j < xs.length → nth xs j ≠ x) : hasB xs x = false := by
  unfold hasB
  cases e : xs.contains x
  · rfl
  · exact absurd (List.contains_iff_mem.1 e) (not_mem_of h)
theorem has_any (w : World) (v : Value) (g : Nat) (xs : List Int) (x : Int) (h : Sl w v g xs) :
    Calls Tryd.prog 21 #[v, .int .i64 x] w fun e w' => e = .returned (.bool (hasB xs x)) ∧ w = w' := by
  obtain ⟨A, o, c, rfl, hm, hA, hc⟩ := h.form
  clear h
  have HA := Lib.hid hA
  have HC := Lib.hid hc
  clear hA hc
  go_enter Tryd.func21, Tryd.ntmps21
  go_wp2
  go_loop [5] (fun i => ∃ k : Nat, k ≤ xs.length ∧ i = .int .i64 k ∧ Hid (∀ j, j < k → nth xs j ≠ x)) (fun i => xs.length - (intOf i).toNat)
  case atStart => exact ⟨0, Nat.zero_le _, rfl, fun j hj => absurd hj (Nat.not_lt_zero _)⟩
  case round =>
    obtain ⟨k, hk, rfl, hno⟩ := hrel
    by_cases hlt : k < xs.length
    · obtain rfl := HA.out (by omega)
      have hcell := HC.out k hlt
      by_cases he : nth xs k = x
      · have eB : (nth xs k == x) = true := by simpa using he
        have HE := Lib.hid (has_yes hlt he)
        clear he
        go_wp2
        go_ret
        exact ⟨ret_bool HE.out.symm, rfl⟩
      · have eB : (nth xs k == x) = false := by simpa using he
        have HE := Lib.hid he
        clear he
        go_wp2
        go_round
        case rel =>
          refine ⟨k + 1, by omega, by go_num, fun j hj => ?_⟩
          by_cases hjk : j = k
          · subst hjk; exact HE.out
          · exact hno.out j (by omega)
        case measure => simp [intOf]; omega
    · have HE := Lib.hid (has_no (fun j (hj : j < xs.length) => hno.out j (by omega)))
      go_wp2
      go_ret
      exact ⟨ret_bool HE.out.symm, rfl⟩
end Go.Proofs.YtokbhiokcoldbaaDoor
