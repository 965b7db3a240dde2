/- New, Has, Height of package btree; add at any node. -/
import Derived.Test.YtokbhiokcoldbaaBtWalk3
import Derived.Deep.LoopGhost
namespace Go.Proofs.Ytokbhiokcoldbaa
open Go.RowKit

theorem bt_add : ∀ (d lo : Nat) (t : Bt.T d), Bt.Ok d lo t → ∀ (w : World) (b : Nat) (F : List Nat) (x : Int), Nd d w b t F → F.Nodup → Bt.Up (Bt.all d t) →
    Calls Try.prog 37 #[.pointer (some ⟨b, 0, none⟩), .int .i64 x] w (BtA d w b F (Bt.add d t x))
  | 0, _, t, hok, w, b, F, x, h, _, hu => bt_add0 w b t F x h hok.2 hu
  | d + 1, lo, t, hok, w, b, F, x, h, hnd, hu => by
    obtain ⟨vk, vc, K, i, bi, s, Fi, hN, rfl⟩ := btN_of hok h hnd hu x
    have IH := fun W (hW : Nd d W bi s Fi) => bt_add d 2 s hN.ok W bi Fi x hW hN.ndk hN.ups
    rcases hadd : Bt.add d s x with ⟨s', o⟩
    cases o with
    | none => exact bt_addN1 hN hadd IH
    | some q =>
      obtain ⟨u, r⟩ := q
      by_cases h3 : t.1.length ≤ 3
      · exact bt_addN2 hN hadd IH h3
      · exact bt_addN3 hN hadd IH (by have := hN.four; omega)
/-- Block p holds the tree s, its root in block r; of all its blocks P holds. -/
structure BtS (P : Nat → Prop) (w : World) (p r : Nat) (F : List Nat) (s : Bt.Tree) : Prop where
  file : w.heap[p]? = some (.cells #[.pointer (some ⟨r, 0, none⟩), .int .i64 (s.many : Int)] 60 (0, 0))
  nd : Nd s.d w r s.t F
  nodup : F.Nodup
  gp : P p
  gF : ∀ x ∈ F, P x
  np : p ∉ F
def BtF (P : Nat → Prop) (w : World) (p : Nat) (s : Bt.Tree) : Prop := ∃ r F, BtS P w p r F s
def BtAns (P : Nat → Prop) (p : Nat) (v : Value) (s : Bt.Tree) (w : World) (e : Ending) (w' : World) : Prop := e = .returned v ∧ BtF (OrNew P w) w' p s ∧ FrP P w w'
section
variable {P P' Q : Nat → Prop} {w w' : World} {p r : Nat} {F : List Nat} {s : Bt.Tree}
theorem BtS.frP (h : BtS P w p r F s) (hf : FrP Q w w') (hPQ : ∀ k, P k → ¬ Q k) : BtS P w' p r F s :=
  ⟨(hf.block p (lt_of_heap h.file) (hPQ p h.gp)).trans h.file, h.nd.frP hf (fun x hx => hPQ x (h.gF x hx)), h.nodup, h.gp, h.gF, h.np⟩
theorem BtS.keep (h : BtS P w p r F s) (hf : Fr [] w w') : BtS P w' p r F s := h.frP (Q := fun _ => False) ((FrP.refl _ w).step hf (by simp)) (fun _ _ h => h)
theorem BtS.imp (h : BtS P w p r F s) (hp : ∀ k, P k → P' k) : BtS P' w p r F s := ⟨h.file, h.nd, h.nodup, hp _ h.gp, fun x hx => hp _ (h.gF x hx), h.np⟩
theorem BtF.keep (h : BtF P w p s) (hf : Fr [] w w') : BtF P w' p s := by
  obtain ⟨r, F, h⟩ := h
  exact ⟨r, F, h.keep hf⟩
theorem BtF.imp (h : BtF P w p s) (hp : ∀ k, P k → P' k) : BtF P' w p s := by
  obtain ⟨r, F, h⟩ := h
  exact ⟨r, F, h.imp hp⟩
theorem BtF.frP (h : BtF P w p s) (hf : FrP Q w w') (hPQ : ∀ k, P k → ¬ Q k) : BtF P w' p s := by
  obtain ⟨r, F, h⟩ := h
  exact ⟨r, F, h.frP hf hPQ⟩
theorem BtAns.none {v : Value} {e : Ending} (h : BtF P w p s) (he : e = .returned v) (hf : Fr [] w w') : BtAns P p v s w e w' := ⟨he, (h.keep hf).imp (fun _ h => .inl h), (FrP.refl P w).step hf (by simp)⟩
theorem BtS.cells (h : BtS P w p r F s) : w.cell? ⟨p, 0, none⟩ = some (.pointer (some ⟨r, 0, none⟩)) ∧ w.cell? ⟨p, 1, none⟩ = some (.int .i64 (s.many : Int)) ∧ ∀ i, w.frozen? ⟨p, i, none⟩ = false :=
  ⟨by rw [cell_of_row w p _ _ _ _ h.file]; rfl, by rw [cell_of_row w p _ _ _ _ h.file]; rfl, fun i => free_block h.file i none⟩
end
theorem bt_New (w : World) : Calls Try.prog 26 #[] w fun e w' => ∃ p, e = .returned (.pointer (some ⟨p, 0, none⟩)) ∧ BtF (w.heap.size ≤ ·) w' p Bt.new ∧ Fr [] w w' := by
  have HF : Hid (∀ W, W = (w.alloc (.cells #[.slice none 0 0, .slice none 0 0] 63)).alloc (.cells #[.pointer (some ⟨w.heap.size, 0, none⟩), .int .i64 0] 60) → BtF (w.heap.size ≤ ·) W (w.heap.size + 1) Bt.new ∧ Fr [] w W) := fun W hW => by
    subst hW
    have hs : (w.alloc (.cells #[.slice none 0 0, .slice none 0 0] 63)).heap.size = w.heap.size + 1 := by simp
    refine ⟨⟨w.heap.size, [w.heap.size], ⟨?_, ⟨_, ((Fr.refl [] _).alloc _).get (heap_alloc_new w _) (by simp), OwnR.nil, rfl⟩, by simp, by show w.heap.size ≤ w.heap.size + 1; omega, fun x hx => ?_, by simp⟩⟩, ((Fr.refl _ _).alloc _).alloc _⟩
    · have := heap_alloc_new (w.alloc (.cells #[.slice none 0 0, .slice none 0 0] 63)) (.cells #[.pointer (some ⟨w.heap.size, 0, none⟩), .int .i64 0] 60)
      rw [hs] at this
      exact this
    · simp only [List.mem_singleton] at hx
      subst hx
      exact Nat.le_refl _
  go_enter Try.func26, Try.ntmps26
  go_wp2
  go_ret
  exact ⟨_, rfl, HF.out _ rfl⟩
/-- What a loop down the tree meets at a node. -/
theorem nd_down {d : Nat} {w : World} {b : Nat} {t : Bt.T d} {F : List Nat} (h : Nd d w b t F) {lo : Nat} (hok : Bt.Ok d lo t) : ∃ vk, OwnR inE w 0 3 vk (Bt.ks d t) ∧ (Bt.ks d t).length ≤ 4 ∧
    ((d = 0 ∧ w.heap[b]? = some (.cells #[vk, .slice none 0 0] 63 (0, 0))) ∨
     ∃ d', ∃ e : d = d' + 1, ∃ gc cc n, w.heap[b]? = some (.cells #[vk, .slice (some ⟨gc, 0, none⟩) n cc] 63 (0, 0)) ∧ n = (Bt.ks d t).length + 1 ∧ n ≤ cc ∧ (e ▸ t : Bt.T (d' + 1)).2.length = n ∧
       ∀ i s, (e ▸ t : Bt.T (d' + 1)).2[i]? = some s → ∃ bi Fi, w.cell? ⟨gc, i, none⟩ = some (.pointer (some ⟨bi, 0, none⟩)) ∧ Nd d' w bi s Fi ∧ Bt.Ok d' 2 s) := by
  cases d with
  | zero =>
    obtain ⟨vk, h1, h2, _⟩ := h
    exact ⟨vk, h2, hok.2, .inl ⟨rfl, h1⟩⟩
  | succ d =>
    obtain ⟨vk, vc, K, h1, h2, h3, h4, h5, _⟩ := h
    have hl : (K.map (·.1)).length = t.1.length + 1 := by rw [List.length_map, ← hok.2.1, h4, List.length_map]
    obtain ⟨gc, cc, rfl, q2, q3, q4⟩ := own_cellP h3 (by omega)
    refine ⟨vk, h2, hok.1.2, .inr ⟨d, rfl, gc, cc, _, h1, hl, q2, by show t.2.length = _; rw [hok.2.1, hl], fun i s hs => ?_⟩⟩
    have hs' : t.2[i]? = some s := hs
    have hi : i < K.length := by
      rw [h4] at hs'
      have := (List.getElem?_eq_some_iff.1 hs').1
      simpa using this
    have hsK : (K[i]).2.1 = s := by
      rw [h4, List.getElem?_map, List.getElem?_eq_getElem hi] at hs'
      simpa using hs'
    have hc := q4 i (by simpa using hi)
    rw [List.getElem_map] at hc
    have hn := h5 _ (List.getElem_mem hi)
    rw [hsK] at hn
    exact ⟨_, _, hc, hn, hok.2.2 s (List.mem_of_getElem? hs')⟩
set_option maxRecDepth 100000 in
set_option maxHeartbeats 4000000 in
theorem bt_Height (w : World) (P : Nat → Prop) (p : Nat) (s : Bt.Tree) (h : BtF P w p s) (hO : s.OK) :
    Calls Try.prog 10 #[.pointer (some ⟨p, 0, none⟩)] w fun e w' => e = .returned (.int .i64 ((s.d : Int) + 1)) ∧ w' = w := by
  obtain ⟨r, F, hS⟩ := h
  obtain ⟨c0, -, -⟩ := hS.cells
  have HNB := Lib.hid (fun (gc n cc : Nat) (W : World) => Lib.run_eql_slice_nil (P := Try.prog) W 61 58 (some ⟨gc, 0, none⟩) n cc 0 0 Try.und_insP)
  have HNA := Lib.hid (fun (W : World) => Lib.run_eql_slice_nil (P := Try.prog) W 61 58 none 0 0 0 0 Try.und_insP)
  have hd3 := hO.deep
  have HR0 : Hid (∃ (d : Nat) (t : Bt.T d) (F : List Nat) (lo : Nat), Nd d w r t F ∧ Bt.Ok d lo t ∧ s.d = 0 + d) := ⟨s.d, s.t, F, _, hS.nd, hO.ok, by omega⟩
  generalize s.d = D at *
  clear hS hO
  go_enter Try.func10, Try.ntmps10
  go_wp2
  go_loop [3, 4] (fun hh n => ∃ k : Nat, k ≤ 3 ∧ hh = .int .i64 k ∧ ∃ b : Nat, n = .pointer (some ⟨b, 0, none⟩) ∧ Hid (∃ (d : Nat) (t : Bt.T d) (F : List Nat) (lo : Nat), Nd d w b t F ∧ Bt.Ok d lo t ∧ D = k + d)) (fun hh _ => 3 - (intOf hh).toNat)
  case atStart => exact ⟨0, by omega, rfl, r, rfl, HR0⟩
  case round =>
    clear HR0
    obtain ⟨k, hk, rfl, b, rfl, hR⟩ := hrel
    obtain ⟨d, t, F, lo, hN, hok, hD⟩ := hR.out
    obtain ⟨vk, -, -, ⟨hd, hb⟩ | ⟨d', hd, gc, cc, n, hb, hn, hnc, hln, hk2⟩⟩ := nd_down hN hok
    · obtain ⟨-, c1, -⟩ := nd_cells hb
      have hnl := HNA.out w
      have HDD := Lib.hid (show D = k by omega)
      clear hN hok hD hd hb hR hd3
      go_wp2
      go_ret
      exact ⟨by rw [HDD.out]; rfl, rfl⟩
    · obtain ⟨-, c1, -⟩ := nd_cells hb
      have hnl := HNB.out gc n cc w
      subst hd
      have hok' : Bt.Ok (d' + 1) lo t := hok
      obtain ⟨s0, hs0⟩ : ∃ s0, t.2[0]? = some s0 := ⟨_, List.getElem?_eq_getElem (by have h1 : t.2.length = n := hln; omega)⟩
      obtain ⟨b0, F0, hc, hN0, hok0⟩ := hk2 0 s0 hs0
      have hn0 : (0 : Int) < n := by omega
      have HR2 : Hid (∃ (d : Nat) (t : Bt.T d) (F : List Nat) (lo : Nat), Nd d w b0 t F ∧ Bt.Ok d lo t ∧ D = (k + 1) + d) := ⟨d', s0, F0, 2, hN0, hok0, by omega⟩
      have hk3 : k + 1 ≤ 3 := by omega
      clear hN hok hok' hD hb hR hk2 hs0 hN0 hok0 hln hn hd3
      go_wp2
      go_round
      case rel => exact ⟨k + 1, hk3, by go_num, b0, rfl, HR2⟩
      case measure => (simp [intOf]; try omega)
end Go.Proofs.Ytokbhiokcoldbaa
