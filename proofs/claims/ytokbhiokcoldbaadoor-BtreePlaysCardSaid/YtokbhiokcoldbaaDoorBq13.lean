/- Has and Add of package btree. -/

import Derived.Test.YtokbhiokcoldbaaDoorBq02
import Derived.Test.YtokbhiokcoldbaaDoorBq12
namespace Go.Proofs.YtokbhiokcoldbaaDoor
open Go.RowKit

/-- What the rounds of Has know of the node b. -/
def BtR (w : World) (b n : Nat) (x : Int) (R : Bool) : Prop := ∃ (d : Nat) (t : Bt.T d) (F : List Nat) (lo : Nat), d ≤ n ∧ Nd d w b t F ∧ Bt.Ok d lo t ∧ Bt.Up (Bt.all d t) ∧ Bt.has d t x = R
theorem up_ks : ∀ {d lo : Nat} {t : Bt.T d}, Bt.Ok d lo t → Bt.Up (Bt.all d t) → Bt.Up (Bt.ks d t)
  | 0, _, _, _, h => h
  | d + 1, _, t, hok, h => Bt.up_keys t.1 _ (Bt.map_len hok) h
set_option maxRecDepth 100000 in
set_option maxHeartbeats 4000000 in
theorem bt_Has (w : World) (P : Nat → Prop) (p : Nat) (s : Bt.Tree) (x : Int) (h : BtF P w p s) (hO : s.OK) :
    Calls Tryd.prog 28 #[.pointer (some ⟨p, 0, none⟩), .int .i64 x] w fun e w' => e = .returned (.bool (Bt.has s.d s.t x)) ∧ Fr [] w w' := by
  obtain ⟨r, F, hS⟩ := h
  obtain ⟨c0, -, -⟩ := hS.cells
  have HNB := Lib.hid (fun (gc n cc : Nat) (W : World) => Lib.run_eql_slice_nil (P := Tryd.prog) W 100 99 (some ⟨gc, 0, none⟩) n cc 0 0 Tryd.und_insP)
  have HNA := Lib.hid (fun (W : World) => Lib.run_eql_slice_nil (P := Tryd.prog) W 100 99 none 0 0 0 0 Tryd.und_insP)
  have hd3 := hO.deep
  have HR0 : Hid (BtR w r 3 x (Bt.has s.d s.t x)) := ⟨s.d, s.t, F, _, hd3, hS.nd, hO.ok, hO.up, rfl⟩
  generalize Bt.has s.d s.t x = R at *
  clear hS hO hd3
  go_enter Tryd.func28, Tryd.ntmps28
  go_wp2
  go_loopg [5] 3 (fun n nv wr => ∃ b : Nat, nv = .pointer (some ⟨b, 0, none⟩) ∧ Hid (BtR wr b n x R) ∧ Hid (Fr [] w wr))
  case atStart => exact ⟨r, rfl, HR0, Fr.refl _ _⟩
  case round =>
    clear HR0
    obtain ⟨b, rfl, hR, hF⟩ := hrel
    obtain ⟨d, t, F, lo, hdn, hN, hok, hup, hhas⟩ := hR.out
    obtain ⟨vk, hvk, hk4, hcase⟩ := nd_down hN hok
    have hupk := up_ks hok hup
    have HBS := Lib.hid (bs_own wr vk (Bt.ks d t) x hvk hupk (by omega))
    have hlb := Bt.lb_le x (Bt.ks d t)
    rcases hcase with ⟨hd, hb⟩ | ⟨d', hd, gc, cc, nn, hb, hn, hnc, hln, hk2⟩
    · obtain ⟨c1, c2, -⟩ := nd_cells hb
      have HB := Lib.hid hb
      subst hd
      have hR2 : Bt.hasK (Bt.ks 0 t) x = R := hhas
      rw [hR2] at HBS
      clear hN hok hup hhas hk4 hupk hvk hR hb
      generalize Bt.lb x (Bt.ks 0 t) = i at *
      cases R with
      | true =>
        go_wp2_with (go_at_call 66; (with_reducible refine useC HBS.out ?_); rintro e w2 ⟨rfl, hf⟩; have HF2 := Lib.hid (hF.out.trans hf); clear hf)
        go_ret
        exact ⟨rfl, HF2.out⟩
      | false =>
        go_wp2_with (go_at_call 66; (with_reducible refine useC HBS.out ?_); rintro e w2 ⟨rfl, hf⟩; have HF2 := Lib.hid (hF.out.trans hf); obtain ⟨q1, q2, -⟩ := nd_cells (hf.get HB.out (by simp)); have hnl := HNA.out w2; clear hf)
        go_ret
        exact ⟨rfl, HF2.out⟩
    · obtain ⟨c1, c2, -⟩ := nd_cells hb
      have HB := Lib.hid hb
      subst hd
      have hok' : Bt.Ok (d' + 1) lo t := hok
      obtain ⟨s0, hs0, hm0, hi0⟩ := Bt.kid_at hok' x
      obtain ⟨b0, F0, hc, hN0, hok0⟩ := hk2 (Bt.lb x t.1) s0 hs0
      have hups0 : Bt.Up (Bt.all d' s0) := Bt.up_kid t.1 _ (Bt.map_len hok') hup _ (List.mem_map.2 ⟨s0, hm0, rfl⟩)
      have hh : Bt.has (d' + 1) t x = if Bt.hasK t.1 x then true else Bt.has d' s0 x := by rw [Bt.has, hs0]
      rw [hh] at hhas
      have hiI : ((Bt.lb x t.1 : Nat) : Int) < nn := by have h1 : t.2.length = nn := hln; omega
      have hi0I : (0 : Int) ≤ (Bt.lb x t.1 : Nat) := by omega
      have HBS : Hid (Calls Tryd.prog 66 #[vk, .int .i64 x] wr fun e w' => e = .returned (.tuple #[.int .i64 (Bt.lb x t.1 : Nat), .bool (Bt.hasK t.1 x)]) ∧ Fr [] wr w') := HBS.out
      have HC := Lib.hid hc
      have hlb' : Bt.lb x t.1 ≤ 5 := by have h1 : t.2.length = nn := hln; have h2 : (Bt.ks (d' + 1) t).length ≤ 4 := hk4; omega
      have HN0 := Lib.hid hN0
      cases hb0 : Bt.hasK t.1 x with
      | true =>
        rw [hb0] at HBS hhas
        have HRT := Lib.hid (show R = true from hhas.symm)
        clear hN hok hok' hup hhas hk4 hupk hvk hR hb hh hk2 hs0 hm0 hi0 hc hN0 hln hlb hups0 hb0 hok0 hn
        generalize Bt.lb x t.1 = i at *
        go_wp2_with (go_at_call 66; (with_reducible refine useC HBS.out ?_); rintro e w2 ⟨rfl, hf⟩; have HF2 := Lib.hid (hF.out.trans hf); clear hf)
        go_ret
        exact ⟨by rw [HRT.out]; rfl, HF2.out⟩
      | false =>
        rw [hb0] at HBS hhas
        have HRX : Hid (∀ W, Fr [] wr W → BtR W b0 d' x R) := fun W hW => ⟨d', s0, F0, 2, Nat.le_refl _, HN0.out.keep hW, hok0, hups0, by simpa using hhas⟩
        clear hN hok hok' hup hhas hk4 hupk hvk hR hb hh hk2 hs0 hm0 hi0 hc hN0 hln hlb hups0 hb0 hok0 hn
        generalize Bt.lb x t.1 = i at *
        go_wp2_with (go_at_call 66; (with_reducible refine useC HBS.out ?_); rintro e w2 ⟨rfl, hf⟩; have HF2 := Lib.hid (hF.out.trans hf); have HR2 := Lib.hid (HRX.out w2 hf); obtain ⟨q1, q2, -⟩ := nd_cells (hf.get HB.out (by simp)); have q3 := hf.cell HC.out (by simp); have hnl := HNB.out gc nn cc w2; clear hf)
        go_roundg d'
        case measure => omega
        case rel => exact ⟨b0, rfl, HR2, HF2⟩
/-- The root's own add, and the new root. -/
theorem bt_root {P : Nat → Prop} {w w1 w2 : World} {p r : Nat} {F : List Nat} {s : Bt.Tree} {x : Int} (h : BtS P w p r F s) (he : Bt.addErr s x = 0) (hw1 : w1 = w.setCell ⟨p, 1, none⟩ (.int .i64 ((s.many : Int) + 1))) {e : Ending} (ha : BtA s.d w1 r F (Bt.add s.d s.t x) e w2) :
    (e = .returned (.tuple #[.int .i64 0, .pointer none]) ∧ BtAns P p .nilIface (Bt.put s x) w (.returned .nilIface) w2) ∨
    ∃ u b2, e = .returned (.tuple #[.int .i64 u, .pointer (some ⟨b2, 0, none⟩)]) ∧ w2.heap[p]? = some (.cells #[.pointer (some ⟨r, 0, none⟩), .int .i64 ((s.many : Int) + 1)] 104 (0, 0)) ∧
      ∀ w3, w3 = (((w2.alloc (.cells #[.int .i64 u] 3)).alloc (.cells #[.pointer (some ⟨r, 0, none⟩), .pointer (some ⟨b2, 0, none⟩)] 99)).alloc (.cells #[.slice (some ⟨w2.heap.size, 0, none⟩) 1 1, .slice (some ⟨w2.heap.size + 1, 0, none⟩) 2 2] 102)).setCell ⟨p, 0, none⟩ (.pointer (some ⟨w2.heap.size + 2, 0, none⟩)) →
        BtAns P p .nilIface (Bt.put s x) w (.returned .nilIface) w3 := by
  have hput : Bt.put s x = Bt.grow s.d (Bt.add s.d s.t x) (s.many + 1) := by unfold Bt.put; rw [if_pos he]
  have hcast : (((s.many + 1 : Nat)) : Int) = (s.many : Int) + 1 := by omega
  have hf1 : Fr [p] w w1 := by rw [hw1]; exact (Fr.refl _ _).setCell (.inl (by simp)) _
  have hp1 : w1.heap[p]? = some (.cells #[.pointer (some ⟨r, 0, none⟩), .int .i64 ((s.many : Int) + 1)] 104 (0, 0)) := by rw [hw1]; exact set_block h.file _
  have z1 := hf1.size
  have hpw := lt_of_heap h.file
  rw [hput]
  obtain ⟨F', F2, a1, a2, a3, a4, a5⟩ := ha
  have hp2 : w2.heap[p]? = some (.cells #[.pointer (some ⟨r, 0, none⟩), .int .i64 ((s.many : Int) + 1)] 104 (0, 0)) := (a4.block p (by omega) h.np).trans hp1
  have hfp : FrP P w w2 := ((FrP.refl P w).step hf1 (fun y hy => .inl (by simp only [List.mem_singleton] at hy; subst hy; exact h.gp))).trans a4 (fun y hy => .inl (h.gF y hy))
  have hin : ∀ y ∈ F' ++ F2, OrNew P w y ∧ y ≠ p := fun y hy => by
    rcases a3 y hy with hy | hy
    · exact ⟨.inl (h.gF y hy), fun e => h.np (by rw [← e]; exact hy)⟩
    · exact ⟨.inr (by omega), by omega⟩
  rcases hadd : Bt.add s.d s.t x with ⟨t', o⟩
  rw [hadd] at a1 a5
  cases o with
  | none =>
    obtain ⟨rfl, rfl⟩ := a5
    rw [List.append_nil] at a2 hin
    refine .inl ⟨rfl, rfl, ⟨r, F', ⟨?_, a1, a2, .inl h.gp, fun y hy => (hin y hy).1, fun hm => (hin p hm).2 rfl⟩⟩, hfp⟩
    show w2.heap[p]? = some (.cells #[.pointer (some ⟨r, 0, none⟩), .int .i64 (((s.many + 1 : Nat)) : Int)] 104 (0, 0))
    rw [hcast]
    exact hp2
  | some q =>
    obtain ⟨u, rt⟩ := q
    obtain ⟨b2, rfl, a6⟩ := a5
    refine .inr ⟨u, b2, rfl, hp2, fun w3 hw3 => ?_⟩
    have s1 : (w2.alloc (.cells #[.int .i64 u] 3)).heap.size = w2.heap.size + 1 := by simp
    have s2 : ((w2.alloc (.cells #[.int .i64 u] 3)).alloc (.cells #[.pointer (some ⟨r, 0, none⟩), .pointer (some ⟨b2, 0, none⟩)] 99)).heap.size = w2.heap.size + 2 := by simp
    have z2 := a4.size
    have hpw2 : p < w2.heap.size := by omega
    have g1 : Fr [] w2 (w2.alloc (.cells #[.int .i64 u] 3)) := (Fr.refl _ _).alloc _
    have g2 : Fr [] (w2.alloc (.cells #[.int .i64 u] 3)) ((w2.alloc (.cells #[.int .i64 u] 3)).alloc (.cells #[.pointer (some ⟨r, 0, none⟩), .pointer (some ⟨b2, 0, none⟩)] 99)) := (Fr.refl _ _).alloc _
    have x1 := heap_alloc_new w2 (.cells #[.int .i64 u] 3)
    have x2 := heap_alloc_new (w2.alloc (.cells #[.int .i64 u] 3)) (.cells #[.pointer (some ⟨r, 0, none⟩), .pointer (some ⟨b2, 0, none⟩)] 99)
    rw [s1] at x2
    have x3 := heap_alloc_new ((w2.alloc (.cells #[.int .i64 u] 3)).alloc (.cells #[.pointer (some ⟨r, 0, none⟩), .pointer (some ⟨b2, 0, none⟩)] 99)) (.cells #[.slice (some ⟨w2.heap.size, 0, none⟩) 1 1, .slice (some ⟨w2.heap.size + 1, 0, none⟩) 2 2] 102)
    rw [s2] at x3
    generalize hwa : (w2.alloc (.cells #[.int .i64 u] 3)) = wa at *
    generalize hwb : wa.alloc (.cells #[.pointer (some ⟨r, 0, none⟩), .pointer (some ⟨b2, 0, none⟩)] 99) = wb at *
    have g3 : Fr [] wb (wb.alloc (.cells #[.slice (some ⟨w2.heap.size, 0, none⟩) 1 1, .slice (some ⟨w2.heap.size + 1, 0, none⟩) 2 2] 102)) := (Fr.refl _ _).alloc _
    have g4 : Fr [p] (wb.alloc (.cells #[.slice (some ⟨w2.heap.size, 0, none⟩) 1 1, .slice (some ⟨w2.heap.size + 1, 0, none⟩) 2 2] 102)) w3 := by rw [hw3]; exact (Fr.refl _ _).setCell (.inl (by simp)) _
    have g13 := (g1.trans g2).trans g3
    have gall : Fr [p] w2 w3 := g13.nil.step g4 (fun y hy => .inl hy)
    have n1 : Nd s.d w3 r t' F' := a1.fr gall (fun y hy hm => by simp only [List.mem_singleton] at hy; subst hy; exact (hin y (List.mem_append.2 (.inl hm))).2 rfl)
    have n2 : Nd s.d w3 b2 rt F2 := a6.fr gall (fun y hy hm => by simp only [List.mem_singleton] at hy; subst hy; exact (hin y (List.mem_append.2 (.inr hm))).2 rfl)
    have h1 : OwnR inE w3 0 3 (.slice (some ⟨w2.heap.size, 0, none⟩) 1 1) [u] := own_at (g4.get (g3.get (g2.get x1 (by simp)) (by simp)) (by simp; omega)) (Nat.zero_le _) rfl (Nat.le_refl _) (by decide) rfl rfl
    have h2 : OwnR pbE w3 0 99 (.slice (some ⟨w2.heap.size + 1, 0, none⟩) 2 2) [r, b2] := own_at (g4.get (g3.get x2 (by simp)) (by simp; omega)) (Nat.zero_le _) rfl (Nat.le_refl _) (by decide) rfl rfl
    have h3 := g4.get x3 (by simp; omega)
    have hlt1 := a1.lt
    have hlt2 := a6.lt
    refine ⟨rfl, ⟨w2.heap.size + 2, (w2.heap.size + 2) :: ([w2.heap.size] ++ [w2.heap.size + 1] ++ (F' ++ F2)), ⟨?_, ⟨_, _, [(r, t', F'), (b2, rt, F2)], h3, h1, h2, rfl, fun q hq => ?_, by simp [obl, Value.ownBlock]⟩, ?_, .inl h.gp, fun y hy => ?_, fun hm => ?_⟩⟩, hfp.step gall (fun y hy => .inl (by simp only [List.mem_singleton] at hy; subst hy; exact h.gp))⟩
    · show w3.heap[p]? = some (.cells #[.pointer (some ⟨w2.heap.size + 2, 0, none⟩), .int .i64 (((s.many + 1 : Nat)) : Int)] 104 (0, 0))
      rw [hcast, hw3]
      exact set_block (g13.get hp2 (by simp)) _
    · simp only [List.mem_cons, List.not_mem_nil, or_false] at hq
      rcases hq with rfl | rfl
      · exact n1
      · exact n2
    · have hlt : ∀ y ∈ F' ++ F2, y < w2.heap.size := fun y hy => (List.mem_append.1 hy).elim (hlt1 y) (hlt2 y)
      simp only [List.cons_append, List.nil_append, List.nodup_cons, List.mem_cons]
      refine ⟨fun hm => ?_, fun hm => ?_, fun hm => ?_, a2⟩
      · rcases hm with hm | hm | hm
        · omega
        · omega
        · have := hlt _ hm; omega
      · rcases hm with hm | hm
        · omega
        · have := hlt _ hm; omega
      · have := hlt _ hm; omega
    · simp only [List.cons_append, List.nil_append, List.mem_cons] at hy
      rcases hy with rfl | rfl | rfl | hy
      · exact .inr (by omega)
      · exact .inr (by omega)
      · exact .inr (by omega)
      · exact (hin y hy).1
    · simp only [List.cons_append, List.nil_append, List.mem_cons] at hm
      rcases hm with hm | hm | hm | hm
      · omega
      · omega
      · omega
      · exact (hin p hm).2 rfl
end Go.Proofs.YtokbhiokcoldbaaDoor
/- Add of package btree. -/
namespace Go.Proofs.YtokbhiokcoldbaaDoor
open Go.RowKit

set_option maxRecDepth 100000 in
set_option maxHeartbeats 4000000 in
theorem bt_Add (w : World) (P : Nat → Prop) (p : Nat) (s : Bt.Tree) (x : Int) (h : BtF P w p s) (hO : s.OK) :
    Calls Tryd.prog 23 #[.pointer (some ⟨p, 0, none⟩), .int .i64 x] w (BtAns P p (errV (Bt.addErr s x)) (Bt.put s x) w) := by
  have HH := Lib.hid h
  have HHAS := Lib.hid (bt_Has w P p s x h hO)
  by_cases hx : 0 ≤ x ∧ x ≤ 1000
  · have hxd := decide_eq_true hx
    cases hb : Bt.has s.d s.t x with
    | true =>
      have he : Bt.addErr s x = 6 := by unfold Bt.addErr; rw [if_pos hx, if_pos hb]
      have hp : Bt.put s x = s := by unfold Bt.put; rw [if_neg (by rw [he]; decide)]
      rw [he, hp, errV_no (by decide)]
      rw [hb] at HHAS
      clear h hO hx he hp hb
      go_enter Tryd.func23, Tryd.ntmps23
      go_wp2_with (first
        | (go_at_call 63; (with_reducible refine useC (within_is x _ _ true _ hxd) ?_); rintro e w ⟨rfl, rfl⟩)
        | (go_at_call 28; (with_reducible refine useC HHAS.out ?_); rintro e w2 ⟨rfl, hf⟩; have HF2 := Lib.hid hf; clear hf))
      go_ret
      exact BtAns.none HH.out rfl HF2.out
    | false =>
      rw [hb] at HHAS
      by_cases hm : s.many = 60
      · have he : Bt.addErr s x = 4 := by unfold Bt.addErr; rw [if_pos hx, if_neg (by rw [hb]; decide), if_pos hm]
        have hp : Bt.put s x = s := by unfold Bt.put; rw [if_neg (by rw [he]; decide)]
        rw [he, hp, errV_no (by decide)]
        have HC : Hid (∀ W, Fr [] w W → W.cell? ⟨p, 1, none⟩ = some (.int .i64 60)) := fun W hW => by
          obtain ⟨r, F, hS⟩ := h
          have := (hS.keep hW).cells.2.1
          rw [hm] at this
          exact this
        clear h hO hx he hp hb hm
        go_enter Tryd.func23, Tryd.ntmps23
        go_wp2_with (first
          | (go_at_call 63; (with_reducible refine useC (within_is x _ _ true _ hxd) ?_); rintro e w ⟨rfl, rfl⟩)
          | (go_at_call 28; (with_reducible refine useC HHAS.out ?_); rintro e w2 ⟨rfl, hf⟩; have HF2 := Lib.hid hf; have c1 := HC.out w2 hf; clear hf))
        go_ret
        exact BtAns.none HH.out rfl HF2.out
      · have he : Bt.addErr s x = 0 := by unfold Bt.addErr; rw [if_pos hx, if_neg (by rw [hb]; decide), if_neg hm]
        rw [he, show errV 0 = .nilIface from rfl]
        obtain ⟨r, F, hS⟩ := h
        have hmn := hO.many
        have HS := Lib.hid hS
        have HC := Lib.hid (fun W (hW : Fr [] w W) => (hS.keep hW).cells)
        have HADD := Lib.hid (fun W (hW : Nd s.d W r s.t F) => bt_add s.d _ s.t hO.ok W r F x hW hS.nodup hO.up)
        have HE := Lib.hid he
        have hmb : ((s.many : Int) == 60) = false := beq_eq_false_iff_ne.2 (by omega)
        have hw : IntKind.i64.wrap ((s.many : Int) + 1) = (s.many : Int) + 1 := by rw [IntKind.wrap_i64]; omega
        have HR := Lib.hid (fun W (hW : Fr [] w W) w1 hw1 w2 e ha => bt_root (hS.keep hW) he hw1 (e := e) (w1 := w1) (w2 := w2) ha)
        have HND : Hid (∀ W, Fr [] w W → Nd s.d (W.setCell ⟨p, 1, none⟩ (.int .i64 ((s.many : Int) + 1))) r s.t F) := fun W hW => (hS.keep hW).nd.fr ((Fr.refl [p] W).setCell (.inl (by simp)) _) (fun y hy hm => by simp only [List.mem_singleton] at hy; subst hy; exact hS.np hm)
        have HFROM : Hid (∀ W w3, Fr [] w W → BtAns P p .nilIface (Bt.put s x) W (.returned .nilIface) w3 → BtAns P p .nilIface (Bt.put s x) w (.returned .nilIface) w3) := fun W w3 hW ⟨k1, k2, k3⟩ =>
          ⟨k1, k2.imp (fun y hy => hy.imp id (fun h => Nat.le_trans hW.size h)), ⟨k3.os.trans hW.os, k3.tape.trans hW.tape, k3.output.trans hW.output, Nat.le_trans hW.size k3.size, fun k hk hn => (k3.block k (Nat.lt_of_lt_of_le hk hW.size) hn).trans (hW.block k hk (by simp))⟩⟩
        clear hS hO hx he hb hm hmn HE
        generalize hmm : (s.many : Int) = M at *
        generalize Bt.put s x = R at *
        clear hmm
        go_enter Tryd.func23, Tryd.ntmps23
        go_wp2_with (first
          | (go_at_call 63; (with_reducible refine useC (within_is x _ _ true _ hxd) ?_); rintro e w ⟨rfl, rfl⟩)
          | (go_at_call 28; (with_reducible refine useC HHAS.out ?_); rintro e w2 ⟨rfl, hf⟩; have HF2 := Lib.hid hf; obtain ⟨c0, c1, cf⟩ := HC.out w2 hf; have hn2 := HND.out w2 hf; obtain ⟨w3, hw3⟩ : ∃ w3, w2.setCell ⟨p, 1, none⟩ (.int .i64 (M + 1)) = w3 := ⟨_, rfl⟩; rw [hw3] at hn2; have HA3 := Lib.hid (HADD.out w3 hn2); have HW3 := Lib.hid hw3; have c3 : w3.cell? ⟨p, 0, none⟩ = some (.pointer (some ⟨r, 0, none⟩)) := (by rw [← hw3]; simp [go_sem, c0]); clear hf hn2 hw3)
          | (have hi := HW3; rw [HW3.out]))
        refine useC HA3.out ?_
        intro e w4 ha
        rcases HR.out w2 HF2.out w3 HW3.out.symm w4 e ha with ⟨rfl, hA⟩ | ⟨u, b2, rfl, hp4, hA⟩
        · have HA := Lib.hid (HFROM.out _ _ HF2.out hA)
          clear ha hA
          go_wp2
          go_ret
          exact HA.out
        · have d0 : w4.cell? ⟨p, 0, none⟩ = some (.pointer (some ⟨r, 0, none⟩)) := by rw [cell_of_row w4 p _ _ _ _ hp4]; rfl
          have df := fun i => free_block hp4 i none
          have hpl := lt_of_heap hp4
          have hpl1 : p < w4.heap.size + 1 := by omega
          have hpl2 : p < w4.heap.size + 1 + 1 := by omega
          have HA := Lib.hid (fun w5 h5 => HFROM.out _ _ HF2.out (hA w5 h5))
          clear ha hA hp4
          go_wp2
          go_ret
          refine HA.out _ ?_
          rw [World.setCell_alloc_past, World.setCell_alloc_past, World.setCell_alloc_past]
          all_goals (first | exact hpl | (simp; omega))
  · have hxd := decide_eq_false hx
    have he : Bt.addErr s x = 1 := by unfold Bt.addErr; rw [if_neg hx]
    have hp : Bt.put s x = s := by unfold Bt.put; rw [if_neg (by rw [he]; decide)]
    rw [he, hp, errV_no (by decide)]
    clear h hO hx he hp
    go_enter Tryd.func23, Tryd.ntmps23
    go_wp2_with (go_at_call 63; (with_reducible refine useC (within_is x _ _ false _ hxd) ?_); rintro e w ⟨rfl, rfl⟩)
    go_ret
    exact BtAns.none HH.out rfl (Fr.refl _ _)
end Go.Proofs.YtokbhiokcoldbaaDoor

/- 'out = append(out, xs...)' for a row of structs that the call owns. No program in sight. -/
namespace Go.Proofs.YtokbhiokcoldbaaDoor
open Go.RowKit
section
variable {α : Type} {E : Enc α} {P : Program} {w : World} {e : TypeId}
theorem run_append_empty (base : Nat) (t ty : TypeId) (i : TypeInfo) (size : Nat) (ht : P.underlying t = some (.slice e)) (hi : P.info? e = some i)
    (v : Value) (n : Nat) (xs : List Value) (hown : w.ownsRow base e size v n xs) (A : Option Addr) (c : Nat) :
    (Builtin.append_ #[t, t] ty #[v, .slice A 0 c]).run P w = .ok v w := by
  rcases hown.2 with ⟨rfl, rfl⟩ | ⟨g, cap, cur, rfl, _, _, hnc, _⟩
  · cases A <;> simp [Builtin.append_, run_underlying ht, sizeOf, typeInfo, hi, Builtin.lenOf, Builtin.firstCells, loadCells, loadCellsFrom]
  · cases A <;> simp [Builtin.append_, run_underlying ht, sizeOf, typeInfo, hi, Builtin.lenOf, Builtin.firstCells, hnc, storeCells, loadCells, loadCellsFrom]
theorem wpList_spread_enc {ops : Array Oper} {rest : List Oper} {o : Oper} {a : Act} {Q : Exit → Act → World → Prop} {t : TypeId} {z : Value} {bytes : Nat} (ht : P.underlying t = some (.slice e))
    (hi : (P.info? e).map (fun i => (i.zero, i.size, i.bytes)) = some (some z, E.k, bytes)) (hz : z.cells.size = E.k) (hby : bytes ≤ 1000) (hgd : o.guard = none) (s x : Operand)
    (ho : o.op = .call { callee := .builtin .append, args := #[s, x], argTypes := #[t, t] })
    (B : Nat) (v u : Value) (l m : List α) (g : Nat) (hs : a.eval s = v) (hown : OwnR E w B e v l) (hx : a.eval x = u) (hm : SlR E w u g m) (hl : l.length + m.length < 1000000) (hB : B ≤ w.heap.size)
    (h : ∀ v' w', OwnR E w' B e v' (l ++ m) → w.grownBy w' v.ownBlock → Below B w w' → wpList P ops Q rest (a.put o.dst v') w') : wpList P ops Q (o :: rest) a w := by
  obtain ⟨i0, hi, hz0, hz1, hz2⟩ := info_parts hi
  rcases hm with ⟨rfl, A, c, rfl⟩ | ⟨oo, c, rfl, h1, h2, h3⟩
  · refine wpList_plain hgd fun _ hK => ?_
    have hr := run_append_empty (P := P) B t o.type i0 E.k ht hi v l.length _ hown A c
    unfold Oper.wp execOp
    simp only [ho, resolve, invoke, builtin, Sem.run_bind, Sem.run_pure, Result.andThen_ok, List.map_toArray, List.map_cons, List.map_nil, hs, hx, hr]
    refine hK _ _ (h v w (by rw [List.append_nil]; exact hown) ⟨rfl, rfl, rfl, Nat.le_refl _, fun _ _ _ => rfl⟩ (Below.refl _ _))
  · refine wpList_append_own _ hgd s x t ho B e i0 z E.k bytes ht hi hz0 hz1 hz2 hz E.pos v l.length _ hs hown ⟨g, oo, none⟩ m.length c (E.cells m) hx (E.cells_len m) ?_ ?_ (by unfold maxLen; omega) ?_ hB ?_
    · intro j y hj
      have hjl : j < m.length * E.k := by
        rw [← E.cells_len m]
        exact (List.getElem?_eq_some_iff.1 hj).1
      have hk := E.pos
      have hdiv : j / E.k < m.length := Nat.div_lt_of_lt_mul (by rw [Nat.mul_comm]; exact hjl)
      have hmod := Nat.mod_lt j hk
      have hdm : j / E.k * E.k + j % E.k = j := by rw [Nat.mul_comm]; exact Nat.div_add_mod j E.k
      have hc := h3 (j / E.k) hdiv (j % E.k) hmod
      rw [← E.cells_get m (j / E.k) (j % E.k) hdiv hmod, hdm, hj] at hc
      rw [← hc]
      have hadd : (⟨g, oo, none⟩ : Addr).add j = ⟨g, oo + j, none⟩ := by unfold Addr.add; split <;> simp_all
      rw [hadd, Nat.add_assoc, hdm]
    · intro y hy
      obtain ⟨x, hx, hy⟩ := List.mem_flatMap.1 hy
      exact E.one x y hy
    · have := Nat.mul_le_mul (show l.length + m.length ≤ 1000000 by omega) hby
      omega
    · intro v' w' h1 h2 _
      refine h v' w' ?_ h2 ⟨h2.os, h2.tape, h2.output, h2.size, fun k hk => h2.block k (by omega) (fun e => by have := hown.ge k e.symm; omega)⟩
      unfold OwnR
      rw [E.cells_append, List.length_append]
      exact h1
end
end Go.Proofs.YtokbhiokcoldbaaDoor
