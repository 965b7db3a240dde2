/- The contracts of package lfs's functions: live. -/
import Derived.Test.YtbedfffmicbgmaaDoorLfWalk
import Derived.Deep.AppendLies
namespace Go.Proofs.YtbedfffmicbgmaaDoor
open Go.RowKit

theorem Own2.drewN {w : World} {B e : Nat} {v : Value} {l : List (Int × Int)} (h : Own2 w B e v l) (n : Nat) : Own2 (w.drewN n) B e v l := h
theorem Own2.ge {w : World} {B e : Nat} {v : Value} {l : List (Int × Int)} (h : Own2 w B e v l) : ∀ g, v.ownBlock = some g → B ≤ g ∧ g < w.heap.size := World.ownsRow.lt h
/-- 'out = append(out, x)': one block more. -/
theorem wpList_push_blk {P : Program} {ops : Array Oper} {rest : List Oper} {o : Oper} {a : Act} {Q : Exit → Act → World → Prop} {wr : World} {y : Int × Int} {t e : TypeId} (ht : P.underlying t = some (.slice e))
    (hi : (P.info? e).map (fun i => (i.zero, i.size, i.bytes)) = some (some (.agg #[.int .i64 0, .int .i64 0]), 2, 16)) (hgd : o.guard = none) (s x : Operand)
    (ho : o.op = .call { callee := .builtin .append, args := #[s, x], argTypes := #[t, t] })
    (B : Nat) (v : Value) (l : List (Int × Int)) (hs : a.eval s = v) (hown : Own2 wr B e v l) (hx : a.eval x = .slice (some ⟨wr.heap.size, 0, none⟩) 1 1) (hl : l.length < 1000000) (hB : B ≤ wr.heap.size)
    (h : ∀ v' w', Own2 w' B e v' (l ++ [y]) → wr.grownBy w' v.ownBlock → Below B wr w' → wpList P ops Q rest (a.put o.dst v') w') : wpList P ops Q (o :: rest) a (wr.alloc (.cells #[.int .i64 y.1, .int .i64 y.2] e)) := by
  obtain ⟨i0, hi, hz0, hz1, hz2⟩ := info_parts hi
  refine wpList_append_own _ hgd s x t ho B e i0 (.agg #[.int .i64 0, .int .i64 0]) 2 16 ht hi hz0 hz1 hz2 rfl (by decide) v l.length _ hs (World.ownsRow.alloc hown _) ⟨wr.heap.size, 0, none⟩ 1 1 [.int .i64 y.1, .int .i64 y.2] hx rfl ?_ (by simp [Value.oneCell']) (by unfold maxLen; omega) (by omega) (by simp; omega) ?_
  · exact World.news_of_block (cs := #[.int .i64 y.1, .int .i64 y.2]) (t := e) (fr := (0, 0)) (heap_alloc_new wr _)
  · intro v' w' h1 h2 _
    have hg : wr.grownBy w' v.ownBlock := ⟨h2.os, h2.tape, h2.output, Nat.le_trans (by simp) h2.size, fun k hk hn => (h2.block k (by simp; omega) hn).trans (Below.heap_alloc wr _ k hk)⟩
    refine h v' w' (by unfold Own2; rw [prs_append]; simpa [prs] using h1) hg ?_
    exact ⟨hg.os, hg.tape, hg.output, hg.size, fun k hk => hg.block k (by omega) (fun e => by have := hown.ge k e.symm; omega)⟩
theorem Tryd.info_lfblk : (Tryd.prog.info? 72).map (fun i => (i.zero, i.size, i.bytes)) = some (some (.agg #[.int .i64 0, .int .i64 0]), 2, 16) := by kernel_rfl

theorem liveFrom_at (d : Lf.D) (s : Nat) (l : List Lf.Blk) (k : Nat) (hk : k < l.length) : Lf.liveFrom d s (l.drop k) k = if Lf.isLive d s k (l.getD k (0, 0)) then l.getD k (0, 0) :: Lf.liveFrom d s (l.drop (k + 1)) (k + 1) else Lf.liveFrom d s (l.drop (k + 1)) (k + 1) := by
  rw [List.drop_eq_getElem_cons hk]
  simp [Lf.liveFrom, List.getD, hk]

set_option maxRecDepth 100000 in
theorem lf_live (w : World) (B b : Nat) (d : Lf.D) (i : Nat) (hD : LfD B w b d) (hO : Lf.OK d) (hi : i < 6) :
    Calls Tryd.prog 28 #[.pointer (some ⟨b, 0, none⟩), .int .i64 i] w fun e w' => ∃ v, e = .returned v ∧ Own2 w' w.heap.size 72 v (Lf.live d i) ∧ Fr [] w w' := by
  obtain ⟨A, g, c, hs, hA, hg⟩ := hD.segv hi
  have hh0 : (0 : Int) ≤ i := by omega
  have hh1 : (i : Int) < 6 := by omega
  have HG := Lib.hid (fun W (hW : Fr [] w W) k hk => And.intro (hW.cell (hg k hk).1 (by simp)) (hW.cell (hg k hk).2 (by simp)))
  have HP := Lib.hid (fun W (hW : Fr [] w W) p (hp : p < 8) => (hD.keep hW).page hO.shp hp)
  have HK : Hid (∀ k, k < (Lf.seg d i).length → 0 ≤ ((Lf.seg d i).getD k (0, 0)).1 ∧ ((Lf.seg d i).getD k (0, 0)).1 ≤ 7) := by
    intro k hk
    have e : (Lf.seg d i).getD k (0, 0) = (Lf.seg d i)[k] := by simp [List.getD, hk]
    rw [e]
    exact hO.blk i hi _ (List.getElem_mem _)
  have hsm := hO.small i hi
  have HL := Lib.hid (fun k hk => liveFrom_at d i (Lf.seg d i) k hk)
  have HA : Hid (0 < (Lf.seg d i).length → A = some ⟨g, 0, none⟩) := hA
  have HV : Hid (Lf.live d i = [] ++ Lf.liveFrom d i ((Lf.seg d i).drop 0) 0) := rfl
  have HZ : Hid (Lf.liveFrom d i ((Lf.seg d i).drop (Lf.seg d i).length) (Lf.seg d i).length = []) := by show Lf.liveFrom _ _ _ _ = []; rw [List.drop_length]; rfl
  clear hD hg hO hA
  generalize Lf.seg d i = l at *
  go_enter Tryd.func28, Tryd.ntmps28
  go_wp2
  go_loopw [4, 14] (fun v k wr => ∃ (n : Nat) (acc : List (Int × Int)), n ≤ l.length ∧ k = .int .i64 n ∧ Hid (Own2 wr w.heap.size 72 v acc) ∧ Hid (Fr [] w wr) ∧ Hid (Lf.live d i = acc ++ Lf.liveFrom d i (l.drop n) n) ∧ acc.length ≤ n) (fun _ k _ => l.length - (intOf k).toNat)
  case atStart => exact ⟨0, [], Nat.zero_le _, rfl, World.ownsRow_nil _ _ _ _, Fr.refl _ _, HV, Nat.le_refl _⟩
  case round =>
    obtain ⟨n, acc, hn, rfl, hown, hfr, hacc, hal⟩ := hrel
    by_cases hlt : n < l.length
    · have hg1 := (HG.out _ hfr.out n hlt).1
      have hg2 := (HG.out _ hfr.out n hlt).2
      obtain ⟨hb0, hb7⟩ := HK.out n hlt
      have e1 := HL.out n hlt
      have hA1 := HA.out (by omega)
      subst hA1
      generalize l.getD n (0, 0) = x at hg1 hg2 hb0 hb7 e1
      obtain ⟨p, v⟩ := x
      simp only at hg1 hg2 hb0 hb7
      obtain ⟨q, rfl⟩ : ∃ q : Nat, p = (q : Int) := ⟨p.toNat, by omega⟩
      have hq : q < 8 := by omega
      have hpc := HP.out _ hfr.out q hq
      have hsz : w.heap.size ≤ wr.heap.size := hfr.out.size
      have e1' : Hid (Lf.liveFrom d i (List.drop n l) n = if Lf.pg d q = ((i : Int), (n : Int), true) then (↑q, v) :: Lf.liveFrom d i (List.drop (n + 1) l) (n + 1) else Lf.liveFrom d i (List.drop (n + 1) l) (n + 1)) := by
        show _ = _
        rw [e1]
        simp [Lf.isLive]
      clear e1 hb0 hb7
      generalize Lf.pg d q = x at hpc e1'
      obtain ⟨x1, x2, x3⟩ := x
      go_wp2
      have hT0 := heap_alloc_new wr (.cells #[.int .i64 (q : Int), .int .i64 v] 72)
      have hF1 : Hid (Fr [] wr (wr.alloc (.cells #[.int .i64 (q : Int), .int .i64 v] 72))) := (Fr.refl _ _).alloc _
      have hsz1 : wr.heap.size < (wr.alloc (.cells #[.int .i64 (q : Int), .int .i64 v] 72)).heap.size := by simp
      have HT0 := Lib.hid hT0
      clear hT0
      revert hF1 hsz1 HT0
      generalize (wr.alloc (.cells #[.int .i64 (q : Int), .int .i64 v] 72)) = w1
      generalize htb : wr.heap.size = tb
      intro hF1 hsz1 HT0
      have hq0 : w1.cell? ⟨tb, 0, none⟩ = some (.int .i64 q) := by rw [cell_of_row w1 tb 0 _ _ _ HT0.out]; rfl
      have hq1 : w1.cell? ⟨tb, 1, none⟩ = some (.int .i64 v) := by rw [cell_of_row w1 tb 1 _ _ _ HT0.out]; rfl
      have hp1 := hF1.out.cell hpc.1 (by simp)
      have hp2 := hF1.out.cell hpc.2.1 (by simp)
      have hp3 := hF1.out.cell hpc.2.2 (by simp)
      have hown1 := Lib.hid (hown.out.kept hF1.out (by simp))
      have hfr1 := Lib.hid (hfr.out.trans hF1.out)
      clear hpc hg1 hg2 hown hfr
      have hq0' : (0 : Int) ≤ q := by omega
      have hq8 : (q : Int) < 8 := by omega
      by_cases h1 : x1 = (i : Int)
      · subst h1
        by_cases h2 : x2 = (n : Int)
        · subst h2
          cases x3
          · have HN : Hid (¬ ((i : Int), (n : Int), false) = ((i : Int), (n : Int), true)) := by intro h; simp at h
            go_quiet (fail)
            go_wp2
            go_roundw
            case rel => exact ⟨n + 1, acc, by omega, by go_num, hown1, hfr1.out.drewN nq, by show _ = _; rw [hacc.out, e1'.out, if_neg HN.out], by omega⟩
            case measure => simp [intOf]; omega
          · go_quiet (fail)
            have hq0 : (w1.drewN nq).cell? ⟨tb, 0, none⟩ = some (.int .i64 q) := hq0
            have hq1 : (w1.drewN nq).cell? ⟨tb, 1, none⟩ = some (.int .i64 v) := hq1
            have hown1 : Hid (Own2 (w1.drewN nq) w.heap.size 72 u4 acc) := hown1
            have hfr1 : Hid (Fr [] w (w1.drewN nq)) := hfr1.out.drewN nq
            have hsz2 : w.heap.size ≤ (w1.drewN nq).heap.size := hfr1.out.size
            generalize w1.drewN nq = w2 at *
            go_wp2_with (at_builtin; refine wpList_push_blk (y := ((q : Int), v)) Tryd.underlying61 Tryd.info_lfblk rfl _ _ rfl w.heap.size _ _ rfl hown1.out rfl (by omega) hsz2 ?_; intro v' w3 hown3 _ hbel)
            have H1 := Lib.hid hown3
            have H2 := Lib.hid (hfr1.out.below_step hbel (Nat.le_refl _))
            clear hown3 hbel
            go_wp2
            go_roundw
            case rel => exact ⟨n + 1, acc ++ [((q : Int), v)], by omega, by go_num, H1, H2, by rw [hacc.out, e1'.out, if_pos rfl, List.append_assoc]; rfl, by simp; omega⟩
            case measure => simp [intOf]; omega
        · have HN : Hid (¬ ((i : Int), x2, x3) = ((i : Int), (n : Int), true)) := by intro h; simp at h; exact h2 h.1
          have e2 : (x2 == (n : Int)) = false := by simpa using h2
          go_quiet (fail)
          go_wp2
          go_roundw
          case rel => exact ⟨n + 1, acc, by omega, by go_num, hown1, hfr1.out.drewN nq, by show _ = _; rw [hacc.out, e1'.out, if_neg HN.out], by omega⟩
          case measure => simp [intOf]; omega
      · have HN : Hid (¬ (x1, x2, x3) = ((i : Int), (n : Int), true)) := by intro h; simp at h; exact h1 h.1
        have e2 : (x1 == (i : Int)) = false := by simpa using h1
        go_quiet (fail)
        go_wp2
        go_roundw
        case rel => exact ⟨n + 1, acc, by omega, by go_num, hown1, hfr1.out.drewN nq, by show _ = _; rw [hacc.out, e1'.out, if_neg HN.out], by omega⟩
        case measure => simp [intOf]; omega
    · have hnl : n = l.length := by omega
      subst hnl
      go_wp2
      go_ret
      exact ⟨u4, rfl, by rw [hacc.out, HZ.out, List.append_nil]; exact hown.out, hfr.out⟩
end Go.Proofs.YtbedfffmicbgmaaDoor
