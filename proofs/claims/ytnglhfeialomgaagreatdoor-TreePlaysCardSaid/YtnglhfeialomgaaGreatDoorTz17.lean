/- 'out = append(out, xs...)' for a row of structs that the call owns. No program in sight. -/

import Derived.Test.YtnglhfeialomgaaGreatDoorTz05
import Derived.Test.YtnglhfeialomgaaGreatDoorTz06
import Derived.Test.YtnglhfeialomgaaGreatDoorTz16
namespace Go.Proofs.YtnglhfeialomgaaGreatDoor
open Go.RowKit
section
variable {α : Type} {E : Enc α} {P : Program} {w : World} {e : TypeId}
theorem run_append_empty (base : Nat) (t ty : TypeId) (i : TypeInfo) (size : Nat) (ht : P.underlying t = some (.slice e)) (hi : P.info? e = some i)
    (v : Value) (n : Nat) (xs : List Value) (hown : w.ownsRow base e size v n xs) (A : Option Addr) (c : Nat) :
    (Builtin.append_ #[t, t] ty #[v, .slice A 0 c]).run P w = .ok v w := by
  rcases hown.2 with ⟨rfl, rfl⟩ | ⟨g, cap, cur, rfl, _, _, hnc, _⟩
  · cases A <;> simp [Builtin.append_, run_underlying ht, sizeOf, typeInfo, hi, Builtin.lenOf, Builtin.firstCells, loadCells, loadCellsFrom]
  · cases A <;> simp [Builtin.append_, run_underlying ht, sizeOf, typeInfo, hi, Builtin.lenOf, Builtin.firstCells, hnc, storeCells, loadCells, loadCellsFrom]
theorem wpList_spread_enc {ops : Array Oper} {rest : List Oper} {o : Oper} {a : Act} {Q : Exit → Act → World → Prop} {t : TypeId} {z : Value} {bytes : Nat} (ht : P.underlying t = some (.slice e))
    (hi : (P.info? e).map (fun i => (i.zero, i.size, i.bytes)) = some (some z, E.k, bytes)) (hz : z.cells.size = E.k) (hby : bytes ≤ 1000) (hgd : o.guard = none) (s x : Operand)
    (ho : o.op = .call { callee := .builtin .append, args := #[s, x], argTypes := #[t, t] })
    (B : Nat) (v u : Value) (l m : List α) (g : Nat) (hs : a.eval s = v) (hown : OwnR E w B e v l) (hx : a.eval x = u) (hm : SlR E w u g m) (hl : l.length + m.length < 1000000) (hB : B ≤ w.heap.size)
    (h : ∀ v' w', OwnR E w' B e v' (l ++ m) → w.grownBy w' v.ownBlock → Below B w w' → wpList P ops Q rest (a.put o.dst v') w') : wpList P ops Q (o :: rest) a w := by
  obtain ⟨i0, hi, hz0, hz1, hz2⟩ := info_parts hi
  rcases hm with ⟨rfl, A, c, rfl⟩ | ⟨oo, c, rfl, h1, h2, h3⟩
  · refine wpList_plain hgd fun _ hK => ?_
    have hr := run_append_empty (P := P) B t o.type i0 E.k ht hi v l.length _ hown A c
    unfold Oper.wp execOp
    simp only [ho, resolve, invoke, builtin, Sem.run_bind, Sem.run_pure, Result.andThen_ok, List.map_toArray, List.map_cons, List.map_nil, hs, hx, hr]
    refine hK _ _ (h v w (by rw [List.append_nil]; exact hown) ⟨rfl, rfl, rfl, Nat.le_refl _, fun _ _ _ => rfl⟩ (Below.refl _ _))
  · refine wpList_append_own _ hgd s x t ho B e i0 z E.k bytes ht hi hz0 hz1 hz2 hz E.pos v l.length _ hs hown ⟨g, oo, none⟩ m.length c (E.cells m) hx (E.cells_len m) ?_ ?_ (by unfold maxLen; omega) ?_ hB ?_
    · intro j y hj
      have hjl : j < m.length * E.k := by
        rw [← E.cells_len m]
        exact (List.getElem?_eq_some_iff.1 hj).1
      have hk := E.pos
      have hdiv : j / E.k < m.length := Nat.div_lt_of_lt_mul (by rw [Nat.mul_comm]; exact hjl)
      have hmod := Nat.mod_lt j hk
      have hdm : j / E.k * E.k + j % E.k = j := by rw [Nat.mul_comm]; exact Nat.div_add_mod j E.k
      have hc := h3 (j / E.k) hdiv (j % E.k) hmod
      rw [← E.cells_get m (j / E.k) (j % E.k) hdiv hmod, hdm, hj] at hc
      rw [← hc]
      have hadd : (⟨g, oo, none⟩ : Addr).add j = ⟨g, oo + j, none⟩ := by unfold Addr.add; split <;> simp_all
      rw [hadd, Nat.add_assoc, hdm]
    · intro y hy
      obtain ⟨x, hx, hy⟩ := List.mem_flatMap.1 hy
      exact E.one x y hy
    · have := Nat.mul_le_mul (show l.length + m.length ≤ 1000000 by omega) hby
      omega
    · intro v' w' h1 h2 _
      refine h v' w' ?_ h2 ⟨h2.os, h2.tape, h2.output, h2.size, fun k hk => h2.block k (by omega) (fun e => by have := hown.ge k e.symm; omega)⟩
      unfold OwnR
      rw [E.cells_append, List.length_append]
      exact h1
end
end Go.Proofs.YtnglhfeialomgaaGreatDoor
/- platterholdref2.Parts. -/
namespace Go.Proofs.YtnglhfeialomgaaGreatDoor
open Go.RowKit

namespace Pa
theorem cut_at {r : List UInt8} {k : Nat} (h47 : 47 ∉ r.take k) (hk : k < r.length) (he : r[k]'hk = 47) : cut r = r.take k :: cut (r.drop (k + 1)) := by
  have e : r = r.take k ++ 47 :: r.drop (k + 1) := by
    rw [← he, ← List.drop_eq_getElem_cons hk, List.take_append_drop]
  conv => lhs; rw [e]
  exact cut_some _ _ h47
/-- What the rounds of the document's Parts know: i: the byte ahead; f: where the piece began. -/
structure RpI (L : List UInt8) (i f : Nat) (out : List (List UInt8)) : Prop where
  go : i ≤ L.length → run [] (cut L.tail) = run out (cut (L.drop f)) ∧ 47 ∉ (L.drop f).take (i - f)
  fin : i = L.length + 1 → run [] (cut L.tail) = some out
  f1 : 1 ≤ f
  fi : f ≤ i
  few : out.length ≤ f
theorem RpI.start {L : List UInt8} (h : 1 ≤ L.length) : RpI L 1 1 [] :=
  ⟨fun _ => ⟨by rw [List.drop_one], by simp⟩, fun h' => by omega, Nat.le_refl _, Nat.le_refl _, Nat.zero_le _⟩
theorem RpI.next {L : List UInt8} {i f : Nat} {out : List (List UInt8)} (h : RpI L i f out) (hi : i < L.length) (hne : L[i]'hi ≠ 47) : RpI L (i + 1) f out := by
  obtain ⟨h1, h2⟩ := h.go (by omega)
  refine ⟨fun _ => ⟨h1, ?_⟩, fun h' => by omega, h.f1, by have := h.fi; omega, h.few⟩
  have hfi := h.fi
  have hlt : i - f < (L.drop f).length := by rw [List.length_drop]; omega
  rw [show i + 1 - f = (i - f) + 1 by omega, List.take_succ_eq_append_getElem hlt, List.mem_append, List.mem_singleton]
  rintro (hm | hm)
  · exact h2 hm
  · rw [List.getElem_drop] at hm
    apply hne
    rw [hm]
    congr 1
    omega
theorem RpI.piece {L : List UInt8} {i f : Nat} {out : List (List UInt8)} (h : RpI L i f out) (hi : i ≤ L.length) (hb : ∀ (hl : i < L.length), L[i]'hl = 47) :
    ∃ rs, run [] (cut L.tail) = (step (some out) ((L.drop f).take (i - f))).elim none (fun m => run m rs) ∧ ∀ out', out'.length ≤ i + 1 → run [] (cut L.tail) = run out' rs → RpI L (i + 1) (i + 1) out' := by
  obtain ⟨h1, h2⟩ := h.go hi
  have hfi := h.fi
  rcases Nat.lt_or_ge i L.length with hl | hl
  · refine ⟨cut (L.drop (i + 1)), ?_, fun out' ho hr => ⟨fun _ => ⟨hr, by simp⟩, fun h' => by omega, by omega, Nat.le_refl _, ho⟩⟩
    have hk : i - f < (L.drop f).length := by rw [List.length_drop]; omega
    have he : (L.drop f)[i - f]'hk = 47 := by
      rw [List.getElem_drop]
      have := hb hl
      rw [← this]
      congr 1
      omega
    rw [h1, cut_at h2 hk he, run_cons, List.drop_drop, show f + (i - f + 1) = i + 1 by omega]
  · refine ⟨[], ?_, fun out' ho hr => ⟨fun h' => by omega, fun _ => by rw [hr]; rfl, by omega, Nat.le_refl _, ho⟩⟩
    have ht : (L.drop f).take (i - f) = L.drop f := List.take_of_length_le (by rw [List.length_drop]; omega)
    rw [ht] at h2 ⊢
    rw [h1, cut_none _ h2, run_cons]
end Pa
theorem bt_eq (s : ByteArray) (k : Nat) (h : k < s.data.toList.length) : s.data.toList[k]'h = 47 ↔ bt s k = 47 := by
  unfold bt
  rw [List.getD_eq_getElem?_getD, List.getElem?_eq_getElem h]
  simp only [Option.getD_some]
  constructor
  · intro e; rw [e]; rfl
  · intro e
    have : (s.data.toList[k]'h).toNat = (47 : UInt8).toNat := by show _ = 47; omega
    exact UInt8.toNat_inj.1 this
theorem mk_part (s : ByteArray) (f i : Nat) : s.extract f i = Pa.mk ((s.data.toList.drop f).take (i - f)) := Lib.extract_eq s f i
theorem not_nil_empty {p : List UInt8} (h : p ≠ []) : p.isEmpty = false := by
  cases p with
  | nil => exact absurd rfl h
  | cons _ _ => rfl
/-- The rounds' memory. -/
structure RpW (w wr : World) (s : ByteArray) (i f : Nat) (v : Value) (out : List (List UInt8)) : Prop where
  p : Pa.RpI s.data.toList i f out
  own : OwnR strE wr w.heap.size 9 v out
  fr : Fr [] w wr
/-- The answer of the document's Parts. -/
def RpA (s : List UInt8) (w : World) (e : Ending) (w' : World) : Prop := ∃ v g, e = .returned (.tuple #[v, .int .i64 (Pa.parts s).2]) ∧ SlR strE w' v g (Pa.parts s).1 ∧ Fr [] w w'
theorem RpA.err {s : List UInt8} {w w' : World} {c : Int} (h : Pa.parts s = ([], c)) (hf : Fr [] w w') : RpA s w (.returned (.tuple #[.slice none 0 0, .int .i64 c])) w' :=
  ⟨_, 0, by rw [h], by rw [h]; exact .inl ⟨rfl, _, _, rfl⟩, hf⟩
set_option maxRecDepth 100000 in
set_option maxHeartbeats 4000000 in
theorem m_Parts (s : ByteArray) (w : World) : Calls Tryz.prog 17 #[.string s] w (RpA s.data.toList w) := by
  have hsz := Lib.size_eq s
  by_cases h60 : 60 < s.size
  · have HP : Hid (Pa.parts s.data.toList = ([], 4)) := if_pos (by omega)
    have h60I : (60 : Int) < s.size := by omega
    clear hsz h60
    go_enter Tryz.func17, Tryz.ntmps17
    go_wp2
    go_ret2
    exact RpA.err HP.out (Fr.refl _ _)
  · have h60I : ¬ (60 : Int) < s.size := by omega
    by_cases h0 : s.size = 0
    · have e0 : ((s.size : Int) == 0) = true := by rw [h0]; rfl
      have HP : Hid (Pa.parts s.data.toList = ([], 2)) := by
        show _ = _
        have : s.data.toList = [] := List.eq_nil_of_length_eq_zero (by omega)
        rw [this]; rfl
      clear hsz h60 h0
      go_enter Tryz.func17, Tryz.ntmps17
      go_wp2
      go_ret2
      exact RpA.err HP.out (Fr.refl _ _)
    · have e0 : ((s.size : Int) == 0) = false := beq_eq_false_iff_ne.2 (by omega)
      have k00 : (0 : Int) < s.size := by omega
      have n00 : 0 < s.size := by omega
      have hb0 := bt_at s 0 n00
      have hh : s.data.toList.head? = some 47 ↔ bt s 0 = 47 := by
        rw [← bt_eq s 0 (by omega), List.head?_eq_getElem?, List.getElem?_eq_getElem (by omega)]
        exact ⟨fun h => Option.some.inj h, fun h => congrArg some h⟩
      by_cases h47 : bt s 0 = 47
      · have x0 : (bt s 0 != 47) = false := by rw [h47]; rfl
        have H47 := Lib.hid (hh.2 h47)
        have HS := Lib.hid hsz
        have H60 := Lib.hid h60
        have HI0 : Hid (RpW w w s 1 1 (.slice none 0 0) []) := ⟨Pa.RpI.start (by omega), OwnR.nil, Fr.refl _ _⟩
        rw [h47] at hb0 x0
        have s60 : s.size ≤ 60 := by omega
        clear hsz h60 h0 hh h47
        go_enter Tryz.func17, Tryz.ntmps17
        go_wp2_with fail
        go_loopw [4, 5, 6] (fun v f i wr => ∃ (ik fk : Nat) (out : List (List UInt8)), ik ≤ s.size + 1 ∧ i = .int .i64 ik ∧ f = .int .i64 fk ∧ (∃ A c, v = .slice A out.length c) ∧ Hid (RpW w wr s ik fk v out)) (fun _ _ i _ => s.size + 1 - (intOf i).toNat)
        case atStart => exact ⟨1, 1, [], by omega, rfl, rfl, ⟨none, 0, rfl⟩, HI0⟩
        case round =>
          clear HI0 hb0 x0
          obtain ⟨ik, fk, out, hik, rfl, rfl, ⟨A, c, rfl⟩, hW⟩ := hrel
          have i0 : (0 : Int) ≤ ik := by omega
          by_cases hle : ik ≤ s.size
          · have i1 : (ik : Int) ≤ s.size := by omega
            by_cases hA : ik < s.size ∧ bt s ik ≠ 47
            · obtain ⟨hlt, hne⟩ := hA
              have i2 : (ik : Int) < s.size := by omega
              have hbt := bt_at s ik hlt
              have HN : Hid (RpW w wr s (ik + 1) fk (.slice A out.length c) out) := ⟨hW.out.p.next (by rw [← HS.out]; exact hlt) (fun e => hne ((bt_eq s ik _).1 e)), hW.out.own, hW.out.fr⟩
              have x1 : (bt s ik != 47) = true := by simpa using hne
              generalize bt s ik = x at *
              clear hne
              go_wp2
              go_roundw
              case rel => exact ⟨ik + 1, fk, out, by omega, by go_num, rfl, ⟨A, c, rfl⟩, HN⟩
              case measure => (simp [intOf]; try omega)
            · have hb : ∀ hl : ik < s.data.toList.length, s.data.toList[ik]'hl = 47 := fun hl => by
                rw [← HS.out] at hl
                exact (bt_eq s ik _).2 (Classical.byContradiction fun h => hA ⟨hl, h⟩)
              obtain ⟨rs, hrun, hnext⟩ := hW.out.p.piece (by rw [← HS.out]; exact hle) hb
              have hfk := hW.out.p.fi
              have hf1 := hW.out.p.f1
              have hfew := hW.out.p.few
              have hplen : ((s.data.toList.drop fk).take (ik - fk)).length ≤ 60 := by
                rw [List.length_take, List.length_drop, ← HS.out]
                omega
              have hpart := mk_part s fk ik
              generalize (s.data.toList.drop fk).take (ik - fk) = p at hrun hpart hplen
              have f0 : (0 : Int) ≤ fk := by omega
              have f2 : (fk : Int) ≤ ik := by omega
              have hq := mk_toList p
              have HRUN := Lib.hid hrun
              have HNEXT := Lib.hid hnext
              have HM := Lib.hid (fun W => m_Name (Pa.mk p) W (by rw [Pa.mk_size]; omega))
              rw [Pa.mk_list] at HM
              have HFK := Lib.hid (And.intro hfk (And.intro hf1 hfew))
              have hout : out.length ≤ ik + 1 := by omega
              have hlo : out.length < 1000000 := by omega
              have htest : (¬ (ik : Int) < s.size ∧ True) ∨ ((ik : Int) < s.size ∧ ∃ hl : ik < s.size, (s[ik]'hl).toNat = 47) := by
                by_cases hlt : ik < s.size
                · refine .inr ⟨by omega, hlt, ?_⟩
                  have h1 := bt_at s ik hlt
                  have h2 : bt s ik = 47 := (bt_eq s ik (by rw [← HS.out]; exact hlt)).1 (hb (by rw [← HS.out]; exact hlt))
                  omega
                · exact .inl ⟨by omega, trivial⟩
              clear hA hb hrun hnext hplen hfk hf1 hfew
              have hcs : (p = [] ∨ p = [46]) ∨ (¬ (p = [] ∨ p = [46]) ∧ (p = [46, 46] ∨ (p ≠ [46, 46] ∧ (Pa.IsName p ∨ ¬ Pa.IsName p)))) := by
                by_cases h1 : p = [] ∨ p = [46]
                · exact .inl h1
                · by_cases h2 : p = [46, 46]
                  · exact .inr ⟨h1, .inl h2⟩
                  · exact .inr ⟨h1, .inr ⟨h2, Classical.em _⟩⟩
              rcases htest with ⟨i2, hz⟩ | ⟨i2, hz, hz2⟩
              all_goals
                rcases hcs with hx1 | ⟨hx1, hx2 | ⟨hx2, hx3 | hx3⟩⟩
                · have HN : Hid (RpW w wr s (ik + 1) (ik + 1) (.slice A out.length c) out) := ⟨HNEXT.out out hout (HRUN.out.trans (by rw [Pa.step_skip hx1]; rfl)), hW.out.own, hW.out.fr⟩
                  rcases hx1 with hx1 | hx1
                  · have q0 : (Pa.mk p).toList.isEmpty = true := by rw [hq, hx1]; rfl
                    clear hx1 hq
                    generalize Pa.mk p = m at *
                    go_wp2
                    go_roundw
                    case rel => exact ⟨ik + 1, ik + 1, out, by omega, by go_num, by go_num, ⟨A, c, rfl⟩, HN⟩
                    case measure => (simp [intOf]; try omega)
                  · have q0 : (Pa.mk p).toList.isEmpty = false := by rw [hq, hx1]; rfl
                    have q1 : ((Pa.mk p).toList == [46]) = true := by rw [hq]; exact beq_iff_eq.2 hx1
                    clear hx1 hq
                    generalize Pa.mk p = m at *
                    go_wp2
                    go_roundw
                    case rel => exact ⟨ik + 1, ik + 1, out, by omega, by go_num, by go_num, ⟨A, c, rfl⟩, HN⟩
                    case measure => (simp [intOf]; try omega)
                · have q0 : (Pa.mk p).toList.isEmpty = false := by rw [hq, hx2]; rfl
                  have q1 : ((Pa.mk p).toList == [46]) = false := by rw [hq]; exact beq_eq_false_iff_ne.2 (fun e => hx1 (.inr e))
                  have q2 : ((Pa.mk p).toList == [46, 46]) = true := by rw [hq]; exact beq_iff_eq.2 hx2
                  have hst : Pa.step (some out) p = some out.dropLast := by rw [hx2]; exact Pa.step_up out
                  have hri : Pa.RpI s.data.toList (ik + 1) (ik + 1) out.dropLast := HNEXT.out _ (by rw [List.length_dropLast]; omega) (HRUN.out.trans (by rw [hst]; rfl))
                  have HRI := Lib.hid hri
                  clear hx1 hx2 hq hst hri
                  generalize Pa.mk p = m at *
                  rcases Nat.eq_zero_or_pos out.length with hz0 | hz0
                  · have l0 : ¬ (0 : Int) < out.length := by omega
                    have HN : Hid (RpW w wr s (ik + 1) (ik + 1) (.slice A out.length c) out) := ⟨by have := HRI.out; rwa [List.eq_nil_of_length_eq_zero hz0] at this ⊢, hW.out.own, hW.out.fr⟩
                    clear hz0
                    go_wp2
                    go_roundw
                    case rel => exact ⟨ik + 1, ik + 1, out, by omega, by go_num, by go_num, ⟨A, c, rfl⟩, HN⟩
                    case measure => (simp [intOf]; try omega)
                  · obtain ⟨k, hk⟩ : ∃ k : Nat, out.length = k + 1 := ⟨out.length - 1, by omega⟩
                    have kc : (k : Int) ≤ c := by have := hW.out.own.capLe; omega
                    have k0 : (0 : Int) ≤ k := by omega
                    have ew : IntKind.i64.wrap (k : Int) = k := IntWalk.i64_in _ (by omega)
                    have e1 : ((k + 1 : Nat) : Int) - 1 = k := by omega
                    have l0 : (0 : Int) < ((k + 1 : Nat) : Int) := by omega
                    have hcut := hW.out.own.cut (n := k) (by omega)
                    have hdl : out.take k = out.dropLast := by rw [List.dropLast_eq_take, hk]; rfl
                    rw [hdl] at hcut
                    have hdk : out.dropLast.length = k := by rw [List.length_dropLast, hk]; rfl
                    have HN : Hid (RpW w wr s (ik + 1) (ik + 1) (.slice A k c) out.dropLast) := ⟨HRI.out, hcut, hW.out.fr⟩
                    have HDK := Lib.hid hdk
                    rw [hk]
                    clear hz0 hk hcut hdl hdk hout hlo
                    go_wp2
                    go_roundw
                    case rel => exact ⟨ik + 1, ik + 1, out.dropLast, by omega, by go_num, by go_num, ⟨A, c, by rw [HDK.out]⟩, HN⟩
                    case measure => (simp [intOf]; try omega)
                · have q0 : (Pa.mk p).toList.isEmpty = false := by rw [hq]; exact not_nil_empty (fun e => hx1 (.inl e))
                  have q1 : ((Pa.mk p).toList == [46]) = false := by rw [hq]; exact beq_eq_false_iff_ne.2 (fun e => hx1 (.inr e))
                  have q2 : ((Pa.mk p).toList == [46, 46]) = false := by rw [hq]; exact beq_eq_false_iff_ne.2 hx2
                  have hri : Pa.RpI s.data.toList (ik + 1) (ik + 1) (out ++ [p]) := HNEXT.out _ (by have := HFK.out; simp; omega) (HRUN.out.trans (by rw [Pa.step_name hx3]; rfl))
                  have HRI := Lib.hid hri
                  rw [decide_eq_true hx3] at HM
                  obtain ⟨g, -, hsl⟩ := hW.out.own.sl
                  have HSL := Lib.hid hsl
                  have hws := hW.out.fr.size
                  clear hx1 hx2 hx3 hq hri hsl
                  go_wp2_with (first
                    | (go_at_call 37; (with_reducible refine useC (HM.out _) ?_); rintro e w2 ⟨rfl, rfl⟩; clear HM)
                    | (at_builtin; refine wpList_spread_enc (E := strE) Tryz.underlying30 info_str rfl (by decide) rfl _ _ rfl w.heap.size (.slice none 0 0) (.slice A out.length c) [] out g rfl OwnR.nil rfl HSL.out (by simp; omega) hws ?_; intro v5 w5 h1 h2 h3; rw [List.nil_append] at h1; obtain ⟨A5, c5, hv5⟩ := h1.form0; subst hv5; have HO5 := Lib.hid h1; have HF5 := Lib.hid (hW.out.fr.below_step h3 (Nat.le_refl _)); have hws5 := HF5.out.size; clear h1 h2 h3 HSL hws)
                    | (at_builtin; have HO := HO5.out; refine wpList_push_enc (E := strE) (wr := w5) (y := p) Tryz.underlying30 info_str rfl (by decide) rfl _ _ rfl w.heap.size (.slice A5 out.length c5) out rfl rfl HO rfl hlo hws5 ?_; intro v6 w6 h1 h2 h3; obtain ⟨A6, c6, hv6⟩ := h1.form0; subst hv6; have HN : Hid (RpW w w6 s (ik + 1) (ik + 1) (.slice A6 (out ++ [p]).length c6) (out ++ [p])) := ⟨HRI.out, h1, HF5.out.below_step h3 (Nat.le_refl _)⟩; clear h1 h2 h3 HO))
                  go_roundw
                  case rel => exact ⟨ik + 1, ik + 1, out ++ [p], by omega, by go_num, by go_num, ⟨A6, c6, by simp⟩, by simpa using HN⟩
                  case measure => (simp [intOf]; try omega)
                · have q0 : (Pa.mk p).toList.isEmpty = false := by rw [hq]; exact not_nil_empty (fun e => hx1 (.inl e))
                  have q1 : ((Pa.mk p).toList == [46]) = false := by rw [hq]; exact beq_eq_false_iff_ne.2 (fun e => hx1 (.inr e))
                  have q2 : ((Pa.mk p).toList == [46, 46]) = false := by rw [hq]; exact beq_eq_false_iff_ne.2 hx2
                  have HP : Hid (Pa.parts s.data.toList = ([], 2)) := by
                    show _ = _
                    unfold Pa.parts
                    rw [if_neg (by rw [← HS.out]; exact H60.out), if_pos H47.out, HRUN.out, Pa.step_bad hx1 hx2 hx3]
                    rfl
                  rw [decide_eq_false hx3] at HM
                  clear hx1 hx2 hx3 hq
                  generalize Pa.mk p = m at *
                  go_wp2_with (go_at_call 37; (with_reducible refine useC (HM.out _) ?_); rintro e w2 ⟨rfl, rfl⟩)
                  go_ret2
                  exact RpA.err HP.out hW.out.fr
          · have i1 : ¬ (ik : Int) ≤ s.size := by omega
            have hfin := hW.out.p.fin (by rw [← HS.out]; omega)
            have HPARTS : Hid ((out.length ≤ 8 → Pa.parts s.data.toList = (out, 0)) ∧ (8 < out.length → Pa.parts s.data.toList = ([], 4))) := by
              show _ ∧ _
              unfold Pa.parts
              rw [if_neg (by rw [← HS.out]; exact H60.out), if_pos H47.out, hfin]
              exact ⟨fun h => if_neg (by omega), fun h => if_pos h⟩
            clear hfin
            by_cases h8 : 8 < out.length
            · have h8I : (8 : Int) < out.length := by omega
              have HP := Lib.hid (HPARTS.out.2 h8)
              clear h8 HPARTS
              go_wp2
              go_ret2
              exact RpA.err HP.out hW.out.fr
            · have h8I : ¬ (8 : Int) < out.length := by omega
              have HP := Lib.hid (HPARTS.out.1 (by omega))
              clear h8 HPARTS
              go_wp2
              go_ret2
              obtain ⟨g, -, hs⟩ := hW.out.own.sl
              exact ⟨_, g, by rw [HP.out]; rfl, by rw [HP.out]; exact hs, hW.out.fr⟩
      · have x0 : (bt s 0 != 47) = true := by simpa using h47
        have HP : Hid (Pa.parts s.data.toList = ([], 2)) := by
          show _ = _
          unfold Pa.parts
          rw [if_neg (by omega), if_neg (fun h => h47 (hh.1 h))]
        generalize bt s 0 = x at *
        clear hsz h60 h0 hh h47
        go_enter Tryz.func17, Tryz.ntmps17
        go_wp2
        go_ret2
        exact RpA.err HP.out (Fr.refl _ _)
end Go.Proofs.YtnglhfeialomgaaGreatDoor

/- The document's tree in memory: rows of names, of Booleans; a struct of both. -/
namespace Go.Proofs.YtnglhfeialomgaaGreatDoor
open Go.RowKit

/-- A name: its path, the number of its thing. -/
def nmE : Enc (List UInt8 × Nat) where
  k := 2
  enc := fun e => [.string (Pa.mk e.1), .int .i64 (e.2 : Int)]
  len := fun _ => rfl
  one := fun a v hv => by
    rcases List.mem_cons.1 hv with rfl | hv
    · rfl
    · simp only [List.mem_cons, List.not_mem_nil, or_false] at hv
      subst hv; rfl
  pos := by decide
def boE : Enc Bool where
  k := 1
  enc := fun b => [.bool b]
  len := fun _ => rfl
  one := fun a v hv => by
    simp only [List.mem_cons, List.not_mem_nil, or_false] at hv
    subst hv; rfl
  pos := by decide
theorem u_nm : Tryz.prog.underlying 25 = some (.slice 63) := by kernel_rfl
theorem u_bo : Tryz.prog.underlying 26 = some (.slice 4) := by kernel_rfl
theorem info_nm : (Tryz.prog.info? 63).map (fun i => (i.zero, i.size, i.bytes)) = some (some (.agg #[.string ⟨#[]⟩, .int .i64 0]), nmE.k, 24) := by kernel_rfl
theorem info_bo : (Tryz.prog.info? 4).map (fun i => (i.zero, i.size, i.bytes)) = some (some (.bool false), boE.k, 1) := by kernel_rfl
/-- A value of the document's type, and what it says; its rows lie in blocks g0, g1. -/
structure TpV (w : World) (v0 v1 : Value) (g0 g1 : Nat) (T : Tr.RT) : Prop where
  nm : SlR nmE w v0 g0 T.nm
  dirs : SlR boE w v1 g1 T.dirs
theorem slE_fr {α : Type} {E : Enc α} {w w' : World} {v : Value} {g : Nat} {l : List α} (h : SlR E w v g l) (hf : Fr [] w w') : SlR E w' v g l := h.fr hf (by simp)
theorem TpV.step {w w' : World} {v0 v1 : Value} {g0 g1 : Nat} {T : Tr.RT} (h : TpV w v0 v1 g0 g1 T) (hf : Fr [] w w') : TpV w' v0 v1 g0 g1 T := ⟨slE_fr h.nm hf, slE_fr h.dirs hf⟩
/-- The cells of a row of names. -/
theorem nm_cells {w : World} {v : Value} {g : Nat} {l : Tr.Nr} (h : SlR nmE w v g l) : ∃ (A : Option Addr) (o c : Nat), v = .slice A l.length c ∧ l.length ≤ 9223372036854775807 ∧ (0 < l.length → A = some ⟨g, o, none⟩) ∧ ∀ i (hi : i < l.length), w.cell? ⟨g, o + i * 2, none⟩ = some (.string (Pa.mk l[i].1)) ∧ w.cell? ⟨g, o + i * 2 + 1, none⟩ = some (.int .i64 (l[i].2 : Int)) := by
  obtain ⟨A, o, c, h1, h2, h3, h4⟩ := h.form
  exact ⟨A, o, c, h1, h2, h3, fun i hi => ⟨h4 i hi 0 (by decide), h4 i hi 1 (by decide)⟩⟩
theorem bo_cells {w : World} {v : Value} {g : Nat} {l : List Bool} (h : SlR boE w v g l) : ∃ (A : Option Addr) (o c : Nat), v = .slice A l.length c ∧ l.length ≤ 9223372036854775807 ∧ (0 < l.length → A = some ⟨g, o, none⟩) ∧ ∀ i (hi : i < l.length), w.cell? ⟨g, o + i, none⟩ = some (.bool l[i]) := by
  obtain ⟨A, o, c, h1, h2, h3, h4⟩ := h.form
  refine ⟨A, o, c, h1, h2, h3, fun i hi => ?_⟩
  have := h4 i hi 0 (by decide)
  rw [show o + i * boE.k + 0 = o + i from by show o + i * 1 + 0 = o + i; omega] at this
  exact this
/-- A variable of the document's type. -/
def TpX (w : World) (B : Nat) (v0 v1 : Value) : Prop := w.heap[B]? = some (.cells #[v0, v1] 28 (0, 0))
theorem TpX.cells {w : World} {B : Nat} {v0 v1 : Value} (x : TpX w B v0 v1) : w.cell? ⟨B, 0, none⟩ = some v0 ∧ w.cell? ⟨B, 1, none⟩ = some v1 := by
  refine ⟨?_, ?_⟩ <;> rw [cell_of_row w B _ _ _ _ x] <;> rfl
theorem TpX.load {w : World} {B : Nat} {v0 v1 : Value} (x : TpX w B v0 v1) : (loadVar 28 ⟨B, 0, none⟩).run Tryz.prog w = .ok (.agg #[v0, v1]) w := by
  have := run_load_part (P := Tryz.prog) w B 0 2 _ 28 _ _ _ x Tryz.underlying28 rfl (by kernel_rfl) (by simp)
  simpa using this
theorem TpX.step {w w' : World} {B : Nat} {v0 v1 : Value} (h : TpX w B v0 v1) (hf : Fr [] w w') : TpX w' B v0 v1 := hf.get h (by simp)
end Go.Proofs.YtnglhfeialomgaaGreatDoor

/- The document's find, Many. -/
namespace Go.Proofs.YtnglhfeialomgaaGreatDoor
open Go.RowKit

theorem fnT_none {nm : Tr.Nr} {s : List UInt8} (h : s ≠ [47]) (hn : ∀ i (hi : i < nm.length), nm[i].1 ≠ s) : Tr.fnT nm s = -1 := by
  unfold Tr.fnT
  rw [if_neg h]
  have : nm.find? (fun e => e.1 == s) = none := List.find?_eq_none.2 (fun e he hb => by
    obtain ⟨i, hi, rfl⟩ := List.getElem_of_mem he
    exact hn i hi (eq_of_beq hb))
  rw [this]
theorem fnT_some {nm : Tr.Nr} {s : List UInt8} {k : Nat} (h : s ≠ [47]) (hk : k < nm.length) (hs : nm[k].1 = s) (hn : ∀ i (hi : i < k), nm[i].1 ≠ s) : Tr.fnT nm s = (nm[k].2 : Int) := by
  unfold Tr.fnT
  rw [if_neg h]
  have : nm.find? (fun e => e.1 == s) = some nm[k] := by
    rw [List.find?_eq_some_iff_getElem]
    exact ⟨by simpa using hs, k, hk, rfl, fun j hj => by simpa using hn j hj⟩
  rw [this]
theorem box_fr (w : World) (v0 v1 : Value) : Fr [] w (w.alloc (.cells #[v0, v1] 28)) ∧ TpX (w.alloc (.cells #[v0, v1] 28)) w.heap.size v0 v1 := ⟨(Fr.refl [] w).alloc _, heap_alloc_new w _⟩
set_option maxRecDepth 100000 in
set_option maxHeartbeats 2000000 in
theorem m_find (w : World) (v0 v1 : Value) (g0 : Nat) (nm : Tr.Nr) (s : List UInt8) (h : SlR nmE w v0 g0 nm) :
    Calls Tryz.prog 22 #[.agg #[v0, v1], .string (Pa.mk s)] w fun e w' => e = .returned (.int .i64 (Tr.fnT nm s)) ∧ Fr [] w w' := by
  obtain ⟨A, o, c, rfl, hm, hA, hc⟩ := nm_cells h
  clear h
  obtain ⟨hf0, hx0⟩ := box_fr w (.slice A nm.length c) v1
  have HF0 := Lib.hid hf0
  have HX0 := Lib.hid hx0
  have HA := Lib.hid hA
  have HC := Lib.hid (fun i (hi : i < nm.length) => And.intro (hf0.cell (hc i hi).1 (by simp)) (hf0.cell (hc i hi).2 (by simp)))
  clear hA hc hf0 hx0
  by_cases h47 : s = [47]
  · have hq : ((Pa.mk s).toList == [47]) = true := by rw [mk_toList]; exact beq_iff_eq.2 h47
    have HV : Hid (Tr.fnT nm s = 0) := by show _ = _; unfold Tr.fnT; rw [if_pos h47]
    clear h47
    generalize Pa.mk s = ms at *
    go_enter Tryz.func22, Tryz.ntmps22
    go_wp2
    go_ret
    exact ⟨by rw [HV.out]; rfl, HF0.out⟩
  · have hq : ((Pa.mk s).toList == [47]) = false := by rw [mk_toList]; exact beq_eq_false_iff_ne.2 h47
    have H47 := Lib.hid h47
    clear h47
    go_enter Tryz.func22, Tryz.ntmps22
    go_wp2_with fail
    generalize w.alloc (.cells #[.slice A nm.length c, v1] 28) = w1 at *
    have x0 := HX0.out.cells.1
    go_loop [5] (fun i => ∃ k : Nat, k ≤ nm.length ∧ i = .int .i64 k ∧ Hid (∀ j (hj : j < nm.length), j < k → nm[j].1 ≠ s)) (fun i => nm.length - (intOf i).toNat)
    case atStart => exact ⟨0, Nat.zero_le _, rfl, fun j _ hj => absurd hj (by omega)⟩
    case round =>
      obtain ⟨k, hk, rfl, hN⟩ := hrel
      have k0 : (0 : Int) ≤ k := by omega
      by_cases hlt : k < nm.length
      · have i1 : (k : Int) < nm.length := by omega
        obtain rfl := HA.out (by omega)
        obtain ⟨c0, c1⟩ := HC.out k hlt
        by_cases he : nm[k].1 = s
        · have HV : Hid (Tr.fnT nm s = (nm[k].2 : Int)) := fnT_some H47.out hlt he (fun i hi => hN.out i (by omega) hi)
          have hq2 : ((Pa.mk nm[k].1).toList == (Pa.mk s).toList) = true := by rw [he]; simp
          generalize nm[k].2 = t at *
          generalize Pa.mk nm[k].1 = m1 at *
          generalize Pa.mk s = ms at *
          clear he
          go_wp2
          go_ret
          exact ⟨by rw [HV.out]; rfl, HF0.out⟩
        · have HN : Hid (∀ j (hj : j < nm.length), j < k + 1 → nm[j].1 ≠ s) := fun j hj hj2 => by
            rcases Nat.lt_or_ge j k with h | h
            · exact hN.out j hj h
            · obtain rfl : j = k := by omega
              exact he
          have hq2 : ((Pa.mk nm[k].1).toList == (Pa.mk s).toList) = false := by rw [mk_toList, mk_toList]; exact beq_eq_false_iff_ne.2 he
          generalize nm[k].2 = t at *
          generalize Pa.mk nm[k].1 = m1 at *
          generalize Pa.mk s = ms at *
          clear he
          go_wp2
          go_round
          case rel => exact ⟨k + 1, by omega, by go_num, HN⟩
          case measure => (simp [intOf]; try omega)
      · have i1 : ¬ (k : Int) < nm.length := by omega
        have HV : Hid (Tr.fnT nm s = -1) := fnT_none H47.out (fun i hi => hN.out i hi (by omega))
        generalize Pa.mk s = ms at *
        go_wp2
        go_ret
        exact ⟨by rw [HV.out]; rfl, HF0.out⟩
/-- How often a thing is named. -/
def manyT (nm : Tr.Nr) (n : Nat) : Nat := (nm.filter (fun e => e.2 == n)).length
theorem manyT_succ {nm : Tr.Nr} {k n : Nat} (h : k < nm.length) : manyT (nm.take (k + 1)) n = manyT (nm.take k) n + (if nm[k].2 = n then 1 else 0) := by
  unfold manyT
  rw [List.take_succ_eq_append_getElem h, List.filter_append, List.length_append]
  congr 1
  by_cases e : nm[k].2 = n
  · rw [if_pos e, List.filter_cons, if_pos (by simpa using e)]; rfl
  · rw [if_neg e, List.filter_cons, if_neg (by simpa using e)]; rfl
set_option maxRecDepth 100000 in
set_option maxHeartbeats 2000000 in
theorem m_Many (w : World) (v0 v1 : Value) (g0 : Nat) (nm : Tr.Nr) (n : Nat) (h : SlR nmE w v0 g0 nm) (hl : nm.length ≤ 1000) :
    Calls Tryz.prog 15 #[.agg #[v0, v1], .int .i64 (n : Int)] w fun e w' => e = .returned (.int .i64 (manyT nm n : Int)) ∧ Fr [] w w' := by
  obtain ⟨A, o, c, rfl, hm, hA, hc⟩ := nm_cells h
  clear h
  obtain ⟨hf0, hx0⟩ := box_fr w (.slice A nm.length c) v1
  have HF0 := Lib.hid hf0
  have HX0 := Lib.hid hx0
  have HA := Lib.hid hA
  have HC := Lib.hid (fun i (hi : i < nm.length) => And.intro (hf0.cell (hc i hi).1 (by simp)) (hf0.cell (hc i hi).2 (by simp)))
  clear hA hc hf0 hx0
  go_enter Tryz.func15, Tryz.ntmps15
  go_wp2_with fail
  generalize w.alloc (.cells #[.slice A nm.length c, v1] 28) = w1 at *
  have x0 := HX0.out.cells.1
  go_loop [5, 6] (fun nv i => ∃ k q : Nat, k ≤ nm.length ∧ i = .int .i64 k ∧ nv = .int .i64 q ∧ q ≤ k ∧ Hid (q = manyT (nm.take k) n)) (fun _ i => nm.length - (intOf i).toNat)
  case atStart => exact ⟨0, 0, Nat.zero_le _, rfl, rfl, Nat.le_refl _, rfl⟩
  case round =>
    obtain ⟨k, q, hk, rfl, rfl, hqk, hQ⟩ := hrel
    have k0 : (0 : Int) ≤ k := by omega
    have qw : IntKind.i64.wrap ((q : Int) + 1) = (q : Int) + 1 := by rw [IntKind.wrap_i64]; omega
    have kw : IntKind.i64.wrap ((k : Int) + 1) = (k : Int) + 1 := by rw [IntKind.wrap_i64]; omega
    by_cases hlt : k < nm.length
    · have i1 : (k : Int) < nm.length := by omega
      obtain rfl := HA.out (by omega)
      obtain ⟨c0, c1⟩ := HC.out k hlt
      have HS := Lib.hid (manyT_succ (n := n) hlt)
      by_cases he : nm[k].2 = n
      · have HN : Hid (q + 1 = manyT (nm.take (k + 1)) n) := by show _ = _; rw [HS.out, if_pos he, ← hQ.out]
        rw [he] at c1
        clear he
        go_wp2
        go_round
        case rel => exact ⟨k + 1, q + 1, by omega, by go_num, by go_num, by omega, HN⟩
        case measure => (simp [intOf]; try omega)
      · have HN : Hid (q = manyT (nm.take (k + 1)) n) := by show _ = _; rw [HS.out, if_neg he, ← hQ.out]; rfl
        have hq2 : ((nm[k].2 : Int) == n) = false := beq_eq_false_iff_ne.2 (by omega)
        have hq3 : (nm[k].2 == n) = false := beq_eq_false_iff_ne.2 he
        generalize nm[k].2 = t at *
        go_wp2
        go_round
        case rel => exact ⟨k + 1, q, by omega, by go_num, rfl, by omega, HN⟩
        case measure => (simp [intOf]; try omega)
    · have i1 : ¬ (k : Int) < nm.length := by omega
      obtain rfl : k = nm.length := by omega
      have hQ2 := hQ.out
      rw [List.take_length] at hQ2
      have HQ2 := Lib.hid hQ2
      clear hQ2
      go_wp2
      go_ret
      exact ⟨by rw [HQ2.out]; rfl, HF0.out⟩
end Go.Proofs.YtnglhfeialomgaaGreatDoor
