/- platterholdref2.Parts. -/
import Derived.Test.YtcghdnabajhipaaDoorPaRef
import Derived.Test.YtcghdnabajhipaaDoorSpread
namespace Go.Proofs.YtcghdnabajhipaaDoor
open Go.RowKit

namespace Pa
theorem cut_at {r : List UInt8} {k : Nat} (h47 : 47 ∉ r.take k) (hk : k < r.length) (he : r[k]'hk = 47) : cut r = r.take k :: cut (r.drop (k + 1)) := by
  have e : r = r.take k ++ 47 :: r.drop (k + 1) := by
    rw [← he, ← List.drop_eq_getElem_cons hk, List.take_append_drop]
  conv => lhs; rw [e]
  exact cut_some _ _ h47
/-- What the rounds of the document's Parts know: i: the byte ahead; f: where the piece began. -/
structure RpI (L : List UInt8) (i f : Nat) (out : List (List UInt8)) : Prop where
  go : i ≤ L.length → run [] (cut L.tail) = run out (cut (L.drop f)) ∧ 47 ∉ (L.drop f).take (i - f)
  fin : i = L.length + 1 → run [] (cut L.tail) = some out
  f1 : 1 ≤ f
  fi : f ≤ i
  few : out.length ≤ f
theorem RpI.start {L : List UInt8} (h : 1 ≤ L.length) : RpI L 1 1 [] :=
  ⟨fun _ => ⟨by rw [List.drop_one], by simp⟩, fun h' => by omega, Nat.le_refl _, Nat.le_refl _, Nat.zero_le _⟩
theorem RpI.next {L : List UInt8} {i f : Nat} {out : List (List UInt8)} (h : RpI L i f out) (hi : i < L.length) (hne : L[i]'hi ≠ 47) : RpI L (i + 1) f out := by
  obtain ⟨h1, h2⟩ := h.go (by omega)
  refine ⟨fun _ => ⟨h1, ?_⟩, fun h' => by omega, h.f1, by have := h.fi; omega, h.few⟩
  have hfi := h.fi
  have hlt : i - f < (L.drop f).length := by rw [List.length_drop]; omega
  rw [show i + 1 - f = (i - f) + 1 by omega, List.take_succ_eq_append_getElem hlt, List.mem_append, List.mem_singleton]
  rintro (hm | hm)
  · exact h2 hm
  · rw [List.getElem_drop] at hm
    apply hne
    rw [hm]
    congr 1
    omega
theorem RpI.piece {L : List UInt8} {i f : Nat} {out : List (List UInt8)} (h : RpI L i f out) (hi : i ≤ L.length) (hb : ∀ (hl : i < L.length), L[i]'hl = 47) :
    ∃ rs, run [] (cut L.tail) = (step (some out) ((L.drop f).take (i - f))).elim none (fun m => run m rs) ∧ ∀ out', out'.length ≤ i + 1 → run [] (cut L.tail) = run out' rs → RpI L (i + 1) (i + 1) out' := by
  obtain ⟨h1, h2⟩ := h.go hi
  have hfi := h.fi
  rcases Nat.lt_or_ge i L.length with hl | hl
  · refine ⟨cut (L.drop (i + 1)), ?_, fun out' ho hr => ⟨fun _ => ⟨hr, by simp⟩, fun h' => by omega, by omega, Nat.le_refl _, ho⟩⟩
    have hk : i - f < (L.drop f).length := by rw [List.length_drop]; omega
    have he : (L.drop f)[i - f]'hk = 47 := by
      rw [List.getElem_drop]
      have := hb hl
      rw [← this]
      congr 1
      omega
    rw [h1, cut_at h2 hk he, run_cons, List.drop_drop, show f + (i - f + 1) = i + 1 by omega]
  · refine ⟨[], ?_, fun out' ho hr => ⟨fun h' => by omega, fun _ => by rw [hr]; rfl, by omega, Nat.le_refl _, ho⟩⟩
    have ht : (L.drop f).take (i - f) = L.drop f := List.take_of_length_le (by rw [List.length_drop]; omega)
    rw [ht] at h2 ⊢
    rw [h1, cut_none _ h2, run_cons]
end Pa
theorem bt_eq (s : ByteArray) (k : Nat) (h : k < s.data.toList.length) : s.data.toList[k]'h = 47 ↔ bt s k = 47 := by
  unfold bt
  rw [List.getD_eq_getElem?_getD, List.getElem?_eq_getElem h]
  simp only [Option.getD_some]
  constructor
  · intro e; rw [e]; rfl
  · intro e
    have : (s.data.toList[k]'h).toNat = (47 : UInt8).toNat := by show _ = 47; omega
    exact UInt8.toNat_inj.1 this
theorem mk_part (s : ByteArray) (f i : Nat) : s.extract f i = Pa.mk ((s.data.toList.drop f).take (i - f)) := Lib.extract_eq s f i
theorem not_nil_empty {p : List UInt8} (h : p ≠ []) : p.isEmpty = false := by
  cases p with
  | nil => exact absurd rfl h
  | cons _ _ => rfl
/-- The rounds' memory. -/
structure RpW (w wr : World) (s : ByteArray) (i f : Nat) (v : Value) (out : List (List UInt8)) : Prop where
  p : Pa.RpI s.data.toList i f out
  own : OwnR strE wr w.heap.size 9 v out
  fr : Fr [] w wr
/-- The answer of the document's Parts. -/
def RpA (s : List UInt8) (w : World) (e : Ending) (w' : World) : Prop := ∃ v g, e = .returned (.tuple #[v, .int .i64 (Pa.parts s).2]) ∧ SlR strE w' v g (Pa.parts s).1 ∧ Fr [] w w'
theorem RpA.err {s : List UInt8} {w w' : World} {c : Int} (h : Pa.parts s = ([], c)) (hf : Fr [] w w') : RpA s w (.returned (.tuple #[.slice none 0 0, .int .i64 c])) w' :=
  ⟨_, 0, by rw [h], by rw [h]; exact .inl ⟨rfl, _, _, rfl⟩, hf⟩
set_option maxRecDepth 100000 in
set_option maxHeartbeats 4000000 in
theorem m_Parts (s : ByteArray) (w : World) : Calls Tryd.prog 19 #[.string s] w (RpA s.data.toList w) := by
  have hsz := Lib.size_eq s
  by_cases h60 : 60 < s.size
  · have HP : Hid (Pa.parts s.data.toList = ([], 4)) := if_pos (by omega)
    have h60I : (60 : Int) < s.size := by omega
    clear hsz h60
    go_enter Tryd.func19, Tryd.ntmps19
    go_wp2
    go_ret2
    exact RpA.err HP.out (Fr.refl _ _)
  · have h60I : ¬ (60 : Int) < s.size := by omega
    by_cases h0 : s.size = 0
    · have e0 : ((s.size : Int) == 0) = true := by rw [h0]; rfl
      have HP : Hid (Pa.parts s.data.toList = ([], 2)) := by
        show _ = _
        have : s.data.toList = [] := List.eq_nil_of_length_eq_zero (by omega)
        rw [this]; rfl
      clear hsz h60 h0
      go_enter Tryd.func19, Tryd.ntmps19
      go_wp2
      go_ret2
      exact RpA.err HP.out (Fr.refl _ _)
    · have e0 : ((s.size : Int) == 0) = false := beq_eq_false_iff_ne.2 (by omega)
      have k00 : (0 : Int) < s.size := by omega
      have n00 : 0 < s.size := by omega
      have hb0 := bt_at s 0 n00
      have hh : s.data.toList.head? = some 47 ↔ bt s 0 = 47 := by
        rw [← bt_eq s 0 (by omega), List.head?_eq_getElem?, List.getElem?_eq_getElem (by omega)]
        exact ⟨fun h => Option.some.inj h, fun h => congrArg some h⟩
      by_cases h47 : bt s 0 = 47
      · have x0 : (bt s 0 != 47) = false := by rw [h47]; rfl
        have H47 := Lib.hid (hh.2 h47)
        have HS := Lib.hid hsz
        have H60 := Lib.hid h60
        have HI0 : Hid (RpW w w s 1 1 (.slice none 0 0) []) := ⟨Pa.RpI.start (by omega), OwnR.nil, Fr.refl _ _⟩
        rw [h47] at hb0 x0
        have s60 : s.size ≤ 60 := by omega
        clear hsz h60 h0 hh h47
        go_enter Tryd.func19, Tryd.ntmps19
        go_wp2_with fail
        go_loopw [4, 5, 6] (fun v f i wr => ∃ (ik fk : Nat) (out : List (List UInt8)), ik ≤ s.size + 1 ∧ i = .int .i64 ik ∧ f = .int .i64 fk ∧ (∃ A c, v = .slice A out.length c) ∧ Hid (RpW w wr s ik fk v out)) (fun _ _ i _ => s.size + 1 - (intOf i).toNat)
        case atStart => exact ⟨1, 1, [], by omega, rfl, rfl, ⟨none, 0, rfl⟩, HI0⟩
        case round =>
          clear HI0 hb0 x0
          obtain ⟨ik, fk, out, hik, rfl, rfl, ⟨A, c, rfl⟩, hW⟩ := hrel
          have i0 : (0 : Int) ≤ ik := by omega
          by_cases hle : ik ≤ s.size
          · have i1 : (ik : Int) ≤ s.size := by omega
            by_cases hA : ik < s.size ∧ bt s ik ≠ 47
            · obtain ⟨hlt, hne⟩ := hA
              have i2 : (ik : Int) < s.size := by omega
              have hbt := bt_at s ik hlt
              have HN : Hid (RpW w wr s (ik + 1) fk (.slice A out.length c) out) := ⟨hW.out.p.next (by rw [← HS.out]; exact hlt) (fun e => hne ((bt_eq s ik _).1 e)), hW.out.own, hW.out.fr⟩
              have x1 : (bt s ik != 47) = true := by simpa using hne
              generalize bt s ik = x at *
              clear hne
              go_wp2
              go_roundw
              case rel => exact ⟨ik + 1, fk, out, by omega, by go_num, rfl, ⟨A, c, rfl⟩, HN⟩
              case measure => (simp [intOf]; try omega)
            · have hb : ∀ hl : ik < s.data.toList.length, s.data.toList[ik]'hl = 47 := fun hl => by
                rw [← HS.out] at hl
                exact (bt_eq s ik _).2 (Classical.byContradiction fun h => hA ⟨hl, h⟩)
              obtain ⟨rs, hrun, hnext⟩ := hW.out.p.piece (by rw [← HS.out]; exact hle) hb
              have hfk := hW.out.p.fi
              have hf1 := hW.out.p.f1
              have hfew := hW.out.p.few
              have hplen : ((s.data.toList.drop fk).take (ik - fk)).length ≤ 60 := by
                rw [List.length_take, List.length_drop, ← HS.out]
                omega
              have hpart := mk_part s fk ik
              generalize (s.data.toList.drop fk).take (ik - fk) = p at hrun hpart hplen
              have f0 : (0 : Int) ≤ fk := by omega
              have f2 : (fk : Int) ≤ ik := by omega
              have hq := mk_toList p
              have HRUN := Lib.hid hrun
              have HNEXT := Lib.hid hnext
              have HM := Lib.hid (fun W => m_Name (Pa.mk p) W (by rw [Pa.mk_size]; omega))
              rw [Pa.mk_list] at HM
              have HFK := Lib.hid (And.intro hfk (And.intro hf1 hfew))
              have hout : out.length ≤ ik + 1 := by omega
              have hlo : out.length < 1000000 := by omega
              have htest : (¬ (ik : Int) < s.size ∧ True) ∨ ((ik : Int) < s.size ∧ ∃ hl : ik < s.size, (s[ik]'hl).toNat = 47) := by
                by_cases hlt : ik < s.size
                · refine .inr ⟨by omega, hlt, ?_⟩
                  have h1 := bt_at s ik hlt
                  have h2 : bt s ik = 47 := (bt_eq s ik (by rw [← HS.out]; exact hlt)).1 (hb (by rw [← HS.out]; exact hlt))
                  omega
                · exact .inl ⟨by omega, trivial⟩
              clear hA hb hrun hnext hplen hfk hf1 hfew
              have hcs : (p = [] ∨ p = [46]) ∨ (¬ (p = [] ∨ p = [46]) ∧ (p = [46, 46] ∨ (p ≠ [46, 46] ∧ (Pa.IsName p ∨ ¬ Pa.IsName p)))) := by
                by_cases h1 : p = [] ∨ p = [46]
                · exact .inl h1
                · by_cases h2 : p = [46, 46]
                  · exact .inr ⟨h1, .inl h2⟩
                  · exact .inr ⟨h1, .inr ⟨h2, Classical.em _⟩⟩
              rcases htest with ⟨i2, hz⟩ | ⟨i2, hz, hz2⟩
              all_goals
                rcases hcs with hx1 | ⟨hx1, hx2 | ⟨hx2, hx3 | hx3⟩⟩
                · have HN : Hid (RpW w wr s (ik + 1) (ik + 1) (.slice A out.length c) out) := ⟨HNEXT.out out hout (HRUN.out.trans (by rw [Pa.step_skip hx1]; rfl)), hW.out.own, hW.out.fr⟩
                  rcases hx1 with hx1 | hx1
                  · have q0 : (Pa.mk p).toList.isEmpty = true := by rw [hq, hx1]; rfl
                    clear hx1 hq
                    generalize Pa.mk p = m at *
                    go_wp2
                    go_roundw
                    case rel => exact ⟨ik + 1, ik + 1, out, by omega, by go_num, by go_num, ⟨A, c, rfl⟩, HN⟩
                    case measure => (simp [intOf]; try omega)
                  · have q0 : (Pa.mk p).toList.isEmpty = false := by rw [hq, hx1]; rfl
                    have q1 : ((Pa.mk p).toList == [46]) = true := by rw [hq]; exact beq_iff_eq.2 hx1
                    clear hx1 hq
                    generalize Pa.mk p = m at *
                    go_wp2
                    go_roundw
                    case rel => exact ⟨ik + 1, ik + 1, out, by omega, by go_num, by go_num, ⟨A, c, rfl⟩, HN⟩
                    case measure => (simp [intOf]; try omega)
                · have q0 : (Pa.mk p).toList.isEmpty = false := by rw [hq, hx2]; rfl
                  have q1 : ((Pa.mk p).toList == [46]) = false := by rw [hq]; exact beq_eq_false_iff_ne.2 (fun e => hx1 (.inr e))
                  have q2 : ((Pa.mk p).toList == [46, 46]) = true := by rw [hq]; exact beq_iff_eq.2 hx2
                  have hst : Pa.step (some out) p = some out.dropLast := by rw [hx2]; exact Pa.step_up out
                  have hri : Pa.RpI s.data.toList (ik + 1) (ik + 1) out.dropLast := HNEXT.out _ (by rw [List.length_dropLast]; omega) (HRUN.out.trans (by rw [hst]; rfl))
                  have HRI := Lib.hid hri
                  clear hx1 hx2 hq hst hri
                  generalize Pa.mk p = m at *
                  rcases Nat.eq_zero_or_pos out.length with hz0 | hz0
                  · have l0 : ¬ (0 : Int) < out.length := by omega
                    have HN : Hid (RpW w wr s (ik + 1) (ik + 1) (.slice A out.length c) out) := ⟨by have := HRI.out; rwa [List.eq_nil_of_length_eq_zero hz0] at this ⊢, hW.out.own, hW.out.fr⟩
                    clear hz0
                    go_wp2
                    go_roundw
                    case rel => exact ⟨ik + 1, ik + 1, out, by omega, by go_num, by go_num, ⟨A, c, rfl⟩, HN⟩
                    case measure => (simp [intOf]; try omega)
                  · obtain ⟨k, hk⟩ : ∃ k : Nat, out.length = k + 1 := ⟨out.length - 1, by omega⟩
                    have kc : (k : Int) ≤ c := by have := hW.out.own.capLe; omega
                    have k0 : (0 : Int) ≤ k := by omega
                    have ew : IntKind.i64.wrap (k : Int) = k := IntWalk.i64_in _ (by omega)
                    have e1 : ((k + 1 : Nat) : Int) - 1 = k := by omega
                    have l0 : (0 : Int) < ((k + 1 : Nat) : Int) := by omega
                    have hcut := hW.out.own.cut (n := k) (by omega)
                    have hdl : out.take k = out.dropLast := by rw [List.dropLast_eq_take, hk]; rfl
                    rw [hdl] at hcut
                    have hdk : out.dropLast.length = k := by rw [List.length_dropLast, hk]; rfl
                    have HN : Hid (RpW w wr s (ik + 1) (ik + 1) (.slice A k c) out.dropLast) := ⟨HRI.out, hcut, hW.out.fr⟩
                    have HDK := Lib.hid hdk
                    rw [hk]
                    clear hz0 hk hcut hdl hdk hout hlo
                    go_wp2
                    go_roundw
                    case rel => exact ⟨ik + 1, ik + 1, out.dropLast, by omega, by go_num, by go_num, ⟨A, c, by rw [HDK.out]⟩, HN⟩
                    case measure => (simp [intOf]; try omega)
                · have q0 : (Pa.mk p).toList.isEmpty = false := by rw [hq]; exact not_nil_empty (fun e => hx1 (.inl e))
                  have q1 : ((Pa.mk p).toList == [46]) = false := by rw [hq]; exact beq_eq_false_iff_ne.2 (fun e => hx1 (.inr e))
                  have q2 : ((Pa.mk p).toList == [46, 46]) = false := by rw [hq]; exact beq_eq_false_iff_ne.2 hx2
                  have hri : Pa.RpI s.data.toList (ik + 1) (ik + 1) (out ++ [p]) := HNEXT.out _ (by have := HFK.out; simp; omega) (HRUN.out.trans (by rw [Pa.step_name hx3]; rfl))
                  have HRI := Lib.hid hri
                  rw [decide_eq_true hx3] at HM
                  obtain ⟨g, -, hsl⟩ := hW.out.own.sl
                  have HSL := Lib.hid hsl
                  have hws := hW.out.fr.size
                  clear hx1 hx2 hx3 hq hri hsl
                  go_wp2_with (first
                    | (go_at_call 20; (with_reducible refine useC (HM.out _) ?_); rintro e w2 ⟨rfl, rfl⟩; clear HM)
                    | (at_builtin; refine wpList_spread_enc (E := strE) Tryd.underlying27 info_str rfl (by decide) rfl _ _ rfl w.heap.size (.slice none 0 0) (.slice A out.length c) [] out g rfl OwnR.nil rfl HSL.out (by simp; omega) hws ?_; intro v5 w5 h1 h2 h3; rw [List.nil_append] at h1; obtain ⟨A5, c5, hv5⟩ := h1.form0; subst hv5; have HO5 := Lib.hid h1; have HF5 := Lib.hid (hW.out.fr.below_step h3 (Nat.le_refl _)); have hws5 := HF5.out.size; clear h1 h2 h3 HSL hws)
                    | (at_builtin; have HO := HO5.out; refine wpList_push_enc (E := strE) (wr := w5) (y := p) Tryd.underlying27 info_str rfl (by decide) rfl _ _ rfl w.heap.size (.slice A5 out.length c5) out rfl rfl HO rfl hlo hws5 ?_; intro v6 w6 h1 h2 h3; obtain ⟨A6, c6, hv6⟩ := h1.form0; subst hv6; have HN : Hid (RpW w w6 s (ik + 1) (ik + 1) (.slice A6 (out ++ [p]).length c6) (out ++ [p])) := ⟨HRI.out, h1, HF5.out.below_step h3 (Nat.le_refl _)⟩; clear h1 h2 h3 HO))
                  go_roundw
                  case rel => exact ⟨ik + 1, ik + 1, out ++ [p], by omega, by go_num, by go_num, ⟨A6, c6, by simp⟩, by simpa using HN⟩
                  case measure => (simp [intOf]; try omega)
                · have q0 : (Pa.mk p).toList.isEmpty = false := by rw [hq]; exact not_nil_empty (fun e => hx1 (.inl e))
                  have q1 : ((Pa.mk p).toList == [46]) = false := by rw [hq]; exact beq_eq_false_iff_ne.2 (fun e => hx1 (.inr e))
                  have q2 : ((Pa.mk p).toList == [46, 46]) = false := by rw [hq]; exact beq_eq_false_iff_ne.2 hx2
                  have HP : Hid (Pa.parts s.data.toList = ([], 2)) := by
                    show _ = _
                    unfold Pa.parts
                    rw [if_neg (by rw [← HS.out]; exact H60.out), if_pos H47.out, HRUN.out, Pa.step_bad hx1 hx2 hx3]
                    rfl
                  rw [decide_eq_false hx3] at HM
                  clear hx1 hx2 hx3 hq
                  generalize Pa.mk p = m at *
                  go_wp2_with (go_at_call 20; (with_reducible refine useC (HM.out _) ?_); rintro e w2 ⟨rfl, rfl⟩)
                  go_ret2
                  exact RpA.err HP.out hW.out.fr
          · have i1 : ¬ (ik : Int) ≤ s.size := by omega
            have hfin := hW.out.p.fin (by rw [← HS.out]; omega)
            have HPARTS : Hid ((out.length ≤ 8 → Pa.parts s.data.toList = (out, 0)) ∧ (8 < out.length → Pa.parts s.data.toList = ([], 4))) := by
              show _ ∧ _
              unfold Pa.parts
              rw [if_neg (by rw [← HS.out]; exact H60.out), if_pos H47.out, hfin]
              exact ⟨fun h => if_neg (by omega), fun h => if_pos h⟩
            clear hfin
            by_cases h8 : 8 < out.length
            · have h8I : (8 : Int) < out.length := by omega
              have HP := Lib.hid (HPARTS.out.2 h8)
              clear h8 HPARTS
              go_wp2
              go_ret2
              exact RpA.err HP.out hW.out.fr
            · have h8I : ¬ (8 : Int) < out.length := by omega
              have HP := Lib.hid (HPARTS.out.1 (by omega))
              clear h8 HPARTS
              go_wp2
              go_ret2
              obtain ⟨g, -, hs⟩ := hW.out.own.sl
              exact ⟨_, g, by rw [HP.out]; rfl, by rw [HP.out]; exact hs, hW.out.fr⟩
      · have x0 : (bt s 0 != 47) = true := by simpa using h47
        have HP : Hid (Pa.parts s.data.toList = ([], 2)) := by
          show _ = _
          unfold Pa.parts
          rw [if_neg (by omega), if_neg (fun h => h47 (hh.1 h))]
        generalize bt s 0 = x at *
        clear hsz h60 h0 hh h47
        go_enter Tryd.func19, Tryd.ntmps19
        go_wp2
        go_ret2
        exact RpA.err HP.out (Fr.refl _ _)
end Go.Proofs.YtcghdnabajhipaaDoor
