/- The contracts of slices.Clone, IndexFunc and DeleteFunc at tables of entries, the predicate being what Merge hands them. -/

import Derived.Test.YtokbhiokcoldbaaDoorLqM16
namespace Go.Proofs.YtokbhiokcoldbaaDoor
open Go.RowKit

namespace Ls
def stay (e : Int × Int) : Bool := !decide (e.2 < 0)
end Ls
theorem pt_new (w : World) (r : Int × Int) : (w.alloc (.cells #[.int .i64 r.1, .int .i64 r.2] 117)).heap[w.heap.size]? = some (.cells #[.int .i64 r.1, .int .i64 r.2] 117 (0, 0)) := heap_alloc_new w _
theorem pt_cells {w : World} {B : Nat} {r : Int × Int} (h : w.heap[B]? = some (.cells #[.int .i64 r.1, .int .i64 r.2] 117 (0, 0))) : w.cell? ⟨B, 0, none⟩ = some (.int .i64 r.1) ∧ w.cell? ⟨B, 1, none⟩ = some (.int .i64 r.2) := by
  refine ⟨?_, ?_⟩ <;> rw [cell_of_row w B _ _ _ _ h] <;> rfl
theorem ls_pred (w : World) (r : Int × Int) :
    Calls Tryd.prog 73 #[.agg #[.int .i64 r.1, .int .i64 r.2]] w fun e w' => e = .returned (.bool (!Ls.stay r)) ∧ Fr [] w w' := by
  obtain ⟨d0, d1⟩ := pt_cells (pt_new w r)
  have HS : Hid (decide (r.2 < 0) = !Ls.stay r) := by show _ = _; unfold Ls.stay; rw [Bool.not_not]
  go_enter Tryd.func73, Tryd.ntmps73
  go_wp2
  all_goals (go_ret; exact ⟨ret_bool HS.out, (Fr.refl _ _).alloc _⟩)
theorem ls_clone (w : World) (v : Value) (g : Nat) (l : List (Int × Int)) (h : SlR entE w v g l) (hb : l.length ≤ 100000) :
    Calls Tryd.prog 70 #[v] w fun e w' => ∃ v', e = .returned v' ∧ OwnR entE w' w.heap.size 117 v' l ∧ Fr [] w w' := by
  obtain ⟨i0, hi, hz0, hz1, hz2⟩ := info_parts Tryd.info_insE
  obtain ⟨A, o, c, rfl, _, hA, hc⟩ := h.form
  clear h
  cases A with
  | none =>
    have hx : l = [] := by
      cases l with
      | nil => rfl
      | cons x xs => cases hA (by simp)
    subst hx
    have hnil := fun W => Lib.run_eql_slice_nil (P := Tryd.prog) W 111 117 none 0 c 0 0 Tryd.underlying111
    clear hA hc
    go_enter Tryd.func70, Tryd.ntmps70
    go_wp2
    all_goals (go_ret; exact ⟨_, rfl, OwnR.nil, Fr.refl _ _⟩)
  | some a =>
    have hnil := fun W => Lib.run_eql_slice_nil (P := Tryd.prog) W 111 117 (some a) l.length c 0 0 Tryd.underlying111
    have hown := World.ownsRow_made (base := w.heap.size) (e := 117) (size := entE.k) w #[] 0 (Nat.le_refl _) (Nat.zero_le _) rfl
    have HA := Lib.hid hA
    have H3 := Lib.hid hc
    clear hA hc
    go_enter Tryd.func70, Tryd.ntmps70
    go_wp2_with (at_builtin; refine wpList_append_own _ rfl _ _ 111 rfl w.heap.size 117 i0 _ entE.k 16 Tryd.underlying111 hi hz0 hz1 hz2 rfl (by decide) _ _ _ rfl hown a l.length c (entE.cells l) rfl (entE.cells_len l) ?c1 ?c2 ?c3 ?c4 ?c5 ?_)
    case c1 =>
      intro j u hu
      have hjl : j < l.length * entE.k := by
        rw [← entE.cells_len l]
        exact (List.getElem?_eq_some_iff.1 hu).1
      have hk := entE.pos
      have hdiv : j / entE.k < l.length := Nat.div_lt_of_lt_mul (by rw [Nat.mul_comm]; exact hjl)
      have hmod := Nat.mod_lt j hk
      have hdm : j / entE.k * entE.k + j % entE.k = j := by rw [Nat.mul_comm]; exact Nat.div_add_mod j entE.k
      obtain rfl : a = ⟨g, o, none⟩ := Option.some.inj (HA.out (Nat.lt_of_le_of_lt (Nat.zero_le _) hdiv))
      have hcl := H3.out (j / entE.k) hdiv (j % entE.k) hmod
      rw [← entE.cells_get l (j / entE.k) (j % entE.k) hdiv hmod, hdm, hu] at hcl
      rw [Addr.add_lit]
      rw [Nat.add_assoc, hdm] at hcl
      exact cell?_alloc_old _ hcl
    case c2 => exact entE.cells_one l
    case c3 => unfold maxLen; omega
    case c4 => omega
    case c5 => simp
    intro v' w1 hown1 hgr _
    have H4 : Hid (OwnR entE w1 w.heap.size 117 v' l) := hown1
    have H5 := Lib.hid (((Fr.refl [] w).alloc (.cells #[] 117)).grown hgr (by simp [Value.ownBlock]))
    clear hown1 hgr hown hnil
    go_wp2
    go_ret
    exact ⟨_, rfl, H4.out, H5.out⟩
/-- What IndexFunc says. -/
def LsIdx (xs : List (Int × Int)) (w : World) (e : Ending) (w' : World) : Prop :=
  Fr [] w w' ∧ ((e = .returned (.int .i64 (-1)) ∧ ∀ j (h : j < xs.length), Ls.stay xs[j] = true) ∨ ∃ i : Nat, ∃ h : i < xs.length, e = .returned (.int .i64 i) ∧ Ls.stay xs[i] = false ∧ ∀ j (h : j < i), Ls.stay xs[j] = true)
set_option maxRecDepth 100000 in
theorem ls_index (w : World) (A : Option Addr) (g cap : Nat) (xs : List (Int × Int)) (hA : 0 < xs.length → A = some ⟨g, 0, none⟩ ∧ DfR entE w 117 g cap xs) (hn : xs.length ≤ 60) :
    Calls Tryd.prog 91 #[.slice A xs.length cap, .func (.func 73) #[] #[]] w (LsIdx xs w) := by
  have HA := Lib.hid hA
  have HP := Lib.hid (fun W (hW : Fr [] w W) r (hr : r ∈ xs) => ls_pred W r)
  clear hA
  go_enter Tryd.func91, Tryd.ntmps91
  go_wp2
  go_loopw [5, 8] (fun _ i wr => ∃ k : Nat, k ≤ xs.length ∧ i = .int .i64 k ∧ Hid (∀ j (h : j < xs.length), j < k → Ls.stay xs[j] = true) ∧ Hid (Fr [] w wr)) (fun _ i _ => xs.length - (intOf i).toNat)
  case atStart => exact ⟨0, Nat.zero_le _, rfl, (fun j _ hj => absurd hj (Nat.not_lt_zero _)), Fr.refl _ _⟩
  case round =>
    obtain ⟨k, hk, rfl, hs, hF⟩ := hrel
    by_cases hlt : k < xs.length
    · obtain ⟨rfl, hD⟩ := HA.out (by omega)
      obtain ⟨cur, hg, hsz, hpart⟩ := (hD.fr hF.out (by simp)).room hlt
      have HG := Lib.hid hg
      have HPT : Hid (((cur.toList.drop (k * 2)).take 2).toArray = #[.int .i64 xs[k].1, .int .i64 xs[k].2]) := hpart
      have HCL := Lib.hid (HP.out wr hF.out xs[k] (List.getElem_mem _))
      have hkI : (k : Int) < xs.length := by omega
      have hsz' : k * 2 + 2 ≤ cur.size := hsz
      have HST : Hid (Ls.stay xs[k] = true → ∀ j (h : j < xs.length), j < k + 1 → Ls.stay xs[j] = true) := fun h j hj hjk => by
        by_cases e : j = k
        · subst e; exact h
        · exact hs.out j hj (by omega)
      have HNO : Hid (Ls.stay xs[k] = false → LsIdx xs w (.returned (.int .i64 k)) wr → True) := fun _ _ => trivial
      clear hg hpart hsz hD
      generalize hr : xs[k] = r at *
      have HR := Lib.hid hr
      clear hr
      cases hb : Ls.stay r with
      | true =>
        have HS2 := Lib.hid (HST.out hb)
        rw [hb] at HCL
        clear hb HST HNO
        go_wp2_with (first
          | (refine wpList_load_part rfl 117 _ rfl g (k * 2) 2 rfl _ cur _ _ HG.out Tryd.underlying117 rfl (by kernel_rfl) hsz' _ HPT.out ?_)
          | (go_at_call 73; (with_reducible refine useC HCL.out ?_); rintro e w2 ⟨rfl, hf⟩; have HF2 := Lib.hid (hF.out.trans hf); clear hf))
        go_roundw
        case rel => exact ⟨k + 1, by omega, by go_num, HS2, HF2⟩
        case measure => simp [intOf]; omega
      | false =>
        have HN := Lib.hid hb
        rw [hb] at HCL
        clear hb HST HNO
        go_wp2_with (first
          | (refine wpList_load_part rfl 117 _ rfl g (k * 2) 2 rfl _ cur _ _ HG.out Tryd.underlying117 rfl (by kernel_rfl) hsz' _ HPT.out ?_)
          | (go_at_call 73; (with_reducible refine useC HCL.out ?_); rintro e w2 ⟨rfl, hf⟩; have HF2 := Lib.hid (hF.out.trans hf); clear hf))
        go_ret
        exact ⟨HF2.out, .inr ⟨k, hlt, rfl, by rw [HR.out]; exact HN.out, fun j hj => hs.out j (by omega) hj⟩⟩
    · have hs' := Lib.hid (show ∀ j (h : j < xs.length), Ls.stay xs[j] = true from fun j hj => hs.out j hj (by omega))
      go_wp2
      go_ret
      exact ⟨hF.out, .inl ⟨rfl, hs'.out⟩⟩
/-- How far DeleteFunc has come. -/
structure LsK (xs ys : List (Int × Int)) (i j : Nat) : Prop where
  lt : i < j
  le : j ≤ xs.length
  len : ys.length = xs.length
  low : ys.take i = (xs.take j).filter (Ls.stay)
  high : ∀ k (h : k < xs.length), j ≤ k → ys[k]'(by omega) = xs[k]
theorem LsK.start {xs : List (Int × Int)} {i : Nat} (hi : i < xs.length) (h1 : Ls.stay xs[i] = false) (h2 : ∀ j (h : j < i), Ls.stay xs[j] = true) : LsK xs xs i (i + 1) := by
  refine ⟨Nat.lt_succ_self i, hi, rfl, ?_, fun k _ _ => rfl⟩
  rw [List.take_succ_eq_append_getElem hi, List.filter_append, List.filter_cons_of_neg (by rw [h1]; decide), List.filter_nil, List.append_nil]
  symm
  rw [List.filter_eq_self]
  intro r hr
  obtain ⟨k, hk, rfl⟩ := List.getElem_of_mem hr
  rw [List.length_take] at hk
  rw [List.getElem_take]
  exact h2 k (by omega)
theorem LsK.keep {xs ys : List (Int × Int)} {i j : Nat} (h : LsK xs ys i j) (hj : j < xs.length) (hs : Ls.stay xs[j] = true) : LsK xs (ys.set i xs[j]) (i + 1) (j + 1) := by
  have h1 := h.lt
  have h2 := h.len
  refine ⟨by omega, hj, by rw [List.length_set]; exact h2, ?_, fun k hk hjk => ?_⟩
  · rw [List.take_succ_eq_append_getElem hj, List.filter_append, List.filter_cons_of_pos (by rw [hs]), List.filter_nil, ← h.low, List.take_succ_eq_append_getElem (by rw [List.length_set]; omega), List.getElem_set_self, List.take_set_of_le (by omega)]
  · rw [List.getElem_set_ne (by omega)]
    exact h.high k hk (by omega)
theorem LsK.skip {xs ys : List (Int × Int)} {i j : Nat} (h : LsK xs ys i j) (hj : j < xs.length) (hs : Ls.stay xs[j] = false) : LsK xs ys i (j + 1) := by
  have h1 := h.lt
  refine ⟨by omega, hj, h.len, ?_, fun k hk hjk => h.high k hk (by omega)⟩
  rw [List.take_succ_eq_append_getElem hj, List.filter_append, List.filter_cons_of_neg (by rw [hs]; decide), List.filter_nil, List.append_nil]
  exact h.low
theorem LsK.done {xs ys : List (Int × Int)} {i : Nat} (h : LsK xs ys i xs.length) : ys.take i = xs.filter (Ls.stay) := by
  have := h.low
  rwa [List.take_length] at this
/-- A row of records, in block g (or nowhere). -/
def RwL (w : World) (A : Option Addr) (g cap : Nat) (xs : List (Int × Int)) : Prop := (A = none ∧ cap = 0 ∧ xs = []) ∨ (A = some ⟨g, 0, none⟩ ∧ DfR entE w 117 g cap xs)
theorem RwL.use {w : World} {A : Option Addr} {g cap : Nat} {xs : List (Int × Int)} (h : RwL w A g cap xs) (h0 : 0 < xs.length) : A = some ⟨g, 0, none⟩ ∧ DfR entE w 117 g cap xs := by
  rcases h with ⟨_, _, rfl⟩ | h
  · simp at h0
  · exact h
theorem RwL.own {w : World} {A : Option Addr} {g cap : Nat} {xs : List (Int × Int)} (h : RwL w A g cap xs) (hm : cap ≤ maxLen) : OwnR entE w 0 117 (.slice A xs.length cap) xs := by
  rcases h with ⟨rfl, rfl, rfl⟩ | ⟨rfl, h⟩
  · exact OwnR.nil
  · exact h.own hm
theorem RwL.fr {w w' : World} {A : Option Addr} {g cap : Nat} {xs : List (Int × Int)} {S : List Nat} (h : RwL w A g cap xs) (hf : Fr S w w') (hg : g ∉ S) : RwL w' A g cap xs := h.imp_right (fun h => ⟨h.1, h.2.fr hf hg⟩)
theorem RwL.cut {w : World} {A : Option Addr} {g cap : Nat} {xs : List (Int × Int)} (h : RwL w A g cap xs) {n : Nat} (hn : n ≤ xs.length) : RwL w A g cap (xs.take n) := by
  rcases h with ⟨h1, h2, rfl⟩ | ⟨h1, h2⟩
  · exact .inl ⟨h1, h2, by simp⟩
  · exact .inr ⟨h1, h2.cut hn⟩
theorem RwL.of {w : World} {A : Option Addr} {c : Nat} {xs : List (Int × Int)} (h : OwnR entE w 0 117 (.slice A xs.length c) xs) : ∃ g, RwL w A g c xs ∧ (Value.slice A xs.length c).ownBlock = A.map (fun _ => g) ∧ (A = none → w.heap.size ≤ g) ∧ xs.length ≤ c ∧ c ≤ maxLen := by
  obtain ⟨_, h2⟩ := h
  rcases h2 with ⟨h2, hn⟩ | ⟨g, cap, cur, h2, hb, hg, hc, hm, hs, ht⟩
  · injection h2 with e1 e2 e3
    have hx := List.eq_nil_of_length_eq_zero hn
    exact ⟨w.heap.size, .inl ⟨e1, e3, hx⟩, by subst e1; rfl, fun _ => Nat.le_refl _, by rw [hx]; exact Nat.zero_le _, by rw [e3]; exact Nat.zero_le _⟩
  · injection h2 with e1 e2 e3
    subst e1 e3
    exact ⟨g, .inr ⟨rfl, cur, hg, hs, hc, ht⟩, rfl, (fun h => by cases h), hc, hm⟩
/-- What DeleteFunc leaves: the records that stay, in the same block. -/
def LsDl (A : Option Addr) (g cap : Nat) (xs : List (Int × Int)) (w : World) (e : Ending) (w' : World) : Prop :=
  e = .returned (.slice A (xs.filter (Ls.stay)).length cap) ∧ Fr [g] w w' ∧ RwL w' A g cap (xs.filter (Ls.stay))
theorem zero_ent (w : World) : (zeroValue 117).run Tryd.prog w = .ok (.agg #[.int .i64 0, .int .i64 0]) w := by kernel_rfl
set_option maxRecDepth 100000 in
set_option maxHeartbeats 1000000 in
theorem ls_del (w : World) (A : Option Addr) (g cap : Nat) (xs : List (Int × Int)) (hA : RwL w A g cap xs) (hn : xs.length ≤ 60) (hcap : cap ≤ maxLen) :
    Calls Tryd.prog 72 #[.slice A xs.length cap, .func (.func 73) #[] #[]] w (LsDl A g cap xs w) := by
  have HA := Lib.hid hA
  have HIX := Lib.hid (ls_index w A g cap xs hA.use hn)
  have HP := Lib.hid (fun W (hW : Fr [g] w W) r (hr : r ∈ xs) => ls_pred W r)
  clear hA
  go_enter Tryd.func72, Tryd.ntmps72
  go_wp2_with fail
  refine useC HIX.out ?_
  rintro e w1 ⟨hf, ⟨rfl, hall⟩ | ⟨i, hi, rfl, h1, h2⟩⟩
  · have HF := Lib.hid hf
    have hfil : Hid (xs.filter (Ls.stay) = xs) := List.filter_eq_self.2 (fun r hr => by
      obtain ⟨k, hk, rfl⟩ := List.getElem_of_mem hr
      exact hall k hk)
    clear hall hf
    go_wp2
    go_ret
    refine ⟨by rw [hfil.out]; rfl, HF.out.nil, ?_⟩
    rw [hfil.out]
    exact HA.out.fr HF.out (by simp)
  · obtain ⟨rfl, hD⟩ := HA.out.use (by omega)
    have HF : Hid (Fr [g] w w1) := hf.nil
    have HD := Lib.hid (hD.fr hf (by simp))
    have HK := Lib.hid (LsK.start hi h1 h2)
    have hne : ((i : Int) == -1) = false := beq_eq_false_iff_ne.2 (by omega)
    clear hf hD h1 h2
    go_wp2
    go_loopw [5, 6] (fun a c wr => ∃ i j : Nat, ∃ ys, a = .int .i64 i ∧ c = .int .i64 j ∧ j ≤ xs.length ∧ Hid (LsK xs ys i j) ∧ Hid (DfR entE wr 117 g cap ys) ∧ Hid (Fr [g] w wr)) (fun _ c _ => xs.length - (intOf c).toNat)
    case atStart => exact ⟨i, i + 1, xs, rfl, (by first | rfl | simp), hi, HK, HD, HF⟩
    case round =>
      clear HK HD HF hne hi
      obtain ⟨i, j, ys, rfl, rfl, hj, hK, hD, hF⟩ := hrel
      have hij := hK.out.lt
      have hyl := hK.out.len
      by_cases hlt : j < xs.length
      · obtain ⟨cur, hg, hsz, hpart⟩ := hD.out.room (show j < ys.length by omega)
        have HG := Lib.hid hg
        rw [hK.out.high j hlt (Nat.le_refl _)] at hpart
        have HPT : Hid (((cur.toList.drop (j * 2)).take 2).toArray = #[.int .i64 xs[j].1, .int .i64 xs[j].2]) := hpart
        have hsz' : j * 2 + 2 ≤ cur.size := hsz
        have hjI : (j : Int) < xs.length := by omega
        have hst : (Ls.stay xs[j] = true → LsK xs (ys.set i xs[j]) (i + 1) (j + 1)) ∧ (Ls.stay xs[j] = false → LsK xs ys i (j + 1)) := ⟨hK.out.keep hlt, hK.out.skip hlt⟩
        have HST := Lib.hid hst
        have HCL := Lib.hid (fun W hW => HP.out W hW xs[j] (List.getElem_mem _))
        have hlt1 := lt_of_heap hg
        clear hg hsz hpart hst
        generalize hr : xs[j] = r at *
        have HFA : Hid (Fr [g] w (wr.alloc (.cells #[.int .i64 r.1, .int .i64 r.2] 117))) := hF.out.alloc _
        have HDA : Hid (DfR entE (wr.alloc (.cells #[.int .i64 r.1, .int .i64 r.2] 117)) 117 g cap ys) := hD.out.fr ((Fr.refl [] _).alloc _) (by simp)
        have HXA := Lib.hid (pt_new wr r)
        clear hr
        cases hb : Ls.stay r with
        | true =>
          have HK2 := Lib.hid (HST.out.1 hb)
          have HCL2 := Lib.hid (HCL.out _ HFA.out)
          rw [hb] at HCL2
          clear hb HST HCL
          go_wp2_with (first
            | (go_at_call 73; (with_reducible refine useC HCL2.out ?_); rintro e w2 ⟨rfl, hf⟩; obtain ⟨d0, d1⟩ := pt_cells (hf.get HXA.out (by simp)); have HF2 := Lib.hid (HFA.out.trans hf.nil); have HD2 := Lib.hid (HDA.out.fr hf (by simp)); clear hf; obtain ⟨cur2, new, hg2, hs2, hnw, hdn⟩ := HD2.out.put (show i < ys.length by omega) r; have HG2 := Lib.hid hg2; have HNW : Hid ((cur2.toList.take (i * 2) ++ [Value.int .i64 r.1, .int .i64 r.2] ++ cur2.toList.drop (i * 2 + 2)).toArray = new) := hnw; have HDN := Lib.hid hdn; have HFN : Hid (Fr [g] w (w2.setRow g new)) := HF2.out.setRow (.inl (by simp)) _; have hlt2 := lt_of_heap hg2; clear hg2 hnw hdn)
            | (refine wpList_load_part rfl 117 _ rfl g (j * 2) 2 rfl _ cur _ _ HG.out Tryd.underlying117 rfl (by kernel_rfl) hsz' _ HPT.out ?_)
            | (refine wpList_store_part rfl 117 _ _ rfl g (i * 2) #[.int .i64 r.1, .int .i64 r.2] rfl rfl _ cur2 HG2.out (by kernel_rfl) hs2 (entE.one r) new HNW.out ?_))
          go_roundw
          case rel => exact ⟨i + 1, j + 1, _, by go_num, by go_num, by omega, HK2, HDN, HFN⟩
          case measure => simp [intOf]; omega
        | false =>
          have HK2 := Lib.hid (HST.out.2 hb)
          have HCL2 := Lib.hid (HCL.out _ HFA.out)
          rw [hb] at HCL2
          clear hb HST HCL
          go_wp2_with (first
            | (go_at_call 73; (with_reducible refine useC HCL2.out ?_); rintro e w2 ⟨rfl, hf⟩; have HF2 := Lib.hid (HFA.out.trans hf.nil); have HD2 := Lib.hid (HDA.out.fr hf (by simp)); clear hf)
            | (refine wpList_load_part rfl 117 _ rfl g (j * 2) 2 rfl _ cur _ _ HG.out Tryd.underlying117 rfl (by kernel_rfl) hsz' _ HPT.out ?_))
          go_roundw
          case rel => exact ⟨i, j + 1, ys, rfl, by go_num, by omega, HK2, HD2, HF2⟩
          case measure => simp [intOf]; omega
      · have ej : j = xs.length := by omega
        obtain ⟨cur0, new0, hg0, hs0, -, -⟩ := hD.out.clear (i := i) (by omega) (List.replicate ((xs.length - i) * 2) undef) (by rw [List.length_replicate, hyl]; rfl)
        rw [List.length_replicate] at hs0
        obtain ⟨zs, hz, hcl⟩ := run_clear_part (P := Tryd.prog) wr 111 117 0 _ 2 Tryd.underlying111 zero_ent rfl (by intro v hv; simp [Value.cells] at hv; rcases hv with rfl | rfl <;> rfl) g (i * 2) (xs.length - i) (cap - i) (by omega) cur0 hg0 hs0
        obtain ⟨cur1, new1, hg1, hs1, hn1, hd1⟩ := hD.out.clear (i := i) (by omega) zs (by rw [hz, hyl]; rfl)
        rw [hg0] at hg1
        injection hg1 with hg1
        injection hg1 with hg1 _ _
        subst hg1
        have hn1' : (cur0.toList.take (i * 2) ++ zs ++ cur0.toList.drop (i * 2 + zs.length)).toArray = new1 := hn1
        rw [hn1'] at hcl
        have HDN := Lib.hid hd1
        have HFN : Hid (Fr [g] w (wr.setRow g new1)) := hF.out.setRow (.inl (by simp)) _
        have hc1 : xs.length ≤ cap := by obtain ⟨_, _, _, h, _⟩ := hD.out; omega
        have hc2 : i ≤ cap := by omega
        have hK1 := hK.out
        rw [ej] at hK1
        have HFL := Lib.hid hK1.done
        have hlen : (xs.filter (Ls.stay)).length = i := by rw [← HFL.out, List.length_take]; omega
        have HLEN := Lib.hid hlen
        have hiL : i ≤ xs.length := by omega
        have hjI : ¬ (j : Int) < xs.length := by omega
        clear hg0 hs0 hz hd1 hn1 hn1' hs1 hK1 hlen ej hlt
        go_wp2
        go_ret
        exact ⟨by rw [HLEN.out]; rfl, HFN.out, .inr ⟨rfl, by rw [← HFL.out]; exact HDN.out⟩⟩
end Go.Proofs.YtokbhiokcoldbaaDoor
