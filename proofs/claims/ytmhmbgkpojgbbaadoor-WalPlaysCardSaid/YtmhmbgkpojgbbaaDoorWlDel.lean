/- The contracts of slices.IndexFunc and slices.DeleteFunc at the log's records, the predicate being what Crash hands them. -/
import Derived.Test.YtmhmbgkpojgbbaaDoorWlWalk
import Derived.Test.YtmhmbgkpojgbbaaDoorEnc2
import Derived.Shelf.Abstract
namespace Go.Proofs.YtmhmbgkpojgbbaaDoor
open Go.RowKit

/-- What the predicate reads: the variable that it has caught (block B), the disk's cell, the set. -/
def WlC (w : World) (B b mb : Nat) (L : List Int) : Prop := w.cell? ⟨B, 0, none⟩ = some (.pointer (some ⟨b, 0, none⟩)) ∧ w.cell? ⟨b, 10, none⟩ = some (.map (some mb)) ∧ St w mb L.length L
theorem WlC.fr {w w' : World} {B b mb : Nat} {L : List Int} {S : List Nat} (h : WlC w B b mb L) (hf : Fr S w w') (h1 : B ∉ S) (h2 : b ∉ S) (h3 : mb ∉ S) : WlC w' B b mb L :=
  ⟨hf.cell h.1 h1, hf.cell h.2.1 h2, h.2.2.fr hf h3⟩
theorem rec_new (w : World) (r : Wl.R) : (w.alloc (.cells #[.int .i64 r.t, .int .i64 r.b, .int .i64 r.v, .bool r.e] 87)).heap[w.heap.size]? = some (.cells #[.int .i64 r.t, .int .i64 r.b, .int .i64 r.v, .bool r.e] 87 (0, 0)) := heap_alloc_new w _
theorem rec_cells {w : World} {B : Nat} {r : Wl.R} (h : w.heap[B]? = some (.cells #[.int .i64 r.t, .int .i64 r.b, .int .i64 r.v, .bool r.e] 87 (0, 0))) : w.cell? ⟨B, 0, none⟩ = some (.int .i64 r.t) ∧ w.cell? ⟨B, 1, none⟩ = some (.int .i64 r.b) ∧ w.cell? ⟨B, 2, none⟩ = some (.int .i64 r.v) ∧ w.cell? ⟨B, 3, none⟩ = some (.bool r.e) := by
  refine ⟨?_, ?_, ?_, ?_⟩ <;> rw [cell_of_row w B _ _ _ _ h] <;> rfl
theorem wl_pred (w : World) (B b mb : Nat) (L : List Int) (r : Wl.R) (h : WlC w B b mb L) (hr : I64 r.t) :
    Calls Tryd.prog 54 #[.agg #[.int .i64 r.t, .int .i64 r.b, .int .i64 r.v, .bool r.e], .pointer (some ⟨B, 0, none⟩)] w fun e w' => e = .returned (.bool (!hasB L r.t)) ∧ Fr [] w w' := by
  have HK := Lib.hid hr
  have HF : Hid (Fr [] w (w.alloc (.cells #[.int .i64 r.t, .int .i64 r.b, .int .i64 r.v, .bool r.e] 87))) := (Fr.refl _ _).alloc _
  obtain ⟨d0, d1, d2, d3⟩ := rec_cells (rec_new w r)
  have HC := Lib.hid (h.fr HF.out (by simp) (by simp) (by simp))
  clear h hr
  go_enter Tryd.func54, Tryd.ntmps54
  go_wp2_with fail
  revert HF d0 d1 d2 d3 HC
  generalize (w.alloc (.cells #[.int .i64 r.t, .int .i64 r.b, .int .i64 r.v, .bool r.e] 87)) = w1
  intro HF d0 d1 d2 d3 HC
  obtain ⟨c0, c1, c2⟩ := HC.out
  have HS := Lib.hid c2
  clear c2
  (refine wp_region_mixq 7 [(true, 0), (true, 1), (true, 2), (true, 3), (true, 4), (true, 5), (true, 6)] (by kernel_rfl) (by kernel_rfl) ?_; simp only [pickOps, List.map_cons, List.map_nil, List.getD_cons_zero, List.getD_cons_succ, List.drop_succ_cons, List.drop_zero]; (iterate 7 (first | (refine wpMix_take (v := ?_) (by rfl) ?_ ?_; rotate_left; (focus (intro W hW; subst hW; go_simp; (try with_reducible rfl); done)); try simp only [Act.put, List.setIfInBounds_toArray, List.set_cons_zero, List.set_cons_succ]) | (refine wpMix_leave (by rfl) ?_; try simp only [Act.put, List.setIfInBounds_toArray, List.set_cons_zero, List.set_cons_succ]))); refine wpMix_nil ?_)
  go_wp2_with (at_lookup; refine wpList_lookup_set (w := w1.drew) rfl _ _ rfl HS.out Tryd.underlying3 Tryd.underlying4 Tryd.underlying80 (zero_bool _) rfl _ rfl HK.out ?_)
  go_ret
  exact ⟨rfl, HF.out.drew⟩
/-- Which records stay. -/
def Wl.stay (L : List Int) (r : Wl.R) : Bool := hasB L r.t
/-- The record's cells as one value. -/
def recV (r : Wl.R) : Value := .agg #[.int .i64 r.t, .int .i64 r.b, .int .i64 r.v, .bool r.e]
/-- What IndexFunc says. -/
def WlIdx (L : List Int) (xs : List Wl.R) (w : World) (e : Ending) (w' : World) : Prop :=
  Fr [] w w' ∧ ((e = .returned (.int .i64 (-1)) ∧ ∀ j (h : j < xs.length), Wl.stay L xs[j] = true) ∨ ∃ i : Nat, ∃ h : i < xs.length, e = .returned (.int .i64 i) ∧ Wl.stay L xs[i] = false ∧ ∀ j (h : j < i), Wl.stay L xs[j] = true)
set_option maxRecDepth 100000 in
theorem wl_index (w : World) (A : Option Addr) (g cap : Nat) (xs : List Wl.R) (B b mb : Nat) (L : List Int) (hA : 0 < xs.length → A = some ⟨g, 0, none⟩ ∧ DfR enR w 87 g cap xs) (hC : WlC w B b mb L) (hI : ∀ r ∈ xs, I64 r.t) (hn : xs.length ≤ 60) :
    Calls Tryd.prog 60 #[.slice A xs.length cap, .func (.func 54) #[] #[.pointer (some ⟨B, 0, none⟩)]] w (WlIdx L xs w) := by
  have HA := Lib.hid hA
  have HP := Lib.hid (fun W (hW : Fr [] w W) r (hr : r ∈ xs) => wl_pred W B b mb L r (hC.fr hW (by simp) (by simp) (by simp)) (hI r hr))
  clear hA hC hI
  go_enter Tryd.func60, Tryd.ntmps60
  go_wp2
  go_loopw [5, 8] (fun _ i wr => ∃ k : Nat, k ≤ xs.length ∧ i = .int .i64 k ∧ Hid (∀ j (h : j < xs.length), j < k → Wl.stay L xs[j] = true) ∧ Hid (Fr [] w wr)) (fun _ i _ => xs.length - (intOf i).toNat)
  case atStart => exact ⟨0, Nat.zero_le _, rfl, (fun j _ hj => absurd hj (Nat.not_lt_zero _)), Fr.refl _ _⟩
  case round =>
    obtain ⟨k, hk, rfl, hs, hF⟩ := hrel
    by_cases hlt : k < xs.length
    · obtain ⟨rfl, hD⟩ := HA.out (by omega)
      obtain ⟨cur, hg, hsz, hpart⟩ := (hD.fr hF.out (by simp)).room hlt
      have HG := Lib.hid hg
      have HPT : Hid (((cur.toList.drop (k * 4)).take 4).toArray = #[.int .i64 xs[k].t, .int .i64 xs[k].b, .int .i64 xs[k].v, .bool xs[k].e]) := hpart
      have HCL := Lib.hid (HP.out wr hF.out xs[k] (List.getElem_mem _))
      have hkI : (k : Int) < xs.length := by omega
      have hsz' : k * 4 + 4 ≤ cur.size := hsz
      have HNX : Hid (Wl.stay L xs[k] = hasB L xs[k].t) := rfl
      have HST : Hid (Wl.stay L xs[k] = true → ∀ j (h : j < xs.length), j < k + 1 → Wl.stay L xs[j] = true) := fun h j hj hjk => by
        by_cases e : j = k
        · subst e; exact h
        · exact hs.out j hj (by omega)
      have HNO : Hid (Wl.stay L xs[k] = false → WlIdx L xs w (.returned (.int .i64 k)) wr → True) := fun _ _ => trivial
      clear hg hpart hsz hD
      generalize hr : xs[k] = r at *
      have HR := Lib.hid hr
      clear hr
      cases hb : hasB L r.t with
      | true =>
        have HS2 := Lib.hid (HST.out (by rw [HNX.out, hb]))
        rw [hb] at HCL
        clear hb HST HNO
        go_wp2_with (first
          | (refine wpList_load_part rfl 87 _ rfl g (k * 4) 4 rfl _ cur _ _ HG.out Tryd.underlying87 rfl (by kernel_rfl) hsz' _ HPT.out ?_)
          | (go_at_call 54; (with_reducible refine useC HCL.out ?_); rintro e w2 ⟨rfl, hf⟩; have HF2 := Lib.hid (hF.out.trans hf); clear hf))
        go_roundw
        case rel => exact ⟨k + 1, by omega, by go_num, HS2, HF2⟩
        case measure => simp [intOf]; omega
      | false =>
        have HN := Lib.hid (HNX.out.trans hb)
        rw [hb] at HCL
        clear hb HST HNO
        go_wp2_with (first
          | (refine wpList_load_part rfl 87 _ rfl g (k * 4) 4 rfl _ cur _ _ HG.out Tryd.underlying87 rfl (by kernel_rfl) hsz' _ HPT.out ?_)
          | (go_at_call 54; (with_reducible refine useC HCL.out ?_); rintro e w2 ⟨rfl, hf⟩; have HF2 := Lib.hid (hF.out.trans hf); clear hf))
        go_ret
        exact ⟨HF2.out, .inr ⟨k, hlt, rfl, by rw [HR.out]; exact HN.out, fun j hj => hs.out j (by omega) hj⟩⟩
    · have hs' := Lib.hid (show ∀ j (h : j < xs.length), Wl.stay L xs[j] = true from fun j hj => hs.out j hj (by omega))
      go_wp2
      go_ret
      exact ⟨hF.out, .inl ⟨rfl, hs'.out⟩⟩
/-- How far DeleteFunc has come. -/
structure WlK (L : List Int) (xs ys : List Wl.R) (i j : Nat) : Prop where
  lt : i < j
  le : j ≤ xs.length
  len : ys.length = xs.length
  low : ys.take i = (xs.take j).filter (Wl.stay L)
  high : ∀ k (h : k < xs.length), j ≤ k → ys[k]'(by omega) = xs[k]
theorem WlK.start {L : List Int} {xs : List Wl.R} {i : Nat} (hi : i < xs.length) (h1 : Wl.stay L xs[i] = false) (h2 : ∀ j (h : j < i), Wl.stay L xs[j] = true) : WlK L xs xs i (i + 1) := by
  refine ⟨Nat.lt_succ_self i, hi, rfl, ?_, fun k _ _ => rfl⟩
  rw [List.take_succ_eq_append_getElem hi, List.filter_append, List.filter_cons_of_neg (by rw [h1]; decide), List.filter_nil, List.append_nil]
  symm
  rw [List.filter_eq_self]
  intro r hr
  obtain ⟨k, hk, rfl⟩ := List.getElem_of_mem hr
  rw [List.length_take] at hk
  rw [List.getElem_take]
  exact h2 k (by omega)
theorem WlK.keep {L : List Int} {xs ys : List Wl.R} {i j : Nat} (h : WlK L xs ys i j) (hj : j < xs.length) (hs : Wl.stay L xs[j] = true) : WlK L xs (ys.set i xs[j]) (i + 1) (j + 1) := by
  have h1 := h.lt
  have h2 := h.len
  refine ⟨by omega, hj, by rw [List.length_set]; exact h2, ?_, fun k hk hjk => ?_⟩
  · rw [List.take_succ_eq_append_getElem hj, List.filter_append, List.filter_cons_of_pos (by rw [hs]), List.filter_nil, ← h.low, List.take_succ_eq_append_getElem (by rw [List.length_set]; omega), List.getElem_set_self, List.take_set_of_le (by omega)]
  · rw [List.getElem_set_ne (by omega)]
    exact h.high k hk (by omega)
theorem WlK.skip {L : List Int} {xs ys : List Wl.R} {i j : Nat} (h : WlK L xs ys i j) (hj : j < xs.length) (hs : Wl.stay L xs[j] = false) : WlK L xs ys i (j + 1) := by
  have h1 := h.lt
  refine ⟨by omega, hj, h.len, ?_, fun k hk hjk => h.high k hk (by omega)⟩
  rw [List.take_succ_eq_append_getElem hj, List.filter_append, List.filter_cons_of_neg (by rw [hs]; decide), List.filter_nil, List.append_nil]
  exact h.low
theorem WlK.done {L : List Int} {xs ys : List Wl.R} {i : Nat} (h : WlK L xs ys i xs.length) : ys.take i = xs.filter (Wl.stay L) := by
  have := h.low
  rwa [List.take_length] at this
/-- A row of records, in block g (or nowhere). -/
def RwA (w : World) (A : Option Addr) (g cap : Nat) (xs : List Wl.R) : Prop := (A = none ∧ cap = 0 ∧ xs = []) ∨ (A = some ⟨g, 0, none⟩ ∧ DfR enR w 87 g cap xs)
theorem RwA.use {w : World} {A : Option Addr} {g cap : Nat} {xs : List Wl.R} (h : RwA w A g cap xs) (h0 : 0 < xs.length) : A = some ⟨g, 0, none⟩ ∧ DfR enR w 87 g cap xs := by
  rcases h with ⟨_, _, rfl⟩ | h
  · simp at h0
  · exact h
theorem RwA.own {w : World} {A : Option Addr} {g cap : Nat} {xs : List Wl.R} (h : RwA w A g cap xs) (hm : cap ≤ maxLen) : OwnR enR w 0 87 (.slice A xs.length cap) xs := by
  rcases h with ⟨rfl, rfl, rfl⟩ | ⟨rfl, h⟩
  · exact OwnR.nil
  · exact h.own hm
theorem RwA.fr {w w' : World} {A : Option Addr} {g cap : Nat} {xs : List Wl.R} {S : List Nat} (h : RwA w A g cap xs) (hf : Fr S w w') (hg : g ∉ S) : RwA w' A g cap xs := h.imp_right (fun h => ⟨h.1, h.2.fr hf hg⟩)
theorem RwA.cut {w : World} {A : Option Addr} {g cap : Nat} {xs : List Wl.R} (h : RwA w A g cap xs) {n : Nat} (hn : n ≤ xs.length) : RwA w A g cap (xs.take n) := by
  rcases h with ⟨h1, h2, rfl⟩ | ⟨h1, h2⟩
  · exact .inl ⟨h1, h2, by simp⟩
  · exact .inr ⟨h1, h2.cut hn⟩
theorem RwA.of {w : World} {A : Option Addr} {c : Nat} {xs : List Wl.R} (h : OwnR enR w 0 87 (.slice A xs.length c) xs) : ∃ g, RwA w A g c xs ∧ (Value.slice A xs.length c).ownBlock = A.map (fun _ => g) ∧ (A = none → w.heap.size ≤ g) ∧ xs.length ≤ c ∧ c ≤ maxLen := by
  obtain ⟨_, h2⟩ := h
  rcases h2 with ⟨h2, hn⟩ | ⟨g, cap, cur, h2, hb, hg, hc, hm, hs, ht⟩
  · injection h2 with e1 e2 e3
    have hx := List.eq_nil_of_length_eq_zero hn
    exact ⟨w.heap.size, .inl ⟨e1, e3, hx⟩, by subst e1; rfl, fun _ => Nat.le_refl _, by rw [hx]; exact Nat.zero_le _, by rw [e3]; exact Nat.zero_le _⟩
  · injection h2 with e1 e2 e3
    subst e1 e3
    exact ⟨g, .inr ⟨rfl, cur, hg, hs, hc, ht⟩, rfl, (fun h => by cases h), hc, hm⟩
/-- What DeleteFunc leaves: the records that stay, in the same block. -/
def WlDel (A : Option Addr) (g cap : Nat) (L : List Int) (xs : List Wl.R) (w : World) (e : Ending) (w' : World) : Prop :=
  e = .returned (.slice A (xs.filter (Wl.stay L)).length cap) ∧ Fr [g] w w' ∧ RwA w' A g cap (xs.filter (Wl.stay L))
theorem zero_rec (w : World) : (zeroValue 87).run Tryd.prog w = .ok (.agg #[.int .i64 0, .int .i64 0, .int .i64 0, .bool false]) w := by kernel_rfl
set_option maxRecDepth 100000 in
set_option maxHeartbeats 1000000 in
theorem wl_del (w : World) (A : Option Addr) (g cap : Nat) (xs : List Wl.R) (B b mb : Nat) (L : List Int) (hA : RwA w A g cap xs) (hC : WlC w B b mb L) (hI : ∀ r ∈ xs, I64 r.t) (hn : xs.length ≤ 60) (hcap : cap ≤ maxLen)
    (hg : g ≠ B ∧ g ≠ b ∧ g ≠ mb) :
    Calls Tryd.prog 53 #[.slice A xs.length cap, .func (.func 54) #[] #[.pointer (some ⟨B, 0, none⟩)]] w (WlDel A g cap L xs w) := by
  have HA := Lib.hid hA
  have HIX := Lib.hid (wl_index w A g cap xs B b mb L hA.use hC hI hn)
  have HP := Lib.hid (fun W (hW : Fr [g] w W) r (hr : r ∈ xs) => wl_pred W B b mb L r (hC.fr hW (by simp; omega) (by simp; omega) (by simp; omega)) (hI r hr))
  clear hA hC hI hg
  go_enter Tryd.func53, Tryd.ntmps53
  go_wp2_with fail
  refine useC HIX.out ?_
  rintro e w1 ⟨hf, ⟨rfl, hall⟩ | ⟨i, hi, rfl, h1, h2⟩⟩
  · have HF := Lib.hid hf
    have hfil : Hid (xs.filter (Wl.stay L) = xs) := List.filter_eq_self.2 (fun r hr => by
      obtain ⟨k, hk, rfl⟩ := List.getElem_of_mem hr
      exact hall k hk)
    clear hall hf
    go_wp2
    go_ret
    refine ⟨by rw [hfil.out]; rfl, HF.out.nil, ?_⟩
    rw [hfil.out]
    exact HA.out.fr HF.out (by simp)
  · obtain ⟨rfl, hD⟩ := HA.out.use (by omega)
    have HF : Hid (Fr [g] w w1) := hf.nil
    have HD := Lib.hid (hD.fr hf (by simp))
    have HK := Lib.hid (WlK.start hi h1 h2)
    have hne : ((i : Int) == -1) = false := beq_eq_false_iff_ne.2 (by omega)
    clear hf hD h1 h2
    go_wp2
    go_loopw [5, 6] (fun a c wr => ∃ i j : Nat, ∃ ys, a = .int .i64 i ∧ c = .int .i64 j ∧ j ≤ xs.length ∧ Hid (WlK L xs ys i j) ∧ Hid (DfR enR wr 87 g cap ys) ∧ Hid (Fr [g] w wr)) (fun _ c _ => xs.length - (intOf c).toNat)
    case atStart => exact ⟨i, i + 1, xs, rfl, (by first | rfl | simp), hi, HK, HD, HF⟩
    case round =>
      clear HK HD HF hne hi
      obtain ⟨i, j, ys, rfl, rfl, hj, hK, hD, hF⟩ := hrel
      have hij := hK.out.lt
      have hyl := hK.out.len
      by_cases hlt : j < xs.length
      · obtain ⟨cur, hg, hsz, hpart⟩ := hD.out.room (show j < ys.length by omega)
        have HG := Lib.hid hg
        rw [hK.out.high j hlt (Nat.le_refl _)] at hpart
        have HPT : Hid (((cur.toList.drop (j * 4)).take 4).toArray = #[.int .i64 xs[j].t, .int .i64 xs[j].b, .int .i64 xs[j].v, .bool xs[j].e]) := hpart
        have hsz' : j * 4 + 4 ≤ cur.size := hsz
        have hjI : (j : Int) < xs.length := by omega
        have hst : (Wl.stay L xs[j] = true → WlK L xs (ys.set i xs[j]) (i + 1) (j + 1)) ∧ (Wl.stay L xs[j] = false → WlK L xs ys i (j + 1)) := ⟨hK.out.keep hlt, hK.out.skip hlt⟩
        have HST := Lib.hid hst
        have HCL := Lib.hid (fun W hW => HP.out W hW xs[j] (List.getElem_mem _))
        have hlt1 := lt_of_heap hg
        clear hg hsz hpart hst
        generalize hr : xs[j] = r at *
        have HFA : Hid (Fr [g] w (wr.alloc (.cells #[.int .i64 r.t, .int .i64 r.b, .int .i64 r.v, .bool r.e] 87))) := hF.out.alloc _
        have HDA : Hid (DfR enR (wr.alloc (.cells #[.int .i64 r.t, .int .i64 r.b, .int .i64 r.v, .bool r.e] 87)) 87 g cap ys) := hD.out.fr ((Fr.refl [] _).alloc _) (by simp)
        have HXA := Lib.hid (rec_new wr r)
        clear hr
        cases hb : hasB L r.t with
        | true =>
          have HK2 := Lib.hid (HST.out.1 hb)
          have HCL2 := Lib.hid (HCL.out _ HFA.out)
          rw [hb] at HCL2
          clear hb HST HCL
          go_wp2_with (first
            | (go_at_call 54; (with_reducible refine useC HCL2.out ?_); rintro e w2 ⟨rfl, hf⟩; obtain ⟨d0, d1, d2, d3⟩ := rec_cells (hf.get HXA.out (by simp)); have HF2 := Lib.hid (HFA.out.trans hf.nil); have HD2 := Lib.hid (HDA.out.fr hf (by simp)); clear hf; obtain ⟨cur2, new, hg2, hs2, hnw, hdn⟩ := HD2.out.put (show i < ys.length by omega) r; have HG2 := Lib.hid hg2; have HNW : Hid ((cur2.toList.take (i * 4) ++ [Value.int .i64 r.t, .int .i64 r.b, .int .i64 r.v, .bool r.e] ++ cur2.toList.drop (i * 4 + 4)).toArray = new) := hnw; have HDN := Lib.hid hdn; have HFN : Hid (Fr [g] w (w2.setRow g new)) := HF2.out.setRow (.inl (by simp)) _; have hlt2 := lt_of_heap hg2; clear hg2 hnw hdn)
            | (refine wpList_load_part rfl 87 _ rfl g (j * 4) 4 rfl _ cur _ _ HG.out Tryd.underlying87 rfl (by kernel_rfl) hsz' _ HPT.out ?_)
            | (refine wpList_store_part rfl 87 _ _ rfl g (i * 4) #[.int .i64 r.t, .int .i64 r.b, .int .i64 r.v, .bool r.e] rfl rfl _ cur2 HG2.out (by kernel_rfl) hs2 (enR.one r) new HNW.out ?_))
          go_roundw
          case rel => exact ⟨i + 1, j + 1, _, by go_num, by go_num, by omega, HK2, HDN, HFN⟩
          case measure => simp [intOf]; omega
        | false =>
          have HK2 := Lib.hid (HST.out.2 hb)
          have HCL2 := Lib.hid (HCL.out _ HFA.out)
          rw [hb] at HCL2
          clear hb HST HCL
          go_wp2_with (first
            | (go_at_call 54; (with_reducible refine useC HCL2.out ?_); rintro e w2 ⟨rfl, hf⟩; have HF2 := Lib.hid (HFA.out.trans hf.nil); have HD2 := Lib.hid (HDA.out.fr hf (by simp)); clear hf)
            | (refine wpList_load_part rfl 87 _ rfl g (j * 4) 4 rfl _ cur _ _ HG.out Tryd.underlying87 rfl (by kernel_rfl) hsz' _ HPT.out ?_))
          go_roundw
          case rel => exact ⟨i, j + 1, ys, rfl, by go_num, by omega, HK2, HD2, HF2⟩
          case measure => simp [intOf]; omega
      · have ej : j = xs.length := by omega
        obtain ⟨cur0, new0, hg0, hs0, -, -⟩ := hD.out.clear (i := i) (by omega) (List.replicate ((xs.length - i) * 4) undef) (by rw [List.length_replicate, hyl]; rfl)
        rw [List.length_replicate] at hs0
        obtain ⟨zs, hz, hcl⟩ := run_clear_part (P := Tryd.prog) wr 81 87 0 _ 4 Tryd.underlying81 zero_rec rfl (by intro v hv; simp [Value.cells] at hv; rcases hv with rfl | rfl | rfl | rfl <;> rfl) g (i * 4) (xs.length - i) (cap - i) (by omega) cur0 hg0 hs0
        obtain ⟨cur1, new1, hg1, hs1, hn1, hd1⟩ := hD.out.clear (i := i) (by omega) zs (by rw [hz, hyl]; rfl)
        rw [hg0] at hg1
        injection hg1 with hg1
        injection hg1 with hg1 _ _
        subst hg1
        have hn1' : (cur0.toList.take (i * 4) ++ zs ++ cur0.toList.drop (i * 4 + zs.length)).toArray = new1 := hn1
        rw [hn1'] at hcl
        have HDN := Lib.hid hd1
        have HFN : Hid (Fr [g] w (wr.setRow g new1)) := hF.out.setRow (.inl (by simp)) _
        have hc1 : xs.length ≤ cap := by obtain ⟨_, _, _, h, _⟩ := hD.out; omega
        have hc2 : i ≤ cap := by omega
        have hK1 := hK.out
        rw [ej] at hK1
        have HFL := Lib.hid hK1.done
        have hlen : (xs.filter (Wl.stay L)).length = i := by rw [← HFL.out, List.length_take]; omega
        have HLEN := Lib.hid hlen
        have hiL : i ≤ xs.length := by omega
        have hjI : ¬ (j : Int) < xs.length := by omega
        clear hg0 hs0 hz hd1 hn1 hn1' hs1 hK1 hlen ej hlt
        go_wp2
        go_ret
        exact ⟨by rw [HLEN.out]; rfl, HFN.out, .inr ⟨rfl, by rw [← HFL.out]; exact HDN.out⟩⟩
end Go.Proofs.YtmhmbgkpojgbbaaDoor
