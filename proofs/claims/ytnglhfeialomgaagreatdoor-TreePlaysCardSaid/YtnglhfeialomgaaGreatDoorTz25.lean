/- The document's Walk, Inside. -/

import Derived.Test.YtnglhfeialomgaaGreatDoorTz10
import Derived.Test.YtnglhfeialomgaaGreatDoorTz17
import Derived.Test.YtnglhfeialomgaaGreatDoorTz21
import Derived.Test.YtnglhfeialomgaaGreatDoorTz24
namespace Go.Proofs.YtnglhfeialomgaaGreatDoor
open Go.RowKit

/-- What Walk gathers. -/
def walkL (T : Tr.RT) : List (List UInt8) := T.nm.map (fun e => e.1 ++ (if T.dirs.getD e.2 false = true then [47] else []))
/-- The rounds' memory. -/
structure WaI (w wr : World) (v0 v1 : Value) (v : Value) (out : List (List UInt8)) : Prop where
  x : TpX wr w.heap.size v0 v1
  own : OwnR strE wr (w.heap.size + 1) 9 v out
  fr : Fr [] w wr
theorem WaI.step {w wr wr' : World} {v0 v1 v : Value} {out : List (List UInt8)} (h : WaI w wr v0 v1 v out) (hf : Fr [] wr wr') : WaI w wr' v0 v1 v out := ⟨h.x.step hf, h.own.kept hf (by simp), h.fr.trans hf⟩
theorem WaI.push {w wr w' : World} {v0 v1 v v' : Value} {out out' : List (List UInt8)} (h : WaI w wr v0 v1 v out) (h1 : OwnR strE w' (w.heap.size + 1) 9 v' out') (h3 : Below (w.heap.size + 1) wr w') : WaI w w' v0 v1 v' out' :=
  ⟨(h3.block w.heap.size (by omega)).trans h.x, h1, h.fr.below_step h3 (by omega)⟩
theorem walkL_succ {T : Tr.RT} {k : Nat} (h : k < T.nm.length) : (walkL T).take (k + 1) = (walkL T).take k ++ [T.nm[k].1 ++ (if T.dirs.getD T.nm[k].2 false = true then [47] else [])] := by
  have hk : k < (walkL T).length := by unfold walkL; rw [List.length_map]; exact h
  rw [List.take_succ_eq_append_getElem hk]
  congr 1
  show [(T.nm.map _)[k]'(by rw [List.length_map]; exact h)] = _
  rw [List.getElem_map]
theorem walkL_len (T : Tr.RT) : (walkL T).length = T.nm.length := by unfold walkL; rw [List.length_map]
set_option maxRecDepth 100000 in
set_option maxHeartbeats 8000000 in
theorem m_Walk (w : World) (v0 v1 : Value) (g0 g1 : Nat) (T : Tr.RT) (hV : TpV w v0 v1 g0 g1 T) (hb : ∀ e ∈ T.nm, e.2 < T.dirs.length ∧ e.1.length ≤ 1000) (hl : T.nm.length ≤ 1000) :
    Calls Tryz.prog 14 #[.agg #[v0, v1]] w (SortedA (walkL T) w) := by
  obtain ⟨A0, o0, c0, rfl, hm0, hA0, hc0⟩ := nm_cells hV.nm
  obtain ⟨A1, o1, c1, rfl, hm1, hA1, hc1⟩ := bo_cells hV.dirs
  obtain ⟨hf0, hx0⟩ := box_fr w (.slice A0 T.nm.length c0) (.slice A1 T.dirs.length c1)
  have HI0 : Hid (WaI w (w.alloc (.cells #[.slice A0 T.nm.length c0, .slice A1 T.dirs.length c1] 28)) (.slice A0 T.nm.length c0) (.slice A1 T.dirs.length c1) (.slice none 0 0) []) := ⟨hx0, OwnR.nil, hf0⟩
  have HA0 := Lib.hid hA0
  have HC0 := Lib.hid hc0
  have HA1 := Lib.hid hA1
  have HC1 := Lib.hid hc1
  have HBND := Lib.hid hb
  clear hV hA0 hc0 hA1 hc1 hb hf0 hx0 hm1
  go_enter Tryz.func14, Tryz.ntmps14
  go_wp2_with fail
  generalize w.alloc (.cells #[.slice A0 T.nm.length c0, .slice A1 T.dirs.length c1] 28) = w1 at *
  go_loopw [3, 4] (fun ov kv wr => ∃ k : Nat, k ≤ T.nm.length ∧ kv = .int .i64 k ∧ ∃ Ao co, ov = .slice Ao k co ∧ Hid (WaI w wr (.slice A0 T.nm.length c0) (.slice A1 T.dirs.length c1) ov ((walkL T).take k))) (fun _ kv _ => T.nm.length - (intOf kv).toNat)
  case atStart => exact ⟨0, Nat.zero_le _, rfl, none, 0, rfl, HI0⟩
  case round =>
    clear HI0
    obtain ⟨k, hk, rfl, Ao, co, rfl, hI⟩ := hrel
    have k0 : (0 : Int) ≤ k := by omega
    have kw : IntKind.i64.wrap ((k : Int) + 1) = (k : Int) + 1 := by rw [IntKind.wrap_i64]; omega
    obtain ⟨x0, x1⟩ := hI.out.x.cells
    by_cases hlt : k < T.nm.length
    · have i1 : (k : Int) < T.nm.length := by omega
      obtain rfl := HA0.out (by omega)
      obtain ⟨hb1, hb2⟩ := HBND.out _ (List.getElem_mem hlt)
      obtain rfl := HA1.out (by omega)
      obtain ⟨ca, cb⟩ := HC0.out k hlt
      have ca := hI.out.fr.cell ca (by simp)
      have cb := hI.out.fr.cell cb (by simp)
      have cd := hI.out.fr.cell (HC1.out _ hb1) (by simp)
      have HS := Lib.hid (walkL_succ hlt)
      have hgd : T.dirs.getD T.nm[k].2 false = T.dirs[T.nm[k].2] := by rw [List.getD_eq_getElem?_getD, List.getElem?_eq_getElem hb1]; rfl
      rw [hgd] at HS
      have hz := Pa.mk_size T.nm[k].1
      obtain ⟨hd, hhd⟩ : ∃ b, T.dirs[T.nm[k].2] = b := ⟨_, rfl⟩
      rw [hhd] at HS cd
      have hlen : ((walkL T).take k).length = k := by rw [List.length_take, walkL_len]; omega
      obtain ⟨L, hL⟩ : ∃ L, (walkL T).take k = L := ⟨_, rfl⟩
      rw [hL] at HS hI hlen
      have HLEN := Lib.hid hlen
      have hlo : L.length < 1000000 := by omega
      clear hgd hhd hlen hL
      generalize T.nm[k].2 = t at *
      have t0 : (0 : Int) ≤ t := by omega
      have t1 : (t : Int) < T.dirs.length := by omega
      have HW1 := Lib.hid (hI.out.step (Fr.refl [] wr).drew)
      have HSZ : Hid (w.heap.size + 1 ≤ wr.drew.heap.size) := by
        show _ ≤ _
        exact lt_of_heap HW1.out.x
      cases hd with
      | true =>
        rw [if_pos rfl] at HS
        have he : Pa.mk T.nm[k].1 ++ (⟨#[47]⟩ : ByteArray) = Pa.mk (T.nm[k].1 ++ [47]) := mk_append _ [47]
        generalize T.nm[k].1 ++ [47] = y at *
        generalize Pa.mk T.nm[k].1 = m1 at *
        have hz1 : m1.size ≤ 1000 := by omega
        clear hz hb2
        go_wp2_with fail
        (refine wp_region_mixq 8 [(true, 0), (true, 1), (true, 2), (true, 3), (true, 4), (true, 5), (true, 6), (true, 7)] (by kernel_rfl) (by kernel_rfl) ?_; simp only [pickOps, List.map_cons, List.map_nil, List.getD_cons_zero, List.getD_cons_succ, List.drop_succ_cons, List.drop_zero]; (iterate 8 (first | (refine wpMix_take (v := ?_) (by rfl) ?_ ?_; rotate_left; (focus (intro W hW; subst hW; go_simp; (try with_reducible rfl); done)); try simp only [Act.put, List.setIfInBounds_toArray, List.set_cons_zero, List.set_cons_succ]) | (refine wpMix_leave (by rfl) ?_; try simp only [Act.put, List.setIfInBounds_toArray, List.set_cons_zero, List.set_cons_succ]))); refine wpMix_nil ?_)
        go_wp2_with (at_builtin; have HO := HW1.out.own; refine wpList_push_enc (E := strE) (wr := wr.drew) (y := y) Tryz.underlying30 info_str rfl (by decide) rfl _ _ rfl (w.heap.size + 1) (.slice Ao k co) L rfl rfl HO rfl hlo HSZ.out ?_; intro v6 w6 h1 h2 h3; obtain ⟨A6, c6, hv6⟩ := h1.form0; subst hv6; have HN := Lib.hid (HW1.out.push h1 h3); clear h1 h2 h3 HO)
        go_roundw
        case rel => exact ⟨k + 1, by omega, by go_num, A6, c6, by rw [HLEN.out], by rw [HS.out]; simpa using HN⟩
        case measure => (simp [intOf]; try omega)
      | false =>
        rw [if_neg (by decide), List.append_nil] at HS
        generalize T.nm[k].1 = y at *
        clear hz hb2
        go_wp2_with fail
        (refine wp_region_mixq 8 [(true, 0), (true, 1), (true, 2), (true, 3), (true, 4), (true, 5), (true, 6), (true, 7)] (by kernel_rfl) (by kernel_rfl) ?_; simp only [pickOps, List.map_cons, List.map_nil, List.getD_cons_zero, List.getD_cons_succ, List.drop_succ_cons, List.drop_zero]; (iterate 8 (first | (refine wpMix_take (v := ?_) (by rfl) ?_ ?_; rotate_left; (focus (intro W hW; subst hW; go_simp; (try with_reducible rfl); done)); try simp only [Act.put, List.setIfInBounds_toArray, List.set_cons_zero, List.set_cons_succ]) | (refine wpMix_leave (by rfl) ?_; try simp only [Act.put, List.setIfInBounds_toArray, List.set_cons_zero, List.set_cons_succ]))); refine wpMix_nil ?_)
        go_wp2_with (at_builtin; have HO := HW1.out.own; refine wpList_push_enc (E := strE) (wr := wr.drew) (y := y) Tryz.underlying30 info_str rfl (by decide) rfl _ _ rfl (w.heap.size + 1) (.slice Ao k co) L rfl rfl HO rfl hlo HSZ.out ?_; intro v6 w6 h1 h2 h3; obtain ⟨A6, c6, hv6⟩ := h1.form0; subst hv6; have HN := Lib.hid (HW1.out.push h1 h3); clear h1 h2 h3 HO)
        go_roundw
        case rel => exact ⟨k + 1, by omega, by go_num, A6, c6, by rw [HLEN.out], by rw [HS.out]; simpa using HN⟩
        case measure => (simp [intOf]; try omega)
    · have i1 : ¬ (k : Int) < T.nm.length := by omega
      obtain rfl : k = T.nm.length := by omega
      have hall : (walkL T).take T.nm.length = walkL T := by rw [← walkL_len, List.take_length]
      obtain ⟨go, hgo, hso⟩ := hI.out.own.sl
      rw [hall] at hso hgo
      have HCS := Lib.hid (m_Sorted wr _ go (walkL T) hso (by rw [walkL_len]; exact hl))
      have HFR := Lib.hid hI.out.fr
      clear hall hgo hso
      go_wp2_with (go_at_call 35; (with_reducible refine useC HCS.out ?_); rintro e w2 ⟨v9, g9, l9, rfl, h1, h2, h3, h4, hf⟩; have HR := Lib.hid (And.intro h1 (And.intro h2 (And.intro h3 h4))); have HF2 := Lib.hid hf; clear h1 h2 h3 h4 hf)
      go_ret
      obtain ⟨h1, h2, h3, h4⟩ := HR.out
      exact ⟨_, g9, l9, rfl, h1.imp (fun h => Nat.le_trans HFR.out.size h) id, h2, h3, h4, HFR.out.trans HF2.out⟩
end Go.Proofs.YtnglhfeialomgaaGreatDoor
/- The document's Inside. -/
namespace Go.Proofs.YtnglhfeialomgaaGreatDoor
open Go.RowKit

def insF (q x : List UInt8) : Bool := Tr.beg x q && (Tr.slN x == Tr.slN q + 1)
def insN (nm : Tr.Nr) (q : List UInt8) : List (List UInt8) := (nm.filter (fun e => insF q e.1)).map (fun e => e.1.drop (q.length + 1))
theorem insN_succ {nm : Tr.Nr} {k : Nat} (h : k < nm.length) (q : List UInt8) : insN (nm.take (k + 1)) q = insN (nm.take k) q ++ (if insF q nm[k].1 = true then [nm[k].1.drop (q.length + 1)] else []) := by
  unfold insN
  rw [List.take_succ_eq_append_getElem h, List.filter_append, List.map_append]
  congr 1
  by_cases e : insF q nm[k].1 = true
  · rw [if_pos e, List.filter_cons, if_pos e]; rfl
  · rw [if_neg e, List.filter_cons, if_neg e]; rfl
theorem insN_len (nm : Tr.Nr) (q : List UInt8) : (insN nm q).length ≤ nm.length := by
  unfold insN
  rw [List.length_map]
  exact List.length_filter_le _ _
theorem slN_le (s : List UInt8) : Tr.slN s ≤ s.length := List.count_le_length
set_option maxRecDepth 100000 in
set_option maxHeartbeats 8000000 in
theorem m_Inside (w : World) (v0 v1 : Value) (g0 : Nat) (nm : Tr.Nr) (hV : SlR nmE w v0 g0 nm) (hb : ∀ e ∈ nm, e.1.length ≤ 1000) (hl : nm.length ≤ 1000) (p : List UInt8) (hp : p.length ≤ 1000) :
    Calls Tryz.prog 18 #[.agg #[v0, v1], .string (Pa.mk p)] w (SortedA (insN nm (if p = [47] then [] else p)) w) := by
  obtain ⟨A0, o0, c0, rfl, hm0, hA0, hc0⟩ := nm_cells hV
  obtain ⟨hf0, hx0⟩ := box_fr w (.slice A0 nm.length c0) v1
  have HI0 : Hid (WaI w (w.alloc (.cells #[.slice A0 nm.length c0, v1] 28)) (.slice A0 nm.length c0) v1 (.slice none 0 0) []) := ⟨hx0, OwnR.nil, hf0⟩
  have HA0 := Lib.hid hA0
  have HC0 := Lib.hid hc0
  have HBND := Lib.hid hb
  have hcase : ((Pa.mk p).toList == [47]) = decide (p = [47]) := by
    rw [mk_toList]
    by_cases h : p = [47]
    · rw [h]; rfl
    · rw [decide_eq_false h]; exact beq_eq_false_iff_ne.2 h
  obtain ⟨q, hq⟩ : ∃ q, (if p = [47] then [] else p) = q := ⟨_, rfl⟩
  rw [hq]
  have hql : q.length ≤ 1000 := by
    rw [← hq]
    split
    · simp
    · exact hp
  clear hV hA0 hc0 hb hf0 hx0
  go_enter Tryz.func18, Tryz.ntmps18
  go_upto_region 1 with (fail)
  generalize w.alloc (.cells #[.slice A0 nm.length c0, v1] 28) = w1 at *
  by_cases h47 : p = [47]
  all_goals
    first
      | (rw [if_pos h47] at hq)
      | (rw [if_neg h47] at hq)
    first
      | (rw [decide_eq_true h47] at hcase; have HEM : Hid ((⟨#[]⟩ : ByteArray) = Pa.mk q) := (by show _ = _; rw [← hq]; rfl))
      | (rw [decide_eq_false h47] at hcase; rw [hq] at hcase ⊢)
    clear h47 hq
    go_wp2_with fail
    try (rw [HEM.out])
    clear hcase
    go_loopw [6, 7] (fun ov kv wr => ∃ k n : Nat, k ≤ nm.length ∧ kv = .int .i64 k ∧ ∃ Ao co, ov = .slice Ao n co ∧ Hid ((insN (nm.take k) q).length = n) ∧ Hid (WaI w wr (.slice A0 nm.length c0) v1 ov (insN (nm.take k) q))) (fun _ kv _ => nm.length - (intOf kv).toNat)
    case atStart => exact ⟨0, 0, Nat.zero_le _, rfl, none, 0, rfl, rfl, HI0⟩
    case round =>
      clear HI0
      obtain ⟨k, n, hk, rfl, Ao, co, rfl, hLn, hI⟩ := hrel
      have k0 : (0 : Int) ≤ k := by omega
      have kw : IntKind.i64.wrap ((k : Int) + 1) = (k : Int) + 1 := by rw [IntKind.wrap_i64]; omega
      have x0 := hI.out.x.cells.1
      by_cases hlt : k < nm.length
      · have i1 : (k : Int) < nm.length := by omega
        obtain rfl := HA0.out (by omega)
        have hb2 := HBND.out _ (List.getElem_mem hlt)
        have ca := hI.out.fr.cell (HC0.out k hlt).1 (by simp)
        have HS := Lib.hid (insN_succ hlt q)
        generalize nm[k].1 = x at *
        obtain ⟨L, hL⟩ : ∃ L, insN (nm.take k) q = L := ⟨_, rfl⟩
        have hnk : L.length ≤ nm.length := by
          rw [← hL]
          exact Nat.le_trans (insN_len _ _) (by rw [List.length_take]; omega)
        rw [hL] at HS hI hLn
        have HBG := Lib.hid (fun W => m_begins x q W (by omega) (by omega))
        have HSX := Lib.hid (fun W => m_slashes x W (by omega))
        have HSQ := Lib.hid (fun W => m_slashes q W (by omega))
        have hlo : L.length < 1000000 := by omega
        clear hL hnk
        cases hbg : Tr.beg x q with
        | false =>
          rw [hbg] at HBG
          have HN : Hid (insN (nm.take (k + 1)) q = L) := by
            show _ = _
            rw [HS.out, if_neg (by unfold insF; rw [hbg]; simp), List.append_nil]
          clear hbg HS hb2
          generalize Pa.mk x = mx at *
          generalize Pa.mk q = mq at *
          go_wp2_with (go_at_call 23; (with_reducible refine useC (HBG.out _) ?_); rintro e w2 ⟨rfl, rfl⟩)
          go_roundw
          case rel => exact ⟨k + 1, n, by omega, by go_num, Ao, co, rfl, by rw [HN.out]; exact hLn, by rw [HN.out]; exact hI⟩
          case measure => (simp [intOf]; try omega)
        | true =>
          rw [hbg] at HBG
          have hsq : Tr.slN q ≤ 1000 := Nat.le_trans (slN_le q) hql
          have hsx : Tr.slN x ≤ 1000 := Nat.le_trans (slN_le x) hb2
          obtain ⟨r, hr⟩ := (Tr.beg_iff x q).1 hbg
          have hlen := congrArg List.length hr
          rw [List.length_append, List.length_cons] at hlen
          by_cases hsl : Tr.slN x = Tr.slN q + 1
          · have HN : Hid (insN (nm.take (k + 1)) q = L ++ [x.drop (q.length + 1)]) := by
              show _ = _
              rw [HS.out, if_pos (by unfold insF; rw [hbg, hsl]; simp)]
            rw [hsl] at HSX
            obtain ⟨sx, hsx'⟩ : ∃ n : Nat, Tr.slN q = n := ⟨_, rfl⟩
            rw [hsx'] at HSX HSQ hsq
            have zx := Pa.mk_size x
            have zq := Pa.mk_size q
            obtain ⟨j, hj⟩ : ∃ j : Nat, j = q.length + 1 := ⟨_, rfl⟩
            have j1 : ((Pa.mk q).size : Int) + 1 = j := by omega
            have j2 : IntKind.i64.wrap (j : Int) = j := by rw [IntKind.wrap_i64]; omega
            have j0 : (0 : Int) ≤ j := by omega
            have j3 : (j : Int) ≤ (Pa.mk x).size := by omega
            have he : (Pa.mk x).extract j (Pa.mk x).size = Pa.mk (x.drop j) := by rw [zx]; exact mk_drop x j
            have w3 : IntKind.i64.wrap ((sx : Int) + 1) = (sx : Int) + 1 := by rw [IntKind.wrap_i64]; omega
            have w4 : ((sx + 1 : Nat) : Int) = (sx : Int) + 1 := by omega
            rw [w4] at HSX
            rw [← hj] at HN
            have hws : Hid (w.heap.size + 1 ≤ wr.heap.size) := by show _ ≤ _; exact lt_of_heap hI.out.x
            clear hbg HS hb2 hsl hsx hsx' hr hlen hj zx zq w4
            generalize x.drop j = y at *
            generalize Pa.mk x = mx at *
            generalize Pa.mk q = mq at *
            go_wp2_with (first
              | (go_at_call 23; (with_reducible refine useC (HBG.out _) ?_); rintro e w2 ⟨rfl, rfl⟩)
              | (have h' := HSX; go_at_call 25; (with_reducible refine useC (HSX.out _) ?_); rintro e w2 ⟨rfl, rfl⟩; clear h' HSX)
              | (go_at_call 25; (with_reducible refine useC (HSQ.out _) ?_); rintro e w2 ⟨rfl, rfl⟩)
              | (at_builtin; have HO := hI.out.own; refine wpList_push_enc (E := strE) (wr := w2) (y := y) Tryz.underlying30 info_str rfl (by decide) rfl _ _ rfl (w.heap.size + 1) (.slice Ao n co) L rfl rfl HO rfl hlo hws.out ?_; intro v6 w6 h1 h2 h3; obtain ⟨A6, c6, hv6⟩ := h1.form0; subst hv6; have HN6 := Lib.hid (hI.out.push h1 h3); clear h1 h2 h3 HO))
            go_roundw
            case rel => exact ⟨k + 1, n + 1, by omega, by go_num, A6, c6, by rw [hLn.out], by show _ = _; rw [HN.out, List.length_append, hLn.out]; rfl, by rw [HN.out]; simpa using HN6⟩
            case measure => (simp [intOf]; try omega)
          · have HN : Hid (insN (nm.take (k + 1)) q = L) := by
              show _ = _
              rw [HS.out, if_neg (by unfold insF; rw [hbg]; simpa using hsl), List.append_nil]
            have w3 : IntKind.i64.wrap ((Tr.slN q : Int) + 1) = (Tr.slN q : Int) + 1 := by rw [IntKind.wrap_i64]; omega
            have hs2 : ((Tr.slN x : Int) == (Tr.slN q : Int) + 1) = false := beq_eq_false_iff_ne.2 (by omega)
            clear hbg HS hb2 hsl hr hlen
            generalize Tr.slN x = sx at *
            generalize Tr.slN q = sq at *
            generalize Pa.mk x = mx at *
            generalize Pa.mk q = mq at *
            go_wp2_with (first
              | (go_at_call 23; (with_reducible refine useC (HBG.out _) ?_); rintro e w2 ⟨rfl, rfl⟩)
              | (have h' := HSX; go_at_call 25; (with_reducible refine useC (HSX.out _) ?_); rintro e w2 ⟨rfl, rfl⟩; clear h' HSX)
              | (go_at_call 25; (with_reducible refine useC (HSQ.out _) ?_); rintro e w2 ⟨rfl, rfl⟩))
            go_roundw
            case rel => exact ⟨k + 1, n, by omega, by go_num, Ao, co, rfl, by rw [HN.out]; exact hLn, by rw [HN.out]; exact hI⟩
            case measure => (simp [intOf]; try omega)
      · have i1 : ¬ (k : Int) < nm.length := by omega
        obtain rfl : k = nm.length := by omega
        obtain ⟨go, hgo, hso⟩ := hI.out.own.sl
        have hall : nm.take nm.length = nm := List.take_length
        rw [hall] at hso
        have HCS := Lib.hid (m_Sorted wr _ go (insN nm q) hso (Nat.le_trans (insN_len nm q) hl))
        have HFR := Lib.hid hI.out.fr
        clear hall hgo hso
        go_wp2_with (go_at_call 35; (with_reducible refine useC HCS.out ?_); rintro e w2 ⟨v9, g9, l9, rfl, h1, h2, h3, h4, hf⟩; have HR := Lib.hid (And.intro h1 (And.intro h2 (And.intro h3 h4))); have HF2 := Lib.hid hf; clear h1 h2 h3 h4 hf)
        go_ret
        obtain ⟨h1, h2, h3, h4⟩ := HR.out
        exact ⟨_, g9, l9, rfl, h1.imp (fun h => Nat.le_trans HFR.out.size h) id, h2, h3, h4, HFR.out.trans HF2.out⟩
end Go.Proofs.YtnglhfeialomgaaGreatDoor

/- What both trees tell is the same: paths, counts, names in a directory. In plain Lean. -/
namespace Go.Proofs.YtnglhfeialomgaaGreatDoor
namespace Tr
theorem le_lt {l : List (List UInt8)} (h : l.Pairwise (· ≤ ·)) (hn : l.Nodup) : l.Pairwise (· < ·) :=
  (h.and hn).imp (fun {a b} ⟨p, q⟩ => by
    rcases Decidable.em (a < b) with h | h
    · exact h
    · exact absurd (List.le_antisymm p (List.not_lt.1 h)) q)
section
variable {g : G} {dom : Nat → Prop} {ns : Nl} {ths : List Nat} {T : RT}
theorem Rf.walkL (h : Rf g dom ns ths T) : walkL T = ns.map (fun e => txt g e.1 e.2) := by
  unfold Go.Proofs.YtnglhfeialomgaaGreatDoor.walkL
  rw [h.nm, List.map_map]
  refine List.map_congr_left fun e he => ?_
  obtain ⟨hi, hd⟩ := h.dirAt (h.all e he)
  show Pa.shown e.1 ++ (if T.dirs.getD (ths.idxOf e.2) false = true then [47] else []) = txt g e.1 e.2
  rw [List.getD_eq_getElem?_getD, List.getElem?_eq_getElem hi, hd]
  rfl
theorem Rf.walk (h : Rf g dom ns ths T) (hO : OK g) {l l' : List (List UInt8)} (hw : WalkIs g l) (hp : l'.Perm (Go.Proofs.YtnglhfeialomgaaGreatDoor.walkL T)) (hs : l'.Pairwise (· ≤ ·)) : l' = l := by
  have hpt : ∀ e ∈ ns, Pa.parts (txt g e.1 e.2) = (e.1, 0) := fun e he => by
    obtain ⟨h1, -, h3⟩ := h.way hO (p := e.1) (c := e.2) he
    exact parts_txt h1.1 h1.2 _
  have hnd : (Go.Proofs.YtnglhfeialomgaaGreatDoor.walkL T).Nodup := by
    rw [h.walkL]
    refine List.pairwise_map.2 ((List.pairwise_map.1 h.nk.nodup).imp_of_mem fun {a b} ha hb hne e => hne ?_)
    have h1 := hpt a ha
    rw [e, hpt b hb] at h1
    exact (Prod.mk.inj h1).1.symm
  refine lt_eq (le_lt hs (hp.nodup_iff.2 hnd)) hw.1 (fun s => ?_)
  rw [hp.mem_iff, hw.2, h.walkL, List.mem_map]
  constructor
  · rintro ⟨e, he, rfl⟩
    obtain ⟨-, h2, h3⟩ := h.way hO (p := e.1) (c := e.2) he
    exact ⟨e.1, e.2, h2, h3, rfl⟩
  · rintro ⟨p, c, hpn, hf, rfl⟩
    exact ⟨(p, c), (h.nk.mem p c).2 ⟨hpn, hf⟩, rfl⟩
theorem idx_inj {ths : List Nat} {a b : Nat} (ha : a ∈ ths) (hb : b ∈ ths) (h : ths.idxOf a = ths.idxOf b) : a = b := by
  have h1 := List.getElem_idxOf (List.idxOf_lt_length_of_mem ha)
  have h2 := List.getElem_idxOf (List.idxOf_lt_length_of_mem hb)
  apply Option.some.inj
  have e1 : ths[ths.idxOf a]? = some a := by rw [List.getElem?_eq_getElem (List.idxOf_lt_length_of_mem ha), h1]
  have e2 : ths[ths.idxOf b]? = some b := by rw [List.getElem?_eq_getElem (List.idxOf_lt_length_of_mem hb), h2]
  rw [← e1, ← e2, h]
theorem Rf.many (h : Rf g dom ns ths T) {c : Nat} (hc : c ∈ ths) : (manyT T.nm (ths.idxOf c) : Int) = g.nms c := by
  unfold manyT
  rw [h.nk.cnt c, h.nm, List.filter_map, List.length_map]
  congr 2
  refine List.filter_congr fun e he => ?_
  show (ths.idxOf e.2 == ths.idxOf c) = (e.2 == c)
  by_cases e1 : e.2 = c
  · rw [e1]; simp
  · rw [beq_eq_false_iff_ne.2 e1, beq_eq_false_iff_ne.2 (fun e2 => e1 (idx_inj (h.all e he) hc e2))]
/-- The text ahead of a directory's names. -/
def inQ (p : List Nme) : List UInt8 := if Pa.shown p = [47] then [] else Pa.shown p
theorem inQ_at {p : List Nme} (hp : Nms p) : atT p = inQ p ++ [47] := by
  unfold inQ atT
  by_cases h : p = []
  · subst h; rfl
  · rw [if_neg (show ¬ Pa.shown p = [47] from fun e => h (shown_inj hp Nms.nil e)), shown_cons h]
theorem ins_way {p Q : List Nme} (hp : Nms p) (hQ : Nms Q) (hn : Q ≠ []) : insF (inQ p) (Pa.shown Q) = true ↔ ∃ y, Q = p ++ [y] := by
  unfold insF
  rw [Bool.and_eq_true]
  by_cases h : p = []
  · subst h
    have hq : inQ [] = [] := rfl
    rw [hq, slN_shown hQ.1 hn]
    have hb : beg (Pa.shown Q) [] = true := (beg_iff _ _).2 ⟨(Pa.shown Q).tail, Pa.head_tail (Pa.shown_head Q)⟩
    constructor
    · rintro ⟨-, h2⟩
      have h2 : Q.length = 1 := by simpa [slN] using h2
      match Q, h2 with
      | [y], _ => exact ⟨y, rfl⟩
    · rintro ⟨y, rfl⟩
      exact ⟨hb, by simp [slN]⟩
  · have hq : inQ p = Pa.shown p := if_neg (fun e => h (shown_inj hp Nms.nil e))
    rw [hq, slN_shown hQ.1 hn, slN_shown hp.1 h, beg_way hp.1 hQ.1 h]
    constructor
    · rintro ⟨⟨y, r, rfl⟩, h2⟩
      have h2 : (p ++ y :: r).length = p.length + 1 := by simpa using h2
      rw [List.length_append, List.length_cons] at h2
      have : r = [] := List.eq_nil_of_length_eq_zero (by omega)
      exact ⟨y, by rw [this]⟩
    · rintro ⟨y, rfl⟩
      exact ⟨⟨y, [], rfl⟩, by simp⟩
theorem ins_drop {p : List Nme} (hp : Nms p) (y : Nme) : (Pa.shown (p ++ [y])).drop ((inQ p).length + 1) = y := by
  rw [shown_snoc, inQ_at hp]
  have : (inQ p).length + 1 = (inQ p ++ [47]).length := by simp
  rw [this, List.drop_left]
theorem Rf.inside (h : Rf g dom ns ths T) (hO : OK g) {p : List Nme} {d : Nat} {m : Nme → Option Nat} (hp : Nms p) (hf : fnd g g.root p = .ok d) (hm : g.ent d = some m) {l l' : List (List UInt8)} (hl : l.Pairwise (· < ·)) (hx : ∀ x, x ∈ l ↔ (m x).isSome = true) (hperm : l'.Perm (insN T.nm (inQ p))) (hs : l'.Pairwise (· ≤ ·)) : l' = l := by
  have hins : insN T.nm (inQ p) = (ns.filter (fun e => insF (inQ p) (Pa.shown e.1))).map (fun e => (Pa.shown e.1).drop ((inQ p).length + 1)) := by
    unfold insN
    rw [h.nm, List.filter_map, List.map_map]
    rfl
  have hat : ∀ e ∈ ns.filter (fun e => insF (inQ p) (Pa.shown e.1)), ∃ y, e.1 = p ++ [y] ∧ (Pa.shown e.1).drop ((inQ p).length + 1) = y := fun e he => by
    obtain ⟨h1, h2⟩ := List.mem_filter.1 he
    obtain ⟨q1, q2, -⟩ := h.way hO (p := e.1) (c := e.2) h1
    obtain ⟨y, hy⟩ := (ins_way hp q1 q2).1 h2
    exact ⟨y, hy, by rw [hy]; exact ins_drop hp y⟩
  have hnd : (insN T.nm (inQ p)).Nodup := by
    rw [hins]
    refine List.pairwise_map.2 ?_
    have h0 : (ns.filter (fun e => insF (inQ p) (Pa.shown e.1))).Pairwise (fun a b => a.1 ≠ b.1) := (List.pairwise_map.1 h.nk.nodup).sublist List.filter_sublist
    refine h0.imp_of_mem fun {a b} ha hb hne e => hne ?_
    obtain ⟨y, hy1, hy2⟩ := hat a ha
    obtain ⟨z, hz1, hz2⟩ := hat b hb
    rw [hy2, hz2] at e
    rw [hy1, hz1, e]
  refine lt_eq (le_lt hs (hperm.nodup_iff.2 hnd)) hl (fun s => ?_)
  rw [hperm.mem_iff, hx, hins, List.mem_map]
  constructor
  · rintro ⟨e, he, rfl⟩
    obtain ⟨y, hy1, hy2⟩ := hat e he
    rw [hy2]
    obtain ⟨-, -, h3⟩ := h.way hO (p := e.1) (c := e.2) (List.mem_filter.1 he).1
    rw [hy1, fnd_app_ok hf, fnd_cons, hm] at h3
    have h3 : (match m y with | none => Rs.err 5 | some c => fnd g c []) = .ok e.2 := h3
    cases hmy : m y with
    | none => rw [hmy] at h3; cases h3
    | some c => rfl
  · intro hms
    obtain ⟨c, hc⟩ := Option.isSome_iff_exists.1 hms
    have hfs : fnd g g.root (p ++ [s]) = .ok c := by
      rw [fnd_app_ok hf, fnd_cons, hm]
      show (match m s with | none => Rs.err 5 | some c => fnd g c []) = _
      rw [hc]; rfl
    have hmem : (p ++ [s], c) ∈ ns := (h.nk.mem _ c).2 ⟨by simp, hfs⟩
    exact ⟨(p ++ [s], c), List.mem_filter.2 ⟨hmem, (ins_way hp (h.way hO hmem).1 (by simp)).2 ⟨s, rfl⟩⟩, ins_drop hp s⟩
theorem Rf.bound (h : Rf g dom ns ths T) (hO : OK g) : ∀ e ∈ T.nm, e.2 < T.dirs.length ∧ e.1.length ≤ 1000 := fun e he => by
  rw [h.nm] at he
  obtain ⟨⟨p, c⟩, hm, rfl⟩ := List.mem_map.1 he
  obtain ⟨hp, -, -⟩ := h.way hO hm
  have h1 := List.idxOf_lt_length_of_mem (h.all _ hm)
  refine ⟨by rw [h.dirs, List.length_map]; exact h1, ?_⟩
  have := shown_len hp.1 hp.2
  show (Pa.shown p).length ≤ 1000
  omega
theorem Rf.start (n m : Nat) : Rf (G.new n m) (· = n) [] [n] ⟨[], [true]⟩ := by
  have hr : (Tr.G.new n m).ent n = some (fun _ => none) := if_pos rfl
  refine ⟨Ns.new n m, rfl, ?_, ⟨by show [n].idxOf n = 0; simp, by show n ∈ [n]; simp⟩, by simp, by simp, by simp⟩
  show [true] = [((G.new n m).ent n).isSome]
  rw [hr]; rfl
end
end Tr
end Go.Proofs.YtnglhfeialomgaaGreatDoor

/- Both trees side by side, round by round. -/
namespace Go.Proofs.YtnglhfeialomgaaGreatDoor
open Go.RowKit

theorem slE_frP {α : Type} {E : Enc α} {P : Nat → Prop} {w w' : World} {v : Value} {g : Nat} {l : List α} (h : SlR E w v g l) (hf : FrP P w w') (hg : l = [] ∨ ¬ P g) : SlR E w' v g l := by
  rcases h with h | ⟨o, c, h0, h1, h2, h3⟩
  · exact .inl h
  · rcases hg with rfl | hg
    · exact .inr ⟨o, c, h0, h1, h2, fun i hi => absurd hi (by simp)⟩
    · exact .inr ⟨o, c, h0, h1, h2, fun i hi r hr => by
        have h4 := h3 i hi r hr
        have h5 : ∃ x, w.cell? ⟨g, o + i * E.k + r, none⟩ = some x := ⟨_, h4.trans (List.getElem?_eq_getElem (by rw [E.len]; exact hr))⟩
        obtain ⟨x, hx⟩ := h5
        exact (hf.cell hx hg).trans (hx.symm.trans h4)⟩
/-- The program's tree (graph g), the document's list T beside it; what variable X says is T'. -/
structure TpI (w wr : World) (tb K : Nat) (g : Tr.G) (dom : Nat → Prop) (ns : Tr.Nl) (ths : List Nat) (T : Tr.RT) (X : Nat) (v0 v1 : Value) (g0 g1 : Nat) (T' : Tr.RT) (n : Nat) : Prop where
  tr : TrL w wr tb g dom K
  rf : Tr.Rf g dom ns ths T
  len : ths.length ≤ n
  box : TpX wr X v0 v1
  v : TpV wr v0 v1 g0 g1 T'
  nx : ¬ TrP tb g dom X
  n0 : T'.nm = [] ∨ (g0 ≠ X ∧ ¬ TrP tb g dom g0)
  n1 : T'.dirs = [] ∨ (g1 ≠ X ∧ ¬ TrP tb g dom g1)
  ge : w.heap.size ≤ X
section
variable {w wr wr' : World} {tb K n : Nat} {g : Tr.G} {dom : Nat → Prop} {ns : Tr.Nl} {ths : List Nat} {T T' T2 : Tr.RT} {X g0 g1 : Nat} {v0 v1 : Value}
theorem TpI.step (h : TpI w wr tb K g dom ns ths T X v0 v1 g0 g1 T' n) (hf : Fr [] wr wr') : TpI w wr' tb K g dom ns ths T X v0 v1 g0 g1 T' n := ⟨h.tr.step hf, h.rf, h.len, h.box.step hf, h.v.step hf, h.nx, h.n0, h.n1, h.ge⟩
theorem TpI.cells (h : TpI w wr tb K g dom ns ths T X v0 v1 g0 g1 T' n) : (wr.cell? ⟨X, 0, none⟩ = some v0 ∧ wr.cell? ⟨X, 1, none⟩ = some v1) ∧ (∀ k, wr.frozen? ⟨X, k, none⟩ = false) := ⟨h.box.cells, fun k => free_block h.box k none⟩
theorem TpI.fr (h : TpI w wr tb K g dom ns ths T X v0 v1 g0 g1 T' n) : Fr [] w wr := h.tr.fr
theorem TpI.fresh (h : TpI w wr tb K g dom ns ths T X v0 v1 g0 g1 T' n) : ∃ g0 g1, TpI w wr tb K g dom ns ths T X v0 v1 g0 g1 T' n ∧ (g0 ≠ X ∧ ¬ TrP tb g dom g0) ∧ (g1 ≠ X ∧ ¬ TrP tb g dom g1) := by
  have hX : X < wr.heap.size := lt_of_heap h.box
  have hz : wr.heap.size ≠ X ∧ ¬ TrP tb g dom wr.heap.size := ⟨by omega, fun k => by have := h.tr.s.lt k; omega⟩
  rcases h.n0 with e0 | e0 <;> rcases h.n1 with e1 | e1
  · exact ⟨_, _, ⟨h.tr, h.rf, h.len, h.box, ⟨slE_any h.v.nm e0 wr.heap.size, slE_any h.v.dirs e1 wr.heap.size⟩, h.nx, .inr hz, .inr hz, h.ge⟩, hz, hz⟩
  · exact ⟨_, _, ⟨h.tr, h.rf, h.len, h.box, ⟨slE_any h.v.nm e0 wr.heap.size, h.v.dirs⟩, h.nx, .inr hz, .inr e1, h.ge⟩, hz, e1⟩
  · exact ⟨_, _, ⟨h.tr, h.rf, h.len, h.box, ⟨h.v.nm, slE_any h.v.dirs e1 wr.heap.size⟩, h.nx, .inr e0, .inr hz, h.ge⟩, e0, hz⟩
  · exact ⟨_, _, h, e0, e1⟩
/-- The document's step, laid into x. -/
theorem TpI.put (h : TpI w wr tb K g dom ns ths T X v0 v1 g0 g1 T n) {w2 : World} {u0 u1 : Value} {h0 h1 : Nat} (hV : TpV w2 u0 u1 h0 h1 T2) (ha : Apt wr g0 h0 T2.nm) (hb : Apt wr g1 h1 T2.dirs) (hf : Fr [] wr w2) (s0 : g0 ≠ X ∧ ¬ TrP tb g dom g0) (s1 : g1 ≠ X ∧ ¬ TrP tb g dom g1) :
    TpI w ((w2.setCell ⟨X, 0, none⟩ u0).setCell ⟨X, 1, none⟩ u1) tb K g dom ns ths T X u0 u1 h0 h1 T2 n := by
  have hX : X < wr.heap.size := lt_of_heap h.box
  have hf2 : Fr [X] w2 ((w2.setCell ⟨X, 0, none⟩ u0).setCell ⟨X, 1, none⟩ u1) := ((Fr.refl _ w2).setCell (.inl (by simp)) _).setCell (.inl (by simp)) _
  have q0 : T2.nm = [] ∨ (h0 ≠ X ∧ ¬ TrP tb g dom h0) := by
    rcases ha with e | e | e
    · exact .inr (by rw [e]; exact s0)
    · exact .inr ⟨by omega, fun k => by have := h.tr.s.lt k; omega⟩
    · exact .inl e
  have q1 : T2.dirs = [] ∨ (h1 ≠ X ∧ ¬ TrP tb g dom h1) := by
    rcases hb with e | e | e
    · exact .inr (by rw [e]; exact s1)
    · exact .inr ⟨by omega, fun k => by have := h.tr.s.lt k; omega⟩
    · exact .inl e
  have b2 : TpX w2 X v0 v1 := h.box.step hf
  have b3 : TpX (w2.setCell ⟨X, 0, none⟩ u0) X u0 v1 := set_block b2 _
  have hP : FrP (fun k => k = X) w2 ((w2.setCell ⟨X, 0, none⟩ u0).setCell ⟨X, 1, none⟩ u1) := (FrP.refl _ w2).step hf2 (fun x hx => .inl (by simpa using hx))
  have ht := h.tr.step hf
  exact ⟨⟨ht.s.frP hP (fun k hk e => h.nx (e ▸ hk)), ht.cn, ht.lo, ht.fr.step hf2 (fun y hy => .inr (by simp only [List.mem_singleton] at hy; subst hy; exact h.ge))⟩, h.rf, h.len, set_block b3 _, ⟨slE_frP hV.nm hP (q0.imp id (fun k => k.1)), slE_frP hV.dirs hP (q1.imp id (fun k => k.1))⟩, h.nx, q0, q1, h.ge⟩
/-- The program's step. -/
theorem TpI.turn (h : TpI w wr tb K g dom ns ths T X v0 v1 g0 g1 T' n) {c : Int} {e : Ending} {w' : World} (ha : StepA w tb K g dom T' c n wr e w') :
    e = .returned (errV c) ∧ ∃ g' dom' ns' ths', TpI w w' tb (K + 2) g' dom' ns' ths' T' X v0 v1 g0 g1 T' (n + 1) := by
  obtain ⟨he, g', dom', ns', ths', hL, hR, hf, hp, hl⟩ := ha
  have hX : X < wr.heap.size := lt_of_heap h.box
  refine ⟨he, g', dom', ns', ths', hL, hR, hl, (hf.block X hX h.nx).trans h.box, ⟨slE_frP h.v.nm hf (h.n0.imp id (fun k => k.2)), slE_frP h.v.dirs hf (h.n1.imp id (fun k => k.2))⟩, fun k => ?_, ?_, ?_, h.ge⟩
  · rcases hp _ k with q | q
    · exact h.nx q
    · omega
  · by_cases hn : T'.nm = []
    · exact .inl hn
    · rcases h.n0 with k | k
      · exact absurd k hn
      · refine .inr ⟨k.1, fun q => ?_⟩
        have := slE_lt h.v.nm hn
        rcases hp _ q with q | q
        · exact k.2 q
        · omega
  · by_cases hn : T'.dirs = []
    · exact .inl hn
    · rcases h.n1 with k | k
      · exact absurd k hn
      · refine .inr ⟨k.1, fun q => ?_⟩
        have := slE_lt h.v.dirs hn
        rcases hp _ q with q | q
        · exact k.2 q
        · omega
theorem TpI.start {w1 w2 : World} {a m : Nat} (hL : TrL w w1 tb (Tr.G.new a m) (· = a) 0) (hV : TpV w2 v0 v1 g1 g1 ⟨[], [true]⟩) (hg : w1.heap.size ≤ g1) (hf : Fr [] w1 w2) :
    TpI w (w2.alloc (.cells #[v0, v1] 28)) tb 0 (Tr.G.new a m) (· = a) [] [a] ⟨[], [true]⟩ w2.heap.size v0 v1 g1 g1 ⟨[], [true]⟩ 1 := by
  have hk : ∀ k, TrP tb (Tr.G.new a m) (· = a) k → k < w1.heap.size := fun k h => hL.s.lt h
  have h1 := slE_lt hV.dirs (by simp)
  have hs := hf.size
  have hfa : Fr [] w2 (w2.alloc (.cells #[v0, v1] 28)) := (Fr.refl [] w2).alloc _
  exact ⟨(hL.step hf).step hfa, Tr.Rf.start a m, by simp, heap_alloc_new w2 _, hV.step hfa, fun k => by have := hk _ k; omega, .inl rfl, .inr ⟨by omega, fun k => by have := hk _ k; omega⟩, by have := hL.fr.size; omega⟩
theorem StepA.drew {W : World} {c : Int} {e : Ending} {w' : World} (h : StepA w tb K g dom T' c n W.drew e w') : StepA w tb K g dom T' c n W e w' := by
  obtain ⟨he, g', dom', ns', ths', hL, hR, hf, hp, hl⟩ := h
  exact ⟨he, g', dom', ns', ths', hL, hR, ((FrP.refl _ W).step ((Fr.refl [] W).drew) (by simp)).trans hf (fun x hx => .inl hx), hp, hl⟩
end
end Go.Proofs.YtnglhfeialomgaaGreatDoor
