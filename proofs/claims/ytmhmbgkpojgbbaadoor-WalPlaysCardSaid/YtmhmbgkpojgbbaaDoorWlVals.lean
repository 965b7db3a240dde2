/- The contract of package wal's Values. -/
import Derived.Test.YtmhmbgkpojgbbaaDoorWlDel
import Derived.Test.YtmhmbgkpojgbbaaDoorCClone
namespace Go.Proofs.YtmhmbgkpojgbbaaDoor
open Go.RowKit

/-- Integers as elements of one cell. -/
def enI : Enc Int where
  k := 1
  enc := fun x => [.int .i64 x]
  len := fun _ => rfl
  one := fun a v hv => by
    simp only [List.mem_cons, List.not_mem_nil, or_false] at hv
    subst hv; rfl
  pos := by decide
theorem enI_cells (l : List Int) : enI.cells l = l.map (Value.int .i64) := by
  unfold Enc.cells enI
  induction l with
  | nil => rfl
  | cons x l ih => rw [List.flatMap_cons, ih]; rfl
/-- A row of the call's own, in block g. -/
structure IntB (w : World) (B g c : Nat) (xs : List Int) : Prop where
  own : OwnR enI w B 3 (.slice (some ⟨g, 0, none⟩) xs.length c) xs
  ge : B ≤ g
  lt : g < w.heap.size
  free : ∀ i, w.frozen? ⟨g, i, none⟩ = false
  cell : ∀ i, i < xs.length → w.cell? ⟨g, i, none⟩ = some (.int .i64 (nth xs i))
  room : xs.length ≤ c ∧ c ≤ maxLen
theorem IntB.of {w : World} {B g c : Nat} {xs : List Int} (h : OwnR enI w B 3 (.slice (some ⟨g, 0, none⟩) xs.length c) xs) : IntB w B g c xs := by
  have hge := h.ge g rfl
  have h' := h
  obtain ⟨_, h2⟩ := h'
  rcases h2 with ⟨e, _⟩ | ⟨g', cap, cur, e, hb, hg, hc, hm, hs, ht⟩
  · cases e
  · injection e with e1 e2 e3
    injection e1 with e1
    injection e1 with e1 _ _
    subst e1 e3
    refine ⟨h, hge.1, hge.2, fun i => free_block hg i none, fun i hi => ?_, ⟨hc, hm⟩⟩
    rw [cell_of_row w g i cur _ _ hg]
    rw [enI_cells] at ht
    have h1 : cur.toList[i]? = (xs.map (Value.int .i64))[i]? := by
      rw [← ht, List.getElem?_take, if_pos (by show i < xs.length * 1; omega)]
    simpa [hi, nth, List.getD] using h1
theorem IntB.put {w : World} {B g c : Nat} {xs : List Int} (h : IntB w B g c xs) {i : Nat} (hi : i < xs.length) (x : Int) : IntB (w.setCell ⟨g, i, none⟩ (.int .i64 x)) B g c (xs.set i x) := by
  have := h.own.setCell rfl i 0 hi (by decide) x (.int .i64 x) rfl
  rw [show i * enI.k + 0 = i by show i * 1 + 0 = i; omega] at this
  refine IntB.of ?_
  rw [List.length_set]
  exact this
theorem IntB.fr {w w' : World} {B g c : Nat} {xs : List Int} (h : IntB w B g c xs) (hf : Fr [] w w') : IntB w' B g c xs := IntB.of (h.own.kept hf (by simp))
theorem IntB.sl {w : World} {B g c : Nat} {xs : List Int} (h : IntB w B g c xs) : Sl w (.slice (some ⟨g, 0, none⟩) xs.length c) g xs := .inr ⟨0, c, rfl, h.room.1, h.room.2, fun i hi => by rw [Nat.zero_add]; exact h.cell i hi⟩
/-- slices.Clone hands back a row of its own. -/
theorem clone_own (w : World) (g o c : Nat) (xs : List Int) (hc : ∀ i, i < xs.length → w.cell? ⟨g, o + i, none⟩ = some (.int .i64 (nth xs i))) (h0 : 0 < xs.length) (hb : xs.length ≤ 1000000) :
    Calls Tryd.prog 43 #[.slice (some ⟨g, o, none⟩) xs.length c] w fun e w' => ∃ g' c', e = .returned (.slice (some ⟨g', 0, none⟩) xs.length c') ∧ IntB w' w.heap.size g' c' xs ∧ Fr [] w w' := by
  obtain ⟨i0, hi, hz0, hz1, hz2⟩ := info_parts Tryd.info_int
  have hnil := fun W => Lib.run_eql_slice_nil (P := Tryd.prog) W 25 3 (some ⟨g, o, none⟩) xs.length c 0 0 Tryd.underlying25
  have hown := World.ownsRow_made (base := w.heap.size) (e := 3) (size := 1) w #[] 0 (Nat.le_refl _) (Nat.zero_le _) rfl
  have H3 := Lib.hid hc
  clear hc
  go_enter Tryd.func43, Tryd.ntmps43
  go_wp2_with (at_builtin; refine wpList_append_own _ rfl _ _ 25 rfl w.heap.size 3 i0 (.int .i64 0) 1 8 Tryd.underlying25 hi hz0 hz1 hz2 rfl (by decide) _ _ _ rfl hown ⟨g, o, none⟩ xs.length c (xs.map (Value.int .i64)) rfl (by simp) ?c1 ?c2 ?c3 ?c4 ?c5 ?_)
  case c1 =>
    intro j u hu
    have hj : j < xs.length := by simpa using (List.getElem?_eq_some_iff.1 hu).1
    rw [Addr.add_lit]
    have := H3.out j hj
    simp [hj] at hu
    rw [cell?_alloc_old _ this, ← hu]
    simp [nth, List.getD, hj]
  case c2 => exact ints_one (l := xs)
  case c3 => unfold maxLen; omega
  case c4 => omega
  case c5 => simp
  intro v' w1 hown1 hgr _
  have H5 := Lib.hid (((Fr.refl [] w).alloc (.cells #[] 3)).grown hgr (by simp [Value.ownBlock]))
  have hO : w1.ownsRow w.heap.size 3 1 v' xs.length (xs.map (Value.int .i64)) := by simpa using hown1
  have hO' : OwnR enI w1 w.heap.size 3 v' xs := by
    unfold OwnR
    rw [enI_cells]
    exact hO
  obtain ⟨g', c', rfl⟩ : ∃ g' c', v' = .slice (some ⟨g', 0, none⟩) xs.length c' := by
    obtain ⟨_, h2⟩ := hO
    rcases h2 with ⟨_, hn⟩ | ⟨gg, cap, cur, rfl, _⟩
    · omega
    · exact ⟨gg, cap, rfl⟩
  have H6 := Lib.hid (IntB.of hO')
  clear hown1 hgr hown hnil hO hO'
  go_wp2
  go_ret
  exact ⟨g', c', rfl, H6.out, H5.out⟩
theorem Wl.app_take (t : Int) (l : List Wl.R) (out : List Int) (j : Nat) (hj : j < l.length) : Wl.app t (l.take (j + 1)) out = if l[j].e = false ∧ l[j].t = t then (Wl.app t (l.take j) out).set l[j].b.toNat l[j].v else Wl.app t (l.take j) out := by
  rw [List.take_succ_eq_append_getElem hj, Wl.app_snoc]
theorem Wl.vals_at (home : List Int) (l : List Wl.R) (k : Nat) (hk : k < l.length) : Wl.vals home l (k + 1) = if l[k].e = true then Wl.app l[k].t (l.take k) (Wl.vals home l k) else Wl.vals home l k := by
  rw [Wl.vals_succ, List.getElem?_eq_getElem hk]
set_option maxRecDepth 100000 in
set_option maxHeartbeats 2000000 in
theorem wl_Values (w : World) (P : Nat → Prop) (b : Nat) (d : Wl.D) (h : WlF P w b d) :
    Calls Tryd.prog 35 #[.pointer (some ⟨b, 0, none⟩)] w (NewRow (Wl.values d) w) := by
  obtain ⟨hO, mb, lv, hB⟩ := h
  obtain ⟨A, c, rfl⟩ := hB.form
  obtain ⟨c8, c9, c10⟩ := hB.cells hO.home
  obtain ⟨gl, hRA, -, -, hcl, hcm⟩ := RwA.of hB.row
  have hclI : (d.log.length : Int) ≤ c := by omega
  have H8 := Lib.hid (fun W (hW : Fr [] w W) => hW.cell c8 (by simp))
  have HRA := Lib.hid (fun W (hW : Fr [] w W) => hRA.fr hW (by simp))
  have HL : Hid (d.home.length = 8) := hO.home
  have HBK := Lib.hid hO.blk
  have hbl := hB.lt.1
  have HCL := clone_own w b 0 8 d.home (fun i hi => by rw [Nat.zero_add, cell_of_row w b _ _ _ _ hB.file]; exact wlRow_home i hi) (by rw [HL.out]; decide) (by rw [HL.out]; decide)
  rw [HL.out] at HCL
  have HCLO := Lib.hid HCL
  have hn60 := hO.len
  clear HCL hO hB hRA
  go_enter Tryd.func35, Tryd.ntmps35
  go_wp2_with (first
    | (go_at_call 43; (with_reducible refine useC HCLO.out ?_); rintro e w1 ⟨gg, cc, rfl, hI, hf⟩; have HI := Lib.hid hI; have HF := Lib.hid hf; have c8' := H8.out w1 hf; clear hI hf))
  have HVL := Lib.hid (fun k => Wl.vals_len d.home d.log k)
  go_loopw [18] (fun i wr => ∃ k : Nat, k ≤ d.log.length ∧ i = .int .i64 k ∧ Hid (IntB wr w.heap.size gg cc (Wl.vals d.home d.log k)) ∧ Hid (Fr [] w wr)) (fun i _ => d.log.length - (intOf i).toNat)
  case atStart => exact ⟨0, Nat.zero_le _, rfl, HI, HF⟩
  case round =>
    clear HI HF c8'
    obtain ⟨k, hk, rfl, hI, hF⟩ := hrel
    by_cases hlt : k < d.log.length
    · obtain ⟨rfl, hD⟩ := (HRA.out wr hF.out).use (by omega)
      obtain ⟨cur, hg, hsz, hpart⟩ := hD.room hlt
      have HPT : Hid (((cur.toList.drop (k * 4)).take 4).toArray = #[.int .i64 d.log[k].t, .int .i64 d.log[k].b, .int .i64 d.log[k].v, .bool d.log[k].e]) := hpart
      have hsz' : k * 4 + 4 ≤ cur.size := hsz
      have HG := Lib.hid hg
      have hltg := lt_of_heap hg
      have hkI : (k : Int) < d.log.length := by omega
      have hkc : k ≤ c := by omega
      have hkcI : (k : Int) ≤ c := by omega
      have HVA := Lib.hid (Wl.vals_at d.home d.log k hlt)
      have q8 := H8.out wr hF.out
      have hblw : b < wr.heap.size := Nat.lt_of_lt_of_le hbl hF.out.size
      clear hg hsz hpart hD
      generalize hr : d.log[k] = r at *
      have HFA : Hid (Fr [] w (wr.alloc (.cells #[.int .i64 r.t, .int .i64 r.b, .int .i64 r.v, .bool r.e] 87))) := hF.out.alloc _
      have HIA : Hid (IntB (wr.alloc (.cells #[.int .i64 r.t, .int .i64 r.b, .int .i64 r.v, .bool r.e] 87)) w.heap.size gg cc (Wl.vals d.home d.log k)) := hI.out.fr ((Fr.refl _ _).alloc _)
      have HXA := Lib.hid (rec_new wr r)
      obtain ⟨d0, d1, d2, d3⟩ := rec_cells HXA.out
      clear hr
      cases he : r.e with
      | true =>
        have HV2 := Lib.hid (HVA.out.trans (if_pos he))
        rw [he] at HPT d0 d1 d2 d3 HFA HIA HXA
        clear he HVA
        go_wp2_with (refine wpList_load_part rfl 87 _ rfl gl (k * 4) 4 rfl _ cur _ _ HG.out Tryd.underlying87 rfl (by kernel_rfl) hsz' _ HPT.out ?_)
        have hgX : gg ≠ wr.heap.size := Nat.ne_of_lt hI.out.lt
        have hgw := hI.out.ge
        revert HFA HIA HXA d0 d1 d2 d3
        generalize (wr.alloc (.cells #[.int .i64 r.t, .int .i64 r.b, .int .i64 r.v, .bool true] 87)) = w5
        generalize wr.heap.size = X at *
        intro HFA HIA HXA d0 d1 d2 d3
        go_loopw [33] (fun i wr => ∃ j : Nat, j ≤ k ∧ i = .int .i64 j ∧ Hid (IntB wr w.heap.size gg cc (Wl.app r.t (d.log.take j) (Wl.vals d.home d.log k))) ∧ Hid (Fr [] w wr) ∧ Hid (wr.heap[X]? = some (.cells #[.int .i64 r.t, .int .i64 r.b, .int .i64 r.v, .bool true] 87 (0, 0)))) (fun i _ => k - (intOf i).toNat)
        case atStart => exact ⟨0, Nat.zero_le _, rfl, HIA, HFA, HXA⟩
        case round =>
          clear HIA HFA HXA d0 d1 d2 d3 HPT hsz' HG hltg q8 hblw hI hF
          obtain ⟨j, hj, rfl, hI2, hF2, hX2⟩ := hrel
          by_cases hjk : j < k
          · have hjx : j < d.log.length := by omega
            obtain ⟨-, hD⟩ := (HRA.out wr hF2.out).use (by omega)
            obtain ⟨cur2, hg, hsz, hpart⟩ := hD.room hjx
            have HPT : Hid (((cur2.toList.drop (j * 4)).take 4).toArray = #[.int .i64 d.log[j].t, .int .i64 d.log[j].b, .int .i64 d.log[j].v, .bool d.log[j].e]) := hpart
            have hsz' : j * 4 + 4 ≤ cur2.size := hsz
            have HG := Lib.hid hg
            have hltg := lt_of_heap hg
            have hjI : (j : Int) < k := by omega
            have HAP := Lib.hid (Wl.app_take r.t d.log (Wl.vals d.home d.log k) j hjx)
            have hbk := HBK.out d.log[j] (List.getElem_mem _)
            have hXl := lt_of_heap hX2.out
            have hal : (Wl.app r.t (d.log.take j) (Wl.vals d.home d.log k)).length = 8 := by rw [Wl.app_len, HVL.out, HL.out]
            clear hg hsz hpart hD
            generalize d.log[j] = r2 at *
            obtain ⟨t2, b2, v2, e2⟩ := r2
            dsimp only at HPT HAP hbk
            obtain ⟨bn, rfl⟩ : ∃ bn : Nat, b2 = bn := ⟨b2.toNat, by omega⟩
            have hb8 : bn < 8 := by omega
            have hbI : (bn : Int) < 8 := by omega
            rw [Int.toNat_natCast] at HAP
            have HX3 : Hid ((wr.alloc (.cells #[.int .i64 t2, .int .i64 bn, .int .i64 v2, .bool e2] 87)).heap[X]? = some (.cells #[.int .i64 r.t, .int .i64 r.b, .int .i64 r.v, .bool true] 87 (0, 0))) := ((Fr.refl [] wr).alloc _).get hX2.out (by simp)
            have HF3 : Hid (Fr [] w (wr.alloc (.cells #[.int .i64 t2, .int .i64 bn, .int .i64 v2, .bool e2] 87))) := hF2.out.alloc _
            have HI3 : Hid (IntB (wr.alloc (.cells #[.int .i64 t2, .int .i64 bn, .int .i64 v2, .bool e2] 87)) w.heap.size gg cc (Wl.app r.t (d.log.take j) (Wl.vals d.home d.log k))) := hI2.out.fr ((Fr.refl _ _).alloc _)
            obtain ⟨d0, -, -, -⟩ := rec_cells (r := ⟨r.t, r.b, r.v, true⟩) hX2.out
            have hggl := hI2.out.lt
            have hcell := hI2.out.cell bn (by rw [hal]; exact hb8)
            have hfree := hI2.out.free bn
            clear hbk
            by_cases hm : e2 = false ∧ t2 = r.t
            · have HAP2 := Lib.hid (HAP.out.trans (if_pos hm))
              obtain ⟨rfl, rfl⟩ := hm
              have HI4 := Lib.hid (HI3.out.put (i := bn) (by rw [hal]; exact hb8) v2)
              have HF4 : Hid (Fr [] w ((wr.alloc (.cells #[.int .i64 r.t, .int .i64 bn, .int .i64 v2, .bool false] 87)).setCell ⟨gg, bn, none⟩ (.int .i64 v2))) := HF3.out.setCell (.inr hgw) _
              have HX4 : Hid (((wr.alloc (.cells #[.int .i64 r.t, .int .i64 bn, .int .i64 v2, .bool false] 87)).setCell ⟨gg, bn, none⟩ (.int .i64 v2)).heap[X]? = some (.cells #[.int .i64 r.t, .int .i64 r.b, .int .i64 r.v, .bool true] 87 (0, 0))) := Fr.get (S := [gg]) ((Fr.refl _ _).setCell (.inl (by simp)) _) HX3.out (by simp; omega)
              rw [World.setCell_alloc_past _ _ _ _ hggl] at HI4 HF4 HX4
              clear HAP
              go_wp2_with (refine wpList_load_part rfl 87 _ rfl gl (j * 4) 4 rfl _ cur2 _ _ HG.out Tryd.underlying87 rfl (by kernel_rfl) hsz' _ HPT.out ?_)
              go_roundw
              case rel => exact ⟨j + 1, by omega, by go_num, by show IntB _ _ _ _ _; rw [HAP2.out]; exact HI4.out, HF4, HX4⟩
              case measure => simp [intOf]; omega
            · have HAP2 := Lib.hid (HAP.out.trans (if_neg hm))
              clear HAP
              cases e2 with
              | true =>
                clear hm
                go_wp2_with (refine wpList_load_part rfl 87 _ rfl gl (j * 4) 4 rfl _ cur2 _ _ HG.out Tryd.underlying87 rfl (by kernel_rfl) hsz' _ HPT.out ?_)
                go_roundw
                case rel => exact ⟨j + 1, by omega, by go_num, by show IntB _ _ _ _ _; rw [HAP2.out]; exact HI3.out, HF3, HX3⟩
                case measure => simp [intOf]; omega
              | false =>
                have hne : (t2 == r.t) = false := beq_eq_false_iff_ne.2 (fun e => hm ⟨rfl, e⟩)
                have hne' : ¬ t2 = r.t := fun e => hm ⟨rfl, e⟩
                clear hm
                go_wp2_with (refine wpList_load_part rfl 87 _ rfl gl (j * 4) 4 rfl _ cur2 _ _ HG.out Tryd.underlying87 rfl (by kernel_rfl) hsz' _ HPT.out ?_)
                go_roundw
                case rel => exact ⟨j + 1, by omega, by go_num, by show IntB _ _ _ _ _; rw [HAP2.out]; exact HI3.out, HF3, HX3⟩
                case measure => simp [intOf]; omega
          · have hjI : ¬ (j : Int) < k := by omega
            have hje : j = k := by omega
            have HI5 : Hid (IntB wr w.heap.size gg cc (Wl.vals d.home d.log (k + 1))) := by
              have := hI2.out
              rw [hje, ← HV2.out] at this
              exact this
            clear hje hjk hI2
            go_wp2
            go_roundw
            case rel => exact ⟨k + 1, by omega, by go_num, HI5, hF2⟩
            case measure => simp [intOf]; omega
      | false =>
        have HV2 := Lib.hid (HVA.out.trans (if_neg (by rw [he]; decide)))
        rw [he] at HPT d0 d1 d2 d3 HFA HIA
        clear he HVA
        go_wp2_with (refine wpList_load_part rfl 87 _ rfl gl (k * 4) 4 rfl _ cur _ _ HG.out Tryd.underlying87 rfl (by kernel_rfl) hsz' _ HPT.out ?_)
        go_roundw
        case rel => exact ⟨k + 1, by omega, by go_num, by show IntB _ _ _ _ _; rw [HV2.out]; exact HIA.out, HFA⟩
        case measure => simp [intOf]; omega
    · have hke : k = d.log.length := by omega
      have hI' := hI.out
      rw [hke] at hI'
      have HS := Lib.hid hI'.sl
      have HGE := Lib.hid hI'.ge
      have HLN : Hid ((Wl.vals d.home d.log d.log.length).length = 8) := (HVL.out _).trans HL.out
      rw [HLN.out] at HS
      have hkI : ¬ (k : Int) < d.log.length := by omega
      clear hke hI' hlt
      go_wp2
      go_ret
      exact ⟨_, gg, rfl, .inl HGE.out, HS.out, hF.out⟩
end Go.Proofs.YtmhmbgkpojgbbaaDoor
