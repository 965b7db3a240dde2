/- The document's answer for package undo: Leave. -/
import Derived.Test.YtmhmbgkpojgbbabDoorUxRef
import Derived.Test.YtmhmbgkpojgbbabDoorMix
namespace Go.Proofs.YtmhmbgkpojgbbabDoor
open Go.RowKit

/-- What Leave makes of a disk. -/
def Un.lv (back : Bool) (d : Un.D) (t : Int) : Un.D := if back = true then Un.undo d t else Un.end_ d t
def Un.lvB (back : Bool) (d : Un.D) (t : Int) : List Int := if back = true then Un.un (Un.isT t) d.was d.blk else d.blk
theorem Un.lv_ok {back : Bool} {d : Un.D} (h : Un.OK d) (t : Int) : Un.OK (Un.lv back d t) := by
  unfold Un.lv
  split
  · exact Un.undo_ok h t
  · exact Un.end_ok h t
theorem Un.lv_yes (back : Bool) (d : Un.D) {t : Int} (ht : Un.okT t) : Un.lv back d t = ⟨Un.lvB back d t, d.was.filter (Un.stay t), Un.free t d.busy⟩ := by
  unfold Un.lv Un.lvB
  cases back with
  | true => rw [if_pos rfl, if_pos rfl]; unfold Un.undo; rw [if_pos ht]; rfl
  | false => rw [if_neg (by decide), if_neg (by decide)]; unfold Un.end_; rw [if_pos ht]; rfl
theorem Un.lv_no (back : Bool) (d : Un.D) {t : Int} (ht : ¬ Un.okT t) : Un.lv back d t = d := by
  unfold Un.lv
  cases back with
  | true => rw [if_pos rfl]; unfold Un.undo; rw [if_neg ht]
  | false => rw [if_neg (by decide)]; unfold Un.end_; rw [if_neg ht]
theorem SlR.p3 {w : World} {v : Value} {g : Nat} {L : List Un.P} (h : SlR enP w v g L) : ∃ (A : Option Addr) (o c : Nat), v = .slice A L.length c ∧ (0 < L.length → A = some ⟨g, o, none⟩) ∧ ∀ i (hi : i < L.length),
    w.cell? ⟨g, o + i * 3, none⟩ = some (.int .i64 L[i].t) ∧ w.cell? ⟨g, o + i * 3 + 1, none⟩ = some (.int .i64 L[i].b) ∧ w.cell? ⟨g, o + i * 3 + 2, none⟩ = some (.int .i64 L[i].v) := by
  obtain ⟨A, o, c, rfl, -, hA, hc⟩ := h.form
  exact ⟨A, o, c, rfl, hA, fun i hi => ⟨hc i hi 0 (by decide), hc i hi 1 (by decide), hc i hi 2 (by decide)⟩⟩
theorem ux_two (w : World) (o0 o1 : Obj) : ((w.alloc o0).alloc o1).heap.size = w.heap.size + 2 ∧ Fr [] w ((w.alloc o0).alloc o1) ∧
    ((w.alloc o0).alloc o1).heap[w.heap.size]? = some o0 ∧ ((w.alloc o0).alloc o1).heap[w.heap.size + 1]? = some o1 := by
  have h (a : World) (o p : Obj) {k : Nat} (hk : a.heap[k]? = some p) : (a.alloc o).heap[k]? = some p := ((Fr.refl [] a).alloc o).get hk (by simp)
  have n1 := heap_alloc_new (w.alloc o0) o1
  simp only [World.size_alloc] at n1
  exact ⟨by simp, ((Fr.refl [] w).alloc _).alloc _, h _ _ _ (heap_alloc_new w o0), n1⟩
/-- What the rounds know of the row that grows. -/
structure UxGr (wB wr : World) (u : Value) (l : List Un.P) : Prop where
  own : OwnR enP wr wB.heap.size 36 u l
  fr : Fr [] wB wr
theorem UxGr.step {wB wr w' : World} {u : Value} {l : List Un.P} (h : UxGr wB wr u l) (hf : Fr [] wr w') : UxGr wB w' u l := ⟨h.own.kept hf (by simp), h.fr.trans hf⟩
set_option maxRecDepth 100000 in
set_option maxHeartbeats 4000000 in
theorem ux_Leave (w : World) (G : Nat → Prop) (v : Value) (d : Un.D) (t : Int) (back : Bool) (hv : UxV G w v d) (hO : Un.OK d) (hG : ∀ k, w.heap.size ≤ k → G k) :
    Calls Tryd.prog 6 #[v, .int .i64 t, .bool back] w (UxDn G (Un.lv back d t) (Un.turnErr t) w) := by
  have hV := hv
  obtain ⟨va, vc, vl, g1, g2, g3, rfl, hg, ha, hc, hl⟩ := hv
  obtain ⟨A1, o1, c1, rfl, -, -, -⟩ := ha.form
  obtain ⟨A2, o2, c2, rfl, -, -, -⟩ := hc.form
  obtain ⟨A3, o3, c3, rfl, hA3, hc3⟩ := hl.p3
  obtain ⟨hsz, fA, y0, y1⟩ := ux_two w (.cells #[.slice A1 d.blk.length c1, .slice A2 d.busy.length c2, .slice A3 d.was.length c3] 28) (.cells #[.slice none 0 0, .slice none 0 0, .slice none 0 0] 28)
  go_enter Tryd.func6, Tryd.ntmps6
  go_wp2_with fail
  generalize hW : ((w.alloc (.cells #[.slice A1 d.blk.length c1, .slice A2 d.busy.length c2, .slice A3 d.was.length c3] 28)).alloc (.cells #[.slice none 0 0, .slice none 0 0, .slice none 0 0] 28)) = W0 at *
  clear hW
  obtain ⟨X, hX⟩ : ∃ X, X = w.heap.size := ⟨_, rfl⟩
  rw [← hX] at hsz y0 y1 ⊢
  obtain ⟨X2, hX2⟩ : ∃ X2, X2 = X + 1 := ⟨_, rfl⟩
  rw [← hX2] at y1 ⊢
  have HU0 := Lib.hid (UxW.start hV hO hG fA y0 y1 (by omega) (by omega) (by omega))
  have HCW := Lib.hid (fun W (hW : Fr [] w W) i (hi : i < d.was.length) => And.intro (hW.cell (hc3 i hi).1 (by simp)) (And.intro (hW.cell (hc3 i hi).2.1 (by simp)) (hW.cell (hc3 i hi).2.2 (by simp))))
  have HLR := Lib.hid (fun W (hW : Fr [] w W) => hl.fr hW (by simp))
  have HA := Lib.hid hA3
  have h60 := hO.len
  have HB8 := Lib.hid (And.intro hO.blk hO.busy)
  have HRB := Lib.hid hO.rb
  clear hX hX2 hV hg ha hc hl fA y0 y1 hsz hO hG hA3 hc3
  obtain ⟨⟨b0, b1, b2⟩, hfx⟩ := HU0.out.cells
  obtain ⟨o0, o1', o2'⟩ := UxX.cells HU0.out.out
  have hfo := fun i => free_block HU0.out.out i none
  by_cases ht : Un.okT t
  · have e1 : decide (0 ≤ t ∧ t ≤ 19) = true := decide_eq_true ht
    have HE : Hid (Un.turnErr t = 0) := if_pos ht
    have HR := Lib.hid (Un.lv_yes back d ht)
    clear ht
    refine useC (r2in_is t 0 19 true _ e1) ?_
    rintro e W0 ⟨rfl, rfl⟩
    have HU1 : Hid (UxW G w W0 X X2 (.slice A1 d.blk.length c1) (.slice A2 d.busy.length c2) (.slice A3 d.was.length c3) ⟨Un.un (Un.isT t) (d.was.drop d.was.length) d.blk, d.was, d.busy⟩) := by
      show UxW _ _ _ _ _ _ _ _ _
      rw [List.drop_length]
      exact HU0.out
    have HUL := Lib.hid (fun k => Un.un_len (Un.isT t) (d.was.drop k) d.blk)
    go_wp2_with fail
    go_loopw [9] (fun i wr => ∃ m : Nat, m ≤ d.was.length ∧ (back = false → m = d.was.length) ∧ i = .int .i64 ((m : Int) - 1) ∧ ∃ a, Hid (UxW G w wr X X2 a (.slice A2 d.busy.length c2) (.slice A3 d.was.length c3) ⟨Un.un (Un.isT t) (d.was.drop m) d.blk, d.was, d.busy⟩)) (fun i _ => (intOf i + 1).toNat)
    case atStart => exact ⟨d.was.length, Nat.le_refl _, fun _ => rfl, by go_num, _, HU1⟩
    case round =>
      clear HU1 HU0 b0 b1 b2 hfx o0 o1' o2' hfo
      obtain ⟨m, hm, hmb, rfl, a, hU⟩ := hrel
      obtain ⟨⟨b0, b1, b2⟩, hfx⟩ := hU.out.cells
      by_cases hgo : 0 < m ∧ back = true
      · obtain ⟨hm0, rfl⟩ := hgo
        obtain ⟨k, rfl⟩ : ∃ k, m = k + 1 := ⟨m - 1, by omega⟩
        have hk1 : (((k + 1 : Nat) : Int) - 1) = (k : Int) := by omega
        rw [hk1]
        have hlt : k < d.was.length := by omega
        obtain rfl := HA.out (by omega)
        obtain ⟨q0, q1, q2⟩ := HCW.out wr hU.out.fr k hlt
        have HUN := Lib.hid (Un.un_drop (Un.isT t) d.was k hlt d.blk)
        have hrb := HRB.out _ (List.getElem_mem hlt)
        have kI : (k : Int) < d.was.length := by omega
        have k0 : (0 : Int) ≤ k := by omega
        clear hm0 hmb hk1
        generalize d.was[k] = r at *
        obtain ⟨rt, rb, rv⟩ := r
        dsimp only at q0 q1 q2 hrb
        by_cases htt : rt = t
        · have e2 : (rt == t) = true := by simpa using htt
          obtain ⟨bn, rfl⟩ : ∃ bn : Nat, rb = bn := ⟨rb.toNat, by omega⟩
          have hb8 : bn < 8 := by omega
          have HU2 := Lib.hid (HUN.out.trans (if_pos (by simp [Un.isT, htt])))
          rw [Int.toNat_natCast] at HU2
          have HUD := Lib.hid (hU.out.step ((Fr.refl [] wr).drew))
          have hxl : (Un.un (Un.isT t) (d.was.drop (k + 1)) d.blk).length = 8 := by rw [HUL.out, HB8.out.1]
          have hxn : (Un.un (Un.isT t) (d.was.drop (k + 1)) d.blk).set bn rv ≠ [] := fun e => by
            have := congrArg List.length e
            rw [List.length_set, hxl] at this
            cases this
          obtain ⟨ga, -, hsa⟩ := HUD.out.ra
          have HSA := Lib.hid (set_any wr.drew a ga _ bn rv hsa (by show bn < (Un.un _ _ _).length; rw [hxl]; exact hb8) (by show (Un.un _ _ _).length ≤ _; rw [hxl]; decide))
          have HXN := Lib.hid hxn
          clear htt HUN hrb hxl hxn hsa
          go_wp2_with fail
          (refine wp_region_mixq 14 [(true, 0), (true, 1), (true, 2), (true, 3), (true, 4), (true, 5), (true, 6), (true, 7), (true, 8), (true, 9), (true, 10), (true, 11), (true, 12), (true, 13)] (by kernel_rfl) (by kernel_rfl) ?_; simp only [pickOps, List.map_cons, List.map_nil, List.getD_cons_zero, List.getD_cons_succ, List.drop_succ_cons, List.drop_zero]; (iterate 14 (first | (refine wpMix_take (v := ?_) (by rfl) ?_ ?_; rotate_left; (focus (intro W hW; subst hW; go_simp; (try with_reducible rfl); done)); try simp only [Act.put, List.setIfInBounds_toArray, List.set_cons_zero, List.set_cons_succ]) | (refine wpMix_leave (by rfl) ?_; try simp only [Act.put, List.setIfInBounds_toArray, List.set_cons_zero, List.set_cons_succ]))); refine wpMix_nil ?_)
          go_wp2_with (go_at_call 18; (with_reducible refine useC HSA.out ?_); rintro e w6 hn; obtain ⟨A6, c6, he, hu6, hf6, hr6⟩ := HUD.out.row hn HXN.out; rw [List.length_set] at he hr6; subst he; have HU7 := Lib.hid (hu6.setA hr6); clear hf6 hn hr6 b0 b1 b2 hfx; obtain ⟨⟨b0, b1, b2⟩, hfx⟩ := hu6.cells; clear hu6)
          go_roundw
          case rel => exact ⟨k, by omega, (fun h => by cases h), by go_num, _, by show UxW _ _ _ _ _ _ _ _ _; rw [HU2.out]; exact HU7.out⟩
          case measure => (simp [intOf]; try omega)
        · have e2 : (rt == t) = false := by simpa using htt
          have HU2 := Lib.hid (HUN.out.trans (if_neg (by simp [Un.isT, htt])))
          clear htt HUN hrb
          go_wp2
          go_roundw
          case rel => exact ⟨k, by omega, (fun h => by cases h), by go_num, _, by show UxW _ _ _ _ _ _ _ _ _; rw [HU2.out]; exact hU.out⟩
          case measure => (simp [intOf]; try omega)
      · have hout : (¬ (0 : Int) ≤ (m : Int) - 1) ∨ ((0 : Int) ≤ (m : Int) - 1 ∧ back = false) := by
          by_cases h0 : 0 < m
          · cases back with
            | true => exact absurd ⟨h0, rfl⟩ hgo
            | false => exact .inr ⟨by omega, rfl⟩
          · exact .inl (by omega)
        have HBL : Hid (Un.un (Un.isT t) (d.was.drop m) d.blk = Un.lvB back d t) := by
          show _ = _
          unfold Un.lvB
          cases back with
          | true =>
            have : m = 0 := by
              by_cases h0 : 0 < m
              · exact absurd ⟨h0, rfl⟩ hgo
              · omega
            rw [this, List.drop_zero, if_pos rfl]
          | false => rw [hmb rfl, List.drop_length, if_neg (by decide)]; rfl
        have HUB := Lib.hid hU.out
        rw [HBL.out] at HUB
        obtain ⟨wB, hwB⟩ : ∃ x, x = wr := ⟨_, rfl⟩
        subst hwB
        have HG0 : Hid (UxGr wB wB (.slice none 0 0) ((d.was.take 0).filter (Un.stay t))) := ⟨OwnR.nil, Fr.refl _ _⟩
        clear hU hgo hmb HBL HUL
        generalize Un.lvB back d t = bl at *
        rcases hout with hout | ⟨hout, rfl⟩
        all_goals
          go_wp2_with fail
          go_loopw [8, 10] (fun u i wr => ∃ k : Nat, k ≤ d.was.length ∧ i = .int .i64 k ∧ Hid (UxGr wB wr u ((d.was.take k).filter (Un.stay t)))) (fun _ i _ => d.was.length - (intOf i).toNat)
          case atStart => exact ⟨0, Nat.zero_le _, rfl, HG0⟩
          case round =>
            clear HG0 b0 b1 b2 hfx
            obtain ⟨k, hk, rfl, hC⟩ := hrel
            have HUW := Lib.hid (HUB.out.step hC.out.fr)
            obtain ⟨⟨b0, b1, b2⟩, hfx⟩ := HUW.out.cells
            by_cases hlt : k < d.was.length
            · obtain rfl := HA.out (by omega)
              obtain ⟨q0, -, -⟩ := HCW.out wr HUW.out.fr k hlt
              obtain ⟨cur, tt, ff, hgd, hsz, hvs⟩ := SlR.part (HLR.out wr HUW.out.fr) hlt
              have hsz' : o3 + k * 3 + 3 ≤ cur.size := hsz
              have HSZ := Lib.hid hsz'
              have HVS : Hid (((cur.toList.drop (o3 + k * 3)).take 3).toArray = #[.int .i64 d.was[k].t, .int .i64 d.was[k].b, .int .i64 d.was[k].v]) := hvs
              have HGD := Lib.hid hgd
              have kI : (k : Int) < d.was.length := by omega
              have k0 : (0 : Int) ≤ k := by omega
              have HST := Lib.hid (Un.stay_take t d.was k hlt)
              have hll : ((d.was.take k).filter (Un.stay t)).length < 1000000 := by
                have := List.length_filter_le (Un.stay t) (d.was.take k)
                rw [List.length_take] at this
                omega
              clear hgd hsz hsz' hvs
              generalize d.was[k] = r at *
              by_cases htt : r.t = t
              · have e2 : (r.t == t) = true := by simpa using htt
                have HS2 := Lib.hid (HST.out.trans (if_pos htt))
                clear htt HST
                go_wp2
                go_roundw
                case rel => exact ⟨k + 1, by omega, by go_num, by show UxGr _ _ _ _; rw [HS2.out]; exact hC.out⟩
                case measure => (simp [intOf]; try omega)
              · have e2 : (r.t == t) = false := by simpa using htt
                have HS2 := Lib.hid (HST.out.trans (if_neg htt))
                clear htt HST
                go_wp2_with (first
                  | (refine wpList_load_part rfl 36 _ rfl g3 (o3 + k * 3) 3 rfl tt cur ff _ HGD.out Tryd.underlying36 rfl (by kernel_rfl) HSZ.out _ HVS.out ?_)
                  | (at_builtin; refine wpList_push_enc (E := enP) (y := r) (wr := wr) Tryd.underlying26 Tryd.info_put rfl (by decide) rfl _ _ rfl wB.heap.size _ _ rfl rfl hC.out.own rfl hll hC.out.fr.size ?_; intro v6 w6 h1 _ hb6; have HC6 : Hid (UxGr wB w6 v6 _) := ⟨h1, hC.out.fr.below_step hb6 (Nat.le_refl _)⟩; clear h1 hb6))
                go_roundw
                case rel => exact ⟨k + 1, by omega, by go_num, by show UxGr _ _ _ _; rw [HS2.out]; exact HC6.out⟩
                case measure => (simp [intOf]; try omega)
            · have kI : ¬ (k : Int) < d.was.length := by omega
              obtain rfl : k = d.was.length := by omega
              have HC5 := Lib.hid hC.out
              rw [List.take_length] at HC5
              obtain ⟨A5, c5, hu⟩ := HC5.out.own.form0
              subst hu
              have HU5 := Lib.hid (HUW.out.setL HC5.out.own ⟨HUB.out.fr.size, HUB.out.lt⟩)
              have hf0 : Un.freeTo t d.busy 0 = d.busy := rfl
              rw [← hf0] at HU5
              have HFT := Lib.hid (Un.freeTo_at t d.busy)
              have HFL := Lib.hid (Un.freeTo_len t d.busy)
              have HFA := Lib.hid (Un.freeTo_all t d.busy)
              clear hC hlt
              generalize d.was.filter (Un.stay t) = ws at *
              go_wp2_with fail
              obtain ⟨wC, hwC⟩ : ∃ z, z = wr.setCell ⟨X, 2, none⟩ (.slice A5 ws.length c5) := ⟨_, rfl⟩
              rw [← hwC]
              rw [← hwC] at HU5
              clear hwC b0 b1 b2 hfx HUW HC5
              go_loopw [11] (fun i wr => ∃ k : Nat, k ≤ 8 ∧ i = .int .i64 k ∧ ∃ c, Hid (UxW G w wr X X2 a c (.slice A5 ws.length c5) ⟨bl, ws, Un.freeTo t d.busy k⟩)) (fun i _ => 8 - (intOf i).toNat)
              case atStart => exact ⟨0, Nat.zero_le _, rfl, _, HU5⟩
              case round =>
                clear HU5
                obtain ⟨k, hk, rfl, c, hU⟩ := hrel
                obtain ⟨gc, -, hsc⟩ := hU.out.rc
                have hsc : Sl wr c gc (Un.freeTo t d.busy k) := hsc
                have hcl : (Un.freeTo t d.busy k).length = 8 := by rw [HFL.out, HB8.out.2]
                have hsc' := hsc
                obtain ⟨A7, o7, c7, rfl, -, hA7, hc7⟩ := hsc'.form
                obtain rfl := hA7 (by rw [hcl]; decide)
                rw [hcl] at hU hsc hc7
                clear hA7 hsc'
                obtain ⟨⟨b0, b1, b2⟩, hfx⟩ := hU.out.cells
                by_cases hlt : k < 8
                · have kI : (k : Int) < 8 := by omega
                  have k0 : (0 : Int) ≤ k := by omega
                  have q7 := hc7 k hlt
                  rw [HFT.out k (by rw [HB8.out.2]; exact hlt)] at q7
                  have hs : Un.freeTo t d.busy (k + 1) = if nth d.busy k = t then (Un.freeTo t d.busy k).set k (-1) else Un.freeTo t d.busy k := rfl
                  by_cases hbt : nth d.busy k = t
                  · have e3 : (nth d.busy k == t) = true := by simpa using hbt
                    have HS2 := Lib.hid (hs.trans (if_pos hbt))
                    have HSB := Lib.hid (set_any wr _ gc _ k (-1) hsc (by rw [hcl]; exact hlt) (by rw [hcl]; decide))
                    have hxn : (Un.freeTo t d.busy k).set k (-1) ≠ [] := fun e => by
                      have := congrArg List.length e
                      rw [List.length_set, hcl] at this
                      cases this
                    have HXN := Lib.hid hxn
                    have HCL := Lib.hid hcl
                    clear hs hbt hsc hcl hxn hc7
                    generalize nth d.busy k = y at *
                    go_wp2_with (go_at_call 18; (with_reducible refine useC HSB.out ?_); rintro e w6 hn; obtain ⟨A6, c6, he, hu6, hf6, hr6⟩ := hU.out.row hn HXN.out; rw [List.length_set, HCL.out] at he hr6; subst he; have HU7 := Lib.hid (hu6.setC hr6); clear hf6 hn hr6 b0 b1 b2 hfx q7; obtain ⟨⟨b0, b1, b2⟩, hfx⟩ := hu6.cells; clear hu6)
                    go_roundw
                    case rel => exact ⟨k + 1, by omega, by go_num, _, by show UxW _ _ _ _ _ _ _ _ _; rw [HS2.out]; exact HU7.out⟩
                    case measure => (simp [intOf]; try omega)
                  · have e3 : (nth d.busy k == t) = false := by simpa using hbt
                    have HS2 := Lib.hid (hs.trans (if_neg hbt))
                    clear hs hbt hsc hcl hc7
                    generalize nth d.busy k = y at *
                    go_wp2
                    go_roundw
                    case rel => exact ⟨k + 1, by omega, by go_num, _, by show UxW _ _ _ _ _ _ _ _ _; rw [HS2.out]; exact hU.out⟩
                    case measure => (simp [intOf]; try omega)
                · have kI : ¬ (k : Int) < 8 := by omega
                  have hk8 : k = d.busy.length := by rw [HB8.out.2]; omega
                  have HU8 := Lib.hid hU.out
                  rw [hk8, HFA.out] at HU8
                  obtain ⟨gq, -, hsq⟩ := HU8.out.ra
                  have hsq : Sl wr a gq bl := hsq
                  obtain ⟨A9, o9, c9, ha9, -⟩ := hsq.form
                  subst ha9
                  clear hsq b0 b1 b2
                  obtain ⟨⟨b0, b1, b2⟩, -⟩ := HU8.out.cells
                  obtain ⟨o0, o1', o2'⟩ := UxX.cells HU8.out.out
                  have hfo := fun i => free_block HU8.out.out i none
                  clear hU hlt hk8 hsc hcl hc7
                  go_wp2
                  rw [HE.out, HR.out]
                  exact bodyPost_ret (v := .tuple #[.agg #[.slice A9 bl.length c9, .slice (some ⟨gc, o7, none⟩) 8 c7, .slice A5 ws.length c5], .int .i64 0]) (ux_results Tryd.results6 rfl rfl (UxW.fin HU8.out).1) rfl ((UxW.fin HU8.out).2 _)
  · have e1 : decide (0 ≤ t ∧ t ≤ 19) = false := decide_eq_false ht
    have HE : Hid (Un.turnErr t = 1) := if_neg ht
    have HR := Lib.hid (Un.lv_no back d ht)
    refine useC (r2in_is t 0 19 false _ e1) ?_
    rintro e W0 ⟨rfl, rfl⟩
    go_wp2
    rw [HE.out, HR.out]
    exact bodyPost_ret (v := .tuple #[.agg #[.slice A1 d.blk.length c1, .slice A2 d.busy.length c2, .slice A3 d.was.length c3], .int .i64 1]) (ux_results Tryd.results6 rfl rfl (UxW.fin HU0.out).1) rfl ((UxW.fin HU0.out).2 _)
end Go.Proofs.YtmhmbgkpojgbbabDoor
