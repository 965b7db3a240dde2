/- The contract of package wal's Crash. -/
import Derived.Test.YtmhmbgkpojgbbaaDoorWlDel
namespace Go.Proofs.YtmhmbgkpojgbbaaDoor
open Go.RowKit

/-- What the rounds of Crash know: the variable that is caught, the disk, its log, the turns that have ended so far. -/
structure WlCr (w wr : World) (P : Nat → Prop) (B b mb : Nat) (lv : Value) (d : Wl.D) (L : List Int) : Prop where
  box : wr.heap[B]? = some (.cells #[.pointer (some ⟨b, 0, none⟩)] 53 (0, 0))
  file : WlB (OrNew P w) wr b mb lv d L
  fr : FrP P w wr
  ge : w.heap.size ≤ B
  neb : b ≠ B
  nem : mb ≠ B
  nel : lv.ownBlock ≠ some B
section
variable {w wr w' : World} {P : Nat → Prop} {B b mb : Nat} {lv : Value} {d : Wl.D} {L : List Int}
theorem WlCr.step (h : WlCr w wr P B b mb lv d L) (hf : Fr [] wr w') : WlCr w w' P B b mb lv d L :=
  ⟨hf.get h.box (by simp), h.file.keep hf, h.fr.step hf (by simp), h.ge, h.neb, h.nem, h.nel⟩
theorem WlCr.cells (h : WlCr w wr P B b mb lv d L) (hl : d.home.length = 8) : wr.cell? ⟨B, 0, none⟩ = some (.pointer (some ⟨b, 0, none⟩)) ∧ wr.cell? ⟨b, 8, none⟩ = some lv ∧ wr.cell? ⟨b, 9, none⟩ = some (.int .i64 d.syn) ∧ wr.cell? ⟨b, 10, none⟩ = some (.map (some mb)) :=
  ⟨by rw [cell_of_row wr B _ _ _ _ h.box]; rfl, h.file.cells hl⟩
theorem WlCr.one (h : WlCr w wr P B b mb lv d L) {i : Nat} {v : Value} : wr.heap[B]? = (wr.setCell ⟨b, i, none⟩ v).heap[B]? := (heap_setCell_other _ _ _ _ (by have := h.neb; simp; omega)).symm
theorem WlCr.setLog (h : WlCr w wr P B b mb lv d L) (hl : d.home.length = 8) {lv' : Value} {log : List Wl.R} (hr : OwnR enR wr 0 87 lv' log) (hn : lv'.ownBlock ≠ some b) (hn2 : lv'.ownBlock ≠ some B) (hg : ∀ g, lv'.ownBlock = some g → OrNew P w g) :
    WlCr w (wr.setCell ⟨b, 8, none⟩ lv') P B b mb lv' ⟨d.home, log, d.syn⟩ L :=
  ⟨h.one.symm.trans h.box, h.file.setLog hl hr hn hg, h.fr.step ((Fr.refl [b] wr).setCell (.inl (by simp)) _) (fun x hx => by simp only [List.mem_singleton] at hx; subst hx; exact h.file.gb), h.ge, h.neb, h.nem, hn2⟩
theorem WlCr.setSyn (h : WlCr w wr P B b mb lv d L) (hl : d.home.length = 8) (n : Nat) : WlCr w (wr.setCell ⟨b, 9, none⟩ (.int .i64 n)) P B b mb lv ⟨d.home, d.log, n⟩ L :=
  ⟨h.one.symm.trans h.box, h.file.setSyn hl n, h.fr.step ((Fr.refl [b] wr).setCell (.inl (by simp)) _) (fun x hx => by simp only [List.mem_singleton] at hx; subst hx; exact h.file.gb), h.ge, h.neb, h.nem, h.nel⟩
theorem WlCr.setMap (h : WlCr w wr P B b mb lv d L) (hl : d.home.length = 8) {mb' : Nat} {L' : List Int} (hs : St wr mb' L'.length L') (hn : b ≠ mb') (hn2 : mb' ≠ B) (hp : OrNew P w mb') : WlCr w (wr.setCell ⟨b, 10, none⟩ (.map (some mb'))) P B b mb' lv d L' :=
  ⟨h.one.symm.trans h.box, h.file.setMap hl hs hn hp, h.fr.step ((Fr.refl [b] wr).setCell (.inl (by simp)) _) (fun x hx => by simp only [List.mem_singleton] at hx; subst hx; exact h.file.gb), h.ge, h.neb, hn2, h.nel⟩
theorem WlCr.add (h : WlCr w wr P B b mb lv d L) {x : Int} (hs : St w' mb (L.length + 1) (L ++ [x])) (hf : Fr [mb] wr w') : WlCr w w' P B b mb lv d (L ++ [x]) :=
  ⟨hf.get h.box (by simpa using Ne.symm h.nem), h.file.add hs hf, h.fr.step hf (fun x hx => by simp only [List.mem_singleton] at hx; subst hx; exact h.file.gm), h.ge, h.neb, h.nem, h.nel⟩
end
theorem WlCr.rwa {w wr : World} {P : Nat → Prop} {B b mb : Nat} {A : Option Addr} {c : Nat} {d : Wl.D} {L : List Int} (h : WlCr w wr P B b mb (.slice A d.log.length c) d L) :
    ∃ g, RwA wr A g c d.log ∧ g ≠ B ∧ g ≠ b ∧ g ≠ mb ∧ OrNew P w g ∧ d.log.length ≤ c ∧ c ≤ maxLen := by
  obtain ⟨g, h1, h2, h3, h4, h5⟩ := RwA.of h.file.row
  refine ⟨g, h1, ?_⟩
  have n1 := h.file.ne2
  have n2 := h.file.ne3
  have n3 := h.nel
  have n4 := h.file.lt
  have n5 := lt_of_heap h.box
  have n6 := h.fr.size
  cases A with
  | none =>
    have := h3 rfl
    exact ⟨by omega, by omega, by omega, .inr (by omega), h4, h5⟩
  | some a =>
    rw [h2] at n1 n2 n3
    exact ⟨by simpa using n3, by simpa using n1, by simpa using n2, h.file.gl g (by rw [h2]; rfl), h4, h5⟩
/-- The log is cut. -/
theorem WlCr.cut {w wr : World} {P : Nat → Prop} {B b mb : Nat} {A : Option Addr} {c : Nat} {d : Wl.D} {L : List Int} (h : WlCr w wr P B b mb (.slice A d.log.length c) d L) (hl : d.home.length = 8) {m : Nat} (hm : m ≤ d.log.length) :
    WlCr w (wr.setCell ⟨b, 8, none⟩ (.slice A m c)) P B b mb (.slice A (d.log.take m).length c) ⟨d.home, d.log.take m, d.syn⟩ L := by
  obtain ⟨g, h1, h2, h3, h4, h5, h6, h7⟩ := h.rwa
  have e : (d.log.take m).length = m := by rw [List.length_take]; omega
  rw [e]
  have hr := (h1.cut hm).own h7
  rw [e] at hr
  have ho : ∀ n : Nat, (Value.slice A n c).ownBlock = (Value.slice A d.log.length c).ownBlock := fun n => by cases A <;> rfl
  have := h.setLog hl hr (by rw [ho]; exact h.file.ne2) (by rw [ho]; exact h.nel) (by rw [ho]; exact h.file.gl)
  exact this
theorem RwA.ob {w : World} {A : Option Addr} {g c n : Nat} {xs : List Wl.R} (h : RwA w A g c xs) {x : Nat} (hx : (Value.slice A n c).ownBlock = some x) : x = g := by
  rcases h with ⟨rfl, _, _⟩ | ⟨rfl, _⟩
  · cases hx
  · injection hx with hx; exact hx.symm
/-- The log's block has been rewritten; the log is stored. -/
theorem WlCr.dele {w wr w2 : World} {P : Nat → Prop} {B b mb g : Nat} {lv lv' : Value} {d : Wl.D} {L : List Int} {log : List Wl.R} (h : WlCr w wr P B b mb lv d L) (hl : d.home.length = 8) (hf : Fr [g] wr w2) (hg : g ≠ B ∧ g ≠ b ∧ g ≠ mb ∧ OrNew P w g)
    (hr : OwnR enR w2 0 87 lv' log) (ho : ∀ x, lv'.ownBlock = some x → x = g) : WlCr w (w2.setCell ⟨b, 8, none⟩ lv') P B b mb lv' ⟨d.home, log, d.syn⟩ L := by
  obtain ⟨g1, g2, g3, g4⟩ := hg
  have e1 := hf.get h.file.file (by simp; omega)
  have e2 := h.file.set.fr hf (by simp; omega)
  have e3 := hf.get h.box (by simp; omega)
  have hb : Fr [b] w2 (w2.setCell ⟨b, 8, none⟩ lv') := (Fr.refl _ w2).setCell (.inl (by simp)) _
  have hnb : lv'.ownBlock ≠ some b := fun e => g2 (ho b e).symm
  have n1 := h.file.ne1
  have n2 := h.neb
  exact ⟨hb.get e3 (by simp; omega), ⟨h.file.gb, h.file.gm, fun x hx => (ho x hx) ▸ g4, by rw [set_block e1, wlRow_set8 hl], hr.kept hb (fun x hm => by simp only [List.mem_singleton] at hm; rw [hm]; exact hnb), e2.fr hb (by simp; omega)⟩,
    (h.fr.step hf (fun x hx => by simp only [List.mem_singleton] at hx; subst hx; exact g4)).step hb (fun x hx => by simp only [List.mem_singleton] at hx; subst hx; exact h.file.gb), h.ge, h.neb, h.nem, fun e => g1 (ho B e).symm⟩
theorem Wl.turns_take (l : List Wl.R) (k : Nat) (hk : k < l.length) : Wl.turns (l.take (k + 1)) = if l[k].e = true then Wl.turns (l.take k) ++ [l[k].t] else Wl.turns (l.take k) := by
  rw [List.take_succ_eq_append_getElem hk, Wl.turns_snoc]
theorem Wl.stay_last (l : List Wl.R) : l.filter (Wl.stay (Wl.turns l)) = Wl.last l := by
  unfold Wl.last
  congr 1
  funext r
  exact Wl.turns_has l r.t
set_option maxRecDepth 100000 in
set_option maxHeartbeats 2000000 in
theorem wl_Crash (w : World) (P : Nat → Prop) (b : Nat) (d : Wl.D) (n : Int) (h : WlF P w b d) :
    Calls Tryd.prog 29 #[.pointer (some ⟨b, 0, none⟩), .int .i64 n] w (WlAns P b (errV (Wl.crash d n).2) (Wl.crash d n).1 w) := by
  have HH := Lib.hid h
  obtain ⟨hO, mb, lv, hB⟩ := h
  have HO := Lib.hid hO
  have hlt := hB.lt
  obtain ⟨A, c, hlv⟩ := hB.form
  have HC0 : Hid (WlCr w (w.alloc (.cells #[.pointer (some ⟨b, 0, none⟩)] 53)) P w.heap.size b mb lv d (Wl.turns d.log)) :=
    ⟨heap_alloc_new w _, (hB.keep ((Fr.refl _ _).alloc _)).imp (fun _ h => .inl h), (FrP.refl P w).step ((Fr.refl [] w).alloc _) (by simp), Nat.le_refl _, by omega, by omega, fun e => by have := hlt.2.2 _ e; omega⟩
  have hF0 : Hid (Fr [] w (w.alloc (.cells #[.pointer (some ⟨b, 0, none⟩)] 53))) := (Fr.refl _ _).alloc _
  subst hlv
  obtain ⟨c0, c8, c9, c10⟩ := HC0.out.cells hO.home
  obtain ⟨g, hRA, -, -, -, -, hcl, hcm⟩ := HC0.out.rwa
  clear hRA
  have hclI : (d.log.length : Int) ≤ c := by omega
  clear hB hlt hO
  by_cases hn : (d.syn : Int) ≤ n ∧ n ≤ d.log.length
  · have e1 := decide_eq_true hn
    obtain ⟨m, rfl⟩ : ∃ m : Nat, n = m := ⟨n.toNat, by omega⟩
    have er : Hid (Wl.crash d m = (⟨d.home, Wl.last (d.log.take m), (Wl.last (d.log.take m)).length⟩, 0)) := by
      show _ = _
      unfold Wl.crash
      rw [if_pos hn, Int.toNat_natCast]
    have hm : m ≤ d.log.length := by omega
    have hmI : (m : Int) ≤ d.log.length := by omega
    have hmc : m ≤ c := by omega
    have hmcI : (m : Int) ≤ c := by omega
    clear hn
    rw [er.out]
    go_enter Tryd.func29, Tryd.ntmps29
    go_wp2_with fail
    revert hF0 HC0 c0 c8 c9 c10
    generalize (w.alloc (.cells #[.pointer (some ⟨b, 0, none⟩)] 53)) = w1
    generalize hBB : w.heap.size = B
    intro hF0 HC0 c0 c8 c9 c10
    (refine wp_region_mixq 10 [(true, 0), (true, 1), (true, 2), (true, 3), (true, 4), (true, 5), (true, 6), (true, 7), (true, 8), (true, 9)] (by kernel_rfl) (by kernel_rfl) ?_; simp only [pickOps, List.map_cons, List.map_nil, List.getD_cons_zero, List.getD_cons_succ, List.drop_succ_cons, List.drop_zero]; (iterate 10 (first | (refine wpMix_take (v := ?_) (by rfl) ?_ ?_; rotate_left; (focus (intro W hW; subst hW; go_simp; (try with_reducible rfl); done)); try simp only [Act.put, List.setIfInBounds_toArray, List.set_cons_zero, List.set_cons_succ]) | (refine wpMix_leave (by rfl) ?_; try simp only [Act.put, List.setIfInBounds_toArray, List.set_cons_zero, List.set_cons_succ]))); refine wpMix_nil ?_)
    go_wp2_with (go_at_call 39; (with_reducible refine useC (within_is _ _ _ true _ e1) ?_); rintro e w2 ⟨rfl, rfl⟩)
    have HC1 := Lib.hid (HC0.out.step (((Fr.refl [] w1).drew).drew))
    have hfz := HC0.out.file.free 8
    go_wp2_with fail
    (refine wp_region_mixq 7 [(true, 0), (true, 1), (true, 2), (true, 3), (true, 4), (true, 5), (true, 6)] (by kernel_rfl) (by kernel_rfl) ?_; simp only [pickOps, List.map_cons, List.map_nil, List.getD_cons_zero, List.getD_cons_succ, List.drop_succ_cons, List.drop_zero]; (iterate 7 (first | (refine wpMix_take (v := ?_) (by rfl) ?_ ?_; rotate_left; (focus (intro W hW; subst hW; go_simp; (try with_reducible rfl); done)); try simp only [Act.put, List.setIfInBounds_toArray, List.set_cons_zero, List.set_cons_succ]) | (refine wpMix_leave (by rfl) ?_; try simp only [Act.put, List.setIfInBounds_toArray, List.set_cons_zero, List.set_cons_succ]))); refine wpMix_nil ?_)
    have HML : Hid ((d.log.take m).length = m) := by show _ = _; rw [List.length_take]; omega
    have hmm := @run_makeMap Tryd.prog
    have HC2 := Lib.hid (HC1.out.cut HO.out.home hm)
    rw [HML.out] at HC2
    go_wp2_with (refine wpList_store_one rfl 81 _ _ rfl b 8 _ _ rfl rfl (by kernel_rfl) rfl rfl c8 hfz ?_; intro w3 hw3; have HC3 : Hid (WlCr w w3 P B b mb (.slice A m c) ⟨d.home, d.log.take m, d.syn⟩ (Wl.turns d.log)) := (by rw [hw3]; exact HC2.out); clear hw3 c0 c8 c9 c10 hfz; obtain ⟨c0, c8, c9, c10⟩ := HC3.out.cells HO.out.home; have hfz := HC3.out.file.free 10; have hbl := HC3.out.file.lt.1; have hBl := lt_of_heap HC3.out.box)
    have HC4 : Hid (WlCr w ((w3.setCell ⟨b, 10, none⟩ (.map (some w3.heap.size))).alloc (.map #[] 0)) P B b w3.heap.size (.slice A m c) ⟨d.home, d.log.take m, d.syn⟩ (Wl.turns ((d.log.take m).take 0))) := by
      have hsw := HC3.out.fr.size
      have := (HC3.out.step ((Fr.refl [] w3).alloc (.map #[] 0))).setMap HO.out.home (L' := []) (SetI.made w3 _ _ _) (by omega) (by omega) (.inr (by omega))
      rw [World.setCell_alloc_past _ _ _ _ hbl] at this
      exact this
    generalize ((w3.setCell ⟨b, 10, none⟩ (.map (some w3.heap.size))).alloc (.map #[] 0)) = w4 at *
    generalize w3.heap.size = mb4 at *
    have HTRN := HO.out.trn
    have HLEN := HO.out.len
    have HI := Lib.hid (fun r (hr : r ∈ d.log.take m) => i64_turn (HTRN r (List.mem_of_mem_take hr)))
    have hm60 : m ≤ 60 := by omega
    have HHL := Lib.hid HO.out.home
    obtain ⟨xs, hxs⟩ : ∃ xs, xs = d.log.take m := ⟨_, rfl⟩
    have HXS := Lib.hid hxs
    rw [← hxs] at HC4 HML HI
    clear HC0 HC1 HC2 HC3 c0 c8 c9 c10 hfz hbl hBl HTRN HLEN hxs hcl hclI hm hmI
    go_loopw [38] (fun i wr => ∃ k : Nat, k ≤ m ∧ i = .int .i64 k ∧ Hid (WlCr w wr P B b mb4 (.slice A m c) ⟨d.home, xs, d.syn⟩ (Wl.turns (xs.take k)))) (fun i _ => m - (intOf i).toNat)
    case atStart => exact ⟨0, Nat.zero_le _, rfl, HC4⟩
    case round =>
      clear HC4
      obtain ⟨k, hk, rfl, hC⟩ := hrel
      have hrwa := hC.out.file
      by_cases hlt : k < m
      · have hkx : k < xs.length := by rw [HML.out]; exact hlt
        have hmk := HML.out
        subst hmk
        obtain ⟨g, hRA, hg1, hg2, hg3, hg4, -, -⟩ := WlCr.rwa (d := ⟨d.home, xs, d.syn⟩) hC.out
        obtain ⟨rfl, hD⟩ := hRA.use (by show 0 < xs.length; omega)
        obtain ⟨cur, hg, hsz, hpart⟩ := hD.room hkx
        have HPT : Hid (((cur.toList.drop (k * 4)).take 4).toArray = #[.int .i64 xs[k].t, .int .i64 xs[k].b, .int .i64 xs[k].v, .bool xs[k].e]) := hpart
        have hsz' : k * 4 + 4 ≤ cur.size := hsz
        have HG := Lib.hid hg
        have hltg := lt_of_heap hg
        have hkI : (k : Int) < xs.length := by omega
        have HK := Lib.hid (HI.out xs[k] (List.getElem_mem _))
        have HTT := Lib.hid (Wl.turns_take xs k hkx)
        have HTLN : Hid ((Wl.turns (xs.take k)).length < 1000000) := Nat.lt_of_le_of_lt (Wl.turns_len _) (by rw [List.length_take]; omega)
        clear hg hsz hpart hD hrwa hRA
        generalize hr : xs[k] = r at *
        have HCA : Hid (WlCr w (wr.alloc (.cells #[.int .i64 r.t, .int .i64 r.b, .int .i64 r.v, .bool r.e] 87)) P B b mb4 (.slice (some ⟨g, 0, none⟩) xs.length c) ⟨d.home, xs, d.syn⟩ (Wl.turns (xs.take k))) := hC.out.step ((Fr.refl _ _).alloc _)
        obtain ⟨d0, d1, d2, d3⟩ := rec_cells (rec_new wr r)
        clear hr
        cases he : r.e with
        | true =>
          have HT2 := Lib.hid (HTT.out.trans (if_pos he))
          rw [he] at HCA HPT d0 d1 d2 d3
          clear he HTT
          go_wp2_with (refine wpList_load_part rfl 87 _ rfl g (k * 4) 4 rfl _ cur _ _ HG.out Tryd.underlying87 rfl (by kernel_rfl) hsz' _ HPT.out ?_)
          revert HCA d0 d1 d2 d3
          generalize (wr.alloc (.cells #[.int .i64 r.t, .int .i64 r.b, .int .i64 r.v, .bool true] 87)) = w5
          intro HCA d0 d1 d2 d3
          obtain ⟨c0, c8, c9, c10⟩ := HCA.out.cells HHL.out
          have HST := Lib.hid (HCA.out.step ((Fr.refl [] w5).drew))
          (refine wp_region_mixq 7 [(true, 0), (true, 1), (true, 2), (true, 3), (true, 4), (true, 5), (true, 6)] (by kernel_rfl) (by kernel_rfl) ?_; simp only [pickOps, List.map_cons, List.map_nil, List.getD_cons_zero, List.getD_cons_succ, List.drop_succ_cons, List.drop_zero]; (iterate 7 (first | (refine wpMix_take (v := ?_) (by rfl) ?_ ?_; rotate_left; (focus (intro W hW; subst hW; go_simp; (try with_reducible rfl); done)); try simp only [Act.put, List.setIfInBounds_toArray, List.set_cons_zero, List.set_cons_succ]) | (refine wpMix_leave (by rfl) ?_; try simp only [Act.put, List.setIfInBounds_toArray, List.set_cons_zero, List.set_cons_succ]))); refine wpMix_nil ?_)
          go_wp2_with (go_at_call 52; (with_reducible refine useC (set_Add w5.drew mb4 _ _ r.t HST.out.file.set HK.out HTLN.out) ?_); rintro e w6 ⟨rfl, hs, hf⟩; have HC6 := Lib.hid (HST.out.add hs hf); clear hs hf)
          go_roundw
          case rel => exact ⟨k + 1, by omega, by go_num, by show WlCr _ _ _ _ _ _ _ _ _; rw [HT2.out]; exact HC6.out⟩
          case measure => simp [intOf]; omega
        | false =>
          have HT2 := Lib.hid (HTT.out.trans (if_neg (by rw [he]; decide)))
          rw [he] at HCA HPT
          clear he HTT
          go_wp2_with (refine wpList_load_part rfl 87 _ rfl g (k * 4) 4 rfl _ cur _ _ HG.out Tryd.underlying87 rfl (by kernel_rfl) hsz' _ HPT.out ?_)
          go_roundw
          case rel => exact ⟨k + 1, by omega, by go_num, by show WlCr _ _ _ _ _ _ _ _ _; rw [HT2.out]; exact HCA.out⟩
          case measure => simp [intOf]; omega
      · have hke : k = m := by omega
        have HC5 : Hid (WlCr w wr P B b mb4 (.slice A m c) ⟨d.home, xs, d.syn⟩ (Wl.turns xs)) := by
          have := hC.out
          rw [hke, List.take_of_length_le (by rw [HML.out]; exact Nat.le_refl _)] at this
          exact this
        have hkI : ¬ (k : Int) < m := by omega
        have hmk := HML.out
        subst hmk
        obtain ⟨g, hRA, hg1, hg2, hg3, hg4, -, -⟩ := WlCr.rwa (d := ⟨d.home, xs, d.syn⟩) HC5.out
        obtain ⟨w5, hw5⟩ : ∃ x, x = wr := ⟨_, rfl⟩
        subst hw5
        have HX : Hid (∀ W, Fr [g] w5 W → W.cell? ⟨B, 0, none⟩ = some (.pointer (some ⟨b, 0, none⟩)) ∧ W.cell? ⟨b, 8, none⟩ = some (.slice A xs.length c) ∧ W.frozen? ⟨b, 8, none⟩ = false) := fun W hW => by
          obtain ⟨q0, q8, _, _⟩ := HC5.out.cells HHL.out
          exact ⟨hW.cell q0 (by simp; omega), hW.cell q8 (by simp; omega), free_block (hW.get HC5.out.file.file (by simp; omega)) 8 none⟩
        have hWC : WlC w5.drew B b mb4 (Wl.turns xs) := by
          obtain ⟨q0, _, _, q10⟩ := HC5.out.cells HHL.out
          exact ⟨q0, q10, HC5.out.file.set⟩
        have HDL := Lib.hid (wl_del w5.drew A g c xs B b mb4 (Wl.turns xs) (hRA.fr ((Fr.refl [] w5).drew) (by simp)) hWC HI.out hm60 hcm ⟨hg1, hg2, hg3⟩)
        clear hke hC hrwa hRA hWC hlt hk
        go_wp2_with fail
        (refine wp_region_mix (Fr [g] w5 ·) 7 [(true, 0), (true, 1), (true, 2), (true, 3), (true, 4), (false, 5), (false, 6)] (by kernel_rfl) (by kernel_rfl) ((Fr.refl _ _).drew) ?_; simp only [pickOps, List.map_cons, List.map_nil, List.getD_cons_zero, List.getD_cons_succ, List.drop_succ_cons, List.drop_zero])
        (iterate 5 (first | (refine wpMix_take (v := ?_) (by rfl) ?_ ?_; rotate_left; (focus (intro W hW; obtain ⟨q0, q8, q9⟩ := HX.out W hW; go_simp; (try with_reducible rfl); done)); try simp only [Act.put, List.setIfInBounds_toArray, List.set_cons_zero, List.set_cons_succ]) | (refine wpMix_leave (by rfl) ?_; try simp only [Act.put, List.setIfInBounds_toArray, List.set_cons_zero, List.set_cons_succ])))
        refine wpMix_walk ?_
        go_wp2
        refine MixQ.mk ((Fr.refl _ _).drew) ?_
        refine wpMix_walk ?_
        go_wp2_with (go_at_call 53; (with_reducible refine useC HDL.out ?_); rintro e w6 ⟨rfl, hf, hra⟩; rw [Wl.stay_last] at hra ⊢; have HF6 : Hid (Fr [g] w5 w6) := ((Fr.refl [g] w5).drew).trans hf; have HRA := Lib.hid hra; clear hf hra)
        refine MixQ.mk (HF6.out) ?_
        refine wpMix_nil ?_
        have HC6 := Lib.hid (HC5.out.dele HHL.out HF6.out ⟨hg1, hg2, hg3, hg4⟩ (HRA.out.own hcm) (fun x hx => HRA.out.ob hx))
        obtain ⟨-, q8, q9⟩ := HX.out w6 HF6.out
        obtain ⟨q0, -, -⟩ := HX.out w6 HF6.out
        go_wp2_with (refine wpList_store_one rfl 81 _ _ rfl b 8 _ _ rfl rfl (by kernel_rfl) rfl rfl q8 q9 ?_; intro w7 hw7; have HC7 : Hid (WlCr w w7 P B b mb4 (.slice A (Wl.last xs).length c) ⟨d.home, Wl.last xs, d.syn⟩ (Wl.turns xs)) := (by rw [hw7]; exact HC6.out); clear hw7 q0 q8 q9; obtain ⟨c0, c8, c9, c10⟩ := HC7.out.cells HHL.out; have hfz := HC7.out.file.free 9; have hbl := HC7.out.file.lt.1)
        (refine wp_region_mixq 6 [(true, 0), (true, 1), (true, 2), (true, 3), (true, 4), (true, 5)] (by kernel_rfl) (by kernel_rfl) ?_; simp only [pickOps, List.map_cons, List.map_nil, List.getD_cons_zero, List.getD_cons_succ, List.drop_succ_cons, List.drop_zero]; (iterate 6 (first | (refine wpMix_take (v := ?_) (by rfl) ?_ ?_; rotate_left; (focus (intro W hW; subst hW; go_simp; (try with_reducible rfl); done)); try simp only [Act.put, List.setIfInBounds_toArray, List.set_cons_zero, List.set_cons_succ]) | (refine wpMix_leave (by rfl) ?_; try simp only [Act.put, List.setIfInBounds_toArray, List.set_cons_zero, List.set_cons_succ]))); refine wpMix_nil ?_)
        go_wp2
        go_ret
        have HC8 := (HC7.out.step ((Fr.refl [] w7).drew)).setSyn HHL.out (Wl.last xs).length
        have hok := Wl.crash_ok HO.out xs.length
        rw [er.out] at hok
        rw [← HXS.out] at hok ⊢
        refine ⟨rfl, ⟨hok, mb4, .slice A (Wl.last xs).length c, ?_⟩, HC8.fr⟩
        rw [Wl.turns_last]
        exact HC8.file
  · have e1 := decide_eq_false hn
    have er := Lib.hid (show Wl.crash d n = (d, 1) from by unfold Wl.crash; rw [if_neg hn])
    clear hn
    rw [er.out]
    go_enter Tryd.func29, Tryd.ntmps29
    go_wp2_with fail
    revert hF0 HC0 c0 c8 c9 c10
    generalize (w.alloc (.cells #[.pointer (some ⟨b, 0, none⟩)] 53)) = w1
    generalize hBB : w.heap.size = B
    intro hF0 HC0 c0 c8 c9 c10
    (refine wp_region_mixq 10 [(true, 0), (true, 1), (true, 2), (true, 3), (true, 4), (true, 5), (true, 6), (true, 7), (true, 8), (true, 9)] (by kernel_rfl) (by kernel_rfl) ?_; simp only [pickOps, List.map_cons, List.map_nil, List.getD_cons_zero, List.getD_cons_succ, List.drop_succ_cons, List.drop_zero]; (iterate 10 (first | (refine wpMix_take (v := ?_) (by rfl) ?_ ?_; rotate_left; (focus (intro W hW; subst hW; go_simp; (try with_reducible rfl); done)); try simp only [Act.put, List.setIfInBounds_toArray, List.set_cons_zero, List.set_cons_succ]) | (refine wpMix_leave (by rfl) ?_; try simp only [Act.put, List.setIfInBounds_toArray, List.set_cons_zero, List.set_cons_succ]))); refine wpMix_nil ?_)
    go_wp2_with (go_at_call 39; (with_reducible refine useC (within_is _ _ _ false _ e1) ?_); rintro e w2 ⟨rfl, rfl⟩)
    go_ret
    exact WlAns.none HH.out rfl hF0.out.drew
end Go.Proofs.YtmhmbgkpojgbbaaDoor
