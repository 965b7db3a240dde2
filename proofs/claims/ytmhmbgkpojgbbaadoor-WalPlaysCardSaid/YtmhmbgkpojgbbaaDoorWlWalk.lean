/- The contracts of package wal's functions: turn, down, Write, End, Sync, Log, New. -/
import Derived.Test.YtmhmbgkpojgbbaaDoorWlSt
import Derived.Test.YtmhmbgkpojgbbaaDoorMix
import Derived.Test.YtmhmbgkpojgbbaaDoorCopy
import Derived.Handy
namespace Go.Proofs.YtmhmbgkpojgbbaaDoor
open Go.RowKit

theorem i64_turn {t : Int} (h : 0 ≤ t ∧ t ≤ 19) : I64 t := by unfold I64; omega
theorem wl_turn (w : World) (P : Nat → Prop) (b : Nat) (d : Wl.D) (t : Int) (h : WlF P w b d) :
    Calls Tryd.prog 50 #[.pointer (some ⟨b, 0, none⟩), .int .i64 t] w fun e w' => e = .returned (errV (Wl.turn d.log t)) ∧ w' = w := by
  obtain ⟨hO, mb, lv, hB⟩ := h
  obtain ⟨c8, c9, c10⟩ := hB.cells hO.home
  have HS := Lib.hid hB.set
  have HH := Lib.hid (Wl.turns_has d.log t)
  clear hB
  by_cases ht : 0 ≤ t ∧ t ≤ 19
  · have e1 := decide_eq_true ht
    have HK := Lib.hid (i64_turn ht)
    cases he : Wl.ended d.log t with
    | true =>
      have er := Lib.hid (show Wl.turn d.log t = 7 from by unfold Wl.turn; rw [if_pos ht, if_pos he])
      have HE := Lib.hid (HH.out.trans he)
      clear ht he
      go_enter Tryd.func50, Tryd.ntmps50
      go_wp2_with (first
        | (go_at_call 39; (with_reducible refine useC (within_is _ _ _ true _ e1) ?_); rintro e w ⟨rfl, rfl⟩)
        | (at_lookup; refine wpList_lookup_set rfl _ _ rfl HS.out Tryd.underlying3 Tryd.underlying4 Tryd.underlying80 (zero_bool _) rfl _ rfl HK.out ?_; rw [HE.out]))
      go_ret
      exact ⟨by rw [er.out]; rfl, rfl⟩
    | false =>
      have er := Lib.hid (show Wl.turn d.log t = 0 from by unfold Wl.turn; rw [if_pos ht, if_neg (by rw [he]; decide)])
      have HE := Lib.hid (HH.out.trans he)
      clear ht he
      go_enter Tryd.func50, Tryd.ntmps50
      go_wp2_with (first
        | (go_at_call 39; (with_reducible refine useC (within_is _ _ _ true _ e1) ?_); rintro e w ⟨rfl, rfl⟩)
        | (at_lookup; refine wpList_lookup_set rfl _ _ rfl HS.out Tryd.underlying3 Tryd.underlying4 Tryd.underlying80 (zero_bool _) rfl _ rfl HK.out ?_; rw [HE.out]))
      go_ret
      exact ⟨by rw [er.out]; rfl, rfl⟩
  · have e1 := decide_eq_false ht
    have er := Lib.hid (show Wl.turn d.log t = 1 from by unfold Wl.turn; rw [if_neg ht])
    clear ht
    go_enter Tryd.func50, Tryd.ntmps50
    go_wp2_with (go_at_call 39; (with_reducible refine useC (within_is _ _ _ false _ e1) ?_); rintro e w ⟨rfl, rfl⟩)
    go_ret
    exact ⟨by rw [er.out]; rfl, rfl⟩
/-- What a record more leaves: nothing but the log is another. -/
def WlDown (P : Nat → Prop) (b mb : Nat) (d : Wl.D) (r : Wl.R) (L : List Int) (w : World) (e : Ending) (w' : World) : Prop := e = .returned .nilIface ∧ (∃ lv, WlB (OrNew P w) w' b mb lv ⟨d.home, d.log ++ [r], d.syn⟩ L) ∧ FrP P w w'
theorem wl_down_full (w : World) (P : Nat → Prop) (b mb : Nat) (lv : Value) (d : Wl.D) (r : Wl.R) (L : List Int) (hB : WlB P w b mb lv d L) (hl : d.home.length = 8) (hn : d.log.length = 60) :
    Calls Tryd.prog 51 #[.pointer (some ⟨b, 0, none⟩), .agg #[.int .i64 r.t, .int .i64 r.b, .int .i64 r.v, .bool r.e]] w fun e w' => e = .returned (errV 4) ∧ Fr [] w w' := by
  obtain ⟨c8, c9, c10⟩ := hB.cells hl
  obtain ⟨A, c, hlv⟩ : ∃ A c, lv = .slice A 60 c := by
    rcases hB.own with ⟨h, _⟩ | ⟨g, cap, cur, rfl, _⟩
    · rw [h] at hn; cases hn
    · exact ⟨_, cap, by rw [hn]⟩
  subst hlv
  have hlt := hB.lt.1
  clear hB hn
  go_enter Tryd.func51, Tryd.ntmps51
  go_wp2
  go_ret
  exact ⟨rfl, (Fr.refl _ _).alloc _⟩
set_option maxRecDepth 100000 in
set_option maxHeartbeats 1000000 in
theorem wl_down (w : World) (P : Nat → Prop) (b mb : Nat) (lv : Value) (d : Wl.D) (r : Wl.R) (L : List Int) (hB : WlB P w b mb lv d L) (hl : d.home.length = 8) (hn : d.log.length < 60) :
    Calls Tryd.prog 51 #[.pointer (some ⟨b, 0, none⟩), .agg #[.int .i64 r.t, .int .i64 r.b, .int .i64 r.v, .bool r.e]] w (WlDown P b mb d r L w) := by
  obtain ⟨c8, c9, c10⟩ := hB.cells hl
  obtain ⟨A, c, hlv⟩ : ∃ A c, lv = .slice A d.log.length c := by
    rcases hB.own with ⟨h, rfl⟩ | ⟨g, cap, cur, rfl, _⟩
    · exact ⟨none, 0, by rw [h]; rfl⟩
    · exact ⟨_, cap, rfl⟩
  have HB := Lib.hid hB
  have HL := Lib.hid hl
  have HLV := Lib.hid hlv
  subst hlv
  have hne : ((d.log.length : Int) == 60) = false := by simp; omega
  have hlt := hB.lt.1
  have hnb := Lib.hid hB.ne2
  have HB1 : Hid (WlB P (w.alloc (.cells #[.int .i64 r.t, .int .i64 r.b, .int .i64 r.v, .bool r.e] 87)) b mb (.slice A d.log.length c) d L) := hB.keep ((Fr.refl _ _).alloc _)
  have HX : Hid ((w.alloc (.cells #[.int .i64 r.t, .int .i64 r.b, .int .i64 r.v, .bool r.e] 87)).heap[w.heap.size]? = some (.cells #[.int .i64 r.t, .int .i64 r.b, .int .i64 r.v, .bool r.e] 87 (0, 0))) := heap_alloc_new w _
  have HF : Hid (Fr [] w (w.alloc (.cells #[.int .i64 r.t, .int .i64 r.b, .int .i64 r.v, .bool r.e] 87))) := (Fr.refl _ _).alloc _
  clear hB hl
  go_enter Tryd.func51, Tryd.ntmps51
  go_wp2_with fail
  revert HB1 HX HF
  generalize (w.alloc (.cells #[.int .i64 r.t, .int .i64 r.b, .int .i64 r.v, .bool r.e] 87)) = w1
  intro HB1 HX HF
  have hxn : ∀ g, (Value.slice A d.log.length c).ownBlock = some g → g ≠ w.heap.size := fun g hg e => by have := (HB.out.lt.2.2 g hg); omega
  have HRD : Hid (∀ W, Fr (Value.slice A d.log.length c).ownBlock.toList w1 W → (W.cell? ⟨b, 8, none⟩ = some (.slice A d.log.length c) ∧ W.frozen? ⟨b, 8, none⟩ = false) ∧ W.cell? ⟨w.heap.size, 0, none⟩ = some (.int .i64 r.t) ∧ W.cell? ⟨w.heap.size, 1, none⟩ = some (.int .i64 r.b) ∧ W.cell? ⟨w.heap.size, 2, none⟩ = some (.int .i64 r.v) ∧ W.cell? ⟨w.heap.size, 3, none⟩ = some (.bool r.e)) := fun W hW => by
    have e1 := hW.get HB1.out.file (by simpa using hnb.out)
    have e2 := hW.get HX.out (by simp; intro e; exact hxn _ e rfl)
    refine ⟨⟨?_, free_block e1 8 none⟩, ?_, ?_, ?_, ?_⟩
    · rw [cell_of_row W b _ _ _ _ e1]; exact (wlRow_rest HL.out).1
    all_goals (rw [cell_of_row W _ _ _ _ _ e2]; rfl)
  clear c8 c9 c10
  (refine wp_region_mix (Fr (Value.slice A d.log.length c).ownBlock.toList w1 ·) 8 [(true, 0), (true, 1), (true, 2), (true, 3), (true, 4), (true, 5), (false, 6), (false, 7)] (by kernel_rfl) (by kernel_rfl) ((Fr.refl _ _).drew) ?_; simp only [pickOps, List.map_cons, List.map_nil, List.getD_cons_zero, List.getD_cons_succ, List.drop_succ_cons, List.drop_zero])
  (iterate 6 (first | (refine wpMix_take (v := ?_) (by rfl) ?_ ?_; rotate_left; (focus (intro W hW; obtain ⟨⟨q0, q1⟩, q2, q3, q4, q5⟩ := HRD.out W hW; go_simp; (try with_reducible rfl); done)); try simp only [Act.put, List.setIfInBounds_toArray, List.set_cons_zero, List.set_cons_succ]) | (refine wpMix_leave (by rfl) ?_; try simp only [Act.put, List.setIfInBounds_toArray, List.set_cons_zero, List.set_cons_succ])))
  refine wpMix_walk ?_
  go_wp2
  have HBd : Hid (WlB P w1.drew b mb (.slice A d.log.length c) d L) := HB1.out.keep ((Fr.refl [] w1).drew)
  refine MixQ.mk ((((Fr.refl _ w1).drew).alloc _)) ?_
  refine wpMix_walk ?_
  go_wp2_with (at_builtin; refine wpList_push_enc2 (E := enR) (y := r) (wr := w1.drew) Tryd.underlying81 Tryd.info_rec rfl (by decide) rfl _ _ rfl 0 (.slice A d.log.length c) d.log rfl rfl HBd.out.row rfl (by omega) (Nat.zero_le _) ?_; intro v' w2 h1 h2 h3; have HO := Lib.hid h1; have HG := Lib.hid h2; have HM := Lib.hid h3; clear h1 h2 h3)
  have HF2 : Hid (Fr (Value.slice A d.log.length c).ownBlock.toList w1 w2) := ((Fr.refl _ w1).drew).grown HG.out (fun g e => .inl (by rw [e]; simp))
  obtain ⟨A', c', rfl⟩ : ∃ A' c', v' = .slice A' (d.log.length + 1) c' := by
    obtain ⟨h1, h2⟩ := HO.out
    rcases h2 with ⟨_, h3⟩ | ⟨g, cap, cur, rfl, _⟩
    · simp at h3
    · exact ⟨some ⟨g, 0, none⟩, cap, by simp⟩
  refine MixQ.mk (HF2.out) ?_
  refine wpMix_nil ?_
  obtain ⟨⟨q0, q1⟩, _⟩ := HRD.out w2 HF2.out
  go_wp2
  go_ret
  have hnb2 : (Value.slice A' (d.log.length + 1) c').ownBlock ≠ some b := by
    rcases HM.out with e | e
    · rw [e]; exact hnb.out
    · rw [e]; intro e; injection e with e; have := HF.out.size; have : w1.drew.heap.size = w1.heap.size := rfl; omega
  have hs1 : w1.drew.heap.size = w1.heap.size := rfl
  have hs := HF.out.size
  have hgP : ∀ g, (Value.slice A' (d.log.length + 1) c').ownBlock = some g → OrNew P w g := fun g hg => by
    rcases HM.out with e | e
    · exact .inl (HB.out.gl g (by rw [← e]; exact hg))
    · rw [hg] at e
      injection e with e
      exact .inr (by omega)
  refine ⟨rfl, ⟨_, HB1.out.newLog HL.out HF2.out HO.out hnb2 (fun _ h => .inl h) hgP⟩, ?_⟩
  have hp1 : FrP P w w1 := (FrP.refl P w).step HF.out (by simp)
  have hp2 : FrP P w w2 := hp1.step HF2.out (fun x hx => .inl (HB.out.gl x (by simpa using hx)))
  exact hp2.step ((Fr.refl [b] w2).setCell (.inl (by simp)) _) (fun x hx => by simp only [List.mem_singleton] at hx; subst hx; exact .inl HB.out.gb)
theorem wl_Log (w : World) (P : Nat → Prop) (b : Nat) (d : Wl.D) (h : WlF P w b d) :
    Calls Tryd.prog 34 #[.pointer (some ⟨b, 0, none⟩)] w fun e w' => e = .returned (.tuple #[.int .i64 d.log.length, .int .i64 d.syn]) ∧ Fr [] w w' := by
  obtain ⟨hO, mb, lv, hB⟩ := h
  obtain ⟨c8, c9, c10⟩ := hB.cells hO.home
  obtain ⟨A, c, rfl⟩ := hB.form
  clear hB
  go_enter Tryd.func34, Tryd.ntmps34
  go_wp2_with fail
  (refine wp_region_mix (· = w.drew) 10 [(true, 0), (true, 1), (true, 2), (true, 3), (true, 4), (true, 5), (true, 6), (true, 7), (true, 8), (false, 9)] (by kernel_rfl) (by kernel_rfl) (rfl) ?_; simp only [pickOps, List.map_cons, List.map_nil, List.getD_cons_zero, List.getD_cons_succ, List.drop_succ_cons, List.drop_zero])
  (iterate 9 (first | (refine wpMix_take (v := ?_) (by rfl) ?_ ?_; rotate_left; (focus (intro W hW; subst hW; go_simp; (try with_reducible rfl); done)); try simp only [Act.put, List.setIfInBounds_toArray, List.set_cons_zero, List.set_cons_succ]) | (refine wpMix_leave (by rfl) ?_; try simp only [Act.put, List.setIfInBounds_toArray, List.set_cons_zero, List.set_cons_succ])))
  refine wpMix_walk ?_
  go_wp2
  refine MixQ.mk (rfl) ?_
  refine wpMix_nil ?_
  go_wp2
  go_ret2
  exact ⟨rfl, (Fr.refl _ _).drew⟩
theorem wl_Sync (w : World) (P : Nat → Prop) (b : Nat) (d : Wl.D) (h : WlF P w b d) :
    Calls Tryd.prog 31 #[.pointer (some ⟨b, 0, none⟩)] w (WlAns P b (.int .i64 d.log.length) (Wl.sync d) w) := by
  obtain ⟨hO, mb, lv, hB⟩ := h
  obtain ⟨c8, c9, c10⟩ := hB.cells hO.home
  have hfz := hB.free 9
  have HB := Lib.hid hB
  have HO := Lib.hid hO
  obtain ⟨A, c, rfl⟩ := hB.form
  clear hB hO
  go_enter Tryd.func31, Tryd.ntmps31
  go_wp2
  go_ret
  exact ⟨rfl, ⟨Wl.sync_ok HO.out, mb, _, (HB.out.setSyn HO.out.home d.log.length).imp (fun _ h => .inl h)⟩, (FrP.refl P w).step ((Fr.refl [b] w).setCell (.inl (by simp)) _) (fun x hx => by simp only [List.mem_singleton] at hx; subst hx; exact .inl HB.out.gb)⟩
theorem wl_New (w : World) : Calls Tryd.prog 24 #[] w fun e w' => ∃ b, e = .returned (.pointer (some ⟨b, 0, none⟩)) ∧ WlF (w.heap.size ≤ ·) w' b Wl.new ∧ Fr [] w w' := by
  have hmm := @run_makeMap Tryd.prog
  go_enter Tryd.func24, Tryd.ntmps24
  go_wp2
  go_ret
  refine ⟨_, rfl, ⟨Wl.new_ok, w.heap.size, .slice none 0 0, ⟨by simp, Nat.le_refl _, (fun g hg => by cases hg), ?_, OwnR.nil, (SetI.made w _ _ _).fr ((Fr.refl [] _).alloc _) (by simp)⟩⟩, ((Fr.refl _ _).alloc _).alloc _⟩
  have := heap_alloc_new (w.alloc (.map #[] 0)) (.cells #[.int .i64 0, .int .i64 0, .int .i64 0, .int .i64 0, .int .i64 0, .int .i64 0, .int .i64 0, .int .i64 0, .slice none 0 0, .int .i64 0, .map (some w.heap.size)] 83)
  rw [show (w.alloc (.map #[] 0)).heap.size = w.heap.size + 1 by simp] at this
  exact this

/-! ### Write, End -/
theorem put_new (w : World) (a b c : Int) : (w.alloc (.cells #[.int .i64 a, .int .i64 b, .int .i64 c] 49)).heap[w.heap.size]? = some (.cells #[.int .i64 a, .int .i64 b, .int .i64 c] 49 (0, 0)) := heap_alloc_new w _
theorem put_cells {w : World} {B : Nat} {a b c : Value} (h : w.heap[B]? = some (.cells #[a, b, c] 49 (0, 0))) : w.cell? ⟨B, 0, none⟩ = some a ∧ w.cell? ⟨B, 1, none⟩ = some b ∧ w.cell? ⟨B, 2, none⟩ = some c := by
  refine ⟨?_, ?_, ?_⟩ <;> rw [cell_of_row w B _ _ _ _ h] <;> rfl
theorem Wl.turn_codes (l : List Wl.R) (t : Int) : Wl.turn l t = 0 ∨ Wl.turn l t = 1 ∨ Wl.turn l t = 7 := by unfold Wl.turn; split <;> (try split) <;> simp
theorem WlAns.none {w w' : World} {P : Nat → Prop} {b : Nat} {d : Wl.D} {v : Value} {e : Ending} (h : WlF P w b d) (he : e = .returned v) (hf : Fr [] w w') : WlAns P b v d w e w' := ⟨he, (h.keep hf).imp (fun _ h => .inl h), (FrP.refl P w).step hf (by simp)⟩
set_option maxRecDepth 100000 in
set_option maxHeartbeats 1000000 in
theorem wl_Write (w : World) (P : Nat → Prop) (b : Nat) (d : Wl.D) (t k v : Int) (h : WlF P w b d) :
    Calls Tryd.prog 30 #[.pointer (some ⟨b, 0, none⟩), .agg #[.int .i64 t, .int .i64 k, .int .i64 v]] w (WlAns P b (errV (Wl.write d t k v).2) (Wl.write d t k v).1 w) := by
  have HH := Lib.hid h
  have HF : Hid (Fr [] w (w.alloc (.cells #[.int .i64 t, .int .i64 k, .int .i64 v] 49))) := (Fr.refl _ _).alloc _
  have HX := Lib.hid (put_new w t k v)
  obtain ⟨c0, c1, c2⟩ := put_cells HX.out
  obtain ⟨eW1, eW2⟩ := Wl.write_log d t k v
  rw [eW1, eW2]
  clear eW1 eW2
  have HT := Lib.hid (wl_turn (w.alloc (.cells #[.int .i64 t, .int .i64 k, .int .i64 v] 49)) P b d t (h.keep HF.out))
  clear h
  by_cases ht : Wl.turn d.log t = 0
  · rw [ht] at HT
    have EV : Hid (errV 0 = .nilIface) := rfl
    rw [EV.out] at HT
    by_cases h1 : 0 ≤ k ∧ k ≤ 7
    · have e1 := decide_eq_true h1
      by_cases h2 : 0 ≤ v ∧ v ≤ 1000
      · have e2 := decide_eq_true h2
        by_cases hn : d.log.length = 60
        · have er := Lib.hid (show Wl.wrErr d.log t k v = 4 from by unfold Wl.wrErr; rw [if_pos ht, if_pos ⟨h1, h2⟩, if_pos hn])
          have HD : Hid (∀ W, Fr [] w W → Calls Tryd.prog 51 #[.pointer (some ⟨b, 0, none⟩), .agg #[.int .i64 t, .int .i64 k, .int .i64 v, .bool false]] W fun e w' => e = .returned (errV 4) ∧ Fr [] W w') := fun W hW => by
            obtain ⟨hO, mb, lv, hB⟩ := HH.out.keep hW
            exact wl_down_full W P b mb lv d ⟨t, k, v, false⟩ _ hB hO.home hn
          clear ht h1 h2 hn
          rw [er.out, if_neg (by decide)]
          go_enter Tryd.func30, Tryd.ntmps30
          go_wp2_with (first
            | (go_at_call 50; (with_reducible refine useC HT.out ?_); rintro e w2 ⟨rfl, rfl⟩)
            | (go_at_call 39; (with_reducible refine useC (within_is _ _ _ true _ e1) ?_); rintro e w2 ⟨rfl, rfl⟩)
            | (go_at_call 39; (with_reducible refine useC (within_is _ _ _ true _ e2) ?_); rintro e w2 ⟨rfl, rfl⟩)
            | (go_at_call 51; (with_reducible refine useC (HD.out _ HF.out) ?_); rintro e w2 ⟨rfl, hf⟩; have HF2 := Lib.hid (HF.out.trans hf); clear hf))
          go_ret
          exact WlAns.none HH.out rfl HF2.out
        · have hOl := HH.out.1.len
          have er := Lib.hid (show Wl.wrErr d.log t k v = 0 from by unfold Wl.wrErr; rw [if_pos ht, if_pos ⟨h1, h2⟩, if_neg hn])
          obtain ⟨hO, mb, lv, hB⟩ := HH.out.keep HF.out
          have HD := Lib.hid (wl_down (w.alloc (.cells #[.int .i64 t, .int .i64 k, .int .i64 v] 49)) P b mb lv d ⟨t, k, v, false⟩ _ hB hO.home (by omega))
          have HO : Hid (Wl.OK ⟨d.home, d.log ++ [⟨t, k, v, false⟩], d.syn⟩) := by
            have := Wl.write_ok hO t k v
            rw [(Wl.write_log d t k v).1, if_pos er.out] at this
            exact this
          clear ht h1 h2 hn hO hB hOl
          rw [er.out, if_pos rfl]
          go_enter Tryd.func30, Tryd.ntmps30
          go_wp2_with (first
            | (go_at_call 50; (with_reducible refine useC HT.out ?_); rintro e w2 ⟨rfl, rfl⟩)
            | (go_at_call 39; (with_reducible refine useC (within_is _ _ _ true _ e1) ?_); rintro e w2 ⟨rfl, rfl⟩)
            | (go_at_call 39; (with_reducible refine useC (within_is _ _ _ true _ e2) ?_); rintro e w2 ⟨rfl, rfl⟩)
            | (go_at_call 51; (with_reducible refine useC HD.out ?_); rintro e w2 ⟨rfl, hx, hf⟩; have HR := Lib.hid (And.intro hx hf); clear hx hf))
          go_ret
          obtain ⟨⟨lv', hB'⟩, hf⟩ := HR.out
          have ht := Wl.turns_snoc d.log ⟨t, k, v, false⟩
          rw [if_neg (by simp)] at ht
          have hs := HF.out.size
          refine ⟨rfl, ⟨HO.out, mb, lv', ?_⟩, ((FrP.refl P w).step HF.out (by simp)).trans hf (fun x hx => .inl hx)⟩
          simp only [ht]
          exact hB'.imp (fun x hx => hx.elim .inl (fun hx => .inr (by omega)))
      · have e2 := decide_eq_false h2
        have er := Lib.hid (show Wl.wrErr d.log t k v = 1 from by unfold Wl.wrErr; rw [if_pos ht, if_neg (fun h => h2 h.2)])
        clear ht h1 h2
        rw [er.out, if_neg (by decide)]
        go_enter Tryd.func30, Tryd.ntmps30
        go_wp2_with (first
          | (go_at_call 50; (with_reducible refine useC HT.out ?_); rintro e w2 ⟨rfl, rfl⟩)
          | (go_at_call 39; (with_reducible refine useC (within_is _ _ _ true _ e1) ?_); rintro e w2 ⟨rfl, rfl⟩)
          | (go_at_call 39; (with_reducible refine useC (within_is _ _ _ false _ e2) ?_); rintro e w2 ⟨rfl, rfl⟩))
        go_ret
        exact WlAns.none HH.out rfl HF.out
    · have e1 := decide_eq_false h1
      have er := Lib.hid (show Wl.wrErr d.log t k v = 1 from by unfold Wl.wrErr; rw [if_pos ht, if_neg (fun h => h1 h.1)])
      clear ht h1
      rw [er.out, if_neg (by decide)]
      go_enter Tryd.func30, Tryd.ntmps30
      go_wp2_with (first
        | (go_at_call 50; (with_reducible refine useC HT.out ?_); rintro e w2 ⟨rfl, rfl⟩)
        | (go_at_call 39; (with_reducible refine useC (within_is _ _ _ false _ e1) ?_); rintro e w2 ⟨rfl, rfl⟩))
      go_ret
      exact WlAns.none HH.out rfl HF.out
  · have er := Lib.hid (show Wl.wrErr d.log t k v = Wl.turn d.log t from by unfold Wl.wrErr; rw [if_neg ht])
    have EV := Lib.hid (errV_no ht)
    rw [er.out, if_neg ht]
    rw [EV.out] at HT ⊢
    clear ht
    generalize Wl.turn d.log t = c at *
    go_enter Tryd.func30, Tryd.ntmps30
    go_wp2_with (first
      | (go_at_call 50; (with_reducible refine useC HT.out ?_); rintro e w2 ⟨rfl, rfl⟩))
    go_ret
    exact WlAns.none HH.out rfl HF.out
set_option maxRecDepth 100000 in
set_option maxHeartbeats 1000000 in
theorem wl_End (w : World) (P : Nat → Prop) (b : Nat) (d : Wl.D) (t : Int) (h : WlF P w b d) :
    Calls Tryd.prog 27 #[.pointer (some ⟨b, 0, none⟩), .int .i64 t] w (WlAns P b (errV (Wl.end_ d t).2) (Wl.end_ d t).1 w) := by
  have HH := Lib.hid h
  obtain ⟨eW1, eW2⟩ := Wl.end_log d t
  rw [eW1, eW2]
  clear eW1 eW2
  have HT := Lib.hid (wl_turn w P b d t h)
  clear h
  by_cases ht : Wl.turn d.log t = 0
  · rw [ht] at HT
    have EV : Hid (errV 0 = .nilIface) := rfl
    have EV4 : Hid (errV 4 = .iface 73 (.int .i64 4)) := rfl
    rw [EV.out] at HT
    by_cases hn : d.log.length = 60
    · have er := Lib.hid (show Wl.endErr d.log t = 4 from by unfold Wl.endErr; rw [if_pos ht, if_pos hn])
      have HD : Hid (Calls Tryd.prog 51 #[.pointer (some ⟨b, 0, none⟩), .agg #[.int .i64 t, .int .i64 0, .int .i64 0, .bool true]] w fun e w' => e = .returned (errV 4) ∧ Fr [] w w') := by
        obtain ⟨hO, mb, lv, hB⟩ := HH.out
        exact wl_down_full w P b mb lv d ⟨t, 0, 0, true⟩ _ hB hO.home hn
      clear ht hn
      rw [er.out, if_neg (by decide)]
      rw [EV4.out] at HD ⊢
      go_enter Tryd.func27, Tryd.ntmps27
      go_wp2_with (first
        | (go_at_call 50; (with_reducible refine useC HT.out ?_); rintro e w2 ⟨rfl, rfl⟩)
        | (go_at_call 51; (with_reducible refine useC HD.out ?_); rintro e w2 ⟨rfl, hf⟩; have HF2 := Lib.hid hf; clear hf))
      go_ret
      exact WlAns.none HH.out rfl HF2.out
    · have hOl := HH.out.1.len
      have er := Lib.hid (show Wl.endErr d.log t = 0 from by unfold Wl.endErr; rw [if_pos ht, if_neg hn])
      obtain ⟨hO, mb, lv, hB⟩ := HH.out
      have HD := Lib.hid (wl_down w P b mb lv d ⟨t, 0, 0, true⟩ _ hB hO.home (by omega))
      have HO : Hid (Wl.OK ⟨d.home, d.log ++ [⟨t, 0, 0, true⟩], d.syn⟩) := by
        have := Wl.end_ok hO t
        rw [(Wl.end_log d t).1, if_pos er.out] at this
        exact this
      have HK := Lib.hid (i64_turn (Wl.turn_zero ht).1)
      have HGM := Lib.hid hB.gm
      have HTL := Lib.hid (show (Wl.turns d.log).length < 1000000 from Nat.lt_of_le_of_lt (Wl.turns_len d.log) (by omega))
      clear ht hn hO hB hOl
      rw [er.out, if_pos rfl]
      go_enter Tryd.func27, Tryd.ntmps27
      go_wp2_with (first
        | (go_at_call 50; (with_reducible refine useC HT.out ?_); rintro e w2 ⟨rfl, rfl⟩)
        | (go_at_call 51; (with_reducible refine useC HD.out ?_); rintro e w2 ⟨rfl, ⟨lv', hx⟩, hf⟩; obtain ⟨c8, c9, c10⟩ := hx.cells HO.out.home; have HX := Lib.hid hx; have HR := Lib.hid hf; clear hx hf)
        | (go_at_call 52; (with_reducible refine useC (set_Add w2 mb _ _ t HX.out.set HK.out HTL.out) ?_); rintro e w3 ⟨rfl, hs, hf⟩; have HS3 := Lib.hid (And.intro hs hf); clear hs hf))
      go_ret
      have ht := Wl.turns_snoc d.log ⟨t, 0, 0, true⟩
      rw [if_pos rfl] at ht
      refine ⟨rfl, ⟨HO.out, mb, lv', ?_⟩, HR.out.step HS3.out.2 (fun x hx => by simp only [List.mem_singleton] at hx; subst hx; exact .inl HGM.out)⟩
      simp only [ht]
      exact HX.out.add HS3.out.1 HS3.out.2
  · have er := Lib.hid (show Wl.endErr d.log t = Wl.turn d.log t from by unfold Wl.endErr; rw [if_neg ht])
    have EV := Lib.hid (errV_no ht)
    rw [er.out, if_neg ht]
    rw [EV.out] at HT ⊢
    clear ht
    generalize Wl.turn d.log t = c at *
    go_enter Tryd.func27, Tryd.ntmps27
    go_wp2_with (first
      | (go_at_call 50; (with_reducible refine useC HT.out ?_); rintro e w2 ⟨rfl, rfl⟩))
    go_ret
    exact WlAns.none HH.out rfl (Fr.refl _ _)
end Go.Proofs.YtmhmbgkpojgbbaaDoor
