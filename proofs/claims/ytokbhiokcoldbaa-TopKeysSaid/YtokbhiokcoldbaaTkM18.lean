/- What the laws on package lsm hold: a store beside rows; the closed fact; filled. -/
import Derived.Handy
import Derived.Test.YtokbhiokcoldbaaTkM09
import Derived.Test.YtokbhiokcoldbaaTkM17
namespace Go.Proofs.Ytokbhiokcoldbaa
open Go.RowKit

/-- The store m (its block b) in the world wr of a call that began at w; its blocks are those of P. -/
structure LsI (w wr : World) (P : Nat → Prop) (b : Nat) (m : Ls.M) : Prop where
  file : LsF P wr b m
  ok : Ls.OK m
  hP : ∀ k, P k → w.heap.size ≤ k ∧ k < wr.heap.size
  fr : Fr [] w wr
section
variable {w wr w' : World} {P P' : Nat → Prop} {b : Nat} {m m' : Ls.M} {v : Value} {xs : List Int}
theorem RunIn.inH {vm : Value} {s : SlV} {l : List (Int × Int)} (h : RunIn P w vm s l) : ∀ g, s.val.ownBlock = some g → g < w.heap.size := fun g hg => (h.row.ge g hg).2
theorem LsF.tight (h : LsF P w b m) : LsF (fun k => P k ∧ k < w.heap.size) w b m := by
  obtain ⟨vm, vr, vs, h⟩ := h
  exact ⟨vm, vr, vs, ⟨h.gb, h.lt⟩, fun g hg => ⟨h.gm g hg, (h.mem.ge g hg).2⟩, fun g hg => ⟨h.gr g hg, (h.runs.ge g hg).2⟩, h.file, h.mem, h.runs, h.len, fun i hi => ⟨(h.each i hi).row, (h.each i hi).apart, fun g hg => ⟨(h.each i hi).inP g hg, (h.each i hi).inH g hg⟩⟩⟩
theorem LsI.step (h : LsI w wr P b m) (hf : Fr [] wr w') : LsI w w' P b m := ⟨h.file.keep hf, h.ok, fun k hk => ⟨(h.hP k hk).1, Nat.lt_of_lt_of_le (h.hP k hk).2 hf.size⟩, h.fr.trans hf⟩
theorem LsI.turn (h : LsI w wr P b m) (hO : Ls.OK m') {e : Ending} (ha : LsAns P b v m' wr e w') : e = .returned v ∧ LsI w w' (Nx P wr w') b m' ∧ FrP P wr w' := by
  obtain ⟨h1, h2, h3⟩ := ha
  exact ⟨h1, ⟨h2.tight, hO, fun k hk => ⟨hk.1.elim (fun hp => (h.hP k hp).1) (fun hp => Nat.le_trans h.fr.size hp), hk.2⟩, h3.fr h.fr (fun k hk => (h.hP k hk).1)⟩, h3⟩
theorem RowO.ofL (h : LsI w wr P b m) {e : Ending} (hn : NewRow xs wr e w') : ∃ v, e = .returned v ∧ RowO P w' v xs ∧ Fr [] wr w' := RowO.ofR (fun k hk => (h.hP k hk).2) hn
theorem RowO.ofRn (h : LsI w wr P b m) {n : Int} {e : Ending} (hn : LsRn n xs wr e w') : ∃ v, e = .returned (.tuple #[.int .i64 n, v]) ∧ RowO P w' v xs ∧ Fr [] wr w' := by
  obtain ⟨v, g, rfl, hg, hs, hf⟩ := hn
  obtain ⟨v', e1, h1, h2⟩ := RowO.ofL h (e := .returned v) ⟨v, g, rfl, hg, hs, hf⟩
  injection e1 with e1
  subst e1
  exact ⟨v, rfl, h1, h2⟩
end
theorem LsI.made {w wr w' : World} {b : Nat} (h0 : Fr [] w wr) (h : LsF (wr.heap.size ≤ ·) w' b Ls.new) (hf : Fr [] wr w') : LsI w w' (fun k => wr.heap.size ≤ k ∧ k < w'.heap.size) b Ls.new :=
  ⟨h.tight, Ls.new_ok, fun _ hk => ⟨Nat.le_trans h0.size hk.1, hk.2⟩, h0.trans hf⟩
theorem Ls.OK.put {m : Ls.M} (h : Ls.OK m) (k v : Int) : Ls.OK (Ls.put m k v) := by
  unfold Ls.put
  split
  · exact h.down ⟨by show -1 ≤ v; omega, by show v ≤ 1000; omega⟩
  · exact h
theorem Ls.OK.drop {m : Ls.M} (h : Ls.OK m) (k : Int) : Ls.OK (Ls.down m (k, -1)) := h.down ⟨by show (-1 : Int) ≤ -1; omega, by show (-1 : Int) ≤ 1000; omega⟩
namespace Ls
def fa : M := put new 1 5
def fb : M := flush fa
def fc : M := put fb 1 6
theorem fact_1 : putErr new 1 5 = 0 := by decide
theorem fact_2 : putErr fb 1 6 = 0 := by decide
theorem fact_3 : getE fc 1 = 0 := by decide
theorem fact_4 : getV fc 1 = 6 := by decide
theorem fact_5 : lens fc = [1] := by decide
theorem fact_6 : fc.mem.length = 1 := by decide
end Ls
theorem RowO.sl1 {P : Nat → Prop} {w : World} {v : Value} {xs : List Int} (h : RowO P w v xs) : ∃ A c, v = .slice A xs.length c := by
  obtain ⟨g, _, hs⟩ := h
  obtain ⟨A, o, c, rfl, -, -, -⟩ := hs.form
  exact ⟨A, c, rfl⟩
set_option maxRecDepth 100000 in
set_option maxHeartbeats 1000000 in
theorem ls_fact (w : World) : Calls Try.prog 19 #[] w (OkT w) := by
  have a1 := Lib.hid Ls.fact_1
  have a2 := Lib.hid Ls.fact_2
  have a3 := Lib.hid Ls.fact_3
  have a4 := Lib.hid Ls.fact_4
  have a5 := Lib.hid Ls.fact_5
  have a6 := Lib.hid Ls.fact_6
  have o1 := Lib.hid (Ls.new_ok.put 1 5)
  have o2 := Lib.hid (show Ls.OK Ls.fb from o1.out.flush)
  have o3 := Lib.hid (show Ls.OK Ls.fc from o2.out.put 1 6)
  have HN := Lib.hid (ls_New w)
  go_enter Try.func19, Try.ntmps19
  go_wp2_with (first
    | (go_at_call 24; (with_reducible refine useC HN.out ?_); rintro e w1 ⟨rfl, hs, hf⟩; obtain ⟨P1, b, hb, HS1⟩ : ∃ P b, w.heap.size = b ∧ Hid (LsI w w1 P b Ls.new) := ⟨_, _, rfl, LsI.made (Fr.refl [] w) hs hf⟩; rw [hb]; have HC1 := Lib.hid (ls_Put w1 P1 b Ls.new 1 5 HS1.out.file HS1.out.ok); rw [a1.out] at HC1; clear hs hf hb)
    | (go_at_call 27; (with_reducible refine useC HC1.out ?_); rintro e w2 ha; obtain ⟨rfl, hs, -⟩ := HS1.out.turn o1.out ha; rw [show errV 0 = .nilIface from rfl]; obtain ⟨P2, HS2⟩ : ∃ P, Hid (LsI w w2 P b Ls.fa) := ⟨_, hs⟩; have HC2 := Lib.hid (ls_Flush w2 P2 b Ls.fa HS2.out.file (by decide) (by decide)); clear ha hs HC1)
    | (go_at_call 38; (with_reducible refine useC HC2.out ?_); rintro e w3 ha; obtain ⟨rfl, hs, -⟩ := HS2.out.turn o2.out ha; obtain ⟨P3, HS3⟩ : ∃ P, Hid (LsI w w3 P b Ls.fb) := ⟨_, hs⟩; have HC3 := Lib.hid (ls_Put w3 P3 b Ls.fb 1 6 HS3.out.file HS3.out.ok); rw [a2.out] at HC3; clear ha hs HC2)
    | (go_at_call 27; (with_reducible refine useC HC3.out ?_); rintro e w4 ha; obtain ⟨rfl, hs, -⟩ := HS3.out.turn o3.out ha; rw [show errV 0 = .nilIface from rfl]; obtain ⟨P4, HS4⟩ : ∃ P, Hid (LsI w w4 P b Ls.fc) := ⟨_, hs⟩; have HC4 := Lib.hid (ls_Get w4 P4 b Ls.fc 1 HS4.out.file HS4.out.ok); rw [a3.out, a4.out, show errV 0 = .nilIface from rfl] at HC4; clear ha hs HC3)
    | (go_at_call 29; (with_reducible refine useC HC4.out ?_); rintro e w5 ⟨rfl, hf⟩; have HS5 := Lib.hid (HS4.out.step hf); have HC5 := Lib.hid (ls_Runs w5 P4 b Ls.fc HS5.out.file HS5.out.ok); rw [a5.out, a6.out] at HC5; clear hf HC4)
    | (go_at_call 21; (with_reducible refine useC HC5.out ?_); rintro e w6 hn; obtain ⟨v6, rfl, hr, hf⟩ := RowO.ofRn HS5.out hn; obtain ⟨g6, -, hs6⟩ := hr; obtain ⟨A6, o6, c6, hv6, -, -, -⟩ := hs6.form; subst hv6; have HL6 : Hid (Sl w6 (.slice A6 1 c6) g6 [1]) := hs6; have HF6 := Lib.hid (HS5.out.fr.trans hf); clear hn hf HC5 hs6)
    | (have HL7 := HL6; go_at_call 17; (with_reducible refine useC (ints_same _ _ _ g6 w6.heap.size [1] (HL6.out.fr ((Fr.refl [] w6).alloc _) (by simp)) (sl_lit1 w6 1)) ?_); rintro e w7 ⟨rfl, hd⟩; have HF7 := Lib.hid ((HF6.out.alloc (.cells #[.int .i64 1] 3)).trans (hd.fr [])); clear hd))
  go_ret
  exact ⟨rfl, HF7.out⟩
/-- The call hands back a store in new memory. -/
def LsMade (w : World) (e : Ending) (w' : World) : Prop := ∃ b P m, e = .returned (.pointer (some ⟨b, 0, none⟩)) ∧ LsI w w' P b m
set_option maxRecDepth 100000 in
set_option maxHeartbeats 2000000 in
theorem ls_filled (w : World) (v : Value) (ls : List (List Int)) (hR : Rw w.heap.size w v ls) : Calls Try.prog 20 #[v] w (LsMade w) := by
  obtain ⟨A, g, o, cc, rfl, hm, hF⟩ := hR
  have HF := Lib.hid hF
  have HN := Lib.hid (ls_New w)
  clear hF
  go_enter Try.func20, Try.ntmps20
  go_wp2_with (go_at_call 24; (with_reducible refine useC HN.out ?_); rintro e w1 ⟨rfl, hs, hf⟩; obtain ⟨P1, b, hb, HS1⟩ : ∃ P b, w.heap.size = b ∧ Hid (LsI w w1 P b Ls.new) := ⟨_, _, rfl, LsI.made (Fr.refl [] w) hs hf⟩; rw [hb]; clear hs hf hb)
  go_loopw [4] (fun i wr => ∃ k : Nat, k ≤ ls.length ∧ k ≤ 80 ∧ i = .int .i64 k ∧ Hid (∃ P m, LsI w wr P b m)) (fun i _ => 80 - (intOf i).toNat)
  case atStart => exact ⟨0, Nat.zero_le _, Nat.zero_le _, rfl, P1, _, HS1.out⟩
  case round =>
    clear HS1
    obtain ⟨k, hk, hk8, rfl, hS⟩ := hrel
    obtain ⟨P, m, hS2⟩ := hS.out
    by_cases hin : k < ls.length ∧ k < 80
    · obtain ⟨hlt, h80⟩ := hin
      obtain ⟨rfl, hg⟩ := HF.out.1 (by omega)
      obtain ⟨u, kb, hcell, hkb, hsl, _⟩ := (HF.out.below (hS2.fr.toBelow (Nat.le_refl _) (by simp))).2 k hlt
      obtain ⟨A', o', c', rfl, hm', hA', hc'⟩ := hsl.form
      have i0 : (0 : Int) ≤ k := by omega
      have i1 : (k : Int) < ls.length := by omega
      have i4 : (k : Int) < 80 := by omega
      have H2 := Lib.hid hS2
      clear hsl hS2 hS
      by_cases hl1 : (nthR ls k).length = 1
      · obtain rfl := hA' (by omega)
        have c0 := hc' 0 (by omega)
        rw [Nat.add_zero] at c0
        rw [hl1] at hcell
        clear hc' hA' hl1 hkb
        generalize nth (nthR ls k) 0 = x0 at *
        have HC := Lib.hid (ls_Drop wr P b m x0 H2.out.file H2.out.ok)
        go_wp2_with (go_at_call 39; (with_reducible refine useC HC.out ?_); intro e w3 ha; obtain ⟨rfl, hs, -⟩ := H2.out.turn (H2.out.ok.drop x0) ha; have H3 : Hid (∃ P m, LsI w w3 P b m) := ⟨_, _, hs⟩; clear ha hs HC)
        go_roundw
        case rel => exact ⟨k + 1, by omega, by omega, by go_num, H3.out⟩
        case measure => simp [intOf]; omega
      · have b1 : (((nthR ls k).length : Int) == 1) = false := beq_eq_false_iff_ne.2 (by omega)
        by_cases hl2 : (nthR ls k).length = 2
        · obtain rfl := hA' (by omega)
          have c0 := hc' 0 (by omega)
          have c1 := hc' 1 (by omega)
          rw [Nat.add_zero] at c0
          rw [hl2] at hcell
          clear hc' hA' hl1 hl2 hkb b1
          generalize nth (nthR ls k) 0 = x0 at *
          generalize nth (nthR ls k) 1 = x1 at *
          have HC := Lib.hid (ls_Put wr.drew P b m x0 x1 (H2.out.file.keep (Fr.refl [] wr).drew) H2.out.ok)
          have H2d := Lib.hid (H2.out.step (Fr.refl [] wr).drew)
          go_wp2_with fail
          (refine wp_region_mixq 7 [(true, 0), (true, 1), (true, 2), (true, 3), (true, 4), (true, 5), (true, 6)] (by kernel_rfl) (by kernel_rfl) ?_; simp only [pickOps, List.map_cons, List.map_nil, List.getD_cons_zero, List.getD_cons_succ, List.drop_succ_cons, List.drop_zero]; (iterate 7 (first | (refine wpMix_take (v := ?_) (by rfl) ?_ ?_; rotate_left; (focus (intro W hW; subst hW; go_simp; (try with_reducible rfl); done)); try simp only [Act.put, List.setIfInBounds_toArray, List.set_cons_zero, List.set_cons_succ]) | (refine wpMix_leave (by rfl) ?_; try simp only [Act.put, List.setIfInBounds_toArray, List.set_cons_zero, List.set_cons_succ]))); refine wpMix_nil ?_)
          go_wp2_with (go_at_call 27; (with_reducible refine useC HC.out ?_); intro e w3 ha; obtain ⟨rfl, hs, -⟩ := H2d.out.turn (H2.out.ok.put x0 x1) ha; have H3 : Hid (∃ P m, LsI w w3 P b m) := ⟨_, _, hs⟩; clear ha hs HC)
          go_roundw
          case rel => exact ⟨k + 1, by omega, by omega, by go_num, H3.out⟩
          case measure => simp [intOf]; omega
        · have b2 : (((nthR ls k).length : Int) == 2) = false := beq_eq_false_iff_ne.2 (by omega)
          by_cases hl3 : (nthR ls k).length = 3
          · rw [hl3] at hcell
            have hml := H2.out.ok.mem
            have hrl := H2.out.ok.len
            have hmm := H2.out.ok.many
            have HC := Lib.hid (ls_Flush wr P b m H2.out.file (by omega) (by omega))
            clear hc' hA' hl1 hl2 hl3 hkb b1 b2 hml hrl hmm
            go_wp2_with (go_at_call 38; (with_reducible refine useC HC.out ?_); intro e w3 ha; obtain ⟨rfl, hs, -⟩ := H2.out.turn H2.out.ok.flush ha; have H3 : Hid (∃ P m, LsI w w3 P b m) := ⟨_, _, hs⟩; clear ha hs HC)
            go_roundw
            case rel => exact ⟨k + 1, by omega, by omega, by go_num, H3.out⟩
            case measure => simp [intOf]; omega
          · have b3 : (((nthR ls k).length : Int) == 3) = false := beq_eq_false_iff_ne.2 (by omega)
            by_cases hl4 : (nthR ls k).length = 4
            · rw [hl4] at hcell
              have HC := Lib.hid (ls_Merge wr P b m H2.out.file H2.out.ok)
              clear hc' hA' hl1 hl2 hl3 hl4 hkb b1 b2 b3
              go_wp2_with (go_at_call 40; (with_reducible refine useC HC.out ?_); intro e w3 ha; obtain ⟨rfl, hs, -⟩ := H2.out.turn H2.out.ok.merge ha; have H3 : Hid (∃ P m, LsI w w3 P b m) := ⟨_, _, hs⟩; clear ha hs HC)
              go_roundw
              case rel => exact ⟨k + 1, by omega, by omega, by go_num, H3.out⟩
              case measure => simp [intOf]; omega
            · have b4 : (((nthR ls k).length : Int) == 4) = false := beq_eq_false_iff_ne.2 (by omega)
              clear hc' hA' hl1 hl2 hl3 hl4 hkb
              go_wp2
              go_roundw
              case rel => exact ⟨k + 1, by omega, by omega, by go_num, P, m, H2.out⟩
              case measure => simp [intOf]; omega
    · have HS2 := Lib.hid hS2
      clear hS hS2
      by_cases hlt : k < ls.length
      · have i1 : (k : Int) < ls.length := by omega
        have i4 : ¬ (k : Int) < 80 := by omega
        go_wp2
        go_ret
        exact ⟨b, P, m, rfl, HS2.out⟩
      · have i1 : ¬ (k : Int) < ls.length := by omega
        go_wp2
        go_ret
        exact ⟨b, P, m, rfl, HS2.out⟩
end Go.Proofs.Ytokbhiokcoldbaa
/- add of package btree at a leaf. -/
namespace Go.Proofs.Ytokbhiokcoldbaa
open Go.RowKit

/-- What add leaves: the node b, and what was split off it. -/
def BtA (d : Nat) (w : World) (b : Nat) (F : List Nat) (p : Bt.T d × Option (Int × Bt.T d)) (e : Ending) (w' : World) : Prop :=
  ∃ F' F2, Nd d w' b p.1 F' ∧ (F' ++ F2).Nodup ∧ (∀ y ∈ F' ++ F2, y ∈ F ∨ w.heap.size ≤ y) ∧ FrP (· ∈ F) w w' ∧
    match p.2 with
    | none => F2 = [] ∧ e = .returned (.tuple #[.int .i64 0, .pointer none])
    | some (u, r) => ∃ b2, e = .returned (.tuple #[.int .i64 u, .pointer (some ⟨b2, 0, none⟩)]) ∧ Nd d w' b2 r F2
/-- The node's keys get another row. -/
theorem nd_setK {w w2 : World} {b : Nat} {vk vc v' : Value} {kk : List Int} {l : List Int} (h : w.heap[b]? = some (.cells #[vk, vc] 63 (0, 0))) (ho : OwnR inE w 0 3 vk l) (hf : Fr (obl vk) w w2) (hn : OwnR inE w2 0 3 v' kk) (hv : Moves w vk v') :
    (w2.setCell ⟨b, 0, none⟩ v').heap[b]? = some (.cells #[v', vc] 63 (0, 0)) ∧ OwnR inE (w2.setCell ⟨b, 0, none⟩ v') 0 3 v' kk ∧ Fr (b :: obl vk) w (w2.setCell ⟨b, 0, none⟩ v') ∧ (∀ y ∈ obl v', y ∈ obl vk ∨ w.heap.size ≤ y) ∧ b ∉ obl v' := by
  have hb : b ∉ obl vk := fun hm => own_ne_block ho h (by decide) (mem_obl.1 hm)
  have h2 := hf.get h hb
  have hb' : v'.ownBlock ≠ some b := own_ne_block hn h2 (by decide)
  have hs : Fr [b] w2 (w2.setCell ⟨b, 0, none⟩ v') := (Fr.refl _ _).setCell (.inl (by simp)) _
  refine ⟨set_block h2 _, hn.kept hs (by simpa using hb'), (hf.mono (fun x hx => .inl (List.mem_cons_of_mem _ hx))).step hs (fun x hx => .inl (by simp only [List.mem_singleton] at hx; simp [hx])), fun y hy => ?_, fun hm => hb' (mem_obl.1 hm)⟩
  rcases hv with e | ⟨g, e1, e2⟩
  · exact .inl (mem_obl.2 (by rw [← e]; exact mem_obl.1 hy))
  · have := mem_obl.1 hy
    rw [e1] at this
    injection this with this
    exact .inr (by omega)
theorem obl_nodup (v : Value) : (obl v).Nodup := by
  unfold obl
  cases v.ownBlock <;> simp
theorem sl_part {w : World} {B e : Nat} {α : Type} {E : Enc α} {v : Value} {l : List α} (h : OwnR E w B e v l) {g n c : Nat} (hv : v = .slice (some ⟨g, 0, none⟩) n c) {i m c' : Nat} (hi : i ≤ l.length) (hm : m = l.length - i) (hc : m ≤ c') (hc' : c' ≤ maxLen) (o : Nat) (ho : o = i * E.k) :
    SlR E w (.slice (some ⟨g, o, none⟩) m c') g (l.drop i) := by
  subst ho
  rcases h.2 with ⟨e, _⟩ | ⟨g', cap, cur, e, hb, hg, _, _, hs, ht⟩
  · rw [e] at hv; cases hv
  · rw [e] at hv
    injection hv with e1 _ _
    injection e1 with e1
    injection e1 with e1 _ _
    subst e1
    refine .inr ⟨i * E.k, c', by rw [List.length_drop, hm], by rw [List.length_drop, ← hm]; exact hc, hc', fun j hj r hr => ?_⟩
    rw [List.length_drop] at hj
    have h1 := E.cells_get l (i + j) r (by omega) hr
    rw [cell_of_row w g' _ cur _ _ hg]
    rw [← ht, List.getElem?_take] at h1
    rw [Nat.add_mul] at h1
    split at h1
    · rw [List.getElem_drop, ← h1]
      simp
    · rw [List.getElem_drop, ← h1]
      rename_i hlt
      have hle : (i + j + 1) * E.k ≤ l.length * E.k := Nat.mul_le_mul_right _ (by omega)
      rw [Nat.succ_mul, Nat.add_mul] at hle
      omega
/-- A leaf that is split. -/
theorem nd_cut0 {w w1 : World} {b g c : Nat} {cl : Value} {kk : List Int} (h : w.heap[b]? = some (.cells #[.slice (some ⟨g, 0, none⟩) 5 c, .slice none 0 0] 63 (0, 0))) (ho : OwnR inE w 0 3 (.slice (some ⟨g, 0, none⟩) 5 c) kk) (h5 : kk.length = 5)
    (hf : Fr [] w w1) (hc : OwnR inE w1 w.heap.size 3 cl (kk.drop 3)) (w3 : World) (hw3 : w3 = (w1.alloc (.cells #[cl, .slice none 0 0] 63)).setCell ⟨b, 0, none⟩ (.slice (some ⟨g, 0, none⟩) 2 c)) :
    Nd 0 w3 b (kk.take 2) [b, g] ∧ Nd 0 w3 w1.heap.size (kk.drop 3) (w1.heap.size :: obl cl) ∧ ([b, g] ++ (w1.heap.size :: obl cl)).Nodup ∧ (∀ y ∈ w1.heap.size :: obl cl, w.heap.size ≤ y) ∧ Fr [b] w w3 := by
  have hbw := lt_of_heap h
  have hgw : g < w.heap.size := (ho.ge g rfl).2
  have hbg : b ≠ g := fun e => own_ne_block ho h (by decide) (by rw [e]; rfl)
  have hsz := hf.size
  have hsa : (w1.alloc (.cells #[cl, .slice none 0 0] 63)).heap.size = w1.heap.size + 1 := by simp
  have hfa : Fr [] w1 (w1.alloc (.cells #[cl, .slice none 0 0] 63)) := (Fr.refl _ _).alloc _
  have hf2 := hf.trans hfa
  have hb2 := hf2.get h (by simp)
  have hs : Fr [b] (w1.alloc (.cells #[cl, .slice none 0 0] 63)) w3 := by rw [hw3]; exact (Fr.refl _ _).setCell (.inl (by simp)) _
  have hcge : ∀ y ∈ obl cl, w.heap.size ≤ y ∧ y < w1.heap.size := fun y hy => hc.ge y (mem_obl.1 hy)
  have hok := (ho.kept hf2 (by simp)).kept hs (fun x hx e => by
    simp only [List.mem_singleton] at hx
    subst hx
    injection e with e
    exact hbg e.symm)
  have hct := hok.take 2 (by omega)
  have hcc := (hc.kept hfa (by simp)).kept hs (fun x hx e => by
    simp only [List.mem_singleton] at hx
    have := hcge x (mem_obl.2 e)
    omega)
  refine ⟨⟨_, by rw [hw3]; exact set_block hb2 _, hct, rfl⟩, ⟨cl, hs.get (heap_alloc_new w1 _) (by simp; omega), hcc.base', rfl⟩, ?_, fun y hy => ?_, (hf2.nil).step hs (fun x hx => .inl hx)⟩
  · rw [List.nodup_append]
    refine ⟨by simp [hbg], List.nodup_cons.2 ⟨fun hm => by have := (hcge _ hm).2; omega, obl_nodup cl⟩, fun y hy z hz => ?_⟩
    have hz' : w.heap.size ≤ z := by
      rcases List.mem_cons.1 hz with rfl | hz
      · omega
      · exact (hcge z hz).1
    simp only [List.mem_cons, List.not_mem_nil, or_false] at hy
    rcases hy with rfl | rfl <;> omega
  · rcases List.mem_cons.1 hy with rfl | hy
    · omega
    · exact (hcge y hy).1
set_option maxRecDepth 100000 in
set_option maxHeartbeats 4000000 in
theorem bt_add0 (w : World) (b : Nat) (t : List Int) (F : List Nat) (x : Int) (h : Nd 0 w b t F) (hok : t.length ≤ 4) (hu : Bt.Up t) :
    Calls Try.prog 37 #[.pointer (some ⟨b, 0, none⟩), .int .i64 x] w (BtA 0 w b F (Bt.add 0 t x)) := by
  obtain ⟨vk, hb, ho, rfl⟩ := h
  have HBS := Lib.hid (bs_own w vk t x ho hu (by omega))
  obtain ⟨A, c, hvk, -⟩ := ho.form'
  have hlb := Bt.lb_le x t
  have HINS : Hid (∀ w1, Fr [] w w1 → Calls Try.prog 53 #[vk, .int .i64 (Bt.lb x t : Nat), .slice (some ⟨w1.heap.size, 0, none⟩) 1 1] (w1.alloc (.cells #[.int .i64 x] 3)) (InsAI w 0 vk (Bt.ins t (Bt.lb x t) x))) := fun w1 hf =>
    (insI (w1.alloc (.cells #[.int .i64 x] 3)) 0 vk (Bt.lb x t) t x w1.heap.size ((ho.kept hf (by simp)).alloc _) hlb (heap_alloc_new w1 _) (fun e => by have := ((ho.kept hf (by simp)).ge _ e).2; omega) (by omega) (Nat.zero_le _)).mono fun e w' ha => ha.of (hf.alloc _)
  have HSET : Hid (∀ w2 v', InsAI w 0 vk (Bt.ins t (Bt.lb x t) x) (.returned v') w2 → OwnR inE w2 0 3 v' (Bt.ins t (Bt.lb x t) x) ∧ Moves w vk v' → _) := fun w2 v' ha hm => nd_setK hb ho (fr_grown ha.grown) hm.1 hm.2
  have HNI := Lib.hid (fun W => Lib.run_eql_slice_nil (P := Try.prog) W 61 58 none 0 0 0 0 Try.und_insP)
  have HB := Lib.hid hb
  have HO := Lib.hid ho
  have hlen := Bt.ins_len t (Bt.lb x t) x hlb
  have HBO : Hid (b ∉ obl vk) := fun hm => own_ne_block ho hb (by decide) (mem_obl.1 hm)
  obtain ⟨c0, c1, cf⟩ := nd_cells hb
  obtain ⟨kk, hkk⟩ : ∃ kk, Bt.ins t (Bt.lb x t) x = kk := ⟨_, rfl⟩
  have HADD : Hid (Bt.add 0 t x = Bt.cut0 kk) := by rw [← hkk]; rfl
  rw [hkk] at HINS HSET hlen
  clear hkk hu
  have HMP := Lib.hid (fun W (hW : Fr [] w W) => nd_cells (hW.get hb (by simp)))
  clear hb ho cf
  by_cases h4 : kk.length ≤ 4
  · have hc0 : Bt.cut0 kk = (kk, none) := by unfold Bt.cut0; rw [if_pos h4]
    have h4I : (kk.length : Int) ≤ 4 := by omega
    have HADD2 := Lib.hid (HADD.out.trans hc0)
    have HFIN : Hid (∀ w2 v' w3, InsAI w 0 vk kk (.returned v') w2 → OwnR inE w2 0 3 v' kk ∧ Moves w vk v' → w2.setCell ⟨b, 0, none⟩ v' = w3 → BtA 0 w b (b :: obl vk) (Bt.add 0 t x) (.returned (.tuple #[.int .i64 0, .pointer none])) w3) := fun w2 v' w3 ha hm e => by
      obtain ⟨k1, k2, k3, k4, k5⟩ := HSET.out w2 v' ha hm
      rw [HADD2.out]
      subst e
      refine ⟨b :: obl v', [], ⟨v', k1, k2, rfl⟩, by rw [List.append_nil]; exact List.nodup_cons.2 ⟨k5, obl_nodup v'⟩, fun y hy => ?_, (FrP.refl _ w).step k3 (fun z hz => .inl hz), rfl, rfl⟩
      rw [List.append_nil] at hy
      rcases List.mem_cons.1 hy with rfl | hy
      · exact .inl (by simp)
      · exact (k4 y hy).imp (fun h => List.mem_cons_of_mem _ h) id
    clear hc0 HADD HADD2 hlen
    subst hvk
    go_enter Try.func37, Try.ntmps37
    go_wp2_with (first
      | (go_at_call 35; (with_reducible refine useC HBS.out ?_); rintro e w1 ⟨rfl, hf⟩; have HF1 := Lib.hid hf; obtain ⟨q0, q1, -⟩ := HMP.out w1 hf; have hnl := HNI.out w1; have HI1 := Lib.hid (HINS.out w1 hf); clear hf)
      | (have hi' := HI1; go_at_call 53; (with_reducible refine useC HI1.out ?_); intro e w2 ha; obtain ⟨⟨v', he, ho2, hv2⟩, hg2⟩ := ha; subst he; obtain ⟨A', c', hv', -⟩ := ho2.form'; subst hv'; have HA := Lib.hid (HFIN.out w2 _ _ ⟨⟨_, rfl, ho2, hv2⟩, hg2⟩ ⟨ho2, hv2⟩ rfl); have hb2 := (fr_grown hg2).get HB.out HBO.out; obtain ⟨r0, -, rf⟩ := nd_cells hb2; have s0 := (nd_cells (set_block hb2 (.slice A' kk.length c') (i := 0))).1; obtain ⟨w3, hw3⟩ : ∃ w3, w2.setCell ⟨b, 0, none⟩ (.slice A' kk.length c') = w3 := ⟨_, rfl⟩; rw [hw3] at HA s0; have HW3 := Lib.hid hw3; clear hw3 hb2 ho2 hv2 hg2)
      | (have hw' := HW3; rw [HW3.out]))
    go_ret2
    exact HA.out
  · have h5 : kk.length = 5 := by omega
    have hc0 : Bt.cut0 kk = (kk.take 2, some (kk.getD 2 0, kk.drop 3)) := by unfold Bt.cut0; rw [if_neg h4]
    have HADD2 := Lib.hid (HADD.out.trans hc0)
    have H5 := Lib.hid h5
    have HFIN : Hid (∀ w2 v' w3 g' c', v' = .slice (some ⟨g', 0, none⟩) 5 c' → InsAI w 0 vk kk (.returned v') w2 → OwnR inE w2 0 3 v' kk ∧ Moves w vk v' → w2.setCell ⟨b, 0, none⟩ v' = w3 →
        (w3.heap[b]? = some (.cells #[.slice (some ⟨g', 0, none⟩) 5 c', .slice none 0 0] 63 (0, 0)) ∧ OwnR inE w3 0 3 (.slice (some ⟨g', 0, none⟩) 5 c') kk) ∧
        ∀ w4 v4 w5, Fr [] w3 w4 → OwnR inE w4 w3.heap.size 3 v4 (kk.drop 3) → (w4.alloc (.cells #[v4, .slice none 0 0] 63)).setCell ⟨b, 0, none⟩ (.slice (some ⟨g', 0, none⟩) 2 c') = w5 →
        BtA 0 w b (b :: obl vk) (Bt.add 0 t x) (.returned (.tuple #[.int .i64 (kk.getD 2 0), .pointer (some ⟨w4.heap.size, 0, none⟩)])) w5) := fun w2 v' w3 g' c' ev ha hm e => by
      obtain ⟨k1, k2, k3, k4, k5⟩ := HSET.out w2 v' ha hm
      subst e
      subst ev
      refine ⟨⟨k1, k2⟩, fun w4 v4 w5 j1 j2 j3 => ?_⟩
      obtain ⟨l1, l2, l3, l4, l5⟩ := nd_cut0 k1 k2 H5.out j1 j2 w5 j3.symm
      rw [HADD2.out]
      have hz := k3.size
      refine ⟨[b, g'], w4.heap.size :: obl v4, l1, l3, fun y hy => ?_, ((FrP.refl _ w).step k3 (fun z hz => .inl hz)).step l5 (fun z hz => .inl (by simp only [List.mem_singleton] at hz; simp [hz])), w4.heap.size, rfl, l2⟩
      rcases List.mem_append.1 hy with hy | hy
      · simp only [List.mem_cons, List.not_mem_nil, or_false] at hy
        rcases hy with rfl | rfl
        · exact .inl (by simp)
        · exact (k4 y (mem_obl.2 rfl)).imp (fun h => List.mem_cons_of_mem _ h) id
      · exact .inr (Nat.le_trans hz (l4 y hy))
    obtain ⟨u, hu⟩ : ∃ u, kk.getD 2 0 = u := ⟨_, rfl⟩
    rw [hu] at HFIN
    have HU := Lib.hid hu
    clear hu
    have HDL : Hid ((kk.drop 3).length ≤ 100000) := by show (kk.drop 3).length ≤ 100000; rw [List.length_drop]; omega
    clear hc0 HADD HADD2 hlen h4 h5
    subst hvk
    go_enter Try.func37, Try.ntmps37
    go_wp2_with (first
      | (go_at_call 35; (with_reducible refine useC HBS.out ?_); rintro e w1 ⟨rfl, hf⟩; have HF1 := Lib.hid hf; obtain ⟨q0, q1, -⟩ := HMP.out w1 hf; have hnl := HNI.out w1; have HI1 := Lib.hid (HINS.out w1 hf); clear hf)
      | (have hi' := HI1; go_at_call 53; (with_reducible refine useC HI1.out ?_); intro e w2 ha; obtain ⟨⟨v', he, ho2, hv2⟩, hg2⟩ := ha; subst he; obtain ⟨g', c', hv', hc5, hcm, -⟩ := own_cellI ho2 (by have := H5.out; omega); rw [H5.out] at hv' hc5; subst hv'; have hfin := HFIN.out w2 _ _ g' c' rfl ⟨⟨_, rfl, ho2, hv2⟩, hg2⟩ ⟨ho2, hv2⟩ rfl; have hb2 := (fr_grown hg2).get HB.out HBO.out; obtain ⟨r0, -, rf⟩ := nd_cells hb2; obtain ⟨w3, hw3⟩ : ∃ w3, w2.setCell ⟨b, 0, none⟩ (.slice (some ⟨g', 0, none⟩) 5 c') = w3 := ⟨_, rfl⟩; rw [hw3] at hfin; obtain ⟨⟨hb3, ho3⟩, hfin⟩ := hfin; obtain ⟨s0, s1, sf⟩ := nd_cells hb3; obtain ⟨g9, c9, e9, -, -, hcl⟩ := own_cellI ho3 (by have := H5.out; omega); rw [H5.out] at e9; injection e9 with e9 e11 e10; injection e9 with e9; injection e9 with e9 e12 e13; subst e9 e10; clear e11 e12 e13; have s2 := hcl 2 (by have := H5.out; omega); have hk2 : kk.getD 2 0 = kk[2]'(by have := H5.out; omega) := (by simp [List.getD, H5.out]); rw [← hk2, HU.out] at s2; have HSL := Lib.hid (sl_part (i := 3) (m := 2) (c' := c' - 3) ho3 rfl (by have := H5.out; omega) (by rw [H5.out]) (by omega) (by omega) 3 rfl); have HCL := Lib.hid (cloneI w3 _ g' _ HSL.out HDL.out); have HA := Lib.hid hfin; have HW3 := Lib.hid hw3; have HB3 := Lib.hid hb3; have hc3 : ¬ c' = 3 := (by omega); have hc3I : (3 : Int) ≤ c' := (by omega); have hc2I : (2 : Int) ≤ c' := (by omega); have hc0' : ¬ c' = 0 := (by omega); clear hw3 hb2 ho2 hv2 hg2 hfin hb3 ho3 hcl hk2)
      | (have hw' := HW3; rw [HW3.out])
      | (have hi' := HCL; go_at_call 33; (with_reducible refine useC HCL.out ?_); rintro e w4 ⟨v4, rfl, ho4, hf4⟩; obtain ⟨A4, k4, hv4, -⟩ := ho4.form'; obtain ⟨L4, hL4⟩ : ∃ L4, (kk.drop 3).length = L4 := ⟨_, rfl⟩; rw [hL4] at hv4; clear hL4; subst hv4; have hbb := hf4.get HB3.out (by simp); obtain ⟨t0, t1, tf⟩ := nd_cells hbb; have hb4 := lt_of_heap hbb; have HA4 := Lib.hid (HA.out w4 _ _ hf4 ho4 rfl); have hnl := HNI.out; clear ho4 hf4 hbb))
    go_ret2
    have hlast := HA4.out
    rw [World.setCell_alloc_past _ _ _ _ hb4] at hlast
    exact hlast
end Go.Proofs.Ytokbhiokcoldbaa
