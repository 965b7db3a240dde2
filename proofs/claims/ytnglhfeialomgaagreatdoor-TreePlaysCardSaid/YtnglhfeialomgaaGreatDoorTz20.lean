/- Walk. -/

import Derived.Test.YtnglhfeialomgaaGreatDoorTz08
import Derived.Test.YtnglhfeialomgaaGreatDoorTz14
import Derived.Test.YtnglhfeialomgaaGreatDoorTz16
import Derived.Test.YtnglhfeialomgaaGreatDoorTz19
namespace Go.Proofs.YtnglhfeialomgaaGreatDoor
open Go.RowKit

/-- What Walk hands back. -/
def WalkA (g : Tr.G) (w : World) (e : Ending) (w' : World) : Prop := ∃ v l gv, e = .returned v ∧ (w.heap.size ≤ gv ∨ l = []) ∧ SlR strE w' v gv l ∧ Tr.WalkIs g l ∧ Fr [] w w'
set_option maxRecDepth 100000 in
set_option maxHeartbeats 4000000 in
theorem tr_Walk (w : World) (tb : Nat) (g : Tr.G) (dom : Nat → Prop) (K : Nat) (hS : TrS w tb g dom K) (hcn : Tr.Cn g) :
    Calls Tryz.prog 13 #[.pointer (some ⟨tb, 0, none⟩)] w (WalkA g w) := by
  have HS := Lib.hid hS
  have HCN := Lib.hid hcn
  have hgood : Tr.Good g [] [] := ⟨List.nodup_nil, by simp, by simp⟩
  have HE := Lib.hid (fun W hJ => tr_walk1 w tb g dom K hS hcn w.heap.size (w.heap.size + 1) 8 [] g.root [] W rfl hS.ok.root (by decide) hgood hJ)
  have HST := Lib.hid (wkJ_start w)
  have HB24 : Hid (∀ qs, Tr.Below g [] g.root qs → (qs.map (Tr.txtG g)).length ≤ 100000) := fun qs hq => by
    rw [List.length_map]
    have := hcn.bound hq.1 (fun p hp => by
      obtain ⟨r, c, hr, e, hf⟩ := (hq.2 p).1 hp
      rw [List.nil_append] at e
      subst e
      exact ⟨hr, c, hf⟩)
    have := hS.many
    omega
  clear hS hcn hgood
  go_enter Tryz.func13, Tryz.ntmps13
  go_wp2_with fail
  have hcf := wkJ_box w .nilFunc 70
  obtain ⟨hc1, hc2⟩ := hcf
  have HJ0 := Lib.hid (HST.out 70 (by decide))
  go_wp2_with fail
  generalize hW : (w.alloc (.cells #[.slice none 0 0] 30)).alloc (.cells #[.func (.func 32) #[] #[.pointer (some ⟨w.heap.size, 0, none⟩), .pointer (some ⟨w.heap.size + 1, 0, none⟩)]] 70) = w1 at *
  clear hW hc1 hc2 HST
  obtain ⟨tf, -, hfb⟩ := HJ0.out.fn
  have fc : w1.cell? ⟨w.heap.size + 1, 0, none⟩ = some (.func (.func 32) #[] #[.pointer (some ⟨w.heap.size, 0, none⟩), .pointer (some ⟨w.heap.size + 1, 0, none⟩)]) := by rw [cell_of_row w1 _ 0 _ _ _ hfb]; rfl
  have rc : w1.cell? ⟨tb, 0, none⟩ = some (.pointer (some ⟨g.root, 0, none⟩)) := by rw [cell_of_row _ _ _ _ _ _ (HS.out.step HJ0.out.fr).top]; rfl
  have HCC := Lib.hid (HE.out w1.drew (HJ0.out.keep (Fr.refl [] w1).drew))
  rw [Tr.atT_nil, show Pa.mk [47] = (⟨#[47]⟩ : ByteArray) from rfl] at HCC
  clear hfb
  (refine wp_region_mixq 5 [(true, 0), (true, 1), (true, 2), (true, 3), (true, 4)] (by kernel_rfl) (by kernel_rfl) ?_; simp only [pickOps, List.map_cons, List.map_nil, List.getD_cons_zero, List.getD_cons_succ, List.drop_succ_cons, List.drop_zero]; (iterate 5 (first | (refine wpMix_take (v := ?_) (by rfl) ?_ ?_; rotate_left; (focus (intro W hW; subst hW; go_simp; (try with_reducible rfl); done)); try simp only [Act.put, List.setIfInBounds_toArray, List.set_cons_zero, List.set_cons_succ]) | (refine wpMix_leave (by rfl) ?_; try simp only [Act.put, List.setIfInBounds_toArray, List.set_cons_zero, List.set_cons_succ]))); refine wpMix_nil ?_)
  go_wp2_with (first
    | (go_at_call 32; (with_reducible refine useC HCC.out ?_); rintro e w2 ⟨rfl, -, qs, hq, hj⟩; rw [List.nil_append] at hj; have hl24 : (qs.map (Tr.txtG g)).length ≤ 100000 := HB24.out qs hq; obtain ⟨L, hL⟩ : ∃ L, qs.map (Tr.txtG g) = L := ⟨_, rfl⟩; rw [hL] at hj hl24; have HL := Lib.hid hL; have HQ := Lib.hid hq; obtain ⟨A, c, hb, ho⟩ := hj.out; have vc : w2.cell? ⟨w.heap.size, 0, none⟩ = some (.slice A L.length c) := (by rw [cell_of_row w2 _ 0 _ _ _ hb]; rfl); have HO := Lib.hid ho; have HB := Lib.hid hb; have HF := Lib.hid hj.fr; have HSO := Lib.hid (sort_strs w2 _ _ _ ho hl24); clear hj hb ho hL hq hl24)
    | (go_at_call 33; (with_reducible refine useC HSO.out ?_); rintro e w3 ⟨rfl, ⟨gv, hg, hsl⟩, hf⟩; have hne := own_ne_block HO.out HB.out (by decide); have hb3 := hf.get HB.out (by simpa using hne); have vc3 := cell_of_row w3 w.heap.size 0 _ _ _ hb3; have HSL := Lib.hid (And.intro hg hsl); have HF3 := Lib.hid hf; clear hf hb3 hne hg hsl))
  go_ret
  refine ⟨_, srtS L, gv, rfl, ?_, HSL.out.2, ?_, HF.out.step HF3.out (fun x hx => .inr (HO.out.ge x (by simpa using hx)).1)⟩
  · rcases HSL.out.1 with h | h
    · exact .inl h
    · exact .inr (by rw [h]; simp [srtS])
  · refine Tr.walkIs_of HS.out.ok HQ.out (srtS_lt ?_) ?_
    · rw [← HL.out]; exact Tr.told_nodup HS.out.ok HQ.out
    · rw [HL.out]; exact srtS_perm L
end Go.Proofs.YtnglhfeialomgaaGreatDoor
/- What Walk hands a law; nodes made, files named where there is room; a row of three texts. -/
namespace Go.Proofs.YtnglhfeialomgaaGreatDoor
open Go.RowKit

/-- What Walk hands a law. -/
theorem trl_Walk {w0 w : World} {tb K : Nat} {g : Tr.G} {dom : Nat → Prop} (h : TrL w0 w tb g dom K) :
    Calls Tryz.prog 13 #[.pointer (some ⟨tb, 0, none⟩)] w fun e w' => ∃ v l gv, e = .returned v ∧ (w.heap.size ≤ gv ∨ l = []) ∧ SlR strE w' v gv l ∧ Tr.WalkIs g l ∧ (l.length : Int) = g.many ∧ Fr [] w w' ∧ TrL w0 w' tb g dom K :=
  (tr_Walk w tb g dom K h.s h.cn).mono fun e w' ⟨v, l, gv, he, hg, hs, hw, hf⟩ => ⟨v, l, gv, he, hg, hs, hw, h.cn.walk h.s.ok hw, hf, h.step hf⟩
theorem errV0 : errV 0 = .nilIface := rfl
/-- A node made where there is room for it. -/
theorem MakL.ok {w0 w' : World} {tb K : Nat} {g : Tr.G} {dom : Nat → Prop} {s : List UInt8} {dir : Bool} {e : Ending} {d : Nat} {x : Tr.Nme} (h : MakL w0 tb g dom K s dir e w') (h0 : Tr.addErr g s = 0) (hs : Tr.spot g s = .at_ d x) : e = .returned .nilIface ∧ ∃ c o, ¬ dom c ∧ Option.isSome o = dir ∧ TrL w0 w' tb (Tr.addG (Tr.newN g c o) d x c) (fun b => dom b ∨ b = c) (K + 1) := by
  obtain ⟨he, c, o, hc, ho, hr⟩ := h
  rw [h0, errV0] at he
  rcases hr with ⟨-, d', x', hs', h⟩ | ⟨h, -⟩
  · rw [hs] at hs'
    injection hs' with e1 e2
    subst e1 e2
    exact ⟨he, c, o, hc, ho, h⟩
  · exact absurd h0 h
theorem LinkL.ok {w0 w' : World} {tb K : Nat} {g : Tr.G} {dom : Nat → Prop} {old s : List UInt8} {e : Ending} {d n : Nat} {x : Tr.Nme} (h : LinkL w0 tb g dom K old s e w') (h0 : Tr.linkErr g old s = 0) (ha : atV g old = .ok n) (hs : Tr.spot g s = .at_ d x) : e = .returned .nilIface ∧ TrL w0 w' tb (Tr.addG g d x n) dom (K + 1) := by
  obtain ⟨he, hr⟩ := h
  rw [h0, errV0] at he
  rcases hr with ⟨-, n', d', x', ha', -, -, hs', h⟩ | ⟨h, -⟩
  · rw [hs] at hs'
    injection hs' with e1 e2
    rw [ha] at ha'
    injection ha' with e3
    subst e1 e2 e3
    exact ⟨he, h⟩
  · exact absurd h0 h
theorem slR_alloc {w : World} {v : Value} {g : Nat} {l : List (List UInt8)} (h : SlR strE w v g l) (o : Obj) : SlR strE (w.alloc o) v g l := by
  rcases h with h | ⟨a, c, e, h1, h2, h3⟩
  · exact .inl h
  · exact .inr ⟨a, c, e, h1, h2, fun i hi r hr => by
      have h4 := h3 i hi r hr
      have h5 : ∃ x, w.cell? ⟨g, a + i * strE.k + r, none⟩ = some x := by
        rw [h4]
        have hr : r < 1 := hr
        obtain rfl : r = 0 := by omega
        exact ⟨_, rfl⟩
      obtain ⟨x, hx⟩ := h5
      rw [← h4, hx]
      exact ((Fr.refl [] w).alloc o).cell hx (by simp)⟩
theorem three_lit (w : World) : SlR strE (w.alloc (.cells #[.string ⟨#[47, 97, 47]⟩, .string ⟨#[47, 97, 47, 120]⟩, .string ⟨#[47, 121]⟩] 9)) (.slice (some ⟨w.heap.size, 0, none⟩) 3 3) w.heap.size [[47, 97, 47], [47, 97, 47, 120], [47, 121]] := by
  refine .inr ⟨0, 3, rfl, by decide, by unfold maxLen; omega, fun i hi r hr => ?_⟩
  have hr : r < 1 := hr
  obtain rfl : r = 0 := by omega
  rw [cell_of_row _ _ _ _ _ _ (heap_alloc_new w _)]
  have hi : i < 3 := hi
  match i, hi with
  | 0, _ => rfl
  | 1, _ => rfl
  | 2, _ => rfl
end Go.Proofs.YtnglhfeialomgaaGreatDoor

/- did, whatever its operations leave behind; the document's NewTree. -/
namespace Go.Proofs.YtnglhfeialomgaaGreatDoor
open Go.RowKit

/-- A post that is a letter. -/
def Rp (R : Ending → World → Prop) (e : Ending) (w : World) : Prop := R e w
section
variable (w : World) (tb : Nat) (R : Ending → World → Prop) (hret : ∀ e w', R e w' → ∃ v, e = .returned v) (gl : Nat)
include hret
set_option maxRecDepth 100000 in
set_option maxHeartbeats 4000000 in
theorem tp_did2 (a s : List UInt8) (o c : Nat) (_ : 2 ≤ c) (k0 : w.cell? ⟨gl, o, none⟩ = some (.string (Pa.mk a))) (k1 : w.cell? ⟨gl, o + 1, none⟩ = some (.string (Pa.mk s)))
    (hD : a = [100] → Calls Tryz.prog 27 #[.pointer (some ⟨tb, 0, none⟩), .string (Pa.mk s)] w R)
    (hF : a = [102] → Calls Tryz.prog 28 #[.pointer (some ⟨tb, 0, none⟩), .string (Pa.mk s)] w R)
    (hX : a = [120] → Calls Tryz.prog 29 #[.pointer (some ⟨tb, 0, none⟩), .string (Pa.mk s)] w R)
    (h0 : a ≠ [100] → a ≠ [102] → a ≠ [120] → R (.returned .nilIface) w) :
    Calls Tryz.prog 11 #[.pointer (some ⟨tb, 0, none⟩), .slice (some ⟨gl, o, none⟩) 2 c] w (Rp R) := by
  have HRET := Lib.hid hret
  clear hret
  by_cases h1 : a = [100]
  · have HD := Lib.hid (hD h1)
    have e1 : ((Pa.mk a).toList == [100]) = true := by rw [mk_toList]; exact beq_iff_eq.2 h1
    clear h1 hD hF hX h0
    generalize Pa.mk a = ma at *
    generalize Pa.mk s = ms at *
    go_enter Tryz.func11, Tryz.ntmps11
    go_wp2_with (go_at_call 27; (with_reducible refine useC HD.out ?_); intro e w1 h; obtain ⟨v, hv⟩ := HRET.out _ _ h; subst hv; have HR := Lib.hid h; clear h)
    go_ret
    exact HR.out
  · have e1 : ((Pa.mk a).toList == [100]) = false := by rw [mk_toList]; exact beq_eq_false_iff_ne.2 h1
    by_cases h2 : a = [102]
    · have HF := Lib.hid (hF h2)
      have e2 : ((Pa.mk a).toList == [102]) = true := by rw [mk_toList]; exact beq_iff_eq.2 h2
      clear h1 h2 hD hF hX h0
      generalize Pa.mk a = ma at *
      generalize Pa.mk s = ms at *
      go_enter Tryz.func11, Tryz.ntmps11
      go_wp2_with (go_at_call 28; (with_reducible refine useC HF.out ?_); intro e w1 h; obtain ⟨v, hv⟩ := HRET.out _ _ h; subst hv; have HR := Lib.hid h; clear h)
      go_ret
      exact HR.out
    · have e2 : ((Pa.mk a).toList == [102]) = false := by rw [mk_toList]; exact beq_eq_false_iff_ne.2 h2
      by_cases h3 : a = [120]
      · have HX := Lib.hid (hX h3)
        have e3 : ((Pa.mk a).toList == [120]) = true := by rw [mk_toList]; exact beq_iff_eq.2 h3
        clear h1 h2 h3 hD hF hX h0
        generalize Pa.mk a = ma at *
        generalize Pa.mk s = ms at *
        go_enter Tryz.func11, Tryz.ntmps11
        go_wp2_with (go_at_call 29; (with_reducible refine useC HX.out ?_); intro e w1 h; obtain ⟨v, hv⟩ := HRET.out _ _ h; subst hv; have HR := Lib.hid h; clear h)
        go_ret
        exact HR.out
      · have e3 : ((Pa.mk a).toList == [120]) = false := by rw [mk_toList]; exact beq_eq_false_iff_ne.2 h3
        have H0 := Lib.hid (h0 h1 h2 h3)
        clear h1 h2 h3 hD hF hX h0
        generalize Pa.mk a = ma at *
        generalize Pa.mk s = ms at *
        go_enter Tryz.func11, Tryz.ntmps11
        go_wp2_with fail
        go_ret
        exact H0.out
set_option maxRecDepth 100000 in
set_option maxHeartbeats 4000000 in
theorem tp_did3 (a s t : List UInt8) (o c : Nat) (_ : 3 ≤ c) (k0 : w.cell? ⟨gl, o, none⟩ = some (.string (Pa.mk a))) (k1 : w.cell? ⟨gl, o + 1, none⟩ = some (.string (Pa.mk s))) (k2 : w.cell? ⟨gl, o + 2, none⟩ = some (.string (Pa.mk t)))
    (hL : a = [108] → Calls Tryz.prog 30 #[.pointer (some ⟨tb, 0, none⟩), .string (Pa.mk s), .string (Pa.mk t)] w.drew R)
    (hM : a = [109] → Calls Tryz.prog 31 #[.pointer (some ⟨tb, 0, none⟩), .string (Pa.mk s), .string (Pa.mk t)] w.drew R)
    (h0 : a ≠ [108] → a ≠ [109] → R (.returned .nilIface) w) :
    Calls Tryz.prog 11 #[.pointer (some ⟨tb, 0, none⟩), .slice (some ⟨gl, o, none⟩) 3 c] w (Rp R) := by
  have HRET := Lib.hid hret
  clear hret
  by_cases h1 : a = [108]
  · have HD := Lib.hid (hL h1)
    have e1 : ((Pa.mk a).toList == [108]) = true := by rw [mk_toList]; exact beq_iff_eq.2 h1
    clear h1 hL hM h0
    generalize Pa.mk a = ma at *
    generalize Pa.mk s = ms at *
    generalize Pa.mk t = mt at *
    go_enter Tryz.func11, Tryz.ntmps11
    go_wp2_with fail
    (refine wp_region_mixq 7 [(true, 0), (true, 1), (true, 2), (true, 3), (true, 4), (true, 5), (true, 6)] (by kernel_rfl) (by kernel_rfl) ?_; simp only [pickOps, List.map_cons, List.map_nil, List.getD_cons_zero, List.getD_cons_succ, List.drop_succ_cons, List.drop_zero]; (iterate 7 (first | (refine wpMix_take (v := ?_) (by rfl) ?_ ?_; rotate_left; (focus (intro W hW; subst hW; go_simp; (try with_reducible rfl); done)); try simp only [Act.put, List.setIfInBounds_toArray, List.set_cons_zero, List.set_cons_succ]) | (refine wpMix_leave (by rfl) ?_; try simp only [Act.put, List.setIfInBounds_toArray, List.set_cons_zero, List.set_cons_succ]))); refine wpMix_nil ?_)
    go_wp2_with (go_at_call 30; (with_reducible refine useC HD.out ?_); intro e w1 h; obtain ⟨v, hv⟩ := HRET.out _ _ h; subst hv; have HR := Lib.hid h; clear h)
    go_ret
    exact HR.out
  · have e1 : ((Pa.mk a).toList == [108]) = false := by rw [mk_toList]; exact beq_eq_false_iff_ne.2 h1
    by_cases h2 : a = [109]
    · have HD := Lib.hid (hM h2)
      have e2 : ((Pa.mk a).toList == [109]) = true := by rw [mk_toList]; exact beq_iff_eq.2 h2
      clear h1 h2 hL hM h0
      generalize Pa.mk a = ma at *
      generalize Pa.mk s = ms at *
      generalize Pa.mk t = mt at *
      go_enter Tryz.func11, Tryz.ntmps11
      go_wp2_with fail
      (refine wp_region_mixq 7 [(true, 0), (true, 1), (true, 2), (true, 3), (true, 4), (true, 5), (true, 6)] (by kernel_rfl) (by kernel_rfl) ?_; simp only [pickOps, List.map_cons, List.map_nil, List.getD_cons_zero, List.getD_cons_succ, List.drop_succ_cons, List.drop_zero]; (iterate 7 (first | (refine wpMix_take (v := ?_) (by rfl) ?_ ?_; rotate_left; (focus (intro W hW; subst hW; go_simp; (try with_reducible rfl); done)); try simp only [Act.put, List.setIfInBounds_toArray, List.set_cons_zero, List.set_cons_succ]) | (refine wpMix_leave (by rfl) ?_; try simp only [Act.put, List.setIfInBounds_toArray, List.set_cons_zero, List.set_cons_succ]))); refine wpMix_nil ?_)
      go_wp2_with (go_at_call 31; (with_reducible refine useC HD.out ?_); intro e w1 h; obtain ⟨v, hv⟩ := HRET.out _ _ h; subst hv; have HR := Lib.hid h; clear h)
      go_ret
      exact HR.out
    · have e2 : ((Pa.mk a).toList == [109]) = false := by rw [mk_toList]; exact beq_eq_false_iff_ne.2 h2
      have H0 := Lib.hid (h0 h1 h2)
      clear h1 h2 hL hM h0
      generalize Pa.mk a = ma at *
      generalize Pa.mk s = ms at *
      generalize Pa.mk t = mt at *
      go_enter Tryz.func11, Tryz.ntmps11
      go_wp2_with fail
      go_ret
      exact H0.out
omit hret in
set_option maxRecDepth 100000 in
set_option maxHeartbeats 4000000 in
theorem tp_didn (A : Option Addr) (n c : Nat) (hn : n ≤ 9223372036854775807) (h2 : n ≠ 2) (h3 : n ≠ 3) (h0 : R (.returned .nilIface) w) :
    Calls Tryz.prog 11 #[.pointer (some ⟨tb, 0, none⟩), .slice A n c] w (Rp R) := by
  have H0 := Lib.hid h0
  have e2 : ((n : Int) == 2) = false := beq_eq_false_iff_ne.2 (by omega)
  have e3 : ((n : Int) == 3) = false := beq_eq_false_iff_ne.2 (by omega)
  clear h0 h2 h3
  go_enter Tryz.func11, Tryz.ntmps11
  go_wp2_with fail
  go_ret
  exact H0.out
end
theorem tp_result1 {fn : Func} {tmps : Array Value} {w : World} {i : Nat} {B : Nat} {a b : Value} (hr : fn.results = #[.cell i 28]) (ha : tmps.getD i undef = .pointer (some ⟨B, 0, none⟩)) (h : TpX w B a b) :
    (results fn tmps).run Tryz.prog w = .ok (.agg #[a, b]) w := by
  have ha' : tmps[i]?.getD undef = .pointer (some ⟨B, 0, none⟩) := by rw [← ha]; simp
  unfold results
  rw [hr]
  simp [asAddr, Sem.run_bind, ha', h.load]
/-- A tree of the document's: a root alone. -/
def NewT (w : World) (e : Ending) (w' : World) : Prop := ∃ v0 v1 g1, e = .returned (.agg #[v0, v1]) ∧ TpV w' v0 v1 g1 g1 ⟨[], [true]⟩ ∧ w.heap.size ≤ g1 ∧ Fr [] w w'
set_option maxRecDepth 100000 in
set_option maxHeartbeats 2000000 in
theorem m_NewTree (w : World) : Calls Tryz.prog 5 #[] w (NewT w) := by
  go_enter Tryz.func5, Tryz.ntmps5
  go_wp2_with fail
  obtain ⟨hf, h0, h1⟩ := two_new w (.cells #[.slice none 0 0, .slice (some ⟨w.heap.size + 1, 0, none⟩) 1 1] 28) (.cells #[.bool true] 4)
  exact bodyPost_ret (v := .agg #[.slice none 0 0, .slice (some ⟨w.heap.size + 1, 0, none⟩) 1 1]) (tp_result1 Tryz.results5 rfl h0) rfl ⟨_, _, w.heap.size + 1, rfl, ⟨.inl ⟨rfl, _, _, rfl⟩, .inr ⟨0, 1, rfl, Nat.le_refl _, by unfold maxLen; omega, fun i hi r hr => by
    have hr : r < 1 := hr
    have hi : i < 1 := hi
    obtain rfl : r = 0 := by omega
    obtain rfl : i = 0 := by omega
    rw [cell_of_row _ _ _ _ _ _ h1]
    rfl⟩⟩, by omega, hf⟩
end Go.Proofs.YtnglhfeialomgaaGreatDoor

/- The document's Add. -/
namespace Go.Proofs.YtnglhfeialomgaaGreatDoor
open Go.RowKit

theorem spot_err_ne {g : Tr.G} {s : List UInt8} {e : Int} (h : Tr.spot g s = .err e) : e ≠ 0 := by
  unfold Tr.spot at h
  split at h
  · unfold Tr.spotL at h
    split at h
    · injection h with h; rw [← h]; decide
    · split at h
      · rename_i hf
        injection h with h
        rw [← h]
        exact Tr.fnd_err_ne _ _ _ hf
      · split at h
        · cases h
        · injection h with h; rw [← h]; decide
  · injection h with h; rw [← h]; assumption
theorem addErr_err {g : Tr.G} {s : List UInt8} {e : Int} (h : Tr.spot g s = .err e) : Tr.addErr g s = e := by unfold Tr.addErr; rw [h]
theorem addErr_at {g : Tr.G} {s : List UInt8} {d : Nat} {x : Tr.Nme} (h : Tr.spot g s = .at_ d x) : Tr.addErr g s = if (Tr.kid g d x).isSome = true then 6 else if g.many = 24 then 4 else 0 := by unfold Tr.addErr; rw [h]
/-- The document's tree behind Add. -/
def addT (g : Tr.G) (T : Tr.RT) (s : List UInt8) (ofv : Int) (dir : Bool) : Tr.RT := if Tr.addErr g s = 0 then ⟨T.nm ++ [(Pa.shown (Pa.parts s).1, if ofv < 0 then T.dirs.length else ofv.toNat)], if ofv < 0 then T.dirs ++ [dir] else T.dirs⟩ else T
theorem fnd_kid {g : Tr.G} {P : List Tr.Nme} {d : Nat} {x : Tr.Nme} (hf : Tr.fnd g g.root P = .ok d) (hd : (g.ent d).isSome = true) : Tr.fnd g g.root (P ++ [x]) = match Tr.kid g d x with | none => .err 5 | some c => .ok c := by
  obtain ⟨m, hm⟩ := Option.isSome_iff_exists.1 hd
  rw [Tr.fnd_app_ok hf, Tr.fnd_cons, hm, Tr.kid_of hm]
  show (match m x with | none => Tr.Rs.err 5 | some c => Tr.fnd g c []) = _
  cases m x <;> rfl
section
variable (w : World) (v0 v1 : Value) (g0 g1 : Nat) (T : Tr.RT) (hV : TpV w v0 v1 g0 g1 T) {g : Tr.G} {dom : Nat → Prop} {ns : Tr.Nl} {ths : List Nat} (hR : Tr.Rf g dom ns ths T) (hO : Tr.OK g)
include hV hR hO
set_option maxRecDepth 100000 in
set_option maxHeartbeats 8000000 in
theorem m_Add (s : ByteArray) (ofv : Int) (hof : ofv = -1 ∨ ∃ n : Nat, ofv = n) (dir : Bool) (hl : T.nm.length ≤ 24) (hd : T.dirs.length ≤ 1000) :
    Calls Tryz.prog 6 #[.agg #[v0, v1], .string s, .int .i64 ofv, .bool dir] w (TpA g0 g1 (addT g T s.data.toList ofv dir) (Tr.addErr g s.data.toList) w) := by
  obtain ⟨A0, o0, c0, rfl, hm0, -⟩ := nm_cells hV.nm
  obtain ⟨A1, o1, c1, rfl, hm1, -⟩ := bo_cells hV.dirs
  obtain ⟨ga, gb, hU⟩ := TpW.start hV
  have HSP := Lib.hid (fun W (hW : TpV W (.slice A0 T.nm.length c0) (.slice A1 T.dirs.length c1) ga gb T) => m_Spot W _ _ ga gb T hW hR hO s)
  have HFI : Hid (∀ W p, TpV W (.slice A0 T.nm.length c0) (.slice A1 T.dirs.length c1) ga gb T → Tr.Nms p → Calls Tryz.prog 22 #[.agg #[.slice A0 T.nm.length c0, .slice A1 T.dirs.length c1], .string (Pa.mk (Pa.shown p))] W fun e w' => e = .returned (.int .i64 (idxR ths (Tr.fnd g g.root p))) ∧ Fr [] W w') := fun W p hW hp =>
    (m_find W _ _ ga _ _ hW.nm).mono fun e w' h => ⟨by rw [h.1, hR.find hO hp]; cases Tr.fnd g g.root p <;> rfl, h.2⟩
  have HMN : Hid ((T.nm.length : Int) = g.many) := hR.few
  obtain ⟨st, hst⟩ : ∃ x, s.data.toList = x := ⟨_, rfl⟩
  rw [hst] at HSP ⊢
  clear hst hV hR hO
  go_enter Tryz.func6, Tryz.ntmps6
  go_upto_region 1 with (fail)
  generalize (w.alloc (.cells #[.slice A0 T.nm.length c0, .slice A1 T.dirs.length c1] 28)).alloc (.cells #[.slice none 0 0, .slice none 0 0] 28) = W0 at *
  obtain ⟨X, hX⟩ : ∃ X, X = w.heap.size := ⟨_, rfl⟩
  rw [← hX] at hU ⊢
  have HU0 := Lib.hid hU
  clear hX hU
  obtain ⟨b0, b1, z0, z1⟩ := HU0.out.cells
  obtain ⟨p0, p1, q0, q1⟩ := HU0.out.outs
  cases hsp : Tr.spot g st with
  | err ce =>
    have hne := spot_err_ne hsp
    have hae := addErr_err hsp
    have HT : Hid (addT g T st ofv dir = T) := by show _ = _; unfold addT; rw [hae, if_neg hne]
    have hsv : spV g st = .tuple #[.string ⟨#[]⟩, .int .i64 ce] := by unfold spV; rw [hsp]
    rw [hsv] at HSP
    have HAE := Lib.hid hae
    have f1 : (ce == 0) = false := by simpa using hne
    have f2 : (ce != 0) = true := by simpa using hne
    clear hsp hne hae hsv
    go_wp2_with (go_at_call 21; (with_reducible refine useC (HSP.out W0 HU0.out.v) ?_); rintro e w2 ⟨rfl, hf⟩; have HU1 := Lib.hid (HU0.out.step hf); obtain ⟨b0, b1, z0, z1⟩ := HU1.out.cells; obtain ⟨p0, p1, q0, q1⟩ := HU1.out.outs; clear hf)
    exact bodyPost_ret (v := .tuple #[.agg #[.slice A0 T.nm.length c0, .slice A1 T.dirs.length c1], .int .i64 ce]) (tp_results Tryz.results6 rfl rfl (TpW.fin HU1.out).1) rfl (by rw [HT.out, HAE.out]; exact (TpW.fin HU1.out).2 _)
  | at_ d x =>
    obtain ⟨P, hpt, hf, hds⟩ := Tr.spot_at hsp
    have hP : Tr.Nms (P ++ [x]) := by have := nms_parts (s := st) (by rw [hpt]); rwa [hpt] at this
    have hae0 := addErr_at hsp
    have hsv : spV g st = .tuple #[.string (Pa.mk (Pa.shown (P ++ [x]))), .int .i64 0] := by unfold spV; rw [hsp, hpt]
    have hfk := fnd_kid (x := x) hf hds
    have HPT : Hid (Pa.shown (Pa.parts st).1 = Pa.shown (P ++ [x])) := by show _ = _; rw [hpt]
    rw [hsv] at HSP
    have HF := Lib.hid (fun W hW => HFI.out W (P ++ [x]) hW hP)
    clear hsp hpt hf hds hsv HFI
    cases hk : Tr.kid g d x with
    | some c =>
      rw [hk] at hfk hae0
      have hfkc : Tr.fnd g g.root (P ++ [x]) = .ok c := hfk
      have hae : Tr.addErr g st = 6 := hae0
      clear hae0
      have HT : Hid (addT g T st ofv dir = T) := by show _ = _; unfold addT; rw [hae, if_neg (by decide)]
      have HAE := Lib.hid hae
      rw [hfkc] at HF
      clear hfkc
      obtain ⟨t, ht⟩ : ∃ t, ths.idxOf c = t := ⟨_, rfl⟩
      have HF2 : Hid (∀ W, TpV W (.slice A0 T.nm.length c0) (.slice A1 T.dirs.length c1) ga gb T → Calls Tryz.prog 22 #[.agg #[.slice A0 T.nm.length c0, .slice A1 T.dirs.length c1], .string (Pa.mk (Pa.shown (P ++ [x])))] W fun e w' => e = .returned (.int .i64 (t : Int)) ∧ Fr [] W w') := fun W hW => (HF.out W hW).mono fun _ _ h => ⟨by rw [h.1, ← ht]; rfl, h.2⟩
      have t0 : (0 : Int) ≤ t := by omega
      clear hk hfk hae ht HF
      generalize Pa.mk (Pa.shown (P ++ [x])) = mp at *
      go_wp2_with (first
        | (go_at_call 21; (with_reducible refine useC (HSP.out W0 HU0.out.v) ?_); rintro e w2 ⟨rfl, hf⟩; have HU1 := Lib.hid (HU0.out.step hf); obtain ⟨b0, b1, z0, z1⟩ := HU1.out.cells; clear hf)
        | (go_at_call 22; (with_reducible refine useC (HF2.out w2 HU1.out.v) ?_); rintro e w3 ⟨rfl, hf⟩; have HU2 := Lib.hid (HU1.out.step hf); obtain ⟨b0, b1, z0, z1⟩ := HU2.out.cells; obtain ⟨p0, p1, q0, q1⟩ := HU2.out.outs; clear hf))
      exact bodyPost_ret (v := .tuple #[.agg #[.slice A0 T.nm.length c0, .slice A1 T.dirs.length c1], .int .i64 6]) (tp_results Tryz.results6 rfl rfl (TpW.fin HU2.out).1) rfl (by rw [HT.out, HAE.out]; exact (TpW.fin HU2.out).2 _)
    | none =>
      rw [hk] at hfk hae0
      have hfk5 : Tr.fnd g g.root (P ++ [x]) = .err 5 := hfk
      rw [hfk5] at HF
      clear hfk5
      have HF2 : Hid (∀ W, TpV W (.slice A0 T.nm.length c0) (.slice A1 T.dirs.length c1) ga gb T → Calls Tryz.prog 22 #[.agg #[.slice A0 T.nm.length c0, .slice A1 T.dirs.length c1], .string (Pa.mk (Pa.shown (P ++ [x])))] W fun e w' => e = .returned (.int .i64 (-1)) ∧ Fr [] W w') := fun W hW => (HF.out W hW).mono fun _ _ h => h
      by_cases hfull : g.many = 24
      · have hae : Tr.addErr g st = 4 := by rw [hae0]; show (if false = true then (6 : Int) else if g.many = 24 then 4 else 0) = 4; rw [if_neg (by decide), if_pos hfull]
        have HT : Hid (addT g T st ofv dir = T) := by show _ = _; unfold addT; rw [hae, if_neg (by decide)]
        have HAE := Lib.hid hae
        have n24 : (24 : Int) ≤ T.nm.length := by have := HMN.out; omega
        have n25 : 24 ≤ T.nm.length := by omega
        clear hk hfk hae hae0 HF hfull
        generalize Pa.mk (Pa.shown (P ++ [x])) = mp at *
        go_wp2_with (first
          | (go_at_call 21; (with_reducible refine useC (HSP.out W0 HU0.out.v) ?_); rintro e w2 ⟨rfl, hf⟩; have HU1 := Lib.hid (HU0.out.step hf); obtain ⟨b0, b1, z0, z1⟩ := HU1.out.cells; clear hf)
          | (go_at_call 22; (with_reducible refine useC (HF2.out w2 HU1.out.v) ?_); rintro e w3 ⟨rfl, hf⟩; have HU2 := Lib.hid (HU1.out.step hf); obtain ⟨b0, b1, z0, z1⟩ := HU2.out.cells; obtain ⟨p0, p1, q0, q1⟩ := HU2.out.outs; clear hf))
        exact bodyPost_ret (v := .tuple #[.agg #[.slice A0 T.nm.length c0, .slice A1 T.dirs.length c1], .int .i64 4]) (tp_results Tryz.results6 rfl rfl (TpW.fin HU2.out).1) rfl (by rw [HT.out, HAE.out]; exact (TpW.fin HU2.out).2 _)
      · have hae : Tr.addErr g st = 0 := by rw [hae0]; show (if false = true then (6 : Int) else if g.many = 24 then 4 else 0) = 0; rw [if_neg (by decide), if_neg hfull]
        have n24 : ¬ (24 : Int) ≤ T.nm.length := by have := HMN.out; omega
        have n25 : ¬ 24 ≤ T.nm.length := by omega
        have hTT : addT g T st ofv dir = ⟨T.nm ++ [(Pa.shown (P ++ [x]), if ofv < 0 then T.dirs.length else ofv.toNat)], if ofv < 0 then T.dirs ++ [dir] else T.dirs⟩ := by unfold addT; rw [if_pos hae, HPT.out]
        have HAE := Lib.hid hae
        have HTT := Lib.hid hTT
        clear hk hfk hae hae0 HF hfull hTT HPT
        rcases hof with rfl | ⟨n, rfl⟩
        · have HT2 : Hid (addT g T st (-1) dir = ⟨T.nm ++ [(Pa.shown (P ++ [x]), T.dirs.length)], T.dirs ++ [dir]⟩) := by
            show _ = _
            rw [HTT.out, if_pos (by decide), if_pos (by decide)]
          go_upto_region 13 with (first
            | (go_at_call 21; (with_reducible refine useC (HSP.out W0 HU0.out.v) ?_); rintro e w2 ⟨rfl, hf⟩; have HU1 := Lib.hid (HU0.out.step hf); obtain ⟨b0, b1, z0, z1⟩ := HU1.out.cells; clear hf)
            | (go_at_call 22; (with_reducible refine useC (HF2.out w2 HU1.out.v) ?_); rintro e w3 ⟨rfl, hf⟩; have HU2 := Lib.hid (HU1.out.step hf); obtain ⟨b0, b1, z0, z1⟩ := HU2.out.cells; clear hf)
            | (at_builtin; refine wpList_spread_enc (E := boE) u_bo info_bo rfl (by decide) rfl _ _ rfl w3.heap.size (.slice none 0 0) (.slice A1 T.dirs.length c1) [] T.dirs gb rfl OwnR.nil rfl HU2.out.v.dirs (by simp; omega) (Nat.le_refl _) ?_; intro v5 w5 h1 h2 h3; rw [List.nil_append] at h1; obtain ⟨A5, c5, hv5⟩ := h1.form0; subst hv5; have HO5 := Lib.hid h1; have HF5 := Lib.hid ((Fr.refl [] w3).below_step h3 (Nat.le_refl _)); have HU5 := Lib.hid (HU2.out.step HF5.out); obtain ⟨b0, b1, z0, z1⟩ := HU5.out.cells; clear h1 h2 h3)
            | (at_builtin; have hO5 := HO5.out; refine wpList_push_enc (E := boE) (wr := w5) (y := dir) u_bo info_bo rfl (by decide) rfl _ _ rfl w3.heap.size (.slice A5 T.dirs.length c5) T.dirs rfl rfl hO5 rfl (by omega) HF5.out.size ?_; intro v6 w6 h1 h2 h3; obtain ⟨A6, c6, hv6⟩ := h1.form0; subst hv6; have HO6 := Lib.hid h1; have HU6 := Lib.hid (HU2.out.step (HF5.out.below_step h3 (Nat.le_refl _))); obtain ⟨b0, b1, z0, z1⟩ := HU6.out.cells; clear h1 h2 h3 hO5))
          obtain ⟨g5, hg5, hs5⟩ := HO6.out.sl
          obtain ⟨gb2, hU7⟩ := HU6.out.set1 hs5 (hg5.imp (fun h => Nat.le_trans HU2.out.lt h) id)
          rw [List.length_append] at hU7
          have HU7 := Lib.hid hU7
          clear hg5 hs5 hU7 b0 b1 z0 z1 HU6 HO6
          generalize w6.setCell ⟨X, 1, none⟩ (.slice A6 (T.dirs.length + 1) c6) = w7 at *
          obtain ⟨b0, b1, z0, z1⟩ := HU7.out.cells
          go_upto_region 16 with (first
            | (at_builtin; refine wpList_spread_enc (E := nmE) u_nm info_nm rfl (by decide) rfl _ _ rfl w7.heap.size (.slice none 0 0) (.slice A0 T.nm.length c0) [] T.nm ga rfl OwnR.nil rfl HU7.out.v.nm (by simp; omega) (Nat.le_refl _) ?_; intro v8 w8 h1 h2 h3; rw [List.nil_append] at h1; obtain ⟨A8, c8, hv8⟩ := h1.form0; subst hv8; have HO8 := Lib.hid h1; have HF8 := Lib.hid ((Fr.refl [] w7).below_step h3 (Nat.le_refl _)); have HU8 := Lib.hid (HU7.out.step HF8.out); obtain ⟨b0, b1, z0, z1⟩ := HU8.out.cells; clear h1 h2 h3)
            | (at_builtin; have hO8 := HO8.out; refine wpList_push_enc (E := nmE) (wr := w8) (y := (Pa.shown (P ++ [x]), T.dirs.length)) u_nm info_nm rfl (by decide) rfl _ _ rfl w7.heap.size (.slice A8 T.nm.length c8) T.nm rfl rfl hO8 rfl (by omega) HF8.out.size ?_; intro v9 w9 h1 h2 h3; obtain ⟨A9, c9, hv9⟩ := h1.form0; subst hv9; have HO9 := Lib.hid h1; have HU9 := Lib.hid (HU7.out.step (HF8.out.below_step h3 (Nat.le_refl _))); obtain ⟨b0, b1, z0, z1⟩ := HU9.out.cells; clear h1 h2 h3 hO8))
          obtain ⟨g8, hg8, hs8⟩ := HO9.out.sl
          obtain ⟨g9, hUA⟩ := HU9.out.set0 hs8 (hg8.imp (fun h => Nat.le_trans HU7.out.lt h) id)
          rw [List.length_append] at hUA
          have HUA := Lib.hid hUA
          clear hg8 hs8 hUA b0 b1 z0 z1 HU9 HO9
          generalize w9.setCell ⟨X, 0, none⟩ (.slice A9 (T.nm.length + 1) c9) = wA at *
          obtain ⟨b0, b1, z0, z1⟩ := HUA.out.cells
          obtain ⟨p0, p1, q0, q1⟩ := HUA.out.outs
          go_wp2
          exact bodyPost_ret (v := .tuple #[.agg #[.slice A9 (T.nm.length + 1) c9, .slice A6 (T.dirs.length + 1) c6], .int .i64 0]) (tp_results Tryz.results6 rfl rfl (TpW.fin HUA.out).1) rfl (by rw [HT2.out, HAE.out]; exact (TpW.fin HUA.out).2 _)
        · have HT2 : Hid (addT g T st (n : Int) dir = ⟨T.nm ++ [(Pa.shown (P ++ [x]), n)], T.dirs⟩) := by
            show _ = _
            rw [HTT.out, if_neg (by omega), if_neg (by omega)]
            rfl
          have nn : ¬ (n : Int) < 0 := by omega
          go_upto_region 13 with (first
            | (go_at_call 21; (with_reducible refine useC (HSP.out W0 HU0.out.v) ?_); rintro e w2 ⟨rfl, hf⟩; have HU1 := Lib.hid (HU0.out.step hf); obtain ⟨b0, b1, z0, z1⟩ := HU1.out.cells; clear hf)
            | (go_at_call 22; (with_reducible refine useC (HF2.out w2 HU1.out.v) ?_); rintro e w7 ⟨rfl, hf⟩; have HU7 := Lib.hid (HU1.out.step hf); obtain ⟨b0, b1, z0, z1⟩ := HU7.out.cells; clear hf))
          go_upto_region 16 with (first
            | (at_builtin; refine wpList_spread_enc (E := nmE) u_nm info_nm rfl (by decide) rfl _ _ rfl w7.heap.size (.slice none 0 0) (.slice A0 T.nm.length c0) [] T.nm ga rfl OwnR.nil rfl HU7.out.v.nm (by simp; omega) (Nat.le_refl _) ?_; intro v8 w8 h1 h2 h3; rw [List.nil_append] at h1; obtain ⟨A8, c8, hv8⟩ := h1.form0; subst hv8; have HO8 := Lib.hid h1; have HF8 := Lib.hid ((Fr.refl [] w7).below_step h3 (Nat.le_refl _)); have HU8 := Lib.hid (HU7.out.step HF8.out); obtain ⟨b0, b1, z0, z1⟩ := HU8.out.cells; clear h1 h2 h3)
            | (at_builtin; have hO8 := HO8.out; refine wpList_push_enc (E := nmE) (wr := w8) (y := (Pa.shown (P ++ [x]), n)) u_nm info_nm rfl (by decide) rfl _ _ rfl w7.heap.size (.slice A8 T.nm.length c8) T.nm rfl rfl hO8 rfl (by omega) HF8.out.size ?_; intro v9 w9 h1 h2 h3; obtain ⟨A9, c9, hv9⟩ := h1.form0; subst hv9; have HO9 := Lib.hid h1; have HU9 := Lib.hid (HU7.out.step (HF8.out.below_step h3 (Nat.le_refl _))); obtain ⟨b0, b1, z0, z1⟩ := HU9.out.cells; clear h1 h2 h3 hO8))
          obtain ⟨g8, hg8, hs8⟩ := HO9.out.sl
          obtain ⟨g9, hUA⟩ := HU9.out.set0 hs8 (hg8.imp (fun h => Nat.le_trans HU7.out.lt h) id)
          rw [List.length_append] at hUA
          have HUA := Lib.hid hUA
          clear hg8 hs8 hUA b0 b1 z0 z1 HU9 HO9
          generalize w9.setCell ⟨X, 0, none⟩ (.slice A9 (T.nm.length + 1) c9) = wA at *
          obtain ⟨b0, b1, z0, z1⟩ := HUA.out.cells
          obtain ⟨p0, p1, q0, q1⟩ := HUA.out.outs
          go_wp2
          exact bodyPost_ret (v := .tuple #[.agg #[.slice A9 (T.nm.length + 1) c9, .slice A1 T.dirs.length c1], .int .i64 0]) (tp_results Tryz.results6 rfl rfl (TpW.fin HUA.out).1) rfl (by rw [HT2.out, HAE.out]; exact (TpW.fin HUA.out).2 _)
end
end Go.Proofs.YtnglhfeialomgaaGreatDoor
