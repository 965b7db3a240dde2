/- The contracts of package lfs's functions: Read, Segment. -/
import Derived.Test.YtbedfffmicbgmaaDoorLfLive0
import Derived.Test.YtbedfffmicbgmaaDoorLfPlain2
namespace Go.Proofs.YtbedfffmicbgmaaDoor
open Go.RowKit

def readAns (d : Lf.D) (p : Int) : Value := if 0 ≤ p ∧ p ≤ 7 then .tuple #[.int .i64 (Lf.val d p.toNat), .nilIface] else .tuple #[.int .i64 0, .iface 70 (.int .i64 1)]
theorem lf_read (w : World) (B b : Nat) (d : Lf.D) (p : Int) (hD : LfD B w b d) (hO : Lf.OK d) :
    Calls Tryd.prog 13 #[.pointer (some ⟨b, 0, none⟩), .int .i64 p] w fun e w' => e = .returned (readAns d p) ∧ Fr [] w w' := by
  by_cases hp : 0 ≤ p ∧ p ≤ 7
  · have e1 : decide (0 ≤ p ∧ p ≤ 7) = true := by simpa using hp
    have er : readAns d p = .tuple #[.int .i64 (Lf.val d p.toNat), .nilIface] := by unfold readAns; rw [if_pos hp]
    obtain ⟨q, rfl⟩ : ∃ q : Nat, p = (q : Int) := ⟨p.toNat, by omega⟩
    have hq8 : q < 8 := by omega
    have hq0 : (0 : Int) ≤ q := by omega
    have hq8' : (q : Int) < 8 := by omega
    obtain ⟨c1, c2, c3⟩ := hD.page hO.shp hq8
    rw [Int.toNat_natCast] at er
    cases hx : (Lf.pg d q).2.2 with
    | false =>
      have ev : Lf.val d q = 0 := by unfold Lf.val; rw [hx]; rfl
      rw [ev] at er
      rw [hx] at c3
      have ER := Lib.hid er
      clear er ev hx hp hD hO
      generalize (Lf.pg d q).1 = x1 at c1
      generalize (Lf.pg d q).2.1 = x2 at c2
      go_enter Tryd.func13, Tryd.ntmps13
      go_wp2_with (go_at_call 34; (with_reducible refine useC (within_any _ _ _ _) ?_); rw [e1]; rintro e w' ⟨rfl, rfl⟩)
      go_ret2
      rw [ER.out]
      exact ⟨rfl, (Fr.refl _ _).alloc _⟩
    | true =>
      obtain ⟨s, a, h1, h2, h3, v, h4⟩ := hO.pgs q hq8 hx
      have ev : Lf.val d q = v := by
        unfold Lf.val; rw [hx, h2, h3]
        simp only [if_true, Int.toNat_natCast, List.getD_eq_getElem?_getD, h4, Option.getD_some]
      obtain ⟨A, g, c, hs, hA, hg⟩ := hD.segv h1
      have hal : a < (Lf.seg d s).length := (List.getElem?_eq_some_iff.1 h4).1
      have hg1 := (hg a hal).1
      have hg2 := (hg a hal).2
      have h4' : (Lf.seg d s).getD a (0, 0) = ((q : Int), v) := by rw [List.getD_eq_getElem?_getD, h4]; rfl
      rw [h4'] at hg1 hg2
      have hA1 := hA (by omega)
      subst hA1
      rw [ev] at er
      rw [h2] at c1
      rw [h3] at c2
      rw [hx] at c3
      have ER := Lib.hid er
      have hs0 : (0 : Int) ≤ s := by omega
      have hs6 : (s : Int) < 6 := by omega
      have ha0 : (0 : Int) ≤ a := by omega
      generalize (Lf.seg d s).length = L at hs hal
      have hal' : (a : Int) < L := by omega
      clear er ev hx hp hD hO h1 h2 h3 h4 h4' hA hg
      go_enter Tryd.func13, Tryd.ntmps13
      go_wp2_with (go_at_call 34; (with_reducible refine useC (within_any _ _ _ _) ?_); rw [e1]; rintro e w' ⟨rfl, rfl⟩)
      have hT0 := heap_alloc_new w (.cells #[.int .i64 (s : Int), .int .i64 (a : Int), .bool true] 64)
      have hF1 : Hid (Fr [] w (w.alloc (.cells #[.int .i64 (s : Int), .int .i64 (a : Int), .bool true] 64))) := (Fr.refl _ _).alloc _
      have HT0 := Lib.hid hT0
      clear hT0
      revert hF1 HT0
      generalize (w.alloc (.cells #[.int .i64 (s : Int), .int .i64 (a : Int), .bool true] 64)) = w1
      generalize htb : w.heap.size = tb
      intro hF1 HT0
      have t0 : w1.cell? ⟨tb, 0, none⟩ = some (.int .i64 s) := by rw [cell_of_row w1 tb 0 _ _ _ HT0.out]; rfl
      have t1 : w1.cell? ⟨tb, 1, none⟩ = some (.int .i64 a) := by rw [cell_of_row w1 tb 1 _ _ _ HT0.out]; rfl
      have hs1 := hF1.out.cell hs (by simp)
      have hg3 := hF1.out.cell hg2 (by simp)
      clear c1 c2 c3 hs hg1 hg2
      go_quiet (fail)
      go_wp2
      go_ret2
      rw [ER.out]
      exact ⟨rfl, hF1.out.drewN nq⟩
  · have e1 : decide (0 ≤ p ∧ p ≤ 7) = false := by simpa using hp
    have er := Lib.hid (show readAns d p = .tuple #[.int .i64 0, .iface 70 (.int .i64 1)] from by unfold readAns; rw [if_neg hp])
    clear hp hD hO
    go_enter Tryd.func13, Tryd.ntmps13
    go_wp2_with (go_at_call 34; (with_reducible refine useC (within_any _ _ _ _) ?_); rw [e1]; rintro e w' ⟨rfl, rfl⟩)
    go_ret2
    rw [er.out]
    exact ⟨rfl, Fr.refl _ _⟩

def segAns (d : Lf.D) (i : Int) : Value := if 0 ≤ i ∧ i ≤ 5 then .tuple #[.int .i64 ((Lf.seg d i.toNat).length : Int), .int .i64 ((Lf.live d i.toNat).length : Int)] else .tuple #[.int .i64 0, .int .i64 0]
theorem lf_segment (w : World) (B b : Nat) (d : Lf.D) (i : Int) (hD : LfD B w b d) (hO : Lf.OK d) :
    Calls Tryd.prog 15 #[.pointer (some ⟨b, 0, none⟩), .int .i64 i] w fun e w' => e = .returned (segAns d i) ∧ Fr [] w w' := by
  by_cases hp : 0 ≤ i ∧ i ≤ 5
  · have e1 : decide (0 ≤ i ∧ i ≤ 5) = true := by simpa using hp
    have er : segAns d i = .tuple #[.int .i64 ((Lf.seg d i.toNat).length : Int), .int .i64 ((Lf.live d i.toNat).length : Int)] := by unfold segAns; rw [if_pos hp]
    obtain ⟨q, rfl⟩ : ∃ q : Nat, i = (q : Int) := ⟨i.toNat, by omega⟩
    have hq6 : q < 6 := by omega
    have hq0 : (0 : Int) ≤ q := by omega
    have hq6' : (q : Int) < 6 := by omega
    rw [Int.toNat_natCast] at er
    have ER := Lib.hid er
    have HLV := Lib.hid (fun W (hW : Fr [] w W) => lf_live W B b d q (hD.keep hW) hO hq6)
    have HS := Lib.hid (fun W (hW : Fr [] w W) => (hD.keep hW).segv hq6)
    obtain ⟨A, g, c, hs, _, _⟩ := hD.segv hq6
    clear er hp hD hO
    go_enter Tryd.func15, Tryd.ntmps15
    go_wp2_with (go_at_call 34; (with_reducible refine useC (within_any _ _ _ _) ?_); rw [e1]; rintro e w' ⟨rfl, rfl⟩)
    have hC : Hid (∀ W, Fr [] w W → W.cell? ⟨b, q, none⟩ = some (.slice A (Lf.seg d q).length c)) := fun W hW => hW.cell hs (by simp)
    generalize (Lf.seg d q).length = L at hs hC ER
    clear HS
    go_region_held3 (fun W => Fr [] w W ∧ W.cell? ⟨b, q, none⟩ = some (.slice A L c)) ((refine (fun hf => ⟨hf, hC.out _ hf⟩) ?_; first | assumption | exact (Fr.refl _ _).drew)) (first
      | (go_at_call 28; (with_reducible refine (HLV.out _ (Fr.refl _ _).drew).mono ?_); rintro e w1 ⟨v1, rfl, hown1, hf1⟩; obtain ⟨A1, g1, c1, rfl, _, _⟩ := hown1.form; have hF1 : Fr [] w w1 := (Fr.refl _ _).drew.trans hf1; clear hf1 hown1)
      | (fail))
    go_wp2
    go_ret2
    exact ⟨by rw [ER.out]; rfl, hF1⟩
  · have e1 : decide (0 ≤ i ∧ i ≤ 5) = false := by simpa using hp
    have er := Lib.hid (show segAns d i = .tuple #[.int .i64 0, .int .i64 0] from by unfold segAns; rw [if_neg hp])
    clear hp hD hO
    go_enter Tryd.func15, Tryd.ntmps15
    go_wp2_with (go_at_call 34; (with_reducible refine useC (within_any _ _ _ _) ?_); rw [e1]; rintro e w' ⟨rfl, rfl⟩)
    go_ret2
    rw [er.out]
    exact ⟨rfl, Fr.refl _ _⟩
end Go.Proofs.YtbedfffmicbgmaaDoor
