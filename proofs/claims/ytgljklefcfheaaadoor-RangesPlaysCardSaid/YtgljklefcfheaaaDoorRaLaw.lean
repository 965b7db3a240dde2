/- What the laws of package ranges share: lockOf, the closed fact, locked. -/
import Derived.Test.YtgljklefcfheaaaDoorRaWalk4
import Derived.Test.YtgljklefcfheaaaDoorRaWalk5
import Derived.Test.YtgljklefcfheaaaDoorErr2
import Derived.Test.YtgljklefcfheaaaDoorRw2
namespace Go.Proofs.YtgljklefcfheaaaDoor
open Go.RowKit

set_option maxRecDepth 100000 in
theorem ra_lockOf (w : World) (g o m c : Nat) (x y z : Int) (al : Bool) (hm : ((m : Int) == 4) = al) (hm3 : 3 ≤ m) (hmx : m ≤ 1000000)
    (h0 : w.cell? ⟨g, o, none⟩ = some (.int .i64 x)) (h1 : w.cell? ⟨g, o + 1, none⟩ = some (.int .i64 y)) (h2 : w.cell? ⟨g, o + 2, none⟩ = some (.int .i64 z)) :
    Calls Tryd.prog 23 #[.slice (some ⟨g, o, none⟩) m c] w fun e w' => e = .returned (.agg #[.int .i64 x, .int .i64 y, .int .i64 z, .bool al]) ∧ Fr [] w w' := by
  have HB := Lib.hid (heap_alloc_new w (.cells #[.int .i64 0, .int .i64 0, .int .i64 0, .bool false] 29))
  have HF : Hid (Fr [] w (w.alloc (.cells #[.int .i64 0, .int .i64 0, .int .i64 0, .bool false] 29))) := (Fr.refl _ _).alloc _
  have hm1 : (1 : Int) < m := by omega
  have hm2 : (2 : Int) < m := by omega
  have hm0 : (0 : Int) < m := by omega
  have hn0 : 0 < m := by omega
  go_enter Tryd.func23, Tryd.ntmps23
  go_wp2
  revert HB HF
  have hR := Nat.le_refl w.heap.size
  revert hR
  generalize (w.alloc (.cells #[.int .i64 0, .int .i64 0, .int .i64 0, .bool false] 29)) = w1
  generalize hRR : w.heap.size = R
  intro hR HB HF
  have c0 := HF.out.cell h0 (by simp)
  have c1 := HF.out.cell h1 (by simp)
  have c2 := HF.out.cell h2 (by simp)
  clear h0 h1 h2
  (refine wp_region_mixq 12 [(true, 0), (true, 1), (true, 2), (true, 3), (true, 4), (true, 5), (true, 6), (true, 7), (true, 8), (true, 9), (true, 10), (true, 11)] (by kernel_rfl) (by kernel_rfl) ?_; simp only [pickOps, List.map_cons, List.map_nil, List.getD_cons_zero, List.getD_cons_succ, List.drop_succ_cons, List.drop_zero]; (iterate 12 (first | (refine wpMix_take (v := ?_) (by rfl) ?_ ?_; rotate_left; (focus (intro W hW; subst hW; go_simp; (try with_reducible rfl); done)); try simp only [Act.put, List.setIfInBounds_toArray, List.set_cons_zero, List.set_cons_succ]) | (refine wpMix_leave (by rfl) ?_; try simp only [Act.put, List.setIfInBounds_toArray, List.set_cons_zero, List.set_cons_succ]))); refine wpMix_nil ?_)
  go_wp2_with (refine wpList_store_part rfl 29 _ _ rfl R 0 #[.int .i64 x, .int .i64 y, .int .i64 z, .bool al] rfl rfl 29 #[.int .i64 0, .int .i64 0, .int .i64 0, .bool false] HB.out (by kernel_rfl) (by simp) (by simp [Value.oneCell']) _ rfl ?_)
  have hk : LkB (w1.drew.setRow R #[.int .i64 x, .int .i64 y, .int .i64 z, .bool al]) R x y z al := setRow_heap _ R _ _ _ _ (show w1.drew.heap[R]? = _ from HB.out)
  obtain ⟨q0, q1, q2, q3⟩ := hk.cells
  exact bodyPost_ret (v := .agg #[.int .i64 x, .int .i64 y, .int .i64 z, .bool al]) (by simp [results, Tryd.results23, go_sem, q0, q1, q2, q3]) rfl ⟨rfl, HF.out.drew.step ((Fr.refl [R] _).setRow (.inl (by simp)) _) (fun q hq => .inr (by simp only [List.mem_singleton] at hq; omega))⟩

/-- A table in a law. -/
structure RaSt (w wr : World) (b : Nat) (T : List Int) : Prop where
  disk : RaD wr b T
  ok : Ra.OK T
  fr : Fr [] w wr
  ge : w.heap.size ≤ b
theorem RaSt.fr' {w wr w' : World} {b : Nat} {T : List Int} (h : RaSt w wr b T) (hf : Fr [] wr w') : RaSt w w' b T := ⟨h.disk.fr hf (by simp), h.ok, h.fr.trans hf, h.ge⟩
theorem RaSt.ans {w wr w' : World} {b : Nat} {T T' : List Int} {v : Value} {e : Ending} (h : RaSt w wr b T) (ha : RaAns b v T' wr e w') (hO : Ra.OK T') : RaSt w w' b T' :=
  ⟨ha.2.1, hO, h.fr.step ha.2.2 (fun x hx => .inr (by simp only [List.mem_singleton] at hx; subst hx; exact h.ge)), h.ge⟩
/-- The closed fact's table. -/
def Ra.f1 : List Int := (Ra.set Ra.new 1 2 3 true).1
set_option maxRecDepth 100000 in
theorem Ra.f_codes : (Ra.set Ra.new 1 2 3 true).2 = 0 ∧ Ra.test Ra.f1 0 4 1 false = (1, 0) ∧ Ra.set Ra.f1 0 0 9 false = (Ra.f1, 6) ∧ (Ra.locks Ra.f1).length = 1 := by decide +kernel
set_option maxRecDepth 100000 in
theorem ra_fact (w : World) (hE : ErrType w) (hpos : 0 < w.heap.size) : Calls Tryd.prog 9 #[] w (OkT w) := by
  have HE := Lib.hid hE
  have HP := Lib.hid hpos
  clear hE hpos
  have a1 := Lib.hid Ra.f_codes.1
  have a2 := Lib.hid Ra.f_codes.2.1
  have a3 := Lib.hid Ra.f_codes.2.2.1
  have a4 := Lib.hid Ra.f_codes.2.2.2
  have HO : Hid (Ra.OK Ra.f1) := Ra.set_ok Ra.new_ok 1 2 3 true
  go_enter Tryd.func9, Tryd.ntmps9
  go_wp2_with (first
    | (go_at_call 12; (with_reducible refine useC (ra_New _) ?_); rintro e w0 ⟨rfl, hd, hf⟩; have S0 : Hid (RaSt w w0 w.heap.size Ra.new) := (⟨hd, Ra.new_ok, hf, Nat.le_refl _⟩ : RaSt w w0 w.heap.size Ra.new); clear hd hf; have L1 := Lib.hid (ra_Set w0 w.heap.size Ra.new 1 2 3 true S0.out.disk Ra.new_ok.tab))
    | (go_at_call 14; (with_reducible refine useC L1.out ?_); rintro e w1 ha; have he := ha.1; subst he; rw [a1.out, show errV 0 = .nilIface from rfl]; have S1 : Hid (RaSt w w1 w.heap.size Ra.f1) := S0.out.ans ha HO.out; clear ha; have L2 := Lib.hid (ra_Test w1 w.heap.size Ra.f1 0 4 1 false S1.out.disk HO.out.tab.1))
    | (go_at_call 21; (with_reducible refine useC L2.out ?_); rintro e w2 ⟨rfl, hf⟩; rw [a2.out, show testAns (1, 0) = .tuple #[.int .i64 1, .nilIface] from rfl]; have S2 := Lib.hid (S1.out.fr' hf); clear hf; have L3 := Lib.hid (ra_Set w2 w.heap.size Ra.f1 0 0 9 false S2.out.disk HO.out.tab))
    | (go_at_call 14; (with_reducible refine useC L3.out ?_); rintro e w3 ha; have he := ha.1; subst he; rw [a3.out] at ha ⊢; have S3 : Hid (RaSt w w3 w.heap.size Ra.f1) := S2.out.ans ha HO.out; clear ha; have HE3 := Lib.hid (HE.out.fr S3.out.fr (by simp)))
    | (go_at_call 15; (with_reducible refine useC (error_yes 6 _ HE3.out) ?_); rintro e w4 ⟨rfl, hf⟩; have S4 := Lib.hid (S3.out.fr' hf); clear hf; have L5 := Lib.hid (ra_List w4 w.heap.size Ra.f1 S4.out.disk HO.out.tab))
    | (go_at_call 11; (with_reducible refine useC L5.out ?_); rintro e w5 ⟨v5, rfl, hown, hf⟩; obtain ⟨g5, _, hsl⟩ := hown.sl; obtain ⟨A5, o5, c5, rfl, _, _, _⟩ := hsl.form; rw [a4.out]; have HF5 := Lib.hid (S4.out.fr.trans hf); clear hown hsl hf))
  go_ret
  exact ⟨rfl, HF5.out⟩
/-- What locked hands back. -/
def LocAns (w : World) (e : Ending) (w' : World) : Prop := ∃ b T, e = .returned (.pointer (some ⟨b, 0, none⟩)) ∧ RaSt w w' b T
set_option maxRecDepth 100000 in
set_option maxHeartbeats 4000000 in
theorem ra_locked (w : World) (v : Value) (ls : List (List Int)) (hR : Rw w.heap.size w v ls) :
    Calls Tryd.prog 10 #[v] w (LocAns w) := by
  obtain ⟨A, g, o, c, rfl, hm, hF⟩ := hR
  have HF := Lib.hid hF
  clear hF
  go_enter Tryd.func10, Tryd.ntmps10
  go_wp2_with (go_at_call 12; (with_reducible refine useC (ra_New _) ?_); rintro e w0 ⟨rfl, hd, hf⟩; have S0 : Hid (RaSt w w0 w.heap.size Ra.new) := (⟨hd, Ra.new_ok, hf, Nat.le_refl _⟩ : RaSt w w0 w.heap.size Ra.new); clear hd hf)
  go_loopw [4] (fun i wr => ∃ k : Nat, k ≤ ls.length ∧ k ≤ 40 ∧ i = .int .i64 k ∧ ∃ T, Hid (RaSt w wr w.heap.size T)) (fun i _ => 40 - (intOf i).toNat)
  case atStart => exact ⟨0, Nat.zero_le _, Nat.zero_le _, rfl, _, S0⟩
  case round =>
    obtain ⟨k, hk, hk6, rfl, T, hS⟩ := hrel
    clear S0
    by_cases hin : k < ls.length ∧ k < 40
    · obtain ⟨hlt, h60⟩ := hin
      obtain ⟨rfl, hg⟩ := HF.out.1 (by omega)
      obtain ⟨u, kb, hcell, hkb, hsl, _⟩ := (HF.out.below hS.out.fr.below).2 k hlt
      obtain ⟨A', o', c', rfl, hm', hA', hc'⟩ := hsl.form
      have i0 : (0 : Int) ≤ k := by omega
      have i1 : (k : Int) < ls.length := by omega
      have i60 : (k : Int) < 40 := by omega
      clear hsl
      by_cases h345 : (nthR ls k).length = 3 ∨ (nthR ls k).length = 4 ∨ (nthR ls k).length = 5
      · obtain rfl := hA' (by omega)
        have c0 := hc' 0 (by omega)
        rw [Nat.add_zero] at c0
        have c1 := hc' 1 (by omega)
        have c2 := hc' 2 (by omega)
        clear hc' hA' hkb
        generalize nth (nthR ls k) 0 = x0 at *
        generalize nth (nthR ls k) 1 = x1 at *
        generalize nth (nthR ls k) 2 = x2 at *
        have HL := Lib.hid (fun (m : Nat) (al : Bool) (h1 : ((m : Int) == 4) = al) (h2 : 3 ≤ m) (h3 : m ≤ 1000000) => ra_lockOf wr kb o' m c' x0 x1 x2 al h1 h2 h3 c0 c1 c2)
        have HST := Lib.hid (fun W (hW : Fr [] wr W) al => ra_Set W w.heap.size T x0 x1 x2 al (hS.out.disk.fr hW (by simp)) hS.out.ok.tab)
        have HFT := Lib.hid (fun W (hW : Fr [] wr W) al => ra_Free W w.heap.size T x0 x1 x2 al (hS.out.disk.fr hW (by simp)) hS.out.ok.tab)
        rcases h345 with hl | hl | hl
        · have e1 : ((nthR ls k).length : Int) = 3 := by omega
          rw [hl] at hcell
          clear hl e1
          have HL3 := Lib.hid (HL.out 3 false (by decide) (by decide) (by decide))
          go_wp2_with (first
            | (go_at_call 23; (with_reducible refine useC HL3.out ?_); rintro e w2 ⟨rfl, hf⟩; have HF2 := Lib.hid hf; have HC := Lib.hid (HST.out w2 hf false); clear hf)
            | (go_at_call 14; (with_reducible refine useC HC.out ?_); rintro e w3 hA; have he := hA.1; subst he; have HS3 := Lib.hid ((hS.out.fr' HF2.out).ans hA (Ra.set_ok hS.out.ok x0 x1 x2 false)); clear hA))
          go_roundw
          case rel => exact ⟨k + 1, by omega, by omega, by go_num, _, HS3⟩
          case measure => simp [intOf]; omega
        · have e1 : ((nthR ls k).length : Int) = 4 := by omega
          rw [hl] at hcell
          clear hl e1
          have HL3 := Lib.hid (HL.out 4 true (by decide) (by decide) (by decide))
          go_wp2_with (first
            | (go_at_call 23; (with_reducible refine useC HL3.out ?_); rintro e w2 ⟨rfl, hf⟩; have HF2 := Lib.hid hf; have HC := Lib.hid (HST.out w2 hf true); clear hf)
            | (go_at_call 14; (with_reducible refine useC HC.out ?_); rintro e w3 hA; have he := hA.1; subst he; have HS3 := Lib.hid ((hS.out.fr' HF2.out).ans hA (Ra.set_ok hS.out.ok x0 x1 x2 true)); clear hA))
          go_roundw
          case rel => exact ⟨k + 1, by omega, by omega, by go_num, _, HS3⟩
          case measure => simp [intOf]; omega
        · have e1 : ((nthR ls k).length : Int) = 5 := by omega
          rw [hl] at hcell
          clear hl e1
          have HL3 := Lib.hid (HL.out 5 false (by decide) (by decide) (by decide))
          go_wp2_with (first
            | (go_at_call 23; (with_reducible refine useC HL3.out ?_); rintro e w2 ⟨rfl, hf⟩; have HF2 := Lib.hid hf; have HC := Lib.hid (HFT.out w2 hf false); clear hf)
            | (go_at_call 19; (with_reducible refine useC HC.out ?_); rintro e w3 hA; have he := hA.1; subst he; have HS3 := Lib.hid ((hS.out.fr' HF2.out).ans hA (Ra.free_ok hS.out.ok x0 x1 x2)); clear hA))
          go_roundw
          case rel => exact ⟨k + 1, by omega, by omega, by go_num, _, HS3⟩
          case measure => simp [intOf]; omega
      · have e1 : (((nthR ls k).length : Int) == 3) = false := by simp; omega
        have e2 : (((nthR ls k).length : Int) == 4) = false := by simp; omega
        have e3 : (((nthR ls k).length : Int) == 5) = false := by simp; omega
        clear hc' hA' h345 hkb
        go_wp2
        go_roundw
        case rel => exact ⟨k + 1, by omega, by omega, by go_num, _, hS⟩
        case measure => simp [intOf]; omega
    · have hout : ¬ (k : Int) < ls.length ∨ ((k : Int) < ls.length ∧ ¬ (k : Int) < 40) := by omega
      rcases hout with hout | ⟨hout, hout'⟩
      all_goals
        go_wp2
        go_ret
        exact ⟨_, T, rfl, hS.out⟩
end Go.Proofs.YtgljklefcfheaaaDoor
