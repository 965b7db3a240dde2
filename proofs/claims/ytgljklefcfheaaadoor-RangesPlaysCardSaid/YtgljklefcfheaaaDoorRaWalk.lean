/- The contracts of package ranges's functions: check, Test, fill, New. -/
import Derived.Test.YtgljklefcfheaaaDoorCommon
import Derived.Test.YtgljklefcfheaaaDoorRaPlain2
import Derived.Test.YtgljklefcfheaaaDoorMix
import Derived.Test.YtgljklefcfheaaaDoorEnc
import Derived.Handy
namespace Go.Proofs.YtgljklefcfheaaaDoor
open Go.RowKit

/-- Block b holds the table T. -/
def RaD (w : World) (b : Nat) (T : List Int) : Prop := w.heap[b]? = some (.cells (ints T) 64 (0, 0))
theorem RaD.fr {w w' : World} {b : Nat} {T : List Int} {S : List Nat} (h : RaD w b T) (hf : Fr S w w') (hb : b ∉ S) : RaD w' b T := hf.get h hb
theorem RaD.at_ {w : World} {b : Nat} {T : List Int} (h : RaD w b T) (hl : T.length = 256) {o p : Nat} (ho : o < 4) (hp : p < 64) : w.cell? ⟨b, o * 64 + p, none⟩ = some (.int .i64 (Ra.st T o p)) := by
  unfold Ra.st
  rw [show 64 * o + p = o * 64 + p by omega]
  exact cell_ints h (by omega)
/-- A lock as a value. -/
def lkV (o f n : Int) (a : Bool) : Value := .agg #[.int .i64 o, .int .i64 f, .int .i64 n, .bool a]
/-- A block that holds a lock. -/
def LkB (w : World) (B : Nat) (o f n : Int) (a : Bool) : Prop := w.heap[B]? = some (.cells #[.int .i64 o, .int .i64 f, .int .i64 n, .bool a] 29 (0, 0))
theorem LkB.cells {w : World} {B : Nat} {o f n : Int} {a : Bool} (h : LkB w B o f n a) : w.cell? ⟨B, 0, none⟩ = some (.int .i64 o) ∧ w.cell? ⟨B, 1, none⟩ = some (.int .i64 f) ∧ w.cell? ⟨B, 2, none⟩ = some (.int .i64 n) ∧ w.cell? ⟨B, 3, none⟩ = some (.bool a) := by
  refine ⟨?_, ?_, ?_, ?_⟩ <;> rw [cell_of_row w B _ _ _ _ h] <;> rfl
theorem lkb_new (w : World) (o f n : Int) (a : Bool) : LkB (w.alloc (.cells #[.int .i64 o, .int .i64 f, .int .i64 n, .bool a] 29)) w.heap.size o f n a := heap_alloc_new w _

theorem ra_check_ok (w : World) (o f n : Int) (a : Bool) (h : Ra.okL o f n) :
    Calls Tryd.prog 39 #[.agg #[.int .i64 o, .int .i64 f, .int .i64 n, .bool a]] w fun e w' => e = .returned .nilIface ∧ Fr [] w w' := by
  obtain ⟨h1, h2, h3⟩ := h
  have e1 : decide (0 ≤ o ∧ o ≤ 3) = true := decide_eq_true h1
  have e2 : decide (0 ≤ f ∧ f ≤ 63) = true := decide_eq_true h2
  have e3 : decide (1 ≤ n ∧ n ≤ 64 - f) = true := decide_eq_true h3
  obtain ⟨hf0, hf1⟩ := h2
  clear h1 h3
  have HB := Lib.hid (lkb_new w o f n a)
  have HF : Hid (Fr [] w (w.alloc (.cells #[.int .i64 o, .int .i64 f, .int .i64 n, .bool a] 29))) := (Fr.refl _ _).alloc _
  go_enter Tryd.func39, Tryd.ntmps39
  go_wp2_with fail
  revert HB HF
  generalize (w.alloc (.cells #[.int .i64 o, .int .i64 f, .int .i64 n, .bool a] 29)) = w1
  generalize w.heap.size = B
  intro HB HF
  obtain ⟨c0, c1, c2, c3⟩ := HB.out.cells
  refine useC (within_is _ _ _ true _ e1) ?_
  rintro _ _ ⟨rfl, rfl⟩
  go_wp2_with (first
    | (go_at_call 34; (with_reducible refine useC (within_is _ _ _ true _ e2) ?_); rintro e w2 ⟨rfl, rfl⟩)
    | (go_at_call 34; (with_reducible refine useC (within_is _ _ _ true _ e3) ?_); rintro e w2 ⟨rfl, rfl⟩))
  go_ret
  exact ⟨rfl, HF.out⟩
theorem ra_check_bad (w : World) (o f n : Int) (a : Bool) (h : ¬ Ra.okL o f n) :
    Calls Tryd.prog 39 #[.agg #[.int .i64 o, .int .i64 f, .int .i64 n, .bool a]] w fun e w' => e = .returned (.iface 66 (.int .i64 1)) ∧ Fr [] w w' := by
  have HB := Lib.hid (lkb_new w o f n a)
  have HF : Hid (Fr [] w (w.alloc (.cells #[.int .i64 o, .int .i64 f, .int .i64 n, .bool a] 29))) := (Fr.refl _ _).alloc _
  by_cases h1 : 0 ≤ o ∧ o ≤ 3
  · have e1 : decide (0 ≤ o ∧ o ≤ 3) = true := decide_eq_true h1
    by_cases h2 : 0 ≤ f ∧ f ≤ 63
    · have e2 : decide (0 ≤ f ∧ f ≤ 63) = true := decide_eq_true h2
      have e3 : decide (1 ≤ n ∧ n ≤ 64 - f) = false := decide_eq_false (fun h3 => h ⟨h1, h2, h3⟩)
      obtain ⟨hf0, hf1⟩ := h2
      clear h1 h
      go_enter Tryd.func39, Tryd.ntmps39
      go_wp2_with fail
      revert HB HF
      generalize (w.alloc (.cells #[.int .i64 o, .int .i64 f, .int .i64 n, .bool a] 29)) = w1
      generalize w.heap.size = B
      intro HB HF
      obtain ⟨c0, c1, c2, c3⟩ := HB.out.cells
      refine useC (within_is _ _ _ true _ e1) ?_
      rintro _ _ ⟨rfl, rfl⟩
      go_wp2_with (first
        | (go_at_call 34; (with_reducible refine useC (within_is _ _ _ true _ e2) ?_); rintro e w2 ⟨rfl, rfl⟩)
        | (go_at_call 34; (with_reducible refine useC (within_is _ _ _ false _ e3) ?_); rintro e w2 ⟨rfl, rfl⟩))
      go_ret
      exact ⟨rfl, HF.out⟩
    · have e2 : decide (0 ≤ f ∧ f ≤ 63) = false := decide_eq_false h2
      clear h1 h h2
      go_enter Tryd.func39, Tryd.ntmps39
      go_wp2_with fail
      revert HB HF
      generalize (w.alloc (.cells #[.int .i64 o, .int .i64 f, .int .i64 n, .bool a] 29)) = w1
      generalize w.heap.size = B
      intro HB HF
      obtain ⟨c0, c1, c2, c3⟩ := HB.out.cells
      refine useC (within_is _ _ _ true _ e1) ?_
      rintro _ _ ⟨rfl, rfl⟩
      go_wp2_with (go_at_call 34; (with_reducible refine useC (within_is _ _ _ false _ e2) ?_); rintro e w2 ⟨rfl, rfl⟩)
      go_ret
      exact ⟨rfl, HF.out⟩
  · have e1 : decide (0 ≤ o ∧ o ≤ 3) = false := decide_eq_false h1
    clear h1 h
    go_enter Tryd.func39, Tryd.ntmps39
    go_wp2_with fail
    revert HB HF
    generalize (w.alloc (.cells #[.int .i64 o, .int .i64 f, .int .i64 n, .bool a] 29)) = w1
    generalize w.heap.size = B
    intro HB HF
    refine useC (within_is _ _ _ false _ e1) ?_
    rintro _ _ ⟨rfl, rfl⟩
    go_wp2
    go_ret
    exact ⟨rfl, HF.out⟩

def testAns (x : Int × Int) : Value := .tuple #[.int .i64 x.1, errV x.2]
set_option maxRecDepth 100000 in
theorem ra_Test (w : World) (b : Nat) (T : List Int) (o f n : Int) (a : Bool) (hD : RaD w b T) (hl : T.length = 256) :
    Calls Tryd.prog 21 #[.pointer (some ⟨b, 0, none⟩), .agg #[.int .i64 o, .int .i64 f, .int .i64 n, .bool a]] w fun e w' => e = .returned (testAns (Ra.test T o f n a)) ∧ Fr [] w w' := by
  have HB := Lib.hid (lkb_new w o f n a)
  have HF : Hid (Fr [] w (w.alloc (.cells #[.int .i64 o, .int .i64 f, .int .i64 n, .bool a] 29))) := (Fr.refl _ _).alloc _
  have HA := Lib.hid (fun W (hW : Fr [] w W) (who p : Nat) (h1 : who < 4) (h2 : p < 64) => (hD.fr hW (by simp)).at_ hl h1 h2)
  obtain ⟨d0, d1, d2, d3⟩ := HB.out.cells
  clear hD hl
  by_cases hok : Ra.okL o f n
  · have er := Lib.hid (show testAns (Ra.test T o f n a) = .tuple #[.int .i64 (Ra.against T o.toNat f.toNat n.toNat a 4), .nilIface] from by unfold testAns Ra.test; rw [if_pos hok]; rfl)
    have hk := hok
    obtain ⟨h1, h2, h3⟩ := hk
    obtain ⟨on, rfl⟩ : ∃ k : Nat, o = k := ⟨o.toNat, by omega⟩
    obtain ⟨fn, rfl⟩ : ∃ k : Nat, f = k := ⟨f.toNat, by omega⟩
    obtain ⟨nn, rfl⟩ : ∃ k : Nat, n = k := ⟨n.toNat, by omega⟩
    simp only [Int.toNat_natCast] at er
    have hfn : fn + nn ≤ 64 := by omega
    have hf63 : (fn : Int) ≤ 63 := by omega
    have hn64 : (nn : Int) ≤ 64 := by omega
    have HOK := Lib.hid hok
    clear h1 h2 h3 hok
    go_enter Tryd.func21, Tryd.ntmps21
    go_wp2_with (go_at_call 39; (with_reducible refine useC (ra_check_ok _ _ _ _ _ HOK.out) ?_); rintro e w1 ⟨rfl, hf⟩; have HF1 := Lib.hid (HF.out.trans hf); obtain ⟨c0, c1, c2, c3⟩ := LkB.cells (hf.get HB.out (by simp)); clear hf)
    clear d0 d1 d2 d3
    go_loop [15] (fun c => ∃ k : Nat, k ≤ 4 ∧ c = .int .i64 k ∧ Hid (Ra.against T on fn nn a 4 = Ra.against T on fn nn a (4 - k))) (fun c => 4 - (intOf c).toNat)
    case atStart => exact ⟨0, Nat.zero_le _, rfl, rfl⟩
    case round =>
      obtain ⟨k, hk, rfl, hg⟩ := hrel
      by_cases hlt : k < 4
      · have hk4 : (k : Int) < 4 := by omega
        have hstep : Hid (Ra.against T on fn nn a (4 - k) = if k ≠ on ∧ Ra.hits T k fn a nn = true then (k : Int) else Ra.against T on fn nn a (4 - (k + 1))) := by
          show _ = _
          rw [show 4 - k = (3 - k) + 1 by omega, Ra.against, show 3 - (3 - k) = k by omega, show 4 - (k + 1) = 3 - k by omega]
        by_cases hko : k = on
        · have hs := Lib.hid (show Ra.against T on fn nn a 4 = Ra.against T on fn nn a (4 - (k + 1)) from by rw [hg.out, hstep.out, if_neg (fun h => h.1 hko)])
          subst hko
          go_wp2
          go_round
          case rel => exact ⟨k + 1, by omega, by go_num, hs⟩
          case measure => simp [intOf]; omega
        · have hne : ((k : Int) == (on : Int)) = false := by simp; omega
          have hne2 : ¬ (k : Int) = (on : Int) := by omega
          go_wp2
          go_loop [8] (fun p => ∃ m : Nat, m ≤ nn ∧ p = .int .i64 ((fn + m : Nat) : Int) ∧ Hid (Ra.hits T k fn a m = false)) (fun p => 64 - (intOf p).toNat)
          case atStart => exact ⟨0, Nat.zero_le _, by simp, rfl⟩
          case round =>
            obtain ⟨m, hm, rfl, hh⟩ := hrel
            by_cases hmn : m < nn
            · have hcell := HA.out w1 HF1.out k (fn + m) hlt (by omega)
              have hp0 : ((fn + m : Nat) : Int) < (fn : Int) + nn := by omega
              have hp1 : (0 : Int) ≤ ((fn + m : Nat) : Int) := by omega
              have hp2 : ((fn + m : Nat) : Int) < 64 := by omega
              have hsm : Hid (Ra.hits T k fn a (m + 1) = (decide (Ra.st T k (fn + m) = 2) || (decide (Ra.st T k (fn + m) = 1) && a))) := by show _ = _; unfold Ra.hits; rw [hh.out]; rfl
              have hret : Hid (Ra.hits T k fn a (m + 1) = true → testAns (Ra.test T on fn nn a) = .tuple #[.int .i64 k, .nilIface]) := fun h => by rw [er.out, hg.out, hstep.out, if_pos ⟨hko, Ra.hits_mono nn (by omega) h⟩]
              by_cases h2 : Ra.st T k (fn + m) = 2
              · have hr := Lib.hid (hret.out (by rw [hsm.out, h2]; rfl))
                rw [h2] at hcell
                clear h2 hsm hret
                go_wp2
                go_ret2
                rw [hr.out]
                exact ⟨rfl, HF1.out⟩
              · have b2 : (Ra.st T k (fn + m) == 2) = false := by simpa using h2
                by_cases h1 : Ra.st T k (fn + m) = 1
                · rw [h1] at hcell
                  cases a with
                  | true =>
                    have hr := Lib.hid (hret.out (by rw [hsm.out, h1]; rfl))
                    clear h1 h2 b2 hsm hret
                    go_wp2
                    go_ret2
                    rw [hr.out]
                    exact ⟨rfl, HF1.out⟩
                  | false =>
                    have hs2 := Lib.hid (show Ra.hits T k fn false (m + 1) = false from by rw [hsm.out, h1]; rfl)
                    clear h1 h2 b2 hsm hret
                    go_wp2
                    go_round
                    case rel => exact ⟨m + 1, by omega, by go_num, hs2⟩
                    case measure => simp [intOf]; omega
                · have b1 : (Ra.st T k (fn + m) == 1) = false := by simpa using h1
                  have hs2 := Lib.hid (show Ra.hits T k fn a (m + 1) = false from by rw [hsm.out, decide_eq_false h2, decide_eq_false h1]; rfl)
                  have H1 := Lib.hid h1
                  have H2 := Lib.hid h2
                  clear h1 h2 hsm hret
                  generalize Ra.st T k (fn + m) = x at *
                  go_wp2
                  go_round
                  case rel => exact ⟨m + 1, by omega, by go_num, hs2⟩
                  case measure => simp [intOf]; omega
            · have hmn' : m = nn := by omega
              have hs := Lib.hid (show Ra.against T on fn nn a 4 = Ra.against T on fn nn a (4 - (k + 1)) from by rw [hg.out, hstep.out, if_neg (fun h => by rw [← hmn', hh.out] at h; exact absurd h.2 (by simp))])
              have hp0 : ¬ ((fn + m : Nat) : Int) < (fn : Int) + nn := by omega
              have hmx : ((fn + m : Nat) : Int) ≤ 64 := by omega
              clear hmn' hh hmn
              go_wp2
              go_round
              case rel => exact ⟨k + 1, by omega, by go_num, hs⟩
              case measure => simp [intOf]; omega
      · have hk4 : k = 4 := by omega
        rw [hk4] at hg
        have hr := Lib.hid (show testAns (Ra.test T on fn nn a) = .tuple #[.int .i64 (-1), .nilIface] from by rw [er.out, hg.out]; rfl)
        clear hk4 hg
        go_wp2
        go_ret2
        rw [hr.out]
        exact ⟨rfl, HF1.out⟩
  · have er := Lib.hid (show testAns (Ra.test T o f n a) = .tuple #[.int .i64 0, .iface 66 (.int .i64 1)] from by unfold testAns Ra.test; rw [if_neg hok]; rfl)
    have HOK := Lib.hid hok
    clear hok
    go_enter Tryd.func21, Tryd.ntmps21
    go_wp2_with (go_at_call 39; (with_reducible refine useC (ra_check_bad _ _ _ _ _ HOK.out) ?_); rintro e w1 ⟨rfl, hf⟩; have HF1 := Lib.hid (HF.out.trans hf); clear hf)
    go_ret2
    rw [er.out]
    exact ⟨rfl, HF1.out⟩
end Go.Proofs.YtgljklefcfheaaaDoor
