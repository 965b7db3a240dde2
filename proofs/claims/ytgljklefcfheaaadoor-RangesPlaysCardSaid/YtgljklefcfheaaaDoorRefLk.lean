/- The contracts of the reference's Locks: Test. -/
import Derived.Test.YtgljklefcfheaaaDoorRaWalk
import Derived.Test.YtgljklefcfheaaaDoorRaPlain2
import Derived.Test.YtgljklefcfheaaaDoorRaRight
namespace Go.Proofs.YtgljklefcfheaaaDoor
open Go.RowKit

set_option maxRecDepth 100000 in
set_option maxHeartbeats 4000000 in
theorem ref_Test (w : World) (v : Value) (g : Nat) (T : List Int) (o f n : Int) (a : Bool) (hS : Sl w v g T) (hl : T.length = 256) (hok : Ra.okL o f n) :
    Calls Tryd.prog 24 #[.agg #[v], .agg #[.int .i64 o, .int .i64 f, .int .i64 n, .bool a]] w fun e w' => e = .returned (.int .i64 (Ra.against T o.toNat f.toNat n.toNat a 4)) ∧ Fr [] w w' := by
  obtain ⟨A, so, c, rfl, _, hA, hc⟩ := hS.form
  obtain rfl := hA (by omega)
  rw [hl]
  clear hS hA
  obtain ⟨h1, h2, h3⟩ := hok
  obtain ⟨on, rfl⟩ : ∃ k : Nat, o = k := ⟨o.toNat, by omega⟩
  obtain ⟨fn, rfl⟩ : ∃ k : Nat, f = k := ⟨f.toNat, by omega⟩
  obtain ⟨nn, rfl⟩ : ∃ k : Nat, n = k := ⟨n.toNat, by omega⟩
  simp only [Int.toNat_natCast]
  have hfn : fn + nn ≤ 64 := by omega
  have hf63 : (fn : Int) ≤ 63 := by omega
  have hn64 : (nn : Int) ≤ 64 := by omega
  clear h1 h2 h3
  have HA := Lib.hid (fun W (hW : Fr [] w W) (who p : Nat) (h1 : who < 4) (h2 : p < 64) => show W.cell? ⟨g, so + (who * 64 + p), none⟩ = some (.int .i64 (Ra.st T who p)) from by
    have := hc (64 * who + p) (by omega)
    unfold Ra.st
    rw [show who * 64 + p = 64 * who + p by omega]
    exact hW.cell this (by simp))
  clear hc hl
  have HF : Hid (Fr [] w ((w.alloc (.cells #[.slice (some ⟨g, so, none⟩) 256 c] 47)).alloc (.cells #[.int .i64 on, .int .i64 fn, .int .i64 nn, .bool a] 29))) := ((Fr.refl _ _).alloc _).alloc _
  have HB0 : Hid (((w.alloc (.cells #[.slice (some ⟨g, so, none⟩) 256 c] 47)).alloc (.cells #[.int .i64 on, .int .i64 fn, .int .i64 nn, .bool a] 29)).heap[w.heap.size]? = some (.cells #[.slice (some ⟨g, so, none⟩) 256 c] 47 (0, 0))) := ((Fr.refl [] (w.alloc (.cells #[.slice (some ⟨g, so, none⟩) 256 c] 47))).alloc _).get (heap_alloc_new w _) (by simp)
  have HB : Hid (LkB ((w.alloc (.cells #[.slice (some ⟨g, so, none⟩) 256 c] 47)).alloc (.cells #[.int .i64 on, .int .i64 fn, .int .i64 nn, .bool a] 29)) (w.heap.size + 1) on fn nn a) := by
    have := lkb_new (w.alloc (.cells #[.slice (some ⟨g, so, none⟩) 256 c] 47)) on fn nn a
    rwa [show (w.alloc (.cells #[.slice (some ⟨g, so, none⟩) 256 c] 47)).heap.size = w.heap.size + 1 from Array.size_push _] at this
  go_enter Tryd.func24, Tryd.ntmps24
  go_wp2_with fail
  revert HF HB0 HB
  generalize ((w.alloc (.cells #[.slice (some ⟨g, so, none⟩) 256 c] 47)).alloc (.cells #[.int .i64 on, .int .i64 fn, .int .i64 nn, .bool a] 29)) = w1
  intro HF HB0 HB
  obtain ⟨c0, c1, c2, c3⟩ := HB.out.cells
  have cs : w1.cell? ⟨w.heap.size, 0, none⟩ = some (.slice (some ⟨g, so, none⟩) 256 c) := by rw [cell_of_row w1 _ _ _ _ _ HB0.out]; rfl
  go_loop [5] (fun c => ∃ k : Nat, k ≤ 4 ∧ c = .int .i64 k ∧ Hid (Ra.against T on fn nn a 4 = Ra.against T on fn nn a (4 - k))) (fun c => 4 - (intOf c).toNat)
  case atStart => exact ⟨0, Nat.zero_le _, rfl, rfl⟩
  case round =>
    obtain ⟨k, hk, rfl, hg⟩ := hrel
    by_cases hlt : k < 4
    · have hk4 : (k : Int) < 4 := by omega
      have hstep : Hid (Ra.against T on fn nn a (4 - k) = if k ≠ on ∧ Ra.hits T k fn a nn = true then (k : Int) else Ra.against T on fn nn a (4 - (k + 1))) := by
        show _ = _
        rw [show 4 - k = (3 - k) + 1 by omega, Ra.against, show 3 - (3 - k) = k by omega, show 4 - (k + 1) = 3 - k by omega]
      go_wp2
      go_loop [6] (fun p => ∃ m : Nat, m ≤ nn ∧ p = .int .i64 ((fn + m : Nat) : Int) ∧ Hid (Ra.hits T k fn a m = false)) (fun p => 64 - (intOf p).toNat)
      case atStart => exact ⟨0, Nat.zero_le _, by simp, rfl⟩
      case round =>
        obtain ⟨m, hm, rfl, hh⟩ := hrel
        by_cases hko : k = on
        · have hs := Lib.hid (show Ra.against T on fn nn a 4 = Ra.against T on fn nn a (4 - (k + 1)) from by rw [hg.out, hstep.out, if_neg (fun h => h.1 hko)])
          have hne : ((k : Int) == (on : Int)) = true := by simp [hko]
          have hmx : ((fn + m : Nat) : Int) ≤ 64 := by omega
          clear hko hstep hg
          by_cases hmn : m < nn
          · have hp0 : ((fn + m : Nat) : Int) < (fn : Int) + nn := by omega
            go_wp2
            go_round
            case rel => exact ⟨k + 1, by omega, by go_num, hs⟩
            case measure => simp [intOf]; omega
          · have hp0 : ¬ ((fn + m : Nat) : Int) < (fn : Int) + nn := by omega
            go_wp2
            go_round
            case rel => exact ⟨k + 1, by omega, by go_num, hs⟩
            case measure => simp [intOf]; omega
        · have hne : ((k : Int) == (on : Int)) = false := by simp; omega
          have hne2 : ¬ (k : Int) = (on : Int) := by omega
          by_cases hmn : m < nn
          · have hcell := HA.out w1 HF.out k (fn + m) hlt (by omega)
            have hp0 : ((fn + m : Nat) : Int) < (fn : Int) + nn := by omega
            have hp1 : (0 : Int) ≤ ((fn + m : Nat) : Int) := by omega
            have hp2 : ((fn + m : Nat) : Int) < 64 := by omega
            have hsm : Hid (Ra.hits T k fn a (m + 1) = (decide (Ra.st T k (fn + m) = 2) || (decide (Ra.st T k (fn + m) = 1) && a))) := by show _ = _; unfold Ra.hits; rw [hh.out]; rfl
            have hret : Hid (Ra.hits T k fn a (m + 1) = true → Ra.against T on fn nn a 4 = k) := fun h => by rw [hg.out, hstep.out, if_pos ⟨hko, Ra.hits_mono nn (by omega) h⟩]
            by_cases h2 : Ra.st T k (fn + m) = 2
            · have hr := Lib.hid (hret.out (by rw [hsm.out, h2]; rfl))
              rw [h2] at hcell
              clear h2 hsm hret
              go_wp2
              go_ret
              exact ⟨ret_int hr.out.symm, HF.out⟩
            · have b2 : (Ra.st T k (fn + m) == 2) = false := by simpa using h2
              by_cases h1 : Ra.st T k (fn + m) = 1
              · rw [h1] at hcell
                cases a with
                | true =>
                  have hr := Lib.hid (hret.out (by rw [hsm.out, h1]; rfl))
                  clear h1 h2 b2 hsm hret
                  go_wp2
                  go_ret
                  exact ⟨ret_int hr.out.symm, HF.out⟩
                | false =>
                  have hs2 := Lib.hid (show Ra.hits T k fn false (m + 1) = false from by rw [hsm.out, h1]; rfl)
                  clear h1 h2 b2 hsm hret
                  go_wp2
                  go_round
                  case rel => exact ⟨m + 1, by omega, by go_num, hs2⟩
                  case measure => simp [intOf]; omega
              · have b1 : (Ra.st T k (fn + m) == 1) = false := by simpa using h1
                have hs2 := Lib.hid (show Ra.hits T k fn a (m + 1) = false from by rw [hsm.out, decide_eq_false h2, decide_eq_false h1]; rfl)
                clear h1 h2 hsm hret
                generalize Ra.st T k (fn + m) = x at *
                go_wp2
                go_round
                case rel => exact ⟨m + 1, by omega, by go_num, hs2⟩
                case measure => simp [intOf]; omega
          · have hmn' : m = nn := by omega
            have hs := Lib.hid (show Ra.against T on fn nn a 4 = Ra.against T on fn nn a (4 - (k + 1)) from by rw [hg.out, hstep.out, if_neg (fun h => by rw [← hmn', hh.out] at h; exact absurd h.2 (by simp))])
            have hp0 : ¬ ((fn + m : Nat) : Int) < (fn : Int) + nn := by omega
            have hmx : ((fn + m : Nat) : Int) ≤ 64 := by omega
            clear hmn' hh hmn
            go_wp2
            go_round
            case rel => exact ⟨k + 1, by omega, by go_num, hs⟩
            case measure => simp [intOf]; omega
    · have hk4 : k = 4 := by omega
      have hr := Lib.hid (show Ra.against T on fn nn a 4 = -1 from by rw [hg.out, hk4]; rfl)
      rw [hk4]
      clear hk4 hg
      go_wp2
      go_ret
      exact ⟨ret_int hr.out.symm, HF.out⟩
end Go.Proofs.YtgljklefcfheaaaDoor
