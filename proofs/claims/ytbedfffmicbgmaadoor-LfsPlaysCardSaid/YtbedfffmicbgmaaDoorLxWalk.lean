/- The document's answer for package lfs: place, behind, last, Read, NewLfs. -/
import Derived.Test.YtbedfffmicbgmaaDoorLxRef
import Derived.Test.YtbedfffmicbgmaaDoorMix
import Derived.Test.YtbedfffmicbgmaaDoorMkInts0
namespace Go.Proofs.YtbedfffmicbgmaaDoor
open Go.RowKit

theorem lx_place (w : World) (G : Nat → Prop) (v : Value) (l : List Int) (n : Int) (h : RowG G w v l) :
    Calls Tryd.prog 32 #[v, .int .i64 n] w fun e w' => e = .returned (.int .i64 (Lx.place l n)) ∧ w' = w := by
  obtain ⟨A, g, o, c, rfl, hm0, hA, hc⟩ := h.form
  have HA := Lib.hid hA
  have HC := Lib.hid (hc w (Fr.refl _ _))
  clear hA hc h
  go_enter Tryd.func32, Tryd.ntmps32
  go_wp2
  go_loop [5] (fun i => ∃ k : Nat, k ≤ l.length ∧ i = .int .i64 k ∧ Hid (Lx.place l n = Lx.placeFrom l n (l.length - k) k)) (fun i => l.length - (intOf i).toNat)
  case atStart => exact ⟨0, Nat.zero_le _, rfl, rfl⟩
  case round =>
    obtain ⟨k, hk, rfl, hp⟩ := hrel
    by_cases hlt : k < l.length
    · obtain rfl := HA.out (by omega)
      have q := HC.out k hlt
      have kI : (k : Int) < l.length := by omega
      have k0 : (0 : Int) ≤ k := by omega
      have hp2 : Lx.place l n = if nth l k = n then (k : Int) else Lx.placeFrom l n (l.length - (k + 1)) (k + 1) := by
        have h1 := hp.out
        rw [show l.length - k = (l.length - (k + 1)) + 1 by omega] at h1
        exact h1
      by_cases he : nth l k = n
      · have HP := Lib.hid (hp2.trans (if_pos he))
        have hb : (nth l k == n) = true := beq_iff_eq.2 he
        clear hp hp2 he
        generalize nth l k = y at *
        go_wp2
        go_ret
        exact ⟨by rw [HP.out]; rfl, rfl⟩
      · have HP := Lib.hid (hp2.trans (if_neg he))
        have hb : (nth l k == n) = false := beq_eq_false_iff_ne.2 he
        clear hp hp2 he
        generalize nth l k = y at *
        go_wp2
        go_round
        case rel => exact ⟨k + 1, by omega, by go_num, HP⟩
        case measure => (simp [intOf]; try omega)
    · obtain rfl : k = l.length := by omega
      have HP : Hid (Lx.place l n = -1) := by
        show _ = _
        rw [hp.out, Nat.sub_self]
        rfl
      clear hp
      go_wp2
      go_ret
      exact ⟨by rw [HP.out]; rfl, rfl⟩
set_option maxRecDepth 100000 in
theorem lx_behind (w : World) (G : Nat → Prop) (v : Value) (l : List Int) (n : Int) (h : RowG G w v l) (hl : l.length < 900000) :
    Calls Tryd.prog 33 #[v, .int .i64 n] w (NewRow (l ++ [n]) w) := by
  obtain ⟨g, _, hs⟩ := h
  have HS := Lib.hid hs
  obtain ⟨A, o, c, rfl, -, -, -⟩ := hs.form
  clear hs
  go_enter Tryd.func33, Tryd.ntmps33
  go_wp2_with (first
    | (at_builtin; refine wpList_spread_int Tryd.intT rfl _ _ rfl w.heap.size _ _ [] l g rfl (Own.nil w _ _) rfl HS.out (by simp; omega) (Nat.le_refl _) ?_; intro v' w1 h1 _ h3; rw [List.nil_append] at h1; have H1 := Lib.hid h1; obtain ⟨A1, c1, rfl⟩ := h1.form0; have HB1 := Lib.hid h3; clear h1 h3)
    | (have h' := H1; clear h'; at_builtin; refine wpList_push_int (wr := w1) Tryd.intT rfl _ _ rfl w.heap.size _ l rfl H1.out rfl (by omega) HB1.out.size ?_; intro v' w2 h1 _ h3; have H2 := Lib.hid h1; have HB2 := Lib.hid ((Fr.of_below HB1.out).below_step h3 (Nat.le_refl _)); clear h1 h3))
  go_ret
  exact H2.out.newRow (Nat.le_refl _) HB2.out
theorem lx_last (w : World) (G : Nat → Prop) (v : Value) (x : Lx.X) (p : Int) (hv : LxV G w v x) :
    Calls Tryd.prog 35 #[v, .int .i64 p] w fun e w' => e = .returned (.int .i64 (Lx.last x p)) ∧ Fr [] w w' := by
  obtain ⟨A1, n1, c1, A2, n2, c2, A3, n3, c3, A4, n4, c4, A5, n5, c5, rfl, hR⟩ := hv.form
  have HB := Lib.hid (LxB.start hR)
  obtain ⟨A, g, o, c, e3, hm0, hA, hc⟩ := HB.out.rows.rc.form
  injection e3 with e31 e32 e33
  subst e31 e32 e33
  have HA := Lib.hid hA
  have HC := Lib.hid (hc _ (Fr.refl _ _))
  obtain ⟨b0, b1, b2, b3, b4, b5⟩ := HB.out.box.cells
  clear hA hc hv hR
  go_enter Tryd.func35, Tryd.ntmps35
  go_wp2
  generalize hW : w.alloc (.cells #[.slice A1 n1 c1, .slice A2 n2 c2, .slice A3 x.page.length c3, .slice A4 n4 c4, .slice A5 n5 c5, .int .i64 (x.head : Int)] 27) = W at *
  clear hW
  go_loop [5] (fun i => ∃ m : Nat, m ≤ x.page.length ∧ i = .int .i64 ((m : Int) - 1) ∧ Hid (Lx.last x p = Lx.lastTo x.page p m)) (fun i => (intOf i + 1).toNat)
  case atStart => exact ⟨x.page.length, Nat.le_refl _, by go_num, rfl⟩
  case round =>
    obtain ⟨m, hm, rfl, hp⟩ := hrel
    by_cases h0 : 0 < m
    · obtain ⟨k, rfl⟩ : ∃ k, m = k + 1 := ⟨m - 1, by omega⟩
      have hk1 : (((k + 1 : Nat) : Int) - 1) = (k : Int) := by omega
      rw [hk1]
      have hlt : k < x.page.length := by omega
      obtain rfl := HA.out (by omega)
      have q := HC.out k hlt
      have kI : (k : Int) < x.page.length := by omega
      have k0 : (0 : Int) ≤ k := by omega
      have hp2 : Lx.last x p = if nth x.page k = p then (k : Int) else Lx.lastTo x.page p k := hp.out
      by_cases he : nth x.page k = p
      · have HP := Lib.hid (hp2.trans (if_pos he))
        have hb : (nth x.page k == p) = true := beq_iff_eq.2 he
        clear hp hp2 he hk1 h0
        generalize nth x.page k = y at *
        go_wp2
        go_ret
        exact ⟨by rw [HP.out]; rfl, HB.out.fr⟩
      · have HP := Lib.hid (hp2.trans (if_neg he))
        have hb : (nth x.page k == p) = false := beq_eq_false_iff_ne.2 he
        clear hp hp2 he hk1 h0
        generalize nth x.page k = y at *
        go_wp2
        go_round
        case rel => exact ⟨k, by omega, by go_num, HP⟩
        case measure => (simp [intOf]; try omega)
    · obtain rfl : m = 0 := by omega
      have HP : Hid (Lx.last x p = -1) := hp
      clear hp
      go_wp2
      go_ret
      exact ⟨by rw [HP.out]; rfl, HB.out.fr⟩
theorem lx_Read (w : World) (G : Nat → Prop) (v : Value) (x : Lx.X) (p : Int) (hv : LxV G w v x) (hl : x.value.length = x.page.length) :
    Calls Tryd.prog 14 #[v, .int .i64 p] w fun e w' => e = .returned (.int .i64 (Lx.read x p)) ∧ Fr [] w w' := by
  obtain ⟨A1, n1, c1, A2, n2, c2, A3, n3, c3, A4, n4, c4, A5, n5, c5, rfl, hR⟩ := hv.form
  have HB := Lib.hid (LxB.start hR)
  obtain ⟨A, g, o, c, e3, hm0, hA, hc⟩ := HB.out.rows.rd.form
  injection e3 with e31 e32 e33
  subst e31 e32 e33
  have HA := Lib.hid hA
  have HC := Lib.hid hc
  obtain ⟨b0, b1, b2, b3, b4, b5⟩ := HB.out.box.cells
  have HL := Lib.hid hl
  clear hA hc hv hR hl
  go_enter Tryd.func14, Tryd.ntmps14
  go_wp2_with fail
  generalize hW : w.alloc (.cells #[.slice A1 n1 c1, .slice A2 n2 c2, .slice A3 n3 c3, .slice A4 x.value.length c4, .slice A5 n5 c5, .int .i64 (x.head : Int)] 27) = W at *
  clear hW
  refine useC (lx_last W _ _ x p HB.out.val) ?_
  rintro e w1 ⟨rfl, hf⟩
  have HB1 := Lib.hid (HB.out.step hf)
  have HF := Lib.hid hf
  have hlt := Lx.last_lt x p
  clear b0 b1 b2 b3 b4 b5 hf
  obtain ⟨b0, b1, b2, b3, b4, b5⟩ := HB1.out.box.cells
  have hrd : Lx.read x p = if Lx.last x p < 0 then 0 else nth x.value (Lx.last x p).toNat := rfl
  by_cases h0 : Lx.last x p < 0
  · have HP := Lib.hid (hrd.trans (if_pos h0))
    clear hrd hlt
    generalize Lx.last x p = y at *
    go_wp2
    go_ret
    exact ⟨by rw [HP.out]; rfl, HB1.out.fr⟩
  · have HP := Lib.hid (hrd.trans (if_neg h0))
    obtain ⟨k, hk⟩ : ∃ k : Nat, Lx.last x p = (k : Int) := ⟨(Lx.last x p).toNat, by omega⟩
    rw [hk, Int.toNat_natCast] at HP
    rw [hk] at hlt h0 ⊢
    have hkl : k < x.value.length := by rw [HL.out]; omega
    obtain rfl := HA.out (by omega)
    have q := HC.out w1 HF.out k hkl
    have kI : (k : Int) < x.value.length := by omega
    have k0 : (0 : Int) ≤ k := by omega
    clear hrd hlt hk
    generalize nth x.value k = y at *
    go_wp2
    go_ret
    exact ⟨by rw [HP.out]; rfl, HB1.out.fr⟩
end Go.Proofs.YtbedfffmicbgmaaDoor
