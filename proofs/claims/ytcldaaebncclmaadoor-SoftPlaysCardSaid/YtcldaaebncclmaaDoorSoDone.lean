/- One step of the law on package soft: done; the contract of Names. -/
import Derived.Test.YtcldaaebncclmaaDoorSoSt
import Derived.Test.YtcldaaebncclmaaDoorCIn3
import Derived.Test.YtcldaaebncclmaaDoorErr2
namespace Go.Proofs.YtcldaaebncclmaaDoor
open Go.RowKit

/-- What 'done' does. -/
def So.act (L : List Int) (k a c : Int) : List Int × Int := if k = 0 then So.link L a c else if k = 1 then So.drop L a else if k = 2 then So.inode L a else So.entry L a
theorem So.act_ok {L : List Int} {n : Nat} (h : So.OK L n) (k a c : Int) : So.OK (So.act L k a c).1 (n + 1) ∧ (So.Tru L → So.Tru (So.act L k a c).1) := by
  unfold So.act
  split
  · exact So.link_ok h a c
  · split
    · exact So.drop_ok h a
    · split
      · have := So.inode_ok h a; exact ⟨this.1.mono (by omega), this.2⟩
      · have := So.entry_ok h a; exact ⟨this.1.mono (by omega), this.2⟩
set_option maxRecDepth 100000 in
theorem so_done (w : World) (b : Nat) (L : List Int) (n : Nat) (g o c : Nat) (x y z : Int) (hD : SoD w b L) (hO : So.OK L n) (hn : n ≤ 1000)
    (h0 : w.cell? ⟨g, o, none⟩ = some (.int .i64 x)) (h1 : w.cell? ⟨g, o + 1, none⟩ = some (.int .i64 y)) (h2 : w.cell? ⟨g, o + 2, none⟩ = some (.int .i64 z)) :
    Calls Tryd.prog 24 #[.pointer (some ⟨b, 0, none⟩), .slice (some ⟨g, o, none⟩) 3 c] w (SoAns b (errV (So.act L x y z).2) (So.act L x y z).1 w) := by
  have HL := Lib.hid (so_link w.drew b L y z hD hO.shp (hO.bd hn))
  have HP := Lib.hid (so_drop w b L y hD hO.shp (hO.bd hn))
  have HI := Lib.hid (so_Inode w b L y hD hO.shp)
  have HE := Lib.hid (so_Entry w b L y hD hO.shp)
  clear hD hO hn
  by_cases k0 : x = 0
  · have er := Lib.hid (show So.act L x y z = So.link L y z from by unfold So.act; rw [if_pos k0])
    subst k0
    go_enter Tryd.func24, Tryd.ntmps24
    go_wp2
    (refine wp_region_mixq 7 [(true, 0), (true, 1), (true, 2), (true, 3), (true, 4), (true, 5), (true, 6)] (by kernel_rfl) (by kernel_rfl) ?_; simp only [pickOps, List.map_cons, List.map_nil, List.getD_cons_zero, List.getD_cons_succ, List.drop_succ_cons, List.drop_zero]; (iterate 7 (first | (refine wpMix_take (v := ?_) (by rfl) ?_ ?_; rotate_left; (focus (intro W hW; subst hW; go_simp; (try with_reducible rfl); done)); try simp only [Act.put, List.setIfInBounds_toArray, List.set_cons_zero, List.set_cons_succ]) | (refine wpMix_leave (by rfl) ?_; try simp only [Act.put, List.setIfInBounds_toArray, List.set_cons_zero, List.set_cons_succ]))); refine wpMix_nil ?_)
    go_wp2_with (go_at_call 41; (with_reducible refine useC HL.out ?_); rintro e w' ⟨rfl, hd, hf⟩; have HD := Lib.hid hd; have HF := Lib.hid hf; clear hd hf)
    go_ret
    rw [er.out]
    exact ⟨rfl, HD.out, (Fr.refl [b] w).drew.trans HF.out⟩
  · by_cases k1 : x = 1
    · have er := Lib.hid (show So.act L x y z = So.drop L y from by unfold So.act; rw [if_neg k0, if_pos k1])
      subst k1
      clear k0
      go_enter Tryd.func24, Tryd.ntmps24
      go_wp2_with (go_at_call 42; (with_reducible refine useC HP.out ?_); rintro e w' ⟨rfl, hd, hf⟩; have HD := Lib.hid hd; have HF := Lib.hid hf; clear hd hf)
      go_ret
      rw [er.out]
      exact ⟨rfl, HD.out, HF.out⟩
    · by_cases k2 : x = 2
      · have er := Lib.hid (show So.act L x y z = So.inode L y from by unfold So.act; rw [if_neg k0, if_neg k1, if_pos k2])
        subst k2
        clear k0 k1
        go_enter Tryd.func24, Tryd.ntmps24
        go_wp2_with (go_at_call 38; (with_reducible refine useC HI.out ?_); rintro e w' ⟨rfl, hd, hf⟩; have HD := Lib.hid hd; have HF := Lib.hid hf; clear hd hf)
        go_ret
        rw [er.out]
        exact ⟨rfl, HD.out, HF.out⟩
      · have er := Lib.hid (show So.act L x y z = So.entry L y from by unfold So.act; rw [if_neg k0, if_neg k1, if_neg k2])
        have e0 : (x == 0) = false := by simpa using k0
        have e1 : (x == 1) = false := by simpa using k1
        have e2 : (x == 2) = false := by simpa using k2
        clear k0 k1 k2
        go_enter Tryd.func24, Tryd.ntmps24
        go_wp2_with (go_at_call 37; (with_reducible refine useC HE.out ?_); rintro e w' ⟨rfl, hd, hf⟩; have HD := Lib.hid hd; have HF := Lib.hid hf; clear hd hf)
        go_ret
        rw [er.out]
        exact ⟨rfl, HD.out, HF.out⟩

/-- How many of the first n numbers of a list are i. -/
def hitsTo (l : List Int) (i : Int) : Nat → Nat
  | 0 => 0
  | n + 1 => hitsTo l i n + if nth l n = i then 1 else 0
theorem hitsTo_le (l : List Int) (i : Int) : ∀ n, hitsTo l i n ≤ n
  | 0 => Nat.le_refl _
  | n + 1 => by have := hitsTo_le l i n; unfold hitsTo; split <;> omega
theorem hits_part (L : List Int) (o : Nat) (i : Int) : ∀ n, n ≤ 12 → hitsTo (part L (o + 8) 12) i n = So.namesTo L o i n
  | 0, _ => rfl
  | n + 1, hn => by unfold hitsTo So.namesTo; rw [hits_part L o i n (by omega), part_nth (by omega)]
theorem names_any (w : World) (v : Value) (g : Nat) (xs : List Int) (i : Int) (h : Sl w v g xs) (hl : xs.length ≤ 1000) :
    Calls Tryd.prog 40 #[v, .int .i64 i] w fun e w' => e = .returned (.int .i64 (hitsTo xs i xs.length : Int)) ∧ w = w' := by
  obtain ⟨A, o, c, rfl, hm, hA, hc⟩ := h.form
  clear h
  have HA := Lib.hid hA
  have HC := Lib.hid hc
  clear hA hc
  go_enter Tryd.func40, Tryd.ntmps40
  go_wp2
  go_loop [5, 6] (fun s k => ∃ j : Nat, j ≤ xs.length ∧ k = .int .i64 j ∧ ∃ x : Nat, s = .int .i64 x ∧ Hid (x = hitsTo xs i j)) (fun _ k => xs.length - (intOf k).toNat)
  case atStart => exact ⟨0, Nat.zero_le _, rfl, 0, rfl, rfl⟩
  case round =>
    obtain ⟨j, hj, rfl, x, rfl, hx⟩ := hrel
    by_cases hlt : j < xs.length
    · obtain rfl := HA.out (by omega)
      have hcell := HC.out j hlt
      have hxb : x ≤ 1000 := by have := hitsTo_le xs i j; have := hx.out; omega
      by_cases he : nth xs j = i
      · have hs : Hid (hitsTo xs i (j + 1) = x + 1) := by show _ = _; unfold hitsTo; rw [if_pos he, hx.out]
        have eB : (nth xs j == i) = true := by simpa using he
        have HE := Lib.hid he
        clear he
        generalize nth xs j = y at *
        go_wp2
        go_round
        case rel => exact ⟨j + 1, by omega, by go_num, x + 1, by go_num, hs.out.symm⟩
        case measure => simp [intOf]; omega
      · have hs : Hid (hitsTo xs i (j + 1) = x) := by show _ = _; unfold hitsTo; rw [if_neg he, hx.out]; rfl
        have eB : (nth xs j == i) = false := by simpa using he
        have HE := Lib.hid he
        clear he
        generalize nth xs j = y at *
        go_wp2
        go_round
        case rel => exact ⟨j + 1, by omega, by go_num, x, rfl, hs.out.symm⟩
        case measure => simp [intOf]; omega
    · have e : j = xs.length := by omega
      rw [e] at hx
      go_wp2
      go_ret
      exact ⟨ret_int (by rw [hx.out]), rfl⟩

end Go.Proofs.YtcldaaebncclmaaDoor
