/- The contracts of package ranges's functions: fill, List, New. -/
import Derived.Test.YtgljklefcfheaaaDoorRaWalk
namespace Go.Proofs.YtgljklefcfheaaaDoor
open Go.RowKit

theorem RaD.put {w : World} {b : Nat} {T : List Int} (h : RaD w b T) (o p : Nat) (x : Int) : RaD (w.setCell ⟨b, o * 64 + p, none⟩ (.int .i64 x)) b (T.set (64 * o + p) x) := by
  rw [show 64 * o + p = o * 64 + p by omega]
  exact set_ints h x
set_option maxRecDepth 100000 in
theorem ra_fill (w : World) (b : Nat) (T : List Int) (o f n : Nat) (a : Bool) (x : Int) (hD : RaD w b T) (hl : T.length = 256) (ho : o < 4) (hfn : f + n ≤ 64) :
    Calls Tryd.prog 36 #[.pointer (some ⟨b, 0, none⟩), .agg #[.int .i64 o, .int .i64 f, .int .i64 n, .bool a], .int .i64 x] w fun e w' => e = .returned (.tuple #[]) ∧ RaD w' b (Ra.fillTo T o f x n) ∧ Fr [b] w w' := by
  have HB := Lib.hid (lkb_new w o f n a)
  have HF : Hid (Fr [b] w (w.alloc (.cells #[.int .i64 o, .int .i64 f, .int .i64 n, .bool a] 29))) := (Fr.refl _ _).alloc _
  have HD0 : Hid (RaD (w.alloc (.cells #[.int .i64 o, .int .i64 f, .int .i64 n, .bool a] 29)) b (Ra.fillTo T o f x 0)) := hD.fr ((Fr.refl [] w).alloc _) (by simp)
  have hbB : b < w.heap.size := lt_of_heap hD
  have HLN := Lib.hid (fun m (hm : f + m ≤ 64) => (Ra.fill_nth hl ho x m hm).1)
  obtain ⟨d0, d1, d2, d3⟩ := HB.out.cells
  have ho4 : (o : Int) < 4 := by omega
  have hfn' : (f : Int) + n ≤ 64 := by omega
  clear hD hl
  go_enter Tryd.func36, Tryd.ntmps36
  go_wp2
  revert HB HF HD0 d0 d1 d2 d3
  generalize (w.alloc (.cells #[.int .i64 o, .int .i64 f, .int .i64 n, .bool a] 29)) = w1
  generalize w.heap.size = B at *
  intro HB HF HD0 d0 d1 d2 d3
  have hne : B ∉ [b] := by simp; omega
  go_loopw [6] (fun p wr => ∃ m : Nat, m ≤ n ∧ p = .int .i64 ((f + m : Nat) : Int) ∧ Hid (RaD wr b (Ra.fillTo T o f x m)) ∧ Hid (LkB wr B o f n a) ∧ Hid (Fr [b] w wr)) (fun p _ => 64 - (intOf p).toNat)
  case atStart => exact ⟨0, Nat.zero_le _, by simp, HD0, HB, HF⟩
  case round =>
    obtain ⟨m, hm, rfl, hD, hK, hF⟩ := hrel
    clear d0 d1 d2 d3 HD0 HB HF
    obtain ⟨c0, c1, c2, c3⟩ := hK.out.cells
    by_cases hmn : m < n
    · have hp0 : ((f + m : Nat) : Int) < (f : Int) + n := by omega
      have hp1 : (0 : Int) ≤ ((f + m : Nat) : Int) := by omega
      have hp2 : ((f + m : Nat) : Int) < 64 := by omega
      have hcell := hD.out.at_ (HLN.out m (by omega)) ho (show f + m < 64 by omega)
      have hfz := free_block hD.out (o * 64 + (f + m)) none
      go_wp2
      (refine wp_region_mixq 8 [(true, 0), (true, 1), (true, 2), (true, 3), (true, 4), (true, 5), (true, 6), (true, 7)] (by kernel_rfl) (by kernel_rfl) ?_; simp only [pickOps, List.map_cons, List.map_nil, List.getD_cons_zero, List.getD_cons_succ, List.drop_succ_cons, List.drop_zero]; (iterate 8 (first | (refine wpMix_take (v := ?_) (by rfl) ?_ ?_; rotate_left; (focus (intro W hW; subst hW; go_simp; (try with_reducible rfl); done)); try simp only [Act.put, List.setIfInBounds_toArray, List.set_cons_zero, List.set_cons_succ]) | (refine wpMix_leave (by rfl) ?_; try simp only [Act.put, List.setIfInBounds_toArray, List.set_cons_zero, List.set_cons_succ]))); refine wpMix_nil ?_)
      go_wp2
      go_roundw
      case rel => exact ⟨m + 1, by omega, by go_num, RaD.put (hD.out : RaD wr.drew b _) o (f + m) x, ((Fr.refl [b] wr).drew.setCell (.inl (by simp)) _).get hK.out hne, hF.out.drew.setCell (.inl (by simp)) _⟩
      case measure => simp [intOf]; omega
    · have hmn' : m = n := by omega
      have hp0 : ¬ ((f + m : Nat) : Int) < (f : Int) + n := by omega
      rw [hmn'] at hD
      clear hmn' hmn
      go_wp2
      go_returns
      exact ⟨rfl, hD.out, hF.out⟩

theorem part_ints (l : List Int) (o n : Nat) : (((ints l).toList.drop o).take n).toArray = ints ((l.drop o).take n) := by
  apply Array.ext'
  simp [ints, List.map_drop, List.map_take]
theorem nth_part (l : List Int) (o n i : Nat) (h : i < n) : nth ((l.drop o).take n) i = nth l (o + i) := by
  unfold nth
  simp only [List.getD_eq_getElem?_getD, List.getElem?_take, List.getElem?_drop]
  rw [if_pos h]
/-- How a lock lies in cells. -/
def lkE : Enc Ra.Lk where
  k := 4
  enc := fun x => [.int .i64 x.1, .int .i64 x.2.1, .int .i64 x.2.2.1, .bool x.2.2.2]
  len := fun _ => rfl
  one := fun a v hv => by
    simp only [List.mem_cons, List.not_mem_nil, or_false] at hv
    rcases hv with rfl | rfl | rfl | rfl <;> rfl
  pos := by decide
theorem Tryd.info_lock : (Tryd.prog.info? 29).map (fun i => (i.zero, i.size, i.bytes)) = some (some (.agg #[.int .i64 0, .int .i64 0, .int .i64 0, .bool false]), lkE.k, 32) := by kernel_rfl
theorem Ra.bump_len : ∀ l : List Ra.Lk, (Ra.bump l).length = l.length
  | [] => rfl
  | [_] => rfl
  | x :: y :: l => by simp only [Ra.bump, List.length_cons]; rw [Ra.bump_len (y :: l)]; rfl
theorem Ra.rowTo_len (T : List Int) (w : Nat) : ∀ p, (Ra.rowTo T w p).length ≤ p
  | 0 => by simp [Ra.rowTo]
  | p + 1 => by
    have := Ra.rowTo_len T w p
    unfold Ra.rowTo
    split
    · omega
    · split
      · rw [Ra.bump_len]; omega
      · rw [List.length_append]; simp; omega
theorem Ra.listTo_len (T : List Int) : ∀ w, (Ra.listTo T w).length ≤ 64 * w
  | 0 => by simp [Ra.listTo]
  | w + 1 => by have := Ra.listTo_len T w; have := Ra.rowTo_len T w 64; unfold Ra.listTo; rw [List.length_append]; omega
/-- What List hands back. -/
def LkAns (l : List Ra.Lk) (w : World) (e : Ending) (w' : World) : Prop := ∃ v, e = .returned v ∧ OwnR lkE w' w.heap.size 29 v l ∧ Fr [] w w'
/-- The state that was read last. -/
def Ra.prev (T : List Int) (k p : Nat) : Int := if p = 0 then 0 else Ra.st T k (p - 1)
set_option maxRecDepth 100000 in
set_option maxHeartbeats 4000000 in
theorem ra_List (w : World) (b : Nat) (T : List Int) (hD : RaD w b T) (hT : Ra.Tab T) :
    Calls Tryd.prog 11 #[.pointer (some ⟨b, 0, none⟩)] w (LkAns (Ra.locks T) w) := by
  have HDW := Lib.hid (fun W (hW : Fr [] w W) => hD.fr hW (by simp))
  have HT := Lib.hid hT
  have hbl := lt_of_heap hD
  clear hD hT
  go_enter Tryd.func11, Tryd.ntmps11
  go_wp2
  go_loopw [3, 8] (fun v c wr => ∃ k : Nat, k ≤ 4 ∧ c = .int .i64 k ∧ Hid (OwnR lkE wr w.heap.size 29 v (Ra.listTo T k)) ∧ Hid (Fr [] w wr)) (fun _ c _ => 4 - (intOf c).toNat)
  case atStart => exact ⟨0, Nat.zero_le _, rfl, OwnR.nil, Fr.refl _ _⟩
  case round =>
    obtain ⟨k, hk, rfl, hown, hF⟩ := hrel
    by_cases hlt : k < 4
    · have hk4 : (k : Int) < 4 := by omega
      have HD := Lib.hid (HDW.out wr hF.out)
      have HL := Lib.hid (part_ints T (k * 64) 64)
      have HN := Lib.hid (fun q (hq : q < 64) => nth_part T (k * 64) 64 q hq)
      have HZ : Hid (((T.drop (k * 64)).take 64).length = 64) := by show _ = _; have := HT.out.1; simp; omega
      have HS : Hid (Ra.listTo T (k + 1) = Ra.listTo T k ++ Ra.rowTo T k 64) := rfl
      have HLL := Lib.hid (Ra.listTo_len T k)
      go_wp2_with (refine wpList_load_part rfl 61 _ rfl b (k * 64) 64 rfl 64 (ints T) (0, 0) _ HD.out Tryd.underlying61 rfl (by kernel_rfl) (by rw [size_ints, HT.out.1]; omega) _ HL.out ?_)
      go_loopw [3, 5, 17] (fun v l c wq => ∃ p : Nat, p ≤ 64 ∧ c = .int .i64 p ∧ ∃ x : Int, l = .int .i64 x ∧ Hid (x = Ra.prev T k p) ∧ Hid (OwnR lkE wq w.heap.size 29 v (Ra.listTo T k ++ Ra.rowTo T k p)) ∧ Hid (Fr [] w wq)) (fun _ _ c _ => 64 - (intOf c).toNat)
      case atStart => exact ⟨0, Nat.zero_le _, rfl, 0, rfl, rfl, by unfold Ra.rowTo; rw [List.append_nil]; exact hown.out, hF⟩
      case round =>
        obtain ⟨p, hp, rfl, x, rfl, hx, hO, hF2⟩ := hrel
        by_cases hp64 : p < 64
        · have hp640 : (p : Int) < 64 := by omega
          have hidx := fun W => run_index_agg (P := Tryd.prog) W 61 3 64 p (ints ((T.drop (k * 64)).take 64)) (.int .i64 (Ra.st T k p)) Tryd.underlying61 (by kernel_rfl) (by kernel_rfl) hp64 (by rw [ints_get _ p (by rw [HZ.out]; exact hp64), HN.out p hp64]; unfold Ra.st; rw [show 64 * k + p = k * 64 + p by omega])
          have hpv : Hid (Ra.prev T k (p + 1) = Ra.st T k p) := rfl
          have hro : Hid (Ra.rowTo T k (p + 1) = if Ra.st T k p = 0 then Ra.rowTo T k p else if 0 < p ∧ Ra.st T k (p - 1) = Ra.st T k p then Ra.bump (Ra.rowTo T k p) else Ra.rowTo T k p ++ [(k, p, 1, decide (Ra.st T k p = 2))]) := rfl
          have HRL := Lib.hid (Ra.rowTo_len T k p)
          have HRW := Lib.hid (Ra.row_row HT.out hlt p (by omega))
          by_cases h0 : Ra.st T k p = 0
          · have hs := Lib.hid (show Ra.rowTo T k (p + 1) = Ra.rowTo T k p from by rw [hro.out, if_pos h0])
            rw [h0] at hidx hpv
            clear h0 hro
            go_wp2
            go_roundw
            case rel => exact ⟨p + 1, by omega, by go_num, 0, rfl, hpv.out.symm, by rw [hs.out]; exact hO.out, hF2⟩
            case measure => simp [intOf]; omega
          · have b0 : (Ra.st T k p != 0) = true := by simpa using h0
            have b0' : (Ra.st T k p == 0) = false := by simpa using h0
            by_cases he : Ra.st T k p = x
            · have bx : (Ra.st T k p == x) = true := by simpa using he
              have hp0 : 0 < p := by
                rcases Nat.eq_zero_or_pos p with e | e
                · have := hx.out; rw [e] at this; exact absurd (he.trans this) h0
                · exact e
              have hxx : x = Ra.st T k (p - 1) := by have := hx.out; unfold Ra.prev at this; rwa [if_neg (by omega)] at this
              obtain ⟨l', f, n, a, hl, hfn⟩ := HRW.out.last hp0 (by rw [← hxx, ← he]; exact h0)
              have hs := Lib.hid (show Ra.listTo T k ++ Ra.rowTo T k (p + 1) = (Ra.listTo T k ++ l') ++ [(k, f, n + 1, a)] from by
                rw [hro.out, if_neg h0, if_pos ⟨hp0, by rw [← hxx, he]⟩, hl, Ra.bump_concat, List.append_assoc])
              have hn64 : n ≤ 64 := by omega
              have hO2 : Hid (OwnR lkE wr w.heap.size 29 u3 ((Ra.listTo T k ++ l') ++ [(k, f, n, a)])) := by have h := hO.out; rw [hl, ← List.append_assoc] at h; exact h
              have hqb : (Ra.listTo T k ++ l').length ≤ 1000 := by
                have h1 := HLL.out
                have h2 := HRL.out
                rw [hl, List.length_append] at h2
                rw [List.length_append]
                simp at h2
                omega
              have hX : ∃ g cap, u3 = .slice (some ⟨g, 0, none⟩) ((Ra.listTo T k ++ l').length + 1) cap ∧ w.heap.size ≤ g ∧ wr.cell? ⟨g, (Ra.listTo T k ++ l').length * 4 + 2, none⟩ = some (.int .i64 n) ∧ wr.frozen? ⟨g, (Ra.listTo T k ++ l').length * 4 + 2, none⟩ = false := by
                obtain ⟨_, hh⟩ := hO2.out
                rcases hh with ⟨_, hn⟩ | ⟨g, cap, cur, e, hb, hg, hc, hm, hsz, ht⟩
                · simp at hn
                · refine ⟨g, cap, by rw [e]; simp; omega, hb, ?_, free_block hg _ none⟩
                  obtain ⟨gg, _, hsl⟩ := hO2.out.sl
                  obtain ⟨A, oo, cc, e2, _, hA, hcell⟩ := hsl.form
                  have hA := hA (by simp; omega)
                  rw [e] at e2
                  injection e2 with e3 _ _
                  rw [hA] at e3
                  injection e3 with e3
                  injection e3 with e3 e4 _
                  subst e3 e4
                  have := hcell (Ra.listTo T k ++ l').length (by simp) 2 (by decide)
                  rw [Nat.zero_add] at this
                  rw [show lkE.k = 4 from rfl] at this
                  rw [this]
                  simp [lkE]
              obtain ⟨g, cap, rfl, hgb, hcn, hfn2⟩ := hX
              have hOn : Hid (∀ W, W = wr.setCell ⟨g, (Ra.listTo T k ++ l').length * 4 + 2, none⟩ (.int .i64 ((n : Int) + 1)) → OwnR lkE W w.heap.size 29 (.slice (some ⟨g, 0, none⟩) ((Ra.listTo T k ++ l').length + 1) cap) ((Ra.listTo T k ++ l') ++ [(k, f, n + 1, a)])) := by
                rintro W rfl
                have h := OwnR.setCell (E := lkE) (w := wr) hO2.out rfl (Ra.listTo T k ++ l').length 2 (by simp) (by decide) (k, f, n + 1, a) (.int .i64 ((n : Int) + 1)) (by simp [lkE])
                have e : ((Ra.listTo T k ++ l') ++ [(k, f, n, a)]).set (Ra.listTo T k ++ l').length (k, f, n + 1, a) = (Ra.listTo T k ++ l') ++ [(k, f, n + 1, a)] := by
                  rw [List.set_append_right _ _ (Nat.le_refl _), Nat.sub_self]; rfl
                rw [e] at h
                exact h
              have HE := Lib.hid he
              have H0 := Lib.hid h0
              clear hO2 hO hl hfn hxx hro h0 he
              generalize (Ra.listTo T k ++ l').length = q at *
              generalize Ra.st T k p = y at *
              have hq1 : (q : Int) < (q : Int) + 1 := by omega
              go_wp2
              go_roundw
              case rel => exact ⟨p + 1, by omega, by go_num, y, rfl, hpv.out.symm, by rw [hs.out]; exact hOn.out _ rfl, hF2.out.step ((Fr.refl [g] wr).setCell (.inl (by simp)) _) (fun z hz => .inr (by simp only [List.mem_singleton] at hz; subst hz; exact hgb))⟩
              case measure => simp [intOf]; omega
            · have bx : (Ra.st T k p == x) = false := by simpa using he
              have hs := Lib.hid (show Ra.rowTo T k (p + 1) = Ra.rowTo T k p ++ [(k, p, 1, decide (Ra.st T k p = 2))] from by
                rw [hro.out, if_neg h0, if_neg (fun h => he (by have := hx.out; unfold Ra.prev at this; rw [if_neg (by omega), h.2] at this; exact this.symm))])
              have b2 : (Ra.st T k p == 2) = decide (Ra.st T k p = 2) := by by_cases h : Ra.st T k p = 2 <;> simp [h]
              generalize decide (Ra.st T k p = 2) = al at *
              have H0 := Lib.hid h0
              have HE := Lib.hid he
              have hsz := hF2.out.size
              clear h0 he hro
              generalize Ra.st T k p = y at *
              go_wp2_with (at_builtin; refine wpList_push_enc (E := lkE) (y := (k, p, 1, al)) Tryd.underlying24 Tryd.info_lock rfl (by decide) rfl _ _ rfl w.heap.size _ _ rfl rfl hO.out rfl (by have := HLL.out; have := HRL.out; rw [List.length_append]; omega) hsz ?_; intro v' w3 hown3 _ hbel; have H1 := Lib.hid hown3; have H2 := Lib.hid (hF2.out.below_step hbel (Nat.le_refl _)); clear hown3 hbel)
              go_roundw
              case rel => exact ⟨p + 1, by omega, by go_num, y, rfl, hpv.out.symm, by rw [hs.out, ← List.append_assoc]; exact H1.out, H2⟩
              case measure => simp [intOf]; omega
        · have hp64' : p = 64 := by omega
          rw [hp64'] at hO
          clear hp64'
          go_wp2
          go_roundw
          case rel => exact ⟨k + 1, by omega, by go_num, by rw [HS.out]; exact hO.out, hF2⟩
          case measure => simp [intOf]; omega
    · have hk4 : k = 4 := by omega
      rw [hk4] at hown
      clear hk4
      go_wp2
      go_ret
      exact ⟨_, rfl, hown.out, hF.out⟩
end Go.Proofs.YtgljklefcfheaaaDoor
