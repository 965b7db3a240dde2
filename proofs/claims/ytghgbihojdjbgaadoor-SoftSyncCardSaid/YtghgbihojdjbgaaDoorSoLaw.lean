/- What the laws of package soft share: done, the closed fact, softened, the document's count of names. -/
import Derived.Test.YtghgbihojdjbgaaDoorSoWalk5
import Derived.Test.YtghgbihojdjbgaaDoorCIn3
import Derived.Test.YtghgbihojdjbgaaDoorErr2
namespace Go.Proofs.YtghgbihojdjbgaaDoor
open Go.RowKit

theorem So.OK.mono {L : List Int} {k m : Nat} (h : So.OK L k) (hm : k ≤ m) : So.OK L m := ⟨h.shp, h.safe, h.cov, h.small.mono hm⟩
theorem So.OK.bd {L : List Int} {k : Nat} (h : So.OK L k) (hk : k ≤ 1000) : ∀ j : Nat, j < 8 → nth L (20 + j) ≤ 1000000 ∧ -1000000 ≤ nth L (20 + j) := fun j hj => by have := h.small j hj; omega
/-- A disk in a law. -/
structure SoSt (w wr : World) (b : Nat) (L : List Int) (k : Nat) : Prop where
  disk : SoD wr b L
  ok : So.OK L k
  fr : Fr [] w wr
  ge : w.heap.size ≤ b
theorem SoSt.fr' {w wr w' : World} {b : Nat} {L : List Int} {k : Nat} (h : SoSt w wr b L k) (hf : Fr [] wr w') : SoSt w w' b L k := ⟨h.disk.fr hf (by simp), h.ok, h.fr.trans hf, h.ge⟩
theorem SoSt.mono {w wr : World} {b : Nat} {L : List Int} {k m : Nat} (h : SoSt w wr b L k) (hm : k ≤ m) : SoSt w wr b L m := ⟨h.disk, h.ok.mono hm, h.fr, h.ge⟩
theorem SoSt.ans {w wr w' : World} {b : Nat} {L L' : List Int} {k m : Nat} {v : Value} {e : Ending} (h : SoSt w wr b L k) (ha : SoAns b v L' wr e w') (hO : So.OK L' m) : SoSt w w' b L' m :=
  ⟨ha.2.1, hO, h.fr.step ha.2.2 (fun x hx => .inr (by simp only [List.mem_singleton] at hx; subst hx; exact h.ge)), h.ge⟩

/-- What 'done' does. -/
def So.act (L : List Int) (k a c : Int) : List Int × Int := if k = 0 then So.link L a c else if k = 1 then So.drop L a else if k = 2 then So.inode L a else So.entry L a
theorem So.act_ok {L : List Int} {n : Nat} (h : So.OK L n) (k a c : Int) : So.OK (So.act L k a c).1 (n + 1) ∧ (So.Tru L → So.Tru (So.act L k a c).1) := by
  unfold So.act
  split
  · exact So.link_ok h a c
  · split
    · exact So.drop_ok h a
    · split
      · have := So.inode_ok h a; exact ⟨this.1.mono (by omega), this.2⟩
      · have := So.entry_ok h a; exact ⟨this.1.mono (by omega), this.2⟩
set_option maxRecDepth 100000 in
theorem so_done (w : World) (b : Nat) (L : List Int) (n : Nat) (g o c : Nat) (x y z : Int) (hD : SoD w b L) (hO : So.OK L n) (hn : n ≤ 1000)
    (h0 : w.cell? ⟨g, o, none⟩ = some (.int .i64 x)) (h1 : w.cell? ⟨g, o + 1, none⟩ = some (.int .i64 y)) (h2 : w.cell? ⟨g, o + 2, none⟩ = some (.int .i64 z)) :
    Calls Tryd.prog 11 #[.pointer (some ⟨b, 0, none⟩), .slice (some ⟨g, o, none⟩) 3 c] w (SoAns b (errV (So.act L x y z).2) (So.act L x y z).1 w) := by
  have HL := Lib.hid (so_link w.drew b L y z hD hO.shp (hO.bd hn))
  have HP := Lib.hid (so_drop w b L y hD hO.shp (hO.bd hn))
  have HI := Lib.hid (so_Inode w b L y hD hO.shp)
  have HE := Lib.hid (so_Entry w b L y hD hO.shp)
  clear hD hO hn
  by_cases k0 : x = 0
  · have er := Lib.hid (show So.act L x y z = So.link L y z from by unfold So.act; rw [if_pos k0])
    subst k0
    go_enter Tryd.func11, Tryd.ntmps11
    go_wp2
    (refine wp_region_mixq 7 [(true, 0), (true, 1), (true, 2), (true, 3), (true, 4), (true, 5), (true, 6)] (by kernel_rfl) (by kernel_rfl) ?_; simp only [pickOps, List.map_cons, List.map_nil, List.getD_cons_zero, List.getD_cons_succ, List.drop_succ_cons, List.drop_zero, List.drop_nil]; (iterate 7 (first | (refine wpMix_take (v := ?_) (by rfl) ?_ ?_; rotate_left; (focus (intro W hW; subst hW; go_simp; (try with_reducible rfl); done)); try simp only [Act.put, List.setIfInBounds_toArray, List.set_cons_zero, List.set_cons_succ]) | (refine wpMix_leave (by rfl) ?_; try simp only [Act.put, List.setIfInBounds_toArray, List.set_cons_zero, List.set_cons_succ]))); refine wpMix_nil ?_)
    go_wp2_with (go_at_call 21; (with_reducible refine useC HL.out ?_); rintro e w' ⟨rfl, hd, hf⟩; have HD := Lib.hid hd; have HF := Lib.hid hf; clear hd hf)
    go_ret
    rw [er.out]
    exact ⟨rfl, HD.out, (Fr.refl [b] w).drew.trans HF.out⟩
  · by_cases k1 : x = 1
    · have er := Lib.hid (show So.act L x y z = So.drop L y from by unfold So.act; rw [if_neg k0, if_pos k1])
      subst k1
      clear k0
      go_enter Tryd.func11, Tryd.ntmps11
      go_wp2_with (go_at_call 25; (with_reducible refine useC HP.out ?_); rintro e w' ⟨rfl, hd, hf⟩; have HD := Lib.hid hd; have HF := Lib.hid hf; clear hd hf)
      go_ret
      rw [er.out]
      exact ⟨rfl, HD.out, HF.out⟩
    · by_cases k2 : x = 2
      · have er := Lib.hid (show So.act L x y z = So.inode L y from by unfold So.act; rw [if_neg k0, if_neg k1, if_pos k2])
        subst k2
        clear k0 k1
        go_enter Tryd.func11, Tryd.ntmps11
        go_wp2_with (go_at_call 23; (with_reducible refine useC HI.out ?_); rintro e w' ⟨rfl, hd, hf⟩; have HD := Lib.hid hd; have HF := Lib.hid hf; clear hd hf)
        go_ret
        rw [er.out]
        exact ⟨rfl, HD.out, HF.out⟩
      · have er := Lib.hid (show So.act L x y z = So.entry L y from by unfold So.act; rw [if_neg k0, if_neg k1, if_neg k2])
        have e0 : (x == 0) = false := by simpa using k0
        have e1 : (x == 1) = false := by simpa using k1
        have e2 : (x == 2) = false := by simpa using k2
        clear k0 k1 k2
        go_enter Tryd.func11, Tryd.ntmps11
        go_wp2_with (go_at_call 22; (with_reducible refine useC HE.out ?_); rintro e w' ⟨rfl, hd, hf⟩; have HD := Lib.hid hd; have HF := Lib.hid hf; clear hd hf)
        go_ret
        rw [er.out]
        exact ⟨rfl, HD.out, HF.out⟩

/-- The closed fact's disks. -/
def So.f1 : List Int := (So.link So.new 0 3).1
def So.f2 : List Int := (So.inode So.f1 3).1
def So.f3 : List Int := (So.entry So.f2 0).1
theorem So.f_ok : So.OK So.f1 1 ∧ So.OK So.f2 1 ∧ So.OK So.f3 1 := by
  have h1 := (So.link_ok So.new_ok 0 3).1
  have h2 := (So.inode_ok h1 3).1
  exact ⟨h1, h2, (So.entry_ok h2 0).1⟩
set_option maxRecDepth 100000 in
theorem so_fact (w : World) (hE : ErrType w) (hpos : 0 < w.heap.size) : Calls Tryd.prog 7 #[] w (OkT w) := by
  have HE := Lib.hid hE
  have HP := Lib.hid hpos
  clear hE hpos
  have a1 := Lib.hid (show (So.link So.new 0 3).2 = 0 from by decide)
  have a2 := Lib.hid (show So.entry So.f1 0 = (So.f1, 7) from by decide)
  have a3 := Lib.hid (show (So.inode So.f1 3).2 = 0 from by decide)
  have a4 := Lib.hid (show (So.entry So.f2 0).2 = 0 from by decide)
  have a5 := Lib.hid (show nth (part So.f3 8 12) 0 = 3 from by decide)
  have hO := So.f_ok
  have HO := Lib.hid hO
  clear hO
  go_enter Tryd.func7, Tryd.ntmps7
  go_wp2_with (first
    | (go_at_call 8; (with_reducible refine useC (so_New _) ?_); rintro e w0 ⟨rfl, hd, hf⟩; have S0 : Hid (SoSt w w0 w.heap.size So.new 1) := (⟨hd, So.new_ok.mono (by omega), hf, Nat.le_refl _⟩ : SoSt w w0 w.heap.size So.new 1); clear hd hf; have L1 := Lib.hid (so_link w0 w.heap.size So.new 0 3 S0.out.disk So.new_shp (S0.out.ok.bd (by omega))))
    | (go_at_call 21; (with_reducible refine useC L1.out ?_); rintro e w1 ha; have he := ha.1; subst he; rw [a1.out, show errV 0 = .nilIface from rfl]; have S1 : Hid (SoSt w w1 w.heap.size So.f1 1) := S0.out.ans ha HO.out.1; clear ha; have L2 := Lib.hid (so_Entry w1 w.heap.size So.f1 0 S1.out.disk HO.out.1.shp))
    | (go_at_call 22; (with_reducible refine useC L2.out ?_); rintro e w2 ha; have he := ha.1; subst he; rw [a2.out] at ha ⊢; have S2 : Hid (SoSt w w2 w.heap.size So.f1 1) := S1.out.ans ha HO.out.1; clear ha; have L3 := Lib.hid (so_Inode w2 w.heap.size So.f1 3 S2.out.disk HO.out.1.shp))
    | (go_at_call 23; (with_reducible refine useC L3.out ?_); rintro e w3 ha; have he := ha.1; subst he; rw [a3.out, show errV 0 = .nilIface from rfl]; have S3 : Hid (SoSt w w3 w.heap.size So.f2 1) := S2.out.ans ha HO.out.2.1; clear ha; have L4 := Lib.hid (so_Entry w3 w.heap.size So.f2 0 S3.out.disk HO.out.2.1.shp))
    | (go_at_call 22; (with_reducible refine useC L4.out ?_); rintro e w4 ha; have he := ha.1; subst he; rw [a4.out, show errV 0 = .nilIface from rfl]; have S4 : Hid (SoSt w w4 w.heap.size So.f3 1) := S3.out.ans ha HO.out.2.2; clear ha; have L5 := Lib.hid (so_Images w4 w.heap.size So.f3 S4.out.disk HO.out.2.2.shp.len))
    | (go_at_call 12; (with_reducible refine useC L5.out ?_); rintro e w5 ⟨v1, v2, v3, v4, g1, g2, g3, g4, rfl, hs1, hs2, hs3, hs4, hf, _⟩; have HF5 := Lib.hid (S4.out.fr.trans hf); have HE5 := Lib.hid (HE.out.fr HF5.out (by simp)); obtain ⟨A, o, c, rfl, _, hA, hc⟩ := hs4.form; rw [part_len (by rw [HO.out.2.2.shp.len]; decide)] at hA; have hA := hA (by omega); subst hA; have hcell := hc 0 (by rw [part_len (by rw [HO.out.2.2.shp.len]; decide)]; omega); rw [a5.out, Nat.add_zero] at hcell; rw [part_len (by rw [HO.out.2.2.shp.len]; decide)]; have HC5 := Lib.hid (fun W (hW : Fr [] w5 W) => hW.cell hcell (by simp)); clear hs1 hs2 hs3 hs4 hf hc hcell)
    | (go_at_call 20; (with_reducible refine useC (error_yes 7 _ HE5.out) ?_); rintro e w6 ⟨rfl, hf6⟩; have HF6 := Lib.hid (HF5.out.trans hf6); have hcell := HC5.out w6 hf6; clear hf6))
  go_ret
  exact ⟨rfl, HF6.out⟩

/-- How many of the first n numbers of a list are i. -/
def hitsTo (l : List Int) (i : Int) : Nat → Nat
  | 0 => 0
  | n + 1 => hitsTo l i n + if nth l n = i then 1 else 0
theorem hitsTo_le (l : List Int) (i : Int) : ∀ n, hitsTo l i n ≤ n
  | 0 => Nat.le_refl _
  | n + 1 => by have := hitsTo_le l i n; unfold hitsTo; split <;> omega
theorem hits_part (L : List Int) (o : Nat) (i : Int) : ∀ n, n ≤ 12 → hitsTo (part L (o + 8) 12) i n = So.namesTo L o i n
  | 0, _ => rfl
  | n + 1, hn => by unfold hitsTo So.namesTo; rw [hits_part L o i n (by omega), part_nth (by omega)]
theorem names_any (w : World) (v : Value) (g : Nat) (xs : List Int) (i : Int) (h : Sl w v g xs) (hl : xs.length ≤ 1000) :
    Calls Tryd.prog 13 #[v, .int .i64 i] w fun e w' => e = .returned (.int .i64 (hitsTo xs i xs.length : Int)) ∧ w = w' := by
  obtain ⟨A, o, c, rfl, hm, hA, hc⟩ := h.form
  clear h
  have HA := Lib.hid hA
  have HC := Lib.hid hc
  clear hA hc
  go_enter Tryd.func13, Tryd.ntmps13
  go_wp2
  go_loop [5, 6] (fun s k => ∃ j : Nat, j ≤ xs.length ∧ k = .int .i64 j ∧ ∃ x : Nat, s = .int .i64 x ∧ Hid (x = hitsTo xs i j)) (fun _ k => xs.length - (intOf k).toNat)
  case atStart => exact ⟨0, Nat.zero_le _, rfl, 0, rfl, rfl⟩
  case round =>
    obtain ⟨j, hj, rfl, x, rfl, hx⟩ := hrel
    by_cases hlt : j < xs.length
    · obtain rfl := HA.out (by omega)
      have hcell := HC.out j hlt
      have hxb : x ≤ 1000 := by have := hitsTo_le xs i j; have := hx.out; omega
      by_cases he : nth xs j = i
      · have hs : Hid (hitsTo xs i (j + 1) = x + 1) := by show _ = _; unfold hitsTo; rw [if_pos he, hx.out]
        have eB : (nth xs j == i) = true := by simpa using he
        have HE := Lib.hid he
        clear he
        generalize nth xs j = y at *
        go_wp2
        go_round
        case rel => exact ⟨j + 1, by omega, by go_num, x + 1, by go_num, hs.out.symm⟩
        case measure => simp [intOf]; omega
      · have hs : Hid (hitsTo xs i (j + 1) = x) := by show _ = _; unfold hitsTo; rw [if_neg he, hx.out]; rfl
        have eB : (nth xs j == i) = false := by simpa using he
        have HE := Lib.hid he
        clear he
        generalize nth xs j = y at *
        go_wp2
        go_round
        case rel => exact ⟨j + 1, by omega, by go_num, x, rfl, hs.out.symm⟩
        case measure => simp [intOf]; omega
    · have e : j = xs.length := by omega
      rw [e] at hx
      go_wp2
      go_ret
      exact ⟨ret_int (by rw [hx.out]), rfl⟩

/-- What softened hands back. -/
def SofAns (w : World) (e : Ending) (w' : World) : Prop := ∃ b L, e = .returned (.pointer (some ⟨b, 0, none⟩)) ∧ SoSt w w' b L 60
set_option maxRecDepth 100000 in
set_option maxHeartbeats 4000000 in
theorem so_softened (w : World) (v : Value) (ls : List (List Int)) (hR : Rw w.heap.size w v ls) :
    Calls Tryd.prog 14 #[v] w (SofAns w) := by
  obtain ⟨A, g, o, c, rfl, hm, hF⟩ := hR
  have HF := Lib.hid hF
  clear hF
  go_enter Tryd.func14, Tryd.ntmps14
  go_wp2_with (go_at_call 8; (with_reducible refine useC (so_New _) ?_); rintro e w0 ⟨rfl, hd, hf⟩; have S0 : Hid (SoSt w w0 w.heap.size So.new 0) := (⟨hd, So.new_ok, hf, Nat.le_refl _⟩ : SoSt w w0 w.heap.size So.new 0); clear hd hf)
  go_loopw [4] (fun i wr => ∃ k : Nat, k ≤ ls.length ∧ k ≤ 60 ∧ i = .int .i64 k ∧ ∃ L, Hid (SoSt w wr w.heap.size L k)) (fun i _ => 60 - (intOf i).toNat)
  case atStart => exact ⟨0, Nat.zero_le _, Nat.zero_le _, rfl, _, S0⟩
  case round =>
    obtain ⟨k, hk, hk6, rfl, L, hS⟩ := hrel
    clear S0
    by_cases hin : k < ls.length ∧ k < 60
    · obtain ⟨hlt, h60⟩ := hin
      obtain ⟨rfl, hg⟩ := HF.out.1 (by omega)
      obtain ⟨u, kb, hcell, hkb, hsl, _⟩ := (HF.out.below hS.out.fr.below).2 k hlt
      obtain ⟨A', o', c', rfl, hm', hA', hc'⟩ := hsl.form
      have i0 : (0 : Int) ≤ k := by omega
      have i1 : (k : Int) < ls.length := by omega
      have i60 : (k : Int) < 60 := by omega
      clear hsl
      by_cases hl1 : (nthR ls k).length = 1
      · have e1 : ((nthR ls k).length : Int) = 1 := by omega
        have hco := Lib.hid (So.sync_ok hS.out.ok)
        have HC := Lib.hid (so_Sync wr w.heap.size L k hS.out.disk hS.out.ok)
        clear hc' hA' hl1 hkb
        go_wp2_with (go_at_call 9; (with_reducible refine useC HC.out ?_); rintro e w3 hA; have he := hA.1; subst he; have HS3 := Lib.hid (hS.out.ans hA hco.out.1); clear hA)
        go_roundw
        case rel => exact ⟨k + 1, by omega, by omega, by go_num, _, HS3.out.mono (by omega)⟩
        case measure => simp [intOf]; omega
      · by_cases hl2 : (nthR ls k).length = 2
        · have e1 : ((nthR ls k).length : Int) = 2 := by omega
          have HC := Lib.hid (so_Crash wr w.heap.size L hS.out.disk hS.out.ok.shp.len)
          clear hc' hA' hl1 hl2 hkb
          go_wp2_with (go_at_call 15; (with_reducible refine useC HC.out ?_); rintro e w3 hA; have he := hA.1; subst he; have HS3 := Lib.hid (hS.out.ans hA (So.crash_ok hS.out.ok)); clear hA)
          go_roundw
          case rel => exact ⟨k + 1, by omega, by omega, by go_num, _, HS3.out.mono (by omega)⟩
          case measure => simp [intOf]; omega
        · by_cases hl3 : (nthR ls k).length = 3
          · have e1 : ((nthR ls k).length : Int) = 3 := by omega
            obtain rfl := hA' (by omega)
            have c0 := hc' 0 (by omega)
            rw [Nat.add_zero] at c0
            have c1 := hc' 1 (by omega)
            have c2 := hc' 2 (by omega)
            have HC := Lib.hid (so_done wr w.heap.size L k kb o' c' _ _ _ hS.out.disk hS.out.ok (by omega) c0 c1 c2)
            have hao := Lib.hid (So.act_ok hS.out.ok (nth (nthR ls k) 0) (nth (nthR ls k) 1) (nth (nthR ls k) 2))
            rw [hl3] at hcell
            clear hc' hA' hl1 hl2 hkb hl3 e1
            generalize nth (nthR ls k) 0 = x0 at *
            generalize nth (nthR ls k) 1 = x1 at *
            generalize nth (nthR ls k) 2 = x2 at *
            by_cases hx : 0 ≤ x0 ∧ x0 ≤ 3
            · have e3 : decide (0 ≤ x0 ∧ x0 ≤ 3) = true := decide_eq_true hx
              clear hx
              go_wp2_with (first
                | (go_at_call 10; (with_reducible refine useC (in3_is _ _ _ true _ e3) ?_); rintro e w3 ⟨rfl, rfl⟩)
                | (go_at_call 11; (with_reducible refine useC HC.out ?_); rintro e w3 hA; have he := hA.1; subst he; have HS3 := Lib.hid (hS.out.ans hA hao.out.1); clear hA))
              go_roundw
              case rel => exact ⟨k + 1, by omega, by omega, by go_num, _, HS3⟩
              case measure => simp [intOf]; omega
            · have e3 : decide (0 ≤ x0 ∧ x0 ≤ 3) = false := decide_eq_false hx
              clear hx
              go_wp2_with (go_at_call 10; (with_reducible refine useC (in3_is _ _ _ false _ e3) ?_); rintro e w3 ⟨rfl, rfl⟩)
              go_roundw
              case rel => exact ⟨k + 1, by omega, by omega, by go_num, _, hS.out.mono (by omega)⟩
              case measure => simp [intOf]; omega
          · have e1 : (((nthR ls k).length : Int) == 1) = false := by simp; omega
            have e2 : (((nthR ls k).length : Int) == 2) = false := by simp; omega
            have e3 : (((nthR ls k).length : Int) == 3) = false := by simp; omega
            clear hc' hA' hl1 hl2 hkb hl3
            go_wp2
            go_roundw
            case rel => exact ⟨k + 1, by omega, by omega, by go_num, _, hS.out.mono (by omega)⟩
            case measure => simp [intOf]; omega
    · have hout : ¬ (k : Int) < ls.length ∨ ((k : Int) < ls.length ∧ ¬ (k : Int) < 60) := by omega
      rcases hout with hout | ⟨hout, hout'⟩
      all_goals
        go_wp2
        go_ret
        exact ⟨_, L, rfl, hS.out.mono (by omega)⟩
end Go.Proofs.YtghgbihojdjbgaaDoor
