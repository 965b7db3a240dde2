/- platterholdsame.Texts at lists that are the same; platterholdref2.Shown. -/

import Derived.Test.YtnglhfeialomgaaDoorTd11
import Derived.Test.YtnglhfeialomgaaDoorTd20
import Derived.Test.YtnglhfeialomgaaDoorTd21
import Derived.Test.YtnglhfeialomgaaDoorTd22
namespace Go.Proofs.YtnglhfeialomgaaDoor
open Go.RowKit

theorem str_cell {w : World} {v : Value} {g : Nat} {l : List (List UInt8)} (h : SlR strE w v g l) : ∃ (A : Option Addr) (o c : Nat), v = .slice A l.length c ∧ l.length ≤ 9223372036854775807 ∧ (0 < l.length → A = some ⟨g, o, none⟩) ∧ ∀ i, i < l.length → w.cell? ⟨g, o + i, none⟩ = some (.string (Pa.mk (l.getD i []))) := by
  obtain ⟨A, o, c, h1, h2, h3, h4⟩ := h.form
  refine ⟨A, o, c, h1, h2, h3, fun i hi => ?_⟩
  have := h4 i hi 0 (by decide)
  simpa [strE, List.getD, hi] using this
set_option maxRecDepth 100000 in
theorem texts_same (w : World) (v u : Value) (g k0 : Nat) (xs : List (List UInt8)) (h : SlR strE w v g xs) (h' : SlR strE w u k0 xs) :
    Calls Tryd.prog 15 #[v, u] w (OkT w) := by
  obtain ⟨A, o, c, rfl, hm, hA, hc⟩ := str_cell h
  obtain ⟨A', o', c', rfl, hm', hA', hc'⟩ := str_cell h'
  clear h h'
  have HA := Lib.hid hA
  have HC := Lib.hid (fun W (hW : Fr [] w W) i (hi : i < xs.length) => hW.cell (hc i hi) (by simp))
  have HA' := Lib.hid hA'
  have HC' := Lib.hid (fun W (hW : Fr [] w W) i (hi : i < xs.length) => hW.cell (hc' i hi) (by simp))
  have HF0 := Lib.hid (Fr.refl [] w)
  clear hA hc hA' hc'
  go_enter Tryd.func15, Tryd.ntmps15
  go_wp2_with fail
  go_loopw [5] (fun i wr => ∃ k : Nat, k ≤ xs.length ∧ i = .int .i64 k ∧ Hid (Fr [] w wr)) (fun i _ => xs.length - (intOf i).toNat)
  case atStart => exact ⟨0, Nat.zero_le _, rfl, HF0⟩
  case round =>
    clear HF0
    obtain ⟨k, hk, rfl, hF⟩ := hrel
    by_cases hlt : k < xs.length
    · obtain rfl := HA.out (by omega)
      obtain rfl := HA'.out (by omega)
      have hcell := HC.out wr hF.out k hlt
      have hcell' := HC'.out wr hF.out k hlt
      have i1 : (0 : Int) ≤ k := by omega
      have i2 : (k : Int) < xs.length := by omega
      generalize Pa.mk (xs.getD k []) = m at *
      go_wp2_with fail
      (refine wp_region_mixq 8 [(true, 0), (true, 1), (true, 2), (true, 3), (true, 4), (true, 5), (true, 6), (true, 7)] (by kernel_rfl) (by kernel_rfl) ?_; simp only [pickOps, List.map_cons, List.map_nil, List.getD_cons_zero, List.getD_cons_succ, List.drop_succ_cons, List.drop_zero]; (iterate 8 (first | (refine wpMix_take (v := ?_) (by rfl) ?_ ?_; rotate_left; (focus (intro W hW; subst hW; go_simp; (try with_reducible rfl); done)); try simp only [Act.put, List.setIfInBounds_toArray, List.set_cons_zero, List.set_cons_succ]) | (refine wpMix_leave (by rfl) ?_; try simp only [Act.put, List.setIfInBounds_toArray, List.set_cons_zero, List.set_cons_succ]))); refine wpMix_nil ?_)
      go_wp2
      go_roundw
      case rel => exact ⟨k + 1, by omega, by go_num, hF.out.step (Fr.refl [] wr).drew (by simp)⟩
      case measure => (simp [intOf]; try omega)
    · have i2 : ¬ (k : Int) < xs.length := by omega
      go_wp2
      go_ret
      exact ⟨rfl, hF.out⟩
theorem flat_take {l : List (List UInt8)} {k : Nat} (h : k < l.length) : (l.take (k + 1)).flatMap (fun p => (47 : UInt8) :: p) = (l.take k).flatMap (fun p => 47 :: p) ++ 47 :: l.getD k [] := by
  rw [List.take_add_one, List.getElem?_eq_getElem h, List.flatMap_append]
  simp [List.getD, h]
theorem flat_le (l : List (List UInt8)) (k : Nat) : ((l.take k).flatMap (fun p => (47 : UInt8) :: p)).length ≤ Pa.long l := by
  rw [Pa.flat_len]
  have : Pa.long l = Pa.long (l.take k) + Pa.long (l.drop k) := by rw [← Pa.long_append, List.take_append_drop]
  omega
theorem flat_le' {l : List (List UInt8)} {k : Nat} (h : k < l.length) : ((l.take k).flatMap (fun p => (47 : UInt8) :: p)).length + 1 + (l.getD k []).length ≤ Pa.long l := by
  have h1 := flat_le l (k + 1)
  rw [flat_take h, List.length_append, List.length_cons] at h1
  omega
set_option maxRecDepth 100000 in
theorem pa_Shown (w : World) (v : Value) (g : Nat) (l : List (List UInt8)) (h : SlR strE w v g l) (hl : Pa.long l ≤ 100000) :
    Calls Tryd.prog 20 #[v] w fun e w' => e = .returned (.string (Pa.mk (Pa.shown l))) ∧ w' = w := by
  obtain ⟨A, o, c, rfl, hm, hA, hc⟩ := str_cell h
  clear h
  by_cases h0 : l = []
  · subst h0
    go_enter Tryd.func20, Tryd.ntmps20
    go_wp2
    go_ret
    exact ⟨rfl, rfl⟩
  · have hpos : 0 < l.length := List.length_pos_iff.2 h0
    have e0 : ((l.length : Int) == 0) = false := beq_eq_false_iff_ne.2 (by omega)
    have hsh : Pa.shown l = l.flatMap (fun p => 47 :: p) := if_neg h0
    have HSH := Lib.hid hsh
    obtain rfl := hA hpos
    have HC := Lib.hid hc
    have HL := Lib.hid hl
    clear hA hc hl h0 hsh
    go_enter Tryd.func20, Tryd.ntmps20
    go_wp2_with fail
    go_loop [3, 4] (fun s i => ∃ k : Nat, k ≤ l.length ∧ i = .int .i64 k ∧ s = .string (Pa.mk ((l.take k).flatMap (fun p => 47 :: p)))) (fun _ i => l.length - (intOf i).toNat)
    case atStart => exact ⟨0, Nat.zero_le _, rfl, rfl⟩
    case round =>
      obtain ⟨k, hk, rfl, rfl⟩ := hrel
      by_cases hlt : k < l.length
      · have q := HC.out k hlt
        have i1 : (0 : Int) ≤ k := by omega
        have i2 : (k : Int) < l.length := by omega
        have hb := flat_le' hlt
        have hl' := HL.out
        have s1 := Pa.mk_size ((l.take k).flatMap (fun p => 47 :: p))
        have s2 := Pa.mk_size (l.getD k [])
        have HE : Hid (Pa.mk ((l.take k).flatMap (fun p => 47 :: p)) ++ (⟨#[47]⟩ : ByteArray) ++ Pa.mk (l.getD k []) = Pa.mk ((l.take (k + 1)).flatMap (fun p => 47 :: p))) := by
          show _ = _
          rw [flat_take hlt, show (⟨#[47]⟩ : ByteArray) = Pa.mk [47] from rfl, mk_append, mk_append, List.append_assoc]
          rfl
        rw [← s1, ← s2] at hb
        clear s1 s2 HC
        generalize Pa.mk ((l.take k).flatMap (fun p => 47 :: p)) = m1 at *
        generalize Pa.mk (l.getD k []) = m2 at *
        have z1 : m1.size ≤ 100000 := by omega
        have z2 : m2.size ≤ 100000 := by omega
        clear hb hl'
        go_wp2
        go_round
        case rel => exact ⟨k + 1, by omega, by go_num, by rw [← HE.out]⟩
        case measure => (simp [intOf]; try omega)
      · obtain rfl : k = l.length := by omega
        have i2 : ¬ (l.length : Int) < l.length := by omega
        rw [List.take_length, ← HSH.out]
        clear HC
        go_wp2
        go_ret
        exact ⟨rfl, rfl⟩
end Go.Proofs.YtnglhfeialomgaaDoor
/- treeFact. -/
namespace Go.Proofs.YtnglhfeialomgaaDoor
open Go.RowKit

/-- What Walk hands a law. -/
theorem trl_Walk {w0 w : World} {tb K : Nat} {g : Tr.G} {dom : Nat → Prop} (h : TrL w0 w tb g dom K) :
    Calls Tryd.prog 11 #[.pointer (some ⟨tb, 0, none⟩)] w fun e w' => ∃ v l gv, e = .returned v ∧ (w.heap.size ≤ gv ∨ l = []) ∧ SlR strE w' v gv l ∧ Tr.WalkIs g l ∧ (l.length : Int) = g.many ∧ Fr [] w w' ∧ TrL w0 w' tb g dom K :=
  (tr_Walk w tb g dom K h.s h.cn).mono fun e w' ⟨v, l, gv, he, hg, hs, hw, hf⟩ => ⟨v, l, gv, he, hg, hs, hw, h.cn.walk h.s.ok hw, hf, h.step hf⟩
theorem errV0 : errV 0 = .nilIface := rfl
/-- A node made where there is room for it. -/
theorem MakL.ok {w0 w' : World} {tb K : Nat} {g : Tr.G} {dom : Nat → Prop} {s : List UInt8} {dir : Bool} {e : Ending} {d : Nat} {x : Tr.Nme} (h : MakL w0 tb g dom K s dir e w') (h0 : Tr.addErr g s = 0) (hs : Tr.spot g s = .at_ d x) : e = .returned .nilIface ∧ ∃ c o, ¬ dom c ∧ Option.isSome o = dir ∧ TrL w0 w' tb (Tr.addG (Tr.newN g c o) d x c) (fun b => dom b ∨ b = c) (K + 1) := by
  obtain ⟨he, c, o, hc, ho, hr⟩ := h
  rw [h0, errV0] at he
  rcases hr with ⟨-, d', x', hs', h⟩ | ⟨h, -⟩
  · rw [hs] at hs'
    injection hs' with e1 e2
    subst e1 e2
    exact ⟨he, c, o, hc, ho, h⟩
  · exact absurd h0 h
theorem LinkL.ok {w0 w' : World} {tb K : Nat} {g : Tr.G} {dom : Nat → Prop} {old s : List UInt8} {e : Ending} {d n : Nat} {x : Tr.Nme} (h : LinkL w0 tb g dom K old s e w') (h0 : Tr.linkErr g old s = 0) (ha : atV g old = .ok n) (hs : Tr.spot g s = .at_ d x) : e = .returned .nilIface ∧ TrL w0 w' tb (Tr.addG g d x n) dom (K + 1) := by
  obtain ⟨he, hr⟩ := h
  rw [h0, errV0] at he
  rcases hr with ⟨-, n', d', x', ha', -, -, hs', h⟩ | ⟨h, -⟩
  · rw [hs] at hs'
    injection hs' with e1 e2
    rw [ha] at ha'
    injection ha' with e3
    subst e1 e2 e3
    exact ⟨he, h⟩
  · exact absurd h0 h
theorem slR_alloc {w : World} {v : Value} {g : Nat} {l : List (List UInt8)} (h : SlR strE w v g l) (o : Obj) : SlR strE (w.alloc o) v g l := by
  rcases h with h | ⟨a, c, e, h1, h2, h3⟩
  · exact .inl h
  · exact .inr ⟨a, c, e, h1, h2, fun i hi r hr => by
      have h4 := h3 i hi r hr
      have h5 : ∃ x, w.cell? ⟨g, a + i * strE.k + r, none⟩ = some x := by
        rw [h4]
        have hr : r < 1 := hr
        obtain rfl : r = 0 := by omega
        exact ⟨_, rfl⟩
      obtain ⟨x, hx⟩ := h5
      rw [← h4, hx]
      exact ((Fr.refl [] w).alloc o).cell hx (by simp)⟩
theorem three_lit (w : World) : SlR strE (w.alloc (.cells #[.string ⟨#[47, 97, 47]⟩, .string ⟨#[47, 97, 47, 120]⟩, .string ⟨#[47, 121]⟩] 9)) (.slice (some ⟨w.heap.size, 0, none⟩) 3 3) w.heap.size [[47, 97, 47], [47, 97, 47, 120], [47, 121]] := by
  refine .inr ⟨0, 3, rfl, by decide, by unfold maxLen; omega, fun i hi r hr => ?_⟩
  have hr : r < 1 := hr
  obtain rfl : r = 0 := by omega
  rw [cell_of_row _ _ _ _ _ _ (heap_alloc_new w _)]
  have hi : i < 3 := hi
  match i, hi with
  | 0, _ => rfl
  | 1, _ => rfl
  | 2, _ => rfl
set_option maxRecDepth 100000 in
set_option maxHeartbeats 2000000 in
theorem tr_fact (w : World) : Calls Tryd.prog 8 #[] w (OkT w) := by
  have HN := Lib.hid (trl_new (Fr.refl [] w))
  go_enter Tryd.func8, Tryd.ntmps8
  go_upto_region 2 with (go_at_call 22; (with_reducible refine useC HN.out ?_); rintro e w1 ⟨tb, n, m, rfl, h⟩; have HL := Lib.hid h; clear h)
  obtain ⟨p1, p2⟩ := Tr.fact_1 n m
  have HD : Hid (Calls Tryd.prog 17 #[.pointer (some ⟨tb, 0, none⟩), .string ⟨#[47, 97]⟩] w1 fun e w' => e = .returned .nilIface ∧ ∃ c o, ¬ c = n ∧ Option.isSome o = true ∧ TrL w w' tb (Tr.fg1 n m c o) (fun b => b = n ∨ b = c) 1) :=
    (trl_Dir HL.out (by decide) ⟨#[47, 97]⟩).mono fun e w' h => h.ok p2 p1
  clear p1 p2
  go_upto_region 3 with (go_at_call 17; (with_reducible refine useC HD.out ?_); rintro e w2 ⟨rfl, c, o, hc, ho, h⟩; have HL1 := Lib.hid h; clear h)
  have HC := Lib.hid hc
  have HO := Lib.hid ho
  obtain ⟨p1, p2, -⟩ := Tr.fact_2 hc ho HL1.out.s.ok
  have HFI : Hid (Calls Tryd.prog 16 #[.pointer (some ⟨tb, 0, none⟩), .string ⟨#[47, 97, 47, 120]⟩] w2 fun e w' => e = .returned .nilIface ∧ ∃ c2 o2, ¬ (c2 = n ∨ c2 = c) ∧ Option.isSome o2 = false ∧ TrL w w' tb (Tr.fg2 n m c o c2 o2) (fun b => (b = n ∨ b = c) ∨ b = c2) 2) :=
    (trl_File HL1.out (by decide) ⟨#[47, 97, 47, 120]⟩).mono fun e w' h => h.ok p2 p1
  clear p1 p2 hc ho
  go_upto_region 4 with (go_at_call 16; (with_reducible refine useC HFI.out ?_); rintro e w3 ⟨rfl, c2, o2, hc2, ho2, h⟩; have HL2 := Lib.hid h; clear h)
  have hcl := HL1.out.domC
  obtain ⟨p1, -, p2, p3, -⟩ := Tr.fact_3 (dom := fun b => b = n ∨ b = c) HC.out HO.out HL1.out.s.ok (.inl rfl) hcl.2 hc2 ho2 HL2.out.s.ok
  obtain ⟨p4, p5⟩ := Tr.fact_4 (dom := fun b => b = n ∨ b = c) HC.out HO.out HL1.out.s.ok (.inl rfl) hcl.2 hc2 ho2 HL2.out.s.ok
  have HLK : Hid (Calls Tryd.prog 12 #[.pointer (some ⟨tb, 0, none⟩), .string ⟨#[47, 97, 47, 120]⟩, .string ⟨#[47, 121]⟩] w3 fun e w' => e = .returned .nilIface ∧ TrL w w' tb (Tr.addG (Tr.fg2 n m c o c2 o2) n [121] c2) (fun b => (b = n ∨ b = c) ∨ b = c2) 3) :=
    (trl_Link HL2.out (by decide) ⟨#[47, 97, 47, 120]⟩ ⟨#[47, 121]⟩).mono fun e w' h => h.ok p3 p1 p2
  clear p1 p2 p3 hc2 ho2 hcl
  go_upto_region 5 with (go_at_call 12; (with_reducible refine useC HLK.out ?_); rintro e w4 ⟨rfl, h⟩; have HL3 := Lib.hid h; clear h)
  have HNM : Hid (Calls Tryd.prog 10 #[.pointer (some ⟨tb, 0, none⟩), .string ⟨#[47, 121]⟩] w4 fun e w' => e = .returned (.tuple #[.int .i64 2, .nilIface]) ∧ TrL w w' tb (Tr.addG (Tr.fg2 n m c o c2 o2) n [121] c2) (fun b => (b = n ∨ b = c) ∨ b = c2) 3) :=
    (trl_Names HL3.out ⟨#[47, 121]⟩).mono fun e w' h => ⟨by rw [h.1]; exact congrArg _ p4, h.2.1⟩
  have HP5 := Lib.hid p5
  clear p4 p5
  go_upto_region 6 with (go_at_call 10; (with_reducible refine useC HNM.out ?_); rintro e w5 ⟨rfl, h⟩; have HL4 := Lib.hid h; clear h)
  have HWK := Lib.hid (trl_Walk HL4.out)
  go_wp2_with (first
    | (go_at_call 11; (with_reducible refine useC HWK.out ?_); rintro e w6 ⟨v, l, gv, rfl, -, hs, hw, -, -, h⟩; obtain rfl := HP5.out l hw; obtain ⟨A, o6, c6, rfl, -⟩ := strs_cell hs; have HL5 := Lib.hid h; have HTX := Lib.hid (texts_same _ _ _ _ _ _ (slR_alloc hs _) (three_lit w6)); clear h hs hw)
    | (go_at_call 15; (with_reducible refine useC HTX.out ?_); rintro e w7 ⟨rfl, hf⟩; have HF7 := Lib.hid hf; clear hf))
  go_ret
  exact ⟨rfl, (HL5.out.fr.trans ((Fr.refl [] w6).alloc _)).trans HF7.out⟩
end Go.Proofs.YtnglhfeialomgaaDoor

/- did, grown. -/
namespace Go.Proofs.YtnglhfeialomgaaDoor
open Go.RowKit

def KeepL (w0 : World) (tb : Nat) (g : Tr.G) (dom : Nat → Prop) (K : Nat) (e : Ending) (w' : World) : Prop := e = .returned .nilIface ∧ TrL w0 w' tb g dom K
/-- What a step does. -/
def DidL (w0 : World) (tb : Nat) (g : Tr.G) (dom : Nat → Prop) (K : Nat) : List (List UInt8) → Ending → World → Prop
  | [a, s] => if a = [100] then MakL w0 tb g dom K s true else if a = [102] then MakL w0 tb g dom K s false else if a = [120] then DropL w0 tb g dom K s else KeepL w0 tb g dom K
  | [a, s, t] => if a = [108] then LinkL w0 tb g dom K s t else if a = [109] then MoveL w0 tb g dom K s t else KeepL w0 tb g dom K
  | _ => KeepL w0 tb g dom K
theorem DidL.some {w0 w' : World} {tb K : Nat} {g : Tr.G} {dom : Nat → Prop} {l : List (List UInt8)} {e : Ending} (h : DidL w0 tb g dom K l e w') : ∃ c g' dom', e = .returned (errV c) ∧ TrL w0 w' tb g' dom' (K + 2) := by
  have hm : ∀ {s : List UInt8} {dir : Bool}, MakL w0 tb g dom K s dir e w' → ∃ c g' dom', e = .returned (errV c) ∧ TrL w0 w' tb g' dom' (K + 2) := fun ⟨he, c, o, _, _, hr⟩ => by
    rcases hr with ⟨-, d, x, -, h⟩ | ⟨-, h⟩
    · exact ⟨_, _, _, he, h.mono (by omega)⟩
    · exact ⟨_, _, _, he, h.mono (by omega)⟩
  have hk : KeepL w0 tb g dom K e w' → ∃ c g' dom', e = .returned (errV c) ∧ TrL w0 w' tb g' dom' (K + 2) := fun ⟨he, h⟩ => ⟨0, _, _, he, h.mono (by omega)⟩
  unfold DidL at h
  split at h
  · split at h
    · exact hm h
    · split at h
      · exact hm h
      · split at h
        · obtain ⟨he, ⟨-, d, x, n, -, -, -, h⟩ | ⟨-, h⟩⟩ := h
          · exact ⟨_, _, _, he, h.mono (by omega)⟩
          · exact ⟨_, _, _, he, h.mono (by omega)⟩
        · exact hk h
  · split at h
    · obtain ⟨he, ⟨-, n, d, x, -, -, -, -, h⟩ | ⟨-, h⟩⟩ := h
      · exact ⟨_, _, _, he, h.mono (by omega)⟩
      · exact ⟨_, _, _, he, h.mono (by omega)⟩
    · split at h
      · obtain ⟨he, ⟨-, P, d, x, n, P', d', x', -, -, -, -, h⟩ | ⟨-, h⟩⟩ := h
        · exact ⟨_, _, _, he, h⟩
        · exact ⟨_, _, _, he, h.mono (by omega)⟩
      · exact hk h
  · exact hk h
section
variable (w0 w : World) (tb K : Nat) (g : Tr.G) (dom : Nat → Prop) (hL : TrL w0 w tb g dom K) (hK : K ≤ 99000) (gl : Nat)
include hL hK
set_option maxRecDepth 100000 in
set_option maxHeartbeats 4000000 in
theorem did_2 (a s : List UInt8) (o c : Nat) (_ : 2 ≤ c) (k0 : w.cell? ⟨gl, o, none⟩ = some (.string (Pa.mk a))) (k1 : w.cell? ⟨gl, o + 1, none⟩ = some (.string (Pa.mk s))) :
    Calls Tryd.prog 24 #[.pointer (some ⟨tb, 0, none⟩), .slice (some ⟨gl, o, none⟩) 2 c] w (DidL w0 tb g dom K [a, s]) := by
  have HD := Lib.hid (trl_Dir hL (by omega) (Pa.mk s))
  have HF := Lib.hid (trl_File hL (by omega) (Pa.mk s))
  have HX := Lib.hid (trl_Drop hL (by omega) (Pa.mk s))
  rw [Pa.mk_list] at HD HF HX
  have HL := Lib.hid hL
  have hs : DidL w0 tb g dom K [a, s] = if a = [100] then MakL w0 tb g dom K s true else if a = [102] then MakL w0 tb g dom K s false else if a = [120] then DropL w0 tb g dom K s else KeepL w0 tb g dom K := rfl
  rw [hs]
  clear hL hs
  by_cases h1 : a = [100]
  · rw [if_pos h1]
    have e1 : ((Pa.mk a).toList == [100]) = true := by rw [mk_toList]; exact beq_iff_eq.2 h1
    clear h1 HF HX
    generalize Pa.mk a = ma at *
    generalize Pa.mk s = ms at *
    go_enter Tryd.func24, Tryd.ntmps24
    go_wp2_with (go_at_call 17; (with_reducible refine useC HD.out ?_); intro e w1 h; obtain ⟨v, hv⟩ : ∃ v, e = .returned v := ⟨_, h.1⟩; subst hv; have HR := Lib.hid h; clear h)
    go_ret
    exact HR.out
  · rw [if_neg h1]
    have e1 : ((Pa.mk a).toList == [100]) = false := by rw [mk_toList]; exact beq_eq_false_iff_ne.2 h1
    by_cases h2 : a = [102]
    · rw [if_pos h2]
      have e2 : ((Pa.mk a).toList == [102]) = true := by rw [mk_toList]; exact beq_iff_eq.2 h2
      clear h1 h2 HD HX
      generalize Pa.mk a = ma at *
      generalize Pa.mk s = ms at *
      go_enter Tryd.func24, Tryd.ntmps24
      go_wp2_with (go_at_call 16; (with_reducible refine useC HF.out ?_); intro e w1 h; obtain ⟨v, hv⟩ : ∃ v, e = .returned v := ⟨_, h.1⟩; subst hv; have HR := Lib.hid h; clear h)
      go_ret
      exact HR.out
    · rw [if_neg h2]
      have e2 : ((Pa.mk a).toList == [102]) = false := by rw [mk_toList]; exact beq_eq_false_iff_ne.2 h2
      by_cases h3 : a = [120]
      · rw [if_pos h3]
        have e3 : ((Pa.mk a).toList == [120]) = true := by rw [mk_toList]; exact beq_iff_eq.2 h3
        clear h1 h2 h3 HD HF
        generalize Pa.mk a = ma at *
        generalize Pa.mk s = ms at *
        go_enter Tryd.func24, Tryd.ntmps24
        go_wp2_with (go_at_call 13; (with_reducible refine useC HX.out ?_); intro e w1 h; obtain ⟨v, hv⟩ : ∃ v, e = .returned v := ⟨_, h.1⟩; subst hv; have HR := Lib.hid h; clear h)
        go_ret
        exact HR.out
      · rw [if_neg h3]
        have e3 : ((Pa.mk a).toList == [120]) = false := by rw [mk_toList]; exact beq_eq_false_iff_ne.2 h3
        clear h1 h2 h3 HD HF HX
        generalize Pa.mk a = ma at *
        generalize Pa.mk s = ms at *
        go_enter Tryd.func24, Tryd.ntmps24
        go_wp2_with fail
        go_ret
        exact ⟨rfl, HL.out⟩
set_option maxRecDepth 100000 in
set_option maxHeartbeats 4000000 in
theorem did_3 (a s t : List UInt8) (o c : Nat) (_ : 3 ≤ c) (k0 : w.cell? ⟨gl, o, none⟩ = some (.string (Pa.mk a))) (k1 : w.cell? ⟨gl, o + 1, none⟩ = some (.string (Pa.mk s))) (k2 : w.cell? ⟨gl, o + 2, none⟩ = some (.string (Pa.mk t))) :
    Calls Tryd.prog 24 #[.pointer (some ⟨tb, 0, none⟩), .slice (some ⟨gl, o, none⟩) 3 c] w (DidL w0 tb g dom K [a, s, t]) := by
  have hL' := hL.step (Fr.refl [] w).drew
  have HD := Lib.hid (trl_Link hL' (by omega) (Pa.mk s) (Pa.mk t))
  have HF := Lib.hid (trl_Move hL' (by omega) (Pa.mk s) (Pa.mk t))
  rw [Pa.mk_list, Pa.mk_list] at HD HF
  have HL := Lib.hid hL
  have hs : DidL w0 tb g dom K [a, s, t] = if a = [108] then LinkL w0 tb g dom K s t else if a = [109] then MoveL w0 tb g dom K s t else KeepL w0 tb g dom K := rfl
  rw [hs]
  clear hL hs hL'
  by_cases h1 : a = [108]
  · rw [if_pos h1]
    have e1 : ((Pa.mk a).toList == [108]) = true := by rw [mk_toList]; exact beq_iff_eq.2 h1
    clear h1 HF
    generalize Pa.mk a = ma at *
    generalize Pa.mk s = ms at *
    generalize Pa.mk t = mt at *
    go_enter Tryd.func24, Tryd.ntmps24
    go_wp2_with fail
    (refine wp_region_mixq 7 [(true, 0), (true, 1), (true, 2), (true, 3), (true, 4), (true, 5), (true, 6)] (by kernel_rfl) (by kernel_rfl) ?_; simp only [pickOps, List.map_cons, List.map_nil, List.getD_cons_zero, List.getD_cons_succ, List.drop_succ_cons, List.drop_zero]; (iterate 7 (first | (refine wpMix_take (v := ?_) (by rfl) ?_ ?_; rotate_left; (focus (intro W hW; subst hW; go_simp; (try with_reducible rfl); done)); try simp only [Act.put, List.setIfInBounds_toArray, List.set_cons_zero, List.set_cons_succ]) | (refine wpMix_leave (by rfl) ?_; try simp only [Act.put, List.setIfInBounds_toArray, List.set_cons_zero, List.set_cons_succ]))); refine wpMix_nil ?_)
    go_wp2_with (go_at_call 12; (with_reducible refine useC HD.out ?_); intro e w1 h; obtain ⟨v, hv⟩ : ∃ v, e = .returned v := ⟨_, h.1⟩; subst hv; have HR := Lib.hid h; clear h)
    go_ret
    exact HR.out
  · rw [if_neg h1]
    have e1 : ((Pa.mk a).toList == [108]) = false := by rw [mk_toList]; exact beq_eq_false_iff_ne.2 h1
    by_cases h2 : a = [109]
    · rw [if_pos h2]
      have e2 : ((Pa.mk a).toList == [109]) = true := by rw [mk_toList]; exact beq_iff_eq.2 h2
      clear h1 h2 HD
      generalize Pa.mk a = ma at *
      generalize Pa.mk s = ms at *
      generalize Pa.mk t = mt at *
      go_enter Tryd.func24, Tryd.ntmps24
      go_wp2_with fail
      (refine wp_region_mixq 7 [(true, 0), (true, 1), (true, 2), (true, 3), (true, 4), (true, 5), (true, 6)] (by kernel_rfl) (by kernel_rfl) ?_; simp only [pickOps, List.map_cons, List.map_nil, List.getD_cons_zero, List.getD_cons_succ, List.drop_succ_cons, List.drop_zero]; (iterate 7 (first | (refine wpMix_take (v := ?_) (by rfl) ?_ ?_; rotate_left; (focus (intro W hW; subst hW; go_simp; (try with_reducible rfl); done)); try simp only [Act.put, List.setIfInBounds_toArray, List.set_cons_zero, List.set_cons_succ]) | (refine wpMix_leave (by rfl) ?_; try simp only [Act.put, List.setIfInBounds_toArray, List.set_cons_zero, List.set_cons_succ]))); refine wpMix_nil ?_)
      go_wp2_with (go_at_call 14; (with_reducible refine useC HF.out ?_); intro e w1 h; obtain ⟨v, hv⟩ : ∃ v, e = .returned v := ⟨_, h.1⟩; subst hv; have HR := Lib.hid h; clear h)
      go_ret
      exact HR.out
    · rw [if_neg h2]
      have e2 : ((Pa.mk a).toList == [109]) = false := by rw [mk_toList]; exact beq_eq_false_iff_ne.2 h2
      clear h1 h2 HD HF
      generalize Pa.mk a = ma at *
      generalize Pa.mk s = ms at *
      generalize Pa.mk t = mt at *
      go_enter Tryd.func24, Tryd.ntmps24
      go_wp2_with fail
      go_ret
      exact ⟨rfl, HL.out⟩
omit hK in
set_option maxRecDepth 100000 in
set_option maxHeartbeats 4000000 in
theorem did_n (A : Option Addr) (n c : Nat) (hn : n ≤ 9223372036854775807) (h2 : n ≠ 2) (h3 : n ≠ 3) :
    Calls Tryd.prog 24 #[.pointer (some ⟨tb, 0, none⟩), .slice A n c] w (KeepL w0 tb g dom K) := by
  have HL := Lib.hid hL
  have e2 : ((n : Int) == 2) = false := beq_eq_false_iff_ne.2 (by omega)
  have e3 : ((n : Int) == 3) = false := beq_eq_false_iff_ne.2 (by omega)
  clear hL h2 h3
  go_enter Tryd.func24, Tryd.ntmps24
  go_wp2_with fail
  go_ret
  exact ⟨rfl, HL.out⟩
theorem tr_did (v : Value) (l : List (List UInt8)) (h : SlR strE w v gl l) :
    Calls Tryd.prog 24 #[.pointer (some ⟨tb, 0, none⟩), v] w (DidL w0 tb g dom K l) := by
  obtain ⟨A, o, c, rfl, hm, hcap, hA, hc⟩ := strs_cell h
  match l, hm, hcap, hA, hc with
  | [a, s], hm, hcap, hA, hc =>
    obtain rfl := hA (by simp)
    exact did_2 w0 w tb K g dom hL hK gl a s o c hcap (hc 0 (by simp)) (hc 1 (by simp))
  | [a, s, t], hm, hcap, hA, hc =>
    obtain rfl := hA (by simp)
    exact did_3 w0 w tb K g dom hL hK gl a s t o c hcap (hc 0 (by simp)) (hc 1 (by simp)) (hc 2 (by simp))
  | [], hm, _, _, _ => exact did_n w0 w tb K g dom hL A 0 c hm (by decide) (by decide)
  | [a], hm, _, _, _ => exact did_n w0 w tb K g dom hL A 1 c hm (by decide) (by decide)
  | a :: b :: d :: e :: r, hm, _, _, _ => exact did_n w0 w tb K g dom hL A (a :: b :: d :: e :: r).length c hm (by simp) (by simp)
end
end Go.Proofs.YtnglhfeialomgaaDoor
