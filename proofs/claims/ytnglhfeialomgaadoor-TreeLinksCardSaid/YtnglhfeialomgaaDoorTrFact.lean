/- treeFact. -/
import Derived.Test.YtnglhfeialomgaaDoorTrLaw
import Derived.Test.YtnglhfeialomgaaDoorTrFactP
import Derived.Test.YtnglhfeialomgaaDoorTrWalkA
import Derived.Test.YtnglhfeialomgaaDoorPaTexts0
namespace Go.Proofs.YtnglhfeialomgaaDoor
open Go.RowKit

/-- What Walk hands a law. -/
theorem trl_Walk {w0 w : World} {tb K : Nat} {g : Tr.G} {dom : Nat → Prop} (h : TrL w0 w tb g dom K) :
    Calls Tryd.prog 11 #[.pointer (some ⟨tb, 0, none⟩)] w fun e w' => ∃ v l gv, e = .returned v ∧ (w.heap.size ≤ gv ∨ l = []) ∧ SlR strE w' v gv l ∧ Tr.WalkIs g l ∧ (l.length : Int) = g.many ∧ Fr [] w w' ∧ TrL w0 w' tb g dom K :=
  (tr_Walk w tb g dom K h.s h.cn).mono fun e w' ⟨v, l, gv, he, hg, hs, hw, hf⟩ => ⟨v, l, gv, he, hg, hs, hw, h.cn.walk h.s.ok hw, hf, h.step hf⟩
theorem errV0 : errV 0 = .nilIface := rfl
/-- A node made where there is room for it. -/
theorem MakL.ok {w0 w' : World} {tb K : Nat} {g : Tr.G} {dom : Nat → Prop} {s : List UInt8} {dir : Bool} {e : Ending} {d : Nat} {x : Tr.Nme} (h : MakL w0 tb g dom K s dir e w') (h0 : Tr.addErr g s = 0) (hs : Tr.spot g s = .at_ d x) : e = .returned .nilIface ∧ ∃ c o, ¬ dom c ∧ Option.isSome o = dir ∧ TrL w0 w' tb (Tr.addG (Tr.newN g c o) d x c) (fun b => dom b ∨ b = c) (K + 1) := by
  obtain ⟨he, c, o, hc, ho, hr⟩ := h
  rw [h0, errV0] at he
  rcases hr with ⟨-, d', x', hs', h⟩ | ⟨h, -⟩
  · rw [hs] at hs'
    injection hs' with e1 e2
    subst e1 e2
    exact ⟨he, c, o, hc, ho, h⟩
  · exact absurd h0 h
theorem LinkL.ok {w0 w' : World} {tb K : Nat} {g : Tr.G} {dom : Nat → Prop} {old s : List UInt8} {e : Ending} {d n : Nat} {x : Tr.Nme} (h : LinkL w0 tb g dom K old s e w') (h0 : Tr.linkErr g old s = 0) (ha : atV g old = .ok n) (hs : Tr.spot g s = .at_ d x) : e = .returned .nilIface ∧ TrL w0 w' tb (Tr.addG g d x n) dom (K + 1) := by
  obtain ⟨he, hr⟩ := h
  rw [h0, errV0] at he
  rcases hr with ⟨-, n', d', x', ha', -, -, hs', h⟩ | ⟨h, -⟩
  · rw [hs] at hs'
    injection hs' with e1 e2
    rw [ha] at ha'
    injection ha' with e3
    subst e1 e2 e3
    exact ⟨he, h⟩
  · exact absurd h0 h
theorem slR_alloc {w : World} {v : Value} {g : Nat} {l : List (List UInt8)} (h : SlR strE w v g l) (o : Obj) : SlR strE (w.alloc o) v g l := by
  rcases h with h | ⟨a, c, e, h1, h2, h3⟩
  · exact .inl h
  · exact .inr ⟨a, c, e, h1, h2, fun i hi r hr => by
      have h4 := h3 i hi r hr
      have h5 : ∃ x, w.cell? ⟨g, a + i * strE.k + r, none⟩ = some x := by
        rw [h4]
        have hr : r < 1 := hr
        obtain rfl : r = 0 := by omega
        exact ⟨_, rfl⟩
      obtain ⟨x, hx⟩ := h5
      rw [← h4, hx]
      exact ((Fr.refl [] w).alloc o).cell hx (by simp)⟩
theorem three_lit (w : World) : SlR strE (w.alloc (.cells #[.string ⟨#[47, 97, 47]⟩, .string ⟨#[47, 97, 47, 120]⟩, .string ⟨#[47, 121]⟩] 9)) (.slice (some ⟨w.heap.size, 0, none⟩) 3 3) w.heap.size [[47, 97, 47], [47, 97, 47, 120], [47, 121]] := by
  refine .inr ⟨0, 3, rfl, by decide, by unfold maxLen; omega, fun i hi r hr => ?_⟩
  have hr : r < 1 := hr
  obtain rfl : r = 0 := by omega
  rw [cell_of_row _ _ _ _ _ _ (heap_alloc_new w _)]
  have hi : i < 3 := hi
  match i, hi with
  | 0, _ => rfl
  | 1, _ => rfl
  | 2, _ => rfl
set_option maxRecDepth 100000 in
set_option maxHeartbeats 2000000 in
theorem tr_fact (w : World) : Calls Tryd.prog 8 #[] w (OkT w) := by
  have HN := Lib.hid (trl_new (Fr.refl [] w))
  go_enter Tryd.func8, Tryd.ntmps8
  go_upto_region 2 with (go_at_call 22; (with_reducible refine useC HN.out ?_); rintro e w1 ⟨tb, n, m, rfl, h⟩; have HL := Lib.hid h; clear h)
  obtain ⟨p1, p2⟩ := Tr.fact_1 n m
  have HD : Hid (Calls Tryd.prog 17 #[.pointer (some ⟨tb, 0, none⟩), .string ⟨#[47, 97]⟩] w1 fun e w' => e = .returned .nilIface ∧ ∃ c o, ¬ c = n ∧ Option.isSome o = true ∧ TrL w w' tb (Tr.fg1 n m c o) (fun b => b = n ∨ b = c) 1) :=
    (trl_Dir HL.out (by decide) ⟨#[47, 97]⟩).mono fun e w' h => h.ok p2 p1
  clear p1 p2
  go_upto_region 3 with (go_at_call 17; (with_reducible refine useC HD.out ?_); rintro e w2 ⟨rfl, c, o, hc, ho, h⟩; have HL1 := Lib.hid h; clear h)
  have HC := Lib.hid hc
  have HO := Lib.hid ho
  obtain ⟨p1, p2, -⟩ := Tr.fact_2 hc ho HL1.out.s.ok
  have HFI : Hid (Calls Tryd.prog 16 #[.pointer (some ⟨tb, 0, none⟩), .string ⟨#[47, 97, 47, 120]⟩] w2 fun e w' => e = .returned .nilIface ∧ ∃ c2 o2, ¬ (c2 = n ∨ c2 = c) ∧ Option.isSome o2 = false ∧ TrL w w' tb (Tr.fg2 n m c o c2 o2) (fun b => (b = n ∨ b = c) ∨ b = c2) 2) :=
    (trl_File HL1.out (by decide) ⟨#[47, 97, 47, 120]⟩).mono fun e w' h => h.ok p2 p1
  clear p1 p2 hc ho
  go_upto_region 4 with (go_at_call 16; (with_reducible refine useC HFI.out ?_); rintro e w3 ⟨rfl, c2, o2, hc2, ho2, h⟩; have HL2 := Lib.hid h; clear h)
  have hcl := HL1.out.domC
  obtain ⟨p1, -, p2, p3, -⟩ := Tr.fact_3 (dom := fun b => b = n ∨ b = c) HC.out HO.out HL1.out.s.ok (.inl rfl) hcl.2 hc2 ho2 HL2.out.s.ok
  obtain ⟨p4, p5⟩ := Tr.fact_4 (dom := fun b => b = n ∨ b = c) HC.out HO.out HL1.out.s.ok (.inl rfl) hcl.2 hc2 ho2 HL2.out.s.ok
  have HLK : Hid (Calls Tryd.prog 12 #[.pointer (some ⟨tb, 0, none⟩), .string ⟨#[47, 97, 47, 120]⟩, .string ⟨#[47, 121]⟩] w3 fun e w' => e = .returned .nilIface ∧ TrL w w' tb (Tr.addG (Tr.fg2 n m c o c2 o2) n [121] c2) (fun b => (b = n ∨ b = c) ∨ b = c2) 3) :=
    (trl_Link HL2.out (by decide) ⟨#[47, 97, 47, 120]⟩ ⟨#[47, 121]⟩).mono fun e w' h => h.ok p3 p1 p2
  clear p1 p2 p3 hc2 ho2 hcl
  go_upto_region 5 with (go_at_call 12; (with_reducible refine useC HLK.out ?_); rintro e w4 ⟨rfl, h⟩; have HL3 := Lib.hid h; clear h)
  have HNM : Hid (Calls Tryd.prog 10 #[.pointer (some ⟨tb, 0, none⟩), .string ⟨#[47, 121]⟩] w4 fun e w' => e = .returned (.tuple #[.int .i64 2, .nilIface]) ∧ TrL w w' tb (Tr.addG (Tr.fg2 n m c o c2 o2) n [121] c2) (fun b => (b = n ∨ b = c) ∨ b = c2) 3) :=
    (trl_Names HL3.out ⟨#[47, 121]⟩).mono fun e w' h => ⟨by rw [h.1]; exact congrArg _ p4, h.2.1⟩
  have HP5 := Lib.hid p5
  clear p4 p5
  go_upto_region 6 with (go_at_call 10; (with_reducible refine useC HNM.out ?_); rintro e w5 ⟨rfl, h⟩; have HL4 := Lib.hid h; clear h)
  have HWK := Lib.hid (trl_Walk HL4.out)
  go_wp2_with (first
    | (go_at_call 11; (with_reducible refine useC HWK.out ?_); rintro e w6 ⟨v, l, gv, rfl, -, hs, hw, -, -, h⟩; obtain rfl := HP5.out l hw; obtain ⟨A, o6, c6, rfl, -⟩ := strs_cell hs; have HL5 := Lib.hid h; have HTX := Lib.hid (texts_same _ _ _ _ _ _ (slR_alloc hs _) (three_lit w6)); clear h hs hw)
    | (go_at_call 15; (with_reducible refine useC HTX.out ?_); rintro e w7 ⟨rfl, hf⟩; have HF7 := Lib.hid hf; clear hf))
  go_ret
  exact ⟨rfl, (HL5.out.fr.trans ((Fr.refl [] w6).alloc _)).trans HF7.out⟩
end Go.Proofs.YtnglhfeialomgaaDoor
