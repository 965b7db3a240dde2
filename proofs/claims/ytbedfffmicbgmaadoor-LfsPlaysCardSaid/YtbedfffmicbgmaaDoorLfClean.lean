/- The contracts of package lfs's functions: Clean. -/
import Derived.Test.YtbedfffmicbgmaaDoorLfWalk2
namespace Go.Proofs.YtbedfffmicbgmaaDoor
open Go.RowKit

def bestV (b : Option Nat) : Value := .int .i64 (match b with | none => -1 | some k => (k : Int))
def cleanAns (x : Lf.D × Int × Int) : Value := .tuple #[.int .i64 x.2.1, errV x.2.2]
section
variable {B : Nat} {w : World} {b : Nat} {d : Lf.D}
/-- A segment that is emptied. -/
theorem LfD.cut (h : LfD B w b d) (hO : Lf.OK d) {s : Nat} (hs : s < 6) : LfD B (w.setCell ⟨b, s, none⟩ (.slice none 0 0)) b { d with segs := d.segs.set s [] } := by
  obtain ⟨vs, h1, h2, h3, h4⟩ := h.main
  have hset : ∀ i, (vs.set s (.slice none 0 0)).getD i undef = if s = i then (.slice none 0 0) else vs.getD i undef := fun i => by
    simp only [List.getD_eq_getElem?_getD, List.getElem?_set]
    split
    · rename_i e; subst e; simp [h1, hs]
    · rfl
  have hseg : ∀ i, Lf.seg { d with segs := d.segs.set s [] } i = if s = i then [] else Lf.seg d i := fun i => Lf.seg_set d s i _ (by rw [hO.ns]; exact hs) _ _
  have hF : Fr [b] w (w.setCell ⟨b, s, none⟩ (.slice none 0 0)) := (Fr.refl _ w).setCell (.inl (by simp)) _
  refine ⟨h.ge, vs.set s (.slice none 0 0), by simp [h1], by rw [set_block h2, lfRow_setSeg h1 hs], fun i hi => ?_, fun i j hi hj hij g hg => ?_⟩
  · rw [hset, hseg]
    split
    · exact ⟨Own2.nil _ _ _, fun e => by cases e⟩
    · exact ⟨(h3 i hi).1.kept hF (fun g hg => by simp only [List.mem_singleton] at hg; subst hg; exact (h3 i hi).2), (h3 i hi).2⟩
  · rw [hset] at hg ⊢
    split at hg
    · cases hg
    · split
      · exact fun e => by cases e
      · exact h4 i j hi hj hij g hg
theorem LfD.keepsCut (h : LfD B w b d) (s : Nat) : Keeps b w (w.setCell ⟨b, s, none⟩ (.slice none 0 0)) := by
  obtain ⟨vs, h1, h2, _⟩ := h.main
  refine ⟨fun k _ hn => heap_setCell_other w ⟨b, s, none⟩ k _ (fun e => hn (.inl e)), fun k hk => .inl ?_⟩
  rcases hk with rfl | ⟨i, u, hi, hu, hk⟩
  · exact .inl rfl
  · refine .inr ⟨i, u, hi, ?_, hk⟩
    rw [cell_of_row _ b i _ _ _ (set_block h2 _), Array.getElem?_setIfInBounds] at hu
    rw [cell_of_row w b i _ _ _ h2]
    split at hu
    · split at hu
      · injection hu with hu
        subst hu
        cases hk
      · cases hu
    · exact hu
/-- Keeping from a new world on which nothing was turned. -/
theorem Keeps.ofFr {w' : World} (h : LfD B w b d) (hf : Fr [] w w') : Keeps b w w' := by
  obtain ⟨vs, h1, h2, _⟩ := h.main
  refine ⟨fun k hk _ => hf.block k hk (by simp), fun k hk => .inl ?_⟩
  rcases hk with rfl | ⟨i, u, hi, hu, hk⟩
  · exact .inl rfl
  · refine .inr ⟨i, u, hi, ?_, hk⟩
    rw [cell_of_row _ b i _ _ _ (hf.get h2 (by simp))] at hu
    rw [cell_of_row w b i _ _ _ h2]
    exact hu
/-- A row of pairs that is none of the disk's own, as it reads. -/
def Pairs (w : World) (g : Nat) (l : List (Int × Int)) : Prop := ∀ i, i < l.length → w.cell? ⟨g, i * 2, none⟩ = some (.int .i64 (l.getD i (0, 0)).1) ∧ w.cell? ⟨g, i * 2 + 1, none⟩ = some (.int .i64 (l.getD i (0, 0)).2)
theorem Pairs.keeps {w' : World} {g : Nat} {l : List (Int × Int)} (h : Pairs w g l) (hk : Keeps b w w') (hg : ¬ Foot w b g) : Pairs w' g l := fun i hi => by
  have h1 := h i hi
  have hlt := block_lt_of_cell h1.1
  exact ⟨(World.cell?_of_block (hk.1 g hlt hg)).trans h1.1, (World.cell?_of_block (hk.1 g hlt hg)).trans h1.2⟩
end
theorem LfD.footLt {B : Nat} {w : World} {b : Nat} {d : Lf.D} (h : LfD B w b d) : ∀ k, Foot w b k → k < w.heap.size := by
  obtain ⟨vs, h1, h2, h3, _⟩ := h.main
  rintro k (rfl | ⟨i, u, hi, hu, hk⟩)
  · exact lt_of_heap h2
  · rw [cell_of_row w b i _ _ _ h2, lfRow_seg h1 hi] at hu
    injection hu with hu
    subst hu
    exact (World.ownsRow.lt (h3 i hi).1 k hk).2
theorem LfD.footFr {B : Nat} {w w' : World} {b : Nat} {d : Lf.D} (h : LfD B w b d) (hf : Fr [] w w') : ∀ k, Foot w' b k → Foot w b k := by
  obtain ⟨vs, h1, h2, _⟩ := h.main
  rintro k (rfl | ⟨i, u, hi, hu, hk⟩)
  · exact .inl rfl
  · refine .inr ⟨i, u, hi, ?_, hk⟩
    rw [cell_of_row _ b i _ _ _ (hf.get h2 (by simp))] at hu
    rw [cell_of_row w b i _ _ _ h2]
    exact hu
theorem LfD.footCut {B : Nat} {w : World} {b : Nat} {d : Lf.D} (h : LfD B w b d) (s : Nat) : ∀ k, Foot (w.setCell ⟨b, s, none⟩ (.slice none 0 0)) b k → Foot w b k := by
  obtain ⟨vs, h1, h2, _⟩ := h.main
  rintro k (rfl | ⟨i, u, hi, hu, hk⟩)
  · exact .inl rfl
  · refine .inr ⟨i, u, hi, ?_, hk⟩
    rw [cell_of_row _ b i _ _ _ (set_block h2 _), Array.getElem?_setIfInBounds] at hu
    rw [cell_of_row w b i _ _ _ h2]
    split at hu
    · split at hu
      · injection hu with hu
        subst hu
        cases hk
      · cases hu
    · exact hu
/-- The disk when n of the live blocks are put again. -/
def Lf.dn (d : Lf.D) (l : List Lf.Blk) (n : Nat) : Lf.D := (l.take n).foldl Lf.put d
theorem Lf.dn_all : ∀ (l : List Lf.Blk) (d : Lf.D) (X : Nat → Prop), Lf.OKx X d → Lf.Roomy d l.length → (∀ b ∈ l, 0 ≤ b.1 ∧ b.1 ≤ 7) → ∀ n, n < l.length →
    Lf.Shp (Lf.dn d l n) ∧ ∃ k, Lf.roomAt (Lf.dn d l n) = some k ∧ k < 6 ∧ (Lf.seg (Lf.dn d l n) k).length < 4 ∧ Lf.dn d l (n + 1) = Lf.down (Lf.at_ (Lf.dn d l n) k) (l.getD n (0, 0))
  | [], _, _, _, _, _, n, hn => by simp at hn
  | b :: l, d, X, h, hr, hb, n, hn => by
    obtain ⟨k, e, hk, hk4, hr'⟩ := Lf.Roomy.put h (n := l.length) (by simpa using hr) b
    have ep : Lf.put d b = Lf.down (Lf.at_ d k) b := by unfold Lf.put; rw [e]; rfl
    cases n with
    | zero => exact ⟨h.shp, k, e, hk, hk4, ep⟩
    | succ n =>
      have h' := (h.at_ hk).down hk4 (hb b (by simp))
      rw [← ep] at h'
      have := Lf.dn_all l (Lf.put d b) _ h' hr' (fun c hc => hb c (by simp [hc])) n (by simpa using hn)
      simpa [Lf.dn] using this
theorem bestTo_succ (d : Lf.D) (n : Nat) : Lf.bestTo d (n + 1) = Lf.bestStep d (Lf.bestTo d n) n := rfl

set_option maxRecDepth 100000 in
theorem lf_clean (w : World) (B b : Nat) (d : Lf.D) (hD : LfD B w b d) (hO : Lf.OK d) (hB : B ≤ w.heap.size) :
    Calls Tryd.prog 8 #[.pointer (some ⟨b, 0, none⟩)] w (LfAns B b (cleanAns (Lf.clean d)) (Lf.clean d).1 w) := by
  have HO := Lib.hid hO
  have HT := Lib.hid hD
  have HL := Lib.hid (fun W (hW : Fr [] w W) i (hi : i < 6) => lf_live W B b d i (hD.keep hW) hO hi)
  have HS := Lib.hid (fun W (hW : Fr [] w W) i (hi : i < 6) => (hD.keep hW).segv hi)
  have HH := Lib.hid (fun W (hW : Fr [] w W) => (hD.keep hW).head hO.shp)
  have hnh := hO.nh
  have HSM := Lib.hid (fun n (hn : n < 6) => hO.small n hn)
  clear hD hO
  have hh0 : (0 : Int) ≤ d.head := by omega
  go_enter Tryd.func8, Tryd.ntmps8
  go_wp2
  go_loopw [4, 9] (fun v k wr => ∃ n : Nat, n ≤ 6 ∧ k = .int .i64 n ∧ Hid (v = bestV (Lf.bestTo d n)) ∧ Hid (Fr [] w wr)) (fun _ k _ => 6 - (intOf k).toNat)
  case atStart => exact ⟨0, Nat.zero_le _, rfl, rfl, Fr.refl _ _⟩
  case round =>
    obtain ⟨n, hn, rfl, hv, hfr⟩ := hrel
    by_cases hlt : n < 6
    · have hc := HH.out _ hfr.out
      obtain ⟨A, g, c, hs, _, _⟩ := HS.out _ hfr.out n hlt
      have hn0 : (0 : Int) ≤ n := by omega
      have hn6 : (n : Int) < 6 := by omega
      by_cases hh : n = d.head
      · have hb : Hid (bestV (Lf.bestTo d n) = bestV (Lf.bestTo d (n + 1))) := by show _ = _; rw [bestTo_succ]; unfold Lf.bestStep; rw [if_pos (.inl hh)]
        have hc' : wr.cell? ⟨b, 30, none⟩ = some (.int .i64 n) := by rw [hh]; exact hc
        clear hc hh
        go_wp2
        go_roundw
        case rel => exact ⟨n + 1, by omega, by go_num, by show _ = _; rw [hv.out, hb.out], hfr⟩
        case measure => simp [intOf]; omega
      · have e1 : ((n : Int) == (d.head : Int)) = false := by simp; omega
        have e2 : decide ((n : Int) = (d.head : Int)) = false := decide_eq_false (by omega)
        have hneq : ¬ (n : Int) = (d.head : Int) := by omega
        by_cases hz : (Lf.seg d n).length = 0
        · have hb : Hid (bestV (Lf.bestTo d n) = bestV (Lf.bestTo d (n + 1))) := by show _ = _; rw [bestTo_succ]; unfold Lf.bestStep; rw [if_pos (.inr hz)]
          rw [hz] at hs
          clear hz hh
          go_wp2
          go_roundw
          case rel => exact ⟨n + 1, by omega, by go_num, by show _ = _; rw [hv.out, hb.out], hfr⟩
          case measure => simp [intOf]; omega
        · have e3 : decide (((Lf.seg d n).length : Int) = 0) = false := decide_eq_false (by omega)
          have e4 : (((Lf.seg d n).length : Int) == 0) = false := by simp; intro h; exact hz (by rw [h]; rfl)
          cases hbt : Lf.bestTo d n with
          | none =>
            have hb : Hid (bestV (some n) = bestV (Lf.bestTo d (n + 1))) := by show _ = _; rw [bestTo_succ]; unfold Lf.bestStep; rw [if_neg (by simp [hh]; intro h; exact hz (by rw [h]; rfl)), hbt]
            have hv' := hv.out
            rw [hbt] at hv'
            simp only [bestV] at hv'
            subst hv'
            generalize (Lf.seg d n).length = L at hs e3 e4 hz
            clear hbt hh hv
            go_wp2
            go_roundw
            case rel => exact ⟨n + 1, by omega, by go_num, hb, hfr⟩
            case measure => simp [intOf]; omega
          | some j =>
            obtain ⟨hjn, hj1, hj2⟩ := Lf.bestTo_lt d n j hbt
            have hb : Hid (bestV (if (Lf.live d n).length < (Lf.live d j).length then some n else some j) = bestV (Lf.bestTo d (n + 1))) := by show _ = _; rw [bestTo_succ, hbt]; unfold Lf.bestStep; rw [if_neg (show ¬ (n = d.head ∨ (Lf.seg d n).length = 0) from fun h => h.elim hh hz)]
            have hv' := hv.out
            rw [hbt] at hv'
            simp only [bestV] at hv'
            subst hv'
            have HL1 := Lib.hid (HL.out wr hfr.out n hlt)
            have HL2 := Lib.hid (fun W (hW : Fr [] w W) => HL.out W hW j (by omega))
            have hj0 : ¬ (j : Int) < 0 := by omega
            have e5 : decide ((j : Int) < 0) = false := decide_eq_false hj0
            generalize (Lf.seg d n).length = L at hs e3 e4 hz
            by_cases hcmp : (Lf.live d n).length < (Lf.live d j).length
            · have hb' : Hid (bestV (some n) = bestV (Lf.bestTo d (n + 1))) := by have := hb.out; rw [if_pos hcmp] at this; exact this
              have e6 : decide (((Lf.live d n).length : Int) < ((Lf.live d j).length : Int)) = true := decide_eq_true (by omega)
              have e7 : decide ((Lf.live d n).length < (Lf.live d j).length) = true := decide_eq_true hcmp
              clear hbt hh hv hb hj2
              go_wp2_with (first
                | (go_at_call 28; (with_reducible refine useC HL1.out ?_); rintro e w1 ⟨v1, rfl, hown1, hf1⟩; obtain ⟨A1, g1, c1, rfl, _, _⟩ := hown1.form; have HF1 := Lib.hid (hfr.out.trans hf1); clear hf1 hown1)
                | (go_at_call 28; (with_reducible refine useC (HL2.out w1 HF1.out) ?_); rintro e w2 ⟨v2, rfl, hown2, hf2⟩; obtain ⟨A2, g2, c2, rfl, _, _⟩ := hown2.form; have HF2 := Lib.hid (HF1.out.trans hf2); clear hf2 hown2))
              go_roundw
              case rel => exact ⟨n + 1, by omega, by go_num, hb', HF2⟩
              case measure => simp [intOf]; omega
            · have hb' : Hid (bestV (some j) = bestV (Lf.bestTo d (n + 1))) := by have := hb.out; rw [if_neg hcmp] at this; exact this
              have e6 : decide (((Lf.live d n).length : Int) < ((Lf.live d j).length : Int)) = false := decide_eq_false (by omega)
              have e7 : decide ((Lf.live d n).length < (Lf.live d j).length) = false := decide_eq_false hcmp
              clear hbt hh hv hb hj2
              go_wp2_with (first
                | (go_at_call 28; (with_reducible refine useC HL1.out ?_); rintro e w1 ⟨v1, rfl, hown1, hf1⟩; obtain ⟨A1, g1, c1, rfl, _, _⟩ := hown1.form; have HF1 := Lib.hid (hfr.out.trans hf1); clear hf1 hown1)
                | (go_at_call 28; (with_reducible refine useC (HL2.out w1 HF1.out) ?_); rintro e w2 ⟨v2, rfl, hown2, hf2⟩; obtain ⟨A2, g2, c2, rfl, _, _⟩ := hown2.form; have HF2 := Lib.hid (HF1.out.trans hf2); clear hf2 hown2))
              go_roundw
              case rel => exact ⟨n + 1, by omega, by go_num, hb', HF2⟩
              case measure => simp [intOf]; omega
    · have hn6 : n = 6 := by omega
      subst hn6
      cases hbt : Lf.bestTo d 6 with
      | none =>
        have er := Lib.hid (show Lf.clean d = (d, 0, 5) from by unfold Lf.clean; rw [hbt])
        have hv' := hv.out
        rw [hbt] at hv'
        simp only [bestV] at hv'
        subst hv'
        clear hbt hv
        go_wp2
        go_ret2
        rw [er.out]
        exact ⟨rfl, HT.out.keep hfr.out, hfr.out.toBelow hB (by simp), hfr.out.size, Keeps.ofFr HT.out hfr.out⟩
      | some s =>
        obtain ⟨hs6, hsh, hs0⟩ := Lf.bestTo_lt d 6 s hbt
        have hv' := hv.out
        rw [hbt] at hv'
        simp only [bestV] at hv'
        subst hv'
        have HL1 := Lib.hid (HL.out wr hfr.out s hs6)
        have hj0 : ¬ (s : Int) < 0 := by omega
        have e5 : decide ((s : Int) < 0) = false := decide_eq_false hj0
        have hsz : w.heap.size ≤ wr.heap.size := hfr.out.size
        by_cases h4 : (Lf.live d s).length = 4
        · have er := Lib.hid (show Lf.clean d = (d, 0, 7) from by unfold Lf.clean; rw [hbt]; simp only [if_pos h4])
          clear hbt hv
          go_wp2_with (go_at_call 28; (with_reducible refine useC HL1.out ?_); rintro e w1 ⟨v1, rfl, hown1, hf1⟩; obtain ⟨A1, g1, c1, rfl, _, _⟩ := hown1.form; have HF1 := Lib.hid (hfr.out.trans hf1); clear hf1 hown1)
          go_ret2
          rw [er.out]
          exact ⟨rfl, HT.out.keep HF1.out, HF1.out.toBelow hB (by simp), HF1.out.size, Keeps.ofFr HT.out HF1.out⟩
        · have er := Lib.hid (show Lf.clean d = ((Lf.live d s).foldl Lf.put { d with segs := d.segs.set s [] }, (s : Int), 0) from by unfold Lf.clean; rw [hbt]; simp only [if_neg h4])
          have e6 : decide (((Lf.live d s).length : Int) = 4) = false := decide_eq_false (by omega)
          have e8 : (((Lf.live d s).length : Int) == 4) = false := by simp; omega
          have hl8 : (Lf.live d s).length ≤ 4 := Nat.le_trans (Lf.live_le d s) (HSM.out s hs6)
          have hs0' : (0 : Int) ≤ s := by omega
          have hs6' : (s : Int) < 6 := by omega
          have HOwn2 := Lib.hid (fun w1 (h : Fr [] w w1) => (HT.out.keep h).free s)
          clear hbt hv
          go_wp2_with (go_at_call 28; (with_reducible refine useC HL1.out ?_); rintro e w1 ⟨v1, rfl, hown1, hf1⟩; have HOW := Lib.hid hown1.ge; obtain ⟨A1, g1, c1, rfl, hA1, hP1⟩ := hown1.form; have HF1 := Lib.hid (hfr.out.trans hf1); have HP1 := Lib.hid hP1; have HA1 := Lib.hid hA1; clear hf1 hown1 hP1 hA1; have hfz := HOwn2.out w1 HF1.out; obtain ⟨A2, g2, c2, hcs, _, _⟩ := HS.out w1 HF1.out s hs6)
          have hD1 := HT.out.keep HF1.out
          have hsz1 : w.heap.size ≤ w1.heap.size := HF1.out.size
          have HD2 : Hid (LfD B (w1.setCell ⟨b, s, none⟩ (.slice none 0 0)) b (Lf.dn { d with segs := d.segs.set s [] } (Lf.live d s) 0)) := hD1.cut HO.out hs6
          have HK2 : Hid (Below B w (w1.setCell ⟨b, s, none⟩ (.slice none 0 0)) ∧ w.heap.size ≤ (w1.setCell ⟨b, s, none⟩ (.slice none 0 0)).heap.size ∧ Keeps b w (w1.setCell ⟨b, s, none⟩ (.slice none 0 0))) :=
            ⟨(HF1.out.toBelow hB (by simp)).setCell HT.out.ge _, by simpa [World.setCell] using hsz1, (Keeps.ofFr HT.out HF1.out).trans (hD1.keepsCut s) hsz1⟩
          have hNF : 0 < (Lf.live d s).length → ¬ Foot w1 b g1 ∧ g1 < w1.heap.size := fun h0 => by
            have hg := HOW.out g1 (by rw [HA1.out h0]; rfl)
            refine ⟨fun hf => ?_, hg.2⟩
            have := HT.out.footLt g1 (HT.out.footFr HF1.out g1 hf)
            omega
          have HNF : Hid (0 < (Lf.live d s).length → ¬ Foot (w1.setCell ⟨b, s, none⟩ (.slice none 0 0)) b g1 ∧ g1 < (w1.setCell ⟨b, s, none⟩ (.slice none 0 0)).heap.size) := fun h0 => ⟨fun hf => (hNF h0).1 (hD1.footCut s g1 hf), by simpa [World.setCell] using (hNF h0).2⟩
          have HPR : Hid (Pairs (w1.setCell ⟨b, s, none⟩ (.slice none 0 0)) g1 (Lf.live d s)) := fun i hi => by
            have h0 := hNF (by omega)
            exact Pairs.keeps HP1.out (hD1.keepsCut s) h0.1 i hi
          have HPL : Hid (∀ n, n < (Lf.live d s).length → Lf.Shp (Lf.dn { d with segs := d.segs.set s [] } (Lf.live d s) n) ∧ ∃ k, Lf.roomAt (Lf.dn { d with segs := d.segs.set s [] } (Lf.live d s) n) = some k ∧ k < 6 ∧ (Lf.seg (Lf.dn { d with segs := d.segs.set s [] } (Lf.live d s) n) k).length < 4 ∧ Lf.dn { d with segs := d.segs.set s [] } (Lf.live d s) (n + 1) = Lf.down (Lf.at_ (Lf.dn { d with segs := d.segs.set s [] } (Lf.live d s) n) k) ((Lf.live d s).getD n (0, 0))) := by
            have hns := HO.out.ns
            have hl5 := Lf.live_le d s
            have hsm := HSM.out s hs6
            have S := fun j => Lf.seg_set d s j [] (by rw [hns]; exact hs6) d.pages d.head
            refine Lf.dn_all (Lf.live d s) _ (fun _ => True) ⟨by simp [hns], HO.out.np, HO.out.nh, fun i hi => ?_, fun i hi c hc => ?_, fun _ _ h => absurd trivial h⟩ ⟨by omega, .inl ⟨s, hs6, hsh, by rw [S, if_pos rfl]⟩⟩ (fun x hx => ?_)
            · rw [S]; split
              · simp
              · exact HSM.out i hi
            · rw [S] at hc; split at hc
              · simp at hc
              · exact HO.out.blk i hi c hc
            · obtain ⟨j, h1, _⟩ := (Lf.mem_live d s x).1 hx
              exact HO.out.blk s hs6 _ (List.mem_of_getElem? h1)
          have HEND : Hid (Lf.clean d = (Lf.dn { d with segs := d.segs.set s [] } (Lf.live d s) (Lf.live d s).length, (s : Int), 0)) := by
            show _ = _
            rw [er.out, Lf.dn, List.take_length]
          have HRG : Hid (∀ n, n < (Lf.live d s).length → 0 ≤ ((Lf.live d s).getD n (0, 0)).1 ∧ ((Lf.live d s).getD n (0, 0)).1 ≤ 7) := by
            intro n hn
            have e : (Lf.live d s).getD n (0, 0) = (Lf.live d s)[n] := by simp [List.getD, hn]
            rw [e]
            obtain ⟨j, h1, _⟩ := (Lf.mem_live d s _).1 (List.getElem_mem hn)
            exact HO.out.blk s hs6 _ (List.mem_of_getElem? h1)
          clear hD1 hNF er HL1 HP1 HF1 HOW HOwn2 hfz hcs hfr HL HS HH
          revert HD2 HK2 HNF HPR
          generalize (w1.setCell ⟨b, s, none⟩ (.slice none 0 0)) = w2
          generalize Lf.live d s = l at *
          intro HD2 HK2 HNF HPR
          generalize ({ d with segs := d.segs.set s [] } : Lf.D) = d0 at *
          go_loopw [60] (fun k wr => ∃ n : Nat, n ≤ l.length ∧ k = .int .i64 n ∧ Hid (LfD B wr b (Lf.dn d0 l n)) ∧ Hid (Below B w wr ∧ w.heap.size ≤ wr.heap.size ∧ Keeps b w wr) ∧ Hid (Pairs wr g1 l) ∧ Hid (0 < l.length → ¬ Foot wr b g1 ∧ g1 < wr.heap.size)) (fun k _ => l.length - (intOf k).toNat)
          case atStart => exact ⟨0, Nat.zero_le _, rfl, HD2, HK2, HPR, HNF⟩
          case round =>
            obtain ⟨n, hn, rfl, hDW, hKW, hPW, hNW⟩ := hrel
            by_cases hlt : n < l.length
            · have hn9 : (n : Int) < 4 := by omega
              obtain ⟨hShp, kk, hrm, hk6, hk4, hnx⟩ := HPL.out n hlt
              obtain ⟨hr0, hr7⟩ := HRG.out n hlt
              obtain ⟨hg1, hg2⟩ := hPW.out n hlt
              have hA := HA1.out (by omega)
              subst hA
              have HROOM : Hid (∀ W, LfD B W b (Lf.dn d0 l n) → Calls Tryd.prog 29 #[.pointer (some ⟨b, 0, none⟩)] W (LfAns B b (.bool true) (Lf.at_ (Lf.dn d0 l n) kk) W)) := fun W hW => by
                have h := lf_room W B b _ hW hShp
                have e : roomD (Lf.dn d0 l n) = Lf.at_ (Lf.dn d0 l n) kk := by unfold roomD; rw [hrm]
                rw [hrm, e] at h
                exact h
              have HDOWN := Lib.hid (fun W (hW : LfD B W b (Lf.at_ (Lf.dn d0 l n) kk)) (hBW : B ≤ W.heap.size) => lf_down W B b (Lf.at_ (Lf.dn d0 l n) kk) (l.getD n (0, 0)).1 (l.getD n (0, 0)).2 hW (hShp.at_ hk6) hBW hk4 ⟨hr0, hr7⟩)
              have HNX := Lib.hid hnx
              clear hShp hrm hk4 hnx hr0 hr7
              generalize l.getD n (0, 0) = x at *
              obtain ⟨p, v⟩ := x
              simp only at hg1 hg2
              go_wp2_with (first
                | (go_at_call 29; (with_reducible refine useC (HROOM.out _ (hDW.out.keep ((Fr.refl _ wr).alloc _))) ?_); rintro e w3 ⟨rfl, hD3, hB3, hs3, hK3⟩; have HA := Lib.hid (And.intro hD3 (And.intro hB3 (And.intro hs3 hK3))); have hnf : ¬ Foot (wr.alloc (.cells #[.int .i64 p, .int .i64 v] 72)) b wr.heap.size := (fun hf => Nat.lt_irrefl _ (hDW.out.footLt _ (hDW.out.footFr ((Fr.refl _ wr).alloc _) _ hf))); have hbk := (hK3.1 wr.heap.size (by simp) hnf).trans (heap_alloc_new wr (.cells #[.int .i64 p, .int .i64 v] 72)); have t0 : w3.cell? ⟨wr.heap.size, 0, none⟩ = some (.int .i64 p) := (by rw [cell_of_row w3 _ 0 _ _ _ hbk]; rfl); have t1 : w3.cell? ⟨wr.heap.size, 1, none⟩ = some (.int .i64 v) := (by rw [cell_of_row w3 _ 1 _ _ _ hbk]; rfl); clear hD3 hB3 hs3 hK3 hnf hbk)
                | (go_at_call 30; (with_reducible refine useC (HDOWN.out w3 HA.out.1 (Nat.le_trans hB (Nat.le_trans hKW.out.2.1 (Nat.le_trans (by simp) HA.out.2.2.1)))) ?_); rintro e w4 ⟨rfl, hD4, hB4, hs4, hK4⟩; have HA4 := Lib.hid (And.intro hD4 (And.intro hB4 (And.intro hs4 hK4))); clear hD4 hB4 hs4 hK4))
              have HF0 : Hid (Fr [] wr (wr.alloc (.cells #[.int .i64 p, .int .i64 v] 72))) := (Fr.refl _ wr).alloc _
              have HS0 : wr.heap.size ≤ (wr.alloc (.cells #[.int .i64 p, .int .i64 v] 72)).heap.size := by simp
              have K1 := Lib.hid (((Keeps.ofFr hDW.out HF0.out).trans HA.out.2.2.2 HS0).trans HA4.out.2.2.2 (Nat.le_trans HS0 HA.out.2.2.1))
              have SZ := Nat.le_trans (Nat.le_trans HS0 HA.out.2.2.1) HA4.out.2.2.1
              go_roundw
              case rel =>
                refine ⟨n + 1, by omega, by go_num, by rw [HNX.out]; exact HA4.out.1, ⟨hKW.out.1.trans (((HF0.out.toBelow (Nat.le_trans hB hKW.out.2.1) (by simp)).trans HA.out.2.1).trans HA4.out.2.1), Nat.le_trans hKW.out.2.1 SZ, hKW.out.2.2.trans K1.out hKW.out.2.1⟩, Pairs.keeps hPW.out K1.out (hNW.out (by omega)).1, fun h0 => ⟨fun hf => ?_, Nat.lt_of_lt_of_le (hNW.out h0).2 SZ⟩⟩
                rcases K1.out.2 g1 hf with h | h
                · exact (hNW.out h0).1 h
                · exact absurd (hNW.out h0).2 (Nat.not_lt.2 h)
              case measure => simp [intOf]; omega
            · have hnl : n = l.length := by omega
              subst hnl
              go_wp2
              go_ret2
              rw [HEND.out]
              exact ⟨rfl, hDW.out, hKW.out⟩
end Go.Proofs.YtbedfffmicbgmaaDoor
