/- The contracts of platterholdref1.Without and Rising. -/
import Derived.Deep.LoopGhost
import Derived.Test.YtokbhiokcoldbaaDoorCq01
import Derived.Test.YtokbhiokcoldbaaDoorCq04
import Derived.Test.YtokbhiokcoldbaaDoorCq09
namespace Go.Proofs.YtokbhiokcoldbaaDoor
open Go.RowKit

/-- The least of the first i numbers (and the first one). -/
def minTo (l : List Int) : Nat → Int
  | 0 => nth l 0
  | i + 1 => if nth l i < minTo l i then nth l i else minTo l i
theorem minTo_le (l : List Int) : ∀ i j, j < i → minTo l i ≤ nth l j
  | 0, j, h => by omega
  | i + 1, j, h => by
    have ih := minTo_le l i j
    by_cases hj : j = i
    · subst hj; unfold minTo; split <;> omega
    · have := ih (by omega); unfold minTo; split <;> omega
theorem minTo_mem {l : List Int} (h0 : 0 < l.length) : ∀ i, i ≤ l.length → minTo l i ∈ l
  | 0, _ => by
    have : nth l 0 = l[0] := by simp [nth, List.getD, h0]
    unfold minTo; rw [this]; exact List.getElem_mem h0
  | i + 1, h => by
    unfold minTo
    split
    · have : nth l i = l[i] := by simp [nth, List.getD, show i < l.length by omega]
      rw [this]; exact List.getElem_mem _
    · exact minTo_mem h0 i (by omega)
def least (l : List Int) : Int := minTo l l.length
theorem least_le {l : List Int} : ∀ x ∈ l, least l ≤ x := fun x hx => by
  obtain ⟨j, hj, rfl⟩ := List.getElem_of_mem hx
  have := minTo_le l l.length j hj
  simpa [nth, List.getD, hj, least] using this
theorem least_mem {l : List Int} (h : 0 < l.length) : least l ∈ l := minTo_mem h _ (Nat.le_refl _)
def riseTo : Nat → List Int → List Int
  | 0, _ => []
  | n + 1, l => if l.length = 0 then [] else least l :: riseTo n (l.erase (least l))
/-- The same numbers, rising. -/
def rise (l : List Int) : List Int := riseTo l.length l
theorem riseTo_perm : ∀ n (l : List Int), l.length = n → (riseTo n l).Perm l
  | 0, l, h => by have := List.eq_nil_of_length_eq_zero h; subst this; exact List.Perm.nil
  | n + 1, l, h => by
    unfold riseTo
    rw [if_neg (by omega)]
    have hm := least_mem (l := l) (by omega)
    have he : (l.erase (least l)).length = n := by rw [List.length_erase_of_mem hm]; omega
    exact ((riseTo_perm n _ he).cons _).trans (List.perm_cons_erase hm).symm
theorem riseTo_up : ∀ n (l : List Int), l.length = n → (riseTo n l).Pairwise (· ≤ ·)
  | 0, _, _ => List.Pairwise.nil
  | n + 1, l, h => by
    unfold riseTo
    rw [if_neg (by omega)]
    have hm := least_mem (l := l) (by omega)
    have he : (l.erase (least l)).length = n := by rw [List.length_erase_of_mem hm]; omega
    exact List.pairwise_cons.2 ⟨fun x hx => least_le x (List.mem_of_mem_erase ((riseTo_perm n _ he).mem_iff.1 hx)), riseTo_up n _ he⟩
theorem rise_perm (l : List Int) : (rise l).Perm l := riseTo_perm _ l rfl
theorem rise_up (l : List Int) : (rise l).Pairwise (· ≤ ·) := riseTo_up _ l rfl
/-- A strictly rising list with the same numbers is the one. -/
theorem rise_eq {l m : List Int} (hm : m.Pairwise (· < ·)) (hp : m.Perm l) : rise l = m := by
  have h1 := (rise_perm l).trans hp.symm
  have hn : (rise l).Nodup := h1.nodup_iff.2 (hm.imp (fun h => by omega))
  have h2 : (rise l).Pairwise (· < ·) := by
    have := (rise_up l).and hn
    exact this.imp (fun ⟨a, b⟩ => by omega)
  exact h1.eq_of_pairwise (fun a b _ _ h1 h2 => by omega) h2 hm
theorem erase_take {l : List Int} {n : Int} {k : Nat} (hk : k < l.length) : (l.take (k + 1)).erase n = if nth l k = n ∧ n ∉ l.take k then (l.take k).erase n else (l.take k).erase n ++ [nth l k] := by
  have h1 : l.take (k + 1) = l.take k ++ [nth l k] := by
    rw [List.take_add_one, List.getElem?_eq_getElem hk]
    simp [nth, List.getD, hk]
  rw [h1, List.erase_append]
  by_cases hm : n ∈ l.take k
  · rw [if_pos hm, if_neg (fun h => h.2 hm)]
  · rw [if_neg hm]
    by_cases he : nth l k = n
    · rw [if_pos ⟨he, hm⟩, he, List.erase_of_not_mem hm]
      simp
    · rw [if_neg (fun h => he h.1), List.erase_of_not_mem hm]
      congr 1
      rw [List.erase_of_not_mem (by simpa using fun h => he h.symm)]
theorem mem_take_succ {l : List Int} {n : Int} {k : Nat} (hk : k < l.length) : n ∈ l.take (k + 1) ↔ n ∈ l.take k ∨ nth l k = n := by
  rw [List.take_add_one, List.getElem?_eq_getElem hk]
  have : nth l k = l[k] := by simp [nth, List.getD, hk]
  rw [this]
  simp only [Option.toList_some, List.mem_append, List.mem_singleton]
  constructor
  · rintro (h | h)
    · exact .inl h
    · exact .inr h.symm
  · rintro (h | h)
    · exact .inl h
    · exact .inr h.symm
/-- What the rounds know of a row that grows. -/
structure RiL (wB wr : World) (u : Value) (l : List Int) : Prop where
  own : Own wr wB.heap.size 3 u l
  fr : Fr [] wB wr
set_option maxRecDepth 100000 in
set_option maxHeartbeats 1000000 in
theorem without_any (w : World) (v : Value) (g : Nat) (l : List Int) (n : Int) (h : Sl w v g l) (hl : l.length < 900000) :
    Calls Tryd.prog 55 #[v, .int .i64 n] w (NewRow (l.erase n) w) := by
  obtain ⟨A, o, c, rfl, -, hA, hc⟩ := h.form
  have HA := Lib.hid hA
  have HC := Lib.hid (fun W (hW : Fr [] w W) i (hi : i < l.length) => hW.cell (hc i hi) (by simp))
  have HE := Lib.hid (fun k (hk : k < l.length) => erase_take (n := n) hk)
  have HM := Lib.hid (fun k (hk : k < l.length) => mem_take_succ (n := n) hk)
  clear hA hc h
  have HI0 : Hid (RiL w w (.slice none 0 0) ((l.take 0).erase n)) := ⟨Own.nil _ _ _, Fr.refl _ _⟩
  go_enter Tryd.func55, Tryd.ntmps55
  go_wp2
  go_loopw [5, 6, 7] (fun u gn i wr => ∃ k : Nat, k ≤ l.length ∧ i = .int .i64 k ∧ ∃ b : Bool, gn = .bool b ∧ Hid (b = true ↔ n ∈ l.take k) ∧ Hid (RiL w wr u ((l.take k).erase n))) (fun _ _ i _ => l.length - (intOf i).toNat)
  case atStart => exact ⟨0, Nat.zero_le _, rfl, false, rfl, (by show _ ↔ _; simp), HI0⟩
  case round =>
    clear HI0
    obtain ⟨k, hk, rfl, b, rfl, hb, hI⟩ := hrel
    by_cases hlt : k < l.length
    · obtain rfl := HA.out (by omega)
      have q := HC.out wr hI.out.fr k hlt
      have kI : (k : Int) < l.length := by omega
      have k0 : (0 : Int) ≤ k := by omega
      have HE2 := Lib.hid (HE.out k hlt)
      have HM2 := Lib.hid (HM.out k hlt)
      have hll : ((l.take k).erase n).length < 1000000 := by
        have := List.length_erase_le (a := n) (l := l.take k)
        rw [List.length_take] at this
        omega
      obtain ⟨y, hy⟩ : ∃ y, nth l k = y := ⟨_, rfl⟩
      rw [hy] at q HE2 HM2
      clear hy
      obtain ⟨A5, c5, hu⟩ := hI.out.own.form0
      subst hu
      have hsz := hI.out.fr.size
      by_cases he : y = n
      · have hbe : (y == n) = true := beq_iff_eq.2 he
        cases b with
        | false =>
          have hno : n ∉ l.take k := fun hm => by have := hb.out.2 hm; cases this
          have HP := Lib.hid (HE2.out.trans (if_pos ⟨he, hno⟩))
          have HB2 : Hid (true = true ↔ n ∈ l.take (k + 1)) := (by show _ ↔ _; rw [HM2.out]; exact ⟨fun _ => .inr he, fun _ => rfl⟩)
          clear he hno hb HE2 HM2
          go_wp2
          go_roundw
          case rel => exact ⟨k + 1, by omega, by go_num, true, rfl, HB2, by show RiL _ _ _ _; rw [HP.out]; exact hI.out⟩
          case measure => (simp [intOf]; try omega)
        | true =>
          have hyes := hb.out.1 rfl
          have HP := Lib.hid (HE2.out.trans (if_neg (fun h => h.2 hyes)))
          have HB2 : Hid (true = true ↔ n ∈ l.take (k + 1)) := (by show _ ↔ _; rw [HM2.out]; exact ⟨fun _ => .inl hyes, fun _ => rfl⟩)
          clear he hyes hb HE2 HM2
          go_wp2_with (at_builtin; refine wpList_push_int (wr := wr) Tryd.intT rfl _ _ rfl w.heap.size _ _ rfl hI.out.own rfl hll hsz ?_; intro v' w2 h1 _ h3; have HI2 : Hid (RiL w w2 v' ((l.take k).erase n ++ [y])) := ⟨h1, hI.out.fr.below_step h3 (Nat.le_refl _)⟩; clear h1 h3)
          go_roundw
          case rel => exact ⟨k + 1, by omega, by go_num, true, rfl, HB2, by show RiL _ _ _ _; rw [HP.out]; exact HI2.out⟩
          case measure => (simp [intOf]; try omega)
      · have hbe : (y == n) = false := beq_eq_false_iff_ne.2 he
        have HP := Lib.hid (HE2.out.trans (if_neg (fun h => he h.1)))
        have HB2 : Hid (b = true ↔ n ∈ l.take (k + 1)) := (by show _ ↔ _; rw [HM2.out, hb.out]; exact ⟨fun h => .inl h, fun h => h.resolve_right he⟩)
        clear he hb HE2 HM2
        go_wp2_with (at_builtin; refine wpList_push_int (wr := wr) Tryd.intT rfl _ _ rfl w.heap.size _ _ rfl hI.out.own rfl hll hsz ?_; intro v' w2 h1 _ h3; have HI2 : Hid (RiL w w2 v' ((l.take k).erase n ++ [y])) := ⟨h1, hI.out.fr.below_step h3 (Nat.le_refl _)⟩; clear h1 h3)
        go_roundw
        case rel => exact ⟨k + 1, by omega, by go_num, b, rfl, HB2, by show RiL _ _ _ _; rw [HP.out]; exact HI2.out⟩
        case measure => (simp [intOf]; try omega)
    · obtain rfl : k = l.length := by omega
      have kI : ¬ (l.length : Int) < l.length := by omega
      have HI := Lib.hid hI.out
      rw [List.take_length] at HI
      clear hI hlt hb
      go_wp2
      go_ret
      exact HI.out.own.newRow (Nat.le_refl _) HI.out.fr
/-- What the rounds of Rising know. -/
structure RiS (L : List Int) (w wr : World) (out v : Value) (o cur : List Int) : Prop where
  own : Own wr w.heap.size 3 out o
  sl : ∃ g, Sl wr v g cur ∧ (∀ b, out.ownBlock = some b → b ≠ g ∨ cur = [])
  fr : Fr [] w wr
  all : o ++ rise cur = rise L
  len : o.length + cur.length = L.length
theorem rise_cons {l : List Int} (h : 0 < l.length) : rise l = least l :: rise (l.erase (least l)) := by
  have hm := least_mem h
  unfold rise
  obtain ⟨n, hn⟩ : ∃ n, l.length = n + 1 := ⟨l.length - 1, by omega⟩
  rw [List.length_erase_of_mem hm, hn]
  conv => lhs; unfold riseTo
  rw [if_neg (by omega), Nat.add_sub_cancel]
theorem RiS.push {L : List Int} {w wr w2 : World} {out v v' : Value} {o cur : List Int} {y : Int} {n : Nat} (h : RiS L w wr out v o cur) (h1 : Own w2 w.heap.size 3 v' (o ++ [y])) (h2 : wr.grownBy w2 out.ownBlock) (h3 : Moved n out v') (hn : wr.heap.size ≤ n) :
    Fr [] w w2 ∧ ∃ g, Sl w2 v g cur := by
  obtain ⟨g, hs, hg⟩ := h.sl
  have hf := fr_grown h2
  refine ⟨h.fr.step hf (fun x hx => .inr ?_), ?_⟩
  · have hx' : out.ownBlock = some x := by cases ho : out.ownBlock with
      | none => rw [ho] at hx; simp at hx
      | some b => rw [ho] at hx; simp at hx; rw [hx]
    exact (h.own.ge x hx').1
  · by_cases hc : cur = []
    · refine ⟨g, ?_⟩
      rcases hs with hs | ⟨oo, c, rfl, _, _, _⟩
      · exact .inl hs
      · exact .inl ⟨hc, _, c, by rw [hc]; rfl⟩
    · refine ⟨g, hs.fr hf (fun hx => ?_)⟩
      cases ho : out.ownBlock with
      | none => rw [ho] at hx; simp at hx
      | some b =>
        rw [ho] at hx
        simp at hx
        rcases hg b ho with h | h
        · exact h hx.symm
        · exact hc h
set_option maxRecDepth 100000 in
set_option maxHeartbeats 2000000 in
theorem rising_any (w : World) (v : Value) (g : Nat) (L : List Int) (h : Sl w v g L) (hg : g < w.heap.size ∨ L = []) (hl : L.length < 900000) :
    Calls Tryd.prog 15 #[v] w (NewRow (rise L) w) := by
  obtain ⟨A0, o0, c0, rfl, -, -, -⟩ := h.form
  have HS0 : Hid (RiS L w w (.slice none 0 0) (.slice A0 L.length c0) [] L) := ⟨Own.nil _ _ _, ⟨g, h, fun b hb => by cases hb⟩, Fr.refl _ _, by simp, by simp⟩
  clear h hg
  go_enter Tryd.func15, Tryd.ntmps15
  go_wp2
  go_loopg [0, 3] L.length (fun n lv out wr => ∃ (o cur : List Int) (A : Option Addr) (c : Nat), Hid (cur.length ≤ n) ∧ lv = .slice A cur.length c ∧ Hid (RiS L w wr out lv o cur))
  case atStart => exact ⟨[], L, A0, c0, Nat.le_refl _, rfl, HS0⟩
  case round =>
    clear HS0
    obtain ⟨o, cur, A, c, hn, rfl, hR⟩ := hrel
    have hlen := hR.out.len
    by_cases h0 : 0 < cur.length
    · have h0I : (0 : Int) < cur.length := by omega
      have h0b : decide ((0 : Int) < (cur.length : Int)) = true := decide_eq_true h0I
      obtain ⟨gc, hsl, -⟩ := hR.out.sl
      have HSL := Lib.hid hsl
      obtain ⟨A', oc, cc, eA, -, hA, hc⟩ := hsl.form
      injection eA with eA1 _ eA3
      subst eA1 eA3
      obtain rfl := hA h0
      have HC := Lib.hid hc
      have q0 := hc 0 h0
      rw [Nat.add_zero] at q0
      have HRC := Lib.hid (rise_cons h0)
      have hcm : (cur.length : Int) ≤ 900000 := by omega
      clear hA hc hsl
      go_wp2_with fail
      go_loop [4, 5] (fun m i => ∃ k : Nat, k ≤ cur.length ∧ i = .int .i64 k ∧ m = .int .i64 (minTo cur k)) (fun _ i => cur.length - (intOf i).toNat)
      case atStart => exact ⟨0, Nat.zero_le _, rfl, rfl⟩
      case round =>
        obtain ⟨k, hk, rfl, rfl⟩ := hrel
        by_cases hlt : k < cur.length
        · have q := HC.out k hlt
          have kI : (k : Int) < cur.length := by omega
          have k0 : (0 : Int) ≤ k := by omega
          have HM : Hid (minTo cur (k + 1) = if nth cur k < minTo cur k then nth cur k else minTo cur k) := rfl
          generalize nth cur k = y at *
          generalize hz : minTo cur k = z at *
          clear hz
          by_cases hy : y < z
          · have HM2 := Lib.hid (HM.out.trans (if_pos hy))
            clear HM
            go_wp2
            go_round
            case rel => exact ⟨k + 1, by omega, by go_num, by rw [HM2.out]⟩
            case measure => (simp [intOf]; try omega)
          · have HM2 := Lib.hid (HM.out.trans (if_neg hy))
            clear HM
            go_wp2
            go_round
            case rel => exact ⟨k + 1, by omega, by go_num, by rw [HM2.out]⟩
            case measure => (simp [intOf]; try omega)
        · obtain rfl : k = cur.length := by omega
          have kI : ¬ (cur.length : Int) < cur.length := by omega
          obtain ⟨A3, c3, ho⟩ := hR.out.own.form0
          subst ho
          have HE : Hid (rise cur = minTo cur cur.length :: rise (cur.erase (minTo cur cur.length))) := HRC.out
          have HLE : Hid ((cur.erase (minTo cur cur.length)).length = cur.length - 1) := List.length_erase_of_mem (least_mem h0)
          have hol : o.length < 1000000 := by omega
          have hsz := hR.out.fr.size
          generalize minTo cur cur.length = y at *
          go_wp2_with (first
            | (at_builtin; refine wpList_push_int2 (wr := wr) Tryd.intT rfl _ _ rfl w.heap.size _ o rfl hR.out.own rfl hol hsz ?_; intro v' w2 h1 h2 h3; have hp := hR.out.push h1 h2 h3 (Nat.le_succ _); obtain ⟨hp1, gc', hp2⟩ := hp; have HF2 := Lib.hid hp1; have HS2 := Lib.hid hp2; have HO2 := Lib.hid h1; clear h1 h2 h3 hp1 hp2)
            | (go_at_call 55; (with_reducible refine useC (without_any _ _ gc' cur y HS2.out (by omega)) ?_); rintro e w3 hn3; obtain ⟨v3, g3, rfl, hg3, hs3, hf3⟩ := hn3; obtain ⟨A4, o4, c4, rfl, -, -, -⟩ := hs3.form; have HR3 : Hid (RiS L w w3 v' (.slice A4 (cur.erase y).length c4) (o ++ [y]) (cur.erase y)) := ⟨HO2.out.kept hf3 (by simp), ⟨g3, hs3, fun b hb => (hg3.imp (fun h => by have := (HO2.out.ge b hb).2; omega) id)⟩, HF2.out.trans hf3, (by rw [← hR.out.all, HE.out]; simp), (by rw [List.length_append, List.length_singleton, HLE.out]; omega)⟩; clear hg3 hs3 hf3))
          go_roundg (cur.length - 1)
          case measure => have := hn.out; omega
          case rel => exact ⟨_, _, A4, c4, by show _ ≤ _; rw [HLE.out]; exact Nat.le_refl _, rfl, HR3⟩
    · have h0I : ¬ (0 : Int) < cur.length := by omega
      have hnil : cur = [] := List.eq_nil_of_length_eq_zero (by omega)
      have HA := Lib.hid hR.out
      rw [hnil] at HA
      clear hR h0 hnil
      go_wp2
      go_ret
      have ha := HA.out.all
      rw [show rise ([] : List Int) = [] from rfl, List.append_nil] at ha
      rw [← ha]
      exact HA.out.own.newRow (Nat.le_refl _) HA.out.fr
end Go.Proofs.YtokbhiokcoldbaaDoor
/- Rows that came in, in a later world. No program in sight. -/
namespace Go.Proofs.YtokbhiokcoldbaaDoor
open Go.RowKit
theorem RwF.wider {B C : Nat} {w : World} {A : Option Addr} {g o : Nat} {ls : List (List Int)} (h : RwF B w A g o ls) (hB : B ≤ C) : RwF C w A g o ls :=
  ⟨fun h0 => ⟨(h.1 h0).1, Nat.lt_of_lt_of_le (h.1 h0).2 hB⟩, fun i hi => by
    obtain ⟨u, k, h1, h2, h3, h4⟩ := h.2 i hi
    exact ⟨u, k, h1, h2.imp_left (fun hk => Nat.lt_of_lt_of_le hk hB), h3, h4⟩⟩
theorem Rw.mono1 {w w' : World} {v : Value} {ls : List (List Int)} (h : Rw w.heap.size w v ls) (hf : Fr [] w w') : Rw w'.heap.size w' v ls := by
  obtain ⟨A, g, o, c, h1, h2, h3⟩ := h.below hf.below
  exact ⟨A, g, o, c, h1, h2, h3.wider hf.size⟩
end Go.Proofs.YtokbhiokcoldbaaDoor
