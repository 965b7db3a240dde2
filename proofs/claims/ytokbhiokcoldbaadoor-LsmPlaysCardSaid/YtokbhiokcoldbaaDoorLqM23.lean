/- The contract of platterholdsame.Sum at a row of small numbers. -/
import Derived.Deep.LoopGhost
import Derived.Test.YtokbhiokcoldbaaDoorLqM02
import Derived.Test.YtokbhiokcoldbaaDoorLqM04
import Derived.Test.YtokbhiokcoldbaaDoorLqM19
import Derived.Test.YtokbhiokcoldbaaDoorLqM22
namespace Go.Proofs.YtokbhiokcoldbaaDoor
open Go.RowKit

def sumL (l : List Int) : Int := l.foldr (· + ·) 0
theorem sumL_append (l m : List Int) : sumL (l ++ m) = sumL l + sumL m := by
  induction l with
  | nil => simp [sumL]
  | cons a l ih => simp only [sumL, List.cons_append, List.foldr_cons] at ih ⊢; omega
theorem sumL_le (l : List Int) (h : ∀ x ∈ l, 0 ≤ x ∧ x ≤ 100000) : 0 ≤ sumL l ∧ sumL l ≤ l.length * 100000 := by
  induction l with
  | nil => simp [sumL]
  | cons a l ih =>
    have h1 := ih (fun x hx => h x (by simp [hx]))
    have h2 := h a (by simp)
    have e : sumL (a :: l) = a + sumL l := rfl
    rw [e, List.length_cons]; omega
theorem sum_any (w : World) (v : Value) (g : Nat) (xs : List Int) (h : Sl w v g xs) (hl : xs.length ≤ 1000) (hx : ∀ x ∈ xs, 0 ≤ x ∧ x ≤ 100000) :
    Calls Tryd.prog 40 #[v] w fun e w' => e = .returned (.int .i64 (sumL xs)) ∧ w = w' := by
  obtain ⟨A, o, c, rfl, hm, hA, hc⟩ := h.form
  clear h
  have HA := Lib.hid hA
  have HC := Lib.hid hc
  have HX := Lib.hid hx
  clear hA hc hx
  go_enter Tryd.func40, Tryd.ntmps40
  go_wp2
  go_loop [3, 4] (fun s i => ∃ k : Nat, k ≤ xs.length ∧ i = .int .i64 k ∧ ∃ x : Int, s = .int .i64 x ∧ Hid (x = sumL (xs.take k))) (fun _ i => xs.length - (intOf i).toNat)
  case atStart => exact ⟨0, Nat.zero_le _, rfl, 0, rfl, rfl⟩
  case round =>
    obtain ⟨k, hk, rfl, x, rfl, hs⟩ := hrel
    by_cases hlt : k < xs.length
    · obtain rfl := HA.out (by omega)
      have hcell := HC.out k hlt
      have hb := sumL_le (xs.take k) (fun x hx => HX.out x (List.mem_of_mem_take hx))
      have hb2 := HX.out _ (getD_mem hlt)
      have h1 : (xs.take k).length ≤ 1000 := by rw [List.length_take]; omega
      have hy : 0 ≤ x ∧ x ≤ 100000000 := by rw [hs.out]; omega
      have hsn : Hid (sumL (xs.take (k + 1)) = x + nth xs k) := by
        show _ = _
        rw [List.take_succ_eq_append_getElem hlt, sumL_append, hs.out]
        simp [sumL, nth, List.getD, hlt]
      obtain ⟨hy0, hy1⟩ := hy
      obtain ⟨hb20, hb21⟩ := hb2
      clear hb h1
      generalize nth xs k = y at *
      go_wp2
      go_round
      case rel => exact ⟨k + 1, by omega, by go_num, _, rfl, by show _ = _; rw [hsn.out]⟩
      case measure => simp [intOf]; omega
    · have e : xs.take k = xs := List.take_of_length_le (by omega)
      rw [e] at hs
      clear e
      go_wp2
      go_ret
      exact ⟨ret_int hs.out, rfl⟩
end Go.Proofs.YtokbhiokcoldbaaDoor
/- How many entries the runs have; the keys rise. -/
namespace Go.Proofs.YtokbhiokcoldbaaDoor
open Go.RowKit

namespace Ls
theorem lens_sum : ∀ (rs : List (List E)), sumL (rs.map fun l => (l.length : Int)) = (rs.flatten.length : Int)
  | [] => rfl
  | l :: r => by
    have e : sumL ((l :: r).map fun l => (l.length : Int)) = (l.length : Int) + sumL (r.map fun l => (l.length : Int)) := rfl
    rw [e, lens_sum r, List.flatten_cons, List.length_append]
    omega
theorem lens_nth (m : M) (i : Nat) (h : i < m.runs.length) : nth (lens m) i = ((m.runs.getD i []).length : Int) := by
  unfold nth lens
  simp [List.getD, h]
theorem lens_len (m : M) : (lens m).length = m.runs.length := by unfold lens; rw [List.length_map]
theorem lens_small {m : M} (h : OK m) : ∀ x ∈ lens m, 0 ≤ x ∧ x ≤ 100000 := fun x hx => by
  unfold lens at hx
  obtain ⟨l, hl, rfl⟩ := List.mem_map.1 hx
  have h1 := (List.sublist_flatten_of_mem hl).length_le
  have h2 := h.tot
  have h3 := h.many
  omega
theorem keys_nth (m : M) (i : Nat) (h : i + 1 < (keys m).length) : nth (keys m) i < nth (keys m) (i + 1) := by
  have := List.pairwise_iff_getElem.1 (keys_up m) i (i + 1) (by omega) h (by omega)
  simpa [nth, List.getD, h, show i < (keys m).length by omega] using this
end Ls
end Go.Proofs.YtokbhiokcoldbaaDoor

/- The contracts of platterholdref1.Without and Rising. -/
namespace Go.Proofs.YtokbhiokcoldbaaDoor
open Go.RowKit

/-- The least of the first i numbers (and the first one). -/
def minTo (l : List Int) : Nat → Int
  | 0 => nth l 0
  | i + 1 => if nth l i < minTo l i then nth l i else minTo l i
theorem minTo_le (l : List Int) : ∀ i j, j < i → minTo l i ≤ nth l j
  | 0, j, h => by omega
  | i + 1, j, h => by
    have ih := minTo_le l i j
    by_cases hj : j = i
    · subst hj; unfold minTo; split <;> omega
    · have := ih (by omega); unfold minTo; split <;> omega
theorem minTo_mem {l : List Int} (h0 : 0 < l.length) : ∀ i, i ≤ l.length → minTo l i ∈ l
  | 0, _ => by
    have : nth l 0 = l[0] := by simp [nth, List.getD, h0]
    unfold minTo; rw [this]; exact List.getElem_mem h0
  | i + 1, h => by
    unfold minTo
    split
    · have : nth l i = l[i] := by simp [nth, List.getD, show i < l.length by omega]
      rw [this]; exact List.getElem_mem _
    · exact minTo_mem h0 i (by omega)
def least (l : List Int) : Int := minTo l l.length
theorem least_le {l : List Int} : ∀ x ∈ l, least l ≤ x := fun x hx => by
  obtain ⟨j, hj, rfl⟩ := List.getElem_of_mem hx
  have := minTo_le l l.length j hj
  simpa [nth, List.getD, hj, least] using this
theorem least_mem {l : List Int} (h : 0 < l.length) : least l ∈ l := minTo_mem h _ (Nat.le_refl _)
def riseTo : Nat → List Int → List Int
  | 0, _ => []
  | n + 1, l => if l.length = 0 then [] else least l :: riseTo n (l.erase (least l))
/-- The same numbers, rising. -/
def rise (l : List Int) : List Int := riseTo l.length l
theorem riseTo_perm : ∀ n (l : List Int), l.length = n → (riseTo n l).Perm l
  | 0, l, h => by have := List.eq_nil_of_length_eq_zero h; subst this; exact List.Perm.nil
  | n + 1, l, h => by
    unfold riseTo
    rw [if_neg (by omega)]
    have hm := least_mem (l := l) (by omega)
    have he : (l.erase (least l)).length = n := by rw [List.length_erase_of_mem hm]; omega
    exact ((riseTo_perm n _ he).cons _).trans (List.perm_cons_erase hm).symm
theorem riseTo_up : ∀ n (l : List Int), l.length = n → (riseTo n l).Pairwise (· ≤ ·)
  | 0, _, _ => List.Pairwise.nil
  | n + 1, l, h => by
    unfold riseTo
    rw [if_neg (by omega)]
    have hm := least_mem (l := l) (by omega)
    have he : (l.erase (least l)).length = n := by rw [List.length_erase_of_mem hm]; omega
    exact List.pairwise_cons.2 ⟨fun x hx => least_le x (List.mem_of_mem_erase ((riseTo_perm n _ he).mem_iff.1 hx)), riseTo_up n _ he⟩
theorem rise_perm (l : List Int) : (rise l).Perm l := riseTo_perm _ l rfl
theorem rise_up (l : List Int) : (rise l).Pairwise (· ≤ ·) := riseTo_up _ l rfl
/-- A strictly rising list with the same numbers is the one. -/
theorem rise_eq {l m : List Int} (hm : m.Pairwise (· < ·)) (hp : m.Perm l) : rise l = m := by
  have h1 := (rise_perm l).trans hp.symm
  have hn : (rise l).Nodup := h1.nodup_iff.2 (hm.imp (fun h => by omega))
  have h2 : (rise l).Pairwise (· < ·) := by
    have := (rise_up l).and hn
    exact this.imp (fun ⟨a, b⟩ => by omega)
  exact h1.eq_of_pairwise (fun a b _ _ h1 h2 => by omega) h2 hm
theorem erase_take {l : List Int} {n : Int} {k : Nat} (hk : k < l.length) : (l.take (k + 1)).erase n = if nth l k = n ∧ n ∉ l.take k then (l.take k).erase n else (l.take k).erase n ++ [nth l k] := by
  have h1 : l.take (k + 1) = l.take k ++ [nth l k] := by
    rw [List.take_add_one, List.getElem?_eq_getElem hk]
    simp [nth, List.getD, hk]
  rw [h1, List.erase_append]
  by_cases hm : n ∈ l.take k
  · rw [if_pos hm, if_neg (fun h => h.2 hm)]
  · rw [if_neg hm]
    by_cases he : nth l k = n
    · rw [if_pos ⟨he, hm⟩, he, List.erase_of_not_mem hm]
      simp
    · rw [if_neg (fun h => he h.1), List.erase_of_not_mem hm]
      congr 1
      rw [List.erase_of_not_mem (by simpa using fun h => he h.symm)]
theorem mem_take_succ {l : List Int} {n : Int} {k : Nat} (hk : k < l.length) : n ∈ l.take (k + 1) ↔ n ∈ l.take k ∨ nth l k = n := by
  rw [List.take_add_one, List.getElem?_eq_getElem hk]
  have : nth l k = l[k] := by simp [nth, List.getD, hk]
  rw [this]
  simp only [Option.toList_some, List.mem_append, List.mem_singleton]
  constructor
  · rintro (h | h)
    · exact .inl h
    · exact .inr h.symm
  · rintro (h | h)
    · exact .inl h
    · exact .inr h.symm
/-- What the rounds know of a row that grows. -/
structure RiL (wB wr : World) (u : Value) (l : List Int) : Prop where
  own : Own wr wB.heap.size 3 u l
  fr : Fr [] wB wr
set_option maxRecDepth 100000 in
set_option maxHeartbeats 1000000 in
theorem without_any (w : World) (v : Value) (g : Nat) (l : List Int) (n : Int) (h : Sl w v g l) (hl : l.length < 900000) :
    Calls Tryd.prog 55 #[v, .int .i64 n] w (NewRow (l.erase n) w) := by
  obtain ⟨A, o, c, rfl, -, hA, hc⟩ := h.form
  have HA := Lib.hid hA
  have HC := Lib.hid (fun W (hW : Fr [] w W) i (hi : i < l.length) => hW.cell (hc i hi) (by simp))
  have HE := Lib.hid (fun k (hk : k < l.length) => erase_take (n := n) hk)
  have HM := Lib.hid (fun k (hk : k < l.length) => mem_take_succ (n := n) hk)
  clear hA hc h
  have HI0 : Hid (RiL w w (.slice none 0 0) ((l.take 0).erase n)) := ⟨Own.nil _ _ _, Fr.refl _ _⟩
  go_enter Tryd.func55, Tryd.ntmps55
  go_wp2
  go_loopw [5, 6, 7] (fun u gn i wr => ∃ k : Nat, k ≤ l.length ∧ i = .int .i64 k ∧ ∃ b : Bool, gn = .bool b ∧ Hid (b = true ↔ n ∈ l.take k) ∧ Hid (RiL w wr u ((l.take k).erase n))) (fun _ _ i _ => l.length - (intOf i).toNat)
  case atStart => exact ⟨0, Nat.zero_le _, rfl, false, rfl, (by show _ ↔ _; simp), HI0⟩
  case round =>
    clear HI0
    obtain ⟨k, hk, rfl, b, rfl, hb, hI⟩ := hrel
    by_cases hlt : k < l.length
    · obtain rfl := HA.out (by omega)
      have q := HC.out wr hI.out.fr k hlt
      have kI : (k : Int) < l.length := by omega
      have k0 : (0 : Int) ≤ k := by omega
      have HE2 := Lib.hid (HE.out k hlt)
      have HM2 := Lib.hid (HM.out k hlt)
      have hll : ((l.take k).erase n).length < 1000000 := by
        have := List.length_erase_le (a := n) (l := l.take k)
        rw [List.length_take] at this
        omega
      obtain ⟨y, hy⟩ : ∃ y, nth l k = y := ⟨_, rfl⟩
      rw [hy] at q HE2 HM2
      clear hy
      obtain ⟨A5, c5, hu⟩ := hI.out.own.form0
      subst hu
      have hsz := hI.out.fr.size
      by_cases he : y = n
      · have hbe : (y == n) = true := beq_iff_eq.2 he
        cases b with
        | false =>
          have hno : n ∉ l.take k := fun hm => by have := hb.out.2 hm; cases this
          have HP := Lib.hid (HE2.out.trans (if_pos ⟨he, hno⟩))
          have HB2 : Hid (true = true ↔ n ∈ l.take (k + 1)) := (by show _ ↔ _; rw [HM2.out]; exact ⟨fun _ => .inr he, fun _ => rfl⟩)
          clear he hno hb HE2 HM2
          go_wp2
          go_roundw
          case rel => exact ⟨k + 1, by omega, by go_num, true, rfl, HB2, by show RiL _ _ _ _; rw [HP.out]; exact hI.out⟩
          case measure => (simp [intOf]; try omega)
        | true =>
          have hyes := hb.out.1 rfl
          have HP := Lib.hid (HE2.out.trans (if_neg (fun h => h.2 hyes)))
          have HB2 : Hid (true = true ↔ n ∈ l.take (k + 1)) := (by show _ ↔ _; rw [HM2.out]; exact ⟨fun _ => .inl hyes, fun _ => rfl⟩)
          clear he hyes hb HE2 HM2
          go_wp2_with (at_builtin; refine wpList_push_int (wr := wr) Tryd.intT rfl _ _ rfl w.heap.size _ _ rfl hI.out.own rfl hll hsz ?_; intro v' w2 h1 _ h3; have HI2 : Hid (RiL w w2 v' ((l.take k).erase n ++ [y])) := ⟨h1, hI.out.fr.below_step h3 (Nat.le_refl _)⟩; clear h1 h3)
          go_roundw
          case rel => exact ⟨k + 1, by omega, by go_num, true, rfl, HB2, by show RiL _ _ _ _; rw [HP.out]; exact HI2.out⟩
          case measure => (simp [intOf]; try omega)
      · have hbe : (y == n) = false := beq_eq_false_iff_ne.2 he
        have HP := Lib.hid (HE2.out.trans (if_neg (fun h => he h.1)))
        have HB2 : Hid (b = true ↔ n ∈ l.take (k + 1)) := (by show _ ↔ _; rw [HM2.out, hb.out]; exact ⟨fun h => .inl h, fun h => h.resolve_right he⟩)
        clear he hb HE2 HM2
        go_wp2_with (at_builtin; refine wpList_push_int (wr := wr) Tryd.intT rfl _ _ rfl w.heap.size _ _ rfl hI.out.own rfl hll hsz ?_; intro v' w2 h1 _ h3; have HI2 : Hid (RiL w w2 v' ((l.take k).erase n ++ [y])) := ⟨h1, hI.out.fr.below_step h3 (Nat.le_refl _)⟩; clear h1 h3)
        go_roundw
        case rel => exact ⟨k + 1, by omega, by go_num, b, rfl, HB2, by show RiL _ _ _ _; rw [HP.out]; exact HI2.out⟩
        case measure => (simp [intOf]; try omega)
    · obtain rfl : k = l.length := by omega
      have kI : ¬ (l.length : Int) < l.length := by omega
      have HI := Lib.hid hI.out
      rw [List.take_length] at HI
      clear hI hlt hb
      go_wp2
      go_ret
      exact HI.out.own.newRow (Nat.le_refl _) HI.out.fr
/-- What the rounds of Rising know. -/
structure RiS (L : List Int) (w wr : World) (out v : Value) (o cur : List Int) : Prop where
  own : Own wr w.heap.size 3 out o
  sl : ∃ g, Sl wr v g cur ∧ (∀ b, out.ownBlock = some b → b ≠ g ∨ cur = [])
  fr : Fr [] w wr
  all : o ++ rise cur = rise L
  len : o.length + cur.length = L.length
theorem rise_cons {l : List Int} (h : 0 < l.length) : rise l = least l :: rise (l.erase (least l)) := by
  have hm := least_mem h
  unfold rise
  obtain ⟨n, hn⟩ : ∃ n, l.length = n + 1 := ⟨l.length - 1, by omega⟩
  rw [List.length_erase_of_mem hm, hn]
  conv => lhs; unfold riseTo
  rw [if_neg (by omega), Nat.add_sub_cancel]
theorem RiS.push {L : List Int} {w wr w2 : World} {out v v' : Value} {o cur : List Int} {y : Int} {n : Nat} (h : RiS L w wr out v o cur) (h1 : Own w2 w.heap.size 3 v' (o ++ [y])) (h2 : wr.grownBy w2 out.ownBlock) (h3 : Moved n out v') (hn : wr.heap.size ≤ n) :
    Fr [] w w2 ∧ ∃ g, Sl w2 v g cur := by
  obtain ⟨g, hs, hg⟩ := h.sl
  have hf := fr_grown h2
  refine ⟨h.fr.step hf (fun x hx => .inr ?_), ?_⟩
  · have hx' : out.ownBlock = some x := by cases ho : out.ownBlock with
      | none => rw [ho] at hx; simp at hx
      | some b => rw [ho] at hx; simp at hx; rw [hx]
    exact (h.own.ge x hx').1
  · by_cases hc : cur = []
    · refine ⟨g, ?_⟩
      rcases hs with hs | ⟨oo, c, rfl, _, _, _⟩
      · exact .inl hs
      · exact .inl ⟨hc, _, c, by rw [hc]; rfl⟩
    · refine ⟨g, hs.fr hf (fun hx => ?_)⟩
      cases ho : out.ownBlock with
      | none => rw [ho] at hx; simp at hx
      | some b =>
        rw [ho] at hx
        simp at hx
        rcases hg b ho with h | h
        · exact h hx.symm
        · exact hc h
set_option maxRecDepth 100000 in
set_option maxHeartbeats 2000000 in
theorem rising_any (w : World) (v : Value) (g : Nat) (L : List Int) (h : Sl w v g L) (hg : g < w.heap.size ∨ L = []) (hl : L.length < 900000) :
    Calls Tryd.prog 15 #[v] w (NewRow (rise L) w) := by
  obtain ⟨A0, o0, c0, rfl, -, -, -⟩ := h.form
  have HS0 : Hid (RiS L w w (.slice none 0 0) (.slice A0 L.length c0) [] L) := ⟨Own.nil _ _ _, ⟨g, h, fun b hb => by cases hb⟩, Fr.refl _ _, by simp, by simp⟩
  clear h hg
  go_enter Tryd.func15, Tryd.ntmps15
  go_wp2
  go_loopg [0, 3] L.length (fun n lv out wr => ∃ (o cur : List Int) (A : Option Addr) (c : Nat), Hid (cur.length ≤ n) ∧ lv = .slice A cur.length c ∧ Hid (RiS L w wr out lv o cur))
  case atStart => exact ⟨[], L, A0, c0, Nat.le_refl _, rfl, HS0⟩
  case round =>
    clear HS0
    obtain ⟨o, cur, A, c, hn, rfl, hR⟩ := hrel
    have hlen := hR.out.len
    by_cases h0 : 0 < cur.length
    · have h0I : (0 : Int) < cur.length := by omega
      have h0b : decide ((0 : Int) < (cur.length : Int)) = true := decide_eq_true h0I
      obtain ⟨gc, hsl, -⟩ := hR.out.sl
      have HSL := Lib.hid hsl
      obtain ⟨A', oc, cc, eA, -, hA, hc⟩ := hsl.form
      injection eA with eA1 _ eA3
      subst eA1 eA3
      obtain rfl := hA h0
      have HC := Lib.hid hc
      have q0 := hc 0 h0
      rw [Nat.add_zero] at q0
      have HRC := Lib.hid (rise_cons h0)
      have hcm : (cur.length : Int) ≤ 900000 := by omega
      clear hA hc hsl
      go_wp2_with fail
      go_loop [4, 5] (fun m i => ∃ k : Nat, k ≤ cur.length ∧ i = .int .i64 k ∧ m = .int .i64 (minTo cur k)) (fun _ i => cur.length - (intOf i).toNat)
      case atStart => exact ⟨0, Nat.zero_le _, rfl, rfl⟩
      case round =>
        obtain ⟨k, hk, rfl, rfl⟩ := hrel
        by_cases hlt : k < cur.length
        · have q := HC.out k hlt
          have kI : (k : Int) < cur.length := by omega
          have k0 : (0 : Int) ≤ k := by omega
          have HM : Hid (minTo cur (k + 1) = if nth cur k < minTo cur k then nth cur k else minTo cur k) := rfl
          generalize nth cur k = y at *
          generalize hz : minTo cur k = z at *
          clear hz
          by_cases hy : y < z
          · have HM2 := Lib.hid (HM.out.trans (if_pos hy))
            clear HM
            go_wp2
            go_round
            case rel => exact ⟨k + 1, by omega, by go_num, by rw [HM2.out]⟩
            case measure => (simp [intOf]; try omega)
          · have HM2 := Lib.hid (HM.out.trans (if_neg hy))
            clear HM
            go_wp2
            go_round
            case rel => exact ⟨k + 1, by omega, by go_num, by rw [HM2.out]⟩
            case measure => (simp [intOf]; try omega)
        · obtain rfl : k = cur.length := by omega
          have kI : ¬ (cur.length : Int) < cur.length := by omega
          obtain ⟨A3, c3, ho⟩ := hR.out.own.form0
          subst ho
          have HE : Hid (rise cur = minTo cur cur.length :: rise (cur.erase (minTo cur cur.length))) := HRC.out
          have HLE : Hid ((cur.erase (minTo cur cur.length)).length = cur.length - 1) := List.length_erase_of_mem (least_mem h0)
          have hol : o.length < 1000000 := by omega
          have hsz := hR.out.fr.size
          generalize minTo cur cur.length = y at *
          go_wp2_with (first
            | (at_builtin; refine wpList_push_int2 (wr := wr) Tryd.intT rfl _ _ rfl w.heap.size _ o rfl hR.out.own rfl hol hsz ?_; intro v' w2 h1 h2 h3; have hp := hR.out.push h1 h2 h3 (Nat.le_succ _); obtain ⟨hp1, gc', hp2⟩ := hp; have HF2 := Lib.hid hp1; have HS2 := Lib.hid hp2; have HO2 := Lib.hid h1; clear h1 h2 h3 hp1 hp2)
            | (go_at_call 55; (with_reducible refine useC (without_any _ _ gc' cur y HS2.out (by omega)) ?_); rintro e w3 hn3; obtain ⟨v3, g3, rfl, hg3, hs3, hf3⟩ := hn3; obtain ⟨A4, o4, c4, rfl, -, -, -⟩ := hs3.form; have HR3 : Hid (RiS L w w3 v' (.slice A4 (cur.erase y).length c4) (o ++ [y]) (cur.erase y)) := ⟨HO2.out.kept hf3 (by simp), ⟨g3, hs3, fun b hb => (hg3.imp (fun h => by have := (HO2.out.ge b hb).2; omega) id)⟩, HF2.out.trans hf3, (by rw [← hR.out.all, HE.out]; simp), (by rw [List.length_append, List.length_singleton, HLE.out]; omega)⟩; clear hg3 hs3 hf3))
          go_roundg (cur.length - 1)
          case measure => have := hn.out; omega
          case rel => exact ⟨_, _, A4, c4, by show _ ≤ _; rw [HLE.out]; exact Nat.le_refl _, rfl, HR3⟩
    · have h0I : ¬ (0 : Int) < cur.length := by omega
      have hnil : cur = [] := List.eq_nil_of_length_eq_zero (by omega)
      have HA := Lib.hid hR.out
      rw [hnil] at HA
      clear hR h0 hnil
      go_wp2
      go_ret
      have ha := HA.out.all
      rw [show rise ([] : List Int) = [] from rfl, List.append_nil] at ha
      rw [← ha]
      exact HA.out.own.newRow (Nat.le_refl _) HA.out.fr
end Go.Proofs.YtokbhiokcoldbaaDoor

/- LsmPlays: what the law holds; what is gathered, in plain Lean. -/
namespace Go.Proofs.YtokbhiokcoldbaaDoor
open Go.RowKit

namespace Ls
/-- Keys that have a value, each once, as they are met. -/
def gstep (G : Int → Int) (acc : List Int) (k : Int) : List Int := if 0 ≤ G k ∧ hasB acc k = false then acc ++ [k] else acc
def gath (G : Int → Int) (l : List Int) : List Int := l.foldl (gstep G) []
theorem gath_snoc (G : Int → Int) (l : List Int) (k : Int) : gath G (l ++ [k]) = gstep G (gath G l) k := by unfold gath; rw [List.foldl_append]; rfl
theorem gstep_mem (G : Int → Int) (acc : List Int) (k x : Int) : x ∈ gstep G acc k ↔ x ∈ acc ∨ (x = k ∧ 0 ≤ G k) := by
  unfold gstep
  by_cases h : 0 ≤ G k ∧ hasB acc k = false
  · rw [if_pos h]; simp [h.1]
  · rw [if_neg h]
    refine ⟨.inl, fun hx => hx.elim id (fun ⟨e, hg⟩ => ?_)⟩
    have hb : hasB acc k = true := by
      cases hb : hasB acc k with
      | true => rfl
      | false => exact absurd ⟨hg, hb⟩ h
    unfold hasB at hb
    rw [List.contains_iff_mem] at hb
    rw [e]; exact hb
theorem gstep_nodup (G : Int → Int) {acc : List Int} (k : Int) (h : acc.Nodup) : (gstep G acc k).Nodup := by
  unfold gstep
  by_cases hc : 0 ≤ G k ∧ hasB acc k = false
  · rw [if_pos hc]
    refine List.nodup_append.2 ⟨h, by simp, fun a ha b hb e => ?_⟩
    rw [List.mem_singleton] at hb
    have h2 := hc.2
    unfold hasB at h2
    rw [Bool.eq_false_iff] at h2
    exact h2 (List.contains_iff_mem.2 (by rw [← hb, ← e]; exact ha))
  · rw [if_neg hc]; exact h
theorem gath_all (G : Int → Int) : ∀ (l acc : List Int), acc.Nodup → (l.foldl (gstep G) acc).Nodup ∧ ∀ x, x ∈ l.foldl (gstep G) acc ↔ x ∈ acc ∨ (x ∈ l ∧ 0 ≤ G x)
  | [], acc, h => ⟨h, fun x => by simp⟩
  | k :: r, acc, h => by
    rw [List.foldl_cons]
    obtain ⟨h1, h2⟩ := gath_all G r _ (gstep_nodup G k h)
    refine ⟨h1, fun x => ?_⟩
    rw [h2, gstep_mem, List.mem_cons]
    constructor
    · rintro ((h | ⟨rfl, h⟩) | ⟨h, h'⟩)
      · exact .inl h
      · exact .inr ⟨.inl rfl, h⟩
      · exact .inr ⟨.inr h, h'⟩
    · rintro (h | ⟨rfl | h, h'⟩)
      · exact .inl (.inl h)
      · exact .inl (.inr ⟨rfl, h'⟩)
      · exact .inr ⟨h, h'⟩
theorem gath_len (G : Int → Int) : ∀ (l acc : List Int), (l.foldl (gstep G) acc).length ≤ acc.length + l.length
  | [], acc => by simp
  | k :: r, acc => by
    rw [List.foldl_cons]
    have h1 := gath_len G r (gstep G acc k)
    have h2 : (gstep G acc k).length ≤ acc.length + 1 := by unfold gstep; split <;> simp
    simp only [List.length_cons]
    omega
theorem dGet_get {m : M} (h : OK m) (k : Int) : (0 ≤ dGet (m.mem :: m.runs) k ↔ (get m k).isSome = true) ∧ (∀ v, get m k = some v → dGet (m.mem :: m.runs) k = v) := by
  unfold dGet get
  cases hl : look k (m.mem :: m.runs) with
  | none => exact ⟨by simp [val], fun v hv => by simp [val] at hv⟩
  | some x =>
    have hv : val (some x) = if x < 0 then none else some x := rfl
    rw [hv]
    by_cases hx : x < 0
    · rw [if_pos hx]
      exact ⟨by simp; omega, fun v hv => by cases hv⟩
    · rw [if_neg hx]
      exact ⟨by simp; omega, fun v hv => by injection hv⟩
theorem look_mem {k : Int} : ∀ {ts : List (List E)} {x : Int}, look k ts = some x → k ∈ (ts.map kys).flatten
  | [], x, h => by cases h
  | t :: r, x, h => by
    rw [List.map_cons, List.flatten_cons, List.mem_append]
    unfold look at h
    rcases plc_find t k with ⟨h1, -⟩ | ⟨j, hj, h2, h3⟩
    · rw [h1] at h
      exact .inr (look_mem h)
    · left
      have : nth (kys t) j = k := by
        have h4 : plcFrom (kys t) k (kys t).length 0 = (j : Int) := h2
        exact plc_at _ _ _ _ (by omega) h4
      rw [← this]
      unfold nth
      rw [List.getD_eq_getElem?_getD, List.getElem?_eq_getElem (by simpa using hj)]
      exact List.getElem_mem _
where
  plc_at (l : List Int) (n : Int) : ∀ (f k : Nat) {j : Nat}, f + k = l.length → plcFrom l n f k = (j : Int) → nth l j = n
    | 0, k, j, _, h => by unfold plcFrom at h; omega
    | f + 1, k, j, hk, h => by
      unfold plcFrom at h
      by_cases e : nth l k = n
      · rw [if_pos e] at h
        have : k = j := by omega
        rw [← this]; exact e
      · rw [if_neg e] at h
        exact plc_at l n f (k + 1) (by omega) h
/-- What the document gathers, sorted: the keys. -/
theorem gath_keys {m : M} (h : OK m) : rise (gath (dGet (m.mem :: m.runs)) ((m.mem :: m.runs).map kys).flatten) = keys m := by
  obtain ⟨h1, h2⟩ := gath_all (dGet (m.mem :: m.runs)) ((m.mem :: m.runs).map kys).flatten [] List.nodup_nil
  have hp := rise_perm (gath (dGet (m.mem :: m.runs)) ((m.mem :: m.runs).map kys).flatten)
  have hn := hp.nodup_iff.2 h1
  have hu : (rise (gath (dGet (m.mem :: m.runs)) ((m.mem :: m.runs).map kys).flatten)).Pairwise (· < ·) := by
    have h3 := rise_up (gath (dGet (m.mem :: m.runs)) ((m.mem :: m.runs).map kys).flatten)
    exact (h3.and hn).imp (fun ⟨a, b⟩ => by omega)
  refine up_unique hu (keys_up m) (fun k => ?_)
  rw [hp.mem_iff, keys_mem, show gath (dGet (m.mem :: m.runs)) ((m.mem :: m.runs).map kys).flatten = ((m.mem :: m.runs).map kys).flatten.foldl (gstep (dGet (m.mem :: m.runs))) [] from rfl, h2, (dGet_get h k).1]
  constructor
  · rintro (h | ⟨-, h⟩)
    · cases h
    · exact h
  · intro hs
    refine .inr ⟨?_, hs⟩
    unfold get at hs
    cases hl : look k (m.mem :: m.runs) with
    | none => rw [hl] at hs; cases hs
    | some x => exact look_mem hl
end Ls
end Go.Proofs.YtokbhiokcoldbaaDoor
