/- down, Put, Drop of package lsm. -/
import Derived.Laws.ResultCell
import Derived.Test.YtokbhiokcoldbaaDoorLqM01
import Derived.Test.YtokbhiokcoldbaaDoorLqM10
import Derived.Test.YtokbhiokcoldbaaDoorLqM14
namespace Go.Proofs.YtokbhiokcoldbaaDoor
open Go.RowKit

theorem LsAns.of {P : Nat → Prop} {w w1 w' : World} {b : Nat} {v : Value} {m : Ls.M} {e : Ending} (hf : FrP P w w1) (h : LsAns (OrNew P w) b v m w1 e w') : LsAns P b v m w e w' := by
  obtain ⟨h1, h2, h3⟩ := h
  refine ⟨h1, h2.imp (fun k hk => ?_), hf.trans h3 (fun x hx => hx)⟩
  rcases hk with hk | hk
  · exact hk
  · exact .inr (Nat.le_trans hf.size hk)
theorem LsAns.from {P : Nat → Prop} {w w1 w' : World} {b : Nat} {v : Value} {m : Ls.M} {e : Ending} (hf : FrP P w w1) (h : LsAns P b v m w1 e w') : LsAns P b v m w e w' := by
  obtain ⟨h1, h2, h3⟩ := h
  refine ⟨h1, h2.imp (fun k hk => ?_), hf.trans h3 (fun x hx => .inl hx)⟩
  rcases hk with hk | hk
  · exact .inl hk
  · exact .inr (Nat.le_trans hf.size hk)
set_option maxRecDepth 100000 in
set_option maxHeartbeats 4000000 in
theorem ls_down (w : World) (P : Nat → Prop) (b : Nat) (m : Ls.M) (k x : Int) (h : LsF P w b m) (hO : Ls.OK m) :
    Calls Tryd.prog 68 #[.pointer (some ⟨b, 0, none⟩), .agg #[.int .i64 k, .int .i64 x]] w (LsAns P b (errV (Ls.downErr m (k, x))) (Ls.down m (k, x)) w) := by
  have HH := Lib.hid h
  obtain ⟨w1, hw1⟩ : ∃ w1, w.alloc (.cells #[.int .i64 k, .int .i64 x] 117) = w1 := ⟨_, rfl⟩
  have hbx : w1.heap[w.heap.size]? = some (.cells #[.int .i64 k, .int .i64 x] 117 (0, 0)) := by rw [← hw1]; exact heap_alloc_new w _
  have hf1 : Fr [] w w1 := by rw [← hw1]; exact (Fr.refl _ _).alloc _
  have b0 : w1.cell? ⟨w.heap.size, 0, none⟩ = some (.int .i64 k) := by rw [cell_of_row _ _ _ _ _ _ hbx]; rfl
  have b1 : w1.cell? ⟨w.heap.size, 1, none⟩ = some (.int .i64 x) := by rw [cell_of_row _ _ _ _ _ _ hbx]; rfl
  have HF1 := Lib.hid hf1
  by_cases hk : 0 ≤ k ∧ k ≤ 1000
  · have hkd := decide_eq_true hk
    obtain ⟨vm, vr, vs, hS⟩ := h
    have hS1 := hS.keep hf1
    obtain ⟨c0, c1, c2, cf⟩ := hS1.cells
    have hmn := hO.many
    by_cases hm : m.many = 60
    · have he : Ls.downErr m (k, x) = 4 := by unfold Ls.downErr; rw [if_pos hk, if_pos hm]
      have hd : Ls.down m (k, x) = m := by unfold Ls.down; rw [if_neg (by rw [he]; decide)]
      rw [he, hd, errV_no (by decide)]
      have hmI : ((m.many : Int) == 60) = true := by rw [hm]; rfl
      rw [hm] at c2
      clear hS hS1 hO hbx hf1 hmI hm hk
      go_enter Tryd.func68, Tryd.ntmps68
      go_wp2_with (first | rw [hw1] | (go_at_call 63; (with_reducible refine useC (within_is k _ _ true _ hkd) ?_); rintro e w1 ⟨rfl, rfl⟩))
      go_ret
      exact LsAns.none HH.out rfl HF1.out
    · have he : Ls.downErr m (k, x) = 0 := by unfold Ls.downErr; rw [if_pos hk, if_neg hm]
      have hd : Ls.down m (k, x) = if (Ls.set m.mem (k, x)).length = 4 then Ls.flush (Ls.put1 m (k, x)) else Ls.put1 m (k, x) := by unfold Ls.down; rw [if_pos he]
      have HCUT : Hid ((Ls.set m.mem (k, x)).length = 4 → Ls.down m (k, x) = Ls.flush (Ls.put1 m (k, x))) := fun h4 => by rw [hd, if_pos h4]
      have HNOT : Hid ((Ls.set m.mem (k, x)).length ≠ 4 → Ls.down m (k, x) = Ls.put1 m (k, x)) := fun h4 => by rw [hd, if_neg h4]
      clear hd
      rw [he, show errV 0 = .nilIface from rfl]
      generalize Ls.down m (k, x) = R at *
      have hmI : ¬ ((m.many : Int) = 60) := by omega
      have hmb : ((m.many : Int) == 60) = false := beq_eq_false_iff_ne.2 hmI
      have hw : IntKind.i64.wrap ((m.many : Int) + 1) = (m.many : Int) + 1 := by rw [IntKind.wrap_i64]; omega
      obtain ⟨A, c, rfl⟩ := hS.mem.form
      have hS2 := hS1.count (m.many + 1)
      obtain ⟨w2, hw2⟩ : ∃ w2, w1.setCell ⟨b, 2, none⟩ (.int .i64 ((m.many : Int) + 1)) = w2 := ⟨_, rfl⟩
      rw [show ((m.many + 1 : Nat) : Int) = (m.many : Int) + 1 from by omega, hw2] at hS2
      obtain ⟨hS2, hf2⟩ := hS2
      have hbw := hS.lt
      have hbx2 := hf2.get hbx (by simp; omega)
      have HCE : Hid (∀ W, Fr (Value.slice A m.mem.length c).ownBlock.toList w2 W → W.cell? ⟨b, 0, none⟩ = some (.slice A m.mem.length c) ∧ (W.cell? ⟨w.heap.size, 0, none⟩ = some (.int .i64 k) ∧ W.cell? ⟨w.heap.size, 1, none⟩ = some (.int .i64 x)) ∧ ∀ i, W.frozen? ⟨b, i, none⟩ = false) := fun W hW => by
        have hb := hW.get hS2.file (by simpa using hS2.ne.1)
        have hx := hW.get hbx2 (fun hm => by have h3 := (hS.mem.ge _ (mem_own hm)).2; omega)
        refine ⟨?_, ⟨?_, ?_⟩, fun i => free_block hb i none⟩
        · rw [cell_of_row W b _ _ _ _ hb]; rfl
        · rw [cell_of_row W _ _ _ _ _ hx]; rfl
        · rw [cell_of_row W _ _ _ _ _ hx]; rfl
      have hup := hO.up m.mem (by simp)
      have hml := hO.mem
      have HSET := Lib.hid (ls_set w2.drew 0 (.slice A m.mem.length c) m.mem k x (hS2.mem.kept ((Fr.refl [] w2).drew) (by simp)) hup (by omega) (Nat.zero_le _))
      have HS2 := Lib.hid hS2
      have HP2 : Hid (FrP P w w2) := ((FrP.refl P w).step hf1 (by simp)).step hf2 (fun y hy => by simp only [List.mem_singleton] at hy; subst hy; exact .inl hS.gb)
      have HW2 := Lib.hid hw2
      have hSL := (Ls.set_len (k, x) m.mem).2.1
      have hOL := hO.len
      clear hS hS1 hS2 hO hbx hbx2 hf1 hf2 hw2 hm hk hup
      go_enter Tryd.func68, Tryd.ntmps68
      go_wp2_with (first | rw [hw1] | (go_at_call 63; (with_reducible refine useC (within_is k _ _ true _ hkd) ?_); rintro e w1 ⟨rfl, rfl⟩))
      rw [HW2.out]
      (refine wp_region_mix (Fr (Value.slice A m.mem.length c).ownBlock.toList w2 ·) 7 [(true, 0), (true, 1), (true, 2), (true, 3), (true, 4), (true, 5), (false, 6)] (by kernel_rfl) (by kernel_rfl) ((Fr.refl _ _).drew) ?_; simp only [pickOps, List.map_cons, List.map_nil, List.getD_cons_zero, List.getD_cons_succ, List.drop_succ_cons, List.drop_zero])
      (iterate 6 (first | (refine wpMix_take (v := ?_) (by rfl) ?_ ?_; rotate_left; (focus (intro W hW; obtain ⟨q0, ⟨q1, q2⟩, q3⟩ := HCE.out W hW; go_simp; (try with_reducible rfl); done)); try simp only [Act.put, List.setIfInBounds_toArray, List.set_cons_zero, List.set_cons_succ]) | (refine wpMix_leave (by rfl) ?_; try simp only [Act.put, List.setIfInBounds_toArray, List.set_cons_zero, List.set_cons_succ])))
      refine wpMix_walk ?_
      go_wp2_with (go_at_call 71; (with_reducible refine useC HSET.out ?_); intro e3 w3 h3; have HA := Lib.hid (h3.of ((Fr.refl [] w2).drew)); obtain ⟨⟨v', rfl, _, _⟩, _⟩ := h3)
      obtain ⟨⟨v3, e2, hr, hv⟩, hg⟩ := HA.out
      injection e2 with e2
      subst e2
      obtain ⟨A3, k3, rfl⟩ := hr.form
      have hF := fr_own hg
      have HNM := Lib.hid (HS2.out.newMem hF hr hv)
      have HF3 := Lib.hid hF
      clear hr hv hg hF
      refine MixQ.mk (HF3.out) ?_
      refine wpMix_nil ?_
      obtain ⟨q0, -, q3⟩ := HCE.out w3 HF3.out
      have q4 := HNM.out.1.cells.1
      obtain ⟨w4, hw4⟩ : ∃ w4, w3.setCell ⟨b, 0, none⟩ (.slice A3 (Ls.set m.mem (k, x)).length k3) = w4 := ⟨_, rfl⟩
      rw [hw4] at HNM q4
      clear HA
      by_cases h4 : (Ls.set m.mem (k, x)).length = 4
      · have h4b : (((Ls.set m.mem (k, x)).length : Int) == 4) = true := by rw [h4]; rfl
        have HFL := Lib.hid (ls_Flush w4 (OrNew P w2) b (Ls.put1 m (k, x)) ⟨_, _, _, HNM.out.1⟩ (by show m.runs.length ≤ 1000; omega) (by show (Ls.set m.mem (k, x)).length ≤ 1000; omega))
        rw [h4] at q4 hw4
        rw [h4]
        go_wp2_with (first | rw [hw4] | (go_at_call 34; (with_reducible refine useC HFL.out ?_); intro e5 w5 h5; have HA5 := Lib.hid h5; obtain ⟨rfl, -, -⟩ := h5))
        go_ret
        rw [HCUT.out h4]
        obtain ⟨-, h6, h7⟩ := LsAns.of HNM.out.2 HA5.out
        exact LsAns.from HP2.out ⟨rfl, h6, h7⟩
      · have h4b : (((Ls.set m.mem (k, x)).length : Int) == 4) = false := beq_eq_false_iff_ne.2 (by omega)
        have h4n := HNOT.out h4
        generalize (Ls.set m.mem (k, x)).length = L at *
        go_wp2_with (rw [hw4])
        go_ret
        exact LsAns.from HP2.out ⟨rfl, ⟨_, _, _, HNM.out.1⟩, HNM.out.2⟩
  · have hkd := decide_eq_false hk
    have he : Ls.downErr m (k, x) = 1 := by unfold Ls.downErr; rw [if_neg hk]
    have hd : Ls.down m (k, x) = m := by unfold Ls.down; rw [if_neg (by rw [he]; decide)]
    rw [he, hd, errV_no (by decide)]
    clear h hO hbx hf1 hk
    go_enter Tryd.func68, Tryd.ntmps68
    go_wp2_with (first | rw [hw1] | (go_at_call 63; (with_reducible refine useC (within_is k _ _ false _ hkd) ?_); rintro e w1 ⟨rfl, rfl⟩))
    go_ret
    exact LsAns.none HH.out rfl HF1.out
set_option maxRecDepth 100000 in
theorem ls_Drop (w : World) (P : Nat → Prop) (b : Nat) (m : Ls.M) (k : Int) (h : LsF P w b m) (hO : Ls.OK m) :
    Calls Tryd.prog 32 #[.pointer (some ⟨b, 0, none⟩), .int .i64 k] w (LsAns P b (errV (Ls.downErr m (k, -1))) (Ls.down m (k, -1)) w) := by
  have HD := Lib.hid (ls_down w P b m k (-1) h hO)
  clear h hO
  go_enter Tryd.func32, Tryd.ntmps32
  go_wp2_with (go_at_call 68; (with_reducible refine useC HD.out ?_); intro e3 w3 h3; have HA := Lib.hid h3; obtain ⟨rfl, -, -⟩ := h3)
  go_ret
  exact HA.out
/-- What Put answers. -/
def Ls.putErr (m : Ls.M) (k v : Int) : Int := if 0 ≤ v ∧ v ≤ 1000 then Ls.downErr m (k, v) else 1
def Ls.put (m : Ls.M) (k v : Int) : Ls.M := if 0 ≤ v ∧ v ≤ 1000 then Ls.down m (k, v) else m
set_option maxRecDepth 100000 in
theorem ls_Put (w : World) (P : Nat → Prop) (b : Nat) (m : Ls.M) (k v : Int) (h : LsF P w b m) (hO : Ls.OK m) :
    Calls Tryd.prog 33 #[.pointer (some ⟨b, 0, none⟩), .int .i64 k, .int .i64 v] w (LsAns P b (errV (Ls.putErr m k v)) (Ls.put m k v) w) := by
  have HD := Lib.hid (ls_down w P b m k v h hO)
  have HH := Lib.hid h
  clear h hO
  unfold Ls.putErr Ls.put
  by_cases hv : 0 ≤ v ∧ v ≤ 1000
  · have hvd := decide_eq_true hv
    rw [if_pos hv, if_pos hv]
    clear hv
    go_enter Tryd.func33, Tryd.ntmps33
    go_wp2_with (first
      | (go_at_call 63; (with_reducible refine useC (within_is v _ _ true _ hvd) ?_); rintro e w ⟨rfl, rfl⟩)
      | (go_at_call 68; (with_reducible refine useC HD.out ?_); intro e3 w3 h3; have HA := Lib.hid h3; obtain ⟨rfl, -, -⟩ := h3))
    go_ret
    exact HA.out
  · have hvd := decide_eq_false hv
    rw [if_neg hv, if_neg hv, errV_no (by decide)]
    clear hv
    go_enter Tryd.func33, Tryd.ntmps33
    go_wp2_with (go_at_call 63; (with_reducible refine useC (within_is v _ _ false _ hvd) ?_); rintro e w ⟨rfl, rfl⟩)
    go_ret
    exact LsAns.none HH.out rfl (Fr.refl _ _)
end Go.Proofs.YtokbhiokcoldbaaDoor
/- find of package lsm. -/
namespace Go.Proofs.YtokbhiokcoldbaaDoor
open Go.RowKit

/-- What find hands back. -/
def LsFd (l : List (Int × Int)) (k : Int) : Int × Int × Bool := match Ls.find k l with | some x => (k, x, true) | none => (0, 0, false)
theorem find_lb (k : Int) : ∀ (l : List (Int × Int)), Ls.Up l → (∀ h : Ls.lb k l < l.length, l[Ls.lb k l].1 = k → Ls.find k l = some l[Ls.lb k l].2) ∧ ((¬ ∃ h : Ls.lb k l < l.length, l[Ls.lb k l].1 = k) → Ls.find k l = none)
  | [], _ => ⟨fun h => by simp at h, fun _ => rfl⟩
  | x :: r, hu => by
    rw [Ls.Up, List.map_cons, List.pairwise_cons] at hu
    obtain ⟨h1, h2⟩ := find_lb k r hu.2
    by_cases hx : x.1 < k
    · have e1 : Ls.lb k (x :: r) = Ls.lb k r + 1 := by rw [Ls.lb, if_pos hx]
      have e2 : Ls.find k (x :: r) = Ls.find k r := by rw [Ls.find, if_neg (by omega)]
      rw [e2]
      refine ⟨fun h he => ?_, fun hn => h2 (fun ⟨h, he⟩ => hn ⟨by rw [e1]; simpa using h, by simpa [e1] using he⟩)⟩
      have := h1 (by rw [e1] at h; simpa using h) (by simpa [e1] using he)
      rw [this]
      simp [e1]
    · have e1 : Ls.lb k (x :: r) = 0 := by rw [Ls.lb, if_neg hx]
      refine ⟨fun h he => ?_, fun hn => ?_⟩
      · have : x.1 = k := by simpa [e1] using he
        rw [Ls.find, if_pos this]
        simp [e1]
      · have hne : x.1 ≠ k := fun he => hn ⟨by rw [e1]; simp, by simpa [e1] using he⟩
        rw [Ls.find, if_neg hne]
        have : ∀ (m : List (Int × Int)), (∀ y ∈ m, k < y.1) → Ls.find k m = none := fun m hm => by
          induction m with
          | nil => rfl
          | cons y t ih =>
            rw [Ls.find, if_neg (by have := hm y (by simp); omega)]
            exact ih (fun z hz => hm z (by simp [hz]))
        exact this r (fun y hy => by have := hu.1 y.1 (List.mem_map.2 ⟨y, hy, rfl⟩); omega)
set_option maxRecDepth 100000 in
set_option maxHeartbeats 2000000 in
theorem ls_find (w : World) (v : Value) (g : Nat) (l : List (Int × Int)) (k : Int) (h : SlR entE w v g l) (hu : Ls.Up l) (hl : l.length ≤ 100000) :
    Calls Tryd.prog 74 #[v, .int .i64 k] w fun e' w' => e' = .returned (.tuple #[.agg #[.int .i64 (LsFd l k).1, .int .i64 (LsFd l k).2.1], .bool (LsFd l k).2.2]) ∧ Fr [] w w' := by
  have HB := Lib.hid (fun W (hW : Fr [] w W) => ls_bs W v g l (k, 0) (h.fr hW (by simp)) hu hl)
  obtain ⟨hf1, hf2⟩ := find_lb k l hu
  obtain ⟨A, o, c, rfl, -, hA, hc⟩ := h.form
  have HA := Lib.hid hA
  have HC := Lib.hid (fun W (hW : Fr [] w W) i (hi : i < l.length) => And.intro (hW.cell (v := .int .i64 l[i].1) (by simpa [entE] using hc i hi 0 (by decide)) (by simp)) (hW.cell (v := .int .i64 l[i].2) (by simpa [entE] using hc i hi 1 (by decide)) (by simp)))
  have HLE := Lib.hid (Ls.lb_le k l)
  clear hA hc h hu
  dsimp only at HB
  have hbx := heap_alloc_new w (.cells #[.int .i64 0, .int .i64 0] 117)
  have hf0 : Fr [] w (w.alloc (.cells #[.int .i64 0, .int .i64 0] 117)) := (Fr.refl _ _).alloc _
  have HB1 := Lib.hid (HB.out _ hf0)
  have HX := Lib.hid hbx
  have HF0 := Lib.hid hf0
  clear HB hbx hf0
  go_enter Tryd.func74, Tryd.ntmps74
  go_wp2_with fail
  refine useC HB1.out ?_
  rintro e' w2 ⟨⟨b, rfl, hb⟩, hf⟩
  have hbx := hf.get HX.out (by simp)
  have c0 : w2.cell? ⟨w.heap.size, 0, none⟩ = some (.int .i64 0) := by rw [cell_of_row _ _ _ _ _ _ hbx]; rfl
  have c1 : w2.cell? ⟨w.heap.size, 1, none⟩ = some (.int .i64 0) := by rw [cell_of_row _ _ _ _ _ _ hbx]; rfl
  have z0 := fun i s => free_block hbx i s
  cases b with
  | true =>
    obtain ⟨hlt, he⟩ := hb.1 rfl
    have HFD := Lib.hid (hf1 hlt he)
    obtain rfl := HA.out (by omega)
    obtain ⟨q0, q1⟩ := HC.out w2 (HF0.out.trans hf) _ hlt
    rw [he] at q0
    have i0 : (0 : Int) ≤ (Ls.lb k l : Nat) := by omega
    have i1 : ((Ls.lb k l : Nat) : Int) < l.length := by omega
    generalize l[Ls.lb k l].2 = y at *
    have hpl : Ls.lb k l ≤ 100000 := by omega
    clear he hf1 hf2 hb hlt
    generalize Ls.lb k l = p at *
    go_wp2
    have hX := set_block (set_block hbx (.int .i64 k) (i := 0)) (.int .i64 y) (i := 1)
    have d0 : ((w2.setCell ⟨w.heap.size, 0, none⟩ (.int .i64 k)).setCell ⟨w.heap.size, 1, none⟩ (.int .i64 y)).cell? ⟨w.heap.size, 0, none⟩ = some (.int .i64 k) := by rw [cell_of_row _ _ _ _ _ _ hX]; rfl
    have d1 : ((w2.setCell ⟨w.heap.size, 0, none⟩ (.int .i64 k)).setCell ⟨w.heap.size, 1, none⟩ (.int .i64 y)).cell? ⟨w.heap.size, 1, none⟩ = some (.int .i64 y) := by rw [cell_of_row _ _ _ _ _ _ hX]; rfl
    have hFX : Fr [w.heap.size] w2 ((w2.setCell ⟨w.heap.size, 0, none⟩ (.int .i64 k)).setCell ⟨w.heap.size, 1, none⟩ (.int .i64 y)) := ((Fr.refl [w.heap.size] w2).setCell (.inl (by simp)) _).setCell (.inl (by simp)) _
    generalize (w2.setCell ⟨w.heap.size, 0, none⟩ (.int .i64 k)).setCell ⟨w.heap.size, 1, none⟩ (.int .i64 y) = X at *
    refine bodyPost_ret (v := .tuple #[.agg #[(.int .i64 k), (.int .i64 y)], .bool true]) (by rw [results_cell_tmp rfl]; go_simp) rfl ?_
    refine ⟨by unfold LsFd; rw [HFD.out], (HF0.out.trans hf).step hFX (fun q hq => .inr (by simp at hq; omega))⟩
  | false =>
    have HFD := Lib.hid (hf2 (fun hx => by have := hb.2 hx; cases this))
    clear hf1 hf2 hb
    generalize Ls.lb k l = p at *
    go_wp2
    have hX := set_block (set_block hbx (.int .i64 0) (i := 0)) (.int .i64 0) (i := 1)
    have d0 : ((w2.setCell ⟨w.heap.size, 0, none⟩ (.int .i64 0)).setCell ⟨w.heap.size, 1, none⟩ (.int .i64 0)).cell? ⟨w.heap.size, 0, none⟩ = some (.int .i64 0) := by rw [cell_of_row _ _ _ _ _ _ hX]; rfl
    have d1 : ((w2.setCell ⟨w.heap.size, 0, none⟩ (.int .i64 0)).setCell ⟨w.heap.size, 1, none⟩ (.int .i64 0)).cell? ⟨w.heap.size, 1, none⟩ = some (.int .i64 0) := by rw [cell_of_row _ _ _ _ _ _ hX]; rfl
    have hFX : Fr [w.heap.size] w2 ((w2.setCell ⟨w.heap.size, 0, none⟩ (.int .i64 0)).setCell ⟨w.heap.size, 1, none⟩ (.int .i64 0)) := ((Fr.refl [w.heap.size] w2).setCell (.inl (by simp)) _).setCell (.inl (by simp)) _
    generalize (w2.setCell ⟨w.heap.size, 0, none⟩ (.int .i64 0)).setCell ⟨w.heap.size, 1, none⟩ (.int .i64 0) = X at *
    refine bodyPost_ret (v := .tuple #[.agg #[(.int .i64 0), (.int .i64 0)], .bool false]) (by rw [results_cell_tmp rfl]; go_simp) rfl ?_
    refine ⟨by unfold LsFd; rw [HFD.out], (HF0.out.trans hf).step hFX (fun q hq => .inr (by simp at hq; omega))⟩
end Go.Proofs.YtokbhiokcoldbaaDoor

/- A value of several cells stored into a variable that was just made; worlds handed on as letters. No program in sight. -/
namespace Go.Proofs.YtokbhiokcoldbaaDoor
open Go.RowKit
section
variable {P : Program}
/-- 'x := v' for a struct or an array: the new block holds v; the world behind it is a letter. -/
theorem wpList_store_fresh {ops : Array Oper} {rest : List Oper} {o : Oper} {a : Act} {w w1 : World} {cs : Array Value} {t : TypeId} {Q : Exit → Act → World → Prop} (hgd : o.guard = none) (ty : TypeId) (x y : Operand) (ho : o.op = .store ty x y) (hw : w1 = w.alloc (.cells cs t))
    (vs : Array Value) (hx : a.eval x = .pointer (some ⟨w.heap.size, 0, none⟩)) (hy : a.eval y = .agg vs) (hi : (P.info? ty).map (·.size) = some vs.size) (hn : cs.size = vs.size) (h1 : ∀ v ∈ vs.toList, v.oneCell' = true)
    (h : ∀ w2 : World, w2.heap[w.heap.size]? = some (.cells vs t (0, 0)) → Fr [] w w2 → w.heap.size < w2.heap.size → wpList P ops Q rest (a.put o.dst undef) w2) : wpList P ops Q (o :: rest) a w1 := by
  subst hw
  have hb : (w.alloc (.cells cs t)).heap[w.heap.size]? = some (.cells cs t (0, 0)) := heap_alloc_new w _
  refine wpList_store_part hgd ty x y ho w.heap.size 0 vs hx hy t cs hb hi (by omega) h1 vs ?_ ?_
  · apply Array.ext'
    simp only [List.take_zero, List.nil_append, Nat.zero_add]
    rw [← hn, ← Array.length_toList, List.drop_length, List.append_nil]
  · exact h _ (setRow_heap _ _ _ _ _ _ hb) (((Fr.refl [] w).alloc _).setRow (.inr (Nat.le_refl _)) _) (by simp)
theorem run_store_one {ty : TypeId} {p : Addr} {v old : Value} {w : World} (hi : (P.info? ty).map (·.size) = some 1) (h1 : v.oneCell' = true) (hcs : v.cells = #[v]) (hp : p.add 0 = p) (hc : w.cell? p = some old) (hf : w.frozen? p = false) :
    (storeVar ty p v).run P w = .ok () (w.setCell p v) := by
  cases hq : P.info? ty with
  | none => simp [hq] at hi
  | some i =>
    have hs : i.size = 1 := by simpa [hq] using hi
    simp [storeVar, sizeOf, typeInfo, hq, hcs, hs, storeCells, hp, Sem.run_bind, run_store P w p v _ h1, hc, hf]
/-- 'x = v' for a value of one cell: the world behind it is a letter. -/
theorem wpList_store_one {ops : Array Oper} {rest : List Oper} {o : Oper} {a : Act} {w : World} {Q : Exit → Act → World → Prop} (hgd : o.guard = none) (ty : TypeId) (x y : Operand) (ho : o.op = .store ty x y) (g i : Nat) (v old : Value)
    (hx : a.eval x = .pointer (some ⟨g, i, none⟩)) (hy : a.eval y = v) (hi : (P.info? ty).map (·.size) = some 1) (h1 : v.oneCell' = true) (hcs : v.cells = #[v]) (hc : w.cell? ⟨g, i, none⟩ = some old) (hf : w.frozen? ⟨g, i, none⟩ = false)
    (h : ∀ w2, w2 = w.setCell ⟨g, i, none⟩ v → wpList P ops Q rest (a.put o.dst undef) w2) : wpList P ops Q (o :: rest) a w := by
  refine wpList_plain hgd fun K hK => ?_
  have hp : (⟨g, i, none⟩ : Addr).add 0 = ⟨g, i, none⟩ := by unfold Addr.add; split <;> simp_all
  unfold Oper.wp execOp
  simp only [ho, hx, hy, Instr.storeAt, Instr.sureAddr, Sem.run_bind, Sem.run_pure, Result.andThen_ok, run_store_one hi h1 hcs hp hc hf]
  exact hK _ _ (h _ rfl)
end
end Go.Proofs.YtokbhiokcoldbaaDoor
