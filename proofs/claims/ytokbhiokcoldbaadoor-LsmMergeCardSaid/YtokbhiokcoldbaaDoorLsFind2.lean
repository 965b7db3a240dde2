/- find of package lsm. -/
import Derived.Test.YtokbhiokcoldbaaDoorLsFind
import Derived.Laws.ResultCell
namespace Go.Proofs.YtokbhiokcoldbaaDoor
open Go.RowKit

/-- What find hands back. -/
def LsFd (l : List (Int × Int)) (k : Int) : Int × Int × Bool := match Ls.find k l with | some x => (k, x, true) | none => (0, 0, false)
theorem find_lb (k : Int) : ∀ (l : List (Int × Int)), Ls.Up l → (∀ h : Ls.lb k l < l.length, l[Ls.lb k l].1 = k → Ls.find k l = some l[Ls.lb k l].2) ∧ ((¬ ∃ h : Ls.lb k l < l.length, l[Ls.lb k l].1 = k) → Ls.find k l = none)
  | [], _ => ⟨fun h => by simp at h, fun _ => rfl⟩
  | x :: r, hu => by
    rw [Ls.Up, List.map_cons, List.pairwise_cons] at hu
    obtain ⟨h1, h2⟩ := find_lb k r hu.2
    by_cases hx : x.1 < k
    · have e1 : Ls.lb k (x :: r) = Ls.lb k r + 1 := by rw [Ls.lb, if_pos hx]
      have e2 : Ls.find k (x :: r) = Ls.find k r := by rw [Ls.find, if_neg (by omega)]
      rw [e2]
      refine ⟨fun h he => ?_, fun hn => h2 (fun ⟨h, he⟩ => hn ⟨by rw [e1]; simpa using h, by simpa [e1] using he⟩)⟩
      have := h1 (by rw [e1] at h; simpa using h) (by simpa [e1] using he)
      rw [this]
      simp [e1]
    · have e1 : Ls.lb k (x :: r) = 0 := by rw [Ls.lb, if_neg hx]
      refine ⟨fun h he => ?_, fun hn => ?_⟩
      · have : x.1 = k := by simpa [e1] using he
        rw [Ls.find, if_pos this]
        simp [e1]
      · have hne : x.1 ≠ k := fun he => hn ⟨by rw [e1]; simp, by simpa [e1] using he⟩
        rw [Ls.find, if_neg hne]
        have : ∀ (m : List (Int × Int)), (∀ y ∈ m, k < y.1) → Ls.find k m = none := fun m hm => by
          induction m with
          | nil => rfl
          | cons y t ih =>
            rw [Ls.find, if_neg (by have := hm y (by simp); omega)]
            exact ih (fun z hz => hm z (by simp [hz]))
        exact this r (fun y hy => by have := hu.1 y.1 (List.mem_map.2 ⟨y, hy, rfl⟩); omega)
set_option maxRecDepth 100000 in
set_option maxHeartbeats 2000000 in
theorem ls_find (w : World) (v : Value) (g : Nat) (l : List (Int × Int)) (k : Int) (h : SlR entE w v g l) (hu : Ls.Up l) (hl : l.length ≤ 100000) :
    Calls Tryd.prog 74 #[v, .int .i64 k] w fun e' w' => e' = .returned (.tuple #[.agg #[.int .i64 (LsFd l k).1, .int .i64 (LsFd l k).2.1], .bool (LsFd l k).2.2]) ∧ Fr [] w w' := by
  have HB := Lib.hid (fun W (hW : Fr [] w W) => ls_bs W v g l (k, 0) (h.fr hW (by simp)) hu hl)
  obtain ⟨hf1, hf2⟩ := find_lb k l hu
  obtain ⟨A, o, c, rfl, -, hA, hc⟩ := h.form
  have HA := Lib.hid hA
  have HC := Lib.hid (fun W (hW : Fr [] w W) i (hi : i < l.length) => And.intro (hW.cell (v := .int .i64 l[i].1) (by simpa [entE] using hc i hi 0 (by decide)) (by simp)) (hW.cell (v := .int .i64 l[i].2) (by simpa [entE] using hc i hi 1 (by decide)) (by simp)))
  have HLE := Lib.hid (Ls.lb_le k l)
  clear hA hc h hu
  dsimp only at HB
  have hbx := heap_alloc_new w (.cells #[.int .i64 0, .int .i64 0] 117)
  have hf0 : Fr [] w (w.alloc (.cells #[.int .i64 0, .int .i64 0] 117)) := (Fr.refl _ _).alloc _
  have HB1 := Lib.hid (HB.out _ hf0)
  have HX := Lib.hid hbx
  have HF0 := Lib.hid hf0
  clear HB hbx hf0
  go_enter Tryd.func74, Tryd.ntmps74
  go_wp2_with fail
  refine useC HB1.out ?_
  rintro e' w2 ⟨⟨b, rfl, hb⟩, hf⟩
  have hbx := hf.get HX.out (by simp)
  have c0 : w2.cell? ⟨w.heap.size, 0, none⟩ = some (.int .i64 0) := by rw [cell_of_row _ _ _ _ _ _ hbx]; rfl
  have c1 : w2.cell? ⟨w.heap.size, 1, none⟩ = some (.int .i64 0) := by rw [cell_of_row _ _ _ _ _ _ hbx]; rfl
  have z0 := fun i s => free_block hbx i s
  cases b with
  | true =>
    obtain ⟨hlt, he⟩ := hb.1 rfl
    have HFD := Lib.hid (hf1 hlt he)
    obtain rfl := HA.out (by omega)
    obtain ⟨q0, q1⟩ := HC.out w2 (HF0.out.trans hf) _ hlt
    rw [he] at q0
    have i0 : (0 : Int) ≤ (Ls.lb k l : Nat) := by omega
    have i1 : ((Ls.lb k l : Nat) : Int) < l.length := by omega
    generalize l[Ls.lb k l].2 = y at *
    have hpl : Ls.lb k l ≤ 100000 := by omega
    clear he hf1 hf2 hb hlt
    generalize Ls.lb k l = p at *
    go_wp2
    have hX := set_block (set_block hbx (.int .i64 k) (i := 0)) (.int .i64 y) (i := 1)
    have d0 : ((w2.setCell ⟨w.heap.size, 0, none⟩ (.int .i64 k)).setCell ⟨w.heap.size, 1, none⟩ (.int .i64 y)).cell? ⟨w.heap.size, 0, none⟩ = some (.int .i64 k) := by rw [cell_of_row _ _ _ _ _ _ hX]; rfl
    have d1 : ((w2.setCell ⟨w.heap.size, 0, none⟩ (.int .i64 k)).setCell ⟨w.heap.size, 1, none⟩ (.int .i64 y)).cell? ⟨w.heap.size, 1, none⟩ = some (.int .i64 y) := by rw [cell_of_row _ _ _ _ _ _ hX]; rfl
    have hFX : Fr [w.heap.size] w2 ((w2.setCell ⟨w.heap.size, 0, none⟩ (.int .i64 k)).setCell ⟨w.heap.size, 1, none⟩ (.int .i64 y)) := ((Fr.refl [w.heap.size] w2).setCell (.inl (by simp)) _).setCell (.inl (by simp)) _
    generalize (w2.setCell ⟨w.heap.size, 0, none⟩ (.int .i64 k)).setCell ⟨w.heap.size, 1, none⟩ (.int .i64 y) = X at *
    refine bodyPost_ret (v := .tuple #[.agg #[(.int .i64 k), (.int .i64 y)], .bool true]) (by rw [results_cell_tmp rfl]; go_simp) rfl ?_
    refine ⟨by unfold LsFd; rw [HFD.out], (HF0.out.trans hf).step hFX (fun q hq => .inr (by simp at hq; omega))⟩
  | false =>
    have HFD := Lib.hid (hf2 (fun hx => by have := hb.2 hx; cases this))
    clear hf1 hf2 hb
    generalize Ls.lb k l = p at *
    go_wp2
    have hX := set_block (set_block hbx (.int .i64 0) (i := 0)) (.int .i64 0) (i := 1)
    have d0 : ((w2.setCell ⟨w.heap.size, 0, none⟩ (.int .i64 0)).setCell ⟨w.heap.size, 1, none⟩ (.int .i64 0)).cell? ⟨w.heap.size, 0, none⟩ = some (.int .i64 0) := by rw [cell_of_row _ _ _ _ _ _ hX]; rfl
    have d1 : ((w2.setCell ⟨w.heap.size, 0, none⟩ (.int .i64 0)).setCell ⟨w.heap.size, 1, none⟩ (.int .i64 0)).cell? ⟨w.heap.size, 1, none⟩ = some (.int .i64 0) := by rw [cell_of_row _ _ _ _ _ _ hX]; rfl
    have hFX : Fr [w.heap.size] w2 ((w2.setCell ⟨w.heap.size, 0, none⟩ (.int .i64 0)).setCell ⟨w.heap.size, 1, none⟩ (.int .i64 0)) := ((Fr.refl [w.heap.size] w2).setCell (.inl (by simp)) _).setCell (.inl (by simp)) _
    generalize (w2.setCell ⟨w.heap.size, 0, none⟩ (.int .i64 0)).setCell ⟨w.heap.size, 1, none⟩ (.int .i64 0) = X at *
    refine bodyPost_ret (v := .tuple #[.agg #[(.int .i64 0), (.int .i64 0)], .bool false]) (by rw [results_cell_tmp rfl]; go_simp) rfl ?_
    refine ⟨by unfold LsFd; rw [HFD.out], (HF0.out.trans hf).step hFX (fun q hq => .inr (by simp at hq; omega))⟩
end Go.Proofs.YtokbhiokcoldbaaDoor
