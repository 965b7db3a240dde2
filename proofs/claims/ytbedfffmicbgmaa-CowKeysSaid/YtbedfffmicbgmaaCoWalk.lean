/- The contracts of package cow: put, root, New, Get. -/
import Derived.Test.YtbedfffmicbgmaaCoHeap
import Derived.Test.YtbedfffmicbgmaaMix
namespace Go.Proofs.Ytbedfffmicbgmaa
open Go.RowKit

/-- What put hands back. -/
def CoPutA (T : Ct) (k v : Int) (w : World) (e : Ending) (w' : World) : Prop :=
  e = .returned (Co.put T w.heap.size k v).ptr ∧ CoIn w' (Co.put T w.heap.size k v) ∧ Fr [] w w' ∧ w'.heap.size = w.heap.size + Co.way T k
theorem put_lt {b : Nat} {k v k' v' : Int} {l r : Ct} {n : Nat} (h : k < k') : Co.put (.node b k' v' l r) n k v = .node n k' v' (Co.put l (n + 1) k v) r ∧ Co.way (.node b k' v' l r) k = Co.way l k + 1 := by
  simp only [Co.put, Co.way]
  rw [if_pos h, if_pos h]
  exact ⟨rfl, rfl⟩
theorem put_gt {b : Nat} {k v k' v' : Int} {l r : Ct} {n : Nat} (h : k' < k) : Co.put (.node b k' v' l r) n k v = .node n k' v' l (Co.put r (n + 1) k v) ∧ Co.way (.node b k' v' l r) k = Co.way r k + 1 := by
  have h1 : ¬ k < k' := by omega
  simp only [Co.put, Co.way, if_neg h1, if_pos h]
  exact ⟨trivial, trivial⟩
theorem put_eq {b : Nat} {k v v' : Int} {l r : Ct} {n : Nat} : Co.put (.node b k v' l r) n k v = .node n k v l r ∧ Co.way (.node b k v' l r) k = 1 := by
  have h1 : ¬ k < k := by omega
  simp only [Co.put, Co.way, if_neg h1]
  exact ⟨trivial, trivial⟩
/-- The copy of the node, one of its pointers another one. -/
theorem co_left {w w2 : World} {k' v' : Int} {l r l' : Ct} (hl : CoIn w2 l') (hr : CoIn w r) (hf : Fr [] (w.alloc (.cells #[.int .i64 k', .int .i64 v', l.ptr, r.ptr] 52)) w2) (hn : w.heap.size ∉ Co.blks l') :
    CoIn (w2.setCell ⟨w.heap.size, 2, none⟩ l'.ptr) (.node w.heap.size k' v' l' r) ∧ Fr [] w (w2.setCell ⟨w.heap.size, 2, none⟩ l'.ptr) := by
  have h0 := hf.get (heap_alloc_new w (.cells #[.int .i64 k', .int .i64 v', l.ptr, r.ptr] 52)) (by simp)
  have hS : Fr [w.heap.size] w2 (w2.setCell ⟨w.heap.size, 2, none⟩ l'.ptr) := (Fr.refl _ _).setCell (.inl (by simp)) _
  have h2 := ((Fr.refl [] w).alloc (.cells #[.int .i64 k', .int .i64 v', l.ptr, r.ptr] 52)).trans hf
  exact ⟨⟨set_block h0 l'.ptr, hl.fr hS (by simpa using hn), (hr.step h2).fr hS (fun b hb hr' => by simp only [List.mem_singleton] at hb; subst hb; have := hr.lt hr'; omega)⟩, h2.step hS (by simp)⟩
theorem co_right {w w2 : World} {k' v' : Int} {l r r' : Ct} (hr : CoIn w2 r') (hl : CoIn w l) (hf : Fr [] (w.alloc (.cells #[.int .i64 k', .int .i64 v', l.ptr, r.ptr] 52)) w2) (hn : w.heap.size ∉ Co.blks r') :
    CoIn (w2.setCell ⟨w.heap.size, 3, none⟩ r'.ptr) (.node w.heap.size k' v' l r') ∧ Fr [] w (w2.setCell ⟨w.heap.size, 3, none⟩ r'.ptr) := by
  have h0 := hf.get (heap_alloc_new w (.cells #[.int .i64 k', .int .i64 v', l.ptr, r.ptr] 52)) (by simp)
  have hS : Fr [w.heap.size] w2 (w2.setCell ⟨w.heap.size, 3, none⟩ r'.ptr) := (Fr.refl _ _).setCell (.inl (by simp)) _
  have h2 := ((Fr.refl [] w).alloc (.cells #[.int .i64 k', .int .i64 v', l.ptr, r.ptr] 52)).trans hf
  exact ⟨⟨set_block h0 r'.ptr, (hl.step h2).fr hS (fun b hb hl' => by simp only [List.mem_singleton] at hb; subst hb; have := hl.lt hl'; omega), hr.fr hS (by simpa using hn)⟩, h2.step hS (by simp)⟩
theorem CoIn.cells {w : World} {b : Nat} {k v : Int} {l r : Ct} (h : CoIn w (.node b k v l r)) : w.cell? ⟨b, 0, none⟩ = some (.int .i64 k) ∧ w.cell? ⟨b, 1, none⟩ = some (.int .i64 v) ∧ w.cell? ⟨b, 2, none⟩ = some l.ptr ∧ w.cell? ⟨b, 3, none⟩ = some r.ptr := by
  refine ⟨?_, ?_, ?_, ?_⟩ <;> rw [cell_of_row w b _ _ _ _ h.1] <;> rfl
set_option maxRecDepth 100000 in
set_option maxHeartbeats 2000000 in
theorem co_put (k v : Int) : ∀ (T : Ct) (w : World), CoIn w T → Calls Try.prog 19 #[T.ptr, .int .i64 k, .int .i64 v] w (CoPutA T k v w) := by
  intro T
  induction T with
  | nil =>
    intro w _
    have hpt : Ct.nil.ptr = .pointer none := rfl
    rw [hpt]
    go_enter Try.func19, Try.ntmps19
    go_wp2_with fail
    go_ret
    exact ⟨rfl, ⟨heap_alloc_new w _, trivial, trivial⟩, (Fr.refl _ _).alloc _, by simp [Co.way]⟩
  | node b k' v' l r ihl ihr =>
    intro w hIn
    obtain ⟨c0, c1, c2, c3⟩ := hIn.cells
    have HIN := Lib.hid hIn
    obtain ⟨ul, hul⟩ := l.ptr_form
    obtain ⟨ur, hur⟩ := r.ptr_form
    have HUL := Lib.hid hul
    have HUR := Lib.hid hur
    have HIL := Lib.hid (fun W (hW : Fr [] w W) => ihl W (hIn.2.1.step hW))
    have HIR := Lib.hid (fun W (hW : Fr [] w W) => ihr W (hIn.2.2.step hW))
    have HF0 : Hid (Fr [] w (w.alloc (.cells #[.int .i64 k', .int .i64 v', .pointer ul, .pointer ur] 52))) := (Fr.refl _ _).alloc _
    have hb := lt_of_heap hIn.1
    rw [hul] at c2 HIL
    rw [hur] at c3 HIR
    have hpt : (Ct.node b k' v' l r).ptr = .pointer (some ⟨b, 0, none⟩) := rfl
    rw [hpt]
    clear hIn hul hur ihl ihr
    by_cases h1 : k < k'
    · have HP := Lib.hid (fun n => put_lt (b := b) (v := v) (v' := v') (l := l) (r := r) (n := n) h1)
      go_enter Try.func19, Try.ntmps19
      go_wp2_with (go_at_call 19; (with_reducible refine useC (HIL.out _ HF0.out) ?_); rintro e w2 ⟨rfl, hin, hf, hsz⟩; rw [show (w.alloc (.cells #[.int .i64 k', .int .i64 v', .pointer ul, .pointer ur] 52)).heap.size = w.heap.size + 1 by simp] at hin hsz ⊢; have hblk := hf.get (heap_alloc_new w _) (by simp); have q2 := cell_of_row w2 w.heap.size 2 _ _ _ hblk; have q2f := free_block hblk 2 none; rw [← HUL.out, ← HUR.out] at hf; have hres := co_left hin HIN.out.2.2 hf (fun hm => (by rcases Co.blks_put k v w.heap.size l _ hm with h | h; omega; have := HIN.out.2.1.lt h; omega)); obtain ⟨up, hup⟩ := (Co.put l (w.heap.size + 1) k v).ptr_form; have HUP := Lib.hid hup; rw [hup]; rw [hup] at hres; have HRES := Lib.hid hres; have HSZ := Lib.hid hsz; have q2' : w2.cell? ⟨w.heap.size, 2, none⟩ = some (.pointer ul) := (by rw [q2]; rfl); clear hin hf hsz hblk q2 hup hres)
      go_ret
      have hp := HP.out w.heap.size
      unfold CoPutA
      rw [hp.1, hp.2]
      exact ⟨rfl, HRES.out.1, HRES.out.2, by simp [World.setCell, HSZ.out]; omega⟩
    · by_cases h2 : k' < k
      · have HP := Lib.hid (fun n => put_gt (b := b) (v := v) (v' := v') (l := l) (r := r) (n := n) h2)
        go_enter Try.func19, Try.ntmps19
        go_wp2_with (go_at_call 19; (with_reducible refine useC (HIR.out _ HF0.out) ?_); rintro e w2 ⟨rfl, hin, hf, hsz⟩; rw [show (w.alloc (.cells #[.int .i64 k', .int .i64 v', .pointer ul, .pointer ur] 52)).heap.size = w.heap.size + 1 by simp] at hin hsz ⊢; have hblk := hf.get (heap_alloc_new w _) (by simp); have q2 := cell_of_row w2 w.heap.size 3 _ _ _ hblk; have q2f := free_block hblk 3 none; rw [← HUL.out, ← HUR.out] at hf; have hres := co_right hin HIN.out.2.1 hf (fun hm => (by rcases Co.blks_put k v w.heap.size r _ hm with h | h; omega; have := HIN.out.2.2.lt h; omega)); obtain ⟨up, hup⟩ := (Co.put r (w.heap.size + 1) k v).ptr_form; have HUP := Lib.hid hup; rw [hup]; rw [hup] at hres; have HRES := Lib.hid hres; have HSZ := Lib.hid hsz; have q2' : w2.cell? ⟨w.heap.size, 3, none⟩ = some (.pointer ur) := (by rw [q2]; rfl); clear hin hf hsz hblk q2 hup hres)
        go_ret
        have hp := HP.out w.heap.size
        unfold CoPutA
        rw [hp.1, hp.2]
        exact ⟨rfl, HRES.out.1, HRES.out.2, by simp [World.setCell, HSZ.out]; omega⟩
      · obtain rfl : k = k' := by omega
        have HP := Lib.hid (fun n => put_eq (b := b) (k := k) (v := v) (v' := v') (l := l) (r := r) (n := n))
        go_enter Try.func19, Try.ntmps19
        go_wp2_with fail
        go_ret
        have hp := HP.out w.heap.size
        unfold CoPutA
        rw [hp.1, hp.2]
        have hf : Fr [] w (w.alloc (.cells #[.int .i64 k, .int .i64 v, .pointer ul, .pointer ur] 52)) := (Fr.refl _ _).alloc _
        refine ⟨rfl, ⟨?_, HIN.out.2.1.step hf, HIN.out.2.2.step hf⟩, hf, by simp⟩
        rw [HUL.out, HUR.out]
        exact heap_alloc_new w _
end Go.Proofs.Ytbedfffmicbgmaa
