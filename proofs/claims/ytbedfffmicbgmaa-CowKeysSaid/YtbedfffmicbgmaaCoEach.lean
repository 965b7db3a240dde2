/- The contract of cow.each: the nodes are handed over as keys rise. Printed by wip/gen_coeach.py. -/
import Derived.Test.YtbedfffmicbgmaaCoGet
import Derived.Handy
namespace Go.Proofs.Ytbedfffmicbgmaa
open Go.RowKit

theorem CoIn.key_at {w : World} : ∀ {T : Ct}, CoIn w T → ∀ p ∈ Co.nodes T, w.cell? ⟨p.1, 0, none⟩ = some (.int .i64 p.2) ∧ ∃ cs, w.heap[p.1]? = some (.cells cs 52 (0, 0))
  | .nil, _, p, h => by simp [Co.nodes] at h
  | .node b k v l r, hi, p, h => by
    simp only [Co.nodes, List.mem_append, List.mem_cons] at h
    rcases h with h | rfl | h
    · exact hi.2.1.key_at p h
    · exact ⟨hi.cells.1, _, hi.1⟩
    · exact hi.2.2.key_at p h
set_option maxRecDepth 100000 in
set_option maxHeartbeats 1000000 in
theorem each_keys (p0 : Value) (N : List (Nat × Int)) (J : Nat → World → Prop)
    (hc : ∀ i (hi : i < N.length) w, J i w → Calls Try.prog 21 #[.pointer (some ⟨(N[i]).1, 0, none⟩), p0] w fun e w' => e = .returned (.tuple #[]) ∧ J (i + 1) w') :
    ∀ (T : Ct) (pre post : List (Nat × Int)) (w : World), N = pre ++ Co.nodes T ++ post → (∀ i w, J i w → CoIn w T) → J pre.length w →
      Calls Try.prog 20 #[T.ptr, .func (.func 21) #[] #[p0]] w fun e w' => e = .returned (.tuple #[]) ∧ J (pre.length + (Co.nodes T).length) w' := by
  intro T
  induction T with
  | nil =>
    intro pre post w _ _ hJ
    rw [show Ct.nil.ptr = .pointer none from rfl]
    have HJ := Lib.hid hJ
    clear hJ
    go_enter Try.func20, Try.ntmps20
    go_wp2_with fail
    go_returns
    exact ⟨rfl, by simpa [Co.nodes] using HJ.out⟩
  | node b k v l r ihl ihr =>
    intro pre post w hN hIn hJ
    have hi0 := hIn _ w hJ
    obtain ⟨c0, c1, c2, c3⟩ := hi0.cells
    obtain ⟨ul, hul⟩ := l.ptr_form
    obtain ⟨ur, hur⟩ := r.ptr_form
    rw [hul] at c2
    have e0 : Co.nodes (.node b k v l r) = Co.nodes l ++ (b, k) :: Co.nodes r := rfl
    have e1 : N = pre ++ Co.nodes l ++ ((b, k) :: Co.nodes r ++ post) := by rw [hN, e0]; simp
    have e2 : N = (pre ++ Co.nodes l ++ [(b, k)]) ++ Co.nodes r ++ post := by rw [hN, e0]; simp
    have hL := ihl pre ((b, k) :: Co.nodes r ++ post) w e1 (fun i w h => (hIn i w h).2.1) hJ
    rw [hul] at hL
    have HL := Lib.hid hL
    have hlt : pre.length + (Co.nodes l).length < N.length := by rw [e1]; simp
    have hat : N[pre.length + (Co.nodes l).length]'hlt = (b, k) := by
      have h1 : N[pre.length + (Co.nodes l).length]? = some (b, k) := by
        rw [e1, ← List.length_append, List.getElem?_append_right (Nat.le_refl _), Nat.sub_self]
        rfl
      rw [List.getElem?_eq_getElem hlt] at h1
      exact Option.some.inj h1
    have hC : ∀ w', J (pre.length + (Co.nodes l).length) w' → Calls Try.prog 21 #[.pointer (some ⟨b, 0, none⟩), p0] w' fun e w'' => e = .returned (.tuple #[]) ∧ J (pre.length + (Co.nodes l).length + 1) w'' := fun w' hw' => by
      have := hc _ hlt w' hw'
      rw [hat] at this
      exact this
    have HC := Lib.hid hC
    have hR : ∀ w', J (pre.length + (Co.nodes l).length + 1) w' → Calls Try.prog 20 #[.pointer ur, .func (.func 21) #[] #[p0]] w' fun e w'' => e = .returned (.tuple #[]) ∧ J (pre.length + (Co.nodes l).length + 1 + (Co.nodes r).length) w'' := fun w' hw' => by
      have hl3 : (pre ++ Co.nodes l ++ [(b, k)]).length = pre.length + (Co.nodes l).length + 1 := by rw [List.length_append, List.length_append, List.length_singleton]
      have := ihr (pre ++ Co.nodes l ++ [(b, k)]) post w' e2 (fun i w h => (hIn i w h).2.2) (by rw [hl3]; exact hw')
      rw [hur, hl3] at this
      exact this
    have HR := Lib.hid hR
    have HX := Lib.hid (fun i w h => (hIn i w h).cells.2.2.2)
    rw [show (Ct.node b k v l r).ptr = .pointer (some ⟨b, 0, none⟩) from rfl]
    have hlen : pre.length + (Co.nodes l).length + 1 + (Co.nodes r).length = pre.length + (Co.nodes (.node b k v l r)).length := by rw [e0]; simp; omega
    have HLEN := Lib.hid hlen
    have HUR := Lib.hid hur
    clear hlen hR hC hat hlt hL e0 e1 e2 hul hur hi0 c0 c1 c3 ihl ihr hN hIn hJ hc
    go_enter Try.func20, Try.ntmps20
    go_wp2_with (first
      | (go_at_call 20; (with_reducible refine useC HL.out ?_); rintro e w1 ⟨rfl, hj⟩; have HJ1 := Lib.hid hj; clear hj HL)
      | (go_at_call 21; (with_reducible refine useC (HC.out w1 HJ1.out) ?_); rintro e w2 ⟨rfl, hj⟩; have HJ2 := Lib.hid hj; clear hj HJ1; have c3 := HX.out _ w2 HJ2.out; rw [HUR.out] at c3)
      | (have h' := HJ2; clear h'; go_at_call 20; (with_reducible refine useC (HR.out w2 HJ2.out) ?_); rintro e w3 ⟨rfl, hj⟩; have HJ3 := Lib.hid hj; clear hj))
    go_returns
    exact ⟨rfl, by rw [← HLEN.out]; exact HJ3.out⟩
set_option maxRecDepth 100000 in
set_option maxHeartbeats 1000000 in
theorem each_sh1 (p0 : Value) (N : List (Nat × Int)) (J : Nat → World → Prop)
    (hc : ∀ i (hi : i < N.length) w, J i w → Calls Try.prog 23 #[.pointer (some ⟨(N[i]).1, 0, none⟩), p0] w fun e w' => e = .returned (.tuple #[]) ∧ J (i + 1) w') :
    ∀ (T : Ct) (pre post : List (Nat × Int)) (w : World), N = pre ++ Co.nodes T ++ post → (∀ i w, J i w → CoIn w T) → J pre.length w →
      Calls Try.prog 20 #[T.ptr, .func (.func 23) #[] #[p0]] w fun e w' => e = .returned (.tuple #[]) ∧ J (pre.length + (Co.nodes T).length) w' := by
  intro T
  induction T with
  | nil =>
    intro pre post w _ _ hJ
    rw [show Ct.nil.ptr = .pointer none from rfl]
    have HJ := Lib.hid hJ
    clear hJ
    go_enter Try.func20, Try.ntmps20
    go_wp2_with fail
    go_returns
    exact ⟨rfl, by simpa [Co.nodes] using HJ.out⟩
  | node b k v l r ihl ihr =>
    intro pre post w hN hIn hJ
    have hi0 := hIn _ w hJ
    obtain ⟨c0, c1, c2, c3⟩ := hi0.cells
    obtain ⟨ul, hul⟩ := l.ptr_form
    obtain ⟨ur, hur⟩ := r.ptr_form
    rw [hul] at c2
    have e0 : Co.nodes (.node b k v l r) = Co.nodes l ++ (b, k) :: Co.nodes r := rfl
    have e1 : N = pre ++ Co.nodes l ++ ((b, k) :: Co.nodes r ++ post) := by rw [hN, e0]; simp
    have e2 : N = (pre ++ Co.nodes l ++ [(b, k)]) ++ Co.nodes r ++ post := by rw [hN, e0]; simp
    have hL := ihl pre ((b, k) :: Co.nodes r ++ post) w e1 (fun i w h => (hIn i w h).2.1) hJ
    rw [hul] at hL
    have HL := Lib.hid hL
    have hlt : pre.length + (Co.nodes l).length < N.length := by rw [e1]; simp
    have hat : N[pre.length + (Co.nodes l).length]'hlt = (b, k) := by
      have h1 : N[pre.length + (Co.nodes l).length]? = some (b, k) := by
        rw [e1, ← List.length_append, List.getElem?_append_right (Nat.le_refl _), Nat.sub_self]
        rfl
      rw [List.getElem?_eq_getElem hlt] at h1
      exact Option.some.inj h1
    have hC : ∀ w', J (pre.length + (Co.nodes l).length) w' → Calls Try.prog 23 #[.pointer (some ⟨b, 0, none⟩), p0] w' fun e w'' => e = .returned (.tuple #[]) ∧ J (pre.length + (Co.nodes l).length + 1) w'' := fun w' hw' => by
      have := hc _ hlt w' hw'
      rw [hat] at this
      exact this
    have HC := Lib.hid hC
    have hR : ∀ w', J (pre.length + (Co.nodes l).length + 1) w' → Calls Try.prog 20 #[.pointer ur, .func (.func 23) #[] #[p0]] w' fun e w'' => e = .returned (.tuple #[]) ∧ J (pre.length + (Co.nodes l).length + 1 + (Co.nodes r).length) w'' := fun w' hw' => by
      have hl3 : (pre ++ Co.nodes l ++ [(b, k)]).length = pre.length + (Co.nodes l).length + 1 := by rw [List.length_append, List.length_append, List.length_singleton]
      have := ihr (pre ++ Co.nodes l ++ [(b, k)]) post w' e2 (fun i w h => (hIn i w h).2.2) (by rw [hl3]; exact hw')
      rw [hur, hl3] at this
      exact this
    have HR := Lib.hid hR
    have HX := Lib.hid (fun i w h => (hIn i w h).cells.2.2.2)
    rw [show (Ct.node b k v l r).ptr = .pointer (some ⟨b, 0, none⟩) from rfl]
    have hlen : pre.length + (Co.nodes l).length + 1 + (Co.nodes r).length = pre.length + (Co.nodes (.node b k v l r)).length := by rw [e0]; simp; omega
    have HLEN := Lib.hid hlen
    have HUR := Lib.hid hur
    clear hlen hR hC hat hlt hL e0 e1 e2 hul hur hi0 c0 c1 c3 ihl ihr hN hIn hJ hc
    go_enter Try.func20, Try.ntmps20
    go_wp2_with (first
      | (go_at_call 20; (with_reducible refine useC HL.out ?_); rintro e w1 ⟨rfl, hj⟩; have HJ1 := Lib.hid hj; clear hj HL)
      | (go_at_call 23; (with_reducible refine useC (HC.out w1 HJ1.out) ?_); rintro e w2 ⟨rfl, hj⟩; have HJ2 := Lib.hid hj; clear hj HJ1; have c3 := HX.out _ w2 HJ2.out; rw [HUR.out] at c3)
      | (have h' := HJ2; clear h'; go_at_call 20; (with_reducible refine useC (HR.out w2 HJ2.out) ?_); rintro e w3 ⟨rfl, hj⟩; have HJ3 := Lib.hid hj; clear hj))
    go_returns
    exact ⟨rfl, by rw [← HLEN.out]; exact HJ3.out⟩
set_option maxRecDepth 100000 in
set_option maxHeartbeats 1000000 in
theorem each_sh2 (p0 p1 : Value) (N : List (Nat × Int)) (J : Nat → World → Prop)
    (hc : ∀ i (hi : i < N.length) w, J i w → Calls Try.prog 25 #[.pointer (some ⟨(N[i]).1, 0, none⟩), p0, p1] w fun e w' => e = .returned (.tuple #[]) ∧ J (i + 1) w') :
    ∀ (T : Ct) (pre post : List (Nat × Int)) (w : World), N = pre ++ Co.nodes T ++ post → (∀ i w, J i w → CoIn w T) → J pre.length w →
      Calls Try.prog 20 #[T.ptr, .func (.func 25) #[] #[p0, p1]] w fun e w' => e = .returned (.tuple #[]) ∧ J (pre.length + (Co.nodes T).length) w' := by
  intro T
  induction T with
  | nil =>
    intro pre post w _ _ hJ
    rw [show Ct.nil.ptr = .pointer none from rfl]
    have HJ := Lib.hid hJ
    clear hJ
    go_enter Try.func20, Try.ntmps20
    go_wp2_with fail
    go_returns
    exact ⟨rfl, by simpa [Co.nodes] using HJ.out⟩
  | node b k v l r ihl ihr =>
    intro pre post w hN hIn hJ
    have hi0 := hIn _ w hJ
    obtain ⟨c0, c1, c2, c3⟩ := hi0.cells
    obtain ⟨ul, hul⟩ := l.ptr_form
    obtain ⟨ur, hur⟩ := r.ptr_form
    rw [hul] at c2
    have e0 : Co.nodes (.node b k v l r) = Co.nodes l ++ (b, k) :: Co.nodes r := rfl
    have e1 : N = pre ++ Co.nodes l ++ ((b, k) :: Co.nodes r ++ post) := by rw [hN, e0]; simp
    have e2 : N = (pre ++ Co.nodes l ++ [(b, k)]) ++ Co.nodes r ++ post := by rw [hN, e0]; simp
    have hL := ihl pre ((b, k) :: Co.nodes r ++ post) w e1 (fun i w h => (hIn i w h).2.1) hJ
    rw [hul] at hL
    have HL := Lib.hid hL
    have hlt : pre.length + (Co.nodes l).length < N.length := by rw [e1]; simp
    have hat : N[pre.length + (Co.nodes l).length]'hlt = (b, k) := by
      have h1 : N[pre.length + (Co.nodes l).length]? = some (b, k) := by
        rw [e1, ← List.length_append, List.getElem?_append_right (Nat.le_refl _), Nat.sub_self]
        rfl
      rw [List.getElem?_eq_getElem hlt] at h1
      exact Option.some.inj h1
    have hC : ∀ w', J (pre.length + (Co.nodes l).length) w' → Calls Try.prog 25 #[.pointer (some ⟨b, 0, none⟩), p0, p1] w' fun e w'' => e = .returned (.tuple #[]) ∧ J (pre.length + (Co.nodes l).length + 1) w'' := fun w' hw' => by
      have := hc _ hlt w' hw'
      rw [hat] at this
      exact this
    have HC := Lib.hid hC
    have hR : ∀ w', J (pre.length + (Co.nodes l).length + 1) w' → Calls Try.prog 20 #[.pointer ur, .func (.func 25) #[] #[p0, p1]] w' fun e w'' => e = .returned (.tuple #[]) ∧ J (pre.length + (Co.nodes l).length + 1 + (Co.nodes r).length) w'' := fun w' hw' => by
      have hl3 : (pre ++ Co.nodes l ++ [(b, k)]).length = pre.length + (Co.nodes l).length + 1 := by rw [List.length_append, List.length_append, List.length_singleton]
      have := ihr (pre ++ Co.nodes l ++ [(b, k)]) post w' e2 (fun i w h => (hIn i w h).2.2) (by rw [hl3]; exact hw')
      rw [hur, hl3] at this
      exact this
    have HR := Lib.hid hR
    have HX := Lib.hid (fun i w h => (hIn i w h).cells.2.2.2)
    rw [show (Ct.node b k v l r).ptr = .pointer (some ⟨b, 0, none⟩) from rfl]
    have hlen : pre.length + (Co.nodes l).length + 1 + (Co.nodes r).length = pre.length + (Co.nodes (.node b k v l r)).length := by rw [e0]; simp; omega
    have HLEN := Lib.hid hlen
    have HUR := Lib.hid hur
    clear hlen hR hC hat hlt hL e0 e1 e2 hul hur hi0 c0 c1 c3 ihl ihr hN hIn hJ hc
    go_enter Try.func20, Try.ntmps20
    go_wp2_with (first
      | (go_at_call 20; (with_reducible refine useC HL.out ?_); rintro e w1 ⟨rfl, hj⟩; have HJ1 := Lib.hid hj; clear hj HL)
      | (go_at_call 25; (with_reducible refine useC (HC.out w1 HJ1.out) ?_); rintro e w2 ⟨rfl, hj⟩; have HJ2 := Lib.hid hj; clear hj HJ1; have c3 := HX.out _ w2 HJ2.out; rw [HUR.out] at c3)
      | (have h' := HJ2; clear h'; go_at_call 20; (with_reducible refine useC (HR.out w2 HJ2.out) ?_); rintro e w3 ⟨rfl, hj⟩; have HJ3 := Lib.hid hj; clear hj))
    go_returns
    exact ⟨rfl, by rw [← HLEN.out]; exact HJ3.out⟩
end Go.Proofs.Ytbedfffmicbgmaa
