/- The document's answer for package btree: Add. -/
import Derived.Deep.CutRange
import Derived.Test.YtokbhiokcoldbaaDoorBq17
import Derived.Test.YtokbhiokcoldbaaDoorBq18
namespace Go.Proofs.YtokbhiokcoldbaaDoor
open Go.RowKit

/-- Between the steps of Add: suf is done, pre is to come. -/
structure AddI (G : Nat → Prop) (w WA wr : World) (X X2 : Nat) (ns : List Bt.Nn) (x : Int) (root : Nat) (p pre suf : List Nat) (k kid : Int) (g c : Nat) : Prop where
  eq : p = pre ++ suf
  st : (Bt.upw ns x suf).2 = some (k, kid)
  st' : BqW G w wr X X2 (.slice (some ⟨g, 0, none⟩) (Bt.upw ns x suf).1.length c) (Bt.upw ns x suf).1 root
  fa : Fr [X] WA wr
/-- The receiver's variable holds another struct. -/
theorem BqW.put {G : Nat → Prop} {w wr : World} {X X2 : Nat} {a a' : Value} {ns : List Bt.Nn} {r : Nat} {q : Bt.Qt} (h : BqW G w wr X X2 a ns r) (hv : BqV (fun g => G g ∧ g ≠ X ∧ g ≠ X2) wr (.agg #[a', .int .i64 (q.root : Int)]) q) : BqW G w (bqSet wr X a' q.root) X X2 a' q.ns q.root := by
  obtain ⟨a2, e, ht⟩ := hv
  simp only [Value.agg.injEq, Array.mk.injEq, List.cons.injEq] at e
  obtain ⟨rfl, -⟩ := e
  obtain ⟨h1, h2⟩ := bq_set wr X a' q.root h.box
  exact ⟨h1, h2.get h.out (by simpa using h.ne.symm), ht.fr h2 BqW.nX, h.frX h2, h.hG, h.ge, h.ne⟩
/-- Within a step: the node's own variable N with its rows. -/
structure AddN (G : Nat → Prop) (w wr WN : World) (X X2 : Nat) (a : Value) (us : List Bt.Nn) (root N : Nat) (lv cv : Value) (l c : List Int) : Prop where
  bw : BqW G w WN X X2 a us root
  tn : BqT (fun g => G g ∧ g ≠ X ∧ g ≠ X2 ∧ g ≠ N) WN a us
  nb : WN.heap[N]? = some (.cells #[lv, cv] 54 (0, 0))
  rl : RowH (fun g => G g ∧ g ≠ X ∧ g ≠ X2 ∧ g ≠ N) WN lv l
  rc : RowH (fun g => G g ∧ g ≠ X ∧ g ≠ X2 ∧ g ≠ N) WN cv c
  fr : Fr [] wr WN
  ge : wr.heap.size ≤ N
  xs : X < wr.heap.size ∧ X2 < wr.heap.size
section
variable {G : Nat → Prop} {w wr WN W' : World} {X X2 root N : Nat} {a lv cv v : Value} {us : List Bt.Nn} {l c ys : List Int}
theorem AddN.cells (h : AddN G w wr WN X X2 a us root N lv cv l c) : (WN.cell? ⟨N, 0, none⟩ = some lv ∧ WN.cell? ⟨N, 1, none⟩ = some cv) ∧ ∀ i, WN.frozen? ⟨N, i, none⟩ = false := by
  refine ⟨⟨?_, ?_⟩, fun i => free_block h.nb i none⟩ <;> rw [cell_of_row WN N _ _ _ _ h.nb] <;> rfl
theorem AddN.step (h : AddN G w wr WN X X2 a us root N lv cv l c) (hf : Fr [] WN W') : AddN G w wr W' X X2 a us root N lv cv l c :=
  ⟨h.bw.step hf, h.tn.step hf, hf.get h.nb (by simp), h.rl.step hf, h.rc.step hf, h.fr.trans hf, h.ge, h.xs⟩
theorem AddN.new (h : AddN G w wr WN X X2 a us root N lv cv l c) : ∀ k, WN.heap.size ≤ k → (G k ∧ k ≠ X ∧ k ≠ X2 ∧ k ≠ N) := fun k hk => by
  obtain ⟨h1, h2, h3⟩ := h.bw.new k hk
  have := lt_of_heap h.nb
  exact ⟨h1, h2, h3, by omega⟩
theorem AddN.fN (h : AddN G w wr WN X X2 a us root N lv cv l c) (hf : Fr [N] WN W') : BqW G w W' X X2 a us root ∧ BqT (fun g => G g ∧ g ≠ X ∧ g ≠ X2 ∧ g ≠ N) W' a us ∧ Fr [] wr W' := by
  have hS : ∀ g ∈ [N], ¬ (G g ∧ g ≠ X ∧ g ≠ X2 ∧ g ≠ N) := fun g hg hq => hq.2.2.2 (by simpa using hg)
  have ht := h.tn.fr hf hS
  have hx := h.xs
  have hg := h.ge
  have hX : ∀ g ∈ [N], g ≠ X ∧ g ≠ X2 := fun g hm => by simp only [List.mem_singleton] at hm; omega
  exact ⟨⟨hf.get h.bw.box (fun hm => (hX X hm).1 rfl), hf.get h.bw.out (fun hm => (hX X2 hm).2 rfl), ht.mono (fun g _ hq => ⟨hq.1, hq.2.1, hq.2.2.1⟩), h.bw.fr.step hf (fun y hy => .inr (by simp only [List.mem_singleton] at hy; have := h.bw.ge; have := h.bw.lt; have hs := h.bw.fr.size; subst hy; omega)), h.bw.hG, h.bw.ge, h.bw.ne⟩, ht, h.fr.step hf (fun y hy => .inr (by simp only [List.mem_singleton] at hy; subst hy; exact hg))⟩
theorem AddN.setL (h : AddN G w wr WN X X2 a us root N lv cv l c) (hv : RowH (fun g => G g ∧ g ≠ X ∧ g ≠ X2 ∧ g ≠ N) WN v ys) : AddN G w wr (WN.setCell ⟨N, 0, none⟩ v) X X2 a us root N v cv ys c := by
  have hf : Fr [N] WN (WN.setCell ⟨N, 0, none⟩ v) := (Fr.refl _ WN).setCell (.inl (by simp)) _
  obtain ⟨h1, h2, h3⟩ := h.fN hf
  have hS : ∀ g ∈ [N], ¬ (G g ∧ g ≠ X ∧ g ≠ X2 ∧ g ≠ N) := fun g hg hq => hq.2.2.2 (by simpa using hg)
  exact ⟨h1, h2, set_block h.nb v, hv.fr hf hS, h.rc.fr hf hS, h3, h.ge, h.xs⟩
theorem AddN.setC (h : AddN G w wr WN X X2 a us root N lv cv l c) (hv : RowH (fun g => G g ∧ g ≠ X ∧ g ≠ X2 ∧ g ≠ N) WN v ys) : AddN G w wr (WN.setCell ⟨N, 1, none⟩ v) X X2 a us root N lv v l ys := by
  have hf : Fr [N] WN (WN.setCell ⟨N, 1, none⟩ v) := (Fr.refl _ WN).setCell (.inl (by simp)) _
  obtain ⟨h1, h2, h3⟩ := h.fN hf
  have hS : ∀ g ∈ [N], ¬ (G g ∧ g ≠ X ∧ g ≠ X2 ∧ g ≠ N) := fun g hg hq => hq.2.2.2 (by simpa using hg)
  exact ⟨h1, h2, set_block h.nb v, h.rl.fr hf hS, hv.fr hf hS, h3, h.ge, h.xs⟩
/-- Behind a call that hands back a new row. -/
theorem AddN.row (h : AddN G w wr WN X X2 a us root N lv cv l c) {e : Ending} (hn : NewRow ys WN e W') : ∃ A k, e = .returned (.slice A ys.length k) ∧ AddN G w wr W' X X2 a us root N lv cv l c ∧ RowH (fun g => G g ∧ g ≠ X ∧ g ≠ X2 ∧ g ≠ N) W' (.slice A ys.length k) ys := by
  obtain ⟨v, g, rfl, hg, hs, hf⟩ := hn
  obtain ⟨A, o, k, rfl, -, -, -⟩ := hs.form
  exact ⟨A, k, rfl, h.step hf, ⟨g, hg.imp (fun h' => h.new g h') id, hs⟩⟩
end
/-- Two new nodes of a split. -/
structure AddR (wc W : World) (R L : Nat) (rk rc lk lc : Value) (a b c d : List Int) : Prop where
  fr : Fr [] wc W
  rb : W.heap[R]? = some (.cells #[rk, rc] 54 (0, 0))
  lb : W.heap[L]? = some (.cells #[lk, lc] 54 (0, 0))
  ra : RowH (fun g => wc.heap.size ≤ g ∧ g ≠ R ∧ g ≠ L) W rk a
  rb' : RowH (fun g => wc.heap.size ≤ g ∧ g ≠ R ∧ g ≠ L) W rc b
  la : RowH (fun g => wc.heap.size ≤ g ∧ g ≠ R ∧ g ≠ L) W lk c
  lb' : RowH (fun g => wc.heap.size ≤ g ∧ g ≠ R ∧ g ≠ L) W lc d
  ge : wc.heap.size ≤ R ∧ wc.heap.size ≤ L ∧ R ≠ L
section
variable {wc W W' : World} {R L : Nat} {rk rc lk lc v : Value} {a b c d ys : List Int}
theorem AddR.step (h : AddR wc W R L rk rc lk lc a b c d) (hf : Fr [] W W') : AddR wc W' R L rk rc lk lc a b c d :=
  ⟨h.fr.trans hf, hf.get h.rb (by simp), hf.get h.lb (by simp), h.ra.step hf, h.rb'.step hf, h.la.step hf, h.lb'.step hf, h.ge⟩
theorem AddR.cells (h : AddR wc W R L rk rc lk lc a b c d) : ((W.cell? ⟨R, 0, none⟩ = some rk ∧ W.cell? ⟨R, 1, none⟩ = some rc) ∧ W.cell? ⟨L, 0, none⟩ = some lk ∧ W.cell? ⟨L, 1, none⟩ = some lc) ∧ (∀ i, W.frozen? ⟨R, i, none⟩ = false) ∧ ∀ i, W.frozen? ⟨L, i, none⟩ = false := by
  refine ⟨⟨⟨?_, ?_⟩, ?_, ?_⟩, fun i => free_block h.rb i none, fun i => free_block h.lb i none⟩
  · rw [cell_of_row W R _ _ _ _ h.rb]; rfl
  · rw [cell_of_row W R _ _ _ _ h.rb]; rfl
  · rw [cell_of_row W L _ _ _ _ h.lb]; rfl
  · rw [cell_of_row W L _ _ _ _ h.lb]; rfl
theorem AddR.new (h : AddR wc W R L rk rc lk lc a b c d) : ∀ k, W.heap.size ≤ k → (wc.heap.size ≤ k ∧ k ≠ R ∧ k ≠ L) := fun k hk => by
  have := lt_of_heap h.rb
  have := lt_of_heap h.lb
  have := h.fr.size
  exact ⟨by omega, by omega, by omega⟩
theorem AddR.setR (h : AddR wc W R L rk rc lk lc a b c d) (hv : RowH (fun g => wc.heap.size ≤ g ∧ g ≠ R ∧ g ≠ L) W v ys) : AddR wc (W.setCell ⟨R, 1, none⟩ v) R L rk v lk lc a ys c d := by
  have hf : Fr [R] W (W.setCell ⟨R, 1, none⟩ v) := (Fr.refl _ W).setCell (.inl (by simp)) _
  have hS : ∀ g ∈ [R], ¬ (wc.heap.size ≤ g ∧ g ≠ R ∧ g ≠ L) := fun g hg hq => hq.2.1 (by simpa using hg)
  exact ⟨h.fr.setCell (.inr h.ge.1) _, set_block h.rb v, hf.get h.lb (by simpa using h.ge.2.2.symm), h.ra.fr hf hS, hv.fr hf hS, h.la.fr hf hS, h.lb'.fr hf hS, h.ge⟩
theorem AddR.setL (h : AddR wc W R L rk rc lk lc a b c d) (hv : RowH (fun g => wc.heap.size ≤ g ∧ g ≠ R ∧ g ≠ L) W v ys) : AddR wc (W.setCell ⟨L, 1, none⟩ v) R L rk rc lk v a b c ys := by
  have hf : Fr [L] W (W.setCell ⟨L, 1, none⟩ v) := (Fr.refl _ W).setCell (.inl (by simp)) _
  have hS : ∀ g ∈ [L], ¬ (wc.heap.size ≤ g ∧ g ≠ R ∧ g ≠ L) := fun g hg hq => hq.2.2 (by simpa using hg)
  exact ⟨h.fr.setCell (.inr h.ge.2.1) _, hf.get h.rb (by simpa using h.ge.2.2), set_block h.lb v, h.ra.fr hf hS, h.rb'.fr hf hS, h.la.fr hf hS, hv.fr hf hS, h.ge⟩
end
theorem RowH.len {G : Nat → Prop} {w : World} {A : Option Addr} {n c : Nat} {xs : List Int} (h : RowH G w (.slice A n c) xs) : n = xs.length := by
  obtain ⟨A', g, o, c', e, -⟩ := h.form
  injection e
/-- The left one, when the receiver's variable has been stored to. -/
theorem AddR.left {wc W W' : World} {R L X : Nat} {rk rc lk lc : Value} {a b c d : List Int} (h : AddR wc W R L rk rc lk lc a b c d) (hf : Fr [X] W W') (hX : X < wc.heap.size) : W'.heap[L]? = some (.cells #[lk, lc] 54 (0, 0)) ∧ RowH (fun g => wc.heap.size ≤ g ∧ g ≠ R ∧ g ≠ L) W' lk c ∧ RowH (fun g => wc.heap.size ≤ g ∧ g ≠ R ∧ g ≠ L) W' lc d := by
  have hS : ∀ g ∈ [X], ¬ (wc.heap.size ≤ g ∧ g ≠ R ∧ g ≠ L) := fun g hg hq => by simp only [List.mem_singleton] at hg; subst hg; omega
  exact ⟨hf.get h.lb (by have := h.ge.2.1; simp; omega), h.la.fr hf hS, h.lb'.fr hf hS⟩
theorem ins_zero (l : List Int) : Bt.ins l 0 0 = 0 :: l := rfl
/-- What put hands back, cut behind its first number. -/
theorem NewRow.tail {ys : List Int} {W W' : World} {e : Ending} (h : NewRow (Bt.ins ys 0 0) W e W') : ∃ g o k, e = .returned (.slice (some ⟨g, o, none⟩) (ys.length + 1) k) ∧ ys.length + 1 ≤ k ∧ RowH (W.heap.size ≤ ·) W' (.slice (some ⟨g, o + 1, none⟩) ys.length (k - 1)) ys ∧ Fr [] W W' := by
  obtain ⟨v, g, rfl, hg, hs, hf⟩ := h
  rw [ins_zero] at hs hg
  rcases id hs with ⟨h0, -⟩ | ⟨o, k, rfl, hk, hm, -⟩
  · cases h0
  · have hr := hs.rest (m := 1) (by simp)
    simp only [List.length_cons, Nat.add_sub_cancel, List.drop_succ_cons, List.drop_zero] at hr
    exact ⟨g, o, k, rfl, by simpa using hk, ⟨g, .inl (hg.resolve_right (by simp)), hr⟩, hf⟩
theorem upw_step {ns : List Bt.Nn} {x : Int} {suf : List Nat} {k kid : Int} (j : Nat) (h : (Bt.upw ns x suf).2 = some (k, kid)) : Bt.upw ns x (j :: suf) = Bt.body (Bt.upw ns x suf).1 j k kid := by
  show (match Bt.upw ns x suf with | (ns', none) => (ns', none) | (ns', some (k, kid)) => Bt.body ns' j k kid) = _
  rcases hu : Bt.upw ns x suf with ⟨ns', o⟩
  rw [hu] at h
  dsimp only at h
  subst h
  rfl
theorem upw_stop {ns : List Bt.Nn} {x : Int} {suf : List Nat} (h : (Bt.upw ns x suf).2 = none) : ∀ (pre : List Nat), Bt.upw ns x (pre ++ suf) = Bt.upw ns x suf
  | [] => rfl
  | a :: pre => by
    show (match Bt.upw ns x (pre ++ suf) with | (ns', none) => (ns', none) | (ns', some (k, kid)) => Bt.body ns' a k kid) = _
    rw [upw_stop h pre]
    rcases hu : Bt.upw ns x suf with ⟨ns', o⟩
    rw [hu] at h
    dsimp only at h
    subst h
    rfl
set_option maxRecDepth 100000 in
set_option maxHeartbeats 8000000 in
theorem bq_Add (w : World) (G : Nat → Prop) (v : Value) (q : Bt.Qt) (d lo : Nat) (t : Bt.T d) (F : List Nat) (x : Int) (hv : BqV G w v q) (hr : Bt.Rep d q.ns q.root t F) (hn : F.Nodup) (hk : Bt.Ok d lo t) (hu : Bt.Up (Bt.all d t)) (hx : x ∉ Bt.all d t) (hd : d ≤ 10) (hl : q.ns.length ≤ 500) (hsm : Bt.Small 900 q.ns) (hG : ∀ k, w.heap.size ≤ k → G k) :
    Calls Tryd.prog 22 #[v, .int .i64 x] w (BqA G (q.put d x) w) := by
  obtain ⟨g, c, rfl, hT⟩ := hv.form
  have HFD := Lib.hid (fun pre suf j k kid h1 h2 => Bt.found d lo q.ns q.root t F x hr hn hk hu hx pre suf j k kid h1 h2)
  have HW := Lib.hid (fun W G' (h : BqV G' W (.agg #[.slice (some ⟨g, 0, none⟩) q.ns.length c, .int .i64 (q.root : Int)]) q) => bq_way W G' _ q d lo t F x h hr hk hd (by omega) (fun i => by have := (hsm i).1; omega))
  have HQP : Hid (q.put d x = q.top (Bt.upw q.ns x (Bt.path q.ns x d q.root))) := rfl
  have HPL := Lib.hid (Bt.path_len q.ns x d q.root)
  have HSM := Lib.hid (fun l => Bt.upw_small (x := x) hsm l)
  have HUL := Lib.hid (fun l => Bt.upw_len (ns := q.ns) (x := x) l)
  have HRT := Lib.hid (hr.lt _ hr.self)
  obtain ⟨qp, hqp⟩ : ∃ z, q.put d x = z := ⟨_, rfl⟩
  rw [hqp] at HQP ⊢
  obtain ⟨p, hp⟩ : ∃ z, Bt.path q.ns x d q.root = z := ⟨_, rfl⟩
  rw [hp] at HFD HW HQP HPL
  obtain ⟨D, hD⟩ : ∃ z, d + 1 = z := ⟨_, rfl⟩
  rw [hD] at HPL
  have hDb : 1 ≤ D ∧ D ≤ 11 := by omega
  obtain ⟨_, hf2, y0, y1⟩ := lq_two' w (.cells #[.slice (some ⟨g, 0, none⟩) q.ns.length c, .int .i64 (q.root : Int)] 47) (.cells #[.slice none 0 0, .int .i64 0] 47)
  have HU : Hid (BqW G w _ w.heap.size (w.heap.size + 1) (.slice (some ⟨g, 0, none⟩) q.ns.length c) q.ns q.root) := ⟨y0, y1, (hT.mono (fun g hg h => ⟨h, by omega, by omega⟩)).step hf2, hf2, hG, ⟨Nat.le_refl _, Nat.le_succ _⟩, by omega⟩
  clear hv hT hr hn hk hu hx hsm hG hqp hp y0 y1 hf2 hD hd
  go_enter Tryd.func22, Tryd.ntmps22
  go_upto_region 1 with (fail)
  revert HU
  generalize (w.alloc (.cells #[.slice (some ⟨g, 0, none⟩) q.ns.length c, .int .i64 (q.root : Int)] 47)).alloc (.cells #[.slice none 0 0, .int .i64 0] 47) = W0
  generalize w.heap.size + 1 = X2
  generalize w.heap.size = X
  intro HU
  obtain ⟨⟨b0, b1⟩, hfx⟩ := HU.out.cells
  have HWW := Lib.hid (HW.out W0 _ HU.out.val)
  go_wp2_with (go_at_call 59; (with_reducible refine useC HWW.out ?_); rintro e w1 ⟨v1, g1, rfl, hg1, hs1, hf1⟩; obtain ⟨A1, o1, c1, hv1, -, hA1, hc1⟩ := hs1.form; rw [List.length_map, HPL.out] at hv1 hA1 hc1; subst hv1; have HU1 := Lib.hid (HU.out.step hf1); have HG1 := Lib.hid (hg1.resolve_right (fun h => by have := congrArg List.length h; rw [List.length_map, HPL.out] at this; simp at this; omega)); have HA1 := Lib.hid (hA1 (by omega)); have HC1 := Lib.hid hc1; clear hs1 hf1 hg1 hA1 hc1)
  have HI0 : Hid (AddI G w w1 w1 X X2 q.ns x q.root p p [] x (-1) g c) := ⟨by simp, rfl, HU1.out, Fr.refl _ _⟩
  obtain rfl := HA1.out
  have HGX : Hid (g1 ≠ X) := by have := HU.out.lt; have := HG1.out; show _ ≠ _; omega
  have HX2 := Lib.hid HU.out.ne
  clear HU HU1 HWW HW
  go_loopw [1, 6, 7] (fun kv kd iv wr => ∃ pre suf k kid g c, kv = .int .i64 k ∧ kd = .int .i64 kid ∧ iv = .int .i64 (((pre : List Nat).length : Int) - 1) ∧ Hid (AddI G w w1 wr X X2 q.ns x q.root p pre suf k kid g c)) (fun _ _ iv _ => (intOf iv + 1).toNat)
  case atStart => exact ⟨p, [], x, -1, g, c, rfl, rfl, by rw [HPL.out]; try go_num, HI0⟩
  case round =>
    clear HI0
    obtain ⟨pre, suf, k, kid, g, c, rfl, rfl, rfl, hI⟩ := hrel
    have HI := Lib.hid hI.out
    have hplen : pre.length + suf.length = D := by have h1 := congrArg List.length HI.out.eq; rw [List.length_append, HPL.out] at h1; omega
    clear hI
    rcases List.eq_nil_or_concat pre with rfl | ⟨pre', j, rfl⟩
    · rw [show (([] : List Nat).length : Int) - 1 = -1 from rfl]
      have HTOP : Hid (qp = ⟨(Bt.upw q.ns x suf).1 ++ [([k], [(q.root : Int), kid])], (Bt.upw q.ns x suf).1.length⟩) := by
        have h1 := HI.out.st
        have h2 : p = suf := HI.out.eq
        show _ = _
        rw [HQP.out, h2]
        unfold Bt.Qt.top
        rw [h1]
      have hus := HUL.out suf
      have hW := Lib.hid HI.out.st'
      clear HI
      generalize (Bt.upw q.ns x suf).1 = us at *
      obtain ⟨⟨b0, b1⟩, hfx⟩ := hW.out.cells
      obtain ⟨l1, l2⟩ := hW.out.lt
      have hle : us.length ≤ 600 := by simp at hplen; omega
      have f2 : Fr [] wr ((wr.alloc (.cells #[.int .i64 k] 3)).alloc (.cells #[.int .i64 (q.root : Int), .int .i64 kid] 3)) := ((Fr.refl [] wr).alloc _).alloc _
      have HWI : Hid (Calls Tryd.prog 62 #[.agg #[.slice (some ⟨g, 0, none⟩) us.length c, .int .i64 (q.root : Int)], .int .i64 (us.length : Int), .agg #[.slice (some ⟨wr.heap.size, 0, none⟩) 1 1, .slice (some ⟨wr.heap.size + 1, 0, none⟩) 2 2]] ((wr.alloc (.cells #[.int .i64 k] 3)).alloc (.cells #[.int .i64 (q.root : Int), .int .i64 kid] 3)) (BqA (fun g => G g ∧ g ≠ X ∧ g ≠ X2) ⟨us ++ [([k], [(q.root : Int), kid])], q.root⟩ ((wr.alloc (.cells #[.int .i64 k] 3)).alloc (.cells #[.int .i64 (q.root : Int), .int .i64 kid] 3)))) := by
        have h1 := sl_lit1 wr k
        have h2 := sl_lit2 (wr.alloc (.cells #[.int .i64 k] 3)) (q.root : Int) kid
        have hs : (wr.alloc (.cells #[.int .i64 k] 3)).heap.size = wr.heap.size + 1 := by simp
        rw [hs] at h2
        have h3 := bq_with _ (fun g => G g ∧ g ≠ X ∧ g ≠ X2) _ ⟨us, q.root⟩ us.length ([k], [(q.root : Int), kid]) (some ⟨wr.heap.size, 0, none⟩) 1 (some ⟨wr.heap.size + 1, 0, none⟩) 2 ((hW.out.step f2).val) ⟨wr.heap.size, .inl (hW.out.new _ (Nat.le_refl _)), h1.fr ((Fr.refl [] _).alloc _) (by simp)⟩ ⟨wr.heap.size + 1, .inl (hW.out.new _ (Nat.le_succ _)), h2⟩ (Nat.le_refl _) (by show us.length ≤ 1000; omega) (hW.out.step f2).new
        rw [show Bt.withN (Bt.Qt.ns ⟨us, q.root⟩) us.length ([k], [(q.root : Int), kid]) = us ++ [([k], [(q.root : Int), kid])] from Bt.withN_end us _] at h3
        exact h3
      have HF2 := Lib.hid f2
      clear f2
      go_upto_region 24 with (go_at_call 62; (refine useC HWI.out ?_); rintro e w4 ⟨v4, rfl, hv4, hf4⟩; obtain ⟨g4, c4, hv', -⟩ := hv4.form; subst hv'; have HU4 := Lib.hid (hW.out.step (HF2.out.trans hf4)); have HP4 := Lib.hid (HU4.out.put hv4); obtain ⟨⟨b0', b1'⟩, hfx'⟩ := HU4.out.cells; clear hv4 hf4)
      unfold bqSet at HP4
      rw [show (us ++ [([k], [(q.root : Int), kid])]).length = us.length + 1 by simp] at HP4
      revert HP4
      generalize (w4.setCell ⟨X, 0, none⟩ (.slice (some ⟨g4, 0, none⟩) (us.length + 1) c4)).setCell ⟨X, 1, none⟩ (.int .i64 (q.root : Int)) = w5
      intro HP4
      clear b0 b1 hfx b0' b1' hfx' l1 l2
      obtain ⟨⟨b0, b1⟩, hfx⟩ := HP4.out.cells
      go_upto_region 25 with (fail)
      have HP6 := Lib.hid (HP4.out.setR us.length)
      revert HP6
      generalize w5.setCell ⟨X, 1, none⟩ (.int .i64 (us.length : Int)) = w6
      intro HP6
      clear b0 b1 hfx
      obtain ⟨⟨b0, b1⟩, hfx⟩ := HP6.out.cells
      obtain ⟨⟨e0, e1⟩, hfo⟩ := HP6.out.outs
      go_wp2
      rw [HTOP.out]
      exact bodyPost_ret (v := .agg #[.slice (some ⟨g4, 0, none⟩) (us.length + 1) c4, .int .i64 (us.length : Int)]) (bq_results Tryd.results22 rfl (HP6.out.finV (q := ⟨us ++ [([k], [(q.root : Int), kid])], us.length⟩) HP6.out.val).1) rfl ⟨_, rfl, (HP6.out.finV (q := ⟨us ++ [([k], [(q.root : Int), kid])], us.length⟩) HP6.out.val).2.1, (HP6.out.finV (q := ⟨us ++ [([k], [(q.root : Int), kid])], us.length⟩) HP6.out.val).2.2⟩
    · rw [List.concat_eq_append] at HI hplen ⊢
      have hm : (((pre' ++ [j]).length : Nat) : Int) - 1 = (pre'.length : Int) := by simp
      rw [hm]
      have heq : p = pre' ++ j :: suf := by rw [HI.out.eq]; simp
      have HFO := Lib.hid (HFD.out pre' suf j k kid heq HI.out.st)
      have hmd : pre'.length < D := by simp at hplen; omega
      have hway : ∀ W, Fr [X] w1 W → W.cell? ⟨g1, o1 + pre'.length, none⟩ = some (.int .i64 (j : Int)) := fun W hW => by
        have h1 := hW.cell (HC1.out pre'.length hmd) (by simp; exact HGX.out)
        rw [show nth (p.map (fun i : Nat => (i : Int))) pre'.length = (j : Int) by rw [heq]; simp [nth, List.getD]] at h1
        exact h1
      have HWAY := Lib.hid hway
      clear hway
      have HW := Lib.hid HI.out.st'
      have HFA := Lib.hid HI.out.fa
      have HST := Lib.hid HI.out.st
      have hus := HUL.out suf
      have hsm := HSM.out suf j
      have hlt := HFO.out.lt
      have HSTEP := Lib.hid (upw_step j HI.out.st)
      have HKD := HFO.out.kids
      rw [← HFO.out.same] at HKD
      obtain ⟨us, hu⟩ : ∃ z, (Bt.upw q.ns x suf).1 = z := ⟨_, rfl⟩
      rw [hu] at HW hus hsm hlt HSTEP HKD
      have HEQ := Lib.hid heq
      clear HFO hu heq
      obtain ⟨vs, -, hS⟩ := HW.out.ta.op
      obtain ⟨A2, k2, A3, k3, q2, q3, r2, r3⟩ := hS.at hlt
      obtain ⟨nn, hnn⟩ : ∃ z, Bt.nd us j = z := ⟨_, rfl⟩
      rw [hnn] at q2 q3 r2 r3 hsm HKD
      have HNN := Lib.hid hnn
      obtain ⟨k0, c0⟩ := nn
      dsimp only at q2 q3 r2 r3 hsm HKD
      have HKD := Lib.hid HKD
      have HQ : Hid (∀ W, Fr [] wr W → W.cell? ⟨X, 0, none⟩ = some (.slice (some ⟨g, 0, none⟩) us.length c) ∧ W.cell? ⟨g1, o1 + pre'.length, none⟩ = some (.int .i64 (j : Int)) ∧ W.cell? ⟨g, j * 2, none⟩ = some (.slice A2 k0.length k2) ∧ W.cell? ⟨g, j * 2 + 1, none⟩ = some (.slice A3 c0.length k3)) := fun W hW => ⟨(HW.out.step hW).cells.1.1, HWAY.out W (HFA.out.step hW (by simp)), hW.cell q2 (by simp), hW.cell q3 (by simp)⟩
      have R2 := Lib.hid r2
      have R3 := Lib.hid r3
      have m0 : (0 : Int) ≤ pre'.length := by omega
      have mI : (pre'.length : Int) < (D : Int) := by omega
      have j0 : (0 : Int) ≤ j := by omega
      have jI : (j : Int) < us.length := by omega
      have hule : us.length ≤ 600 := by simp at hplen; omega
      have hk0 : k0.length ≤ 1200 ∧ c0.length ≤ 1200 := by simp at hplen; omega
      have mg : ((pre'.length : Int) ≥ 0) = True := eq_true m0
      clear hS q2 q3 r2 r3 hnn hsm hus HI
      go_wp2_with fail
      (refine wp_region_mix (Fr [] wr ·) 9 [(true, 0), (true, 1), (true, 2), (true, 3), (true, 4), (true, 5), (true, 6), (true, 7), (false, 8)] (by kernel_rfl) (by kernel_rfl) ((Fr.refl _ _).drew) ?_; simp only [pickOps, List.map_cons, List.map_nil, List.getD_cons_zero, List.getD_cons_succ, List.drop_succ_cons, List.drop_zero])
      (iterate 8 (first | (refine wpMix_take (v := ?_) (by rfl) ?_ ?_; rotate_left; (focus (intro W hW; obtain ⟨b0, q1, q2, q3⟩ := HQ.out W hW; go_simp; (try with_reducible rfl); done)); try simp only [Act.put, List.setIfInBounds_toArray, List.set_cons_zero, List.set_cons_succ]) | (refine wpMix_leave (by rfl) ?_; try simp only [Act.put, List.setIfInBounds_toArray, List.set_cons_zero, List.set_cons_succ])))
      refine wpMix_walk ?_
      go_wp2
      refine MixQ.mk (((Fr.refl _ _).drew).alloc _) ?_
      refine wpMix_nil ?_
      go_upto_region 7 with (fail)
      have HN : Hid (AddN G w wr (wr.alloc (.cells #[.slice A2 k0.length k2, .slice A3 c0.length k3] 54)).drew X X2 (.slice (some ⟨g, 0, none⟩) us.length c) us q.root wr.heap.size (.slice A2 k0.length k2) (.slice A3 c0.length k3) k0 c0) := by
        have hf : Fr [] wr (wr.alloc (.cells #[.slice A2 k0.length k2, .slice A3 c0.length k3] 54)).drew := ((Fr.refl [] wr).alloc _).drew
        have hd : Fr [] (wr.alloc (.cells #[.slice A2 k0.length k2, .slice A3 c0.length k3] 54)) (wr.alloc (.cells #[.slice A2 k0.length k2, .slice A3 c0.length k3] 54)).drew := (Fr.refl [] _).drew
        exact ⟨HW.out.step hf, (HW.out.ta.mono (fun g hg hq => ⟨hq.1, hq.2.1, hq.2.2, by omega⟩)).step hf, hd.get (heap_alloc_new wr _) (by simp), (R2.out.mono (fun g hg hq => ⟨hq.1, hq.2.1, hq.2.2, by omega⟩)).step hf, (R3.out.mono (fun g hg hq => ⟨hq.1, hq.2.1, hq.2.2, by omega⟩)).step hf, hf, Nat.le_refl _, HW.out.lt⟩
      revert HN
      generalize (wr.alloc (.cells #[.slice A2 k0.length k2, .slice A3 c0.length k3] 54)).drew = WN
      generalize wr.heap.size = N
      intro HN
      clear HQ R2 R3
      obtain ⟨⟨n0, n1⟩, hfn⟩ := HN.out.cells
      have HUN := Lib.hid (bq_under WN _ _ k0 k HN.out.rl (by omega))
      have hul : Bt.und k0 k ≤ k0.length := Bt.und_le k0 k
      have HBODY : Hid (Bt.body us j k kid = if (Bt.ins k0 (Bt.und k0 k) k).length ≤ 4 then (us.set j (Bt.ins k0 (Bt.und k0 k) k, if 0 ≤ kid then Bt.ins c0 (Bt.und k0 k + 1) kid else c0), none) else ((us ++ [((Bt.ins k0 (Bt.und k0 k) k).drop 3, (if 0 ≤ kid then Bt.ins c0 (Bt.und k0 k + 1) kid else c0).drop 3)]).set j ((Bt.ins k0 (Bt.und k0 k) k).take 2, (if 0 ≤ kid then Bt.ins c0 (Bt.und k0 k + 1) kid else c0).take 3), some ((Bt.ins k0 (Bt.und k0 k) k).getD 2 0, (us.length : Int)))) := by
        show _ = _
        unfold Bt.body
        rw [HNN.out]
      generalize Bt.und k0 k = u at *
      have HPU := Lib.hid (bq_put WN _ _ k0 u k HN.out.rl hul (by omega))
      have HLL := Lib.hid (Bt.ins_len k0 u k hul)
      generalize Bt.ins k0 u k = l at *
      go_upto_region 9 with (first
        | (go_at_call 60; (with_reducible refine useC HUN.out ?_); rintro e w4 ⟨rfl, rfl⟩)
        | (have h' := HPU; go_at_call 61; (with_reducible refine useC HPU.out ?_); rintro e w5 hn; obtain ⟨A5, k5, he, ha, hr⟩ := HN.out.row hn; subst he; have HN5 := Lib.hid ha; have HN6 := Lib.hid (ha.setL hr); clear hn ha hr h' n0 n1 hfn; obtain ⟨⟨n0, n1⟩, hfn⟩ := HN5.out.cells))
      revert HN6
      generalize w5.setCell ⟨N, 0, none⟩ (.slice A5 l.length k5) = w6
      intro HN6
      clear n0 n1 hfn HN5 HN HUN HPU
      obtain ⟨⟨n0, n1⟩, hfn⟩ := HN6.out.cells
      obtain ⟨cc, hcc⟩ : ∃ z, (if 0 ≤ kid then Bt.ins c0 (u + 1) kid else c0) = z := ⟨_, rfl⟩
      rw [hcc] at HBODY
      have HCC := Lib.hid hcc
      clear hcc
      go_upto_if 42 with (fail)
      go_cut [] from 23 to 106 (fun wc => ∃ C5 k6, Hid (AddN G w wr wc X X2 (.slice (some ⟨g, 0, none⟩) us.length c) us q.root N (.slice A5 l.length k5) (.slice C5 cc.length k6) l cc))
      case first =>
        by_cases hkd : 0 ≤ kid
        · have hg1 : (kid ≥ 0) = True := eq_true hkd
          have hg2 : decide (0 ≤ kid) = true := decide_eq_true hkd
          have hcl : c0.length = k0.length + 1 := (HKD.out.resolve_left (fun h => by omega)).1
          have hce : cc = Bt.ins c0 (u + 1) kid := by rw [← HCC.out, if_pos hkd]
          have hpc := bq_put w6 _ _ c0 (u + 1) kid HN6.out.rc (by omega) (by omega)
          rw [← hce, show ((u + 1 : Nat) : Int) = (u : Int) + 1 from rfl] at hpc
          have HPC := Lib.hid hpc
          have hw : IntKind.i64.wrap ((u : Int) + 1) = (u : Int) + 1 := by rw [IntKind.wrap_i64]; omega
          clear hpc hce hcl
          go_wp2_with (go_at_call 61; (with_reducible refine useC HPC.out ?_); rintro e w7 hn; obtain ⟨C5, k6, he, ha, hr⟩ := HN6.out.row hn; subst he; have HN7 := Lib.hid ha; have HN8 := Lib.hid (ha.setC hr); clear hn ha hr n0 n1 hfn; obtain ⟨⟨n0, n1⟩, hfn⟩ := HN7.out.cells)
          go_meet
          case rel => exact ⟨C5, k6, HN8⟩
        · have hg1 : (kid ≥ 0) = False := eq_false (by omega)
          have hg2 : decide (0 ≤ kid) = false := decide_eq_false hkd
          have hce : cc = c0 := by rw [← HCC.out, if_neg hkd]
          have HCE := Lib.hid hce
          clear hce
          go_wp2
          go_meet
          case rel => exact ⟨A3, k3, by show AddN _ _ _ _ _ _ _ _ _ _ _ _ _ _; rw [HCE.out]; exact HN6.out⟩
      case rest =>
        obtain ⟨C5, k6, HN7⟩ := hcut
        clear n0 n1 hfn HN6
        obtain ⟨⟨n0, n1⟩, hfn⟩ := HN7.out.cells
        by_cases h4 : l.length ≤ 4
        · have hb4 : ((l.length : Int) ≤ 4) = True := eq_true (by omega)
          have hb4' : decide ((l.length : Int) ≤ 4) = true := decide_eq_true (by omega)
          have HB := Lib.hid (HBODY.out.trans (if_pos h4))
          have HTOP : Hid (qp = ⟨us.set j (l, cc), q.root⟩) := by
            have h1 := HSTEP.out.trans HB.out
            have h2 : (Bt.upw q.ns x (j :: suf)).2 = none := by rw [h1]
            have h3 := upw_stop h2 pre'
            show _ = _
            rw [HQP.out, HEQ.out, h3, h1]
            rfl
          have hw4 : (l.length : Int) ≤ 4 := by omega
          have hd := (Fr.refl [] wc).drew
          have hwi := bq_with wc.drew _ _ ⟨us, q.root⟩ j (l, cc) A5 k5 C5 k6 ((HN7.out.bw.step hd).val) ((HN7.out.rl.step hd).mono (fun g _ hq => ⟨hq.1, hq.2.1, hq.2.2.1⟩)) ((HN7.out.rc.step hd).mono (fun g _ hq => ⟨hq.1, hq.2.1, hq.2.2.1⟩)) (Nat.le_of_lt hlt) (by show us.length ≤ 1000; omega) (HN7.out.bw.step hd).new
          rw [show Bt.withN (Bt.Qt.ns ⟨us, q.root⟩) j (l, cc) = us.set j (l, cc) from Bt.withN_set hlt] at hwi
          have HWI := Lib.hid hwi
          have HBW := Lib.hid (HN7.out.bw.step hd)
          obtain ⟨⟨b0, b1⟩, hfx⟩ := HN7.out.bw.cells
          have q1 := HWAY.out wc (HFA.out.step HN7.out.fr (by simp))
          clear hwi hd
          go_wp2_with fail
          (refine wp_region_mixq 6 [(true, 0), (true, 1), (true, 2), (true, 3), (true, 4), (true, 5)] (by kernel_rfl) (by kernel_rfl) ?_; simp only [pickOps, List.map_cons, List.map_nil, List.getD_cons_zero, List.getD_cons_succ, List.drop_succ_cons, List.drop_zero]; (iterate 6 (first | (refine wpMix_take (v := ?_) (by rfl) ?_ ?_; rotate_left; (focus (intro W hW; subst hW; go_simp; (try with_reducible rfl); done)); try simp only [Act.put, List.setIfInBounds_toArray, List.set_cons_zero, List.set_cons_succ]) | (refine wpMix_leave (by rfl) ?_; try simp only [Act.put, List.setIfInBounds_toArray, List.set_cons_zero, List.set_cons_succ]))); refine wpMix_nil ?_)
          go_wp2_with (go_at_call 62; (refine useC HWI.out ?_); rintro e w9 ⟨v9, rfl, hv9, hf9⟩; obtain ⟨g9, c9, hv', -⟩ := hv9.form; subst hv'; have HU9 := Lib.hid (HBW.out.step hf9); simp only [List.length_set] at hv9; have HV9 := Lib.hid hv9; clear hv9 hf9; obtain ⟨⟨e0, e1⟩, hfo⟩ := HU9.out.outs)
          rw [HTOP.out]
          exact bodyPost_ret (v := .agg #[.slice (some ⟨g9, 0, none⟩) us.length c9, .int .i64 (q.root : Int)]) (bq_results Tryd.results22 rfl (HU9.out.finV (q := ⟨us.set j (l, cc), q.root⟩) HV9.out).1) rfl ⟨_, rfl, (HU9.out.finV (q := ⟨us.set j (l, cc), q.root⟩) HV9.out).2.1, (HU9.out.finV (q := ⟨us.set j (l, cc), q.root⟩) HV9.out).2.2⟩
        · have hl5 : 5 ≤ l.length := by omega
          have hlb : l.length ≤ 1201 := by have := HLL.out; omega
          have hb4 : ¬ (l.length : Int) ≤ 4 := by omega
          have HB := Lib.hid (HSTEP.out.trans (HBODY.out.trans (if_neg h4)))
          obtain ⟨gl, hgl, hsl⟩ := HN7.out.rl
          obtain ⟨o5, k5', e5, hk5, -, hc5⟩ : ∃ o c, (Value.slice A5 l.length k5) = .slice (some ⟨gl, o, none⟩) l.length c ∧ l.length ≤ c ∧ c ≤ maxLen ∧ ∀ i, i < l.length → wc.cell? ⟨gl, o + i, none⟩ = some (.int .i64 (nth l i)) := by
            rcases hsl with ⟨h0, -⟩ | h0
            · rw [h0] at hl5; simp at hl5
            · exact h0
          injection e5 with e51 _ e53
          subst e51 e53
          have q5 := hc5 2 (by omega)
          have hgd : nth l 2 = l.getD 2 0 := rfl
          rw [hgd] at q5
          obtain ⟨y, hy⟩ : ∃ z, l.getD 2 0 = z := ⟨_, rfl⟩
          rw [hy] at q5 HB
          obtain ⟨n3, hn3⟩ : ∃ z, l.length - 3 = z := ⟨_, rfl⟩
          have hdl : (l.drop 3).length = n3 := by rw [List.length_drop]; exact hn3
          have htl : (l.take 2).length = 2 := by rw [List.length_take]; omega
          have HP3 : Hid (∀ W, Fr [] wc W → Calls Tryd.prog 61 #[.slice (some ⟨gl, o5 + 3, none⟩) n3 (k5 - 3), .int .i64 0, .int .i64 0] W (NewRow (Bt.ins (l.drop 3) 0 0) W)) := fun W hW => by
            have h1 := (hsl.fr hW (by simp)).rest (m := 3) (by omega)
            rw [hn3] at h1
            exact bq_put W (fun _ => True) _ (l.drop 3) 0 0 ⟨gl, .inl trivial, h1⟩ (Nat.zero_le _) (by omega)
          have HP2 : Hid (∀ W, Fr [] wc W → Calls Tryd.prog 61 #[.slice (some ⟨gl, o5, none⟩) 2 k5, .int .i64 0, .int .i64 0] W (NewRow (Bt.ins (l.take 2) 0 0) W)) := fun W hW => bq_put W (fun _ => True) _ (l.take 2) 0 0 ⟨gl, .inl trivial, (hsl.fr hW (by simp)).cut (by omega)⟩ (Nat.zero_le _) (by omega)
          have l2 : (2 : Int) < l.length := by omega
          have l3 : (3 : Int) ≤ l.length := by omega
          have l5 : (5 : Int) ≤ l.length := by omega
          have k53 : (l.length : Int) ≤ k5 := by omega
          have kk : 5 ≤ k5 := by omega
          have HNC := Lib.hid (fun W (hW : Fr [] wc W) => (HN7.out.step hW).cells)
          have szN : N < wc.heap.size := lt_of_heap HN7.out.nb
          clear hgl hsl hc5 hgd hy
          go_upto_region 15 with (go_at_call 61; (refine useC (HP3.out wc (Fr.refl _ _)) ?_); rintro e w8 hn; obtain ⟨g6, o6, k6', he, hk6, hr6, hf6⟩ := hn.tail; rw [hdl] at he hr6 hk6; subst he; have HF8 := Lib.hid hf6; have HR8 := Lib.hid hr6; clear hn hr6 hf6 n0 n1 hfn; obtain ⟨⟨n0, n1⟩, hfn⟩ := HNC.out w8 HF8.out)
          have HFR : Hid (Fr [] wc (w8.alloc (.cells #[.slice (some ⟨g6, o6 + 1, none⟩) n3 (k6' - 1), .slice none 0 0] 54))) := HF8.out.alloc _
          have HRB := Lib.hid (heap_alloc_new w8 (.cells #[.slice (some ⟨g6, o6 + 1, none⟩) n3 (k6' - 1), .slice none 0 0] 54))
          have HRK : Hid (RowH (fun g => wc.heap.size ≤ g ∧ g ≠ w8.heap.size) (w8.alloc (.cells #[.slice (some ⟨g6, o6 + 1, none⟩) n3 (k6' - 1), .slice none 0 0] 54)) (.slice (some ⟨g6, o6 + 1, none⟩) n3 (k6' - 1)) (l.drop 3)) := (HR8.out.mono (fun g hg hq => ⟨hq, by omega⟩)).step ((Fr.refl _ _).alloc _)
          have HRS := Lib.hid HF8.out.size
          revert HFR HRB HRK HRS
          generalize w8.alloc (.cells #[.slice (some ⟨g6, o6 + 1, none⟩) n3 (k6' - 1), .slice none 0 0] 54) = WR
          generalize w8.heap.size = R
          intro HFR HRB HRK HRS
          clear n0 n1 hfn HR8 HF8
          obtain ⟨⟨n0, n1⟩, hfn⟩ := HNC.out WR HFR.out
          go_upto_region 16 with (go_at_call 61; (refine useC (HP2.out WR HFR.out) ?_); rintro e w9 hn; obtain ⟨g7, o7, k7, he, hk7, hr7, hf7⟩ := hn.tail; rw [htl] at he hr7 hk7; subst he; have HF9 := Lib.hid hf7; have HR9 := Lib.hid hr7; clear hn hr7 hf7 n0 n1 hfn; obtain ⟨⟨n0, n1⟩, hfn⟩ := HNC.out w9 (HFR.out.trans HF9.out))
          have HAR : Hid (AddR wc (w9.alloc (.cells #[.slice (some ⟨g7, o7 + 1, none⟩) 2 (k7 - 1), .slice none 0 0] 54)) R w9.heap.size (.slice (some ⟨g6, o6 + 1, none⟩) n3 (k6' - 1)) (.slice none 0 0) (.slice (some ⟨g7, o7 + 1, none⟩) 2 (k7 - 1)) (.slice none 0 0) (l.drop 3) [] (l.take 2) []) := by
            have hrs := HRS.out
            have hrl := lt_of_heap HRB.out
            have h9 := HF9.out.size
            have ha : Fr [] w9 (w9.alloc (.cells #[.slice (some ⟨g7, o7 + 1, none⟩) 2 (k7 - 1), .slice none 0 0] 54)) := (Fr.refl _ _).alloc _
            refine ⟨(HFR.out.trans HF9.out).trans ha, (HF9.out.trans ha).get HRB.out (by simp), heap_alloc_new w9 _, (HRK.out.mono (fun g hg hq => ⟨hq.1, hq.2, by omega⟩)).step (HF9.out.trans ha), ⟨0, .inr rfl, .inl ⟨rfl, none, 0, rfl⟩⟩, (HR9.out.mono (fun g hg hq => ⟨?_, ?_, ?_⟩)).step ha, ⟨0, .inr rfl, .inl ⟨rfl, none, 0, rfl⟩⟩, hrs, ?_, ?_⟩
            · have := HFR.out.size; omega
            · omega
            · omega
            · have := HFR.out.size; omega
            · omega
          revert HAR
          generalize w9.alloc (.cells #[.slice (some ⟨g7, o7 + 1, none⟩) 2 (k7 - 1), .slice none 0 0] 54) = WL
          generalize w9.heap.size = L
          intro HAR
          clear n0 n1 hfn HR9 HF9 HRK HRB HRS HFR
          obtain ⟨⟨n0, n1⟩, hfn⟩ := HNC.out WL HAR.out.fr
          have hcase : cc = [] ∨ 6 ≤ cc.length := by
            rcases HKD.out with ⟨h1, h2⟩ | ⟨h1, h2⟩
            · left; rw [← HCC.out, if_neg (by omega)]; exact h1
            · right
              rw [← HCC.out, if_pos h2, Bt.ins_len _ _ _ (by omega)]
              have := HLL.out
              omega
          go_upto_if 80 with (fail)
          go_cut [] from 23 to 106 (fun wd => ∃ rk rn rz E e1 e2 lk ln lz F' f1 f2, Hid (AddR wc wd R L (.slice rk rn rz) (.slice E e1 e2) (.slice lk ln lz) (.slice F' f1 f2) (l.drop 3) (cc.drop 3) (l.take 2) (cc.take 3)))
          case first =>
            rcases hcase with hz | h6
            · have HAR2 : Hid (AddR wc WL R L (.slice (some ⟨g6, o6 + 1, none⟩) n3 (k6' - 1)) (.slice none 0 0) (.slice (some ⟨g7, o7 + 1, none⟩) 2 (k7 - 1)) (.slice none 0 0) (l.drop 3) (cc.drop 3) (l.take 2) (cc.take 3)) := by rw [hz]; exact HAR.out
              have hz0 : cc.length = 0 := by rw [hz]; rfl
              clear hz
              go_wp2
              go_meet
              case rel => exact ⟨_, _, _, _, _, _, _, _, _, _, _, _, HAR2⟩
            · obtain ⟨gc, hgc, hsc⟩ := HN7.out.rc
              obtain ⟨oc, kc, ec, hkc, -, -⟩ : ∃ o c, (Value.slice C5 cc.length k6) = .slice (some ⟨gc, o, none⟩) cc.length c ∧ cc.length ≤ c ∧ c ≤ maxLen ∧ ∀ i, i < cc.length → wc.cell? ⟨gc, o + i, none⟩ = some (.int .i64 (nth cc i)) := by
                rcases hsc with ⟨h0, -⟩ | h0
                · rw [h0] at h6; simp at h6
                · exact h0
              injection ec with ec1 _ ec3
              subst ec1 ec3
              obtain ⟨m3, hm3⟩ : ∃ z, cc.length - 3 = z := ⟨_, rfl⟩
              have hcl3 : (cc.drop 3).length = m3 := by rw [List.length_drop]; exact hm3
              have htc : (cc.take 3).length = 3 := by rw [List.length_take]; omega
              have hccb : cc.length ≤ 1300 := by
                rw [← HCC.out]
                split
                · have := Bt.ins_len c0 (u + 1) kid (by rcases HKD.out with ⟨_, h⟩ | ⟨h, _⟩ <;> omega)
                  omega
                · omega
              have HP3c : Hid (∀ W, Fr [] wc W → Calls Tryd.prog 61 #[.slice (some ⟨gc, oc + 3, none⟩) m3 (k6 - 3), .int .i64 0, .int .i64 0] W (NewRow (Bt.ins (cc.drop 3) 0 0) W)) := fun W hW => by
                have h1 := (hsc.fr hW (by simp)).rest (m := 3) (by omega)
                rw [hm3] at h1
                exact bq_put W (fun _ => True) _ (cc.drop 3) 0 0 ⟨gc, .inl trivial, h1⟩ (Nat.zero_le _) (by omega)
              have HP2c : Hid (∀ W, Fr [] wc W → Calls Tryd.prog 61 #[.slice (some ⟨gc, oc, none⟩) 3 k6, .int .i64 0, .int .i64 0] W (NewRow (Bt.ins (cc.take 3) 0 0) W)) := fun W hW => bq_put W (fun _ => True) _ (cc.take 3) 0 0 ⟨gc, .inl trivial, (hsc.fr hW (by simp)).cut (by omega)⟩ (Nat.zero_le _) (by omega)
              have c3 : (3 : Int) ≤ cc.length := by omega
              have c0' : (0 : Int) < cc.length := by omega
              have ck : 6 ≤ k6 := by omega
              have ckI : (cc.length : Int) ≤ k6 := by omega
              clear hgc hsc hccb
              go_wp2_with (first
                | (go_at_call 61; (with_reducible refine useC (HP3c.out WL HAR.out.fr) ?_); rintro e wa hn; obtain ⟨g8, o8, k8, he, hk8, hr8, hf8⟩ := hn.tail; rw [hcl3] at he hr8 hk8; subst he; have HRa := Lib.hid (HAR.out.step hf8); have HRb := Lib.hid (HRa.out.setR (hr8.mono (fun g hg hq => HAR.out.new g hq))); obtain ⟨wb, hwb⟩ : ∃ z, z = wa.setCell ⟨R, 1, none⟩ (.slice (some ⟨g8, o8 + 1, none⟩) m3 (k8 - 1)) := ⟨_, rfl⟩; rw [← hwb] at HRb; have HWB := Lib.hid hwb; clear hwb hn hr8 hf8 n0 n1 hfn; obtain ⟨⟨⟨x0, x1⟩, x2, x3⟩, hx4, hx5⟩ := HRa.out.cells)
                | (rw [← HWB.out]; clear HWB x0 x1 x2 x3 hx4 hx5 HRa; obtain ⟨⟨n0, n1⟩, hfn⟩ := HNC.out wb HRb.out.fr)
                | (have h' := HRb; go_at_call 61; (with_reducible refine useC (HP2c.out wb HRb.out.fr) ?_); rintro e wd hn; obtain ⟨g9, o9, k9, he, hk9, hr9, hf9⟩ := hn.tail; rw [htc] at he hr9 hk9; subst he; have HRc := Lib.hid (HRb.out.step hf9); have HRd := Lib.hid (HRc.out.setL (hr9.mono (fun g hg hq => HRb.out.new g hq))); clear hn hr9 hf9 n0 n1 hfn h'; obtain ⟨⟨⟨x0, x1⟩, x2, x3⟩, hx4, hx5⟩ := HRc.out.cells))
              go_meet
              case rel => exact ⟨_, _, _, _, _, _, _, _, _, _, _, _, HRd⟩
          case rest =>
            obtain ⟨rk, rn, rz, E, e1, e2, lk, ln, lz, F', f1, f2, HAR2⟩ := hcut
            have hxs := HN7.out.xs
            have hNs := HN7.out.fr.size
            have hrn := HAR2.out.ra.len
            have hre := HAR2.out.rb'.len
            have HLF := Lib.hid (And.intro HAR2.out.la.len HAR2.out.lb'.len)
            have HBW := Lib.hid (HN7.out.bw.step HAR2.out.fr)
            have HNEW := Lib.hid (fun k (hk : N < k) => HN7.out.new k)
            have hGG : ∀ g, g < wc.heap.size → (_ ≤ g ∧ g ≠ R ∧ g ≠ L) → (G g ∧ g ≠ X ∧ g ≠ X2) := fun g _ hq => HN7.out.bw.new g hq.1
            have hw1 := bq_with wc (fun g => G g ∧ g ≠ X ∧ g ≠ X2) _ ⟨us, q.root⟩ us.length (l.drop 3, cc.drop 3) rk rz E e2 HBW.out.val (by rw [← hrn]; exact HAR2.out.ra.mono hGG) (by rw [← hre]; exact HAR2.out.rb'.mono hGG) (Nat.le_refl _) (by show us.length ≤ 1000; omega) HBW.out.new
            dsimp only at hw1
            rw [← hrn, ← hre, Bt.withN_end] at hw1
            have HW1 := Lib.hid hw1
            obtain ⟨⟨b0, b1⟩, hfx⟩ := HBW.out.cells
            obtain ⟨⟨⟨x0, x1⟩, x2, x3⟩, hx4, hx5⟩ := HAR2.out.cells
            clear hw1 n0 n1 hfn hrn hre
            go_upto_region 21 with (go_at_call 62; (with_reducible refine useC HW1.out ?_); rintro e wa ⟨va, rfl, hva, hfa⟩; obtain ⟨ga, ca, hv', -⟩ := hva.form; subst hv'; have HUa := Lib.hid (HBW.out.step hfa); have HAa := Lib.hid (HAR2.out.step hfa); have HPa := Lib.hid (HUa.out.put hva); clear hva hfa b0 b1 hfx; obtain ⟨⟨b0, b1⟩, hfx⟩ := HUa.out.cells)
            have hfX : Fr [X] wa (bqSet wa X (.slice (some ⟨ga, 0, none⟩) (us ++ [(l.drop 3, cc.drop 3)]).length ca) q.root) := (bq_set wa X _ q.root HUa.out.box).2
            have HFXa := Lib.hid hfX
            have hlX := HAa.out.left hfX (by omega)
            have HLX := Lib.hid hlX
            have hul : (us ++ [(l.drop 3, cc.drop 3)]).length = us.length + 1 := by simp
            unfold bqSet at HPa HFXa HLX
            clear hfX hlX b0 b1 hfx x0 x1 x2 x3 hx4 hx5
            obtain ⟨us', hus'⟩ : ∃ z, us ++ [(l.drop 3, cc.drop 3)] = z := ⟨_, rfl⟩
            rw [hus'] at hul
            rw [hus'] at HPa HFXa HLX HB
            rw [hul] at HPa HFXa HLX
            have HUL' := Lib.hid hul
            revert HPa HFXa HLX
            generalize (wa.setCell ⟨X, 0, none⟩ (.slice (some ⟨ga, 0, none⟩) (us.length + 1) ca)).setCell ⟨X, 1, none⟩ (.int .i64 (q.root : Int)) = wb
            intro HLX HFXa HPa
            clear hul
            have hd := (Fr.refl [] wb).drew
            have hgL : ∀ g, g < wb.heap.size → (_ ≤ g ∧ g ≠ R ∧ g ≠ L) → (G g ∧ g ≠ X ∧ g ≠ X2) := fun g _ hq => HN7.out.bw.new g hq.1
            have hv1 : RowH (fun g => G g ∧ g ≠ X ∧ g ≠ X2) wb.drew (.slice lk ln lz) (l.take 2) := (HLX.out.2.1.mono hgL).step hd
            have hv2 : RowH (fun g => G g ∧ g ≠ X ∧ g ≠ X2) wb.drew (.slice F' f1 f2) (cc.take 3) := (HLX.out.2.2.mono hgL).step hd
            have hv3 : BqV (fun g => G g ∧ g ≠ X ∧ g ≠ X2) wb.drew (.agg #[.slice (some ⟨ga, 0, none⟩) (us.length + 1) ca, .int .i64 (q.root : Int)]) ⟨us', q.root⟩ := (HPa.out.step hd).val
            have hj1 : j ≤ us'.length := by have := HUL'.out; omega
            have hj2 : us'.length ≤ 1000 := by have := HUL'.out; omega
            rw [HLF.out.1] at hv1
            rw [HLF.out.2] at hv2
            have hw2 := bq_with wb.drew (fun g => G g ∧ g ≠ X ∧ g ≠ X2) _ ⟨us', q.root⟩ j (l.take 2, cc.take 3) lk lz F' f2 hv3 hv1 hv2 hj1 hj2 (HPa.out.step hd).new
            rw [show Bt.withN (Bt.Qt.ns ⟨us', q.root⟩) j (l.take 2, cc.take 3) = us'.set j (l.take 2, cc.take 3) from Bt.withN_set (by show j < us'.length; rw [HUL'.out]; omega)] at hw2
            dsimp only at hw2
            rw [← HLF.out.1, ← HLF.out.2] at hw2
            have HW2 := Lib.hid hw2
            have HBW2 := Lib.hid (HPa.out.step hd)
            obtain ⟨⟨b0, b1⟩, hfx⟩ := HPa.out.cells
            have hLc : (wb.cell? ⟨L, 0, none⟩ = some (.slice lk ln lz) ∧ wb.cell? ⟨L, 1, none⟩ = some (.slice F' f1 f2)) := by
              constructor <;> rw [cell_of_row wb L _ _ _ _ HLX.out.1] <;> rfl
            obtain ⟨y0, y1⟩ := hLc
            have HFW : Hid (Fr [X] w1 wb) := (HFA.out.step (HN7.out.fr.trans HAa.out.fr) (by simp)).step HFXa.out (by simp)
            have q1 := HWAY.out wb HFW.out
            clear hw2 hd
            (refine wp_region_mixq 6 [(true, 0), (true, 1), (true, 2), (true, 3), (true, 4), (true, 5)] (by kernel_rfl) (by kernel_rfl) ?_; simp only [pickOps, List.map_cons, List.map_nil, List.getD_cons_zero, List.getD_cons_succ, List.drop_succ_cons, List.drop_zero]; (iterate 6 (first | (refine wpMix_take (v := ?_) (by rfl) ?_ ?_; rotate_left; (focus (intro W hW; subst hW; go_simp; (try with_reducible rfl); done)); try simp only [Act.put, List.setIfInBounds_toArray, List.set_cons_zero, List.set_cons_succ]) | (refine wpMix_leave (by rfl) ?_; try simp only [Act.put, List.setIfInBounds_toArray, List.set_cons_zero, List.set_cons_succ]))); refine wpMix_nil ?_)
            go_wp2_with (go_at_call 62; (with_reducible refine useC HW2.out ?_); rintro e we ⟨ve, rfl, hve, hfe⟩; obtain ⟨ge, ce, hv', -⟩ := hve.form; subst hv'; have HUe := Lib.hid (HBW2.out.step hfe); simp only [List.length_set] at hve; have HPe := Lib.hid (HUe.out.put (q := ⟨us'.set j (l.take 2, cc.take 3), q.root⟩) hve); have HFe := Lib.hid ((HFW.out.drew).step hfe (by simp)); clear hve hfe b0 b1 hfx; obtain ⟨⟨b0, b1⟩, hfx⟩ := HUe.out.cells)
            unfold bqSet at HPe
            have hfX2 : Fr [X] we ((we.setCell ⟨X, 0, none⟩ (.slice (some ⟨ge, 0, none⟩) us'.length ce)).setCell ⟨X, 1, none⟩ (.int .i64 (q.root : Int))) := ((Fr.refl _ we).setCell (.inl (by simp)) _).setCell (.inl (by simp)) _
            have HFf := Lib.hid (HFe.out.step hfX2 (by simp))
            clear hfX2 b0 b1 hfx y0 y1 q1
            revert HPe HFf
            generalize (we.setCell ⟨X, 0, none⟩ (.slice (some ⟨ge, 0, none⟩) us'.length ce)).setCell ⟨X, 1, none⟩ (.int .i64 (q.root : Int)) = wf
            intro HPe HFf
            have HLEN : Hid ((us'.set j (l.take 2, cc.take 3)).length = us'.length) := by show _ = _; rw [List.length_set]
            have HFIN : Hid (AddI G w w1 wf X X2 q.ns x q.root p pre' (j :: suf) y (us.length : Int) ge ce) := by
              refine ⟨HEQ.out, by rw [HB.out], ?_, HFf.out⟩
              rw [HB.out]
              dsimp only
              rw [HLEN.out]
              exact HPe.out
            have hpw : IntKind.i64.wrap ((pre'.length : Int) - 1) = (pre'.length : Int) - 1 := by rw [IntKind.wrap_i64]; omega
            go_roundw
            case rel => exact ⟨pre', j :: suf, y, us.length, ge, ce, rfl, rfl, by first | rfl | rw [hpw], HFIN⟩
            case measure => (simp [intOf]; try omega)
end Go.Proofs.YtokbhiokcoldbaaDoor
