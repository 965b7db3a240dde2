/- The document's versions: Put (printed by wip/gen_cq.py). -/

import Derived.Test.YtokbhiokcoldbaaDoorCq08
import Derived.Test.YtokbhiokcoldbaaDoorCq09
namespace Go.Proofs.YtokbhiokcoldbaaDoor
open Go.RowKit

def verO (k v m : Value) : Obj := .cells #[k, v, m] 27
/-- The blocks of three rows. -/
def P3 (k v m : Value) (g : Nat) : Prop := k.ownBlock = some g ∨ v.ownBlock = some g ∨ m.ownBlock = some g
/-- In a call that began at w: the variable X has the rows K, V, M; X2 is the answer's. -/
structure CqB (w wr : World) (P : Nat → Prop) (L : Nat → Nat) (X X2 : Nat) (k v m : Value) (K V M : List Int) : Prop where
  box : wr.heap[X]? = some (verO k v m)
  out : wr.heap[X2]? = some (verO (.slice none 0 0) (.slice none 0 0) (.slice none 0 0))
  kp : KpL P L w wr
  rk : Own wr 0 3 k K
  rv : Own wr 0 3 v V
  rm : Own wr 0 3 m M
  ge : w.heap.size ≤ X ∧ w.heap.size ≤ X2 ∧ X ≠ X2
  hP : ∀ g, P g → g < w.heap.size
/-- It lies in new memory. -/
def NewB (w : World) (v : Value) : Prop := ∀ g, v.ownBlock = some g → w.heap.size ≤ g
theorem Own.zero {w : World} {B e : Nat} {v : Value} {xs : List Int} (h : Own w B e v xs) : Own w 0 e v xs := by
  obtain ⟨h1, h2⟩ := h
  refine ⟨h1, ?_⟩
  rcases h2 with h2 | ⟨g, cap, cur, e1, hb, r⟩
  · exact .inl h2
  · exact .inr ⟨g, cap, cur, e1, Nat.zero_le _, r⟩
theorem Own.toNew {w w' : World} {B e : Nat} {v : Value} {xs : List Int} (h : Own w' B e v xs) (hn : NewB w v) : Own w' w.heap.size e v xs := by
  obtain ⟨h1, h2⟩ := h
  refine ⟨h1, ?_⟩
  rcases h2 with h2 | ⟨g, cap, cur, e1, hb, r⟩
  · exact .inl h2
  · exact .inr ⟨g, cap, cur, e1, hn g (by rw [e1]; rfl), r⟩
theorem own_neX {w : World} {B X : Nat} {v a b c : Value} {xs : List Int} (h : Own w B 3 v xs) (hx : w.heap[X]? = some (verO a b c)) : v.ownBlock ≠ some X := by
  intro he
  obtain ⟨h1, h2⟩ := h
  rcases h2 with ⟨rfl, -⟩ | ⟨g, cap, cur, rfl, hb, hg, -⟩
  · cases he
  · have e : g = X := by simpa [Value.ownBlock] using he
    rw [e, hx] at hg
    injection hg with hg
    injection hg with _ hg _
    exact absurd hg (by decide)
section
variable {w wr w' : World} {P : Nat → Prop} {L : Nat → Nat} {X X2 : Nat} {k v m v' : Value} {K V M V' : List Int}
theorem CqB.cells (h : CqB w wr P L X X2 k v m K V M) : (wr.cell? ⟨X, 0, none⟩ = some k ∧ wr.cell? ⟨X, 1, none⟩ = some v ∧ wr.cell? ⟨X, 2, none⟩ = some m) ∧ ∀ i, wr.frozen? ⟨X, i, none⟩ = false := by
  refine ⟨⟨?_, ?_, ?_⟩, fun i => free_block h.box i none⟩ <;> rw [cell_of_row _ _ _ _ _ _ h.box] <;> rfl
theorem CqB.outs (h : CqB w wr P L X X2 k v m K V M) : (wr.cell? ⟨X2, 0, none⟩ = some (.slice none 0 0) ∧ wr.cell? ⟨X2, 1, none⟩ = some (.slice none 0 0) ∧ wr.cell? ⟨X2, 2, none⟩ = some (.slice none 0 0)) ∧ ∀ i, wr.frozen? ⟨X2, i, none⟩ = false := by
  refine ⟨⟨?_, ?_, ?_⟩, fun i => free_block h.out i none⟩ <;> rw [cell_of_row _ _ _ _ _ _ h.out] <;> rfl
theorem CqB.step (h : CqB w wr P L X X2 k v m K V M) (hf : Fr [] wr w') : CqB w w' P L X X2 k v m K V M :=
  ⟨hf.get h.box (by simp), hf.get h.out (by simp), h.kp.step hf, h.rk.kept hf (by simp), h.rv.kept hf (by simp), h.rm.kept hf (by simp), h.ge, h.hP⟩
theorem CqB.setX (h : CqB w wr P L X X2 k v m K V M) (i : Nat) (x : Value) : Fr [X] wr (wr.setCell ⟨X, i, none⟩ x) ∧ KpL P L w (wr.setCell ⟨X, i, none⟩ x) := by
  have hf : Fr [X] wr (wr.setCell ⟨X, i, none⟩ x) := (Fr.refl _ wr).setCell (.inl (by simp)) _
  exact ⟨hf, h.kp.own (R := fun g => g = X) ((FrP.refl _ wr).step hf (fun g hg => .inl (by simpa using hg))) (fun g hg => by subst hg; exact h.ge.1)⟩
theorem CqB.setV (h : CqB w wr P L X X2 k v m K V M) (ho : Own wr 0 3 v' V') : CqB w (wr.setCell ⟨X, 1, none⟩ v') P L X X2 k v' m K V' M := by
  obtain ⟨hf, hk⟩ := h.setX 1 v'
  exact ⟨set_block h.box v', hf.get h.out (by simpa using h.ge.2.2.symm), hk, h.rk.kept hf (by simpa using own_neX h.rk h.box), ho.kept hf (by simpa using own_neX ho h.box), h.rm.kept hf (by simpa using own_neX h.rm h.box), h.ge, h.hP⟩
theorem CqB.setM (h : CqB w wr P L X X2 k v m K V M) (ho : Own wr 0 3 v' V') : CqB w (wr.setCell ⟨X, 2, none⟩ v') P L X X2 k v v' K V V' := by
  obtain ⟨hf, hk⟩ := h.setX 2 v'
  exact ⟨set_block h.box v', hf.get h.out (by simpa using h.ge.2.2.symm), hk, h.rk.kept hf (by simpa using own_neX h.rk h.box), h.rv.kept hf (by simpa using own_neX h.rv h.box), ho.kept hf (by simpa using own_neX ho h.box), h.ge, h.hP⟩
theorem CqB.setK (h : CqB w wr P L X X2 k v m K V M) (ho : Own wr 0 3 v' V') : CqB w (wr.setCell ⟨X, 0, none⟩ v') P L X X2 v' v m V' V M := by
  obtain ⟨hf, hk⟩ := h.setX 0 v'
  exact ⟨set_block h.box v', hf.get h.out (by simpa using h.ge.2.2.symm), hk, ho.kept hf (by simpa using own_neX ho h.box), h.rv.kept hf (by simpa using own_neX h.rv h.box), h.rm.kept hf (by simpa using own_neX h.rm h.box), h.ge, h.hP⟩
/-- Three rows that are made, and stored. -/
theorem CqB.all (h : CqB w wr P L X X2 k v m K V M) {a b c : Value} {A B C : List Int} (hj : J0 wr P L X X2 (verO k v m) (verO (.slice none 0 0) (.slice none 0 0) (.slice none 0 0)) w') (hk : VR L wr k K) (hv : VR L wr v V) (hm : VR L wr m M) (ha : Own w' 0 3 a A) (hb : Own w' 0 3 b B) (hc : Own w' 0 3 c C) : CqB w (((w'.setCell ⟨X, 0, none⟩ a).setCell ⟨X, 1, none⟩ b).setCell ⟨X, 2, none⟩ c) P L X X2 a b c A B C := by
  have hs : KpL P L w w' := by
    refine ⟨h.kp.fr.trans hj.kp.fr (fun g hg => .inl hg), fun g hg hl => (h.kp.keep g hg hl).trans (hj.kp.keep g hg (Nat.lt_of_lt_of_le hl h.kp.fr.size))⟩
  have h0 : CqB w w' P L X X2 k v m K V M := ⟨hj.box, hj.out, hs, (hk.keep hj.kp).1, (hv.keep hj.kp).1, (hm.keep hj.kp).1, h.ge, h.hP⟩
  have f0 := (h0.setX 0 a).1
  have h1 := h0.setK ha
  have hb1 := hb.kept f0 (by simpa using own_neX hb h0.box)
  have hc1 := hc.kept f0 (by simpa using own_neX hc h0.box)
  have f1 := (h1.setX 1 b).1
  have h2 := h1.setV hb1
  have hc2 := hc1.kept f1 (by simpa using own_neX hc1 h1.box)
  exact h2.setM hc2
end
theorem at0 : ∀ k ∈ [2, 10, 14, 20, 24, 30], (afterTake 34 [0, 1, 4, 5, 7, 9, 12, 13, 16, 18, 22, 23, 26, 28]).getD k true = false := by decide
theorem abv_self {q : Co.Vr} {key : Int} {K V M : List Int} (hR : Co.Room q key K V M) : Co.abv K key (q.K.idxOf key) = true := by
  refine decide_eq_true fun k hk hb => ?_
  rw [hR.at_.2] at hb
  have hkl : k < K.length := by have := hR.at_.1; omega
  have : nth K k = key := by unfold Co.Btw at hb; omega
  have h1 := Co.idx_nth hR.nd hkl
  have h2 := Co.idx_nth hR.nd hR.at_.1
  rw [hR.at_.2] at h2
  rw [this] at h1
  omega
theorem cq_results {fn : Func} {tmps : Array Value} {w : World} {i : Nat} {B : Nat} {a b c : Value} (hr : fn.results = #[.cell i 27]) (ha : tmps.getD i undef = .pointer (some ⟨B, 0, none⟩)) (hx : w.heap[B]? = some (verO a b c)) :
    (results fn tmps).run Tryd.prog w = .ok (.agg #[a, b, c]) w := by
  have ha' : tmps[i]?.getD undef = .pointer (some ⟨B, 0, none⟩) := by rw [← ha]; simp
  have hld : (loadVar 27 ⟨B, 0, none⟩).run Tryd.prog w = .ok (.agg #[a, b, c]) w := by
    have := run_load_part (P := Tryd.prog) w B 0 3 _ 27 _ _ _ hx Tryd.underlying27 rfl (by kernel_rfl) (by simp)
    simpa using this
  unfold results
  rw [hr]
  simp [asAddr, Sem.run_bind, ha', hld]
/-- The answer is laid. -/
theorem CqB.fin {w wr : World} {P : Nat → Prop} {L : Nat → Nat} {X X2 : Nat} {k v m : Value} {K V M : List Int} (h : CqB w wr P L X X2 k v m K V M) : (((wr.setCell ⟨X2, 0, none⟩ k).setCell ⟨X2, 1, none⟩ v).setCell ⟨X2, 2, none⟩ m).heap[X2]? = some (verO k v m) ∧ KpL P L w (((wr.setCell ⟨X2, 0, none⟩ k).setCell ⟨X2, 1, none⟩ v).setCell ⟨X2, 2, none⟩ m) ∧
    Own (((wr.setCell ⟨X2, 0, none⟩ k).setCell ⟨X2, 1, none⟩ v).setCell ⟨X2, 2, none⟩ m) 0 3 k K ∧ Own (((wr.setCell ⟨X2, 0, none⟩ k).setCell ⟨X2, 1, none⟩ v).setCell ⟨X2, 2, none⟩ m) 0 3 v V ∧ Own (((wr.setCell ⟨X2, 0, none⟩ k).setCell ⟨X2, 1, none⟩ v).setCell ⟨X2, 2, none⟩ m) 0 3 m M := by
  have hf : Fr [X2] wr (((wr.setCell ⟨X2, 0, none⟩ k).setCell ⟨X2, 1, none⟩ v).setCell ⟨X2, 2, none⟩ m) := (((Fr.refl _ wr).setCell (.inl (by simp)) _).setCell (.inl (by simp)) _).setCell (.inl (by simp)) _
  refine ⟨?_, h.kp.own (R := fun g => g = X2) ((FrP.refl _ wr).step hf (fun g hg => .inl (by simpa using hg))) (fun g hg => by subst hg; exact h.ge.2.1), h.rk.kept hf (by simpa using own_neX h.rk h.out), h.rv.kept hf (by simpa using own_neX h.rv h.out), h.rm.kept hf (by simpa using own_neX h.rm h.out)⟩
  exact set_block (set_block (set_block h.out k) v) m
theorem verO_two (w : World) (o0 o1 : Obj) : Fr [] w ((w.alloc o0).alloc o1) ∧ ((w.alloc o0).alloc o1).heap[w.heap.size]? = some o0 ∧ ((w.alloc o0).alloc o1).heap[w.heap.size + 1]? = some o1 := by
  have h (a : World) (o p : Obj) {k : Nat} (hk : a.heap[k]? = some p) : (a.alloc o).heap[k]? = some p := ((Fr.refl [] a).alloc o).get hk (by simp)
  have n1 := heap_alloc_new (w.alloc o0) o1
  simp only [World.size_alloc] at n1
  exact ⟨((Fr.refl [] w).alloc _).alloc _, h _ _ _ (heap_alloc_new w o0), n1⟩
/-- What Put hands back. -/
def CqA (P : Nat → Prop) (L : Nat → Nat) (kv : Value) (q : Co.Vr) (key x num : Int) (w : World) (e : Ending) (w' : World) : Prop :=
  ∃ k' v' m', e = .returned (.agg #[k', v', m']) ∧ KpL P L w w' ∧ Own w' 0 3 k' (q.room key).K ∧ ((k' = kv ∧ key ∈ q.K) ∨ NewB w k') ∧ Own w' w.heap.size 3 v' (q.put key x num).V ∧ Own w' w.heap.size 3 m' (q.put key x num).M
set_option maxRecDepth 100000 in
set_option maxHeartbeats 16000000 in
theorem cq_Put (w : World) (L : Nat → Nat) (Ak : Option Addr) (ck : Nat) (Av : Option Addr) (cv : Nat) (Am : Option Addr) (cm : Nat) (q : Co.Vr) (key x num : Int) (hk : VR L w (.slice Ak q.K.length ck) q.K) (hv : VR L w (.slice Av q.K.length cv) q.V) (hm : VR L w (.slice Am q.K.length cm) q.M) (hnd : q.K.Nodup) (hlv : q.V.length = q.K.length) (hlm : q.M.length = q.K.length) (hl : q.K.length ≤ 1000) (hroom : Co.Room q key (q.room key).K (q.room key).V (q.room key).M) :
    Calls Tryd.prog 10 #[.agg #[.slice Ak q.K.length ck, .slice Av q.K.length cv, .slice Am q.K.length cm], .int .i64 key, .int .i64 x, .int .i64 num] w (CqA (P3 (.slice Ak q.K.length ck) (.slice Av q.K.length cv) (.slice Am q.K.length cm)) L (.slice Ak q.K.length ck) q key x num w) := by
  obtain ⟨f3, y0, y1⟩ := verO_two w (.cells #[.slice Ak q.K.length ck, .slice Av q.K.length cv, .slice Am q.K.length cm] 27) (.cells #[.slice none 0 0, .slice none 0 0, .slice none 0 0] 27)
  obtain ⟨P, hP⟩ : ∃ P, P3 (.slice Ak q.K.length ck) (.slice Av q.K.length cv) (.slice Am q.K.length cm) = P := ⟨_, rfl⟩
  have hPk : ∀ g, (Value.slice Ak q.K.length ck).ownBlock = some g → P g := fun g hg => by rw [← hP]; exact .inl hg
  have hPv : ∀ g, (Value.slice Av q.K.length cv).ownBlock = some g → P g := fun g hg => by rw [← hP]; exact .inr (.inl hg)
  have hPm : ∀ g, (Value.slice Am q.K.length cm).ownBlock = some g → P g := fun g hg => by rw [← hP]; exact .inr (.inr hg)
  have hPlt : ∀ g, P g → g < w.heap.size := fun g hg => by
    rw [← hP] at hg
    rcases hg with hg | hg | hg
    · exact (hk.1.ge g hg).2
    · exact (hv.1.ge g hg).2
    · exact (hm.1.ge g hg).2
  rw [hP]
  have HB : Hid (CqB w _ P L w.heap.size (w.heap.size + 1) (.slice Ak q.K.length ck) (.slice Av q.K.length cv) (.slice Am q.K.length cm) q.K q.V q.M) := ⟨y0, y1, (KpL.refl P L w).step f3, (hk.step f3).1, (hv.step f3).1, (hm.step f3).1, ⟨Nat.le_refl _, by omega, by omega⟩, hPlt⟩
  have HVK := Lib.hid (hk.step f3)
  have HVV := Lib.hid (hv.step f3)
  have HVM := Lib.hid (hm.step f3)
  have HROOM := Lib.hid hroom
  have HND := Lib.hid hnd
  have HLV := Lib.hid hlv
  have HLM := Lib.hid hlm
  have HPK := Lib.hid hPk
  have HPV := Lib.hid hPv
  have HPM := Lib.hid hPm
  have HPLT := Lib.hid hPlt
  have HSZ := Lib.hid f3.size
  clear hlv hlm hk hv hm hP hroom hnd f3 y0 y1 hPk hPv hPm hPlt
  go_enter Tryd.func10, Tryd.ntmps10
  go_upto_region 1 with (fail)
  revert HB HVK HVV HVM HSZ
  generalize ((w.alloc (.cells #[.slice Ak q.K.length ck, .slice Av q.K.length cv, .slice Am q.K.length cm] 27)).alloc (.cells #[.slice none 0 0, .slice none 0 0, .slice none 0 0] 27)) = WB
  intro HB HVK HVV HVM HSZ
  obtain ⟨X, hX⟩ : ∃ X, w.heap.size = X := ⟨_, rfl⟩
  obtain ⟨X2, hX2⟩ : ∃ X2, w.heap.size + 1 = X2 := ⟨_, rfl⟩
  rw [hX2, hX] at HB
  first | rw [hX2] | skip
  rw [hX]
  clear hX hX2
  obtain ⟨⟨b0, b1, b2⟩, hfz⟩ := HB.out.cells
  obtain ⟨gk, -, hsk⟩ := HVK.out.1.sl
  have HPL := Lib.hid (cq_place WB _ gk q.K key hsk HND.out)
  have HAT := Lib.hid HROOM.out.at_
  clear hsk
  obtain ⟨at_, hat⟩ : ∃ n, q.K.idxOf key = n := ⟨_, rfl⟩
  have hatl : at_ < 1001 := by
    have h1 := HAT.out.1
    rw [hat] at h1
    rcases HROOM.out.new at_ h1 with h | h
    · omega
    · have := List.idxOf_le_length (a := key) (l := q.K); omega
  go_upto_if 16 with (go_at_call 46; (with_reducible refine useC HPL.out ?_); rintro e wr ⟨rfl, rfl⟩)
  go_cut [9] from 10 (fun u9 wc => u9 = .int .i64 (at_ : Int) ∧ ∃ k v m, Hid (CqB w wc P L X X2 k v m (q.room key).K (q.room key).V (q.room key).M) ∧ Hid ((k = .slice Ak q.K.length ck ∧ key ∈ q.K) ∨ NewB w k))
  case first =>
    by_cases hin : key ∈ q.K
    · have hp : plc q.K key = (at_ : Int) := by unfold plc; rw [if_pos hin, hat]
      have hr : q.room key = q := if_pos hin
      rw [hp]
      have HB2 : Hid (CqB w WB P L X X2 (.slice Ak q.K.length ck) (.slice Av q.K.length cv) (.slice Am q.K.length cm) (q.room key).K (q.room key).V (q.room key).M) := by
        show CqB _ _ _ _ _ _ _ _ _ _ _ _
        rw [hr]; exact HB.out
      have hng : ¬ (at_ : Int) < 0 := by omega
      have HIN := Lib.hid hin
      clear hp hr hin
      go_wp2
      go_meet
      case rel => exact ⟨rfl, _, _, _, HB2, .inl ⟨rfl, HIN.out⟩⟩
    · have hp : plc q.K key = -1 := if_neg hin
      have hr : q.room key = ⟨q.K ++ [key], q.V ++ [0], q.M ++ [0]⟩ := if_neg hin
      have hlen : at_ = q.K.length := by rw [← hat]; exact Co.idx_absent hin
      subst hlen
      rw [hp, show decide ((-1 : Int) < 0) = true from rfl]
      have HR := Lib.hid hr
      clear hp hr hin hat
      go_upto_region 4 with (fail)
      obtain ⟨W0, hW0⟩ : ∃ W, W = WB.drew := ⟨_, rfl⟩
      have hd : Fr [] WB W0 := by rw [hW0]; exact (Fr.refl [] WB).drew
      have hXN : X < W0.heap.size := Nat.lt_of_lt_of_le (lt_of_heap HB.out.box) hd.size
      have hX2N : X2 < W0.heap.size := Nat.lt_of_lt_of_le (lt_of_heap HB.out.out) hd.size
      have hPN : ∀ g, P g → g < W0.heap.size := fun g hg => by have := HPLT.out g hg; have := HSZ.out; have := hd.size; omega
      have hX : ¬ P X := fun hp => by have := HPLT.out X hp; have := HB.out.ge.1; omega
      have hX2 : ¬ P X2 := fun hp => by have := HPLT.out X2 hp; have := HB.out.ge.2.1; omega
      have hBX := HB.out.box
      have hPk := HPK.out
      have hPv := HPV.out
      have hPm := HPM.out
      have HVK0 := Lib.hid (HVK.out.step hd)
      have HVV0 := Lib.hid (HVV.out.step hd)
      have HVM0 := Lib.hid (HVM.out.step hd)
      have HBD := Lib.hid (HB.out.step hd)
      have HBC := Lib.hid (fun (W : World) (hW : W.heap[X]? = some (verO (.slice Ak q.K.length ck) (.slice Av q.K.length cv) (.slice Am q.K.length cm))) => (show W.cell? ⟨X, 0, none⟩ = some (.slice Ak q.K.length ck) ∧ W.cell? ⟨X, 1, none⟩ = some (.slice Av q.K.length cv) ∧ W.cell? ⟨X, 2, none⟩ = some (.slice Am q.K.length cm) from ⟨by rw [cell_of_row _ _ _ _ _ _ hW]; rfl, by rw [cell_of_row _ _ _ _ _ _ hW]; rfl, by rw [cell_of_row _ _ _ _ _ _ hW]; rfl⟩))
      clear b0 b1 b2 hfz HVK HVV HVM
      refine wp_region_float (fun W => W.heap[X]? = some (verO (.slice Ak q.K.length ck) (.slice Av q.K.length cv) (.slice Am q.K.length cm))) 32 [0, 1, 4, 5, 7, 9, 12, 13, 16, 18, 22, 23, 26, 28] [3, 6, 8, 11, 15, 17, 19, 21, 25, 27, 29, 31] [2, 10, 14, 20, 24, 30] (by kernel_rfl) (by kernel_rfl) (((Fr.refl [] WB).drew).get hBX (by simp)) ?_
      simp only [List.map_cons, List.map_nil, List.getD_cons_zero, List.getD_cons_succ]
      rw [← hW0]
      clear hW0 hBX
      (iterate 14 (first | (refine wpMix_take (v := ?_) (by rfl) ?_ ?_; rotate_left; (focus (intro W hW; obtain ⟨b0, b1, b2⟩ := HBC.out W hW; go_simp; (try with_reducible rfl); done)); try simp only [Act.put, List.setIfInBounds_toArray, List.set_cons_zero, List.set_cons_succ]) | (refine wpMix_leave (by rfl) ?_; try simp only [Act.put, List.setIfInBounds_toArray, List.set_cons_zero, List.set_cons_succ])))
      refine wpMix_nil ?_
      refine FlGoal.abs fun a0 ha0 => ?_
      refine ⟨fun p listed a W => ∃ ρ XA XB XC, a = cqAct a0 XA XB XC ∧ Hid (CqJ W0 P L X X2 (verO (.slice Ak q.K.length ck) (.slice Av q.K.length cv) (.slice Am q.K.length cm)) (verO (.slice none 0 0) (.slice none 0 0) (.slice none 0 0)) q.K q.V q.M key p listed W ρ XA XB XC), ?_, ?_, ?_, ?_, ?_⟩
      · refine ⟨fun _ => 0, _, _, _, (cqAct_self a0).symm, ⟨⟨KpL.refl _ _ _, HBD.out.box, HBD.out.out⟩, ?_, ?_, ?_⟩⟩
        · exact ⟨fun e => absurd (e.symm.trans (at0 2 (by decide))) (by decide), fun e => absurd (e.symm.trans (at0 10 (by decide))) (by decide), fun e => absurd e (by decide), fun e => absurd e (by decide), fun e => absurd e (by decide), fun e => absurd e (by decide)⟩
        · exact ⟨fun e => absurd (e.symm.trans (at0 14 (by decide))) (by decide), fun e => absurd (e.symm.trans (at0 20 (by decide))) (by decide), fun e => absurd e (by decide), fun e => absurd e (by decide), fun e => absurd e (by decide), fun e => absurd e (by decide)⟩
        · exact ⟨fun e => absurd (e.symm.trans (at0 24 (by decide))) (by decide), fun e => absurd (e.symm.trans (at0 30 (by decide))) (by decide), fun e => absurd e (by decide), fun e => absurd e (by decide), fun e => absurd e (by decide), fun e => absurd e (by decide)⟩
      · rintro p listed a W ⟨ρ, XA, XB, XC, rfl, hJ⟩
        exact hJ.out.j.box
      · rintro p hp listed a W hd hJ
        obtain ⟨ρ, XA, XB, XC, rfl, hJ⟩ := hJ
        have hp12 : p = 0 ∨ p = 1 ∨ p = 2 ∨ p = 3 ∨ p = 4 ∨ p = 5 ∨ p = 6 ∨ p = 7 ∨ p = 8 ∨ p = 9 ∨ p = 10 ∨ p = 11 := by
          simp only [List.length_cons, List.length_nil] at hp
          omega
        subst ha0
        rcases hp12 with rfl | rfl | rfl | rfl | rfl | rfl | rfl | rfl | rfl | rfl | rfl | rfl
        · have hcl := hJ.out.a.e1 (hd 2 (List.contains_iff_mem.1 (by kernel_rfl)))
          obtain ⟨gx, hx1, hcell, -, -⟩ := hcl
          have hvr := HVK0.out.keep hJ.out.j.kp
          simp only [List.getElem_cons_zero, List.getElem_cons_succ, List.getD_cons_zero, List.getD_cons_succ, cqAct, Act.put, List.setIfInBounds_toArray, List.set_cons_zero, List.set_cons_succ]
          refine wpList_push_sh Tryd.intT rfl _ _ rfl 0 _ q.K rfl hvr.1 gx hx1 hcell (by have := HLV.out; have := HLM.out; omega) (Nat.zero_le _) ?_
          intro v' W' h1 h2 h3 h4
          refine FlQ.mk ?_
          exact ⟨_, { XA with r := v' }, XB, XC, by simp only [cqAct, Act.put, List.setIfInBounds_toArray, List.set_cons_zero, List.set_cons_succ], hJ.out.go3 h1 h2 hPk (fun g hg => by rw [hvr.2 g hg]; exact h4 g hg) hX hX2 hPN⟩
        · have hor := hJ.out.a.r rfl
          obtain ⟨gg, -, hsl⟩ := hor.sl
          have hset : (q.K ++ [0]).set q.K.length key = q.K ++ [key] := by simp []
          simp only [List.getElem_cons_zero, List.getElem_cons_succ, List.getD_cons_zero, List.getD_cons_succ, cqAct, Act.put, List.setIfInBounds_toArray, List.set_cons_zero, List.set_cons_succ]
          clear hor
          go_wp2_with (go_at_call 47; (refine useC (set_own _ _ gg (q.K ++ [0]) q.K.length key hsl (by simp []) (by have := HLV.out; have := HLM.out; rw [List.length_append, List.length_singleton]; omega)) ?_); rintro e W' ⟨v', rfl, ho, hf⟩)
          rw [hset] at ho
          refine FlQ.mk ?_
          exact ⟨_, { XA with s := v' }, XB, XC, by simp only [cqAct, Act.put, List.setIfInBounds_toArray, List.set_cons_zero, List.set_cons_succ], hJ.out.go6 hf ho⟩
        · obtain ⟨gg, cc, hs, hcap, hmx⟩ := own_form1 (hJ.out.a.s rfl).1
          have HL0 : Hid (q.K.length = q.K.length) := rfl
          have HS := Lib.hid hs
          rw [← HL0.out] at hs hcap
          have z0 : (0 : Int) ≤ (q.K.length : Int) := by omega
          have z1 : (q.K.length : Int) ≤ (cc : Int) := by omega
          have z2 : q.K.length ≤ cc := by omega
          have z3 : ¬ cc = q.K.length := by omega
          have z4 : ¬ q.K.length = cc := by omega
          simp only [List.getElem_cons_zero, List.getElem_cons_succ, List.getD_cons_zero, List.getD_cons_succ, cqAct, Act.put, List.setIfInBounds_toArray, List.set_cons_zero, List.set_cons_succ]
          rw [hs]
          clear hs
          go_wp2
          refine FlQ.mk ?_
          exact ⟨_, { XA with c := .slice (some ⟨gg, 0, none⟩) q.K.length cc }, XB, XC, by simp only [cqAct, Act.put, List.setIfInBounds_toArray, List.set_cons_zero, List.set_cons_succ]; rw [HS.out], hJ.out.go8 HS.out rfl⟩
        · have hcl := hJ.out.a.e2 (hd 10 (List.contains_iff_mem.1 (by kernel_rfl)))
          obtain ⟨gx, hx1, hcell, -, -⟩ := hcl
          have hoc := (hJ.out.a.c rfl).1
          simp only [List.getElem_cons_zero, List.getElem_cons_succ, List.getD_cons_zero, List.getD_cons_succ, cqAct, Act.put, List.setIfInBounds_toArray, List.set_cons_zero, List.set_cons_succ]
          refine wpList_push_sh Tryd.intT rfl _ _ rfl W0.heap.size _ q.K rfl hoc gx hx1 hcell (by have := HLV.out; have := HLM.out; omega) hJ.out.j.kp.fr.size ?_
          intro v' W' h1 h2 h3 h4
          refine FlQ.mk ?_
          exact ⟨_, { XA with f := v' }, XB, XC, by simp only [cqAct, Act.put, List.setIfInBounds_toArray, List.set_cons_zero, List.set_cons_succ], hJ.out.go11 h1 h2 h3 hXN hX2N hPN⟩
        · have hcl := hJ.out.b.e1 (hd 14 (List.contains_iff_mem.1 (by kernel_rfl)))
          obtain ⟨gx, hx1, hcell, -, -⟩ := hcl
          have hvr := HVV0.out.keep hJ.out.j.kp
          simp only [List.getElem_cons_zero, List.getElem_cons_succ, List.getD_cons_zero, List.getD_cons_succ, cqAct, Act.put, List.setIfInBounds_toArray, List.set_cons_zero, List.set_cons_succ]
          refine wpList_push_sh Tryd.intT rfl _ _ rfl 0 _ q.V rfl hvr.1 gx hx1 hcell (by have := HLV.out; have := HLM.out; omega) (Nat.zero_le _) ?_
          intro v' W' h1 h2 h3 h4
          refine FlQ.mk ?_
          exact ⟨_, XA, { XB with r := v' }, XC, by simp only [cqAct, Act.put, List.setIfInBounds_toArray, List.set_cons_zero, List.set_cons_succ], hJ.out.go15 h1 h2 hPv (fun g hg => by rw [hvr.2 g hg]; exact h4 g hg) hX hX2 hPN⟩
        · have hor := hJ.out.b.r rfl
          obtain ⟨gg, -, hsl⟩ := hor.sl
          have hset : (q.V ++ [0]).set q.K.length 0 = q.V ++ [0] := by simp [HLV.out]
          simp only [List.getElem_cons_zero, List.getElem_cons_succ, List.getD_cons_zero, List.getD_cons_succ, cqAct, Act.put, List.setIfInBounds_toArray, List.set_cons_zero, List.set_cons_succ]
          clear hor
          go_wp2_with (go_at_call 47; (refine useC (set_own _ _ gg (q.V ++ [0]) q.K.length 0 hsl (by simp [HLV.out]) (by have := HLV.out; have := HLM.out; rw [List.length_append, List.length_singleton]; omega)) ?_); rintro e W' ⟨v', rfl, ho, hf⟩)
          rw [hset] at ho
          refine FlQ.mk ?_
          exact ⟨_, XA, { XB with s := v' }, XC, by simp only [cqAct, Act.put, List.setIfInBounds_toArray, List.set_cons_zero, List.set_cons_succ], hJ.out.go17 hf ho⟩
        · obtain ⟨gg, cc, hs, hcap, hmx⟩ := own_form1 (hJ.out.b.s rfl).1
          have HL0 : Hid (q.K.length = q.V.length) := HLV.out.symm
          have HS := Lib.hid hs
          rw [← HL0.out] at hs hcap
          have z0 : (0 : Int) ≤ (q.K.length : Int) := by omega
          have z1 : (q.K.length : Int) ≤ (cc : Int) := by omega
          have z2 : q.K.length ≤ cc := by omega
          have z3 : ¬ cc = q.K.length := by omega
          have z4 : ¬ q.K.length = cc := by omega
          simp only [List.getElem_cons_zero, List.getElem_cons_succ, List.getD_cons_zero, List.getD_cons_succ, cqAct, Act.put, List.setIfInBounds_toArray, List.set_cons_zero, List.set_cons_succ]
          rw [hs]
          clear hs
          go_wp2
          refine FlQ.mk ?_
          exact ⟨_, XA, { XB with c := .slice (some ⟨gg, 0, none⟩) q.K.length cc }, XC, by simp only [cqAct, Act.put, List.setIfInBounds_toArray, List.set_cons_zero, List.set_cons_succ]; rw [HS.out, HL0.out], hJ.out.go19 HS.out HL0.out⟩
        · have hcl := hJ.out.b.e2 (hd 20 (List.contains_iff_mem.1 (by kernel_rfl)))
          obtain ⟨gx, hx1, hcell, -, -⟩ := hcl
          have hoc := (hJ.out.b.c rfl).1
          simp only [List.getElem_cons_zero, List.getElem_cons_succ, List.getD_cons_zero, List.getD_cons_succ, cqAct, Act.put, List.setIfInBounds_toArray, List.set_cons_zero, List.set_cons_succ]
          refine wpList_push_sh Tryd.intT rfl _ _ rfl W0.heap.size _ q.V rfl hoc gx hx1 hcell (by have := HLV.out; have := HLM.out; omega) hJ.out.j.kp.fr.size ?_
          intro v' W' h1 h2 h3 h4
          refine FlQ.mk ?_
          exact ⟨_, XA, { XB with f := v' }, XC, by simp only [cqAct, Act.put, List.setIfInBounds_toArray, List.set_cons_zero, List.set_cons_succ], hJ.out.go21 h1 h2 h3 hXN hX2N hPN⟩
        · have hcl := hJ.out.c.e1 (hd 24 (List.contains_iff_mem.1 (by kernel_rfl)))
          obtain ⟨gx, hx1, hcell, -, -⟩ := hcl
          have hvr := HVM0.out.keep hJ.out.j.kp
          simp only [List.getElem_cons_zero, List.getElem_cons_succ, List.getD_cons_zero, List.getD_cons_succ, cqAct, Act.put, List.setIfInBounds_toArray, List.set_cons_zero, List.set_cons_succ]
          refine wpList_push_sh Tryd.intT rfl _ _ rfl 0 _ q.M rfl hvr.1 gx hx1 hcell (by have := HLV.out; have := HLM.out; omega) (Nat.zero_le _) ?_
          intro v' W' h1 h2 h3 h4
          refine FlQ.mk ?_
          exact ⟨_, XA, XB, { XC with r := v' }, by simp only [cqAct, Act.put, List.setIfInBounds_toArray, List.set_cons_zero, List.set_cons_succ], hJ.out.go25 h1 h2 hPm (fun g hg => by rw [hvr.2 g hg]; exact h4 g hg) hX hX2 hPN⟩
        · have hor := hJ.out.c.r rfl
          obtain ⟨gg, -, hsl⟩ := hor.sl
          have hset : (q.M ++ [0]).set q.K.length 0 = q.M ++ [0] := by simp [HLM.out]
          simp only [List.getElem_cons_zero, List.getElem_cons_succ, List.getD_cons_zero, List.getD_cons_succ, cqAct, Act.put, List.setIfInBounds_toArray, List.set_cons_zero, List.set_cons_succ]
          clear hor
          go_wp2_with (go_at_call 47; (refine useC (set_own _ _ gg (q.M ++ [0]) q.K.length 0 hsl (by simp [HLM.out]) (by have := HLV.out; have := HLM.out; rw [List.length_append, List.length_singleton]; omega)) ?_); rintro e W' ⟨v', rfl, ho, hf⟩)
          rw [hset] at ho
          refine FlQ.mk ?_
          exact ⟨_, XA, XB, { XC with s := v' }, by simp only [cqAct, Act.put, List.setIfInBounds_toArray, List.set_cons_zero, List.set_cons_succ], hJ.out.go27 hf ho⟩
        · obtain ⟨gg, cc, hs, hcap, hmx⟩ := own_form1 (hJ.out.c.s rfl).1
          have HL0 : Hid (q.K.length = q.M.length) := HLM.out.symm
          have HS := Lib.hid hs
          rw [← HL0.out] at hs hcap
          have z0 : (0 : Int) ≤ (q.K.length : Int) := by omega
          have z1 : (q.K.length : Int) ≤ (cc : Int) := by omega
          have z2 : q.K.length ≤ cc := by omega
          have z3 : ¬ cc = q.K.length := by omega
          have z4 : ¬ q.K.length = cc := by omega
          simp only [List.getElem_cons_zero, List.getElem_cons_succ, List.getD_cons_zero, List.getD_cons_succ, cqAct, Act.put, List.setIfInBounds_toArray, List.set_cons_zero, List.set_cons_succ]
          rw [hs]
          clear hs
          go_wp2
          refine FlQ.mk ?_
          exact ⟨_, XA, XB, { XC with c := .slice (some ⟨gg, 0, none⟩) q.K.length cc }, by simp only [cqAct, Act.put, List.setIfInBounds_toArray, List.set_cons_zero, List.set_cons_succ]; rw [HS.out, HL0.out], hJ.out.go29 HS.out HL0.out⟩
        · have hcl := hJ.out.c.e2 (hd 30 (List.contains_iff_mem.1 (by kernel_rfl)))
          obtain ⟨gx, hx1, hcell, -, -⟩ := hcl
          have hoc := (hJ.out.c.c rfl).1
          simp only [List.getElem_cons_zero, List.getElem_cons_succ, List.getD_cons_zero, List.getD_cons_succ, cqAct, Act.put, List.setIfInBounds_toArray, List.set_cons_zero, List.set_cons_succ]
          refine wpList_push_sh Tryd.intT rfl _ _ rfl W0.heap.size _ q.M rfl hoc gx hx1 hcell (by have := HLV.out; have := HLM.out; omega) hJ.out.j.kp.fr.size ?_
          intro v' W' h1 h2 h3 h4
          refine FlQ.mk ?_
          exact ⟨_, XA, XB, { XC with f := v' }, by simp only [cqAct, Act.put, List.setIfInBounds_toArray, List.set_cons_zero, List.set_cons_succ], hJ.out.go31 h1 h2 h3 hXN hX2N hPN⟩
      · rintro k hk p listed a W hu hs ⟨ρ, XA, XB, XC, rfl, hJ⟩
        simp only [List.mem_cons, List.not_mem_nil, or_false] at hk
        subst ha0
        rcases hk with rfl | rfl | rfl | rfl | rfl | rfl
        · simp only [List.getElem_cons_zero, List.getElem_cons_succ, List.getD_cons_zero, List.getD_cons_succ, cqAct, Act.put, List.setIfInBounds_toArray, List.set_cons_zero, List.set_cons_succ]
          go_wp2
          refine FlQ.mk ?_
          exact ⟨_, { XA with a1 := .slice (some ⟨W.heap.size, 0, none⟩) 1 1 }, XB, XC, by simp only [cqAct, Act.put, List.setIfInBounds_toArray, List.set_cons_zero, List.set_cons_succ], hJ.out.lay2⟩
        · simp only [List.getElem_cons_zero, List.getElem_cons_succ, List.getD_cons_zero, List.getD_cons_succ, cqAct, Act.put, List.setIfInBounds_toArray, List.set_cons_zero, List.set_cons_succ]
          go_wp2
          refine FlQ.mk ?_
          exact ⟨_, { XA with a2 := .slice (some ⟨W.heap.size, 0, none⟩) 1 1 }, XB, XC, by simp only [cqAct, Act.put, List.setIfInBounds_toArray, List.set_cons_zero, List.set_cons_succ], hJ.out.lay10⟩
        · simp only [List.getElem_cons_zero, List.getElem_cons_succ, List.getD_cons_zero, List.getD_cons_succ, cqAct, Act.put, List.setIfInBounds_toArray, List.set_cons_zero, List.set_cons_succ]
          go_wp2
          refine FlQ.mk ?_
          exact ⟨_, XA, { XB with a1 := .slice (some ⟨W.heap.size, 0, none⟩) 1 1 }, XC, by simp only [cqAct, Act.put, List.setIfInBounds_toArray, List.set_cons_zero, List.set_cons_succ], hJ.out.lay14⟩
        · simp only [List.getElem_cons_zero, List.getElem_cons_succ, List.getD_cons_zero, List.getD_cons_succ, cqAct, Act.put, List.setIfInBounds_toArray, List.set_cons_zero, List.set_cons_succ]
          go_wp2
          refine FlQ.mk ?_
          exact ⟨_, XA, { XB with a2 := .slice (some ⟨W.heap.size, 0, none⟩) 1 1 }, XC, by simp only [cqAct, Act.put, List.setIfInBounds_toArray, List.set_cons_zero, List.set_cons_succ], hJ.out.lay20⟩
        · simp only [List.getElem_cons_zero, List.getElem_cons_succ, List.getD_cons_zero, List.getD_cons_succ, cqAct, Act.put, List.setIfInBounds_toArray, List.set_cons_zero, List.set_cons_succ]
          go_wp2
          refine FlQ.mk ?_
          exact ⟨_, XA, XB, { XC with a1 := .slice (some ⟨W.heap.size, 0, none⟩) 1 1 }, by simp only [cqAct, Act.put, List.setIfInBounds_toArray, List.set_cons_zero, List.set_cons_succ], hJ.out.lay24⟩
        · simp only [List.getElem_cons_zero, List.getElem_cons_succ, List.getD_cons_zero, List.getD_cons_succ, cqAct, Act.put, List.setIfInBounds_toArray, List.set_cons_zero, List.set_cons_succ]
          go_wp2
          refine FlQ.mk ?_
          exact ⟨_, XA, XB, { XC with a2 := .slice (some ⟨W.heap.size, 0, none⟩) 1 1 }, by simp only [cqAct, Act.put, List.setIfInBounds_toArray, List.set_cons_zero, List.set_cons_succ], hJ.out.lay30⟩
      · rintro listed a W ⟨ρ, XA, XB, XC, rfl, hJ⟩
        subst ha0
        obtain ⟨g1, d1, e1, -, -⟩ := own_form1 (hJ.out.a.f (by decide)).1
        obtain ⟨g2, d2, e2, -, -⟩ := own_form1 (hJ.out.b.f (by decide)).1
        obtain ⟨g3, d3, e3, -, -⟩ := own_form1 (hJ.out.c.f (by decide)).1
        have oa := (hJ.out.a.f (by decide)).1
        have ob := (hJ.out.b.f (by decide)).1
        have oc := (hJ.out.c.f (by decide)).1
        have hall := HBD.out.all hJ.out.j HVK0.out HVV0.out HVM0.out oa.zero ob.zero oc.zero
        have HNB : Hid (NewB w XA.f) := fun g hg => by have := (oa.ge g hg).1; have := HSZ.out; have := hd.size; omega
        rw [e1] at hall HNB
        rw [e2, e3] at hall
        obtain ⟨b0, b1, b2⟩ := HBC.out W hJ.out.j.box
        have hfz := fun i => free_block hJ.out.j.box i none
        simp only [List.drop_succ_cons, List.drop_zero, cqAct, Act.put, List.setIfInBounds_toArray, List.set_cons_zero, List.set_cons_succ]
        rw [e1, e2, e3]
        have HALL := Lib.hid hall
        clear hall oa ob oc
        go_wp2
        go_meet
        case rel => exact ⟨rfl, _, _, _, (by show CqB _ _ _ _ _ _ _ _ _ _ _ _; rw [HR.out]; exact HALL.out), .inr HNB.out⟩
  case rest =>
    obtain ⟨rfl, k, v, m, HB1, HK1⟩ := hcut
    clear b0 b1 b2 hfz
    obtain ⟨b, c, d⟩ := HROOM.out
    have HRM := Lib.hid HROOM.out
    obtain ⟨K', hK'⟩ : ∃ K', (q.room key).K = K' := ⟨_, rfl⟩
    obtain ⟨V', hV'⟩ : ∃ V', (q.room key).V = V' := ⟨_, rfl⟩
    obtain ⟨M', hM'⟩ : ∃ M', (q.room key).M = M' := ⟨_, rfl⟩
    have hput : q.put key x num = ⟨K', V'.set at_ x, Co.mTo K' key num M' (at_ + 1)⟩ := by unfold Co.Vr.put; rw [hK', hV', hM', hat]
    rw [hK', hV', hM'] at HB1 HRM
    have HPUT := Lib.hid hput
    have HKQ := Lib.hid hK'
    have hself := abv_self HRM.out
    have hatK := HRM.out.at_.1
    rw [hat] at hself hatK
    have HSELF := Lib.hid hself
    have HLV2 := Lib.hid HRM.out.lv
    have HLM2 := Lib.hid HRM.out.lm
    have hlK : K'.length ≤ 1001 := by
      apply Classical.byContradiction
      intro hc
      have h1 := HRM.out.new 1001 (by omega)
      rw [hat] at h1
      omega
    clear hput hself hK' hV' hM' HAT HROOM hat b c d
    obtain ⟨Ak1, ck1, hk1⟩ := HB1.out.rk.form0
    obtain ⟨Av1, cv1, hv1⟩ := HB1.out.rv.form0
    obtain ⟨Am1, cm1, hm1⟩ := HB1.out.rm.form0
    rw [HLV2.out] at hv1
    rw [HLM2.out] at hm1
    subst hk1 hv1 hm1
    obtain ⟨gv, -, hsv⟩ := HB1.out.rv.sl
    have HSET := Lib.hid (set_own wc _ gv V' at_ x hsv (by have := HLV2.out; omega) (by have := HLV2.out; omega))
    obtain ⟨⟨b0, b1, b2⟩, hfz⟩ := HB1.out.cells
    have i0 : (0 : Int) ≤ at_ := by omega
    clear hsv
    go_upto_region 6 with (go_at_call 47; (with_reducible refine useC HSET.out ?_); rintro e w2 ⟨v2, rfl, ho, hf⟩; obtain ⟨Av2, cv2, hv2⟩ := ho.form0; rw [List.length_set, HLV2.out] at hv2; subst hv2; have HO2 := Lib.hid ho; have HB2 := Lib.hid (HB1.out.step hf); clear ho hf b0 b1 b2 hfz; obtain ⟨⟨b0, b1, b2⟩, hfz⟩ := HB2.out.cells)
    have HNV : Hid (NewB w (.slice Av2 K'.length cv2)) := fun g hg => by have := (HO2.out.ge g hg).1; have := HB1.out.kp.fr.size; omega
    have HB3 := Lib.hid (HB2.out.setV HO2.out.zero)
    revert HB3
    generalize w2.setCell ⟨X, 1, none⟩ (.slice Av2 K'.length cv2) = w3
    intro HB3
    clear b0 b1 b2 hfz HB2 HO2 HB1 HSET
    go_wp2_with fail
    go_loopw [10] (fun iv wr => ∃ i : Nat, i ≤ at_ + 1 ∧ iv = .int .i64 i ∧ ∃ (Am2 : Option Addr) (cm2 : Nat), Hid (CqB w wr P L X X2 (.slice Ak1 K'.length ck1) (.slice Av2 K'.length cv2) (.slice Am2 K'.length cm2) K' (V'.set at_ x) (Co.mTo K' key num M' i)) ∧ Hid (at_ < i → NewB w (.slice Am2 K'.length cm2))) (fun iv _ => at_ + 1 - (intOf iv).toNat)
    case atStart => exact ⟨0, Nat.zero_le _, rfl, _, _, HB3, fun h => absurd h (by omega)⟩
    case round =>
      clear HB3
      obtain ⟨i, hi, rfl, Am2, cm2, hI, hN⟩ := hrel
      obtain ⟨⟨b0, b1, b2⟩, hfz⟩ := hI.out.cells
      by_cases hlt : i ≤ at_
      · have iI : (i : Int) ≤ at_ := by omega
        have iI0 : (0 : Int) ≤ i := by omega
        obtain ⟨gk2, -, hsk2⟩ := hI.out.rk.sl
        have HAB := Lib.hid (cq_above wr Ak1 ck1 Av2 K'.length cv2 Am2 K'.length cm2 gk2 K' key i at_ hsk2 (by omega) hlt)
        clear hsk2
        cases hb : Co.abv K' key i with
        | true =>
          rw [hb] at HAB
          have HST : Hid ((Co.mTo K' key num M' i).set i num = Co.mTo K' key num M' (i + 1)) := by show _ = Co.mTo K' key num M' (i + 1); rw [Co.mTo, if_pos hb]
          have HLM3 := Lib.hid ((Co.mTo_len K' key num M' i).trans HLM2.out)
          clear hb
          go_upto_region 10 with (go_at_call 48; (with_reducible refine useC HAB.out ?_); rintro e w4 ⟨rfl, hf⟩; have HI4 := Lib.hid (hI.out.step hf); clear hf b0 b1 b2 hfz; obtain ⟨⟨b0, b1, b2⟩, hfz⟩ := HI4.out.cells)
          obtain ⟨gm2, -, hsm2⟩ := HI4.out.rm.sl
          have HSM := Lib.hid (set_own w4 _ gm2 (Co.mTo K' key num M' i) i num hsm2 (by have := HLM3.out; omega) (by have := HLM3.out; omega))
          clear hsm2
          go_wp2_with (go_at_call 47; (with_reducible refine useC HSM.out ?_); rintro e w5 ⟨v5, rfl, ho, hf⟩; rw [HST.out] at ho; obtain ⟨Am5, cm5, hv5⟩ := ho.form0; rw [Co.mTo_len, HLM2.out] at hv5; subst hv5; have HNM : Hid (NewB w (.slice Am5 K'.length cm5)) := (fun g hg => by have := (ho.ge g hg).1; have := HI4.out.kp.fr.size; omega); have HI5 := Lib.hid (HI4.out.step hf); have HI6 := Lib.hid (HI5.out.setM ho.zero); clear ho hf b0 b1 b2 hfz; obtain ⟨⟨b0, b1, b2⟩, hfz⟩ := HI5.out.cells)
          go_roundw
          case rel => exact ⟨i + 1, by omega, by go_num, Am5, cm5, HI6, fun _ => HNM.out⟩
          case measure => (simp [intOf]; try omega)
        | false =>
          rw [hb] at HAB
          have HST : Hid (Co.mTo K' key num M' i = Co.mTo K' key num M' (i + 1)) := by show _ = Co.mTo K' key num M' (i + 1); rw [Co.mTo, if_neg (by rw [hb]; decide)]
          have hne : i ≠ at_ := fun e => by have h1 := HSELF.out; rw [← e, hb] at h1; cases h1
          clear hb
          go_wp2_with (go_at_call 48; (with_reducible refine useC HAB.out ?_); rintro e w4 ⟨rfl, hf⟩; have HI4 := Lib.hid (hI.out.step hf); clear hf)
          go_roundw
          case rel => exact ⟨i + 1, by omega, by go_num, Am2, cm2, (by show CqB _ _ _ _ _ _ _ _ _ _ _ _; rw [← HST.out]; exact HI4.out), fun h => absurd h (by omega)⟩
          case measure => (simp [intOf]; try omega)
      · obtain rfl : i = at_ + 1 := by omega
        have iI : ¬ (((at_ + 1 : Nat) : Int) ≤ (at_ : Int)) := by omega
        obtain ⟨⟨c0, c1, c2⟩, hfc⟩ := hI.out.outs
        have HFIN := Lib.hid hI.out.fin
        have HNN := Lib.hid (hN.out (by omega))
        clear hN hlt
        go_wp2
        obtain ⟨r0, r1, r2, r3, r4⟩ := HFIN.out
        refine bodyPost_ret (v := .agg #[.slice Ak1 K'.length ck1, .slice Av2 K'.length cv2, .slice Am2 K'.length cm2]) (cq_results Tryd.results10 rfl r0) rfl ⟨_, _, _, rfl, r1, by rw [HKQ.out]; exact r2, HK1.out, ?_, ?_⟩
        · rw [HPUT.out]; exact r3.toNew HNV.out
        · rw [HPUT.out]; exact r4.toNew HNN.out
end Go.Proofs.YtokbhiokcoldbaaDoor
