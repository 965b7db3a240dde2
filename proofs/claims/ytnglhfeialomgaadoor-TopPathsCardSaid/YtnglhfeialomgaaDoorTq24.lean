/- Walk: the two captured variables (the texts so far; the closure itself). -/
import Derived.Laws.EntriesVeiled
import Derived.RangeFuncSeq
import Derived.Test.YtnglhfeialomgaaDoorTq05
import Derived.Test.YtnglhfeialomgaaDoorTq10
import Derived.Test.YtnglhfeialomgaaDoorTq23
namespace Go.Proofs.YtnglhfeialomgaaDoor
open Go.RowKit

theorem own_ne_block {α : Type} {E : Enc α} {w : World} {B e : Nat} {v : Value} {l : List α} {b : Nat} {cur : Array Value} {t : TypeId} {fr : Nat × Nat} (h : OwnR E w B e v l) (hg : w.heap[b]? = some (.cells cur t fr)) (hne : e ≠ t) : v.ownBlock ≠ some b := by
  rcases h.2 with ⟨rfl, _⟩ | ⟨g, cap, cur', rfl, _, hg', _⟩
  · intro e; cases e
  · intro he
    have he : g = b := by simpa [Value.ownBlock] using he
    subst he
    rw [hg] at hg'
    injection hg' with hg'
    injection hg' with _ hg' _
    exact hne hg'.symm
theorem fr_grown {w w' : World} {v : Value} (hg : w.grownBy w' v.ownBlock) : Fr v.ownBlock.toList w w' := ⟨hg.os, hg.tape, hg.output, hg.size, fun k hk hn => hg.block k hk (fun e => hn (by rw [← e]; simp))⟩
structure WkJ (w0 : World) (vb fb : Nat) (l : List (List UInt8)) (w : World) : Prop where
  out : ∃ A c, w.heap[vb]? = some (.cells #[.slice A l.length c] 30 (0, 0)) ∧ OwnR strE w w0.heap.size 9 (.slice A l.length c) l
  fn : ∃ t, 9 ≠ t ∧ w.heap[fb]? = some (.cells #[.func (.func 26) #[] #[.pointer (some ⟨vb, 0, none⟩), .pointer (some ⟨fb, 0, none⟩)]] t (0, 0))
  fr : Fr [] w0 w
  vge : w0.heap.size ≤ vb
  ne : fb ≠ vb
theorem WkJ.keep {w0 w w' : World} {vb fb : Nat} {l : List (List UInt8)} (h : WkJ w0 vb fb l w) (hf : Fr [] w w') : WkJ w0 vb fb l w' := by
  obtain ⟨⟨A, c, h1, h2⟩, ⟨t, h3, h4⟩, h5, h6, h7⟩ := h
  exact ⟨⟨A, c, hf.get h1 (by simp), h2.kept hf (by simp)⟩, ⟨t, h3, hf.get h4 (by simp)⟩, h5.trans hf, h6, h7⟩
/-- A block that is no cells turns (a range's step). -/
theorem WkJ.turn {w0 w w' : World} {vb fb r : Nat} {l : List (List UInt8)} (h : WkJ w0 vb fb l w) (hf : Fr [r] w w') (hr : w0.heap.size ≤ r) (hc : ∀ o, w.heap[r]? = some o → o.isCells = false) : WkJ w0 vb fb l w' := by
  obtain ⟨⟨A, c, h1, h2⟩, ⟨t, h3, h4⟩, h5, h6, h7⟩ := h
  have hne : ∀ k cs ty fr, w.heap[k]? = some (.cells cs ty fr) → k ∉ [r] := fun k cs ty fr hk hm => by
    simp only [List.mem_singleton] at hm
    subst hm
    have := hc _ hk
    cases this
  refine ⟨⟨A, c, hf.get h1 (hne _ _ _ _ h1), h2.kept hf (fun g hg e => ?_)⟩, ⟨t, h3, hf.get h4 (hne _ _ _ _ h4)⟩, h5.step hf (fun x hx => by simp only [List.mem_singleton] at hx; subst hx; exact .inr hr), h6, h7⟩
  simp only [List.mem_singleton] at hg
  subst hg
  obtain ⟨-, h2⟩ := h2
  rcases h2 with ⟨he, _⟩ | ⟨g, cap, cur, he, hb, hcell, _⟩
  · rw [he] at e; cases e
  · rw [he] at e
    simp only [Value.ownBlock, Option.some.injEq] at e
    subst e
    have := hc _ hcell
    cases this
theorem WkJ.push {w0 w w2 : World} {vb fb : Nat} {l : List (List UInt8)} {x : List UInt8} {A : Option Addr} {c : Nat} {v' : Value} (h : WkJ w0 vb fb l w) (hb : w.heap[vb]? = some (.cells #[.slice A l.length c] 30 (0, 0))) (ho : OwnR strE w w0.heap.size 9 (.slice A l.length c) l)
    (h1 : OwnR strE w2 w0.heap.size 9 v' (l ++ [x])) (hg : w.grownBy w2 (Value.slice A l.length c).ownBlock) : (∃ A' c', v' = .slice A' (l.length + 1) c') ∧ w2.cell? ⟨vb, 0, none⟩ = some (.slice A l.length c) ∧ w2.frozen? ⟨vb, 0, none⟩ = false ∧ WkJ w0 vb fb (l ++ [x]) (w2.setCell ⟨vb, 0, none⟩ v') ∧ KeepsWalks w (w2.setCell ⟨vb, 0, none⟩ v') := by
  obtain ⟨-, ⟨t, h3, h4⟩, h5, h6, h7⟩ := h
  have hfg := fr_grown hg
  have hkw := (ho.keeps hg).walks
  have hbb : w2.heap[vb]? = some (.cells #[.slice A l.length c] 30 (0, 0)) := hfg.get hb (by
    have := own_ne_block ho hb (by decide)
    simpa using this)
  have hbf := hfg.get h4 (by
    have := own_ne_block ho h4 h3
    simpa using this)
  have hS : Fr [vb] w2 (w2.setCell ⟨vb, 0, none⟩ v') := (Fr.refl _ _).setCell (.inl (by simp)) _
  obtain ⟨A', c', hv'⟩ := h1.form0
  refine ⟨⟨A', c', by rw [hv', List.length_append]; rfl⟩, by rw [cell_of_row w2 vb 0 _ _ _ hbb]; rfl, free_block hbb 0 none, ⟨⟨A', c', ?_, ?_⟩, ⟨t, h3, hS.get hbf (by simpa using h7)⟩, ?_, h6, h7⟩, hkw.trans (KeepsOthers.setCell _ _ _).walks⟩
  · rw [← hv']; exact set_block hbb _
  · rw [← hv']
    refine h1.kept hS (fun g hg => ?_)
    simp only [List.mem_singleton] at hg
    subst hg
    exact own_ne_block h1 hbb (by decide)
  · refine (h5.grown hg (fun g hg => .inr (ho.ge g hg).1)).step hS (fun y hy => .inr ?_)
    simp only [List.mem_singleton] at hy
    subst hy
    exact h6
end Go.Proofs.YtnglhfeialomgaaDoor
/- Walk: the closure that calls itself. -/
namespace Go.Proofs.YtnglhfeialomgaaDoor
open Go.RowKit

section
variable {P : Program} {k : TypeId} {w w' : World} {b r n cnt : Nat} {m : Nm → Option Nat} {left : Nm → Bool}
theorem SRange.left_eq (h : SRange P k w b r n m left cnt) : w.rangeLeft b r = cnt := by
  obtain ⟨D, L, h, _, _⟩ := h
  exact h.left_eq
theorem SRange.walks (h : SRange P k w b r n m left cnt) (hk : KeepsWalks w w') : SRange P k w' b r n m left cnt := by
  obtain ⟨D, L, h, h1, h2⟩ := h
  exact ⟨D, L, h.of_walks hk, h1, h2⟩
theorem SRange.notCells (h : SRange P k w b r n m left cnt) : ∀ o, w.heap[r]? = some o → o.isCells = false := fun o ho => by
  obtain ⟨D, L, h, _, _⟩ := h
  obtain ⟨o', h1, h2⟩ := h.iter_walk
  rw [h1] at ho
  injection ho with ho
  subst ho
  exact Obj.not_cells_of_walk h2
theorem KeepsWalks.stepAt {a b c : World} {r : Nat} (h : KeepsWalks a b) (hf : Fr [r] b c) (hr : a.heap.size ≤ r) : KeepsWalks a c :=
  ⟨Nat.le_trans h.size hf.size, fun k o hk ho => hf.get (h.same k o hk ho) (by have := lt_of_heap hk; simp only [List.mem_singleton]; omega)⟩
end
set_option maxRecDepth 100000 in
set_option maxHeartbeats 4000000 in
theorem tr_walk1 (w0 : World) (tb : Nat) (g : Tr.G) (dom : Nat → Prop) (K : Nat) (hS0 : TrS w0 tb g dom K) (hcn : Tr.Cn g) (vb fb : Nat) : ∀ (k : Nat) (p : List Tr.Nme) (n : Nat) (ps : List (List Tr.Nme)) (w : World),
    Tr.fnd g g.root p = .ok n → (g.ent n).isSome = true → 8 - p.length ≤ k → Tr.Good g p ps → WkJ w0 vb fb (ps.map (Tr.txtG g)) w →
    Calls Tryd.prog 26 #[.string (Pa.mk (Tr.atT p)), .pointer (some ⟨n, 0, none⟩), .pointer (some ⟨vb, 0, none⟩), .pointer (some ⟨fb, 0, none⟩)] w fun e w' => e = .returned (.tuple #[]) ∧ KeepsWalks w w' ∧ ∃ qs, Tr.Below g p n qs ∧ WkJ w0 vb fb ((ps ++ qs).map (Tr.txtG g)) w' := by
  intro k
  induction k using Nat.strongRecOn with
  | ind k ih =>
  intro p n ps w hfd hdir hk hgood hJ
  have hd := hS0.found p g.root n hS0.rootD hfd
  obtain ⟨m, hm⟩ := Option.isSome_iff_exists.1 hdir
  obtain ⟨h0, hmap⟩ := ((hS0.step hJ.fr).node n hd).dir hm
  have n0 : w.cell? ⟨n, 0, none⟩ = some (.map (some (g.mb n))) := by rw [cell_of_row _ _ _ _ _ _ h0]; rfl
  have HMAP := Lib.hid hmap
  have HJ := Lib.hid hJ
  have HS0 := Lib.hid hS0
  have HCN := Lib.hid hcn
  have HG := Lib.hid hgood
  have HFD := Lib.hid hfd
  have HM := Lib.hid hm
  have HD := Lib.hid hd
  have hp8 := hS0.ok.short p n hfd
  have hal := Tr.atT_len (Tr.fnd_names hS0.ok p g.root n hfd) hp8
  have hms := Pa.mk_size (Tr.atT p)
  rw [← hms] at hal
  obtain ⟨m1, hm1⟩ : ∃ m1, m1 = Pa.mk (Tr.atT p) := ⟨_, rfl⟩
  rw [← hm1] at hal ⊢
  have HM1 := Lib.hid hm1
  have HIH : Hid (∀ x c, Tr.kid g n x = some c → (g.ent c).isSome = true → ∀ ps w, Tr.Good g (p ++ [x]) ps → WkJ w0 vb fb (ps.map (Tr.txtG g)) w →
      Calls Tryd.prog 26 #[.string (Pa.mk (Tr.atT (p ++ [x]))), .pointer (some ⟨c, 0, none⟩), .pointer (some ⟨vb, 0, none⟩), .pointer (some ⟨fb, 0, none⟩)] w fun e w' => e = .returned (.tuple #[]) ∧ KeepsWalks w w' ∧ ∃ qs, Tr.Below g (p ++ [x]) c qs ∧ WkJ w0 vb fb ((ps ++ qs).map (Tr.txtG g)) w') := fun x c hkx hdc ps w hg hj => by
    have hf : Tr.fnd g g.root (p ++ [x]) = .ok c := by rw [Tr.fnd_app_ok hfd, Tr.fnd_step hkx]; rfl
    have h8 := hS0.ok.short _ c hf
    rw [List.length_append, List.length_singleton] at h8
    exact ih (k - 1) (by omega) (p ++ [x]) c ps w hf hdc (by rw [List.length_append, List.length_singleton]; omega) hg hj
  clear ih hS0 hcn hfd hdir hk hgood hJ hd hm h0 hmap hms hm1 hp8
  go_enter Tryd.func26, Tryd.ntmps26
  go_wp2_with (at_range; refine wpList_srange rfl _ rfl HMAP.out Tryd.underlying9 Tryd.underlying49 rfl ?_; intro w1 cnt0 hr0 hf0 hs0; have HR0 := Lib.hid hr0; have HF0 := Lib.hid hf0; clear hr0 hf0)
  go_frame
  have HW0 : Hid (KeepsWalks w w1) := KeepsWalks.of_fr HF0.out (by simp)
  have HJ1 := Lib.hid (HJ.out.keep HF0.out)
  have HP0 : Hid (Tr.Part g p n (fun x => (m x).isSome) []) := Tr.Part.start HM.out
  have HRW : Hid (w0.heap.size ≤ w.heap.size) := HJ.out.fr.size
  have HRL : Hid (w.heap.size ≤ w.heap.size) := Nat.le_refl _
  revert HRW HR0 HRL
  generalize hrr : w.heap.size = r at *
  intro HR0 HRW HRL
  have HRR := Lib.hid hrr
  clear hrr HMAP HJ n0
  go_loopw [6, 7] (fun _ _ wr => ∃ left cnt qs, Hid (SRange Tryd.prog 9 wr (g.mb n) r K m left cnt) ∧ Hid (Tr.Part g p n left qs) ∧ Hid (WkJ w0 vb fb ((ps ++ qs).map (Tr.txtG g)) wr) ∧ Hid (KeepsWalks w wr)) (fun _ _ wr => wr.rangeLeft (g.mb n) r)
  case atStart => exact ⟨_, _, [], HR0, HP0, by rw [List.append_nil]; exact HJ1, HW0⟩
  case round =>
    clear HR0 HP0 HJ1 HW0 HF0 hs0
    obtain ⟨left, cnt, qs, hR, hP, hJ, hW⟩ := hrel
    have HM0 := Lib.hid hR.out.left_eq
    go_wp2_with (at_next; refine wpList_snext rfl _ rfl Tryd.underlying9 rfl hR.out ?_ ?_)
    · intro hl0
      have HE : Hid (Tr.Below g p n qs) := hP.out.done (fun x c hx => hl0 x (by
        have h4 := (HS0.out.ok.name n m x c HM.out (by rw [← Tr.kid_of HM.out]; exact hx)).2.1
        unfold maxLen; omega))
      clear hl0
      go_wp2
      go_end0
      exact ⟨rfl, hW.out, qs, HE.out, hJ.out⟩
    · intro x q w2 cnt2 hx hlx hmx hr2 hlt2 hf2 hsz2 hen
      have hkx : Tr.kid g n x = some q := by rw [Tr.kid_of HM.out]; exact hmx
      have hxn := HS0.out.ok.name n m x q HM.out hmx
      have HR2 := Lib.hid hr2
      have HLT := Lib.hid hlt2
      have HKX := Lib.hid hkx
      have HLX := Lib.hid hlx
      have HJ2 := Lib.hid (hJ.out.turn hf2 HRW.out hR.out.notCells)
      have HW2 := Lib.hid (KeepsWalks.stepAt hW.out hf2 (by rw [HRR.out]; exact HRL.out))
      have hx4 := hxn.2.1
      have hqd := HS0.out.closed n x q HD.out hkx
      have hfx : Tr.fnd g g.root (p ++ [x]) = .ok q := by rw [Tr.fnd_app_ok HFD.out, Tr.fnd_step hkx]; rfl
      have hqn := (HS0.out.step HJ2.out.fr).node q hqd
      have HTX : Hid (Tr.txtG g (p ++ [x]) = Tr.txt g (p ++ [x]) q) := Tr.txtG_ok hfx
      have hms := Pa.mk_size x
      rw [← hms] at hx4
      -- how many there are
      have hlen : (ps ++ qs).length < 1000000 := by
        obtain ⟨h1, h2⟩ := HG.out.all HFD.out hP.out
        have := HCN.out.bound h1 h2
        have := HS0.out.many
        omega
      have hlen : ((ps ++ qs).map (Tr.txtG g)).length < 1000000 := by rw [List.length_map]; exact hlen
      obtain ⟨L, hL⟩ : ∃ L, (ps ++ qs).map (Tr.txtG g) = L := ⟨_, rfl⟩
      rw [hL] at HJ2 hlen
      have HL := Lib.hid hL
      obtain ⟨A, c, hb, ho⟩ := HJ2.out.out
      have vc : w2.cell? ⟨vb, 0, none⟩ = some (.slice A L.length c) := by rw [cell_of_row w2 vb 0 _ _ _ hb]; rfl
      have HB := Lib.hid hb
      have HO := Lib.hid ho
      have hz2 := HJ2.out.fr.size
      obtain ⟨m2, hm2⟩ : ∃ m2, m2 = Pa.mk x := ⟨_, rfl⟩
      rw [← hm2] at hx4 hen ⊢
      have HCAT : Hid (m1 ++ m2 = Pa.mk (Tr.atT p ++ x)) := by show _ = _; rw [HM1.out, hm2, mk_append]
      have HCAT2 : Hid (m1 ++ m2 ++ (⟨#[47]⟩ : ByteArray) = Pa.mk (Tr.atT p ++ x ++ [47])) := by show _ = _; rw [HCAT.out, show (⟨#[47]⟩ : ByteArray) = Pa.mk [47] from rfl, mk_append]
      have hcs : (m1 ++ m2).size = m1.size + m2.size := ByteArray.size_append
      clear hx hlx hmx hr2 hlt2 hf2 hkx hxn hqd hfx hms hb ho hm2 hsz2 hL
      cases he : g.ent q with
      | none =>
        have h0 := hqn.file he
        have k0 : w2.cell? ⟨q, 0, none⟩ = some (.map none) := by rw [cell_of_row _ _ _ _ _ _ h0]; rfl
        have q0 := mapNil w2 none
        have HT : Hid (L ++ [Tr.atT p ++ x] = (ps ++ (qs ++ [p ++ [x]] ++ [])).map (Tr.txtG g)) := by
          show _ = _
          have e : Tr.txt g (p ++ [x]) q = Tr.atT p ++ x := by unfold Tr.txt; rw [he]; exact Tr.txtB_file p x
          rw [← HL.out]
          simp [HTX.out, e]
        have HP2 : Hid (Tr.Part g p n (fun z => left z && !(z == x)) (qs ++ [p ++ [x]] ++ [])) := hP.out.step HLX.out HKX.out (Tr.Below.file he _)
        clear h0 hqn he
        go_wp2_with (at_builtin; refine wpList_push_enc (E := strE) (wr := w2) (y := Tr.atT p ++ x) Tryd.underlying30 info_str rfl (by decide) rfl _ _ rfl w0.heap.size _ L rfl (by rw [HCAT.out]; rfl) HO.out rfl hlen hz2 ?_; intro v' w3 h1 h2 _; obtain ⟨⟨A', c', rfl⟩, vc2, vf2, hJ3, hW3⟩ := HJ2.out.push HB.out HO.out h1 h2; have HJ3 := Lib.hid hJ3; have HW3 := Lib.hid hW3; clear h1 h2 hJ3 hW3 vc)
        go_roundw
        case rel => exact ⟨_, cnt2, _, HR2.out.walks HW3.out, HP2, by rw [← HT.out]; exact HJ3, HW2.out.trans HW3.out⟩
        case measure => rw [(HR2.out.walks HW3.out).left_eq, HM0.out]; exact HLT.out
      | some mq =>
        obtain ⟨h0, -⟩ := hqn.dir he
        have k0 : w2.cell? ⟨q, 0, none⟩ = some (.map (some (g.mb q))) := by rw [cell_of_row _ _ _ _ _ _ h0]; rfl
        have q0 := mapNil w2 (some (g.mb q))
        have HT : Hid (L ++ [Tr.atT p ++ x ++ [47]] = (ps ++ (qs ++ [p ++ [x]])).map (Tr.txtG g)) := by
          show _ = _
          have e : Tr.txt g (p ++ [x]) q = Tr.atT p ++ x ++ [47] := by unfold Tr.txt; rw [he]; exact Tr.txtB_dir p x
          rw [← HL.out]
          simp [HTX.out, e]
        have HINTO := Lib.hid (HG.out.into HFD.out hP.out HLX.out HKX.out)
        have HCALL := Lib.hid (fun W => HIH.out x q HKX.out (by rw [he]; rfl) (ps ++ (qs ++ [p ++ [x]])) W HINTO.out)
        have HAT : Hid (Tr.atT (p ++ [x]) = Tr.atT p ++ x ++ [47]) := Tr.atT_snoc p x
        have HSTEP : Hid (∀ q2, Tr.Below g (p ++ [x]) q q2 → Tr.Part g p n (fun z => left z && !(z == x)) (qs ++ [p ++ [x]] ++ q2)) := fun q2 h2 => hP.out.step HLX.out HKX.out h2
        rw [HAT.out, ← HCAT2.out] at HCALL
        clear h0 hqn he
        go_wp2_with (first
          | (at_builtin; refine wpList_push_enc (E := strE) (wr := w2) (y := Tr.atT p ++ x ++ [47]) Tryd.underlying30 info_str rfl (by decide) rfl _ _ rfl w0.heap.size _ L rfl (by rw [HCAT2.out]; rfl) HO.out rfl hlen hz2 ?_; intro v' w3 h1 h2 _; obtain ⟨⟨A', c', rfl⟩, vc2, vf2, hJ3, hW3⟩ := HJ2.out.push HB.out HO.out h1 h2; rw [HT.out] at hJ3; have HJ3 := Lib.hid hJ3; have HW3 := Lib.hid hW3; obtain ⟨tf, -, hfb⟩ := hJ3.fn; have fc := cell_of_row _ fb 0 _ _ _ hfb; clear h1 h2 hJ3 hW3 vc hfb)
          | (go_at_call 26; (with_reducible refine useC (HCALL.out _ HJ3.out) ?_); rintro e w4 ⟨rfl, hkw, q2, hq2, hj⟩; have HW4 := Lib.hid hkw; have HQ2 := Lib.hid hq2; have HJ4 := Lib.hid hj; clear hkw hq2 hj))
        go_roundw
        case rel => exact ⟨_, cnt2, qs ++ [p ++ [x]] ++ q2, HR2.out.walks (HW3.out.trans HW4.out), HSTEP.out q2 HQ2.out, by rw [← List.append_assoc ps]; exact HJ4, (HW2.out.trans HW3.out).trans HW4.out⟩
        case measure => rw [(HR2.out.walks (HW3.out.trans HW4.out)).left_eq, HM0.out]; exact HLT.out
/-- The two variables, ahead of all. -/
theorem wkJ_start (w : World) (t : TypeId) (ht : 9 ≠ t) : WkJ w w.heap.size (w.heap.size + 1) [] ((w.alloc (.cells #[.slice none 0 0] 30)).alloc (.cells #[.func (.func 26) #[] #[.pointer (some ⟨w.heap.size, 0, none⟩), .pointer (some ⟨w.heap.size + 1, 0, none⟩)]] t)) := by
  have s1 : (w.alloc (.cells #[.slice none 0 0] 30)).heap.size = w.heap.size + 1 := by simp
  have x1 := heap_alloc_new w (.cells #[.slice none 0 0] 30)
  have g0 : Fr [] w (w.alloc (.cells #[.slice none 0 0] 30)) := (Fr.refl _ _).alloc _
  generalize w.alloc (.cells #[.slice none 0 0] 30) = wa at *
  have x2 := heap_alloc_new wa (.cells #[.func (.func 26) #[] #[.pointer (some ⟨w.heap.size, 0, none⟩), .pointer (some ⟨w.heap.size + 1, 0, none⟩)]] t)
  rw [s1] at x2
  have g1 : Fr [] wa (wa.alloc (.cells #[.func (.func 26) #[] #[.pointer (some ⟨w.heap.size, 0, none⟩), .pointer (some ⟨w.heap.size + 1, 0, none⟩)]] t)) := (Fr.refl _ _).alloc _
  exact ⟨⟨none, 0, g1.get x1 (by simp), OwnR.nil⟩, ⟨t, ht, x2⟩, g0.trans g1, Nat.le_refl _, by omega⟩
theorem wkJ_box (w : World) (z : Value) (t : TypeId) : ((w.alloc (.cells #[.slice none 0 0] 30)).alloc (.cells #[z] t)).cell? ⟨w.heap.size + 1, 0, none⟩ = some z ∧ ((w.alloc (.cells #[.slice none 0 0] 30)).alloc (.cells #[z] t)).frozen? ⟨w.heap.size + 1, 0, none⟩ = false := by
  have s1 : (w.alloc (.cells #[.slice none 0 0] 30)).heap.size = w.heap.size + 1 := by simp
  have x2 := heap_alloc_new (w.alloc (.cells #[.slice none 0 0] 30)) (.cells #[z] t)
  rw [s1] at x2
  exact ⟨by rw [cell_of_row _ _ 0 _ _ _ x2]; rfl, free_block x2 0 none⟩
end Go.Proofs.YtnglhfeialomgaaDoor
