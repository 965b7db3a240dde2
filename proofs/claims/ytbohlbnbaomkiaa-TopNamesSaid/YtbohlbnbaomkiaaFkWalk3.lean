/- The contract of package fsck's Mend. -/
import Derived.Test.YtbohlbnbaomkiaaFkWalk2
namespace Go.Proofs.Ytbohlbnbaomkiaa
open Go.RowKit

/-- What Mend hands back of an image that may be: the rows lie in new memory. -/
def MendAns (C : List Int) (E : List (Int × Int)) (w : World) (e : Ending) (w' : World) : Prop :=
  ∃ v, e = .returned (.tuple #[v, .nilIface]) ∧ ImV w' v (Fk.mendC C E) (Fk.mendE C E) ∧ Fr [] w w'
theorem OwnR.fr {α : Type} {En : Enc α} {S : List Nat} {w w' : World} {B e : Nat} {v : Value} {l : List α} (h : OwnR En w B e v l) (hf : Fr S w w') (hS : ∀ g ∈ S, g < B) : OwnR En w' B e v l :=
  h.kept hf (fun g hg e => by have := (h.ge g e).1; have := hS g hg; omega)
theorem OwnR.slice {α : Type} {En : Enc α} {w : World} {B e : Nat} {v : Value} {l : List α} (h : OwnR En w B e v l) : ∃ A n c, v = .slice A n c := by
  obtain ⟨_, h⟩ := h
  rcases h with ⟨rfl, _⟩ | ⟨g, cap, cur, rfl, _⟩
  · exact ⟨_, _, _, rfl⟩
  · exact ⟨_, _, _, rfl⟩
/-- What the loop of Mend knows of memory: the variable out (block ob), its counts (block nb). -/
structure MdSt (w wr : World) (ob nb n : Nat) (v : Value) (N : List Int) (l : List (Int × Int)) : Prop where
  box : Im2 wr ob (.slice (some ⟨nb, 0, none⟩) n n) v
  row : wr.heap[nb]? = some (.cells (ints N) 3 (0, 0))
  own : OwnR enE wr (ob + 1) 36 v l
  fr : Fr [] w wr
  hn : w.heap.size ≤ nb
  ho : nb < ob
section
variable {w wr w' : World} {ob nb n : Nat} {v : Value} {N : List Int} {l : List (Int × Int)}
theorem MdSt.step (h : MdSt w wr ob nb n v N l) (hf : Fr [] wr w') : MdSt w w' ob nb n v N l := ⟨hf.get h.box (by simp), hf.get h.row (by simp), h.own.fr hf (by simp), h.fr.trans hf, h.hn, h.ho⟩
theorem MdSt.lt (h : MdSt w wr ob nb n v N l) : ob < wr.heap.size := lt_of_heap h.box
/-- One entry more: the row first (a step below ob + 1), then the variable's cell. -/
theorem MdSt.push {v' : Value} {l' : List (Int × Int)} (h : MdSt w wr ob nb n v N l) (hb : Below (ob + 1) wr w') (ho : OwnR enE w' (ob + 1) 36 v' l') : MdSt w (w'.setCell ⟨ob, 1, none⟩ v') ob nb n v' N l' := by
  have h1 := h.hn
  have h2 := h.ho
  have hf : Fr [ob] w' (w'.setCell ⟨ob, 1, none⟩ v') := (Fr.refl _ w').setCell (.inl (by simp)) _
  have hbox : Im2 w' ob (.slice (some ⟨nb, 0, none⟩) n n) v := (hb.block ob (by omega)).trans h.box
  refine ⟨set_block hbox v', hf.get ((hb.block nb (by omega)).trans h.row) (by simp; omega), ho.fr hf (by simp), ?_, h1, h2⟩
  exact (h.fr.below_step hb (by have := h.fr.size; omega)).step hf (fun x hx => .inr (by simp only [List.mem_singleton] at hx; subst hx; omega))
theorem MdSt.put (h : MdSt w wr ob nb n v N l) (i : Nat) (x : Int) : MdSt w (wr.setCell ⟨nb, i, none⟩ (.int .i64 x)) ob nb n v (N.set i x) l := by
  have h1 := h.hn
  have h2 := h.ho
  have hf : Fr [nb] wr (wr.setCell ⟨nb, i, none⟩ (.int .i64 x)) := (Fr.refl _ wr).setCell (.inl (by simp)) _
  exact ⟨hf.get h.box (by simp; omega), set_ints h.row x, h.own.fr hf (by simp; omega), h.fr.step hf (fun x hx => .inr (by simp only [List.mem_singleton] at hx; subst hx; omega)), h1, h2⟩
end
set_option maxRecDepth 100000 in
set_option maxHeartbeats 1000000 in
theorem fk_Mend_bad (w : World) (v : Value) (C : List Int) (E : List (Int × Int)) (hv : ImV w v C E) (hbad : Fk.check C E ≠ 0) :
    Calls Try.prog 8 #[v] w fun e w' => e = .returned (.tuple #[.agg #[.slice none 0 0, .slice none 0 0], .iface 63 (.int .i64 (Fk.check C E))]) ∧ Fr [] w w' := by
  have HV := Lib.hid (fun W (hW : Fr [] w W) => hv.fr hW)
  obtain ⟨c, e, g1, g2, rfl, hC, hE⟩ := hv
  obtain ⟨A1, o1, c1, rfl, m1, hA1, hc1⟩ := hC.form
  obtain ⟨A2, o2, c2, rfl, m2, hA2, hc2⟩ := hE.formE
  have HN := Lib.hid hbad
  clear hC hE hA1 hc1 hA2 hc2 hbad
  have HF : Hid (Fr [] w ((w.alloc (.cells #[.slice A1 C.length c1, .slice A2 E.length c2] 25)).alloc (.cells #[.slice none 0 0, .slice none 0 0] 25))) := ((Fr.refl _ _).alloc _).alloc _
  have hb := Lib.hid (im2_new w (.slice A1 C.length c1) (.slice A2 E.length c2))
  have hr := Lib.hid (im2_new (w.alloc (.cells #[.slice A1 C.length c1, .slice A2 E.length c2] 25)) (.slice none 0 0) (.slice none 0 0))
  rw [show (w.alloc (.cells #[.slice A1 C.length c1, .slice A2 E.length c2] 25)).heap.size = w.heap.size + 1 by simp] at hr
  go_enter Try.func8, Try.ntmps8
  go_wp2_with (first
    | (go_at_call 9; (with_reducible refine useC (fk_Faults_bad _ _ C E (HV.out _ HF.out) HN.out) ?_); rintro e w2 ⟨rfl, hf⟩; have HF2 := Lib.hid (HF.out.trans hf); have HR : Hid (Im2 w2 (w.heap.size + 1) (.slice none 0 0) (.slice none 0 0)) := hf.get hr.out (by simp); clear hf)
    | (refine wpList_store_part rfl 25 _ _ rfl (w.heap.size + 1) 0 #[.slice none 0 0, .slice none 0 0] rfl rfl 25 #[.slice none 0 0, .slice none 0 0] HR.out (by kernel_rfl) (by decide) (by simp [Value.oneCell']) #[.slice none 0 0, .slice none 0 0] rfl ?_; have HR3 : Hid (Im2 (w2.setRow (w.heap.size + 1) #[.slice none 0 0, .slice none 0 0]) (w.heap.size + 1) (.slice none 0 0) (.slice none 0 0)) := setRow_heap _ _ _ _ _ _ HR.out; have HF3 : Hid (Fr [] w (w2.setRow (w.heap.size + 1) #[.slice none 0 0, .slice none 0 0])) := HF2.out.setRow (.inr (by omega)) _; revert HR3 HF3; generalize (w2.setRow (w.heap.size + 1) #[.slice none 0 0, .slice none 0 0]) = w3; intro HR3 HF3))
  obtain ⟨z0, z1⟩ := HR3.out.cells
  exact bodyPost_ret (v := .tuple #[.agg #[.slice none 0 0, .slice none 0 0], .iface 63 (.int .i64 (Fk.check C E))]) (by simp [results, Try.results8, go_sem, z0, z1]) rfl ⟨rfl, HF3.out⟩
set_option maxRecDepth 100000 in
set_option maxHeartbeats 4000000 in
theorem fk_Mend_ok (w : World) (v : Value) (C : List Int) (E : List (Int × Int)) (hv : ImV w v C E) (hok : Fk.check C E = 0) :
    Calls Try.prog 8 #[v] w (MendAns C E w) := by
  have HV := Lib.hid (fun W (hW : Fr [] w W) => hv.fr hW)
  obtain ⟨c, e, g1, g2, rfl, hC, hE⟩ := hv
  obtain ⟨A1, o1, c1, rfl, m1, hA1, hc1⟩ := hC.form
  obtain ⟨A2, o2, c2, rfl, m2, hA2, hc2⟩ := hE.formE
  obtain ⟨h8, h12, hoc, hoe⟩ := Fk.check_ok hok
  have HA2 := Lib.hid hA2
  have HE := Lib.hid (fun W (hW : Fr [] w W) k (hk : k < E.length) => And.intro (hW.cell (hc2 k hk).1 (by simp)) (hW.cell (hc2 k hk).2 (by simp)))
  have HOE := Lib.hid hoe
  have HOK := Lib.hid hok
  have hmk := make_ints C.length (by omega)
  have HF : Hid (Fr [] w ((w.alloc (.cells #[.slice A1 C.length c1, .slice A2 E.length c2] 25)).alloc (.cells #[.slice none 0 0, .slice none 0 0] 25))) := ((Fr.refl _ _).alloc _).alloc _
  have hr := Lib.hid (im2_new (w.alloc (.cells #[.slice A1 C.length c1, .slice A2 E.length c2] 25)) (.slice none 0 0) (.slice none 0 0))
  rw [show (w.alloc (.cells #[.slice A1 C.length c1, .slice A2 E.length c2] 25)).heap.size = w.heap.size + 1 by simp] at hr
  have hb : Hid (Im2 ((w.alloc (.cells #[.slice A1 C.length c1, .slice A2 E.length c2] 25)).alloc (.cells #[.slice none 0 0, .slice none 0 0] 25)) w.heap.size (.slice A1 C.length c1) (.slice A2 E.length c2)) := ((Fr.refl [] _).alloc _).get (im2_new w (.slice A1 C.length c1) (.slice A2 E.length c2)) (by simp)
  clear hC hE hA1 hc1 hA2 hc2 hok hoc hoe
  go_enter Try.func8, Try.ntmps8
  go_wp2_with fail
  revert HF hr hb
  generalize ((w.alloc (.cells #[.slice A1 C.length c1, .slice A2 E.length c2] 25)).alloc (.cells #[.slice none 0 0, .slice none 0 0] 25)) = w1
  intro HF hr hb
  refine useC (fk_Faults_ok w1 _ C E (HV.out _ HF.out) HOK.out) ?_
  rintro e w2 ⟨v1, v2, rfl, ho1, ho2, hf⟩
  have HF2 := Lib.hid (HF.out.trans hf)
  have HB2 : Hid (Im2 w2 w.heap.size (.slice A1 C.length c1) (.slice A2 E.length c2)) := hf.get hb.out (by simp)
  have HR2 : Hid (Im2 w2 (w.heap.size + 1) (.slice none 0 0) (.slice none 0 0)) := hf.get hr.out (by simp)
  obtain ⟨gw, _, hsw⟩ := ho1.sl
  have HSW := Lib.hid hsw
  have hB2 := lt_of_heap HR2.out
  obtain ⟨d0, d1⟩ := HB2.out.cells
  have hB3 : w.heap.size < w2.heap.size := by omega
  have hB4 : w.heap.size < w2.heap.size + 1 := by omega
  clear hf ho1 ho2 hsw
  generalize hBe : w.heap.size = B at *
  have HBE := Lib.hid hBe
  clear hBe
  go_wp2
  have HS : Hid (MdSt w2 ((w2.alloc (.cells (ints (List.replicate C.length 0)) 3)).alloc (.cells #[.slice (some ⟨w2.heap.size, 0, none⟩) C.length C.length, .slice none 0 0] 25)) (w2.heap.size + 1) w2.heap.size C.length (.slice none 0 0) (Fk.nms C E 0) (Fk.kp C E 0)) := by
    have e1 : Fk.nms C E 0 = List.replicate C.length 0 := by
      unfold Fk.nms Fk.nm
      simp [List.map_const']
    have h2 := im2_new (w2.alloc (.cells (ints (List.replicate C.length 0)) 3)) (.slice (some ⟨w2.heap.size, 0, none⟩) C.length C.length) (.slice none 0 0)
    rw [show (w2.alloc (.cells (ints (List.replicate C.length 0)) 3)).heap.size = w2.heap.size + 1 by simp] at h2
    rw [e1]
    exact ⟨h2, ((Fr.refl [] _).alloc _).get (heap_alloc_new w2 _) (by simp), OwnR.nil, ((Fr.refl [] w2).alloc _).alloc _, Nat.le_refl _, Nat.lt_succ_self _⟩
  revert HS
  generalize ((w2.alloc (.cells (ints (List.replicate C.length 0)) 3)).alloc (.cells #[.slice (some ⟨w2.heap.size, 0, none⟩) C.length C.length, .slice none 0 0] 25)) = w3
  generalize hnb : w2.heap.size = nb
  generalize hob : nb + 1 = ob
  intro HS
  have HNB := Lib.hid hnb
  have hno : nb < ob := by omega
  have hBn : B < nb := by omega
  clear hnb hob d0 d1 hmk
  have HNL := Lib.hid (fun n => Fk.nms_len C E n)
  have HKL := Lib.hid (fun n => Fk.kp_len C E n)
  go_loopw [28] (fun i wr => ∃ k : Nat, k ≤ E.length ∧ i = .int .i64 k ∧ ∃ v, Hid (MdSt w2 wr ob nb C.length v (Fk.nms C E k) (Fk.kp C E k))) (fun i _ => E.length - (intOf i).toNat)
  case atStart => exact ⟨0, Nat.zero_le _, rfl, _, HS⟩
  case round =>
    obtain ⟨k, hk, rfl, v, hS⟩ := hrel
    by_cases hlt : k < E.length
    · obtain rfl := HA2.out (by omega)
      have hFw := HF2.out.trans hS.out.fr
      obtain ⟨q0, q1⟩ := HE.out wr hFw k hlt
      obtain ⟨b1, b2, b3, b4⟩ := Fk.ent_ok HOE.out hlt
      have hszr := hS.out.lt
      have HKS := Lib.hid (Fk.kp_step C E k)
      have HHW := Lib.hid (Fk.has_wr C E E.length k hlt)
      have HSA : Hid (MdSt w2 (wr.alloc (.cells #[.int .i64 (entN E k), .int .i64 (entI E k)] 36)) ob nb C.length v (Fk.nms C E k) (Fk.kp C E k)) := hS.out.step ((Fr.refl [] wr).alloc _)
      have HV2 : Hid ((wr.alloc (.cells #[.int .i64 (entN E k), .int .i64 (entI E k)] 36)).heap[wr.heap.size]? = some (.cells #[.int .i64 (entN E k), .int .i64 (entI E k)] 36 (0, 0))) := heap_alloc_new wr _
      have HSL : Hid (Sl (wr.alloc (.cells #[.int .i64 (entN E k), .int .i64 (entI E k)] 36)) v1 gw (Fk.faults1 C E)) := HSW.out.fr (hS.out.fr.alloc _) (by simp)
      have HPR := Lib.hid (show E.getD k (0, 0) = (entN E k, entI E k) from rfl)
      cases hw : Fk.wrong C E k with
      | true =>
        have HHB := Lib.hid (show hasB (Fk.faults1 C E) k = true from HHW.out.trans hw)
        have HKE := Lib.hid (show Fk.kp C E (k + 1) = Fk.kp C E k from by rw [HKS.out, if_pos hw])
        have HNE := Lib.hid (Fk.nms_wrong C E k hw)
        clear hw HKS
        go_wp2_with (go_at_call 24; (with_reducible refine useC (contains_any _ _ _ _ _ HSL.out) ?_); rw [HHB.out]; rintro e w4 ⟨rfl, rfl⟩)
        go_roundw
        case rel => exact ⟨k + 1, by omega, by go_num, v, by show MdSt _ _ _ _ _ _ _ _; rw [HKE.out, HNE.out]; exact HSA.out⟩
        case measure => simp [intOf]; omega
      | false =>
        have HHB := Lib.hid (show hasB (Fk.faults1 C E) k = false from HHW.out.trans hw)
        have hus := (Fk.used_spec C (entI E k) b3).1 (by have h := hw; unfold Fk.wrong at h; cases hu : Fk.used C (entI E k); rw [hu] at h; simp at h; rfl)
        obtain ⟨n, hn⟩ : ∃ n : Nat, entI E k = n := ⟨(entI E k).toNat, by omega⟩
        have hin : n < C.length := by have := hus.1; omega
        have hin2 : (n : Int) < C.length := by omega
        have hin3 : (0 : Int) ≤ (n : Int) := by omega
        have HKE := Lib.hid (show Fk.kp C E (k + 1) = Fk.kp C E k ++ [(entN E k, (n : Int))] from by rw [HKS.out, if_neg (by rw [hw]; decide), HPR.out, hn])
        have HNE := Lib.hid (Fk.nms_right C E k hw n hin hn)
        have hnn := Fk.nm_nonneg C E k n
        rw [← Fk.nms_nth C E k n hin] at hnn
        obtain ⟨n1, n2⟩ := hnn
        rw [hn] at HSA HV2 HSL q1
        clear hw HKS hus hn HPR b1 b2 b3 b4
        have HROW := Lib.hid (fun W v l (hW : MdSt w2 W ob nb C.length v (Fk.nms C E k) l) => And.intro (cell_ints (i := n) hW.row (by rw [HNL.out]; exact hin)) (free_block hW.row n none))
        have hkl := HKL.out k
        have HVB := Lib.hid (fun g e => (hS.out.own.ge g e).2)
        generalize hy : nth (Fk.nms C E k) n = y at *
        clear hy
        go_wp2_with fail
        revert HSA
        revert HV2
        revert HSL
        generalize hw4 : (wr.alloc (.cells #[.int .i64 (entN E k), .int .i64 (n : Int)] 36)) = w4
        intro HSL HV2 HSA
        have hsv : wr.heap.size < w4.heap.size := lt_of_heap HV2.out
        have hvo : wr.heap.size ≠ ob ∧ ob < wr.heap.size := by omega
        clear hw4
        generalize wr.heap.size = vb at *
        obtain ⟨hvo, hvo2⟩ := hvo
        refine useC (contains_any _ _ _ _ _ HSL.out) ?_
        rw [HHB.out]
        rintro e w4 ⟨rfl, rfl⟩
        obtain ⟨p0, p1⟩ := ent_cells HV2.out
        obtain ⟨z0, z1⟩ := HSA.out.box.cells
        go_wp2_with (first
          | (at_builtin; refine wpList_push_enc (E := enE) (y := (entN E k, (n : Int))) Try.underlying23 Try.info_ent rfl (by decide) rfl _ _ rfl (ob + 1) _ _ rfl rfl HSA.out.own rfl (by omega) (by omega) ?_; intro v' w5 h1 hg h3; obtain ⟨A', n', c', rfl⟩ := h1.slice; have H5 := Lib.hid (HSA.out.push h3 h1); have y1 : w5.cell? ⟨ob, 1, none⟩ = some v := (h3.cell (p := ⟨ob, 1, none⟩) (Nat.lt_succ_self _)).trans z1; have y2 : w5.frozen? ⟨ob, 1, none⟩ = false := (h3.frozen (p := ⟨ob, 1, none⟩) (Nat.lt_succ_self _)).trans (free_block HSA.out.box 1 none); have HV6 : Hid (w5.heap[vb]? = some (.cells #[.int .i64 (entN E k), .int .i64 (n : Int)] 36 (0, 0))) := ((hg.block vb hsv (fun e => by have := HVB.out vb e.symm; omega)).trans HV2.out); clear h1 h3 hg)
          | (refine wpList_store_one rfl 23 _ _ rfl ob 1 (.slice A' n' c') _ rfl rfl (by kernel_rfl) rfl rfl y1 y2 ?_; intro w6 h6; rw [← h6] at H5; have hV6 : w6.heap[vb]? = some (.cells #[.int .i64 (entN E k), .int .i64 (n : Int)] 36 (0, 0)) := (by rw [h6]; exact ((Fr.refl [ob] _).setCell (.inl (by simp)) _).get HV6.out (by simp; omega)); clear h6; obtain ⟨p0, p1⟩ := ent_cells hV6; obtain ⟨z0, z1⟩ := H5.out.box.cells; obtain ⟨r0, r1⟩ := HROW.out w6 _ _ H5.out))
        go_roundw
        case rel => exact ⟨k + 1, by omega, by go_num, .slice A' n' c', by show MdSt _ _ _ _ _ _ _ _; rw [HKE.out, HNE.out]; exact H5.out.put n _⟩
        case measure => simp [intOf]; omega
    · have hk' : k = E.length := by omega
      rw [hk'] at hS
      clear hk'
      obtain ⟨z0, z1⟩ := hS.out.box.cells
      have HR : Hid (Im2 wr (B + 1) (.slice none 0 0) (.slice none 0 0)) := hS.out.fr.get HR2.out (by simp)
      obtain ⟨A', n', c', hv⟩ := hS.out.own.slice
      subst hv
      go_wp2_with (refine wpList_store_part rfl 25 _ _ rfl (B + 1) 0 #[.slice (some ⟨nb, 0, none⟩) C.length C.length, .slice A' n' c'] rfl rfl 25 #[.slice none 0 0, .slice none 0 0] HR.out (by kernel_rfl) (Nat.le_refl 2) (by simp [Value.oneCell']) #[.slice (some ⟨nb, 0, none⟩) C.length C.length, .slice A' n' c'] rfl ?_; have HR3 : Hid (Im2 (wr.setRow (B + 1) #[.slice (some ⟨nb, 0, none⟩) C.length C.length, .slice A' n' c']) (B + 1) (.slice (some ⟨nb, 0, none⟩) C.length C.length) (.slice A' n' c')) := setRow_heap _ _ _ _ _ _ HR.out; have HF3 : Hid (Fr [B + 1] wr (wr.setRow (B + 1) #[.slice (some ⟨nb, 0, none⟩) C.length C.length, .slice A' n' c'])) := (Fr.refl _ _).setRow (.inl (by simp)) _; revert HR3 HF3; generalize (wr.setRow (B + 1) #[.slice (some ⟨nb, 0, none⟩) C.length C.length, .slice A' n' c']) = w5; intro HR3 HF3)
      obtain ⟨x0, x1⟩ := HR3.out.cells
      refine bodyPost_ret (v := .tuple #[.agg #[.slice (some ⟨nb, 0, none⟩) C.length C.length, .slice A' n' c'], .nilIface]) (by simp [results, Try.results8, go_sem, x0, x1]) rfl ?_
      have e1 := HNB.out
      have e2 := HBE.out
      obtain ⟨g', hg', hsl⟩ := hS.out.own.sl
      refine ⟨_, rfl, ⟨_, _, nb, g', rfl, ?_, ?_⟩, (HF2.out.trans hS.out.fr).step HF3.out (fun x hx => .inr (by simp only [List.mem_singleton] at hx; omega))⟩
      · have h1 := sl_new (Fk.nms C E E.length) (HF3.out.get hS.out.row (by simp; omega)) (by rw [HNL.out]; unfold maxLen; omega)
        rw [HNL.out] at h1
        exact h1
      · rcases hg' with hg' | hg'
        · exact hsl.fr HF3.out (by simp; omega)
        · have hl : Fk.mendE C E = [] := hg'
          rcases hsl with ⟨_, h⟩ | ⟨o, c, h0, h1, h2, h3⟩
          · rw [hl]; exact .inl ⟨rfl, h⟩
          · rw [hg'] at h0; rw [hl]; exact .inl ⟨rfl, _, _, h0⟩
end Go.Proofs.Ytbohlbnbaomkiaa
