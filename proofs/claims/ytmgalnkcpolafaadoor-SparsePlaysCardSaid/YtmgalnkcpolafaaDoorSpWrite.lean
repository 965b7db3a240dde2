/- The contract of package sparse's Write. -/
import Derived.Test.YtmgalnkcpolafaaDoorSpWalk
import Derived.Test.YtmgalnkcpolafaaDoorCAll
namespace Go.Proofs.YtmgalnkcpolafaaDoor
open Go.RowKit

theorem Sl.frn {S : List Nat} {w w' : World} {v : Value} {g : Nat} {xs : List Int} (h : Sl w v g xs) (hf : Fr S w w') (hg : xs = [] ∨ g ∉ S) : Sl w' v g xs := by
  rcases hg with rfl | hg
  · rcases h with h | ⟨o, c, h0, h1, h2, h3⟩
    · exact .inl h
    · exact .inr ⟨o, c, h0, h1, h2, fun i hi => absurd hi (by simp)⟩
  · exact h.fr hf hg
theorem Sp.okL_all (l : List Int) : Sp.okL l = allIn l 0 255 := rfl
def Sp.bytesErr (l : List Int) (most : Nat) : Int := if most < l.length then 4 else if allIn l 0 255 = false then 1 else 0
theorem sp_Bytes (w : World) (v : Value) (g : Nat) (l : List Int) (most : Nat) (h : Sl w v g l) (hm : most ≤ 1000) :
    Calls Tryd.prog 42 #[v, .int .i64 most] w fun e w' => e = .returned (errV (Sp.bytesErr l most)) ∧ w = w' := by
  have HS := Lib.hid h
  obtain ⟨A, o, c, rfl, -, -, -⟩ := h.form
  by_cases hl : most < l.length
  · have er := Lib.hid (show Sp.bytesErr l most = 4 from by unfold Sp.bytesErr; rw [if_pos hl])
    go_enter Tryd.func42, Tryd.ntmps42
    go_wp2
    go_ret
    exact ⟨by rw [er.out]; rfl, rfl⟩
  · cases ha : allIn l 0 255 with
    | false =>
      have er := Lib.hid (show Sp.bytesErr l most = 1 from by unfold Sp.bytesErr; rw [if_neg hl, if_pos ha])
      have HA := Lib.hid ha
      have hl' : l.length ≤ most := by omega
      clear ha hl
      go_enter Tryd.func42, Tryd.ntmps42
      go_wp2_with (go_at_call 43; (with_reducible refine useC (all_any _ _ _ _ _ _ HS.out) ?_); rw [HA.out]; rintro e w ⟨rfl, rfl⟩)
      go_ret
      exact ⟨by rw [er.out]; rfl, rfl⟩
    | true =>
      have er := Lib.hid (show Sp.bytesErr l most = 0 from by unfold Sp.bytesErr; rw [if_neg hl, if_neg (by rw [ha]; decide)])
      have HA := Lib.hid ha
      have hl' : l.length ≤ most := by omega
      clear ha hl
      go_enter Tryd.func42, Tryd.ntmps42
      go_wp2_with (go_at_call 43; (with_reducible refine useC (all_any _ _ _ _ _ _ HS.out) ?_); rw [HA.out]; rintro e w ⟨rfl, rfl⟩)
      go_ret
      exact ⟨by rw [er.out]; rfl, rfl⟩
/-- Parts of which P held at w, and new ones. -/
def OrNew (P : Nat → Prop) (w : World) (k : Nat) : Prop := P k ∨ w.heap.size ≤ k
/-- What the rounds of Write know. -/
structure SpW (P : Nat → Prop) (w wr : World) (b mb n : Nat) (s : Int) (byt blk : List Int) (o : Nat → Nat) : Prop where
  parts : SpB (OrNew P w) wr b mb s byt blk o
  map : PMap Tryd.prog 3 wr mb n (spM blk o)
  fr : FrP P w wr
section
variable {P : Nat → Prop} {w wr w' : World} {b mb n : Nat} {s : Int} {byt blk : List Int} {o : Nat → Nat}
theorem SpW.put (h : SpW P w wr b mb n s byt blk o) (hl : byt.length = 64) {i j : Nat} (hi : i < 16) (hj : j < 4) (h1 : nth blk i = 1) (x : Int) : SpW P w (wr.setCell ⟨o i, j, none⟩ (.int .i64 x)) b mb n s (byt.set (4 * i + j) x) blk o := by
  have hf : Fr [o i] wr (wr.setCell ⟨o i, j, none⟩ (.int .i64 x)) := (Fr.refl _ wr).setCell (.inl (by simp)) _
  have ha := h.parts.arr i hi h1
  exact ⟨h.parts.put hl hi hj h1 x, h.map.fr hf (by simp only [List.mem_singleton]; exact fun e => ha.2.2.1 e.symm), h.fr.step hf (by simp only [List.mem_singleton]; rintro y rfl; exact ha.1)⟩
theorem SpW.size (h : SpW P w wr b mb n s byt blk o) (x : Int) : SpW P w (wr.setCell ⟨b, 0, none⟩ (.int .i64 x)) b mb n x byt blk o := by
  have hf : Fr [b] wr (wr.setCell ⟨b, 0, none⟩ (.int .i64 x)) := (Fr.refl _ wr).setCell (.inl (by simp)) _
  exact ⟨h.parts.size x, h.map.fr hf (by simp only [List.mem_singleton]; exact fun e => h.parts.ne e.symm), h.fr.step hf (by simp only [List.mem_singleton]; rintro y rfl; exact h.parts.gb)⟩
/-- A block more. -/
theorem SpW.new (h : SpW P w wr b mb n s byt blk o) (hk : blk.length = 16) {i : Nat} (hi : i < 16) (hz : Sp.cutOut byt (4 * i) 4 = [0, 0, 0, 0])
    (hp : PMap Tryd.prog 3 w' mb (n + 1) (fun x : Int => if x = (i : Int) then some wr.heap.size else spM blk o x)) (hf : Fr [mb] (wr.alloc (.cells #[.int .i64 0, .int .i64 0, .int .i64 0, .int .i64 0] 79)) w') :
    SpW P w w' b mb (n + 1) s byt (blk.set i 1) (fun j => if j = i then wr.heap.size else o j) := by
  have hb := lt_of_heap h.parts.file
  have hm := h.parts.mlt
  have ha : Fr [] wr (wr.alloc (.cells #[.int .i64 0, .int .i64 0, .int .i64 0, .int .i64 0] 79)) := (Fr.refl _ _).alloc _
  have hq : (wr.alloc (.cells #[.int .i64 0, .int .i64 0, .int .i64 0, .int .i64 0] 79)).heap[wr.heap.size]? = some (.cells (ints (Sp.cutOut byt (4 * i) 4)) 79 (0, 0)) := by rw [hz]; exact heap_alloc_new wr _
  have h1 := (h.parts.keep ha).new hk hi (.inr h.fr.size) (by omega) (by omega) hq (fun j hj hj1 => by have := h.parts.lt hj hj1; omega)
  exact ⟨h1.fr hf (by simp only [List.mem_singleton]; exact h.parts.ne) (fun j hj hj1 => by simp only [List.mem_singleton]; exact (h1.arr j hj hj1).2.2.1), by rw [← spM_new blk hk hi]; exact hp, (h.fr.step ha (by simp)).step hf (by simp only [List.mem_singleton]; rintro y rfl; exact h.parts.gm)⟩
end
/-- What Write leaves. -/
def SpWr (P : Nat → Prop) (b N : Nat) (f : Sp.F) (c : Int) (w : World) (e : Ending) (w' : World) : Prop := e = .returned (errV c) ∧ SpF (OrNew P w) w' b N f ∧ FrP P w w'
theorem Sp.wrong_bytes {a : Int} {l : List Int} (h : Sp.bytesErr l 64 ≠ 0) : Sp.wrong a l = Sp.bytesErr l 64 := by
  unfold Sp.bytesErr at h ⊢
  unfold Sp.wrong
  rw [Sp.okL_all]
  split
  · rfl
  · rename_i h1
    rw [if_neg h1] at h
    split
    · rfl
    · rename_i h2
      rw [if_neg h2] at h
      exact absurd rfl h
theorem Sp.wrong_place {a : Int} {l : List Int} (h : Sp.bytesErr l 64 = 0) : Sp.wrong a l = if ¬ (0 ≤ a ∧ a ≤ 64) then 1 else if 64 < a + l.length then 4 else 0 := by
  unfold Sp.bytesErr at h
  unfold Sp.wrong
  rw [Sp.okL_all]
  split at h
  · cases h
  · rename_i h1
    rw [if_neg h1]
    split at h
    · cases h
    · rename_i h2
      rw [if_neg h2]
theorem sp_Write_no (w : World) (P : Nat → Prop) (b N : Nat) (f : Sp.F) (a : Int) (v : Value) (g : Nat) (l : List Int) (h : SpF P w b N f) (hs : Sl w v g l) (hw : Sp.wrong a l ≠ 0) :
    Calls Tryd.prog 28 #[.pointer (some ⟨b, 0, none⟩), .int .i64 a, v] w (SpWr P b N f (Sp.wrong a l) w) := by
  have HH := Lib.hid h
  have HS := Lib.hid (sp_Bytes w v g l 64 hs (by decide))
  obtain ⟨A, o, c, rfl, -, -, -⟩ := hs.form
  by_cases hb : Sp.bytesErr l 64 = 0
  · have HB := Lib.hid (show errV (Sp.bytesErr l 64) = .nilIface from by rw [hb]; rfl)
    have er := Lib.hid (Sp.wrong_place (a := a) hb)
    have hl : l.length ≤ 64 := by
      unfold Sp.bytesErr at hb
      split at hb
      · cases hb
      · omega
    by_cases ha : 0 ≤ a ∧ a ≤ 64
    · have e1 : decide (0 ≤ a ∧ a ≤ 64) = true := decide_eq_true ha
      have h4 : 64 < a + l.length := by
        rw [er.out, if_neg (by omega)] at hw
        split at hw
        · assumption
        · exact absurd rfl hw
      have er2 := Lib.hid (show Sp.wrong a l = 4 from by rw [er.out, if_neg (by omega), if_pos h4])
      obtain ⟨a1, a2⟩ := ha
      clear h hb hw
      go_enter Tryd.func28, Tryd.ntmps28
      go_wp2_with (first
        | (go_at_call 42; (with_reducible refine useC HS.out ?_); rw [HB.out]; rintro e w ⟨rfl, rfl⟩)
        | (go_at_call 36; (with_reducible refine useC (within_is a _ _ true _ e1) ?_); rintro e w ⟨rfl, rfl⟩))
      go_ret
      exact ⟨by rw [er2.out]; rfl, HH.out.imp (fun _ h => .inl h), FrP.refl _ _⟩
    · have e1 : decide (0 ≤ a ∧ a ≤ 64) = false := decide_eq_false ha
      have er2 := Lib.hid (show Sp.wrong a l = 1 from by rw [er.out, if_pos ha])
      clear h hb hw ha
      go_enter Tryd.func28, Tryd.ntmps28
      go_wp2_with (first
        | (go_at_call 42; (with_reducible refine useC HS.out ?_); rw [HB.out]; rintro e w ⟨rfl, rfl⟩)
        | (go_at_call 36; (with_reducible refine useC (within_is a _ _ false _ e1) ?_); rintro e w ⟨rfl, rfl⟩))
      go_ret
      exact ⟨by rw [er2.out]; rfl, HH.out.imp (fun _ h => .inl h), FrP.refl _ _⟩
  · have HB := Lib.hid (errV_no hb)
    have er := Lib.hid (Sp.wrong_bytes (a := a) hb)
    clear h hb hw
    go_enter Tryd.func28, Tryd.ntmps28
    go_wp2_with (go_at_call 42; (with_reducible refine useC HS.out ?_); rw [HB.out]; rintro e w ⟨rfl, rfl⟩)
    go_ret
    exact ⟨by rw [er.out, HB.out]; rfl, HH.out.imp (fun _ h => .inl h), FrP.refl _ _⟩
set_option maxRecDepth 100000 in
set_option maxHeartbeats 4000000 in
theorem sp_Write_at (w : World) (P : Nat → Prop) (b mb n : Nat) (o : Nat → Nat) (f : Sp.F) (a : Nat) (v : Value) (g : Nat) (l : List Int) (hp : SpB P w b mb f.size f.byt f.blk o) (hpm : PMap Tryd.prog 3 w mb n (spM f.blk o)) (hs : Sl w v g l) (hg : l = [] ∨ ¬ P g) (hO : Sp.OK f) (hw : Sp.wrong a l = 0) (hn : n ≤ 1000000) :
    Calls Tryd.prog 28 #[.pointer (some ⟨b, 0, none⟩), .int .i64 a, v] w (SpWr P b (n + 64) (Sp.wr f a l) 0 w) := by
  obtain ⟨w1, w2, w3, w4⟩ := Sp.wrong_zero hw
  have HS := Lib.hid (sp_Bytes w v g l 64 hs (by decide))
  have HSL := Lib.hid (fun W (hW : FrP P w W) => hs.frP hW hg)
  obtain ⟨A, o0, c, rfl, hm0, hA, hc⟩ := hs.form
  have HB := Lib.hid (show errV (Sp.bytesErr l 64) = .nilIface from by
    have : Sp.bytesErr l 64 = 0 := by unfold Sp.bytesErr; rw [if_neg (by omega), if_neg (by rw [← Sp.okL_all, w2]; decide)]
    rw [this]; rfl)
  have e1 : decide ((0 : Int) ≤ a ∧ (a : Int) ≤ 64) = true := decide_eq_true (by omega)
  have hal : a + l.length ≤ 64 := by omega
  have HA := Lib.hid hA
  have H0 : Hid (SpW P w w b mb n f.size f.byt f.blk o) := ⟨hp.imp (fun _ h => .inl h), hpm, FrP.refl _ _⟩
  have HO := Lib.hid hO
  clear hp hpm hg hs hA hc hw w1 w2 w3 w4 hO
  go_enter Tryd.func28, Tryd.ntmps28
  go_wp2_with (first
    | (go_at_call 42; (with_reducible refine useC HS.out ?_); rw [HB.out]; rintro e w ⟨rfl, rfl⟩)
    | (go_at_call 36; (with_reducible refine useC (within_is a _ _ true _ e1) ?_); rintro e w ⟨rfl, rfl⟩))
  go_loopw [28] (fun i wr => ∃ k : Nat, k ≤ l.length ∧ i = .int .i64 k ∧ ∃ o' n', n' ≤ n + k ∧ Hid (SpW P w wr b mb n' f.size (Sp.wrB f.byt a l k) (Sp.wrK f.blk a k) o')) (fun i _ => l.length - (intOf i).toNat)
  case atStart => exact ⟨0, Nat.zero_le _, rfl, o, n, Nat.le_refl _, H0⟩
  case round =>
    obtain ⟨k, hk, rfl, o', n', hn', hW⟩ := hrel
    obtain ⟨c0, c1⟩ := file_cells hW.out.parts.file
    by_cases hlt : k < l.length
    · obtain rfl := HA.out (by omega)
      have hlc : ∀ W, Sl W (.slice (some ⟨g, o0, none⟩) l.length c) g l → W.cell? ⟨g, o0 + k, none⟩ = some (.int .i64 (nth l k)) := fun W hS => by
        obtain ⟨A', o1, c1, e0, -, q1, q2⟩ := hS.form
        injection e0 with e0 _ _
        rw [q1 (by omega)] at e0
        injection e0 with e0
        injection e0 with _ e0 _
        subst e0
        exact q2 k hlt
      have hcl := hlc wr (HSL.out wr hW.out.fr)
      obtain ⟨i, hi⟩ : ∃ i : Nat, i = (a + k) / 4 := ⟨_, rfl⟩
      obtain ⟨j, hj⟩ : ∃ j : Nat, j = (a + k) % 4 := ⟨_, rfl⟩
      have hi16 : i < 16 := by omega
      have hj4 : j < 4 := by omega
      have HIJ := Lib.hid (show 4 * i + j = a + k from by omega)
      have HI4 := Lib.hid hi
      have q0 : (a : Int) + (k : Int) = ((a + k : Nat) : Int) := by omega
      have q1 : (((a + k : Nat) : Int)) / 4 = (i : Int) := by omega
      have q2 : (((a + k : Nat) : Int)) % 4 = (j : Int) := by omega
      have hI := Lib.hid (show I64 (i : Int) from ⟨by omega, by omega⟩)
      have HlB : Hid ((Sp.wrB f.byt a l k).length = 64) := (by show _ = _; rw [Sp.wrB_len, HO.out.lenB])
      have HlK : Hid ((Sp.wrK f.blk a k).length = 16) := (by show _ = _; rw [Sp.wrK_len, HO.out.lenK])
      have HSB : Hid (Sp.wrB f.byt a l (k + 1) = (Sp.wrB f.byt a l k).set (a + k) (nth l k)) := rfl
      have HSK : Hid (Sp.wrK f.blk a (k + 1) = (Sp.wrK f.blk a k).set ((a + k) / 4) 1) := rfl
      have HBT := Lib.hid (Sp.wrK_bit HO.out (a := a) (n := k) (by omega) i)
      have HZR := Lib.hid (fun h0 => Sp.wrB_zero HO.out (a := a) (n := k) (i := i) (l := l) (by omega) h0)
      clear hlc hj
      generalize nth l k = y at *
      by_cases hb : nth (Sp.wrK f.blk a k) i = 1
      · have HV := Lib.hid (show ptrO (spM (Sp.wrK f.blk a k) o' i) = .pointer (some ⟨o' i, 0, none⟩) from by rw [spM_yes o' hi16 hb]; rfl)
        have hcell := hW.out.parts.byte HlB.out hi16 hj4 hb
        have hfree := hW.out.parts.free j hi16 hb
        have HN := Lib.hid (show SpW P w (wr.setCell ⟨o' i, j, none⟩ (.int .i64 y)) b mb n' f.size (Sp.wrB f.byt a l (k + 1)) (Sp.wrK f.blk a (k + 1)) o' from by
          rw [HSB.out, HSK.out, ← HIJ.out, show (4 * i + j) / 4 = i by omega, Sp.set_one hb (by rw [HlK.out]; exact hi16)]
          exact hW.out.put HlB.out hi16 hj4 hb y)
        rw [HIJ.out] at hcell
        clear hb hi
        generalize nth (Sp.wrB f.byt a l k) (a + k) = y0 at *
        generalize hp : a + k = p at *
        have HPA := Lib.hid hp
        clear hp
        go_wp2_with (first
          | (at_lookup; refine wpList_lookup_ptr rfl _ _ rfl hW.out.map Tryd.underlying3 Tryd.underlying75 (zero_ptr _) rfl _ rfl hI.out _ HV.out ?_))
        go_roundw
        case rel => exact ⟨k + 1, by omega, by go_num, o', n', by omega, HN⟩
        case measure => simp [intOf]; omega
      · have hb0 := HBT.out.resolve_right hb
        have HV := Lib.hid (show ptrO (spM (Sp.wrK f.blk a k) o' i) = .pointer none from by rw [spM_no o' hb]; rfl)
        have HZ := Lib.hid (Sp.cutOut_zero _ i HlB.out hi16 (fun j hj => HZR.out hb0 j hj))
        have hbr := lt_of_heap hW.out.parts.file
        have hmr := hW.out.parts.mlt
        have HNW := Lib.hid (fun w2 hp2 hf2 => hW.out.new (w' := w2) HlK.out hi16 HZ.out hp2 hf2)
        have HV2 := Lib.hid (show ptrO (spM ((Sp.wrK f.blk a k).set i 1) (fun j => if j = i then wr.heap.size else o' j) i) = .pointer (some ⟨wr.heap.size, 0, none⟩) from by rw [spM_yes _ hi16 (by rw [Sp.nth_set _ _ _ _ (by rw [HlK.out]; exact hi16), if_pos rfl])]; simp [ptrO])
        have H1 := Lib.hid (show nth ((Sp.wrK f.blk a k).set i 1) i = 1 from by rw [Sp.nth_set _ _ _ _ (by rw [HlK.out]; exact hi16), if_pos rfl])
        have HPU := Lib.hid (show PMap Tryd.prog 3 (wr.alloc (.cells #[.int .i64 0, .int .i64 0, .int .i64 0, .int .i64 0] 79)) mb n' (spM (Sp.wrK f.blk a k) o') from hW.out.map.fr ((Fr.refl [] wr).alloc _) (by simp))
        have hn'' : n' < maxLen := by unfold maxLen; omega
        have HSK2 := Lib.hid (show Sp.wrK f.blk a (k + 1) = (Sp.wrK f.blk a k).set i 1 from by rw [HSK.out, ← hi])
        clear hb hb0 hi
        generalize hp : a + k = p at *
        have HPA := Lib.hid hp
        clear hp
        go_wp2_with (first
          | (at_lookup; refine wpList_lookup_ptr rfl _ _ rfl hW.out.map Tryd.underlying3 Tryd.underlying75 (zero_ptr _) rfl _ rfl hI.out _ HV.out ?_)
          | (at_mapUpdate; refine wpList_update_ptr rfl _ _ _ rfl HPU.out Tryd.underlying3 Tryd.underlying75 hn'' rfl _ rfl wr.heap.size rfl hI.out ?_; intro w2 h1 h2; have HW2 := Lib.hid (HNW.out w2 h1 h2); clear h1 h2; obtain ⟨c0, c1⟩ := file_cells HW2.out.parts.file)
          | (at_lookup; refine wpList_lookup_ptr rfl _ _ rfl HW2.out.map Tryd.underlying3 Tryd.underlying75 (zero_ptr _) rfl _ rfl hI.out _ HV2.out ?_; have hcell := HW2.out.parts.byte HlB.out hi16 hj4 H1.out; have hfree := HW2.out.parts.free j hi16 H1.out; simp only [if_true] at hcell hfree; have HP2 := Lib.hid (HW2.out.put HlB.out hi16 hj4 H1.out y)))
        go_roundw
        case rel => exact ⟨k + 1, by omega, by go_num, _, n' + 1, (by omega), (by
          show SpW _ _ _ _ _ _ _ _ _ _
          rw [HSB.out, HSK2.out, ← HIJ.out]
          have h := HP2.out
          simp only [if_true] at h
          exact h)⟩
        case measure => simp [intOf]; omega
    · have hk' : k = l.length := by omega
      subst hk'
      have HEN := Lib.hid (fun W s (h : SpW P w W b mb n' s (Sp.wrB f.byt a l l.length) (Sp.wrK f.blk a l.length) o') (hs : s = ((Sp.wr f a l).size : Int)) => (show SpF (OrNew P w) W b (n + 64) (Sp.wr f a l) from ⟨mb, n', o', by omega, by rw [← hs]; exact h.parts, h.map⟩))
      have hfree := free_block hW.out.parts.file 0 none
      by_cases hl0 : 0 < l.length
      · have HSZ := Lib.hid (show ((Sp.wr f a l).size : Int) = max (f.size : Int) ((a : Int) + l.length) from by unfold Sp.wr; simp only; rw [if_pos hl0]; omega)
        have hi0 : (0 : Int) < l.length := by omega
        have HSF := Lib.hid (fun x => hW.out.size x)
        have hs64 := HO.out.size
        clear hl0
        go_wp2
        all_goals
          go_ret
          first
            | (have r := HSF.out ((a : Int) + l.length); exact ⟨rfl, HEN.out _ _ r (by rw [HSZ.out]; omega), r.fr⟩)
            | (have r := HSF.out (f.size : Int); exact ⟨rfl, HEN.out _ _ r (by rw [HSZ.out]; omega), r.fr⟩)
      · have HSZ := Lib.hid (show ((Sp.wr f a l).size : Int) = f.size from by unfold Sp.wr; simp only; rw [if_neg hl0])
        have hi0 : ¬ (0 : Int) < l.length := by omega
        clear hl0
        go_wp2
        go_ret
        exact ⟨rfl, HEN.out _ _ hW.out HSZ.out.symm, hW.out.fr⟩
/-- Write, whatever the arguments; the list lies apart from the file. -/
theorem sp_Write (w : World) (P : Nat → Prop) (b N : Nat) (f : Sp.F) (a : Int) (v : Value) (g : Nat) (l : List Int) (h : SpF P w b N f) (hO : Sp.OK f) (hs : Sl w v g l) (hg : l = [] ∨ ¬ P g) (hN : N ≤ 1000000) :
    Calls Tryd.prog 28 #[.pointer (some ⟨b, 0, none⟩), .int .i64 a, v] w (SpWr P b (N + 64) (Sp.write f a l) (Sp.wrong a l) w) := by
  by_cases hw : Sp.wrong a l = 0
  · obtain ⟨mb, n, o, hn, h1, h2⟩ := h
    obtain ⟨_, _, h3, _⟩ := Sp.wrong_zero hw
    obtain ⟨k, rfl⟩ : ∃ k : Nat, a = k := ⟨a.toNat, by omega⟩
    refine (sp_Write_at w P b mb n o f k v g l h1 h2 hs hg hO hw (by omega)).mono fun e w' ⟨r1, r2, r3⟩ => ?_
    refine ⟨by rw [r1, hw], ?_, r3⟩
    have e1 : Sp.write f k l = Sp.wr f k l := by unfold Sp.write; rw [if_pos hw, Int.toNat_natCast]
    rw [e1]
    exact r2.mono (by omega)
  · refine (sp_Write_no w P b N f a v g l h hs hw).mono fun e w' ⟨r1, r2, r3⟩ => ⟨r1, ?_, r3⟩
    have e1 : Sp.write f a l = f := by unfold Sp.write; rw [if_neg hw]
    rw [e1]
    exact r2.mono (by omega)
end Go.Proofs.YtmgalnkcpolafaaDoor
