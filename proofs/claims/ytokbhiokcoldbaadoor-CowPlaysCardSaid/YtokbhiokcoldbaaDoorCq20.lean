/- CowPlays: the store's Put; a version more; how it begins. -/

import Derived.Test.YtokbhiokcoldbaaDoorCq02
import Derived.Test.YtokbhiokcoldbaaDoorCq19
namespace Go.Proofs.YtokbhiokcoldbaaDoor
open Go.RowKit

theorem vr_info : (Tryd.prog.info? 27).map (fun i => (i.zero, i.size, i.bytes)) = some (some (.agg #[.slice none 0 0, .slice none 0 0, .slice none 0 0]), vrE.k, 72) := by kernel_rfl
theorem vr_und : Tryd.prog.underlying 28 = some (.slice 27) := by kernel_rfl
/-- What Put's number is: the new version's, or 0. -/
def putR (st : List Ct) (c : Int) : Int := if c = 0 then (st.length : Int) else 0
def CoPutS (B sb : Nat) (st : List Ct) (v k x : Int) (w : World) (e : Ending) (w' : World) : Prop :=
  ∃ st', e = .returned (.tuple #[.int .i64 (putR st (Co.putErr st v k x)), errV (Co.putErr st v k x)]) ∧ CoS B w' sb st' ∧ CoK sb w w' ∧ ((Co.putErr st v k x = 0 ∧ ∃ N, w.heap.size ≤ N ∧ st' = st ++ [Co.put (Co.tree st v) N k x]) ∨ (Co.putErr st v k x ≠ 0 ∧ st' = st))
theorem co_PutS (w : World) (B sb : Nat) (st : List Ct) (v k x : Int) (hS : CoS B w sb st) (hB : B ≤ w.heap.size) :
    Calls Tryd.prog 11 #[.pointer (some ⟨sb, 0, none⟩), .int .i64 v, .int .i64 k, .int .i64 x] w (CoPutS B sb st v k x w) := by
  by_cases h : Co.putErr st v k x = 0
  · refine (co_Put_ok w _ sb st v k x hS hB h).mono fun e w' ⟨N, hN, he, hs, hk⟩ => ?_
    exact ⟨_, by rw [he, h]; rfl, hs, hk, .inl ⟨h, N, hN, rfl⟩⟩
  · refine (co_Put_err w _ sb st v k x _ hS rfl h).mono fun e w' ⟨he, hf⟩ => ?_
    exact ⟨st, by rw [he, errV_no h]; unfold putR; rw [if_neg h], hS.step hf, CoK.of_fr hS hf, .inr ⟨h, rfl⟩⟩
namespace Co
theorem rv_perm {F : Nat → Int × Int} {T : Ct} {q : Vr} {m : Nat} (h : Rv F T q m) (hU : Up T) : (keys T).Perm q.K := (List.perm_ext_iff_of_nodup (up_nodup hU) h.nd).2 h.mem
theorem rv_len {F : Nat → Int × Int} {T : Ct} {q : Vr} {m : Nat} (h : Rv F T q m) (hU : Up T) : q.K.length = (nodes T).length := by
  rw [← (rv_perm h hU).length_eq, len_keys]
end Co
section
variable {w wr w' w3 : World} {sb : Nat} {st st' : List Ct} {hx hx' : Value} {vs : List V3} {qs : List Co.Vr} {L : Nat → Nat}
theorem CqS.start (h : CoS w.heap.size w' sb [.nil]) (hf : Fr [] w w') : CqS w (w'.alloc (.cells #[.slice none 0 0, .slice none 0 0, .slice none 0 0] 27)) sb [.nil] (.slice (some ⟨w'.heap.size, 0, none⟩) 1 1) [(⟨none, 0, 0⟩, ⟨none, 0, 0⟩, ⟨none, 0, 0⟩)] [Co.vr0] (fun _ => 0) := by
  have fa : Fr [] w' (w'.alloc (.cells #[.slice none 0 0, .slice none 0 0, .slice none 0 0] 27)) := (Fr.refl _ _).alloc _
  refine ⟨h.step fa, ⟨by simp [Enc.cells, vrE], .inr ⟨w'.heap.size, 1, _, rfl, hf.size, heap_alloc_new w' _, by simp, by decide, by simp [vrE], by simp [Enc.cells, vrE, SlV.val]⟩⟩, rfl, fun j hj => ?_, fun j hj g hg => ?_, hf.trans fa⟩
  · have e : j = 0 := by simpa using hj
    subst e
    have h0 : VR (fun _ => 0) (w'.alloc (.cells #[.slice none 0 0, .slice none 0 0, .slice none 0 0] 27)) (.slice none 0 0) [] := ⟨Own.nil _ _ _, fun g hg => by cases hg⟩
    exact ⟨h0, h0, h0⟩
  · have e : j = 0 := by simpa using hj
    subst e
    rcases hg with hg | hg | hg <;> cases hg
/-- A version more, made of the j-th. -/
theorem CqS.more (h : CqS w wr sb st hx vs qs L) {j : Nat} (hj : j < vs.length) {key x num : Int} {y : V3} {v k m : Value} {q : Co.Vr} (hq : qs.getD j Co.vr0 = q) (ev : k = vs[j].1.val ∧ v = vs[j].2.1.val ∧ m = vs[j].2.2.val) (hkp : KpL (P3 k v m) L wr w3) (ho : Own w3 0 3 y.1.val (q.room key).K) (hor : (y.1.val = k ∧ key ∈ q.K) ∨ NewB wr y.1.val) (hov : Own w3 wr.heap.size 3 y.2.1.val (q.put key x num).V) (hom : Own w3 wr.heap.size 3 y.2.2.val (q.put key x num).M)
    (hroom : Co.Room q key (q.room key).K (q.room key).V (q.room key).M) : ∃ L', CqS w w3 sb st hx vs qs L' ∧ VV L' w3 y (q.put key x num) ∧ ∀ g, B3 y g → w.heap.size ≤ g := by
  subst hq
  obtain ⟨rfl, rfl, rfl⟩ := ev
  have hrow := h.row j hj
  have hge := h.ge j hj
  have hL : ∀ g, g < wr.heap.size → (fun g => if g < wr.heap.size then L g else ((qs.getD j Co.vr0).room key).K.length) g = L g := fun g hg => if_pos hg
  have hwr := h.fr.size
  have hnew : ∀ g, wr.heap.size ≤ g → (fun g => if g < wr.heap.size then L g else ((qs.getD j Co.vr0).room key).K.length) g = ((qs.getD j Co.vr0).room key).K.length := fun g hg => if_neg (by omega)
  refine ⟨fun g => if g < wr.heap.size then L g else ((qs.getD j Co.vr0).room key).K.length, (h.relab hL).put hj (hkp.relab hL), ⟨⟨ho, fun g hg => ?_⟩, ⟨hov.zero, fun g hg => ?_⟩, ⟨hom.zero, fun g hg => ?_⟩⟩, fun g hg => ?_⟩
  · rcases hor with ⟨e, hm⟩ | hn
    · rw [e] at hg
      rw [hL g (hrow.1.1.ge g hg).2, hrow.1.2 g hg]
      show _ = ((qs.getD j Co.vr0).room key).K.length
      unfold Co.Vr.room
      rw [if_pos hm]
    · rw [hnew g (hn g hg)]
      rfl
  · rw [hnew g (hov.ge g hg).1]
    show _ = ((((qs.getD j Co.vr0).room key).V).set _ _).length
    rw [List.length_set, hroom.lv]
  · rw [hnew g (hom.ge g hg).1]
    show _ = (Co.mTo _ _ _ _ _).length
    rw [Co.mTo_len, hroom.lm]
  · rcases hg with hg | hg | hg
    · rcases hor with ⟨e, hm⟩ | hn
      · rw [e] at hg; exact hge g (.inl hg)
      · have := hn g hg; omega
    · have := (hov.ge g hg).1; omega
    · have := (hom.ge g hg).1; omega
end
/-- All versions, as they lie. -/
theorem CqS.all {w wr : World} {sb : Nat} {st : List Ct} {hx : Value} {vs : List V3} {qs : List Co.Vr} {L : Nat → Nat} (h : CqS w wr sb st hx vs qs L) (h0 : 0 < qs.length) (hl : ∀ j, j < qs.length → (qs.getD j Co.vr0).V.length = (qs.getD j Co.vr0).K.length ∧ (qs.getD j Co.vr0).M.length = (qs.getD j Co.vr0).K.length) : ∃ gx cx, hx = .slice (some ⟨gx, 0, none⟩) qs.length cx ∧ ∀ j, j < qs.length → ∃ A0 c0 A1 c1 A2 c2 g0 g1 g2, ∀ W, Fr [] wr W →
    (W.cell? ⟨gx, j * 3, none⟩ = some (.slice A0 (qs.getD j Co.vr0).K.length c0) ∧ W.cell? ⟨gx, j * 3 + 1, none⟩ = some (.slice A1 (qs.getD j Co.vr0).K.length c1) ∧ W.cell? ⟨gx, j * 3 + 2, none⟩ = some (.slice A2 (qs.getD j Co.vr0).K.length c2)) ∧ (loadVar 27 ⟨gx, j * 3, none⟩).run Tryd.prog W = .ok (.agg #[.slice A0 (qs.getD j Co.vr0).K.length c0, .slice A1 (qs.getD j Co.vr0).K.length c1, .slice A2 (qs.getD j Co.vr0).K.length c2]) W ∧
    Sl W (.slice A0 (qs.getD j Co.vr0).K.length c0) g0 (qs.getD j Co.vr0).K ∧ Sl W (.slice A1 (qs.getD j Co.vr0).K.length c1) g1 (qs.getD j Co.vr0).V ∧ Sl W (.slice A2 (qs.getD j Co.vr0).K.length c2) g2 (qs.getD j Co.vr0).M := by
  obtain ⟨gx, cx, -, -, -, -, -, -, hxe, -⟩ := h.at h0 (hl 0 h0)
  refine ⟨gx, cx, hxe, fun j hj => ?_⟩
  obtain ⟨gx', cx', A0, c0, A1, c1, A2, c2, hxe', ⟨hv, hvj⟩, hc, -, hg⟩ := h.at hj (hl j hj)
  rw [hxe] at hxe'
  injection hxe' with e1 _ _
  injection e1 with e1
  injection e1 with e1 _ _
  subst e1
  have hr := h.row j hv
  rw [hvj] at hr
  obtain ⟨g0, -, s0⟩ := hr.1.1.sl
  obtain ⟨g1, -, s1⟩ := hr.2.1.1.sl
  obtain ⟨g2, -, s2⟩ := hr.2.2.1.sl
  refine ⟨A0, c0, A1, c1, A2, c2, g0, g1, g2, fun W hW => ?_⟩
  obtain ⟨k1, k2⟩ := hc W (hW.block gx hg (by simp))
  exact ⟨k1, k2, Sl.fr s0 hW (by simp), Sl.fr s1 hW (by simp), Sl.fr s2 hW (by simp)⟩
/-- What the loop of insertions holds. -/
def CqL (w wr : World) (sb : Nat) (hx : Value) (n : Nat) : Prop := ∃ st vs qs L F, CqS w wr sb st hx vs qs L ∧ Co.Sq F st qs ∧ st.getD 0 .nil = .nil ∧ qs.length = n
theorem CqL.step {w wr w' : World} {sb n : Nat} {hx : Value} (h : CqL w wr sb hx n) (hf : Fr [] wr w') : CqL w w' sb hx n := by
  obtain ⟨st, vs, qs, L, F, h1, h2⟩ := h
  exact ⟨st, vs, qs, L, F, h1.step hf, h2⟩
theorem CqL.fr {w wr : World} {sb n : Nat} {hx : Value} (h : CqL w wr sb hx n) : Fr [] w wr := by
  obtain ⟨st, vs, qs, L, F, h1, -⟩ := h
  exact h1.fr
/-- What holds behind the switch: the document's row may have one more than the store. -/
def CqM (w wr : World) (sb : Nat) (st : List Ct) (qs : List Co.Vr) (hx : Value) (n : Nat) (x0 x1 x2 : Int) : Prop := ∃ vs qs' L, CqS w wr sb st hx vs qs' L ∧ qs'.length = n ∧
  ((Co.putErr st x0 x1 x2 = 0 ∧ qs' = qs ++ [(qs.getD x0.toNat Co.vr0).put x1 x2 st.length]) ∨ (Co.putErr st x0 x1 x2 ≠ 0 ∧ qs' = qs))
theorem CqM.done {w wr w' : World} {sb : Nat} {st st' : List Ct} {qs : List Co.Vr} {hx : Value} {n : Nat} {x0 x1 x2 : Int} {F : Nat → Int × Int} (h : CqM w wr sb st qs hx n x0 x1 x2) (hq : Co.Sq F st qs) (h0 : st.getD 0 .nil = .nil) (hs : CoS w.heap.size w' sb st') (hk : CoK sb wr w') (hc : (Co.putErr st x0 x1 x2 = 0 ∧ ∃ N, wr.heap.size ≤ N ∧ st' = st ++ [Co.put (Co.tree st x0) N x1 x2]) ∨ (Co.putErr st x0 x1 x2 ≠ 0 ∧ st' = st)) : CqL w w' sb hx n := by
  obtain ⟨vs, qs', L, h1, h2, h3⟩ := h
  have h4 := h1.turn hs hk
  rcases hc with ⟨c1, N, hN, rfl⟩ | ⟨c1, rfl⟩
  · obtain ⟨-, rfl⟩ := h3.resolve_right (fun h => h.1 c1)
    have hv : Co.has st x0 := by
      unfold Co.putErr at c1
      split at c1
      · assumption
      · cases c1
    have hlt : x0.toNat < st.length := by have := hv.1; have := hv.2; omega
    obtain ⟨F', hF⟩ := Co.sq_put hq (h1.s.ok.mono hN) hlt x1 x2
    refine ⟨_, vs, _, L, F', h4, hF, ?_, h2⟩
    rw [Co.getD_app1 (by omega)]
    exact h0
  · obtain ⟨-, rfl⟩ := h3.resolve_left (fun h => c1 h.1)
    exact ⟨_, vs, _, L, F, h4, hq, h0, h2⟩
end Go.Proofs.YtokbhiokcoldbaaDoor
/- The contract of the laws' own 'in'. -/
namespace Go.Proofs.YtokbhiokcoldbaaDoor
open Go.RowKit

theorem in3_any (n lo hi : Int) (w : World) :
    Calls Tryd.prog 9 #[.int .i64 n, .int .i64 lo, .int .i64 hi] w fun e w' => e = .returned (.bool (decide (lo ≤ n ∧ n ≤ hi))) ∧ w = w' := by
  go_enter Tryd.func9, Tryd.ntmps9
  go_wp2
  all_goals (go_ret; refine ⟨?_, rfl⟩; congr; try simp; try omega)

theorem in3_is (n lo hi : Int) (b : Bool) (w : World) (h : decide (lo ≤ n ∧ n ≤ hi) = b) :
    Calls Tryd.prog 9 #[.int .i64 n, .int .i64 lo, .int .i64 hi] w fun e w' => e = .returned (.bool b) ∧ w' = w :=
  (in3_any n lo hi w).mono fun _ _ ⟨h1, h2⟩ => ⟨by rw [h1, h], h2.symm⟩
end Go.Proofs.YtokbhiokcoldbaaDoor

/- The contract of Ints: two lists held against each other. -/
namespace Go.Proofs.YtokbhiokcoldbaaDoor
open Go.RowKit

theorem ints_any (w : World) (v u : Value) (g k0 : Nat) (xs ys : List Int) (h : Sl w v g xs) (h' : Sl w u k0 ys) :
    Calls Tryd.prog 14 #[v, u] w (SameAs (decide (xs = ys)) w) := by
  obtain ⟨A, o, c, rfl, hm, hA, hc⟩ := h.form
  obtain ⟨A', o', c', rfl, hm', hA', hc'⟩ := h'.form
  clear h h'
  have HA := Lib.hid hA
  have HC := Lib.hid hc
  have HA' := Lib.hid hA'
  have HC' := Lib.hid hc'
  clear hA hc hA' hc'
  by_cases hl : xs.length = ys.length
  · have HL := Lib.hid hl
    have eL : ((xs.length : Int) != (ys.length : Int)) = false := by simp [hl]
    have hl1 : ys.length ≤ xs.length := by omega
    have hl2 : xs.length ≤ ys.length := by omega
    clear hl
    go_enter Tryd.func14, Tryd.ntmps14
    go_wp2
    go_loopw [5] (fun i wr => ∃ k : Nat, k ≤ xs.length ∧ i = .int .i64 k ∧ Dr w wr ∧ Hid (∀ j, j < k → nth xs j = nth ys j)) (fun i _ => xs.length - (intOf i).toNat)
    case atStart => exact ⟨0, Nat.zero_le _, rfl, Dr.refl _, fun j hj => absurd hj (Nat.not_lt_zero _)⟩
    case round =>
      obtain ⟨k, hk, rfl, ⟨n, rfl⟩, hno⟩ := hrel
      by_cases hlt : k < xs.length
      · obtain rfl := HA.out (by omega)
        obtain rfl := HA'.out (by omega)
        have hcell := HC.out k hlt
        have hcell' := HC'.out k (by omega)
        have hlt' : k < ys.length := by omega
        have i1 : (0 : Int) ≤ k := by omega
        have i2 : (k : Int) < xs.length := by omega
        have i3 : (k : Int) < ys.length := by omega
        by_cases he : nth xs k = nth ys k
        · have eB : (nth xs k != nth ys k) = false := by simpa using he
          have HE := Lib.hid he
          clear he
          go_wp2
          go_quiet (fail)
          go_wp2
          go_roundw
          case rel =>
            refine ⟨k + 1, by omega, by go_num, by first | exact Dr.two _ _ _ | exact Dr.one _ _, fun j hj => ?_⟩
            by_cases hjk : j = k
            · subst hjk; exact HE.out
            · exact hno.out j (by omega)
          case measure => simp [intOf]; omega
        · have eB : (nth xs k != nth ys k) = true := by simpa using he
          have HE := Lib.hid he
          clear he
          go_wp2
          go_quiet (fail)
          go_wp2
          go_ret
          exact ⟨ret_bool (by symm; apply decide_eq_false; rintro rfl; exact HE.out rfl), by first | exact Dr.two _ _ _ | exact Dr.one _ _⟩
      · go_wp2
        go_ret
        exact ⟨ret_bool (by symm; apply decide_eq_true; exact eq_of_getD HL.out (fun j hj => hno.out j (by omega))), Dr.one _ _⟩
  · have HL := Lib.hid hl
    have eL : ((xs.length : Int) != (ys.length : Int)) = true := by simp; omega
    clear hl
    go_enter Tryd.func14, Tryd.ntmps14
    go_wp2
    go_ret
    exact ⟨ret_bool (by symm; apply decide_eq_false; rintro rfl; exact HL.out rfl), Dr.refl _⟩

theorem ints_same (w : World) (v u : Value) (g k0 : Nat) (xs : List Int) (h : Sl w v g xs) (h' : Sl w u k0 xs) :
    Calls Tryd.prog 14 #[v, u] w (SameAs true w) :=
  (ints_any w v u g k0 xs xs h h').mono fun _ _ hh => by simpa [SameAs] using hh
end Go.Proofs.YtokbhiokcoldbaaDoor
