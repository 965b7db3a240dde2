/- A text's last byte; a text's beginning. -/

import Derived.Test.YtnglhfeialomgaaGreatDoorTz16
import Derived.Test.YtnglhfeialomgaaGreatDoorTz17
import Derived.Test.YtnglhfeialomgaaGreatDoorTz20
namespace Go.Proofs.YtnglhfeialomgaaGreatDoor
theorem last_byte {a : List UInt8} (ha : a ≠ []) : ∃ (n : Nat) (h : n < (Pa.mk a).size) (x : Int), ((Pa.mk a).size : Int) - 1 = n ∧ ((((Pa.mk a)[n]'h).toNat : Nat) : Int) = x ∧ (x = 47 ↔ a.getLast? = some 47) := by
  have hl : 0 < a.length := List.length_pos_iff.2 ha
  have hs := Pa.mk_size a
  have hn : a.length - 1 < (Pa.mk a).size := by omega
  have hn' : a.length - 1 < a.length := by omega
  refine ⟨a.length - 1, hn, _, by omega, rfl, ?_⟩
  have e : (Pa.mk a)[a.length - 1]'hn = a[a.length - 1]'hn' := by
    have : (Pa.mk a).data.toList[a.length - 1]? = a[a.length - 1]? := by rw [Pa.mk_list]
    have h1 : (Pa.mk a)[a.length - 1]'hn = (Pa.mk a).data.toList[a.length - 1]'(by rw [Pa.mk_list]; exact hn') := rfl
    rw [h1]
    apply Option.some.inj
    rw [← List.getElem?_eq_getElem, ← List.getElem?_eq_getElem]
    exact this
  rw [e, List.getLast?_eq_getElem?, List.getElem?_eq_getElem hn']
  constructor
  · intro h
    congr 1
    apply UInt8.toNat_inj.1
    show _ = 47
    omega
  · intro h
    rw [Option.some.inj h]; rfl
theorem mk_head (b : List UInt8) (n : Nat) : (Pa.mk b).extract 0 n = Pa.mk (b.take n) := by
  have := Lib.extract_eq (Pa.mk b) 0 n
  rw [Pa.mk_list, List.drop_zero, Nat.sub_zero] at this
  exact this
end Go.Proofs.YtnglhfeialomgaaGreatDoor
/- The document's begins, slashes. -/
namespace Go.Proofs.YtnglhfeialomgaaGreatDoor
open Go.RowKit

theorem beg_parts (s p : List UInt8) : Tr.beg s p = true ↔ p.length < s.length ∧ s.take p.length = p ∧ s[p.length]? = some 47 := by
  rw [Tr.beg_iff]
  constructor
  · rintro ⟨r, rfl⟩
    exact ⟨by simp, by simp, by simp⟩
  · rintro ⟨h1, h2, h3⟩
    refine ⟨s.drop (p.length + 1), ?_⟩
    rw [List.getElem?_eq_getElem h1] at h3
    have h3 := Option.some.inj h3
    rw [← h3, ← List.drop_eq_getElem_cons h1]
    conv => lhs; rw [← List.take_append_drop p.length s, h2]
theorem byte_is (a : List UInt8) (n : Nat) (hn : n < a.length) : ∃ (h : n < (Pa.mk a).size) (x : Int), ((((Pa.mk a)[n]'h).toNat : Nat) : Int) = x ∧ (x = 47 ↔ a[n]? = some 47) := by
  have hs := Pa.mk_size a
  have h : n < (Pa.mk a).size := by omega
  refine ⟨h, _, rfl, ?_⟩
  have e : (Pa.mk a)[n]'h = a[n]'hn := by
    have h1 : (Pa.mk a)[n]'h = (Pa.mk a).data.toList[n]'(by rw [Pa.mk_list]; exact hn) := rfl
    rw [h1]
    apply Option.some.inj
    rw [← List.getElem?_eq_getElem, ← List.getElem?_eq_getElem, Pa.mk_list]
  rw [e, List.getElem?_eq_getElem hn]
  constructor
  · intro h
    congr 1
    apply UInt8.toNat_inj.1
    show _ = 47
    omega
  · intro h
    rw [Option.some.inj h]; rfl
set_option maxRecDepth 100000 in
set_option maxHeartbeats 2000000 in
theorem m_begins (s p : List UInt8) (w : World) (hs : s.length ≤ 100000) (hp : p.length ≤ 100000) :
    Calls Tryz.prog 23 #[.string (Pa.mk s), .string (Pa.mk p)] w fun e w' => e = .returned (.bool (Tr.beg s p)) ∧ w' = w := by
  have zs := Pa.mk_size s
  have zp := Pa.mk_size p
  by_cases h1 : p.length < s.length
  · have i1 : ((Pa.mk p).size : Int) < (Pa.mk s).size := by omega
    have i2 : ((Pa.mk p).size : Int) ≤ (Pa.mk s).size := by omega
    have i0 : (0 : Int) ≤ (Pa.mk p).size := by omega
    have i3 : (Pa.mk p).size < (Pa.mk s).size := by omega
    by_cases h2 : s.take p.length = p
    · have hx2 : (Pa.mk s).extract 0 (Pa.mk p).size = Pa.mk p := by rw [mk_head, zp, h2]
      obtain ⟨hn, x, hx, hx47⟩ := byte_is s p.length h1
      have hx' : ((((Pa.mk s)[(Pa.mk p).size]'i3).toNat : Nat) : Int) = x := by rw [← hx]; congr 3
      have hb : Tr.beg s p = (x == 47) := by
        by_cases hq : x = 47
        · rw [(beg_parts s p).2 ⟨h1, h2, hx47.1 hq⟩, hq]; rfl
        · rw [beq_eq_false_iff_ne.2 hq, Bool.eq_false_iff]
          exact fun hb => hq (hx47.2 ((beg_parts s p).1 hb).2.2)
      rw [hb]
      clear hb hx hx47 h1 h2 zs zp hn
      generalize Pa.mk s = ms at *
      generalize Pa.mk p = mp at *
      go_enter Tryz.func23, Tryz.ntmps23
      go_wp2
      go_ret
      exact ⟨rfl, rfl⟩
    · have hb : Tr.beg s p = false := by rw [Bool.eq_false_iff]; exact fun hb => h2 ((beg_parts s p).1 hb).2.1
      have hne2 : ((Pa.mk s).extract 0 (Pa.mk p).size).toList ≠ (Pa.mk p).toList := fun e => by
        rw [mk_head, mk_toList, mk_toList, zp] at e
        exact h2 e
      have f3 : (((Pa.mk s).extract 0 (Pa.mk p).size).toList == (Pa.mk p).toList) = false := beq_eq_false_iff_ne.2 hne2
      rw [hb]
      clear hb hne2 h1 h2 zs zp
      generalize Pa.mk s = ms at *
      generalize Pa.mk p = mp at *
      go_enter Tryz.func23, Tryz.ntmps23
      go_wp2
      go_ret
      exact ⟨rfl, rfl⟩
  · have i1 : ¬ ((Pa.mk p).size : Int) < (Pa.mk s).size := by omega
    have hb : Tr.beg s p = false := by rw [Bool.eq_false_iff]; exact fun hb => h1 ((beg_parts s p).1 hb).1
    rw [hb]
    clear hb h1 zs zp
    generalize Pa.mk s = ms at *
    generalize Pa.mk p = mp at *
    go_enter Tryz.func23, Tryz.ntmps23
    go_wp2
    go_ret
    exact ⟨rfl, rfl⟩
theorem slN_succ {s : List UInt8} {k : Nat} (h : k < s.length) : Tr.slN (s.take (k + 1)) = Tr.slN (s.take k) + (if s[k]? = some 47 then 1 else 0) := by
  unfold Tr.slN
  rw [List.take_succ_eq_append_getElem h, List.count_append, List.getElem?_eq_getElem h]
  congr 1
  by_cases e : s[k] = 47
  · rw [e]; rfl
  · rw [if_neg (fun h => e (Option.some.inj h)), List.count_eq_zero]
    simpa using Ne.symm e
set_option maxRecDepth 100000 in
set_option maxHeartbeats 2000000 in
theorem m_slashes (s : List UInt8) (w : World) (hs : s.length ≤ 100000) :
    Calls Tryz.prog 25 #[.string (Pa.mk s)] w fun e w' => e = .returned (.int .i64 (Tr.slN s : Int)) ∧ w' = w := by
  have zs := Pa.mk_size s
  go_enter Tryz.func25, Tryz.ntmps25
  go_wp2_with fail
  go_loop [3, 4] (fun nv i => ∃ k q : Nat, k ≤ s.length ∧ i = .int .i64 k ∧ nv = .int .i64 q ∧ q ≤ k ∧ Hid (q = Tr.slN (s.take k))) (fun _ i => s.length - (intOf i).toNat)
  case atStart => exact ⟨0, 0, Nat.zero_le _, rfl, rfl, Nat.le_refl _, rfl⟩
  case round =>
    obtain ⟨k, q, hk, rfl, rfl, hqk, hQ⟩ := hrel
    have k0 : (0 : Int) ≤ k := by omega
    have qw : IntKind.i64.wrap ((q : Int) + 1) = (q : Int) + 1 := by rw [IntKind.wrap_i64]; omega
    have kw : IntKind.i64.wrap ((k : Int) + 1) = (k : Int) + 1 := by rw [IntKind.wrap_i64]; omega
    by_cases hlt : k < s.length
    · have i1 : (k : Int) < (Pa.mk s).size := by omega
      obtain ⟨hn, x, hx, hx47⟩ := byte_is s k hlt
      have HS := Lib.hid (slN_succ hlt)
      by_cases hq : x = 47
      · have hq1 : (x == 47) = true := by simpa using hq
        have HN : Hid (q + 1 = Tr.slN (s.take (k + 1))) := by show _ = _; rw [HS.out, if_pos (hx47.1 hq), ← hQ.out]
        clear hx47 hq
        generalize Pa.mk s = ms at *
        go_wp2
        go_round
        case rel => exact ⟨k + 1, q + 1, by omega, by go_num, by go_num, by omega, HN⟩
        case measure => (simp [intOf]; try omega)
      · have hq1 : (x == 47) = false := by simpa using hq
        have HN : Hid (q = Tr.slN (s.take (k + 1))) := by show _ = _; rw [HS.out, if_neg (fun h => hq (hx47.2 h)), ← hQ.out]; rfl
        clear hx47 hq
        generalize Pa.mk s = ms at *
        go_wp2
        go_round
        case rel => exact ⟨k + 1, q, by omega, by go_num, rfl, by omega, HN⟩
        case measure => (simp [intOf]; try omega)
    · have i1 : ¬ (k : Int) < (Pa.mk s).size := by omega
      obtain rfl : k = s.length := by omega
      have hQ2 := hQ.out
      rw [List.take_length] at hQ2
      have HQ2 := Lib.hid hQ2
      clear hQ2
      generalize Pa.mk s = ms at *
      go_wp2
      go_ret
      exact ⟨by rw [HQ2.out]; rfl, rfl⟩
end Go.Proofs.YtnglhfeialomgaaGreatDoor

/- The document's Drop. -/
namespace Go.Proofs.YtnglhfeialomgaaGreatDoor
open Go.RowKit

theorem cell_blk {w : World} {g p : Nat} {v : Value} (h : w.cell? ⟨g, p, none⟩ = some v) : ∃ cur t fr, w.heap[g]? = some (.cells cur t fr) ∧ cur[p]? = some v := by
  unfold World.cell? at h
  cases hg : w.heap[g]? with
  | none => simp [hg] at h
  | some o =>
    cases o with
    | cells cur t fr => exact ⟨cur, t, fr, rfl, by simpa [hg] using h⟩
    | _ => simp [hg] at h
theorem nm_row {w : World} {g p : Nat} {a b : Value} (h0 : w.cell? ⟨g, p, none⟩ = some a) (h1 : w.cell? ⟨g, p + 1, none⟩ = some b) :
    ∃ cur t fr, w.heap[g]? = some (.cells cur t fr) ∧ p + 2 ≤ cur.size ∧ ((cur.toList.drop p).take 2).toArray = #[a, b] := by
  obtain ⟨cur, t, fr, hg, q0⟩ := cell_blk h0
  obtain ⟨c1, t1, f1, g1, q1⟩ := cell_blk h1
  rw [hg] at g1
  injection g1 with g1
  injection g1 with e1
  subst e1
  obtain ⟨hs, hq1⟩ := Array.getElem?_eq_some_iff.1 q1
  obtain ⟨hs0, hq0⟩ := Array.getElem?_eq_some_iff.1 q0
  refine ⟨cur, t, fr, hg, by omega, ?_⟩
  have hl : p < cur.toList.length := by simpa using hs0
  have hl1 : p + 1 < cur.toList.length := by simpa using hs
  rw [List.drop_eq_getElem_cons hl, List.drop_eq_getElem_cons hl1]
  simp only [List.take_succ_cons, List.take_zero, Array.getElem_toList, hq0, hq1]
/-- The document's tree behind Drop. -/
noncomputable def dropT (g : Tr.G) (T : Tr.RT) (s : List UInt8) : Tr.RT := if Tr.dropErr g s = 0 then ⟨T.nm.filter (fun e => !(e.1 == Pa.shown (Pa.parts s).1)), T.dirs⟩ else T
def keepN (nm : Tr.Nr) (p : List UInt8) : Tr.Nr := nm.filter (fun e => !(e.1 == p))
theorem keepN_succ {nm : Tr.Nr} {k : Nat} (h : k < nm.length) (p : List UInt8) : keepN (nm.take (k + 1)) p = keepN (nm.take k) p ++ (if nm[k].1 = p then [] else [nm[k]]) := by
  unfold keepN
  rw [List.take_succ_eq_append_getElem h, List.filter_append]
  congr 1
  by_cases e : nm[k].1 = p
  · rw [if_pos e, List.filter_cons, if_neg (by simpa using e)]; rfl
  · rw [if_neg e, List.filter_cons, if_pos (by simpa using e)]; rfl
theorem keepN_len (nm : Tr.Nr) (p : List UInt8) : (keepN nm p).length ≤ nm.length := List.length_filter_le _ _
theorem dropErr_err {g : Tr.G} {s : List UInt8} {e : Int} (h : Tr.spot g s = .err e) : Tr.dropErr g s = e := by unfold Tr.dropErr; rw [h]
section
variable (w : World) (v0 v1 : Value) (g0 g1 : Nat) (T : Tr.RT) (hV : TpV w v0 v1 g0 g1 T) {g : Tr.G} {dom : Nat → Prop} {ns : Tr.Nl} {ths : List Nat} (hR : Tr.Rf g dom ns ths T) (hO : Tr.OK g)
include hV hR hO
set_option maxRecDepth 100000 in
set_option maxHeartbeats 8000000 in
theorem m_Drop (s : ByteArray) (hl : T.nm.length ≤ 24) (hbn : ∀ e ∈ T.nm, e.1.length ≤ 1000) :
    Calls Tryz.prog 7 #[.agg #[v0, v1], .string s] w (TpA g0 g1 (dropT g T s.data.toList) (Tr.dropErr g s.data.toList) w) := by
  obtain ⟨A0, o0, c0, rfl, hm0, -⟩ := nm_cells hV.nm
  obtain ⟨A1, o1, c1, rfl, hm1, -⟩ := bo_cells hV.dirs
  obtain ⟨ga, gb, hU⟩ := TpW.start hV
  have HSP := Lib.hid (fun W (hW : TpV W (.slice A0 T.nm.length c0) (.slice A1 T.dirs.length c1) ga gb T) => m_Spot W _ _ ga gb T hW hR hO s)
  have HFI : Hid (∀ W p, TpV W (.slice A0 T.nm.length c0) (.slice A1 T.dirs.length c1) ga gb T → Tr.Nms p → Calls Tryz.prog 22 #[.agg #[.slice A0 T.nm.length c0, .slice A1 T.dirs.length c1], .string (Pa.mk (Pa.shown p))] W fun e w' => e = .returned (.int .i64 (idxR ths (Tr.fnd g g.root p))) ∧ Fr [] W w') := fun W p hW hp =>
    (m_find W _ _ ga _ _ hW.nm).mono fun e w' h => ⟨by rw [h.1, hR.find hO hp]; cases Tr.fnd g g.root p <;> rfl, h.2⟩
  have HRF := Lib.hid hR
  have HOK := Lib.hid hO
  have HBN := Lib.hid hbn
  obtain ⟨st, hst⟩ : ∃ x, s.data.toList = x := ⟨_, rfl⟩
  rw [hst] at HSP ⊢
  clear hst hV hR hO hbn
  go_enter Tryz.func7, Tryz.ntmps7
  go_upto_region 1 with (fail)
  generalize (w.alloc (.cells #[.slice A0 T.nm.length c0, .slice A1 T.dirs.length c1] 28)).alloc (.cells #[.slice none 0 0, .slice none 0 0] 28) = W0 at *
  obtain ⟨X, hX⟩ : ∃ X, X = w.heap.size := ⟨_, rfl⟩
  rw [← hX] at hU ⊢
  have HU0 := Lib.hid hU
  clear hX hU
  obtain ⟨b0, b1, z0, z1⟩ := HU0.out.cells
  obtain ⟨p0, p1, q0, q1⟩ := HU0.out.outs
  cases hsp : Tr.spot g st with
  | err ce =>
    have hne := spot_err_ne hsp
    have hae := dropErr_err hsp
    have HT : Hid (dropT g T st = T) := by show _ = _; unfold dropT; rw [hae, if_neg hne]
    have hsv : spV g st = .tuple #[.string ⟨#[]⟩, .int .i64 ce] := by unfold spV; rw [hsp]
    rw [hsv] at HSP
    have HAE := Lib.hid hae
    have f1 : (ce == 0) = false := by simpa using hne
    have f2 : (ce != 0) = true := by simpa using hne
    clear hsp hne hae hsv
    go_wp2_with (go_at_call 21; (with_reducible refine useC (HSP.out W0 HU0.out.v) ?_); rintro e w2 ⟨rfl, hf⟩; have HU1 := Lib.hid (HU0.out.step hf); obtain ⟨b0, b1, z0, z1⟩ := HU1.out.cells; obtain ⟨p0, p1, q0, q1⟩ := HU1.out.outs; clear hf)
    exact bodyPost_ret (v := .tuple #[.agg #[.slice A0 T.nm.length c0, .slice A1 T.dirs.length c1], .int .i64 ce]) (tp_results Tryz.results7 rfl rfl (TpW.fin HU1.out).1) rfl (by rw [HT.out, HAE.out]; exact (TpW.fin HU1.out).2 _)
  | at_ d x =>
    obtain ⟨P, hpt, hf, hds⟩ := Tr.spot_at hsp
    have hP : Tr.Nms (P ++ [x]) := by have := nms_parts (s := st) (by rw [hpt]); rwa [hpt] at this
    have HDE := Lib.hid (Tr.dropErr_at hsp)
    have hsv : spV g st = .tuple #[.string (Pa.mk (Pa.shown (P ++ [x]))), .int .i64 0] := by unfold spV; rw [hsp, hpt]
    have hfk := fnd_kid (x := x) hf hds
    have HPT : Hid (Pa.shown (Pa.parts st).1 = Pa.shown (P ++ [x])) := by show _ = _; rw [hpt]
    rw [hsv] at HSP
    have HF := Lib.hid (fun W hW => HFI.out W (P ++ [x]) hW hP)
    have hpl : (Pa.shown (P ++ [x])).length ≤ 1000 := by have := Tr.shown_len hP.1 hP.2; omega
    clear hsp hpt hf hds hsv HFI
    cases hk : Tr.kid g d x with
    | none =>
      rw [hk] at hfk
      have hfk5 : Tr.fnd g g.root (P ++ [x]) = .err 5 := hfk
      rw [hfk5] at HF
      have hae : Tr.dropErr g st = 5 := HDE.out.1 hk
      have HAE := Lib.hid hae
      have HT : Hid (dropT g T st = T) := by show _ = _; unfold dropT; rw [hae, if_neg (by decide)]
      have HF2 : Hid (∀ W, TpV W (.slice A0 T.nm.length c0) (.slice A1 T.dirs.length c1) ga gb T → Calls Tryz.prog 22 #[.agg #[.slice A0 T.nm.length c0, .slice A1 T.dirs.length c1], .string (Pa.mk (Pa.shown (P ++ [x])))] W fun e w' => e = .returned (.int .i64 (-1)) ∧ Fr [] W w') := fun W hW => (HF.out W hW).mono fun _ _ h => h
      clear hk hfk hfk5 hae HF
      generalize Pa.mk (Pa.shown (P ++ [x])) = mp at *
      go_wp2_with (first
        | (go_at_call 21; (with_reducible refine useC (HSP.out W0 HU0.out.v) ?_); rintro e w2 ⟨rfl, hf⟩; have HU1 := Lib.hid (HU0.out.step hf); obtain ⟨b0, b1, z0, z1⟩ := HU1.out.cells; clear hf)
        | (go_at_call 22; (with_reducible refine useC (HF2.out w2 HU1.out.v) ?_); rintro e w3 ⟨rfl, hf⟩; have HU2 := Lib.hid (HU1.out.step hf); obtain ⟨b0, b1, z0, z1⟩ := HU2.out.cells; obtain ⟨p0, p1, q0, q1⟩ := HU2.out.outs; clear hf))
      exact bodyPost_ret (v := .tuple #[.agg #[.slice A0 T.nm.length c0, .slice A1 T.dirs.length c1], .int .i64 5]) (tp_results Tryz.results7 rfl rfl (TpW.fin HU2.out).1) rfl (by rw [HT.out, HAE.out]; exact (TpW.fin HU2.out).2 _)
    | some c =>
      rw [hk] at hfk
      have hfkc : Tr.fnd g g.root (P ++ [x]) = .ok c := hfk
      have HLF := Lib.hid (HRF.out.leaf HOK.out (p := P ++ [x]) (by simp) hfkc)
      have HD2 := Lib.hid (HDE.out.2 c hk)
      rw [hfkc] at HF
      obtain ⟨t, ht⟩ : ∃ t, ths.idxOf c = t := ⟨_, rfl⟩
      have HF2 : Hid (∀ W, TpV W (.slice A0 T.nm.length c0) (.slice A1 T.dirs.length c1) ga gb T → Calls Tryz.prog 22 #[.agg #[.slice A0 T.nm.length c0, .slice A1 T.dirs.length c1], .string (Pa.mk (Pa.shown (P ++ [x])))] W fun e w' => e = .returned (.int .i64 (t : Int)) ∧ Fr [] W w') := fun W hW => (HF.out W hW).mono fun _ _ h => ⟨by rw [h.1, ← ht]; rfl, h.2⟩
      have t0 : (0 : Int) ≤ t := by omega
      have t1 : ¬ (t : Int) < 0 := by omega
      clear hk hfk hfkc ht HF
      obtain ⟨p, hp⟩ : ∃ p, Pa.shown (P ++ [x]) = p := ⟨_, rfl⟩
      rw [hp] at HPT HSP HLF HF2 hpl
      clear hp
      go_upto_region 6 with (first
        | (go_at_call 21; (with_reducible refine useC (HSP.out W0 HU0.out.v) ?_); rintro e w2 ⟨rfl, hf⟩; have HU1 := Lib.hid (HU0.out.step hf); obtain ⟨b0, b1, z0, z1⟩ := HU1.out.cells; clear hf)
        | (go_at_call 22; (with_reducible refine useC (HF2.out w2 HU1.out.v) ?_); rintro e w3 ⟨rfl, hf⟩; have HU2 := Lib.hid (HU1.out.step hf); obtain ⟨b0, b1, z0, z1⟩ := HU2.out.cells; clear hf))
      have HRW := Lib.hid (nm_cells HU2.out.v.nm)
      have HO0 : Hid (OwnR nmE w3 w3.heap.size 63 (.slice none 0 0) []) := OwnR.nil
      clear b0 b1 z0 z1 p0 p1 q0 q1
      go_wp2_with fail
      go_loopw [8, 9] (fun ov kv wr => ∃ k n : Nat, k ≤ T.nm.length ∧ kv = .int .i64 k ∧ (∃ Ao co, ov = .slice Ao n co) ∧ Hid ((keepN (T.nm.take k) p).length = n) ∧ Hid (OwnR nmE wr w3.heap.size 63 ov (keepN (T.nm.take k) p)) ∧ Hid (Fr [] w3 wr) ∧ Hid (∀ j (hj : j < T.nm.length), j < k → Tr.beg T.nm[j].1 p = false)) (fun _ kv _ => T.nm.length - (intOf kv).toNat)
      case atStart => exact ⟨0, 0, Nat.zero_le _, rfl, ⟨_, _, rfl⟩, rfl, HO0, Lib.hid (Fr.refl [] w3), fun j _ hj => absurd hj (by omega)⟩
      case round =>
        clear HO0
        obtain ⟨k, n, hk, rfl, ⟨Ao, co, rfl⟩, hLn, hOw, hF, hNB⟩ := hrel
        have k0 : (0 : Int) ≤ k := by omega
        have kw : IntKind.i64.wrap ((k : Int) + 1) = (k : Int) + 1 := by rw [IntKind.wrap_i64]; omega
        have HU3 := Lib.hid (HU2.out.step hF.out)
        obtain ⟨b0, b1, z0, z1⟩ := HU3.out.cells
        obtain ⟨p0, p1, q0, q1⟩ := HU3.out.outs
        by_cases hlt : k < T.nm.length
        · have i1 : (k : Int) < T.nm.length := by omega
          obtain ⟨A9, o9, c9, e9, -, hA9, hC9⟩ := HRW.out
          injection e9 with e9 _ e9c
          subst e9 e9c
          obtain rfl := hA9 (by omega)
          obtain ⟨ca, cb⟩ := hC9 k hlt
          have ca := hF.out.cell ca (by simp)
          have cb := hF.out.cell cb (by simp)
          obtain ⟨cur, tt, ff, hgd, hsz, hvs⟩ := nm_row ca cb
          have HGD := Lib.hid hgd
          have HSZ := Lib.hid hsz
          have HVS := Lib.hid hvs
          have hb2 := HBN.out _ (List.getElem_mem hlt)
          have HS := Lib.hid (keepN_succ hlt p)
          have HBG := Lib.hid (fun W => m_begins T.nm[k].1 p W (by omega) (by omega))
          have HNX : Hid (Tr.beg T.nm[k].1 p = false → ∀ j (hj : j < T.nm.length), j < k + 1 → Tr.beg T.nm[j].1 p = false) := fun h j hj hj2 => by
            rcases Nat.lt_or_ge j k with h1 | h1
            · exact hNB.out j hj h1
            · obtain rfl : j = k := by omega
              exact h
          have hmem := List.getElem_mem hlt
          have HLB : Hid (Tr.beg T.nm[k].1 p = true → ¬ Tr.Leaf g c) := fun h hl => by
            have h2 := HLF.out.1 hl _ hmem
            rw [h] at h2
            cases h2
          clear hA9 hC9 hgd hsz hvs hmem
          generalize T.nm[k] = y at *
          cases hbg : Tr.beg y.1 p with
          | true =>
            rw [hbg] at HBG
            have HAE : Hid (Tr.dropErr g st = 7) := HD2.out.2 (HLB.out hbg)
            have HT : Hid (dropT g T st = T) := by show _ = _; unfold dropT; rw [HAE.out, if_neg (by decide)]
            clear hbg cb hb2
            generalize Pa.mk y.1 = my at *
            generalize Pa.mk p = mp at *
            go_wp2_with (go_at_call 23; (with_reducible refine useC (HBG.out _) ?_); rintro e w5 ⟨rfl, rfl⟩)
            exact bodyPost_ret (v := .tuple #[.agg #[.slice (some ⟨ga, o9, none⟩) T.nm.length c0, .slice A1 T.dirs.length c1], .int .i64 7]) (tp_results Tryz.results7 rfl rfl (TpW.fin HU3.out).1) rfl (by rw [HT.out, HAE.out]; exact (TpW.fin HU3.out).2 _)
          | false =>
            rw [hbg] at HBG
            have HNB2 := Lib.hid (HNX.out hbg)
            obtain ⟨L, hL⟩ : ∃ L, keepN (T.nm.take k) p = L := ⟨_, rfl⟩
            have hnk : L.length ≤ 24 := by
              rw [← hL]
              exact Nat.le_trans (keepN_len _ _) (by rw [List.length_take]; omega)
            rw [hL] at HS hOw hLn
            clear hL hbg hb2
            by_cases he : y.1 = p
            · have HN : Hid (keepN (T.nm.take (k + 1)) p = L) := by show _ = _; rw [HS.out, if_pos he, List.append_nil]
              have hcm : ((Pa.mk y.1).toList == (Pa.mk p).toList) = true := by rw [he]; simp
              clear he cb
              generalize Pa.mk y.1 = my at *
              generalize Pa.mk p = mp at *
              go_wp2_with (go_at_call 23; (with_reducible refine useC (HBG.out _) ?_); rintro e w5 ⟨rfl, rfl⟩)
              go_roundw
              case rel => exact ⟨k + 1, n, by omega, by go_num, ⟨Ao, co, rfl⟩, by rw [HN.out]; exact hLn, by rw [HN.out]; exact hOw, hF, HNB2⟩
              case measure => (simp [intOf]; try omega)
            · have HN : Hid (keepN (T.nm.take (k + 1)) p = L ++ [y]) := by show _ = _; rw [HS.out, if_neg he]
              have hcm : ((Pa.mk y.1).toList == (Pa.mk p).toList) = false := by rw [mk_toList, mk_toList]; exact beq_eq_false_iff_ne.2 he
              clear he cb
              go_wp2_with (first
                | (go_at_call 23; (with_reducible refine useC (HBG.out _) ?_); rintro e w5 ⟨rfl, rfl⟩)
                | (refine wpList_load_part rfl 63 _ rfl ga (o9 + k * 2) 2 rfl tt cur ff _ HGD.out Tryz.underlying63 rfl (by kernel_rfl) HSZ.out _ HVS.out ?_)
                | (at_builtin; have hO8 := hOw.out; refine wpList_push_enc (E := nmE) (wr := w5) (y := y) u_nm info_nm rfl (by decide) rfl _ _ rfl w3.heap.size (.slice Ao n co) L rfl rfl hO8 rfl (by omega) hF.out.size ?_; intro v9 w9 h1 h2 h3; obtain ⟨A9, c9, hv9⟩ := h1.form0; subst hv9; have HO9 := Lib.hid h1; have HF9 := Lib.hid (hF.out.below_step h3 (Nat.le_refl _)); clear h1 h2 h3 hO8))
              go_roundw
              case rel => exact ⟨k + 1, n + 1, by omega, by go_num, ⟨A9, c9, by simp [hLn.out]⟩, by show _ = _; rw [HN.out, List.length_append, hLn.out]; rfl, by rw [HN.out]; simpa using HO9, HF9, HNB2⟩
              case measure => (simp [intOf]; try omega)
        · have i1 : ¬ (k : Int) < T.nm.length := by omega
          obtain rfl : k = T.nm.length := by omega
          have hall : T.nm.take T.nm.length = T.nm := List.take_length
          have hleaf : Tr.Leaf g c := HLF.out.2 (fun e he => by
            obtain ⟨j, hj, rfl⟩ := List.getElem_of_mem he
            exact hNB.out j hj hj)
          have HAE : Hid (Tr.dropErr g st = 0) := HD2.out.1 hleaf
          have HT : Hid (dropT g T st = ⟨keepN T.nm p, T.dirs⟩) := by
            show _ = _
            unfold dropT keepN
            rw [HAE.out, if_pos rfl, HPT.out]
          obtain ⟨g8, hg8, hs8⟩ := hOw.out.sl
          rw [hall] at hs8 hg8
          obtain ⟨g9, hUA⟩ := HU3.out.set0 hs8 (hg8.imp (fun h => Nat.le_trans HU2.out.lt h) id)
          have HUA := Lib.hid hUA
          clear hall hleaf hg8 hs8 hUA
          go_upto_region 15 with (fail)
          generalize wr.setCell ⟨X, 0, none⟩ (.slice Ao n co) = wA at *
          obtain ⟨b0, b1, z0, z1⟩ := HUA.out.cells
          obtain ⟨p0, p1, q0, q1⟩ := HUA.out.outs
          go_wp2
          exact bodyPost_ret (v := .tuple #[.agg #[.slice Ao n co, .slice A1 T.dirs.length c1], .int .i64 0]) (tp_results Tryz.results7 rfl rfl (TpW.fin HUA.out).1) rfl (by rw [HT.out, HAE.out]; exact (TpW.fin HUA.out).2 _)
end
end Go.Proofs.YtnglhfeialomgaaGreatDoor

/- The document's Move beside the graph's; in plain Lean. -/
namespace Go.Proofs.YtnglhfeialomgaaGreatDoor
namespace Tr
section
variable {g : G} {dom : Nat → Prop} {ns : Nl} {ths : List Nat} {T : RT}
/-- Into itself: the new path begins with the old one. -/
theorem move_into (hO : OK g) {P P' : List Nme} {d d' n : Nat} {x x' : Nme} (hf : fnd g g.root P = .ok d) (hk : kid g d x = some n) (hf' : fnd g g.root P' = .ok d') (hd' : (g.ent d').isSome = true) (hP : Nms (P ++ [x])) (hP' : Nms (P' ++ [x'])) :
    ((g.ent n).isSome = true ∧ (d' = n ∨ Und g n d')) ↔ beg (Pa.shown (P' ++ [x'])) (Pa.shown (P ++ [x])) = true := by
  have hat : fnd g g.root (P ++ [x]) = .ok n := by rw [fnd_app_ok hf, fnd_step hk]; rfl
  rw [beg_way hP.1 hP'.1 (by simp)]
  constructor
  · rintro ⟨hn, rfl | ⟨y, r, hr⟩⟩
    · have := hO.one _ _ d' hf' hat hd'
      exact ⟨x', [], by rw [this]⟩
    · have h1 : fnd g g.root ((P ++ [x]) ++ y :: r) = .ok d' := by rw [fnd_app_ok hat]; exact hr
      have := hO.one _ _ d' hf' h1 hd'
      exact ⟨y, r ++ [x'], by rw [this]; simp⟩
  · rintro ⟨y, r, e⟩
    obtain ⟨r', z, hr⟩ : ∃ r' z, y :: r = r' ++ [z] := ⟨(y :: r).dropLast, (y :: r).getLast (by simp), (List.dropLast_concat_getLast (by simp)).symm⟩
    rw [hr, ← List.append_assoc] at e
    have e1 := List.append_inj_left' e rfl
    have h1 : fnd g n r' = .ok d' := by
      rw [e1, fnd_app_ok hat] at hf'
      exact hf'
    cases r' with
    | nil =>
      injection h1 with h1
      exact ⟨by rw [h1]; exact hd', .inl h1.symm⟩
    | cons z2 r2 =>
      refine ⟨?_, .inr ⟨z2, r2, h1⟩⟩
      obtain ⟨a, m, e2, q1, q2, q3, q4⟩ := fnd_front (p := []) h1
      injection q1 with q1
      subst q1
      rw [q2]; rfl
/-- Is a name's new path too long? -/
def longT (a b : List UInt8) (e : List UInt8 × Nat) : Prop := beg e.1 a = true ∧ 8 < slN (b ++ e.1.drop a.length)
theorem slN_app (p : List Nme) (r : List Nme) (hp : ∀ x ∈ p, Pa.IsName x) (hr : ∀ x ∈ r, Pa.IsName x) (hn : p ≠ []) : slN (Pa.shown p ++ r.flatMap (fun p => (47 : UInt8) :: p)) = p.length + r.length := by
  unfold slN
  rw [List.count_append]
  have h1 := slN_shown hp hn
  have h2 := slN_flat hr
  unfold slN at h1 h2
  rw [h1, h2]
theorem drop_shown {a r : List Nme} (ha : a ≠ []) : (Pa.shown (a ++ r)).drop (Pa.shown a).length = r.flatMap (fun p => (47 : UInt8) :: p) := by
  rw [shown_cons ha, shown_cons (p := a ++ r) (by simp [ha]), List.flatMap_append, List.drop_left]
/-- Too deep: some name's new path is too long. -/
theorem Rf.deep (h : Rf g dom ns ths T) (hO : OK g) {P : List Nme} {d n : Nat} {x : Nme} {q : List Nme} (hf : fnd g g.root P = .ok d) (hk : kid g d x = some n) (hP : Nms (P ++ [x])) (hq : Nms q) (hqn : q ≠ []) :
    (∃ r c, fnd g n r = .ok c ∧ 8 < r.length + q.length) ↔ ∃ e ∈ T.nm, longT (Pa.shown (P ++ [x])) (Pa.shown q) e := by
  have hat : fnd g g.root (P ++ [x]) = .ok n := by rw [fnd_app_ok hf, fnd_step hk]; rfl
  constructor
  · rintro ⟨r, c, hr, hl⟩
    cases r with
    | nil => have := hq.2; simp at hl; omega
    | cons y r =>
      have hfe : fnd g g.root ((P ++ [x]) ++ y :: r) = .ok c := by rw [fnd_app_ok hat]; exact hr
      have hm : ((P ++ [x]) ++ y :: r, c) ∈ ns := (h.nk.mem _ c).2 ⟨by simp, hfe⟩
      have hw := (h.way hO hm).1
      refine ⟨tx ths ((P ++ [x]) ++ y :: r, c), by rw [h.nm]; exact List.mem_map_of_mem hm, (beg_way hP.1 hw.1 (by simp)).2 ⟨y, r, rfl⟩, ?_⟩
      show 8 < slN (Pa.shown q ++ (Pa.shown ((P ++ [x]) ++ y :: r)).drop (Pa.shown (P ++ [x])).length)
      rw [drop_shown (by simp), slN_app q (y :: r) hq.1 (fun z hz => hw.1 z (List.mem_append_right _ hz)) hqn]
      omega
  · rintro ⟨e, he, hb, hl⟩
    rw [h.nm] at he
    obtain ⟨⟨Q, c⟩, hm, rfl⟩ := List.mem_map.1 he
    obtain ⟨hw, -, hfq⟩ := h.way hO hm
    obtain ⟨y, r, rfl⟩ := (beg_way hP.1 hw.1 (by simp)).1 hb
    rw [fnd_app_ok hat] at hfq
    refine ⟨y :: r, c, hfq, ?_⟩
    have hl : 8 < slN (Pa.shown q ++ (Pa.shown ((P ++ [x]) ++ y :: r)).drop (Pa.shown (P ++ [x])).length) := hl
    rw [drop_shown (by simp), slN_app q (y :: r) hq.1 (fun z hz => hw.1 z (List.mem_append_right _ hz)) hqn] at hl
    omega
end
end Tr
/-- The document's tree behind Move. -/
noncomputable def moveT (g : Tr.G) (T : Tr.RT) (old tu : List UInt8) : Tr.RT := if Tr.moveErr g old tu = 0 then ⟨T.nm.map (fun e => (Tr.mvT (Pa.shown (Pa.parts old).1) (Pa.shown (Pa.parts tu).1) e.1, e.2)), T.dirs⟩ else T
end Go.Proofs.YtnglhfeialomgaaGreatDoor
