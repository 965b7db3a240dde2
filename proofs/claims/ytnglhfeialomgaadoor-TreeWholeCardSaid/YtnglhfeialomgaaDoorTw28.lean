/- Trees of directories: List. -/
import Derived.Shelf.SlIter.Nil
import Derived.Shelf.SortM.Plain
import Derived.Shelf.SortM.SortNone
import Derived.Ground.GgzProg
import Derived.Ground.SlgmProg
import Derived.Test.YtnglhfeialomgaaDoorTw24
import Derived.Test.YtnglhfeialomgaaDoorTw25
namespace Go.Proofs
open Go.RowKit Go.Maps Go.Sort Go.Shelf

shelf_lay_g SlLaysZ.n7 Ggz 7 at Tryd 39 as Tryd.keysL
shelf_lay_g SlLaysZ.n6 Ggz 6 at Tryd 38 as Tryd.sortedL
shelf_lay_g SlLaysM.n6 Slgm 6 at Tryd 51 as Tryd.sortL
namespace YtnglhfeialomgaaDoor
theorem sortsL (m : Nat) : AnyZ.SortsIn Tryd.prog Tryd.sortedL_ren Fence.wide m :=
  ⟨fun blk off cap ss W hH hblk hsz => callsIn_wide.2 (AnyM.slices_Sort_string Tryd.sortL blk off cap ss W hH hblk hsz),
   fun p cap W => callsIn_wide.2 (AnyM.slices_Sort_string_none Tryd.sortL p cap W)⟩
theorem keys_in (mb : Option Nat) (W : World) : CallsIn Fence.wide 5 Tryd.prog 39 #[.map mb] W fun e w' => e = .returned (.func (.func 52) #[] #[.pointer (some ⟨W.heap.size, 0, none⟩)]) ∧ w' = W.alloc (.cells #[.map mb] 49) :=
  AnyZ.keys_in Tryd.keysL Fence.wide 5 trivial rfl mb W
set_option maxHeartbeats 1000000 in
theorem sorted_in (b nn : Nat) (D0 : DataW Unit) (w : World) (hown : w.ownsMap Tryd.prog 9 ptrR b nn D0) (hmax : Maps.size D0 ≤ maxLen) (hbytes : Maps.size D0 * 16 ≤ 140737488355328) :
    CallsIn Fence.wide 5 Tryd.prog 38 #[.func (.func 52) #[] #[.pointer (some ⟨w.heap.size, 0, none⟩)]] (w.alloc (.cells #[.map (some b)] 49)) fun e w' => ∃ (v : Value) (ss : List (List UInt8)), e = .returned v ∧ ss.Perm (strKeys D0) ∧
      w'.ownsRow (w.alloc (.cells #[.map (some b)] 49)).heap.size 9 1 v ss.length ((ss.mergeSort (fun x y => decide (x ≤ y))).map encStr) ∧ (v = .slice none 0 0 ↔ ss = []) ∧ Below (w.alloc (.cells #[.map (some b)] 49)).heap.size (w.alloc (.cells #[.map (some b)] 49)) w' := by
  have hbl := hown.lt
  have hseq : SeqGives Fence.wide 2 Tryd.prog 52 #[.pointer (some ⟨w.heap.size, 0, none⟩)] encStr (fun ss => ss.Perm (strKeys D0)) (Maps.size D0) (w.alloc (.cells #[.map (some b)] 49)) :=
    AnyZ.keys_gives (ρ := Tryd.keysL_ren) { Tryd.keysL with } Fence.wide _ trivial rfl (by omega) w.heap.size b nn D0 _ (by simp) (by simp) (by
      obtain ⟨es, clock, hb, Ft, hs, hD⟩ := hown
      exact ⟨es, clock, (Below.heap_alloc _ _ b hbl).trans hb, Ft, hs, hD⟩)
  exact AnyZ.sorted_in Tryd.sortedL Fence.wide 5 trivial trivial trivial trivial rfl (by omega) (sortsL _) (enters_of Tryd.func51 (by kernel_rfl) rfl) 52 #[.pointer (some ⟨w.heap.size, 0, none⟩)] trivial (enters_of Tryd.func52 (by kernel_rfl) rfl) _ _ hmax hbytes _ hseq
/-- A map's keys. -/
theorem smap_keys {P : Program} {k : TypeId} {w : World} {b n : Nat} {m : Nm → Option Nat} {D : DataW Unit} (h : w.ownsMap P k ptrR b n D) (hm : SMapIs D m) (hk : P.underlying k = some .string) : (strKeys D).Nodup ∧ ∀ x, x ∈ strKeys D ↔ (m x).isSome = true := by
  obtain ⟨es, e1, hp⟩ := World.ownsMap.tidy h (string_keyed hk)
  subst e1
  have hkey : ∀ p ∈ es, ∃ x, p.1 = .string x := fun p hpm => by
    obtain ⟨es', clock, hb, F, hs, he⟩ := h
    injection he with he
    rw [he] at hpm
    obtain ⟨key, hkey⟩ := Maps.fit_keys F p ((Go.WideShapes.sorted_perm _).mem_iff.1 hpm)
    obtain ⟨x, -, hx, -⟩ := Maps.keyOf_str hk hkey
    exact ⟨x, hx⟩
  refine ⟨?_, fun x => ?_⟩
  · show (es.map fun p => strOf p.1).Nodup
    refine List.pairwise_map.2 (hp.imp_of_mem fun {p q} hpm hqm hne e => hne ?_)
    obtain ⟨x, hx⟩ := hkey p hpm
    obtain ⟨y, hy⟩ := hkey q hqm
    rw [hx, hy] at e ⊢
    exact congrArg _ e
  · rw [← hm.has x, Maps.has_eq]
    show x ∈ es.map (fun p => strOf p.1) ↔ _
    rw [List.mem_map, List.any_eq_true]
    constructor
    · rintro ⟨p, hpm, rfl⟩
      obtain ⟨y, hy⟩ := hkey p hpm
      exact ⟨p, hpm, by rw [hy]; simp [strOf, Lit.sameKey]⟩
    · rintro ⟨p, hpm, he⟩
      obtain ⟨y, hy⟩ := hkey p hpm
      rw [hy, same_str] at he
      exact ⟨p, hpm, by rw [hy]; exact eq_of_beq he⟩
theorem srt_lt {l : List (List UInt8)} (h : l.Nodup) : (l.mergeSort (fun x y => decide (x ≤ y))).Pairwise (· < ·) := by
  have h1 : (l.mergeSort (fun x y => decide (x ≤ y))).Pairwise (fun x y => decide (x ≤ y) = true) := List.pairwise_mergeSort (fun x y z a b => by
    simp only [decide_eq_true_eq] at *
    exact List.le_trans a b) (fun x y => by
    simp only [Bool.or_eq_true, decide_eq_true_eq]
    exact List.le_total x y) l
  have h2 : (l.mergeSort (fun x y => decide (x ≤ y))).Nodup := (List.mergeSort_perm l _).nodup_iff.2 h
  refine (h1.and h2).imp (fun {a b} ⟨p, q⟩ => ?_)
  simp only [decide_eq_true_eq] at p
  rcases Decidable.em (a < b) with h | h
  · exact h
  · exact absurd (List.le_antisymm p (List.not_lt.1 h)) q
theorem strE_cells : ∀ l : List (List UInt8), strE.cells l = l.map encStr
  | [] => rfl
  | x :: l => by
    have ih := strE_cells l
    have e : strE.cells (x :: l) = strE.enc x ++ strE.cells l := rfl
    rw [e, ih]
    rfl
/-- The names in a directory, rising. -/
def NamesIn (m : Nm → Option Nat) (w : World) (e : Ending) (w' : World) : Prop := ∃ v gv l, e = .returned v ∧ (w.heap.size ≤ gv ∨ l = []) ∧ SlR strE w' v gv l ∧ l.Pairwise (· < ·) ∧ (∀ x, x ∈ l ↔ (m x).isSome = true) ∧ l.length ≤ 100000 ∧ Fr [] w w'
theorem sorted_c (b n : Nat) (m : Nm → Option Nat) (w : World) (h : SMap Tryd.prog 9 w b n m) (hn : n ≤ 100000) :
    Calls Tryd.prog 38 #[.func (.func 52) #[] #[.pointer (some ⟨w.heap.size, 0, none⟩)]] (w.alloc (.cells #[.map (some b)] 49)) (NamesIn m w) := by
  obtain ⟨D, hown, hm⟩ := h
  have hsz := World.ownsMap.size_le hown
  refine (callsIn_wide.1 (sorted_in b n D w hown (by unfold maxLen; omega) (by omega))).mono ?_
  rintro e w' ⟨v, ss, rfl, hp, ho, -, hb⟩
  obtain ⟨hnd, hmem⟩ := smap_keys hown hm Tryd.underlying9
  have hl : (ss.mergeSort (fun x y => decide (x ≤ y))).length = ss.length := (List.mergeSort_perm ss _).length_eq
  have hO : OwnR strE w' (w.alloc (.cells #[.map (some b)] 49)).heap.size 9 v (ss.mergeSort (fun x y => decide (x ≤ y))) := by
    show w'.ownsRow _ _ 1 v (ss.mergeSort (fun x y => decide (x ≤ y))).length (strE.cells _)
    rw [hl, strE_cells]
    exact ho
  obtain ⟨gv, hg, hs⟩ := hO.sl
  have hz : (w.alloc (.cells #[.map (some b)] 49)).heap.size = w.heap.size + 1 := by simp
  have hks : (strKeys D).length = Maps.size D := by
    obtain ⟨es, rfl⟩ := World.ownsMap.isMap hown
    show (es.map _).length = _
    rw [List.length_map, Maps.size_eq]
  refine ⟨v, gv, _, rfl, ?_, hs, srt_lt (hp.nodup_iff.2 hnd), fun x => ?_, ?_, ((Fr.refl [] w).alloc _).below_step hb (by omega)⟩
  · rcases hg with hg | hg
    · exact .inl (by omega)
    · exact .inr hg
  · rw [(List.mergeSort_perm ss _).mem_iff, hp.mem_iff, hmem]
  · rw [hl, hp.length_eq, hks]; omega
/-- What List hands back. -/
def ListD (o : Option (Nm → Option Nat)) (w : World) (e : Ending) (w' : World) : Prop := match o with
  | none => e = .returned (.tuple #[.slice none 0 0, errV 3])
  | some m => ∃ v gv l, e = .returned (.tuple #[v, .nilIface]) ∧ (w.heap.size ≤ gv ∨ l = []) ∧ SlR strE w' v gv l ∧ l.Pairwise (· < ·) ∧ (∀ x, x ∈ l ↔ (m x).isSome = true) ∧ l.length ≤ 100000
def ListA (g : Tr.G) (s : List UInt8) (w : World) (e : Ending) (w' : World) : Prop := Fr [] w w' ∧ match atV g s with
  | .err c => e = .returned (.tuple #[.slice none 0 0, errV c])
  | .ok n => ListD (g.ent n) w e w'
theorem ListA.err {g : Tr.G} {s : List UInt8} {w w' : World} {c : Int} {e : Ending} (h : atV g s = .err c) (hf : Fr [] w w') (he : e = .returned (.tuple #[.slice none 0 0, errV c])) : ListA g s w e w' := ⟨hf, by rw [h]; exact he⟩
theorem ListA.ok {g : Tr.G} {s : List UInt8} {w w' : World} {n : Nat} {e : Ending} (h : atV g s = .ok n) (hf : Fr [] w w') (he : ListD (g.ent n) w e w') : ListA g s w e w' := ⟨hf, by rw [h]; exact he⟩
theorem ListA.at_ {g : Tr.G} {s : List UInt8} {w w' : World} {n : Nat} {e : Ending} (h : ListA g s w e w') (ha : atV g s = .ok n) : ListD (g.ent n) w e w' := by
  have := h.2
  rw [ha] at this
  exact this
set_option maxRecDepth 100000 in
set_option maxHeartbeats 2000000 in
theorem tr_List (w : World) (tb : Nat) (g : Tr.G) (dom : Nat → Prop) (K : Nat) (s : ByteArray) (hS : TrS w tb g dom K) (hK : K ≤ 100000) :
    Calls Tryd.prog 21 #[.pointer (some ⟨tb, 0, none⟩), .string s] w (ListA g s.data.toList w) := by
  have HS := Lib.hid hS
  have HAT := Lib.hid (tr_at w tb g dom K s hS)
  go_enter Tryd.func21, Tryd.ntmps21
  cases hat : atV g s.data.toList with
  | err c =>
    have HA := Lib.hid hat
    rw [hat, fndV_err] at HAT
    have hne := Tr.atV_err_ne hat
    have hev := errV_no hne
    have HEV := Lib.hid hev
    clear hat hne hS
    go_wp2_with (go_at_call 25; (with_reducible refine useC HAT.out ?_); rintro e w1 ⟨rfl, hf⟩; have HF := Lib.hid hf; clear hf; rw [hev]; clear hev)
    go_ret2
    exact ListA.err HA.out HF.out (by rw [HEV.out]; rfl)
  | ok n =>
    have HA := Lib.hid hat
    rw [hat] at HAT
    have hd := Tr.atV_dom hS.rootD hS.closed hat
    have hnode := hS.node n hd
    unfold fndV at HAT
    clear hat hd hS
    cases he : g.ent n with
    | none =>
      have h0 := hnode.file he
      have HE := Lib.hid he
      have HB := Lib.hid (fun W (hW : Fr [] w W) => (show W.cell? ⟨n, 0, none⟩ = some (.map none) by rw [cell_of_row _ _ _ _ _ _ (hW.get h0 (by simp))]; rfl))
      clear h0 hnode he
      go_wp2_with (go_at_call 25; (with_reducible refine useC HAT.out ?_); rintro e w1 ⟨rfl, hf⟩; have HF := Lib.hid hf; have n0 := HB.out w1 hf; have q0 := mapNil w1 none; clear hf)

      go_ret2
      exact ListA.ok HA.out HF.out (by rw [HE.out]; rfl)
    | some m =>
      obtain ⟨h0, hm0⟩ := hnode.dir he
      have HE := Lib.hid he
      have HB := Lib.hid (fun W (hW : Fr [] w W) => (show W.cell? ⟨n, 0, none⟩ = some (.map (some (g.mb n))) by rw [cell_of_row _ _ _ _ _ _ (hW.get h0 (by simp))]; rfl))
      have HK1 := Lib.hid (fun W => callsIn_wide.1 (keys_in (some (g.mb n)) W))
      have HSO := Lib.hid (fun W (hW : Fr [] w W) => sorted_c (g.mb n) K m W (hm0.keep (hW.block _ hm0.lt (by simp))) hK)
      clear h0 hm0 hnode he
      go_wp2_with (first
        | (go_at_call 25; (with_reducible refine useC HAT.out ?_); rintro e w1 ⟨rfl, hf⟩; have HF := Lib.hid hf; have n0 := HB.out w1 hf; have q0 := mapNil w1 (some (g.mb n)); clear hf)
        | (go_at_call 39; (with_reducible refine useC (HK1.out w1) ?_); rintro e w2 ⟨rfl, rfl⟩)
        | (go_at_call 38; (with_reducible refine useC (HSO.out w1 HF.out) ?_); rintro e w3 ⟨v, gv, l, rfl, h1, h2, h3, h4, h5, h6⟩; have HR := Lib.hid (And.intro h1 (And.intro h2 (And.intro h3 (And.intro h4 h5)))); have HF3 := Lib.hid h6; clear h1 h2 h3 h4 h5 h6))
      go_ret2
      obtain ⟨h1, h2, h3, h4, h5⟩ := HR.out
      refine ListA.ok HA.out (HF.out.trans HF3.out) ?_
      rw [HE.out]
      refine ⟨v, gv, l, rfl, ?_, h2, h3, h4, h5⟩
      rcases h1 with h1 | h1
      · exact .inl (Nat.le_trans HF.out.size h1)
      · exact .inr h1
theorem trl_List {w0 w : World} {tb K : Nat} {g : Tr.G} {dom : Nat → Prop} (h : TrL w0 w tb g dom K) (hK : K ≤ 100000) (s : ByteArray) :
    Calls Tryd.prog 21 #[.pointer (some ⟨tb, 0, none⟩), .string s] w fun e w' => ListA g s.data.toList w e w' ∧ TrL w0 w' tb g dom K :=
  (tr_List w tb g dom K s h.s hK).mono fun _ _ ha => ⟨ha, h.step ha.1⟩
end YtnglhfeialomgaaDoor
end Go.Proofs
