/- A step of both trees, the program's and the document's. -/
import Derived.Deep.OwnRows
import Derived.Sort.Walk0
import Derived.Test.YtnglhfeialomgaaGreatDoorTz02
import Derived.Test.YtnglhfeialomgaaGreatDoorTz18
import Derived.Test.YtnglhfeialomgaaGreatDoorTz19
import Derived.Test.YtnglhfeialomgaaGreatDoorTz20
import Derived.Test.YtnglhfeialomgaaGreatDoorTz23
namespace Go.Proofs.YtnglhfeialomgaaGreatDoor
open Go.RowKit

/-- What a step of the program's tree leaves behind, told by the document's tree T'. -/
def StepA (w : World) (tb K : Nat) (g : Tr.G) (dom : Nat → Prop) (T' : Tr.RT) (c : Int) (n : Nat) (W : World) (e : Ending) (w' : World) : Prop :=
  e = .returned (errV c) ∧ ∃ g' dom' ns' ths', TrL w w' tb g' dom' (K + 2) ∧ Tr.Rf g' dom' ns' ths' T' ∧ FrP (TrP tb g dom) W w' ∧ (∀ k, TrP tb g' dom' k → TrP tb g dom k ∨ W.heap.size ≤ k) ∧ ths'.length ≤ n + 1
section
variable {w W w' : World} {tb K n : Nat} {g : Tr.G} {dom : Nat → Prop} {ns : Tr.Nl} {ths : List Nat} {T : Tr.RT}
theorem StepA.none (h : TrL w W tb g dom K) (hR : Tr.Rf g dom ns ths T) (hn : ths.length ≤ n) : StepA w tb K g dom T 0 n W (.returned .nilIface) W := ⟨rfl, g, dom, ns, ths, h.mono (by omega), hR, FrP.refl _ W, fun k hk => .inl hk, by omega⟩
theorem step_make (h : TrL w W tb g dom K) (hR : Tr.Rf g dom ns ths T) (hn : ths.length ≤ n) {s : List UInt8} {dir : Bool} {e : Ending} (ha : MakA tb g dom K s dir W e w') : StepA w tb K g dom (addT g T s (-1) dir) (Tr.addErr g s) n W e w' := by
  obtain ⟨he, hf, c, o, -, ho, hno, hP, hr⟩ := ha
  obtain ⟨hr1, hcl⟩ := h.domC
  have hcn : Tr.Cn (Tr.newN g c o) := h.cn.newN hr1 hcl hno
  refine ⟨he, ?_⟩
  rcases hr with ⟨h0, d, x, hs, hS⟩ | ⟨h0, hS⟩
  · obtain ⟨P, hpt, hfd, hds⟩ := Tr.spot_at hs
    have hk := Tr.addErr_kid h0 hs
    have hne : c ≠ d := fun e => hno (e ▸ Tr.spot_dom hr1 hcl hs)
    have hL : TrL w w' tb (Tr.addG (Tr.newN g c o) d x c) (fun b => dom b ∨ b = c) (K + 1) := h.next hf hS (hcn.addS (h.s.ok.newN hr1 hcl hno) (by rw [Tr.spot_newN hr1 hcl hno]; exact hs) (by rw [Tr.addErr_newN hr1 hcl hno]; exact h0) hne Tr.newN_leaf) (fun k hk => hP k (trP_same (g := Tr.newN g c o) (g' := Tr.addG (Tr.newN g c o) d x c) (fun b => rfl) (fun b => by rw [Tr.addG_ent, Tr.setE_some]) hk))
    have hR2 := hR.made (o := o) h.s.ok hr1 hcl hno hfd hds hk
    have hT : addT g T s (-1) dir = ⟨T.nm ++ [(Pa.shown (P ++ [x]), T.dirs.length)], T.dirs ++ [o.isSome]⟩ := by
      unfold addT
      rw [if_pos h0, if_pos (by decide), if_pos (by decide), hpt, ho]
    rw [hT]
    exact ⟨_, _, _, _, hL.mono (by omega), hR2, hf, fun k hk => hP k (trP_same (g := Tr.newN g c o) (g' := Tr.addG (Tr.newN g c o) d x c) (fun b => rfl) (fun b => by rw [Tr.addG_ent, Tr.setE_some]) hk), by rw [List.length_append]; simp; omega⟩
  · have hT : addT g T s (-1) dir = T := by unfold addT; rw [if_neg h0]
    rw [hT]
    exact ⟨_, _, _, _, (h.next hf hS hcn hP).mono (by omega), hR.newN hr1 hcl hno, hf, hP, by omega⟩
theorem step_dir (h : TrL w W tb g dom K) (hK : K ≤ 100000) (hR : Tr.Rf g dom ns ths T) (hn : ths.length ≤ n) (s : List UInt8) :
    Calls Tryz.prog 27 #[.pointer (some ⟨tb, 0, none⟩), .string (Pa.mk s)] W (StepA w tb K g dom (addT g T s (-1) true) (Tr.addErr g s) n W) :=
  (tr_Dir W tb g dom K (Pa.mk s) h.s hK).mono fun _ _ ha => by rw [Pa.mk_list] at ha; exact step_make h hR hn ha
theorem step_file (h : TrL w W tb g dom K) (hK : K ≤ 100000) (hR : Tr.Rf g dom ns ths T) (hn : ths.length ≤ n) (s : List UInt8) :
    Calls Tryz.prog 28 #[.pointer (some ⟨tb, 0, none⟩), .string (Pa.mk s)] W (StepA w tb K g dom (addT g T s (-1) false) (Tr.addErr g s) n W) :=
  (tr_File W tb g dom K (Pa.mk s) h.s hK).mono fun _ _ ha => by rw [Pa.mk_list] at ha; exact step_make h hR hn ha
theorem step_drop (h : TrL w W tb g dom K) (hK : K ≤ 100000) (hR : Tr.Rf g dom ns ths T) (hn : ths.length ≤ n) (s : List UInt8) :
    Calls Tryz.prog 29 #[.pointer (some ⟨tb, 0, none⟩), .string (Pa.mk s)] W (StepA w tb K g dom (dropT g T s) (Tr.dropErr g s) n W) :=
  (trl_DropF h hK (Pa.mk s)).mono fun e w' ⟨⟨he, hr⟩, hf⟩ => by
    rw [Pa.mk_list] at he hr
    refine ⟨he, ?_⟩
    rcases hr with ⟨h0, d, x, c, hs, hk, hl, hL⟩ | ⟨h0, hL⟩
    · obtain ⟨P, hpt, hfd, hds⟩ := Tr.spot_at hs
      have hT : dropT g T s = ⟨T.nm.filter (fun e => !(e.1 == Pa.shown (P ++ [x]))), T.dirs⟩ := by unfold dropT; rw [if_pos h0, hpt]
      rw [hT]
      exact ⟨_, _, _, _, hL.mono (by omega), hR.drop h.s.ok hfd hds hk hl, hf, fun k hk => .inl (trP_same (g := g) (g' := Tr.dropG g d x c) (fun b => rfl) (fun b => (Tr.setE_some : ((Tr.setE g d x none).ent b).isSome = _)) hk), by omega⟩
    · have hT : dropT g T s = T := by unfold dropT; rw [if_neg h0]
      rw [hT]
      exact ⟨_, _, _, _, hL.mono (by omega), hR, hf, fun k hk => .inl hk, by omega⟩
theorem step_move (h : TrL w W tb g dom K) (hK : K ≤ 100000) (hR : Tr.Rf g dom ns ths T) (hn : ths.length ≤ n) (s t : List UInt8) :
    Calls Tryz.prog 31 #[.pointer (some ⟨tb, 0, none⟩), .string (Pa.mk s), .string (Pa.mk t)] W (StepA w tb K g dom (moveT g T s t) (Tr.moveErr g s t) n W) :=
  (trl_MoveF h hK (Pa.mk s) (Pa.mk t)).mono fun e w' ⟨⟨he, hr⟩, hf⟩ => by
    rw [Pa.mk_list, Pa.mk_list] at he hr
    refine ⟨he, ?_⟩
    rcases hr with ⟨h0, P, d, x, m, P', d', x', hpt, hpt', hm, -, hL⟩ | ⟨h0, hL⟩
    · have hT : moveT g T s t = ⟨T.nm.map (fun e => (Tr.mvT (Pa.shown (P ++ [x])) (Pa.shown (P' ++ [x'])) e.1, e.2)), T.dirs⟩ := by unfold moveT; rw [if_pos h0, hpt, hpt']
      rw [hT]
      exact ⟨_, _, _, _, hL, hR.move hm h.s.ok, hf, fun k hk => .inl (trP_same (g := g) (g' := Tr.movE g d x d' x' m) (fun b => rfl) (fun b => Tr.Mv.isD b) hk), by omega⟩
    · have hT : moveT g T s t = T := by unfold moveT; rw [if_neg h0]
      rw [hT]
      exact ⟨_, _, _, _, hL.mono (by omega), hR, hf, fun k hk => .inl hk, by omega⟩
/-- What the document makes of one more name. -/
def linkT (g : Tr.G) (ths : List Nat) (T : Tr.RT) (s t : List UInt8) : Tr.RT := match atV g s with
  | .err _ => T
  | .ok m => if (g.ent m).isSome = true then T else addT g T t (ths.idxOf m : Nat) false
theorem step_link (h : TrL w W tb g dom K) (hK : K ≤ 100000) (hR : Tr.Rf g dom ns ths T) (hn : ths.length ≤ n) (s t : List UInt8) :
    Calls Tryz.prog 30 #[.pointer (some ⟨tb, 0, none⟩), .string (Pa.mk s), .string (Pa.mk t)] W (StepA w tb K g dom (linkT g ths T s t) (Tr.linkErr g s t) n W) :=
  (trl_LinkF h hK (Pa.mk s) (Pa.mk t)).mono fun e w' ⟨⟨he, hr⟩, hf⟩ => by
    rw [Pa.mk_list, Pa.mk_list] at he hr
    refine ⟨he, ?_⟩
    rcases hr with ⟨-, m, d, x, hat, hm, h0, hs, hL⟩ | ⟨h0, hL⟩
    · obtain ⟨P, hpt, hfd, hds⟩ := Tr.spot_at hs
      obtain ⟨p0, -, hfm⟩ := Tr.atV_path hat
      have hT : linkT g ths T s t = ⟨T.nm ++ [(Pa.shown (P ++ [x]), ths.idxOf m)], T.dirs⟩ := by
        unfold linkT
        rw [hat]
        show (if (g.ent m).isSome = true then T else addT g T t (ths.idxOf m : Nat) false) = _
        rw [hm, if_neg (by simp)]
        unfold addT
        rw [if_pos h0, if_neg (by omega), if_neg (by omega), hpt]
        rfl
      rw [hT]
      exact ⟨_, _, _, _, hL.mono (by omega), hR.link h.s.ok (hR.thing hfm) hm hfd hds (Tr.addErr_kid h0 hs), hf, fun k hk => .inl (trP_same (g := g) (g' := Tr.addG g d x m) (fun b => rfl) (fun b => by rw [Tr.addG_ent, Tr.setE_some]) hk), by omega⟩
    · have hT : linkT g ths T s t = T := by
        unfold linkT
        cases hat : atV g s with
        | err ce => rfl
        | ok m =>
          show (if (g.ent m).isSome = true then T else addT g T t (ths.idxOf m : Nat) false) = _
          by_cases hm : (g.ent m).isSome = true
          · rw [if_pos hm]
          · rw [if_neg hm]
            have : Tr.linkErr g s t = Tr.addErr g t := by
              unfold Tr.linkErr
              rw [hat]
              exact if_neg hm
            rw [this] at h0
            unfold addT
            rw [if_neg h0]
      rw [hT]
      exact ⟨_, _, _, _, hL.mono (by omega), hR, hf, fun k hk => .inl hk, by omega⟩
end
end Go.Proofs.YtnglhfeialomgaaGreatDoor
/- The document's Sorted: one text after another, the least of those left; in plain Lean. -/
namespace Go.Proofs.YtnglhfeialomgaaGreatDoor
namespace Tp
abbrev Tx := List UInt8
/-- What is not used yet. -/
def left : List Bool → List Tx → List Tx
  | u :: us, x :: l => if u = true then left us l else x :: left us l
  | _, _ => []
theorem left_all : ∀ (l : List Tx), left (List.replicate l.length false) l = l
  | [] => rfl
  | x :: l => by
    show (if false = true then _ else x :: left (List.replicate l.length false) l) = _
    rw [if_neg (by decide), left_all l]
theorem left_mem : ∀ {us : List Bool} {l : List Tx}, us.length = l.length → ∀ y, y ∈ left us l ↔ ∃ j, ∃ (h : j < l.length), us[j]? = some false ∧ l[j] = y
  | [], [], _, y => by simp [left]
  | [], _ :: _, h, _ => by cases h
  | _ :: _, [], h, _ => by cases h
  | u :: us, x :: l, h, y => by
    have h' : us.length = l.length := by simpa using h
    have ih := left_mem h' y
    have hs : (∃ j, ∃ (h : j < (x :: l).length), (u :: us)[j]? = some false ∧ (x :: l)[j] = y) ↔ (u = false ∧ x = y) ∨ ∃ j, ∃ (h : j < l.length), us[j]? = some false ∧ l[j] = y := by
      constructor
      · rintro ⟨j, hj, h1, h2⟩
        cases j with
        | zero => exact .inl ⟨by simpa using h1, h2⟩
        | succ j => exact .inr ⟨j, by simpa using hj, by simpa using h1, by simpa using h2⟩
      · rintro (⟨h1, h2⟩ | ⟨j, hj, h1, h2⟩)
        · exact ⟨0, by simp, by simpa using h1, h2⟩
        · exact ⟨j + 1, by simpa using hj, by simpa using h1, by simpa using h2⟩
    rw [hs, ← ih]
    cases u with
    | true => show y ∈ (if true = true then left us l else x :: left us l) ↔ _; rw [if_pos rfl]; simp
    | false =>
      show y ∈ (if false = true then left us l else x :: left us l) ↔ _
      rw [if_neg (by decide), List.mem_cons]
      constructor
      · rintro (h | h)
        · exact .inl ⟨rfl, h.symm⟩
        · exact .inr h
      · rintro (⟨-, h⟩ | h)
        · exact .inl h.symm
        · exact .inr h
theorem left_set : ∀ {us : List Bool} {l : List Tx} {b : Nat}, us.length = l.length → (hb : b < l.length) → us[b]? = some false → (left us l).Perm (l[b] :: left (us.set b true) l)
  | [], [], b, _, hb, _ => absurd hb (Nat.not_lt_zero b)
  | [], _ :: _, _, h, _, _ => by cases h
  | _ :: _, [], _, h, _, _ => by cases h
  | u :: us, x :: l, 0, h, hb, hu => by
    have hu : u = false := by simpa using hu
    subst hu
    show (if false = true then left us l else x :: left us l).Perm (x :: (if true = true then left us l else x :: left us l))
    rw [if_neg (by decide), if_pos rfl]
  | u :: us, x :: l, b + 1, h, hb, hu => by
    have ih := left_set (us := us) (l := l) (b := b) (by simpa using h) (by simpa using hb) (by simpa using hu)
    have e : (x :: l)[b + 1] = l[b]'(by simpa using hb) := rfl
    rw [e]
    cases u with
    | true =>
      show (if true = true then left us l else x :: left us l).Perm (_ :: (if true = true then left (us.set b true) l else x :: left (us.set b true) l))
      rw [if_pos rfl, if_pos rfl]
      exact ih
    | false =>
      show (if false = true then left us l else x :: left us l).Perm (_ :: (if false = true then left (us.set b true) l else x :: left (us.set b true) l))
      rw [if_neg (by decide), if_neg (by decide)]
      exact (ih.cons x).trans (List.Perm.swap _ _ _)
/-- What the outer rounds know. -/
structure SoP (l : List Tx) (us : List Bool) (out : List Tx) : Prop where
  len : us.length = l.length
  perm : (out ++ left us l).Perm l
  sorted : out.Pairwise (· ≤ ·)
  below : ∀ x ∈ out, ∀ y ∈ left us l, x ≤ y
theorem SoP.start (l : List Tx) : SoP l (List.replicate l.length false) [] := ⟨by simp, by rw [left_all]; exact List.Perm.refl _, List.Pairwise.nil, by simp⟩
theorem SoP.some_left {l : List Tx} {us : List Bool} {out : List Tx} (h : SoP l us out) (hn : out.length < l.length) : ∃ j, ∃ (_ : j < l.length), us[j]? = some false := by
  have h1 := h.perm.length_eq
  rw [List.length_append] at h1
  obtain ⟨y, hy⟩ : ∃ y, y ∈ left us l := by
    cases hl : left us l with
    | nil => rw [hl] at h1; simp at h1; omega
    | cons y t => exact ⟨y, by simp⟩
  obtain ⟨j, hj, hu, -⟩ := (left_mem h.len y).1 hy
  exact ⟨j, hj, hu⟩
/-- The least of those left is next. -/
theorem SoP.next {l : List Tx} {us : List Bool} {out : List Tx} (h : SoP l us out) {b : Nat} (hb : b < l.length) (hu : us[b]? = some false) (hmin : ∀ j (hj : j < l.length), us[j]? = some false → l[b] ≤ l[j]) : SoP l (us.set b true) (out ++ [l[b]]) := by
  have hp := left_set h.len hb hu
  have hmem : ∀ y, y ∈ left (us.set b true) l → y ∈ left us l := fun y hy => hp.mem_iff.2 (by simp [hy])
  refine ⟨by simpa using h.len, ?_, ?_, fun x hx y hy => ?_⟩
  · rw [List.append_assoc]
    exact ((List.Perm.append_left out hp).symm).trans h.perm
  · rw [List.pairwise_append]
    exact ⟨h.sorted, by simp, fun x hx y hy => by
      simp only [List.mem_singleton] at hy
      subst hy
      exact h.below x hx _ (hp.mem_iff.2 (by simp))⟩
  · rcases List.mem_append.1 hx with hx | hx
    · exact h.below x hx y (hmem y hy)
    · simp only [List.mem_singleton] at hx
      subst hx
      obtain ⟨j, hj, hu2, rfl⟩ := (left_mem h.len y).1 (hmem y hy)
      exact hmin j hj hu2
theorem SoP.done {l : List Tx} {us : List Bool} {out : List Tx} (h : SoP l us out) (hn : l.length ≤ out.length) : out.Perm l ∧ out.Pairwise (· ≤ ·) := by
  have h1 := h.perm.length_eq
  rw [List.length_append] at h1
  have h2 : left us l = [] := List.eq_nil_of_length_eq_zero (by omega)
  have h3 := h.perm
  rw [h2, List.append_nil] at h3
  exact ⟨h3, h.sorted⟩
/-- What the inner rounds know: the least so far. -/
def Best (l : List Tx) (us : List Bool) (i : Nat) (bv : Int) : Prop :=
  (bv = -1 ∧ ∀ j, j < i → us[j]? ≠ some false) ∨ ∃ b : Nat, bv = b ∧ ∃ (hb : b < l.length), us[b]? = some false ∧ ∀ j (hj : j < l.length), j < i → us[j]? = some false → l[b] ≤ l[j]
theorem best_skip {l : List Tx} {us : List Bool} {i : Nat} {bv : Int} (h : Best l us i bv) (hu : us[i]? ≠ some false) : Best l us (i + 1) bv := by
  rcases h with ⟨h1, h2⟩ | ⟨b, h1, hb, h2, h3⟩
  · refine .inl ⟨h1, fun j hj => ?_⟩
    rcases Nat.lt_or_ge j i with h | h
    · exact h2 j h
    · obtain rfl : j = i := by omega
      exact hu
  · refine .inr ⟨b, h1, hb, h2, fun j hj hji hj2 => ?_⟩
    rcases Nat.lt_or_ge j i with h | h
    · exact h3 j hj h hj2
    · obtain rfl : j = i := by omega
      exact absurd hj2 hu
theorem best_first {l : List Tx} {us : List Bool} {i : Nat} (h : Best l us i (-1)) (hi : i < l.length) (hu : us[i]? = some false) : Best l us (i + 1) (i : Int) := by
  rcases h with ⟨-, h2⟩ | ⟨b, h1, -⟩
  · refine .inr ⟨i, rfl, hi, hu, fun j hj hji hj2 => ?_⟩
    rcases Nat.lt_or_ge j i with h | h
    · exact absurd hj2 (h2 j h)
    · obtain rfl : j = i := by omega
      exact List.le_refl _
  · omega
theorem best_less {l : List Tx} {us : List Bool} {i b : Nat} (h : Best l us i (b : Int)) (hi : i < l.length) (hu : us[i]? = some false) (hb : b < l.length) (hlt : l[i] < l[b]) : Best l us (i + 1) (i : Int) := by
  rcases h with ⟨h1, -⟩ | ⟨b', h1, hb', h2, h3⟩
  · omega
  · obtain rfl : b = b' := by omega
    refine .inr ⟨i, rfl, hi, hu, fun j hj hji hj2 => ?_⟩
    rcases Nat.lt_or_ge j i with h | h
    · exact List.le_trans (List.le_of_lt hlt) (h3 j hj h hj2)
    · obtain rfl : j = i := by omega
      exact List.le_refl _
theorem best_keep {l : List Tx} {us : List Bool} {i b : Nat} (h : Best l us i (b : Int)) (hi : i < l.length) (hb : b < l.length) (hlt : ¬ l[i] < l[b]) : Best l us (i + 1) (b : Int) := by
  rcases h with ⟨h1, -⟩ | ⟨b', h1, hb', h2, h3⟩
  · omega
  · obtain rfl : b = b' := by omega
    refine .inr ⟨b, rfl, hb, h2, fun j hj hji hj2 => ?_⟩
    rcases Nat.lt_or_ge j i with h | h
    · exact h3 j hj h hj2
    · obtain rfl : j = i := by omega
      exact List.not_lt.1 hlt
end Tp
end Go.Proofs.YtnglhfeialomgaaGreatDoor

/- The document's Sorted. -/
namespace Go.Proofs.YtnglhfeialomgaaGreatDoor
open Go.RowKit

def bools (us : List Bool) : Array Value := (us.map (fun b => Value.bool b)).toArray
theorem bools_set (us : List Bool) (i : Nat) (b : Bool) : (bools us).setIfInBounds i (.bool b) = bools (us.set i b) := by
  unfold bools
  rw [List.setIfInBounds_toArray, List.map_set]
theorem mk_bo (n : Nat) (hn : n ≤ 1000) (W : World) : (Instr.makeSlice 26 (.int .i64 n) (.int .i64 n)).run Tryz.prog W = .ok (.slice (some ⟨W.heap.size, 0, none⟩) n n) (W.alloc (.cells (bools (List.replicate n false)) 4)) := by
  have h := run_make_row' (P := Tryz.prog) 26 4 (.bool false) 1 u_bo info_bo rfl .i64 .i64 n (by omega) (by omega) W
  rw [show madeCells #[Value.bool false] n = bools (List.replicate n false) from by
    apply Array.ext'
    rw [toList_madeCells_one]
    simp [bools]] at h
  exact h
/-- The rounds' memory. -/
structure SoI (w wr : World) (us : List Bool) (v : Value) (out : List (List UInt8)) : Prop where
  blk : wr.heap[w.heap.size]? = some (.cells (bools us) 4 (0, 0))
  own : OwnR strE wr (w.heap.size + 1) 9 v out
  fr : Fr [] w wr
theorem SoI.cell {w wr : World} {us : List Bool} {v : Value} {out : List (List UInt8)} (h : SoI w wr us v out) {i : Nat} {b : Bool} (hi : us[i]? = some b) : wr.cell? ⟨w.heap.size, i, none⟩ = some (.bool b) := by
  rw [cell_of_row _ _ _ _ _ _ h.blk]
  show (us.map _).toArray[i]? = _
  rw [List.getElem?_toArray, List.getElem?_map, hi]
  rfl
theorem SoI.step {w wr wr' : World} {us : List Bool} {v : Value} {out : List (List UInt8)} (h : SoI w wr us v out) (hf : Fr [] wr wr') : SoI w wr' us v out := ⟨hf.get h.blk (by simp), h.own.kept hf (by simp), h.fr.trans hf⟩
theorem SoI.set {w wr : World} {us : List Bool} {v : Value} {out : List (List UInt8)} (h : SoI w wr us v out) (i : Nat) : SoI w (wr.setCell ⟨w.heap.size, i, none⟩ (.bool true)) (us.set i true) v out := by
  have hf : Fr [w.heap.size] wr (wr.setCell ⟨w.heap.size, i, none⟩ (.bool true)) := (Fr.refl _ wr).setCell (.inl (by simp)) _
  refine ⟨by rw [set_block h.blk, bools_set], h.own.kept hf (fun g hg e => ?_), h.fr.step hf (fun y hy => .inr (by simp only [List.mem_singleton] at hy; omega))⟩
  simp only [List.mem_singleton] at hg
  subst hg
  have := (h.own.ge _ e).1
  omega
theorem SoI.push {w wr w' : World} {us : List Bool} {v v' : Value} {out out' : List (List UInt8)} (h : SoI w wr us v out) (h1 : OwnR strE w' (w.heap.size + 1) 9 v' out') (h2 : wr.grownBy w' v.ownBlock) (h3 : Below (w.heap.size + 1) wr w') : SoI w w' us v' out' := by
  refine ⟨(h3.block w.heap.size (by omega)).trans h.blk, h1, h.fr.below_step h3 (by omega)⟩
/-- What Sorted hands back. -/
def SortedA (l : List (List UInt8)) (w : World) (e : Ending) (w' : World) : Prop := ∃ v g l', e = .returned v ∧ (w.heap.size ≤ g ∨ l' = []) ∧ SlR strE w' v g l' ∧ l'.Perm l ∧ l'.Pairwise (· ≤ ·) ∧ Fr [] w w'
set_option maxRecDepth 100000 in
set_option maxHeartbeats 8000000 in
theorem m_Sorted (w : World) (v : Value) (g : Nat) (l : List (List UInt8)) (h : SlR strE w v g l) (hl : l.length ≤ 1000) :
    Calls Tryz.prog 35 #[v] w (SortedA l w) := by
  obtain ⟨A, o, c, rfl, hm, hcap, hA, hc⟩ := strs_cell h
  have HA := Lib.hid hA
  have HC := Lib.hid hc
  have hmk := mk_bo l.length hl w
  have HI0 : Hid (SoI w (w.alloc (.cells (bools (List.replicate l.length false)) 4)) (List.replicate l.length false) (.slice none 0 0) []) := ⟨heap_alloc_new w _, OwnR.nil, (Fr.refl [] w).alloc _⟩
  have HP0 := Lib.hid (Tp.SoP.start l)
  clear h hA hc
  go_enter Tryz.func35, Tryz.ntmps35
  go_wp2_with fail
  generalize w.alloc (.cells (bools (List.replicate l.length false)) 4) = w1 at *
  clear hmk
  go_loopw [3, 5] (fun ov nv wr => ∃ n : Nat, n ≤ l.length ∧ nv = .int .i64 n ∧ ∃ us out, out.length = n ∧ (∃ Ao co, ov = .slice Ao out.length co) ∧ Hid (SoI w wr us ov out) ∧ Hid (Tp.SoP l us out)) (fun _ nv _ => l.length - (intOf nv).toNat)
  case atStart => exact ⟨0, Nat.zero_le _, rfl, _, [], rfl, ⟨_, _, rfl⟩, HI0, HP0⟩
  case round =>
    clear HI0 HP0
    obtain ⟨n, hn, rfl, us, out, hout, ⟨Ao, co, rfl⟩, hI, hP⟩ := hrel
    obtain ⟨W0, hW0⟩ : ∃ x, x = wr := ⟨_, rfl⟩
    subst hW0
    have n0 : (0 : Int) ≤ n := by omega
    have nw : IntKind.i64.wrap ((n : Int) + 1) = (n : Int) + 1 := by rw [IntKind.wrap_i64]; omega
    by_cases hlt : n < l.length
    · have i1 : (n : Int) < l.length := by omega
      obtain rfl := HA.out (by omega)
      have HB0 : Hid (Tp.Best l us 0 (-1)) := .inl ⟨rfl, fun j hj => absurd hj (by omega)⟩
      have HSL := Lib.hid (hP.out.some_left (by omega))
      have hulen := hP.out.len
      have HUL := Lib.hid hulen
      have HOUT := Lib.hid hout
      clear hulen hout
      go_wp2_with fail
      go_loopw [6, 7] (fun bv iv wr => ∃ (i : Nat) (b : Int), i ≤ l.length ∧ iv = .int .i64 i ∧ bv = .int .i64 b ∧ Hid (Tp.Best l us i b) ∧ Hid (Fr [] W0 wr)) (fun _ iv _ => l.length - (intOf iv).toNat)
      case atStart => exact ⟨0, -1, Nat.zero_le _, rfl, rfl, HB0, Lib.hid (Fr.refl [] W0)⟩
      case round =>
        clear HB0
        obtain ⟨i, bv, hi, rfl, rfl, hB, hF⟩ := hrel
        have k0 : (0 : Int) ≤ i := by omega
        have kw : IntKind.i64.wrap ((i : Int) + 1) = (i : Int) + 1 := by rw [IntKind.wrap_i64]; omega
        by_cases hil : i < l.length
        · have k1 : (i : Int) < l.length := by omega
          obtain ⟨u, hu⟩ : ∃ u, us[i]? = some u := ⟨us[i]'(by rw [HUL.out]; exact hil), List.getElem?_eq_getElem _⟩
          have cu := hF.out.cell (hI.out.cell hu) (by simp)
          have HU := Lib.hid hu
          have HFN := Lib.hid (hF.out.step (Fr.refl [] wr).drew (by simp))
          have cl := hF.out.cell (hI.out.fr.cell (HC.out i hil) (by simp)) (by simp)
          clear hu
          cases u with
          | true =>
            have HN : Hid (Tp.Best l us (i + 1) bv) := Tp.best_skip hB.out (by rw [HU.out]; simp)
            clear cl
            go_wp2_with fail
            (refine wp_region_mixq 17 [(true, 0), (true, 1), (true, 2), (true, 3), (true, 4), (true, 5), (true, 6), (true, 7), (true, 8), (true, 9), (true, 10), (true, 11), (true, 12), (true, 13), (true, 14), (true, 15), (true, 16)] (by kernel_rfl) (by kernel_rfl) ?_; simp only [pickOps, List.map_cons, List.map_nil, List.getD_cons_zero, List.getD_cons_succ, List.drop_succ_cons, List.drop_zero]; (iterate 17 (first | (refine wpMix_take (v := ?_) (by rfl) ?_ ?_; rotate_left; (focus (intro W hW; subst hW; go_simp; (try with_reducible rfl); done)); try simp only [Act.put, List.setIfInBounds_toArray, List.set_cons_zero, List.set_cons_succ]) | (refine wpMix_leave (by rfl) ?_; try simp only [Act.put, List.setIfInBounds_toArray, List.set_cons_zero, List.set_cons_succ]))); refine wpMix_nil ?_)
            go_wp2
            go_roundw
            case rel => exact ⟨i + 1, bv, by omega, by go_num, rfl, HN, HFN⟩
            case measure => (simp [intOf]; try omega)
          | false =>
            have hbc : bv = -1 ∨ ∃ b : Nat, bv = b ∧ b < l.length := by
              rcases hB.out with ⟨h1, -⟩ | ⟨b, h1, hb, -⟩
              · exact .inl h1
              · exact .inr ⟨b, h1, hb⟩
            rcases hbc with rfl | ⟨b, rfl, hb⟩
            · have HN : Hid (Tp.Best l us (i + 1) (i : Int)) := Tp.best_first hB.out hil HU.out
              clear cl
              go_wp2_with fail
              (refine wp_region_mixq 17 [(true, 0), (true, 1), (true, 2), (true, 3), (true, 4), (true, 5), (true, 6), (true, 7), (true, 8), (true, 9), (true, 10), (true, 11), (true, 12), (true, 13), (true, 14), (true, 15), (true, 16)] (by kernel_rfl) (by kernel_rfl) ?_; simp only [pickOps, List.map_cons, List.map_nil, List.getD_cons_zero, List.getD_cons_succ, List.drop_succ_cons, List.drop_zero]; (iterate 17 (first | (refine wpMix_take (v := ?_) (by rfl) ?_ ?_; rotate_left; (focus (intro W hW; subst hW; go_simp; (try with_reducible rfl); done)); try simp only [Act.put, List.setIfInBounds_toArray, List.set_cons_zero, List.set_cons_succ]) | (refine wpMix_leave (by rfl) ?_; try simp only [Act.put, List.setIfInBounds_toArray, List.set_cons_zero, List.set_cons_succ]))); refine wpMix_nil ?_)
              go_wp2
              go_roundw
              case rel => exact ⟨i + 1, i, by omega, by go_num, rfl, HN, HFN⟩
              case measure => (simp [intOf]; try omega)
            · have b0 : (0 : Int) ≤ b := by omega
              have b1 : (b : Int) < l.length := by omega
              have b2 : ¬ (b : Int) < 0 := by omega
              have b3 : decide ((b : Int) < 0) = false := decide_eq_false b2
              have cb := hF.out.cell (hI.out.fr.cell (HC.out b hb) (by simp)) (by simp)
              by_cases hless : l[i] < l[b]
              · have HN : Hid (Tp.Best l us (i + 1) (i : Int)) := Tp.best_less hB.out hil HU.out hb hless
                have hcmp : Go.Op.bytesLess (Pa.mk l[i]).toList (Pa.mk l[b]).toList = true := by
                  rw [mk_toList, mk_toList, bytesLess_eq]
                  exact decide_eq_true hless
                clear hless
                generalize Pa.mk l[i] = m1 at *
                generalize Pa.mk l[b] = m2 at *
                go_wp2_with fail
                (refine wp_region_mixq 17 [(true, 0), (true, 1), (true, 2), (true, 3), (true, 4), (true, 5), (true, 6), (true, 7), (true, 8), (true, 9), (true, 10), (true, 11), (true, 12), (true, 13), (true, 14), (true, 15), (true, 16)] (by kernel_rfl) (by kernel_rfl) ?_; simp only [pickOps, List.map_cons, List.map_nil, List.getD_cons_zero, List.getD_cons_succ, List.drop_succ_cons, List.drop_zero]; (iterate 17 (first | (refine wpMix_take (v := ?_) (by rfl) ?_ ?_; rotate_left; (focus (intro W hW; subst hW; go_simp; (try with_reducible rfl); done)); try simp only [Act.put, List.setIfInBounds_toArray, List.set_cons_zero, List.set_cons_succ]) | (refine wpMix_leave (by rfl) ?_; try simp only [Act.put, List.setIfInBounds_toArray, List.set_cons_zero, List.set_cons_succ]))); refine wpMix_nil ?_)
                go_wp2
                go_roundw
                case rel => exact ⟨i + 1, i, by omega, by go_num, rfl, HN, HFN⟩
                case measure => (simp [intOf]; try omega)
              · have HN : Hid (Tp.Best l us (i + 1) (b : Int)) := Tp.best_keep hB.out hil hb hless
                have hcmp : Go.Op.bytesLess (Pa.mk l[i]).toList (Pa.mk l[b]).toList = false := by
                  rw [mk_toList, mk_toList, bytesLess_eq]
                  exact decide_eq_false hless
                clear hless
                generalize Pa.mk l[i] = m1 at *
                generalize Pa.mk l[b] = m2 at *
                go_wp2_with fail
                (refine wp_region_mixq 17 [(true, 0), (true, 1), (true, 2), (true, 3), (true, 4), (true, 5), (true, 6), (true, 7), (true, 8), (true, 9), (true, 10), (true, 11), (true, 12), (true, 13), (true, 14), (true, 15), (true, 16)] (by kernel_rfl) (by kernel_rfl) ?_; simp only [pickOps, List.map_cons, List.map_nil, List.getD_cons_zero, List.getD_cons_succ, List.drop_succ_cons, List.drop_zero]; (iterate 17 (first | (refine wpMix_take (v := ?_) (by rfl) ?_ ?_; rotate_left; (focus (intro W hW; subst hW; go_simp; (try with_reducible rfl); done)); try simp only [Act.put, List.setIfInBounds_toArray, List.set_cons_zero, List.set_cons_succ]) | (refine wpMix_leave (by rfl) ?_; try simp only [Act.put, List.setIfInBounds_toArray, List.set_cons_zero, List.set_cons_succ]))); refine wpMix_nil ?_)
                go_wp2
                go_roundw
                case rel => exact ⟨i + 1, b, by omega, by go_num, rfl, HN, HFN⟩
                case measure => (simp [intOf]; try omega)
        · have k1 : ¬ (i : Int) < l.length := by omega
          obtain rfl : i = l.length := by omega
          have hbb : ∃ b : Nat, bv = b ∧ ∃ (hb : b < l.length), us[b]? = some false ∧ ∀ j (hj : j < l.length), us[j]? = some false → l[b] ≤ l[j] := by
            rcases hB.out with ⟨-, h2⟩ | ⟨b, h1, hb, h2, h3⟩
            · obtain ⟨j, hj, hu⟩ := HSL.out
              exact absurd hu (h2 j hj)
            · exact ⟨b, h1, hb, h2, fun j hj hu => h3 j hj hj hu⟩
          obtain ⟨b, rfl, hb, hub, hmin⟩ := hbb
          have HPN := Lib.hid (hP.out.next hb hub hmin)
          have hIr := hI.out.step hF.out
          have HIS := Lib.hid (hIr.set b)
          have b0 : (0 : Int) ≤ b := by omega
          have b1 : (b : Int) < l.length := by omega
          have cub := hIr.cell hub
          have fub := free_block hIr.blk b none
          have clb := HIS.out.fr.cell (HC.out b hb) (by simp)
          have hlo : out.length < 1000000 := by have := HOUT.out; omega
          have hws := HIS.out.fr.size
          have HSZ : Hid (w.heap.size + 1 ≤ (wr.setCell ⟨w.heap.size, b, none⟩ (.bool true)).heap.size) := by
            have := lt_of_heap HIS.out.blk
            show _ ≤ _
            omega
          clear hub hmin hIr
          go_upto_region 13 with (fail)
          generalize wr.setCell ⟨w.heap.size, b, none⟩ (.bool true) = w5 at *
          go_wp2_with (at_builtin; have HO := HIS.out.own; refine wpList_push_enc (E := strE) (wr := w5) (y := l[b]) Tryz.underlying30 info_str rfl (by decide) rfl _ _ rfl (w.heap.size + 1) (.slice Ao out.length co) out rfl rfl HO rfl hlo HSZ.out ?_; intro v6 w6 h1 h2 h3; obtain ⟨A6, c6, hv6⟩ := h1.form0; subst hv6; have HN := Lib.hid (HIS.out.push h1 h2 h3); clear h1 h2 h3 HO)
          go_roundw
          case rel => exact ⟨n + 1, by omega, by go_num, _, out ++ [l[b]], by rw [List.length_append, HOUT.out]; rfl, ⟨A6, c6, by simp⟩, by simpa using HN, HPN⟩
          case measure => (simp [intOf]; try omega)
    · have i1 : ¬ (n : Int) < l.length := by omega
      obtain ⟨hp1, hp2⟩ := hP.out.done (by omega)
      obtain ⟨go, hgo, hso⟩ := hI.out.own.sl
      have HZ : Hid (∃ g, (w.heap.size ≤ g ∨ out = []) ∧ SlR strE W0 (.slice Ao out.length co) g out) := ⟨go, hgo.imp (fun h => by omega) id, hso⟩
      have HPP := Lib.hid (And.intro hp1 hp2)
      clear hp1 hp2 hgo hso
      go_wp2
      go_ret
      obtain ⟨g9, h1, h2⟩ := HZ.out
      have h2' : SlR strE W0 (.slice Ao n co) g9 out := by rw [← hout]; exact h2
      exact ⟨_, g9, out, rfl, h1, h2', HPP.out.1, HPP.out.2, hI.out.fr⟩
end Go.Proofs.YtnglhfeialomgaaGreatDoor
