/- Texts put together. -/
import Derived.Laws.EntriesVeiled
import Derived.Test.YtnglhfeialomgaaDoorTd05
import Derived.Test.YtnglhfeialomgaaDoorTd09
import Derived.Test.YtnglhfeialomgaaDoorTd10
import Derived.Test.YtnglhfeialomgaaDoorTd15
namespace Go.Proofs.YtnglhfeialomgaaDoor
theorem mk_append (a b : List UInt8) : Pa.mk a ++ Pa.mk b = Pa.mk (a ++ b) := by
  apply ByteArray.ext
  simp [Pa.mk]
end Go.Proofs.YtnglhfeialomgaaDoor
/- What Walk gathers, in plain Lean. -/
namespace Go.Proofs.YtnglhfeialomgaaDoor
namespace Tr

/-- The text of what lies at a way. -/
def txtG (g : G) (q : List Nme) : List UInt8 := match fnd g g.root q with
  | .ok c => txt g q c
  | .err _ => []
theorem txtG_ok {g : G} {q : List Nme} {c : Nat} (h : fnd g g.root q = .ok c) : txtG g q = txt g q c := by unfold txtG; rw [h]
/-- What stands ahead of a name in a directory. -/
def atT (p : List Nme) : List UInt8 := p.flatMap (fun p => (47 : UInt8) :: p) ++ [47]
theorem atT_nil : atT [] = [47] := rfl
theorem shown_snoc (p : List Nme) (x : Nme) : Pa.shown (p ++ [x]) = atT p ++ x := by
  unfold Pa.shown atT
  rw [if_neg (by simp), List.flatMap_append]
  simp
theorem txtB_file (p : List Nme) (x : Nme) : txtB (p ++ [x]) false = atT p ++ x := by
  unfold txtB
  rw [shown_snoc]
  simp
theorem txtB_dir (p : List Nme) (x : Nme) : txtB (p ++ [x]) true = atT p ++ x ++ [47] := by
  unfold txtB
  rw [shown_snoc]
  simp
theorem atT_snoc (p : List Nme) (x : Nme) : atT (p ++ [x]) = atT p ++ x ++ [47] := by
  unfold atT
  rw [List.flatMap_append]
  simp
theorem atT_len {p : List Nme} (h : ∀ x ∈ p, Pa.IsName x) (hl : p.length ≤ 8) : (atT p).length ≤ 41 := by
  have := long_names h
  unfold atT
  rw [List.length_append, Pa.flat_len]
  simp
  omega
/-- What has been told ahead: ways, each once, none below p. -/
structure Good (g : G) (p : List Nme) (ps : List (List Nme)) : Prop where
  nodup : ps.Nodup
  ways : ∀ q ∈ ps, q ≠ [] ∧ ∃ c, fnd g g.root q = .ok c
  far : ∀ q ∈ ps, ∀ r, r ≠ [] → q ≠ p ++ r
/-- All ways below p, each once. -/
def Below (g : G) (p : List Nme) (n : Nat) (qs : List (List Nme)) : Prop := qs.Nodup ∧ ∀ q, q ∈ qs ↔ ∃ r c, r ≠ [] ∧ q = p ++ r ∧ fnd g n r = .ok c
/-- Those below the names that have come. -/
def Part (g : G) (p : List Nme) (n : Nat) (left : Nme → Bool) (qs : List (List Nme)) : Prop := qs.Nodup ∧ ∀ q, q ∈ qs ↔ ∃ x r c, left x = false ∧ q = p ++ x :: r ∧ fnd g n (x :: r) = .ok c
section
variable {g : G} {p : List Nme} {n : Nat} {left : Nme → Bool} {qs ps : List (List Nme)} {m : Nme → Option Nat}
theorem kid_some {x : Nme} {r : List Nme} {c : Nat} (h : fnd g n (x :: r) = .ok c) : ∃ e, kid g n x = some e ∧ fnd g e r = .ok c := by
  obtain ⟨a, m, e, h1, h2, h3, h4⟩ := fnd_front (p := []) h
  injection h1 with h1
  subst h1
  exact ⟨e, by rw [kid_of h2]; exact h3, h4⟩
theorem Part.start (hm : g.ent n = some m) : Part g p n (fun x => (m x).isSome) [] := by
  refine ⟨List.nodup_nil, fun q => ⟨fun h => (by cases h), ?_⟩⟩
  rintro ⟨x, r, c, hx, -, hf⟩
  obtain ⟨e, he, -⟩ := kid_some hf
  rw [kid_of hm] at he
  have hx : (m x).isSome = false := hx
  rw [he] at hx
  cases hx
theorem Part.step (h : Part g p n left qs) {x : Nme} {c : Nat} (hx : left x = true) (hk : kid g n x = some c) {q2 : List (List Nme)} (h2 : Below g (p ++ [x]) c q2) : Part g p n (fun z => left z && !(z == x)) (qs ++ [p ++ [x]] ++ q2) := by
  have e1 : ∀ r, p ++ x :: r = p ++ [x] ++ r := fun r => by simp
  constructor
  · rw [List.append_assoc, List.nodup_append]
    refine ⟨h.1, ?_, fun a ha b hb e => ?_⟩
    · refine List.nodup_cons.2 ⟨fun hm => ?_, h2.1⟩
      obtain ⟨r, c', hr, e, -⟩ := (h2.2 _).1 hm
      have := congrArg List.length e
      rw [List.length_append (bs := r)] at this
      exact hr (List.length_eq_zero_iff.1 (by omega))
    · subst e
      obtain ⟨y, r, c', hy, e, -⟩ := (h.2 a).1 ha
      have hxa : ∃ r', a = p ++ x :: r' := by
        rcases List.mem_cons.1 hb with hb | hb
        · exact ⟨[], hb⟩
        · obtain ⟨r', c', -, e', -⟩ := (h2.2 a).1 hb
          exact ⟨r', e'.trans (e1 r').symm⟩
      obtain ⟨r', e'⟩ := hxa
      rw [e] at e'
      have := List.append_cancel_left e'
      injection this with this _
      rw [this, hx] at hy
      cases hy
  · intro q
    rw [List.mem_append, List.mem_append, h.2, h2.2, List.mem_singleton]
    constructor
    · rintro ((⟨y, r, c', hy, e, hf⟩ | rfl) | ⟨r, c', hr, e, hf⟩)
      · exact ⟨y, r, c', by simp [hy], e, hf⟩
      · exact ⟨x, [], c, by simp, rfl, by rw [fnd_step hk]; rfl⟩
      · exact ⟨x, r, c', by simp, e.trans (e1 r).symm, by rw [fnd_step hk]; exact hf⟩
    · rintro ⟨y, r, c', hy, e, hf⟩
      simp only [Bool.and_eq_false_imp, Bool.not_eq_false'] at hy
      by_cases hl : left y = true
      · obtain rfl : y = x := by simpa using hy hl
        cases r with
        | nil => exact .inl (.inr e)
        | cons z r =>
          refine .inr ⟨z :: r, c', by simp, e.trans (e1 _), ?_⟩
          rw [fnd_step hk] at hf
          exact hf
      · exact .inl (.inl ⟨y, r, c', by simpa using hl, e, hf⟩)
theorem Below.file {c : Nat} (h : g.ent c = none) (p : List Nme) : Below g p c [] := by
  refine ⟨List.nodup_nil, fun q => ⟨fun h => (by cases h), ?_⟩⟩
  rintro ⟨r, c', hr, -, hf⟩
  cases r with
  | nil => exact absurd rfl hr
  | cons x r => rw [fnd_file h] at hf; cases hf
theorem Part.done (h : Part g p n left qs) (hl : ∀ x c, kid g n x = some c → left x = false) : Below g p n qs := by
  refine ⟨h.1, fun q => ?_⟩
  rw [h.2]
  constructor
  · rintro ⟨x, r, c, -, e, hf⟩
    exact ⟨x :: r, c, by simp, e, hf⟩
  · rintro ⟨r, c, hr, e, hf⟩
    cases r with
    | nil => exact absurd rfl hr
    | cons x r =>
      obtain ⟨e', he', -⟩ := kid_some hf
      exact ⟨x, r, c, hl x e' he', e, hf⟩
/-- What has been told, and what is told below p, are ways, each once. -/
theorem Good.all (h : Good g p ps) (hp : fnd g g.root p = .ok n) (hq : Part g p n left qs) : (ps ++ qs).Nodup ∧ ∀ q ∈ ps ++ qs, q ≠ [] ∧ ∃ c, fnd g g.root q = .ok c := by
  constructor
  · rw [List.nodup_append]
    refine ⟨h.nodup, hq.1, fun a ha b hb e => ?_⟩
    subst e
    obtain ⟨x, r, c, -, e, -⟩ := (hq.2 a).1 hb
    exact h.far a ha (x :: r) (by simp) e
  · intro q hm
    rcases List.mem_append.1 hm with hm | hm
    · exact h.ways q hm
    · obtain ⟨x, r, c, -, e, hf⟩ := (hq.2 q).1 hm
      rw [e]
      exact ⟨by simp, c, by rw [fnd_app_ok hp]; exact hf⟩
/-- Into a directory. -/
theorem Good.into (h : Good g p ps) (hp : fnd g g.root p = .ok n) (hq : Part g p n left qs) {x : Nme} {c : Nat} (hx : left x = true) (hk : kid g n x = some c) : Good g (p ++ [x]) (ps ++ (qs ++ [p ++ [x]])) := by
  obtain ⟨h1, h2⟩ := h.all hp hq
  have e1 : ∀ r, p ++ [x] ++ r = p ++ x :: r := fun r => by simp
  have hf : fnd g g.root (p ++ [x]) = .ok c := by rw [fnd_app_ok hp, fnd_step hk]; rfl
  rw [← List.append_assoc]
  refine ⟨?_, fun q hm => ?_, fun q hm r hr e => ?_⟩
  · rw [List.nodup_append]
    refine ⟨h1, by simp, fun a ha b hb e => ?_⟩
    simp only [List.mem_singleton] at hb
    rw [← e] at hb
    rw [hb] at ha
    rcases List.mem_append.1 ha with ha | ha
    · exact h.far _ ha [x] (by simp) rfl
    · obtain ⟨y, r, c', hy, e, -⟩ := (hq.2 _).1 ha
      have := List.append_cancel_left e
      injection this with this _
      rw [← this, hx] at hy
      cases hy
  · rcases List.mem_append.1 hm with hm | hm
    · exact h2 q hm
    · simp only [List.mem_singleton] at hm
      rw [hm]
      exact ⟨by simp, c, hf⟩
  · rw [e1] at e
    rcases List.mem_append.1 hm with hm | hm
    · rcases List.mem_append.1 hm with hm | hm
      · exact h.far q hm (x :: r) (by simp) e
      · obtain ⟨y, r', c', hy, e', -⟩ := (hq.2 _).1 hm
        rw [e'] at e
        have := List.append_cancel_left e
        injection this with this _
        rw [this, hx] at hy
        cases hy
    · simp only [List.mem_singleton] at hm
      rw [hm] at e
      have := List.append_cancel_left e
      injection this with _ this
      exact hr this.symm
/-- All that Walk gathers are the texts that WalkIs speaks of. -/
theorem walkIs_of (hO : OK g) {l : List (List UInt8)} (h : Below g [] g.root qs) (hl : l.Pairwise (· < ·)) (hp : l.Perm (qs.map (txtG g))) : WalkIs g l := by
  refine ⟨hl, fun s => ?_⟩
  rw [hp.mem_iff, List.mem_map]
  constructor
  · rintro ⟨q, hq, rfl⟩
    obtain ⟨r, c, hr, e, hf⟩ := (h.2 q).1 hq
    rw [List.nil_append] at e
    subst e
    exact ⟨q, c, hr, hf, txtG_ok hf⟩
  · rintro ⟨q, c, hq, hf, rfl⟩
    exact ⟨q, (h.2 q).2 ⟨q, c, hq, rfl, hf⟩, txtG_ok hf⟩
theorem told_nodup (hO : OK g) (h : Below g [] g.root qs) : (qs.map (txtG g)).Nodup := by
  refine List.pairwise_map.2 (h.1.imp_of_mem fun {p q} hp hq hne e => hne ?_)
  obtain ⟨r, c, -, e1, hf⟩ := (h.2 p).1 hp
  obtain ⟨r', c', -, e2, hf'⟩ := (h.2 q).1 hq
  rw [List.nil_append] at e1 e2
  subst e1 e2
  rw [txtG_ok hf, txtG_ok hf'] at e
  have h1 := parts_txt (fnd_names hO p _ c hf) (hO.short p c hf) (g.ent c).isSome
  have h2 := parts_txt (fnd_names hO q _ c' hf') (hO.short q c' hf') (g.ent c').isSome
  rw [show txtB p (g.ent c).isSome = txt g p c from rfl, e, show txt g q c' = txtB q (g.ent c').isSome from rfl, h2] at h1
  exact (Prod.mk.inj h1).1.symm
end
end Tr
end Go.Proofs.YtnglhfeialomgaaDoor

/- Walk: the two captured variables (the texts so far; the closure itself). -/
namespace Go.Proofs.YtnglhfeialomgaaDoor
open Go.RowKit

theorem own_ne_block {α : Type} {E : Enc α} {w : World} {B e : Nat} {v : Value} {l : List α} {b : Nat} {cur : Array Value} {t : TypeId} {fr : Nat × Nat} (h : OwnR E w B e v l) (hg : w.heap[b]? = some (.cells cur t fr)) (hne : e ≠ t) : v.ownBlock ≠ some b := by
  rcases h.2 with ⟨rfl, _⟩ | ⟨g, cap, cur', rfl, _, hg', _⟩
  · intro e; cases e
  · intro he
    have he : g = b := by simpa [Value.ownBlock] using he
    subst he
    rw [hg] at hg'
    injection hg' with hg'
    injection hg' with _ hg' _
    exact hne hg'.symm
theorem fr_grown {w w' : World} {v : Value} (hg : w.grownBy w' v.ownBlock) : Fr v.ownBlock.toList w w' := ⟨hg.os, hg.tape, hg.output, hg.size, fun k hk hn => hg.block k hk (fun e => hn (by rw [← e]; simp))⟩
structure WkJ (w0 : World) (vb fb : Nat) (l : List (List UInt8)) (w : World) : Prop where
  out : ∃ A c, w.heap[vb]? = some (.cells #[.slice A l.length c] 30 (0, 0)) ∧ OwnR strE w w0.heap.size 9 (.slice A l.length c) l
  fn : ∃ t, 9 ≠ t ∧ w.heap[fb]? = some (.cells #[.func (.func 26) #[] #[.pointer (some ⟨vb, 0, none⟩), .pointer (some ⟨fb, 0, none⟩)]] t (0, 0))
  fr : Fr [] w0 w
  vge : w0.heap.size ≤ vb
  ne : fb ≠ vb
theorem WkJ.keep {w0 w w' : World} {vb fb : Nat} {l : List (List UInt8)} (h : WkJ w0 vb fb l w) (hf : Fr [] w w') : WkJ w0 vb fb l w' := by
  obtain ⟨⟨A, c, h1, h2⟩, ⟨t, h3, h4⟩, h5, h6, h7⟩ := h
  exact ⟨⟨A, c, hf.get h1 (by simp), h2.kept hf (by simp)⟩, ⟨t, h3, hf.get h4 (by simp)⟩, h5.trans hf, h6, h7⟩
/-- A block that is no cells turns (a range's step). -/
theorem WkJ.turn {w0 w w' : World} {vb fb r : Nat} {l : List (List UInt8)} (h : WkJ w0 vb fb l w) (hf : Fr [r] w w') (hr : w0.heap.size ≤ r) (hc : ∀ o, w.heap[r]? = some o → o.isCells = false) : WkJ w0 vb fb l w' := by
  obtain ⟨⟨A, c, h1, h2⟩, ⟨t, h3, h4⟩, h5, h6, h7⟩ := h
  have hne : ∀ k cs ty fr, w.heap[k]? = some (.cells cs ty fr) → k ∉ [r] := fun k cs ty fr hk hm => by
    simp only [List.mem_singleton] at hm
    subst hm
    have := hc _ hk
    cases this
  refine ⟨⟨A, c, hf.get h1 (hne _ _ _ _ h1), h2.kept hf (fun g hg e => ?_)⟩, ⟨t, h3, hf.get h4 (hne _ _ _ _ h4)⟩, h5.step hf (fun x hx => by simp only [List.mem_singleton] at hx; subst hx; exact .inr hr), h6, h7⟩
  simp only [List.mem_singleton] at hg
  subst hg
  obtain ⟨-, h2⟩ := h2
  rcases h2 with ⟨he, _⟩ | ⟨g, cap, cur, he, hb, hcell, _⟩
  · rw [he] at e; cases e
  · rw [he] at e
    simp only [Value.ownBlock, Option.some.injEq] at e
    subst e
    have := hc _ hcell
    cases this
theorem WkJ.push {w0 w w2 : World} {vb fb : Nat} {l : List (List UInt8)} {x : List UInt8} {A : Option Addr} {c : Nat} {v' : Value} (h : WkJ w0 vb fb l w) (hb : w.heap[vb]? = some (.cells #[.slice A l.length c] 30 (0, 0))) (ho : OwnR strE w w0.heap.size 9 (.slice A l.length c) l)
    (h1 : OwnR strE w2 w0.heap.size 9 v' (l ++ [x])) (hg : w.grownBy w2 (Value.slice A l.length c).ownBlock) : (∃ A' c', v' = .slice A' (l.length + 1) c') ∧ w2.cell? ⟨vb, 0, none⟩ = some (.slice A l.length c) ∧ w2.frozen? ⟨vb, 0, none⟩ = false ∧ WkJ w0 vb fb (l ++ [x]) (w2.setCell ⟨vb, 0, none⟩ v') ∧ KeepsWalks w (w2.setCell ⟨vb, 0, none⟩ v') := by
  obtain ⟨-, ⟨t, h3, h4⟩, h5, h6, h7⟩ := h
  have hfg := fr_grown hg
  have hkw := (ho.keeps hg).walks
  have hbb : w2.heap[vb]? = some (.cells #[.slice A l.length c] 30 (0, 0)) := hfg.get hb (by
    have := own_ne_block ho hb (by decide)
    simpa using this)
  have hbf := hfg.get h4 (by
    have := own_ne_block ho h4 h3
    simpa using this)
  have hS : Fr [vb] w2 (w2.setCell ⟨vb, 0, none⟩ v') := (Fr.refl _ _).setCell (.inl (by simp)) _
  obtain ⟨A', c', hv'⟩ := h1.form0
  refine ⟨⟨A', c', by rw [hv', List.length_append]; rfl⟩, by rw [cell_of_row w2 vb 0 _ _ _ hbb]; rfl, free_block hbb 0 none, ⟨⟨A', c', ?_, ?_⟩, ⟨t, h3, hS.get hbf (by simpa using h7)⟩, ?_, h6, h7⟩, hkw.trans (KeepsOthers.setCell _ _ _).walks⟩
  · rw [← hv']; exact set_block hbb _
  · rw [← hv']
    refine h1.kept hS (fun g hg => ?_)
    simp only [List.mem_singleton] at hg
    subst hg
    exact own_ne_block h1 hbb (by decide)
  · refine (h5.grown hg (fun g hg => .inr (ho.ge g hg).1)).step hS (fun y hy => .inr ?_)
    simp only [List.mem_singleton] at hy
    subst hy
    exact h6
end Go.Proofs.YtnglhfeialomgaaDoor
