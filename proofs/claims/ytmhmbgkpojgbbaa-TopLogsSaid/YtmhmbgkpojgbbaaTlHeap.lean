/- Three disks in memory, apart. -/
import Derived.Test.YtmhmbgkpojgbbaaTlPlain
import Derived.Test.YtmhmbgkpojgbbaaWlSt
import Derived.Test.YtmhmbgkpojgbbaaUnSt
import Derived.Test.YtmhmbgkpojgbbaaWlHome
import Derived.Test.YtmhmbgkpojgbbaaUnUndo
import Derived.Test.YtmhmbgkpojgbbaaShLaw0
import Derived.Test.YtmhmbgkpojgbbaaCInts
namespace Go.Proofs.Ytmhmbgkpojgbbaa
open Go.RowKit

structure Tl3 (w wr : World) (P Q : Nat → Prop) (ba bb bc : Nat) (a : Wl.D) (b : Un.D) (c : Sh.D) : Prop where
  a : WlS w wr P ba a
  b : UnS w wr Q bb b
  c : ShD wr bc c
  cw : w.heap.size ≤ bc
  pc : ¬ P bc
  qc : ¬ Q bc
  pq : ∀ k, P k → ¬ Q k
section
variable {w wr w' : World} {P Q : Nat → Prop} {ba bb bc : Nat} {a a' : Wl.D} {b b' : Un.D} {c c' : Sh.D}
theorem Fr.toP {n : Nat} (hf : Fr [n] wr w') : FrP (· = n) wr w' := (FrP.refl _ wr).step hf (fun x hx => .inl (by simpa using hx))
theorem Tl3.step (h : Tl3 w wr P Q ba bb bc a b c) (hf : Fr [] wr w') : Tl3 w w' P Q ba bb bc a b c := ⟨h.a.step hf, h.b.step hf, hf.get h.c (by simp), h.cw, h.pc, h.qc, h.pq⟩
theorem WlS.other (h : WlS w wr P ba a) {X : Nat → Prop} (hf : FrP X wr w') (hd : ∀ k, P k → ¬ X k) (h0 : Fr [] w w') : WlS w w' P ba a :=
  ⟨h.file.frP hf hd, fun k hk => ⟨(h.hP k hk).1, Nat.lt_of_lt_of_le (h.hP k hk).2 hf.size⟩, h0⟩
theorem Tl3.turnA (h : Tl3 w wr P Q ba bb bc a b c) {v : Value} {e : Ending} (ha : WlAns P ba v a' wr e w') : e = .returned v ∧ FrP P wr w' ∧ ∃ P', Tl3 w w' P' Q ba bb bc a' b c := by
  obtain ⟨h1, h2, h3⟩ := h.a.turn ha
  have hl := lt_of_heap h.c
  exact ⟨h1, h3, _, h2, h.b.other h3 (fun k hk hp => h.pq k hp hk) h2.fr, (h3.block bc hl h.pc).trans h.c, h.cw, fun hk => hk.1.elim h.pc (fun hs => by omega), h.qc, fun k hk hq => hk.1.elim (fun hp => h.pq k hp hq) (fun hs => by have := (h.b.hP k hq).2; omega)⟩
theorem Tl3.turnB (h : Tl3 w wr P Q ba bb bc a b c) {v : Value} {e : Ending} (ha : UnAns Q bb v b' wr e w') : e = .returned v ∧ FrP Q wr w' ∧ ∃ Q', Tl3 w w' P Q' ba bb bc a b' c := by
  obtain ⟨h1, h2, h3⟩ := h.b.turn ha
  have hl := lt_of_heap h.c
  exact ⟨h1, h3, _, h.a.other h3 h.pq h2.fr, h2, (h3.block bc hl h.qc).trans h.c, h.cw, h.pc, fun hk => hk.1.elim h.qc (fun hs => by omega), fun k hp hk => hk.1.elim (fun hq => h.pq k hp hq) (fun hs => by have := (h.a.hP k hp).2; omega)⟩
theorem Tl3.turnC (h : Tl3 w wr P Q ba bb bc a b c) {v : Value} {e : Ending} (ha : ShPost v bc c' wr e w') : e = .returned v ∧ Fr [bc] wr w' ∧ Tl3 w w' P Q ba bb bc a b c' := by
  obtain ⟨h1, h2, h3⟩ := ha
  have h0 : Fr [] w w' := h.a.fr.step h3 (fun x hx => .inr (by simp only [List.mem_singleton] at hx; subst hx; exact h.cw))
  exact ⟨h1, h3, h.a.other h3.toP (fun k hk e => h.pc (e ▸ hk)) h0, h.b.other h3.toP (fun k hk e => h.qc (e ▸ hk)) h0, h2, h.cw, h.pc, h.qc, h.pq⟩
theorem Tl3.fr (h : Tl3 w wr P Q ba bb bc a b c) : Fr [] w wr := h.a.fr
end
/-- Between two turns. -/
def TlT (w wr : World) (ba bb bc t : Nat) : Prop := ∃ P Q a b c V, Tl3 w wr P Q ba bb bc a b c ∧ Tl.S t a b c V
/-- Within a turn. -/
def TlW (w wr : World) (ba bb bc t i : Nat) : Prop := ∃ P Q a b c V U, Tl3 w wr P Q ba bb bc a b c ∧ Tl.I t i a b c V U
theorem TlW.step {w wr w' : World} {ba bb bc t i : Nat} (h : TlW w wr ba bb bc t i) (hf : Fr [] wr w') : TlW w w' ba bb bc t i := by
  obtain ⟨P, Q, a, b, c, V, U, h1, h2⟩ := h
  exact ⟨P, Q, a, b, c, V, U, h1.step hf, h2⟩
theorem TlW.fr {w wr : World} {ba bb bc t i : Nat} (h : TlW w wr ba bb bc t i) : Fr [] w wr := by
  obtain ⟨P, Q, a, b, c, V, U, h1, h2⟩ := h
  exact h1.fr
end Go.Proofs.Ytmhmbgkpojgbbaa
