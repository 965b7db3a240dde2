/- Trees of directories: a node that is made, in plain Lean. -/
import Derived.Test.YtnglhfeialomgaaDoorTrOps
namespace Go.Proofs.YtnglhfeialomgaaDoor
namespace Tr

/-- A node that nothing leads to: a directory (with its map's block), or a file. -/
def newN (g : G) (c : Nat) (o : Option Nat) : G := { g with ent := fun b => if b = c then o.map (fun _ _ => none) else g.ent b, mb := fun b => if b = c then o.getD 0 else g.mb b, nms := fun b => if b = c then 0 else g.nms b }
section
variable {g : G} {c b : Nat} {o : Option Nat} {dom : Nat → Prop}
theorem newN_ne (h : b ≠ c) : (newN g c o).ent b = g.ent b := if_neg h
theorem newN_at : (newN g c o).ent c = o.map (fun _ _ => none) := if_pos rfl
theorem newN_leaf : Leaf (newN g c o) c := fun x => by
  unfold kid
  rw [newN_at]
  cases o <;> rfl
theorem kid_newN (h : b ≠ c) (x : Nme) : kid (newN g c o) b x = kid g b x := by unfold kid; rw [newN_ne h]
/-- What can be found from a node of dom is of dom. -/
theorem fnd_dom (hcl : ∀ d x e, dom d → kid g d x = some e → dom e) : ∀ (p : List Nme) (n b : Nat), dom n → fnd g n p = .ok b → dom b
  | [], n, b, hn, hf => by injection hf with hf; rw [← hf]; exact hn
  | x :: r, n, b, hn, hf => by
    obtain ⟨d, m, e, hd, hm, hx, hr⟩ := fnd_front (p := []) hf
    injection hd with hd
    subst hd
    exact fnd_dom hcl r e b (hcl _ x e hn (by rw [kid_of hm]; exact hx)) hr
theorem fnd_newN (hcl : ∀ d x e, dom d → kid g d x = some e → dom e) (hc : ¬ dom c) : ∀ (p : List Nme) (n : Nat), dom n → fnd (newN g c o) n p = fnd g n p
  | [], n, _ => rfl
  | x :: r, n, hn => by
    have hne : n ≠ c := fun e => hc (e ▸ hn)
    rw [fnd_cons, fnd_cons, newN_ne hne]
    cases hm : g.ent n with
    | none => rfl
    | some m =>
      show (match m x with | none => Rs.err 5 | some e => fnd (newN g c o) e r) = match m x with | none => Rs.err 5 | some e => fnd g e r
      cases hx : m x with
      | none => rfl
      | some e => exact fnd_newN hcl hc r e (hcl n x e hn (by rw [kid_of hm]; exact hx))
theorem OK.newN (h : OK g) (hr : dom g.root) (hcl : ∀ d x e, dom d → kid g d x = some e → dom e) (hc : ¬ dom c) : OK (newN g c o) := by
  have hf := fun p => fnd_newN (o := o) hcl hc p g.root hr
  have hroot : (Tr.newN g c o).root = g.root := rfl
  have hne : ∀ b, dom b → b ≠ c := fun b hb e => hc (e ▸ hb)
  refine ⟨by rw [hroot, newN_ne (hne _ hr)]; exact h.root, fun p b hb => ?_, fun p q b hb hq hs => ?_, fun d m x e hd hx => ?_⟩
  · rw [hroot, hf] at hb; exact h.short p b hb
  · rw [hroot, hf] at hb hq
    rw [newN_ne (hne b (fnd_dom hcl p g.root b hr hb))] at hs
    exact h.one p q b hb hq hs
  · by_cases e1 : d = c
    · subst e1
      rw [newN_at] at hd
      cases o with
      | none => cases hd
      | some k =>
        have hd := Option.some.inj hd
        subst hd
        cases hx
    · rw [newN_ne e1] at hd
      exact h.name d m x e hd hx
theorem spot_newN (hr : dom g.root) (hcl : ∀ d x e, dom d → kid g d x = some e → dom e) (hc : ¬ dom c) (s : List UInt8) : spot (newN g c o) s = spot g s := by
  have hf := fun p => fnd_newN (o := o) hcl hc p g.root hr
  have hroot : (Tr.newN g c o).root = g.root := rfl
  unfold spot spotL
  rw [hroot, hf]
  cases hq : fnd g g.root (Pa.parts s).1.dropLast with
  | err e => rfl
  | ok d =>
    have hne : d ≠ c := fun e => hc (e ▸ fnd_dom hcl _ g.root d hr hq)
    show (if _ then (if _ then _ else if ((Tr.newN g c o).ent d).isSome = true then Sp.at_ d _ else Sp.err 3) else _) = _
    rw [newN_ne hne]
theorem fresh_newN (hr : dom g.root) (hcl : ∀ d x e, dom d → kid g d x = some e → dom e) (hc : ¬ dom c) (p : List Nme) : fnd (newN g c o) (newN g c o).root p ≠ .ok c := fun h => by
  have hroot : (Tr.newN g c o).root = g.root := rfl
  rw [hroot, fnd_newN hcl hc p g.root hr] at h
  exact hc (fnd_dom hcl p g.root c hr h)
/-- Nothing that is told turns. -/
theorem newN_same (hr : dom g.root) (hcl : ∀ d x e, dom d → kid g d x = some e → dom e) (hc : ¬ dom c) (p : List Nme) : fnd (newN g c o) (newN g c o).root p = fnd g g.root p := fnd_newN hcl hc p g.root hr
end
end Tr
end Go.Proofs.YtnglhfeialomgaaDoor
