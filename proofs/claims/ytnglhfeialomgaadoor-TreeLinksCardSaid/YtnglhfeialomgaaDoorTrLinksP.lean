/- One more name, and one less; in plain Lean. -/
import Derived.Test.YtnglhfeialomgaaDoorTrFactP
import Derived.Test.YtnglhfeialomgaaDoorTrLaw
namespace Go.Proofs.YtnglhfeialomgaaDoor
namespace Tr

theorem atV_path {g : G} {s : List UInt8} {n : Nat} (h : atV g s = .ok n) : ∃ p, Pa.parts s = (p, 0) ∧ fnd g g.root p = .ok n := by
  unfold atV at h
  split at h
  · rename_i h0
    exact ⟨(Pa.parts s).1, by rw [← h0], h⟩
  · cases h
theorem atV_of {g : G} {s : List UInt8} {p : List Nme} {n : Nat} (hp : Pa.parts s = (p, 0)) (hf : fnd g g.root p = .ok n) : atV g s = .ok n := by
  unfold atV
  rw [hp, if_pos rfl]
  exact hf
theorem namesV_file {g : G} {s : List UInt8} {n : Nat} (h : atV g s = .ok n) (he : g.ent n = none) : namesV g s = .tuple #[.int .i64 (g.nms n), .nilIface] := by
  unfold namesV
  rw [h]
  show Value.tuple #[.int .i64 (if (g.ent n).isSome = true then 0 else g.nms n), .nilIface] = _
  rw [he]; rfl
structure LinkP (g : G) (st tt : List UInt8) (n d : Nat) (x : Nme) : Prop where
  n1 : namesV (addG g d x n) st = .tuple #[.int .i64 (g.nms n + 1), .nilIface]
  n2 : namesV (addG g d x n) tt = .tuple #[.int .i64 (g.nms n + 1), .nilIface]
  sp : spot (addG g d x n) tt = .at_ d x
  kd : kid (addG g d x n) d x = some n
  lf : Leaf (addG g d x n) n
  de : dropErr (addG g d x n) tt = 0
  n3 : namesV (dropG (addG g d x n) d x n) st = .tuple #[.int .i64 (g.nms n), .nilIface]
theorem linkP {g : G} {st tt : List UInt8} {n d : Nat} {x : Nme} (hO : OK g) (hO1 : OK (addG g d x n)) (ha : atV g st = .ok n) (he : g.ent n = none) (h0 : addErr g tt = 0) (hs : spot g tt = .at_ d x) : LinkP g st tt n d x := by
  obtain ⟨p, hp, hf⟩ := atV_path ha
  obtain ⟨P, hpt, hfd, hds⟩ := spot_at hs
  have hk := addErr_kid h0 hs
  have hne : n ≠ d := fun e => by rw [← e, he] at hds; cases hds
  have hfar : ¬ ∃ r, p = P ++ x :: r := fun ⟨r, e⟩ => by rw [e] at hf; exact free_none hfd hk r n hf
  have e1 : (addG g d x n).ent n = none := by rw [addG_ent, setE_ne hne]; exact he
  have f1 : fnd (addG g d x n) (addG g d x n).root p = .ok n := (added_far hO hfd hds hfar).trans hf
  have f2 : fnd (addG g d x n) (addG g d x n).root (P ++ [x]) = .ok n := added_fnd (x := x) hO hfd hds []
  have f3 : fnd (addG g d x n) (addG g d x n).root P = .ok d := (added_far hO hfd hds (fun ⟨r, e⟩ => by have := congrArg List.length e; simp at this)).trans hfd
  have hds1 : ((addG g d x n).ent d).isSome = true := by rw [addG_some]; exact hds
  have kd : kid (addG g d x n) d x = some n := by rw [added_kid hds, if_pos ⟨rfl, rfl⟩]
  have lf : Leaf (addG g d x n) n := fun y => by unfold kid; rw [e1]; rfl
  have sp : spot (addG g d x n) tt = .at_ d x := spot_of hpt f3 hds1
  have nm : (addG g d x n).nms n = g.nms n + 1 := if_pos rfl
  refine ⟨by rw [namesV_file (atV_of hp f1) e1, nm], by rw [namesV_file (atV_of hpt f2) e1, nm], sp, kd, lf, ((dropErr_at sp).2 n kd).1 lf, ?_⟩
  have e2 : (dropG (addG g d x n) d x n).ent n = none := (setE_ne hne x none).trans e1
  have f4 : fnd (dropG (addG g d x n) d x n) (dropG (addG g d x n) d x n).root p = .ok n := by
    have hc := fnd_congr (g := setE (addG g d x n) d x none) (g' := dropG (addG g d x n) d x n) (fun b => rfl)
    rw [hc]
    exact (fnd_set_far (hO1.way f3 hds1) x none hfar).trans f1
  have nm2 : (dropG (addG g d x n) d x n).nms n = g.nms n := by
    show (if n = n then (addG g d x n).nms n - 1 else _) = _
    rw [if_pos rfl, nm]; omega
  rw [namesV_file (atV_of hp f4) e2, nm2]
end Tr
end Go.Proofs.YtnglhfeialomgaaDoor
