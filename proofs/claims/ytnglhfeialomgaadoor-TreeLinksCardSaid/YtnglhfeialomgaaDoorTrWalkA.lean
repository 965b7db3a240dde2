/- Walk. -/
import Derived.Test.YtnglhfeialomgaaDoorTrWalk
import Derived.Test.YtnglhfeialomgaaDoorTrSort
import Derived.Test.YtnglhfeialomgaaDoorMix
namespace Go.Proofs.YtnglhfeialomgaaDoor
open Go.RowKit

/-- What Walk hands back. -/
def WalkA (g : Tr.G) (w : World) (e : Ending) (w' : World) : Prop := ∃ v l gv, e = .returned v ∧ (w.heap.size ≤ gv ∨ l = []) ∧ SlR strE w' v gv l ∧ Tr.WalkIs g l ∧ Fr [] w w'
set_option maxRecDepth 100000 in
set_option maxHeartbeats 4000000 in
theorem tr_Walk (w : World) (tb : Nat) (g : Tr.G) (dom : Nat → Prop) (K : Nat) (hS : TrS w tb g dom K) (hcn : Tr.Cn g) :
    Calls Tryd.prog 11 #[.pointer (some ⟨tb, 0, none⟩)] w (WalkA g w) := by
  have HS := Lib.hid hS
  have HCN := Lib.hid hcn
  have hgood : Tr.Good g [] [] := ⟨List.nodup_nil, by simp, by simp⟩
  have HE := Lib.hid (fun W hJ => tr_walk1 w tb g dom K hS hcn w.heap.size (w.heap.size + 1) 8 [] g.root [] W rfl hS.ok.root (by decide) hgood hJ)
  have HST := Lib.hid (wkJ_start w)
  have HB24 : Hid (∀ qs, Tr.Below g [] g.root qs → (qs.map (Tr.txtG g)).length ≤ 100000) := fun qs hq => by
    rw [List.length_map]
    have := hcn.bound hq.1 (fun p hp => by
      obtain ⟨r, c, hr, e, hf⟩ := (hq.2 p).1 hp
      rw [List.nil_append] at e
      subst e
      exact ⟨hr, c, hf⟩)
    have := hS.many
    omega
  clear hS hcn hgood
  go_enter Tryd.func11, Tryd.ntmps11
  go_wp2_with fail
  have hcf := wkJ_box w .nilFunc 52
  obtain ⟨hc1, hc2⟩ := hcf
  have HJ0 := Lib.hid (HST.out 52 (by decide))
  go_wp2_with fail
  generalize hW : (w.alloc (.cells #[.slice none 0 0] 30)).alloc (.cells #[.func (.func 26) #[] #[.pointer (some ⟨w.heap.size, 0, none⟩), .pointer (some ⟨w.heap.size + 1, 0, none⟩)]] 52) = w1 at *
  clear hW hc1 hc2 HST
  obtain ⟨tf, -, hfb⟩ := HJ0.out.fn
  have fc : w1.cell? ⟨w.heap.size + 1, 0, none⟩ = some (.func (.func 26) #[] #[.pointer (some ⟨w.heap.size, 0, none⟩), .pointer (some ⟨w.heap.size + 1, 0, none⟩)]) := by rw [cell_of_row w1 _ 0 _ _ _ hfb]; rfl
  have rc : w1.cell? ⟨tb, 0, none⟩ = some (.pointer (some ⟨g.root, 0, none⟩)) := by rw [cell_of_row _ _ _ _ _ _ (HS.out.step HJ0.out.fr).top]; rfl
  have HCC := Lib.hid (HE.out w1.drew (HJ0.out.keep (Fr.refl [] w1).drew))
  rw [Tr.atT_nil, show Pa.mk [47] = (⟨#[47]⟩ : ByteArray) from rfl] at HCC
  clear hfb
  (refine wp_region_mixq 5 [(true, 0), (true, 1), (true, 2), (true, 3), (true, 4)] (by kernel_rfl) (by kernel_rfl) ?_; simp only [pickOps, List.map_cons, List.map_nil, List.getD_cons_zero, List.getD_cons_succ, List.drop_succ_cons, List.drop_zero]; (iterate 5 (first | (refine wpMix_take (v := ?_) (by rfl) ?_ ?_; rotate_left; (focus (intro W hW; subst hW; go_simp; (try with_reducible rfl); done)); try simp only [Act.put, List.setIfInBounds_toArray, List.set_cons_zero, List.set_cons_succ]) | (refine wpMix_leave (by rfl) ?_; try simp only [Act.put, List.setIfInBounds_toArray, List.set_cons_zero, List.set_cons_succ]))); refine wpMix_nil ?_)
  go_wp2_with (first
    | (go_at_call 26; (with_reducible refine useC HCC.out ?_); rintro e w2 ⟨rfl, -, qs, hq, hj⟩; rw [List.nil_append] at hj; have hl24 : (qs.map (Tr.txtG g)).length ≤ 100000 := HB24.out qs hq; obtain ⟨L, hL⟩ : ∃ L, qs.map (Tr.txtG g) = L := ⟨_, rfl⟩; rw [hL] at hj hl24; have HL := Lib.hid hL; have HQ := Lib.hid hq; obtain ⟨A, c, hb, ho⟩ := hj.out; have vc : w2.cell? ⟨w.heap.size, 0, none⟩ = some (.slice A L.length c) := (by rw [cell_of_row w2 _ 0 _ _ _ hb]; rfl); have HO := Lib.hid ho; have HB := Lib.hid hb; have HF := Lib.hid hj.fr; have HSO := Lib.hid (sort_strs w2 _ _ _ ho hl24); clear hj hb ho hL hq hl24)
    | (go_at_call 27; (with_reducible refine useC HSO.out ?_); rintro e w3 ⟨rfl, ⟨gv, hg, hsl⟩, hf⟩; have hne := own_ne_block HO.out HB.out (by decide); have hb3 := hf.get HB.out (by simpa using hne); have vc3 := cell_of_row w3 w.heap.size 0 _ _ _ hb3; have HSL := Lib.hid (And.intro hg hsl); have HF3 := Lib.hid hf; clear hf hb3 hne hg hsl))
  go_ret
  refine ⟨_, srtS L, gv, rfl, ?_, HSL.out.2, ?_, HF.out.step HF3.out (fun x hx => .inr (HO.out.ge x (by simpa using hx)).1)⟩
  · rcases HSL.out.1 with h | h
    · exact .inl h
    · exact .inr (by rw [h]; simp [srtS])
  · refine Tr.walkIs_of HS.out.ok HQ.out (srtS_lt ?_) ?_
    · rw [← HL.out]; exact Tr.told_nodup HS.out.ok HQ.out
    · rw [HL.out]; exact srtS_perm L
end Go.Proofs.YtnglhfeialomgaaDoor
