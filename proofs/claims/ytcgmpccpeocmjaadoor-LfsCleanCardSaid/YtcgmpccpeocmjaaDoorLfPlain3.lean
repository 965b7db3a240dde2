/- The plain model of a log of segments (3): how many blocks live. No program in sight. -/
import Derived.Test.YtcgmpccpeocmjaaDoorLfPlain2
namespace Go.Proofs.YtcgmpccpeocmjaaDoor.Lf

def is (d : D) (p : Nat) : Bool := (pg d p).2.2
theorem put_is {d : D} {b : Blk} (hn : d.pages.length = 8) (hb : b.1.toNat < 8) (p : Nat) : is (put d b) p = (decide (b.1.toNat = p) || is d p) ∧ (put d b).pages.length = 8 := by
  refine ⟨?_, by simp [put, down, at_, hn]⟩
  unfold is put
  rw [down_pg (by show _ < d.pages.length; omega)]
  by_cases e : b.1.toNat = p
  · rw [if_pos e]; simp [e]
  · rw [if_neg e]; simp [e]; rfl
theorem fold_is : ∀ (l : List Blk) (d : D), d.pages.length = 8 → (∀ b ∈ l, b.1.toNat < 8) → (∀ b ∈ l, is d b.1.toNat = true) → ∀ p, is (l.foldl put d) p = is d p
  | [], _, _, _, _, _ => rfl
  | b :: l, d, hn, hb, hi, p => by
    have h1 := fun q => put_is hn (hb b (by simp)) q
    rw [List.foldl_cons, fold_is l (put d b) (h1 0).2 (fun c hc => hb c (by simp [hc])) (fun c hc => by rw [(h1 _).1, hi c (by simp [hc])]; simp) p, (h1 p).1]
    by_cases e : b.1.toNat = p
    · subst e; rw [hi b (by simp)]; simp
    · simp [e]
theorem clean_is {d : D} (h : OK d) (p : Nat) : is (clean d).1 p = is d p := by
  unfold clean
  cases hb : bestTo d 6 with
  | none => rfl
  | some s =>
    obtain ⟨hs, _, _⟩ := bestTo_lt d 6 s hb
    simp only
    split
    · rfl
    · refine (fold_is (live d s) { d with segs := d.segs.set s [] } h.np (fun b hb => ?_) (fun b hb => ?_) p).trans rfl
      · obtain ⟨j, h1, _⟩ := (mem_live d s b).1 hb
        have := h.blk s hs b (List.mem_of_getElem? h1)
        omega
      · obtain ⟨j, _, h2⟩ := (mem_live d s b).1 hb
        show (pg d b.1.toNat).2.2 = true
        rw [h2]
theorem write_is {d : D} (h : OK d) (p v : Int) (q : Nat) : is (write d p v).1 q = (decide ((write d p v).2 = 0 ∧ p.toNat = q) || is d q) := by
  unfold write
  by_cases ho : okP p v
  · simp only [if_pos ho]
    cases hr : roomAt d with
    | none => simp
    | some k =>
      have hp := ho.1
      simp only
      rw [(put_is h.np (by show p.toNat < 8; omega) q).1]
      simp
  · simp only [if_neg ho]; simp

def livePages (d : D) (s : Nat) : List Nat := (live d s).map fun b => b.1.toNat
def allPages (d : D) (n : Nat) : List Nat := (List.range n).flatMap (livePages d)
theorem liveFrom_nodup (d : D) (s : Nat) : ∀ (l : List Blk) (a : Nat), ((liveFrom d s l a).map fun b => b.1.toNat).Nodup
  | [], _ => by simp [liveFrom]
  | c :: l, a => by
    have ih := liveFrom_nodup d s l (a + 1)
    unfold liveFrom
    split
    · rename_i hc
      rw [List.map_cons, List.nodup_cons]
      refine ⟨fun hm => ?_, ih⟩
      obtain ⟨b, hb, e⟩ := List.mem_map.1 hm
      obtain ⟨j, _, h2⟩ := (mem_liveFrom d s b l (a + 1)).1 hb
      unfold isLive at hc h2
      rw [e] at h2
      have h1 := (of_decide_eq_true hc).symm.trans (of_decide_eq_true h2)
      simp only [Prod.mk.injEq] at h1
      omega
    · exact ih
theorem mem_livePages {d : D} (h : OK d) {s p : Nat} (hs : s < 6) : p ∈ livePages d s ↔ p < 8 ∧ is d p = true ∧ (pg d p).1 = (s : Int) := by
  unfold livePages
  rw [List.mem_map]
  constructor
  · rintro ⟨b, hb, rfl⟩
    obtain ⟨j, h1, h2⟩ := (mem_live d s b).1 hb
    have := h.blk s hs b (List.mem_of_getElem? h1)
    exact ⟨by omega, by unfold is; rw [h2], by rw [h2]⟩
  · rintro ⟨hp, hi, h1⟩
    obtain ⟨s', a, _, h2, h3, v, h4⟩ := h.pgs p hp hi
    have e : s' = s := by omega
    subst e
    refine ⟨((p : Int), v), (mem_live d s' _).2 ⟨a, h4, ?_⟩, by simp⟩
    show pg d (p : Int).toNat = _
    rw [Int.toNat_natCast]
    apply Prod.ext
    · exact h2
    · exact Prod.ext h3 hi
theorem allPages_succ (d : D) (n : Nat) : allPages d (n + 1) = allPages d n ++ livePages d n := by
  simp [allPages, List.range_succ, List.flatMap_append]
theorem allPages_nodup {d : D} (h : OK d) : ∀ n, n ≤ 6 → (allPages d n).Nodup
  | 0, _ => by simp [allPages]
  | n + 1, hn => by
    rw [allPages_succ, List.nodup_append]
    refine ⟨allPages_nodup h n (by omega), liveFrom_nodup d n _ 0, fun a ha b hb e => ?_⟩
    subst e
    obtain ⟨s, hs, hm⟩ := List.mem_flatMap.1 ha
    have hs' := List.mem_range.1 hs
    have h1 := (mem_livePages h (by omega)).1 hm
    have h2 := (mem_livePages h (by omega)).1 hb
    have := h1.2.2.symm.trans h2.2.2
    omega
theorem allPages_len {d : D} (h : OK d) : (allPages d 6).length = ((List.range 8).filter (is d)).length := by
  refine List.Perm.length_eq ((List.perm_ext_iff_of_nodup (allPages_nodup h 6 (Nat.le_refl _)) (List.nodup_range.filter _)).2 fun p => ?_)
  rw [List.mem_filter, List.mem_range]
  constructor
  · intro hm
    obtain ⟨s, hs, hm⟩ := List.mem_flatMap.1 hm
    have := (mem_livePages h (List.mem_range.1 hs)).1 hm
    exact ⟨this.1, this.2.1⟩
  · rintro ⟨hp, hi⟩
    obtain ⟨s, a, hs, h2, _⟩ := h.pgs p hp hi
    exact List.mem_flatMap.2 ⟨s, List.mem_range.2 hs, (mem_livePages h hs).2 ⟨hp, hi, h2⟩⟩
/-- How many blocks of the first n segments live. -/
def cnt (d : D) (n : Nat) : Nat := (allPages d n).length
theorem cnt_succ (d : D) (n : Nat) : cnt d (n + 1) = cnt d n + (live d n).length := by
  unfold cnt; rw [allPages_succ, List.length_append]; simp [livePages]
theorem cnt_le {d : D} (h : OK d) : ∀ n, n ≤ 6 → cnt d n ≤ n * 4
  | 0, _ => by simp [cnt, allPages]
  | n + 1, hn => by
    have h1 := cnt_le h n (by omega)
    have h2 := live_le d n
    have h3 := h.small n (by omega)
    rw [cnt_succ]; omega
end Go.Proofs.YtcgmpccpeocmjaaDoor.Lf
