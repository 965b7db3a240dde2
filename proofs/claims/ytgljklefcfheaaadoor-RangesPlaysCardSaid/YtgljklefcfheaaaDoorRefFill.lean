/- The contracts of the reference's Locks: Fill, NewLocks. -/
import Derived.Test.YtgljklefcfheaaaDoorRaWalk
import Derived.Test.YtgljklefcfheaaaDoorRaPlain2
import Derived.Test.YtgljklefcfheaaaDoorR2In
import Derived.Test.YtgljklefcfheaaaDoorCSet
import Derived.Test.YtgljklefcfheaaaDoorMkInts0
namespace Go.Proofs.YtgljklefcfheaaaDoor
open Go.RowKit

/-- A variable of the reference's type: one row. -/
def RkX (w : World) (X : Nat) (v : Value) : Prop := w.heap[X]? = some (.cells #[v] 47 (0, 0))
theorem RkX.cell {w : World} {X : Nat} {v : Value} (h : RkX w X v) : w.cell? ⟨X, 0, none⟩ = some v := by rw [cell_of_row w X _ _ _ _ h]; rfl
theorem RkX.load {w : World} {X : Nat} {v : Value} (h : RkX w X v) : (loadVar 47 ⟨X, 0, none⟩).run Tryd.prog w = .ok (.agg #[v]) w := by
  have := run_load_part (P := Tryd.prog) w X 0 1 _ 47 _ _ _ h Tryd.underlying47 rfl (by kernel_rfl) (by simp)
  simpa using this
/-- A value of the reference's type, and what it says; its row lies in a block of G. -/
def RkV (G : Nat → Prop) (w : World) (v : Value) (T : List Int) : Prop := ∃ g, G g ∧ Sl w v g T
/-- In a call of Fill that began at w. -/
structure RfW (G : Nat → Prop) (w wr : World) (X X1 X2 : Nat) (o f n : Int) (a : Bool) (v : Value) (T : List Int) : Prop where
  box : RkX wr X v
  lk : LkB wr X1 o f n a
  out : RkX wr X2 (.slice none 0 0)
  row : RkV (fun g => G g ∧ g ≠ X ∧ g ≠ X2) wr v T
  fr : Fr [] w wr
  hG : ∀ k, w.heap.size ≤ k → G k
  ge : w.heap.size ≤ X ∧ w.heap.size ≤ X2
  ne : X ≠ X1 ∧ X ≠ X2
section
variable {G : Nat → Prop} {w wr w' : World} {X X1 X2 : Nat} {o f n : Int} {a : Bool} {v : Value} {T xs : List Int}
theorem RfW.step (h : RfW G w wr X X1 X2 o f n a v T) (hf : Fr [] wr w') : RfW G w w' X X1 X2 o f n a v T := by
  obtain ⟨g, ng, hg⟩ := h.row
  exact ⟨hf.get h.box (by simp), hf.get h.lk (by simp), hf.get h.out (by simp), ⟨g, ng, hg.fr hf (by simp)⟩, h.fr.trans hf, h.hG, h.ge, h.ne⟩
theorem RfW.put (h : RfW G w wr X X1 X2 o f n a v T) {e : Ending} (hn : NewRow xs wr e w') (hx : xs ≠ []) : ∃ A c, e = .returned (.slice A xs.length c) ∧ RfW G w w' X X1 X2 o f n a v T ∧ RfW G w (w'.setCell ⟨X, 0, none⟩ (.slice A xs.length c)) X X1 X2 o f n a (.slice A xs.length c) xs := by
  obtain ⟨v', g, rfl, hg, hs, hf⟩ := hn
  obtain ⟨A, o', c, rfl, -, -, -⟩ := hs.form
  have s := h.step hf
  have l1 := lt_of_heap h.box
  have l2 := lt_of_heap h.out
  have hg := hg.resolve_right hx
  have hz := h.fr.size
  have hX : Fr [X] w' (w'.setCell ⟨X, 0, none⟩ (.slice A xs.length c)) := (Fr.refl _ w').setCell (.inl (by simp)) _
  exact ⟨A, c, rfl, s, set_block s.box _, hX.get s.lk (by simpa using h.ne.1.symm), hX.get s.out (by simpa using h.ne.2.symm), ⟨g, ⟨h.hG g (by omega), by omega, by omega⟩, hs.fr hX (by simp; omega)⟩, s.fr.step hX (fun y hy => .inr (by simp only [List.mem_singleton] at hy; subst hy; exact h.ge.1)), h.hG, h.ge, h.ne⟩
theorem RfW.fin (h : RfW G w wr X X1 X2 o f n a v T) : RkX (wr.setCell ⟨X2, 0, none⟩ v) X2 v ∧ RkV G (wr.setCell ⟨X2, 0, none⟩ v) v T ∧ Fr [] w (wr.setCell ⟨X2, 0, none⟩ v) := by
  obtain ⟨g, ng, hg⟩ := h.row
  have hf : Fr [X2] wr (wr.setCell ⟨X2, 0, none⟩ v) := (Fr.refl _ wr).setCell (.inl (by simp)) _
  exact ⟨set_block h.out v, ⟨g, ng.1, hg.fr hf (by simpa using ng.2.2)⟩, h.fr.step hf (fun y hy => .inr (by simp only [List.mem_singleton] at hy; subst hy; exact h.ge.2))⟩
end
/-- What Fill hands back. -/
def RfAns (G : Nat → Prop) (T : List Int) (w : World) (e : Ending) (w' : World) : Prop := ∃ A c, e = .returned (.agg #[.slice A 256 c]) ∧ RkV G w' (.slice A 256 c) T ∧ Fr [] w w'
set_option maxRecDepth 100000 in
set_option maxHeartbeats 1000000 in
theorem ref_Fill (w : World) (G : Nat → Prop) (v : Value) (T : List Int) (o f n : Int) (a : Bool) (s : Int) (hV : RkV G w v T) (hl : T.length = 256) (hok : Ra.okL o f n) (hG : ∀ k, w.heap.size ≤ k → G k) :
    Calls Tryd.prog 25 #[.agg #[v], .agg #[.int .i64 o, .int .i64 f, .int .i64 n, .bool a], .int .i64 s] w (RfAns G (Ra.fillTo T o.toNat f.toNat s n.toNat) w) := by
  obtain ⟨g, hg, hs⟩ := hV
  have hgl : g < w.heap.size := by
    obtain ⟨A, o', c, rfl, -, -, hc⟩ := hs.form
    exact block_lt_of_cell (hc 0 (by omega))
  obtain ⟨A, o', c, rfl, -, -, -⟩ := hs.form
  rw [hl] at hs ⊢
  obtain ⟨hsz, fA, y0, y1, y2⟩ := three_allocs w (.cells #[.slice A 256 c] 47) (.cells #[.int .i64 o, .int .i64 f, .int .i64 n, .bool a] 29) (.cells #[.slice none 0 0] 47)
  go_enter Tryd.func25, Tryd.ntmps25
  go_wp2_with fail
  generalize hW : (((w.alloc (.cells #[.slice A 256 c] 47)).alloc (.cells #[.int .i64 o, .int .i64 f, .int .i64 n, .bool a] 29)).alloc (.cells #[.slice none 0 0] 47)) = W0 at *
  clear hW
  obtain ⟨X, hX⟩ : ∃ X, X = w.heap.size := ⟨_, rfl⟩
  rw [← hX] at hsz y0 y1 y2 ⊢
  obtain ⟨X1, hX1⟩ : ∃ X1, X1 = X + 1 := ⟨_, rfl⟩
  rw [← hX1] at y1 y2 ⊢
  obtain ⟨X2, hX2⟩ : ∃ X2, X2 = X1 + 1 := ⟨_, rfl⟩
  rw [← hX2] at y2 ⊢
  have HU0 : Hid (RfW G w W0 X X1 X2 o f n a (.slice A 256 c) T) := ⟨y0, y1, y2, ⟨g, ⟨hg, by omega, by omega⟩, hs.fr fA (by simp)⟩, fA, hG, ⟨by omega, by omega⟩, ⟨by omega, by omega⟩⟩
  clear hX hX1 hX2 hsz y0 y1 y2 fA hs hg hG hgl
  obtain ⟨h1, h2, h3⟩ := hok
  obtain ⟨on, rfl⟩ : ∃ k : Nat, o = k := ⟨o.toNat, by omega⟩
  obtain ⟨fn, rfl⟩ : ∃ k : Nat, f = k := ⟨f.toNat, by omega⟩
  obtain ⟨nn, rfl⟩ : ∃ k : Nat, n = k := ⟨n.toNat, by omega⟩
  simp only [Int.toNat_natCast]
  have ho4 : on < 4 := by omega
  have hfn : fn + nn ≤ 64 := by omega
  have hn1 : 1 ≤ nn := by omega
  have HFL := Lib.hid (fun k (hk : fn + k ≤ 64) => (Ra.fill_nth hl ho4 s k hk).1)
  clear h1 h2 h3
  have hi0 : (fn : Int) = ((fn + 0 : Nat) : Int) := by omega
  go_loopw [7] (fun i wr => ∃ k : Nat, k ≤ nn ∧ i = .int .i64 ((fn + k : Nat) : Int) ∧ ∃ A c, Hid (RfW G w wr X X1 X2 on fn nn a (.slice A 256 c) (Ra.fillTo T on fn s k))) (fun i _ => 64 - (intOf i).toNat)
  case atStart => exact ⟨0, Nat.zero_le _, by first | rfl | rw [← hi0], _, _, HU0⟩
  case round =>
    clear HU0 hi0
    obtain ⟨k, hk, rfl, A, c, hU⟩ := hrel
    have b0 := hU.out.box.cell
    obtain ⟨p0, p1, p2, p3⟩ := hU.out.lk.cells
    have hm64 : ((fn + k : Nat) : Int) ≤ 64 := by omega
    by_cases hlt : k < nn
    · have kI : ((fn + k : Nat) : Int) < (fn : Int) + nn := by omega
      have hq : on * 64 + (fn + k) < 256 := by omega
      have hix : (on : Int) * 64 + ((fn : Int) + (k : Int)) = ((on * 64 + (fn + k) : Nat) : Int) := by omega
      have hwr : IntKind.i64.wrap ((on : Int) * 64 + ((fn + k : Nat) : Int)) = (on : Int) * 64 + ((fn + k : Nat) : Int) := by rw [IntKind.wrap_i64]; omega
      have hlk := HFL.out k (by omega)
      have hlk1 := HFL.out (k + 1) (by omega)
      have hfs : (Ra.fillTo T on fn s k).set (on * 64 + (fn + k)) s = Ra.fillTo T on fn s (k + 1) := by
        rw [show on * 64 + (fn + k) = 64 * on + (fn + k) by omega]; rfl
      obtain ⟨gr, -, hsr⟩ := hU.out.row
      have hsa := set_any wr _ gr _ (on * 64 + (fn + k)) s hsr (by rw [hlk]; exact hq) (by rw [hlk]; decide)
      rw [hfs, ← hix] at hsa
      have HSA := Lib.hid hsa
      have hne : Ra.fillTo T on fn s (k + 1) ≠ [] := fun e => by rw [e] at hlk1; cases hlk1
      have HNE := Lib.hid hne
      have HLK := Lib.hid hlk1
      have hfx := fun i => free_block hU.out.box i none
      clear hsa hsr hlk hlk1 hfs hne hix
      go_wp2_with (go_at_call 40; (with_reducible refine useC HSA.out ?_); rintro e w6 hn; obtain ⟨A6, c6, he, hu6, hu7⟩ := hU.out.put hn HNE.out; rw [HLK.out] at he hu7; subst he; have HU7 := Lib.hid hu7; clear hn hu7 b0 hfx; have b0 := hu6.box.cell; have hfx := fun i => free_block hu6.box i none; clear hu6)
      go_roundw
      case rel => exact ⟨k + 1, by omega, by go_num, _, _, HU7⟩
      case measure => (simp [intOf]; try omega)
    · have kI : ¬ ((fn + k : Nat) : Int) < (fn : Int) + nn := by omega
      obtain rfl : k = nn := by omega
      have o0 := hU.out.out.cell
      have hfo := fun i => free_block hU.out.out i none
      go_wp2
      obtain ⟨q1, q2, q3⟩ := hU.out.fin
      exact bodyPost_ret (v := .agg #[.slice A 256 c]) (by simp [results, Tryd.results25, asAddr, Sem.run_bind, q1.load]) rfl ⟨_, _, rfl, q2, q3⟩
set_option maxRecDepth 100000 in
theorem ref_New (w : World) : Calls Tryd.prog 22 #[] w (RfAns (w.heap.size ≤ ·) Ra.new w) := by
  have h8 := mk_z 256 (by decide) 256 rfl
  go_enter Tryd.func22, Tryd.ntmps22
  go_wp2
  have s1 : (w.alloc (.cells #[.slice (some ⟨w.heap.size + 1, 0, none⟩) 256 256] 47)).heap.size = w.heap.size + 1 := by simp
  have h1 := mkz_sl (w.alloc (.cells #[.slice (some ⟨w.heap.size + 1, 0, none⟩) 256 256] 47)) 256 (by decide) (Fr.refl [] _)
  rw [s1] at h1
  have hx : RkX ((w.alloc (.cells #[.slice (some ⟨w.heap.size + 1, 0, none⟩) 256 256] 47)).alloc (.cells (mkz 256) 3)) w.heap.size (.slice (some ⟨w.heap.size + 1, 0, none⟩) 256 256) := ((Fr.refl [] _).alloc _).get (heap_alloc_new w _) (by simp)
  exact bodyPost_ret (v := .agg #[.slice (some ⟨w.heap.size + 1, 0, none⟩) 256 256]) (by simp [results, Tryd.results22, asAddr, Sem.run_bind, hx.load]) rfl ⟨_, _, rfl, ⟨w.heap.size + 1, by omega, h1⟩, ((Fr.refl _ _).alloc _).alloc _⟩
end Go.Proofs.YtgljklefcfheaaaDoor
