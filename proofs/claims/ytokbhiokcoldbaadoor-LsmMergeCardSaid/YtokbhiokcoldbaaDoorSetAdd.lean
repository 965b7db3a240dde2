/- The contract of core.Set's Add. -/
import Derived.Test.YtokbhiokcoldbaaDoorSet
import Derived.Test.YtokbhiokcoldbaaDoorCommon
namespace Go.Proofs.YtokbhiokcoldbaaDoor
open Go.RowKit Go.Maps

theorem zero_bool (w : World) : (zeroValue 4).run Tryd.prog w = .ok (.bool false) w := by kernel_rfl
/-- A set of the program's own. -/
abbrev St (w : World) (b n : Nat) (L : List Int) : Prop := SetI Tryd.prog 3 4 w b n L
theorem set_Add (w : World) (b n : Nat) (L : List Int) (x : Int) (h : St w b n L) (hx : I64 x) (hn : n < 1000000) :
    Calls Tryd.prog 75 #[.map (some b), .int .i64 x] w fun e w' => e = .returned (.bool (!hasB L x)) ∧ St w' b (n + 1) (L ++ [x]) ∧ Fr [b] w w' := by
  have H := Lib.hid h
  have HX := Lib.hid hx
  have hn' : n < maxLen := by unfold maxLen; omega
  clear h hx
  go_enter Tryd.func75, Tryd.ntmps75
  go_wp2_with (first
    | (at_lookup; refine wpList_lookup_set rfl _ _ rfl H.out Tryd.underlying3 Tryd.underlying4 Tryd.underlying126 (zero_bool _) rfl _ rfl HX.out ?_)
    | (at_mapUpdate; refine wpList_update_set rfl _ _ _ rfl H.out Tryd.underlying3 Tryd.underlying4 Tryd.underlying126 hn' rfl _ rfl rfl HX.out ?_; intro w1 h1 h2; have H1 := Lib.hid h1; have H2 := Lib.hid h2; clear h1 h2))
  go_ret
  exact ⟨rfl, H1.out, H2.out⟩
end Go.Proofs.YtokbhiokcoldbaaDoor
