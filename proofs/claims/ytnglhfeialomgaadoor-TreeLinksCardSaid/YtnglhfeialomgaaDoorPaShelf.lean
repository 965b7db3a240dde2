/- What the packages of this seat call in Go's library, off the shelf: strings.HasPrefix, strings.Index at one byte, strings.Join. -/
import Derived.Shelf.Lay
import Derived.Shelf.Strings.Prefix
import Derived.Shelf.Strings.Search3
import Derived.Shelf.Strings.OnBuilder
import Derived.Test.YtnglhfeialomgaaDoorCommon0
namespace Go.Proofs
open Go.Shelf
shelf_lay Lays.n99 Nm 99 at Tryd as Tryd.lays99
shelf_lay Lays.n143 Nm 143 at Tryd as Tryd.lays143
shelf_lay Lays.n156 Nm 156 at Tryd as Tryd.lays156
namespace YtnglhfeialomgaaDoor
open Go.RowKit Go.Lib
theorem has_prefix (s p : ByteArray) (w : World) :
    Calls Tryd.prog 35 #[.string s, .string p] w fun e w' => e = .returned (.bool (Lib.hasPrefix s.data.toList p.data.toList)) ∧ w' = w := Any.strings_HasPrefix Tryd.lays99 s p w
theorem index_one (s : ByteArray) (c : UInt8) (w : World) :
    Calls Tryd.prog 74 #[.string s, .string ⟨#[c]⟩] w fun e w' => e = .returned (.int .i64 (Lib.indexByte s.data.toList c)) ∧ w' = w := Any.strings_Index_one Tryd.lays143 s c w
end YtnglhfeialomgaaDoor
end Go.Proofs
