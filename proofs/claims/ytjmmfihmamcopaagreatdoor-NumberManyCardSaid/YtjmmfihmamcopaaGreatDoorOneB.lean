/- A byte as a text. -/
import Derived.Test.YtjmmfihmamcopaaGreatDoorRows
import Derived.Test.YtjmmfihmamcopaaGreatDoorKit
import Derived.Test.YtjmmfihmamcopaaGreatDoorStr
import Derived.Lib.SlBytesConst
namespace Go.Proofs.YtjmmfihmamcopaaGreatDoor
open Go.RowKit Go.Lib Go.Sort Tx
theorem one_byte (w : World) (g : Nat) (hg : g = w.heap.size) (z : Int) (c : UInt8) (hz : z = (c.toNat : Int)) : (convert 57 9 (.slice (some ⟨g, 0, none⟩) 1 1)).run Tryz.prog (w.alloc (.cells #[.int .u8 z] 5)) = .ok (.string (bs [c])) (w.alloc (.cells #[.int .u8 z] 5)) := by
  subst hz hg
  exact run_convert_bytes_back (P := Tryz.prog) _ 57 9 5 ⟨w.heap.size, 0, none⟩ 1 [c] Tryz.underlying57 Tryz.underlying5 Tryz.underlying9 (fun j hj => by
    have : j = 0 := by simpa using hj
    subst this
    rw [Addr.add_lit, cell_of_row _ w.heap.size 0 _ 5 (0, 0) (heap_alloc_new w _)]
    rfl)
end Go.Proofs.YtjmmfihmamcopaaGreatDoor
