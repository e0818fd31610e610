/- What the loaded program says of its element types. -/
import Derived.Test.YtekpifobhgjepaaChecked
import Derived.Test.YtekpifobhgjepaaOwn
import Derived.KernelRfl
namespace Go.Proofs.Ytekpifobhgjepaa
open Go Go.RowKit
theorem info_u32 : (Try.prog.info? 23).map (fun i => (i.zero, i.size, i.bytes)) = some (some (.int .u32 0), 1, 4) := by kernel_rfl
theorem info_i64 : (Try.prog.info? 3).map (fun i => (i.zero, i.size, i.bytes)) = some (some (.int .i64 0), 1, 8) := by kernel_rfl
theorem info_bool : (Try.prog.info? 4).map (fun i => (i.zero, i.size, i.bytes)) = some (some (.bool false), 1, 1) := by kernel_rfl
end Go.Proofs.Ytekpifobhgjepaa
