/- Plain facts on the mirrors of the functions are proved here. -/
import Derived.Test.YtaigepmndpefgaaPe5
import Derived.Test.YtaigepmndpefgaaPsh
import Derived.Test.YtaigepmndpefgaaRows
set_option linter.all false
namespace Go.Tw
open Go Go.RowKit Go.Proofs
theorem sort_ok : ConOk Try.prog ⟨73, [(.sl (.int .i64), true)], [], .own true, sortM⟩ :=
  ext_sort (by kernel_rfl) (fun a cap w => Try.slices_Sort_int_none a cap w) (fun blk off cap zs w h1 h2 h3 => Try.slices_Sort_int blk off cap zs w h1 h2 h3)
theorem compact_ok : ConOk Try.prog ⟨74, [(.sl (.int .i64), true)], [.sl (.int .i64)], .mv, compactM⟩ :=
  ext_compact (by kernel_rfl) (fun a cap w => Try.slices_Compact_int_empty a cap w) (fun blk off cap zs w h1 h2 h3 => Try.slices_Compact_int blk off cap zs w h1 h2 h3)
end Go.Tw
