/- Reading whole numbers and slices of them; small words. -/
import Derived.Test.YtennnifijepfhaaProg
import Derived.Test.YtennnifijepfhaaAhP
import Derived.Test.YtennnifijepfhaaAhW
import Derived.KernelRfl
namespace Go.Proofs.Ytennnifijepfhaa
open Go Go.AH
theorem reads_i : Reads Try.prog 3 RIF I64 := reads_int Try.underlying3
theorem ci1 : Try.prog.cellsOf 3 = 1 := by kernel_rfl
theorem reads_ints : Reads Try.prog 22 (RSF RIF 1) (PSl I64) := reads_slice Try.underlying22 ci1 (by omega) reads_i
theorem cis1 : Try.prog.cellsOf 22 = 1 := by kernel_rfl
end Go.Proofs.Ytennnifijepfhaa
