/-
  The walks of the disk's Flush; slices.Clone of writes; Seize; the methods over no disk.
-/
import Derived.Test.YtgdedimoblpgbaaDoorWalkDiskE
namespace Go.Proofs.YtgdedimoblpgbaaDoor.Disk
open Go.RowKit Go.Proofs.YtgdedimoblpgbaaDoor.DiskRows
set_option linter.unusedVariables false
set_option linter.unusedSimpArgs false
set_option maxRecDepth 100000

end Go.Proofs.YtgdedimoblpgbaaDoor.Disk
