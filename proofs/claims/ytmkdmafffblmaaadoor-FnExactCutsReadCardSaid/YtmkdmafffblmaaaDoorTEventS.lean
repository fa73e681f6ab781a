/-
  Slices of Event: the laws' copy and count. For every readable slice. No condition.
-/
import Derived.Test.YtmkdmafffblmaaaDoorTEvent
namespace Go.Proofs.YtmkdmafffblmaaaDoor
open Go.ChangeShapes Go.WideShapes Go.ChangeAt Go.RowKit

theorem infoEvent : (Tryd.prog.info? 50).map (fun i => (i.zero, i.size, i.bytes)) = some (some (.agg #[.int .i64 0, .string ByteArray.empty, .int .i64 0]), 3, 32) := by kernel_rfl

def eventTexts (x : Int × ByteArray × Int) : List ByteArray := [x.2.1]
end Go.Proofs.YtmkdmafffblmaaaDoor
