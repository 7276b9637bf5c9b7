/- Contracts of convexpl.At, High, Least: each returns what its plain function gives, and leaves old memory as it is. -/
import Derived.Test.YtchafkocobbndaaConvexB
import Derived.Test.YtchafkocobbndaaOfferC
import Derived.Test.YtchafkocobbndaaOfferE
import Derived.Test.YtchafkocobbndaaPConvex
namespace Go.Proofs.Ytchafkocobbndaa
open Go.RowKit
theorem info_ConvexPiece : (Try.prog.info? 94).map (fun i => (i.zero, i.size, i.bytes)) = some (some (.agg #[.int .i64 0, .int .i64 0]), 2, 16) := by kernel_rfl
end Go.Proofs.Ytchafkocobbndaa
