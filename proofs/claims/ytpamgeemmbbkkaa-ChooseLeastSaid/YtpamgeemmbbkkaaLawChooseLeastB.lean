/- ChooseLeast returns true, whatever network and place it is given. Condition: they read. -/
import Derived.Test.YtpamgeemmbbkkaaLawChooseLeast
import Derived.Test.YtpamgeemmbbkkaaRefChoose
namespace Go.Proofs.Ytpamgeemmbbkkaa
open Go.RowKit
theorem chooseLeast_walk (M : MNet) (br : ByteArray) (part : Int) (w : World) (hM : NetIn w w.heap.size M) :
    Calls Try.prog 4 #[vNet M, vPlace br part] w fun e w' => e = .returned (.bool true) ∧ Below w.heap.size w w' :=
  chooseLeast_walk0 M br part w hM (Lib.hid fun b hok hp size _ => refchoose_any M br part b hok hp size)
end Go.Proofs.Ytpamgeemmbbkkaa
