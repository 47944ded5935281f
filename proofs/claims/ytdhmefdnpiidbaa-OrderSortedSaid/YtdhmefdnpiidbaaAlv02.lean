/- The live question of layer 2's laws is answered true. -/
import Derived.Test.YtdhmefdnpiidbaaAl02x1
import Derived.Test.YtdhmefdnpiidbaaRef02
namespace Go.Proofs.Ytdhmefdnpiidbaa.Ref
open Go.RowKit Go.Proofs.YtdhmefdnpiidbaaW.PrintWords
open Go.Proofs.Ytdhmefdnpiidbaa.Base Go.Proofs.Ytdhmefdnpiidbaa.Ord Go.Proofs.Ytdhmefdnpiidbaa.Al02
theorem alive_some : rudderlaw02_alive.f 20 = some true := by decide +kernel
theorem ev_alive : Ev (fun k => rudderlaw02_alive.f k) true := Ev.of (fun k => rudderlaw02_alive.mono k) alive_some
end Go.Proofs.Ytdhmefdnpiidbaa.Ref
