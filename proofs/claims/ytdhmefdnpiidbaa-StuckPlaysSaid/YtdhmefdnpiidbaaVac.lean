/- A function that is never reached on a 64-bit machine (OnesCount32): its printed form is 'never answers', so that its contract asks nothing. -/
import Derived.Test.YtdhmefdnpiidbaaProg
import Derived.Test.YtdhmefdnpiidbaaWWords
namespace Go.Proofs.Ytdhmefdnpiidbaa.Vac
open Go.RowKit Go.Proofs.YtdhmefdnpiidbaaW.PrintWords

def bits_OnesCount32.f (_ : Int) : Option Int := none
theorem bits_OnesCount32.calls (a0 : Int) (r : Int) (w : World) (h : bits_OnesCount32.f a0 = some r) :
    Calls Try.prog 100 #[.int .u32 a0] w fun e w' => e = .returned (.int .i64 r) ∧ Drawn0 w w' := by
  cases h

end Go.Proofs.Ytdhmefdnpiidbaa.Vac
