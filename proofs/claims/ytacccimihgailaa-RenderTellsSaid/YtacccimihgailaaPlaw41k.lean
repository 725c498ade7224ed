/- RenderTells: what is known ahead of the law. -/
import Derived.Test.YtacccimihgailaaPknown
import Derived.Test.YtacccimihgailaaPlives41
set_option linter.unusedVariables false
namespace Go.Proofs.Ytacccimihgailaa
namespace Pm
namespace Tp
def lives41 : Option Bool := some true
theorem lives41_ok {ro : Bool} (h : lives41 = some ro) : Pure Try.prog 5 [] (PV.bool ro) := by
  cases h; exact lives7
end Tp
end Pm
end Go.Proofs.Ytacccimihgailaa
