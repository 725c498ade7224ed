/- Functions that are known: numbers' texts. -/
import Derived.Test.YtacccimihgailaaPbld
import Derived.Test.YtacccimihgailaaPopen
import Derived.Test.YtacccimihgailaaPref03
import Derived.Test.YtacccimihgailaaPjoin
set_option linter.unusedVariables false
namespace Go.Proofs.Ytacccimihgailaa
namespace Pm
namespace Tp

/-- A number's text, of the numbers that there are. -/
def numText (n : Int) : Option (List UInt8) := if -9223372036854775808 ≤ n ∧ n ≤ 9223372036854775807 then some (intText n) else none
theorem numText_ok {n : Int} {ro : List UInt8} (h : numText n = some ro) : Pure Try.prog 35 [PV.int .i64 n] (PV.str ro) := by
  unfold numText at h
  split at h
  · rename_i hc; cases h; exact num_Text hc.1 hc.2
  · cases h
theorem ref03Text_ok {n : Int} {ro : List UInt8} (h : numText n = some ro) : Pure Try.prog 30 [PV.int .i64 n] (PV.str ro) := by
  unfold numText at h
  split at h
  · rename_i hc; cases h; exact ref03_Text hc.1 hc.2
  · cases h

/-- Texts, joined, within the bound of the contract. -/
def joinS (l : List (List UInt8)) (sep : List UInt8) : Option (List UInt8) := if l.length ≤ 140737488355328 ∧ (Lib.join l sep).length ≤ 140737488355328 then some (Lib.join l sep) else none
theorem joinS_ok {l : List (List UInt8)} {sep ro : List UInt8} (h : joinS l sep = some ro) : Pure Try.prog 46 [eL 1 PV.str l, PV.str sep] (PV.str ro) := by
  unfold joinS at h
  split at h
  · rename_i hc; cases h; exact join_pure hc.1 hc.2
  · cases h

end Tp
end Pm
end Go.Proofs.Ytacccimihgailaa
