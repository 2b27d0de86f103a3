/- 'awake' of law 21 answers true, whatever the memory. -/
import Derived.Test.YtngdkgddeobiiaaXLaw21
namespace Go.Proofs.Ytngdkgddeobiiaa
open Go Go.TL Go.Ev
set_option maxRecDepth 100000
theorem awake_ev : callK (α := V) XLaw21.XT (run XLaw21.XT 4000) ⟨.a, .b, .a⟩ [] .mt id0 (fun v _ _ => some v) = some (.b true) := by kernel_rfl
theorem c_law21_awake {I : Imm} : PAt Try.prog I 8 [] (.bool true) := pat_call XLaw21.tab 4000 awake_ev rfl rfl fun _ _ h => h
end Go.Proofs.Ytngdkgddeobiiaa
