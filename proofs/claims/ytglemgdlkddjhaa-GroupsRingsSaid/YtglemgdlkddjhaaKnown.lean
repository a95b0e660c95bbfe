import Derived.Test.YtglemgdlkddjhaaTab
namespace Go.Proofs.Ytglemgdlkddjhaa.Vm
open Go
theorem known_run : callN tab 100000 9 [] [] = some (.bool true, []) := by kernel_rfl
theorem known_T : T Try.prog 9 [] [] (.bool true) [] := callN_sound mix tab_ok _ known_run
end Go.Proofs.Ytglemgdlkddjhaa.Vm
