/- The reckoning of the chapter's examples. -/
import Derived.Test.YtbjnfjglagmcoaaGreatIdeZe
import Derived.Test.YtbjnfjglagmcoaaGreatProg
open Go Go.RowKit Ide
namespace Go.Proofs.YtbjnfjglagmcoaaGreat
open Go.Proofs
def knownFns : List FuncId := [3,14,16,17,20,21,23,24,26,27,28,29,32,39,40,41,42,43,44,45,47,48,49,50,51,52,53,54,55,56,57,58,60,61,62,63,65,66,67,68,69,70,71,72,73,74,75,76,77,78,79,80,81,82,83,84,85,86,87,88,89,90,91,92,93,94,95,96,97,98,99,100,101,102,103,104,105,106,107,108,109,110,111,112,113,114,115,116,117,118,119,120,121,122,123,124,125,126,127,128,129,130,131,132,133,134,135,136,137,138,139,140,141,142,144,145,146]
theorem knownFns_ok : knownFns.all (fnOk Tryz.prog) = true := by kernel_rfl
theorem known_mixed : Tryz.prog.follows .mixedOrders = true := by kernel_rfl
theorem known_true : xtrue Tryz.prog knownFns 400 31 3 = true := by kernel_rfl
end Go.Proofs.YtbjnfjglagmcoaaGreat
