/- ConfigLess, as given: for every input the law returns true, and each argument reads behind the call as it read before. No condition. -/
import Derived.Test.YtgalchmjpfmemaaDenconfigLess6
namespace Go.Proofs.Ytgalchmjpfmemaa

theorem configLess_holds : Rows.ConfigLessSaid := Den.configLess_holds

#print axioms configLess_holds

end Go.Proofs.Ytgalchmjpfmemaa
