/- ConfigMost, as given: for every input the law returns true, and each argument reads behind the call as it read before. No condition. -/
import Derived.Test.YtgalchmjpfmemaaDenconfigMost6
namespace Go.Proofs.Ytgalchmjpfmemaa

theorem configMost_holds : Rows.ConfigMostSaid := Den.configMost_holds

#print axioms configMost_holds

end Go.Proofs.Ytgalchmjpfmemaa
