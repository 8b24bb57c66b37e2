/- ConfigTells, as given: for every input the law returns true, and each argument reads behind the call as it read before. No condition. -/
import Derived.Test.YtgalchmjpfmemaaDenconfigTells6
namespace Go.Proofs.Ytgalchmjpfmemaa

theorem configTells_holds : Rows.ConfigTellsSaid := Den.configTells_holds

#print axioms configTells_holds

end Go.Proofs.Ytgalchmjpfmemaa
