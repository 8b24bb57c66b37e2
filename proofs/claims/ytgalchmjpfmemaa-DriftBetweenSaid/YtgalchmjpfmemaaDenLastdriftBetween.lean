/- DriftBetween, as given: for every input the law returns true, and each argument reads behind the call as it read before. No condition. -/
import Derived.Test.YtgalchmjpfmemaaDendriftBetween5
namespace Go.Proofs.Ytgalchmjpfmemaa

theorem driftBetween_holds : Rows.DriftBetweenSaid := Den.driftBetween_holds

#print axioms driftBetween_holds

end Go.Proofs.Ytgalchmjpfmemaa
