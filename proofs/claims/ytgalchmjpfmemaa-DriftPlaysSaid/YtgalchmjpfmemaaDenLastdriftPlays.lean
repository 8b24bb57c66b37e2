/- DriftPlays, as given: for every input the law returns true, and each argument reads behind the call as it read before. No condition. -/
import Derived.Test.YtgalchmjpfmemaaDenZA
namespace Go.Proofs.Ytgalchmjpfmemaa

theorem driftPlays_holds : Rows.DriftPlaysSaid := Den.driftPlays_holds

#print axioms driftPlays_holds

end Go.Proofs.Ytgalchmjpfmemaa
