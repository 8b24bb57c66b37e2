/- LatchRuns, as given: for every input the law returns true, and each argument reads behind the call as it read before. No condition. -/
import Derived.Test.YtdjmfcdopaejcaaDenlatchRuns5
namespace Go.Proofs.Ytdjmfcdopaejcaa

theorem latchRuns_holds : Rows.LatchRunsSaid := Den.latchRuns_holds

#print axioms latchRuns_holds

end Go.Proofs.Ytdjmfcdopaejcaa
