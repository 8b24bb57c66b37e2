/- VoteBounded, as given: for every input the law returns true, and each argument reads behind the call as it read before. No condition. -/
import Derived.Test.YtdjmfcdopaejcaaDenvoteBounded6
namespace Go.Proofs.Ytdjmfcdopaejcaa

theorem voteBounded_holds : Rows.VoteBoundedSaid := Den.voteBounded_holds

#print axioms voteBounded_holds

end Go.Proofs.Ytdjmfcdopaejcaa
