/- VoteMid, as given: for every input the law returns true, and each argument reads behind the call as it read before. No condition. -/
import Derived.Test.YtdjmfcdopaejcaaDenvoteMid5
namespace Go.Proofs.Ytdjmfcdopaejcaa

theorem voteMid_holds : Rows.VoteMidSaid := Den.voteMid_holds

#print axioms voteMid_holds

end Go.Proofs.Ytdjmfcdopaejcaa
