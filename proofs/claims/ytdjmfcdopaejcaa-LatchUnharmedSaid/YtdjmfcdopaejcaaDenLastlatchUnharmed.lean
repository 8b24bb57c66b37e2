/- LatchUnharmed, as given: for every input the law returns true, and each argument reads behind the call as it read before. No condition. -/
import Derived.Test.YtdjmfcdopaejcaaDenlatchUnharmed5
namespace Go.Proofs.Ytdjmfcdopaejcaa

theorem latchUnharmed_holds : Rows.LatchUnharmedSaid := Den.latchUnharmed_holds

#print axioms latchUnharmed_holds

end Go.Proofs.Ytdjmfcdopaejcaa
