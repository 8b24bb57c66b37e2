/- LatchRow, as given: for every input the law returns true, and each argument reads behind the call as it read before. No condition. -/
import Derived.Test.YtdjmfcdopaejcaaDenlatchRow5
namespace Go.Proofs.Ytdjmfcdopaejcaa

theorem latchRow_holds : Rows.LatchRowSaid := Den.latchRow_holds

#print axioms latchRow_holds

end Go.Proofs.Ytdjmfcdopaejcaa
