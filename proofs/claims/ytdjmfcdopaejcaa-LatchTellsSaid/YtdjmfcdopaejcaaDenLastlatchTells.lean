/- LatchTells, as given: for every input the law returns true, and each argument reads behind the call as it read before. No condition. -/
import Derived.Test.YtdjmfcdopaejcaaDenlatchTells5
namespace Go.Proofs.Ytdjmfcdopaejcaa

theorem latchTells_holds : Rows.LatchTellsSaid := Den.latchTells_holds

#print axioms latchTells_holds

end Go.Proofs.Ytdjmfcdopaejcaa
