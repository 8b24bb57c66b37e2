/- VoteTells, as given: for every input the law returns true, and each argument reads behind the call as it read before. No condition. -/
import Derived.Test.YtdjmfcdopaejcaaDenvoteTells6
namespace Go.Proofs.Ytdjmfcdopaejcaa

theorem voteTells_holds : Rows.VoteTellsSaid := Den.voteTells_holds

#print axioms voteTells_holds

end Go.Proofs.Ytdjmfcdopaejcaa
