/- FreshPlays, as given: for every input the law returns true, and each argument reads behind the call as it read before. No condition. -/
import Derived.Test.YtkipngagfiaddaaDenfreshPlays6
namespace Go.Proofs.Ytkipngagfiaddaa

theorem freshPlays_holds : Rows.FreshPlaysSaid := Den.freshPlays_holds

#print axioms freshPlays_holds

end Go.Proofs.Ytkipngagfiaddaa
