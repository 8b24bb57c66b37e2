/- FreshOrder, as given: for every input the law returns true, and each argument reads behind the call as it read before. No condition. -/
import Derived.Test.YtkipngagfiaddaaDenfreshOrder7
namespace Go.Proofs.Ytkipngagfiaddaa

theorem freshOrder_holds : Rows.FreshOrderSaid := Den.freshOrder_holds

#print axioms freshOrder_holds

end Go.Proofs.Ytkipngagfiaddaa
