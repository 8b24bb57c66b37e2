/- RingLastCard, as given: for every input the law returns true, and each argument reads behind the call as it read before. No condition. -/
import Derived.Test.YtkipngagfiaddaaDoorDenringLast5
namespace Go.Proofs.YtkipngagfiaddaaDoor

theorem ringLast_holds : Rows.RingLastCardSaid := Den.ringLast_holds

#print axioms ringLast_holds

end Go.Proofs.YtkipngagfiaddaaDoor
