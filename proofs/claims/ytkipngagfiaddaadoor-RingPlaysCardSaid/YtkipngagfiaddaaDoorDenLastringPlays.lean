/- RingPlaysCard, as given: for every input the law returns true, and each argument reads behind the call as it read before. No condition. -/
import Derived.Test.YtkipngagfiaddaaDoorDenringPlays6
namespace Go.Proofs.YtkipngagfiaddaaDoor

theorem ringPlays_holds : Rows.RingPlaysCardSaid := Den.ringPlays_holds

#print axioms ringPlays_holds

end Go.Proofs.YtkipngagfiaddaaDoor
