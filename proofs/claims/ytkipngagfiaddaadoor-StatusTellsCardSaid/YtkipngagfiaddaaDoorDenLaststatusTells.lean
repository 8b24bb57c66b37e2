/- StatusTellsCard, as given: for every input the law returns true, and each argument reads behind the call as it read before. No condition. -/
import Derived.Test.YtkipngagfiaddaaDoorDenstatusTells5
namespace Go.Proofs.YtkipngagfiaddaaDoor

theorem statusTells_holds : Rows.StatusTellsCardSaid := Den.statusTells_holds

#print axioms statusTells_holds

end Go.Proofs.YtkipngagfiaddaaDoor
