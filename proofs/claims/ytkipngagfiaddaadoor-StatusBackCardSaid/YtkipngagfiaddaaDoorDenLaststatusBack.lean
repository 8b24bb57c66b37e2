/- StatusBackCard, as given: for every input the law returns true, and each argument reads behind the call as it read before. No condition. -/
import Derived.Test.YtkipngagfiaddaaDoorDenstatusBack5
namespace Go.Proofs.YtkipngagfiaddaaDoor

theorem statusBack_holds : Rows.StatusBackCardSaid := Den.statusBack_holds

#print axioms statusBack_holds

end Go.Proofs.YtkipngagfiaddaaDoor
