/- FrameTellsCard, as given: for every input the law returns true, and each argument reads behind the call as it read before. No condition. -/
import Derived.Test.YtkipngagfiaddaaDoorDenframeTells7
namespace Go.Proofs.YtkipngagfiaddaaDoor

theorem frameTells_holds : Rows.FrameTellsCardSaid := Den.frameTells_holds

#print axioms frameTells_holds

end Go.Proofs.YtkipngagfiaddaaDoor
