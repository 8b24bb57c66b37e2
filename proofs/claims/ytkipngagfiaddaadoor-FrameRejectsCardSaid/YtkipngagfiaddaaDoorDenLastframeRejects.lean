/- FrameRejectsCard, as given: for every input the law returns true, and each argument reads behind the call as it read before. No condition. -/
import Derived.Test.YtkipngagfiaddaaDoorDenframeRejects6
namespace Go.Proofs.YtkipngagfiaddaaDoor

theorem frameRejects_holds : Rows.FrameRejectsCardSaid := Den.frameRejects_holds

#print axioms frameRejects_holds

end Go.Proofs.YtkipngagfiaddaaDoor
