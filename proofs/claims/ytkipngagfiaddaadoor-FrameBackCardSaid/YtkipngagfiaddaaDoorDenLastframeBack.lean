/- FrameBackCard, as given: for every input the law returns true, and each argument reads behind the call as it read before. No condition. -/
import Derived.Test.YtkipngagfiaddaaDoorDenframeBack6
namespace Go.Proofs.YtkipngagfiaddaaDoor

theorem frameBack_holds : Rows.FrameBackCardSaid := Den.frameBack_holds

#print axioms frameBack_holds

end Go.Proofs.YtkipngagfiaddaaDoor
