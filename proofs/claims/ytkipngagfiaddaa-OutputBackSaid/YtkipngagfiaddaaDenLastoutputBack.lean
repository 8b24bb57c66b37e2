/- OutputBack, as given: for every input the law returns true, and each argument reads behind the call as it read before. No condition. -/
import Derived.Test.YtkipngagfiaddaaDenoutputBack6
namespace Go.Proofs.Ytkipngagfiaddaa

theorem outputBack_holds : Rows.OutputBackSaid := Den.outputBack_holds

#print axioms outputBack_holds

end Go.Proofs.Ytkipngagfiaddaa
