/- OutputTells, as given: for every input the law returns true, and each argument reads behind the call as it read before. No condition. -/
import Derived.Test.YtkipngagfiaddaaDenoutputTells7
namespace Go.Proofs.Ytkipngagfiaddaa

theorem outputTells_holds : Rows.OutputTellsSaid := Den.outputTells_holds

#print axioms outputTells_holds

end Go.Proofs.Ytkipngagfiaddaa
