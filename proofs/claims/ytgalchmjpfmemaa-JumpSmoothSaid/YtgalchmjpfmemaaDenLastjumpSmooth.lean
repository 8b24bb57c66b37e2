/- JumpSmooth, as given: for every input the law returns true, and each argument reads behind the call as it read before. No condition. -/
import Derived.Test.YtgalchmjpfmemaaDenjumpSmooth5
namespace Go.Proofs.Ytgalchmjpfmemaa

theorem jumpSmooth_holds : Rows.JumpSmoothSaid := Den.jumpSmooth_holds

#print axioms jumpSmooth_holds

end Go.Proofs.Ytgalchmjpfmemaa
