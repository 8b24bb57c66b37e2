/- EqualWithin, as given: for every input the law returns true, and each argument reads behind the call as it read before. No condition. -/
import Derived.Test.YtgalchmjpfmemaaDenequalWithin5
namespace Go.Proofs.Ytgalchmjpfmemaa

theorem equalWithin_holds : Rows.EqualWithinSaid := Den.equalWithin_holds

#print axioms equalWithin_holds

end Go.Proofs.Ytgalchmjpfmemaa
