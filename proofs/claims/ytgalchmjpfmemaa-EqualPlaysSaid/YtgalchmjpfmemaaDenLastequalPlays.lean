/- EqualPlays, as given: for every input the law returns true, and each argument reads behind the call as it read before. No condition. -/
import Derived.Test.YtgalchmjpfmemaaDenequalPlays5
namespace Go.Proofs.Ytgalchmjpfmemaa

theorem equalPlays_holds : Rows.EqualPlaysSaid := Den.equalPlays_holds

#print axioms equalPlays_holds

end Go.Proofs.Ytgalchmjpfmemaa
