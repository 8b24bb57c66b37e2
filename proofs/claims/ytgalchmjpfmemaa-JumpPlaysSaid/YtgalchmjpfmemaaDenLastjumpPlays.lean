/- JumpPlays, as given: for every input the law returns true, and each argument reads behind the call as it read before. No condition. -/
import Derived.Test.YtgalchmjpfmemaaDenjumpPlays5
namespace Go.Proofs.Ytgalchmjpfmemaa

theorem jumpPlays_holds : Rows.JumpPlaysSaid := Den.jumpPlays_holds

#print axioms jumpPlays_holds

end Go.Proofs.Ytgalchmjpfmemaa
