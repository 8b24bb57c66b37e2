/- FixFloors, as given: for every input the law returns true, and each argument reads behind the call as it read before. No condition. -/
import Derived.Test.YtdlhhoejnhjbhaaDenfixFloors5
namespace Go.Proofs.Ytdlhhoejnhjbhaa

theorem fixFloors_holds : Rows.FixFloorsSaid := Den.fixFloors_holds

#print axioms fixFloors_holds

end Go.Proofs.Ytdlhhoejnhjbhaa
