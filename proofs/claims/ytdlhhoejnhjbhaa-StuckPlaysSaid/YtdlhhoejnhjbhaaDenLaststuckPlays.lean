/- StuckPlays, as given: for every input the law returns true, and each argument reads behind the call as it read before. No condition. -/
import Derived.Test.YtdlhhoejnhjbhaaDenstuckPlays7
namespace Go.Proofs.Ytdlhhoejnhjbhaa

theorem stuckPlays_holds : Rows.StuckPlaysSaid := Den.stuckPlays_holds

#print axioms stuckPlays_holds

end Go.Proofs.Ytdlhhoejnhjbhaa
