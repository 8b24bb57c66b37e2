/- FixBetween, as given: for every input the law returns true, and each argument reads behind the call as it read before. No condition. -/
import Derived.Test.YtdlhhoejnhjbhaaDenfixBetween5
namespace Go.Proofs.Ytdlhhoejnhjbhaa

theorem fixBetween_holds : Rows.FixBetweenSaid := Den.fixBetween_holds

#print axioms fixBetween_holds

end Go.Proofs.Ytdlhhoejnhjbhaa
