/- FixTells, as given: for every input the law returns true, and each argument reads behind the call as it read before. No condition. -/
import Derived.Test.YtdlhhoejnhjbhaaDenfixTells5
namespace Go.Proofs.Ytdlhhoejnhjbhaa

theorem fixTells_holds : Rows.FixTellsSaid := Den.fixTells_holds

#print axioms fixTells_holds

end Go.Proofs.Ytdlhhoejnhjbhaa
