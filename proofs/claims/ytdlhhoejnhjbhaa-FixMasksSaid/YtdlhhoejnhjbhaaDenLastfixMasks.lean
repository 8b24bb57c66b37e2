/- FixMasks, as given: for every input the law returns true, and each argument reads behind the call as it read before. No condition. -/
import Derived.Test.YtdlhhoejnhjbhaaDenfixMasks6
namespace Go.Proofs.Ytdlhhoejnhjbhaa

theorem fixMasks_holds : Rows.FixMasksSaid := Den.fixMasks_holds

#print axioms fixMasks_holds

end Go.Proofs.Ytdlhhoejnhjbhaa
