/- StuckFrozen, as given: for every input the law returns true, and each argument reads behind the call as it read before. No condition. -/
import Derived.Test.YtdlhhoejnhjbhaaDenstuckFrozen5
namespace Go.Proofs.Ytdlhhoejnhjbhaa

theorem stuckFrozen_holds : Rows.StuckFrozenSaid := Den.stuckFrozen_holds

#print axioms stuckFrozen_holds

end Go.Proofs.Ytdlhhoejnhjbhaa
