/- OrderTells, as given: for every input the law returns true, and each argument reads behind the call as it read before. No condition. -/
import Derived.Test.YtdlhhoejnhjbhaaDenorderTells7
namespace Go.Proofs.Ytdlhhoejnhjbhaa

theorem orderTells_holds : Rows.OrderTellsSaid := Den.orderTells_holds

#print axioms orderTells_holds

end Go.Proofs.Ytdlhhoejnhjbhaa
