/- ParityTells, as given: for every input the law returns true, and each argument reads behind the call as it read before. No condition. -/
import Derived.Test.YtdlhhoejnhjbhaaDenparityTells8
namespace Go.Proofs.Ytdlhhoejnhjbhaa

theorem parityTells_holds : Rows.ParityTellsSaid := Den.parityTells_holds

#print axioms parityTells_holds

end Go.Proofs.Ytdlhhoejnhjbhaa
