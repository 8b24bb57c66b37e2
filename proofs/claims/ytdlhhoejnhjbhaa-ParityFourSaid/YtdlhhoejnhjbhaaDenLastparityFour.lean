/- ParityFour, as given: for every input the law returns true, and each argument reads behind the call as it read before. No condition. -/
import Derived.Test.YtdlhhoejnhjbhaaDenparityFour6
namespace Go.Proofs.Ytdlhhoejnhjbhaa

theorem parityFour_holds : Rows.ParityFourSaid := Den.parityFour_holds

#print axioms parityFour_holds

end Go.Proofs.Ytdlhhoejnhjbhaa
