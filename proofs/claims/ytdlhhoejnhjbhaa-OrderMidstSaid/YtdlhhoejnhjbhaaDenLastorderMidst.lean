/- OrderMidst, as given: for every input the law returns true, and each argument reads behind the call as it read before. No condition. -/
import Derived.Test.YtdlhhoejnhjbhaaDenorderMidst7
namespace Go.Proofs.Ytdlhhoejnhjbhaa

theorem orderMidst_holds : Rows.OrderMidstSaid := Den.orderMidst_holds

#print axioms orderMidst_holds

end Go.Proofs.Ytdlhhoejnhjbhaa
