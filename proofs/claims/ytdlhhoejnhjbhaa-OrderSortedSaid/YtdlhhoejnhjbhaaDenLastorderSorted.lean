/- OrderSorted, as given: for every input the law returns true, and each argument reads behind the call as it read before. No condition. -/
import Derived.Test.YtdlhhoejnhjbhaaDenorderSorted7
namespace Go.Proofs.Ytdlhhoejnhjbhaa

theorem orderSorted_holds : Rows.OrderSortedSaid := Den.orderSorted_holds

#print axioms orderSorted_holds

end Go.Proofs.Ytdlhhoejnhjbhaa
