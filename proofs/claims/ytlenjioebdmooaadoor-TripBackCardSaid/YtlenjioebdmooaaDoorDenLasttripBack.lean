/- TripBackCard, as given: for every input the law returns true, and each argument reads behind the call as it read before. No condition. -/
import Derived.Test.YtlenjioebdmooaaDoorDentripBack5
namespace Go.Proofs.YtlenjioebdmooaaDoor

theorem tripBack_holds : Rows.TripBackCardSaid := Den.tripBack_holds

#print axioms tripBack_holds

end Go.Proofs.YtlenjioebdmooaaDoor
