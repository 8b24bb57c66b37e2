/- TripTellsCard, as given: for every input the law returns true, and each argument reads behind the call as it read before. No condition. -/
import Derived.Test.YtlenjioebdmooaaDoorDentripTells5
namespace Go.Proofs.YtlenjioebdmooaaDoor

theorem tripTells_holds : Rows.TripTellsCardSaid := Den.tripTells_holds

#print axioms tripTells_holds

end Go.Proofs.YtlenjioebdmooaaDoor
