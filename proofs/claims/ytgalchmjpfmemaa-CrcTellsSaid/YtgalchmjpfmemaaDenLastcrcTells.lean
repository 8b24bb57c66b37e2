/- CrcTells, as given: for every input the law returns true, and each argument reads behind the call as it read before. No condition. -/
import Derived.Test.YtgalchmjpfmemaaDencrcTells6
namespace Go.Proofs.Ytgalchmjpfmemaa

theorem crcTells_holds : Rows.CrcTellsSaid := Den.crcTells_holds

#print axioms crcTells_holds

end Go.Proofs.Ytgalchmjpfmemaa
