/- CrcParts, as given: for every input the law returns true, and each argument reads behind the call as it read before. No condition. -/
import Derived.Test.YtgalchmjpfmemaaDencrcParts5
namespace Go.Proofs.Ytgalchmjpfmemaa

theorem crcParts_holds : Rows.CrcPartsSaid := Den.crcParts_holds

#print axioms crcParts_holds

end Go.Proofs.Ytgalchmjpfmemaa
