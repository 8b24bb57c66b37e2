/- CrcSealed, as given: for every input the law returns true, and each argument reads behind the call as it read before. No condition. -/
import Derived.Test.YtgalchmjpfmemaaDencrcSealed7
namespace Go.Proofs.Ytgalchmjpfmemaa

theorem crcSealed_holds : Rows.CrcSealedSaid := Den.crcSealed_holds

#print axioms crcSealed_holds

end Go.Proofs.Ytgalchmjpfmemaa
