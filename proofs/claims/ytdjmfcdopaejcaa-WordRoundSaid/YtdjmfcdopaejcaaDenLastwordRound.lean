/- WordRound, as given: for every input the law returns true, and each argument reads behind the call as it read before. No condition. -/
import Derived.Test.YtdjmfcdopaejcaaDenwordRound5
namespace Go.Proofs.Ytdjmfcdopaejcaa

theorem wordRound_holds : Rows.WordRoundSaid := Den.wordRound_holds

#print axioms wordRound_holds

end Go.Proofs.Ytdjmfcdopaejcaa
