/- WordTells, as given: for every input the law returns true, and each argument reads behind the call as it read before. No condition. -/
import Derived.Test.YtdjmfcdopaejcaaDenwordTells5
namespace Go.Proofs.Ytdjmfcdopaejcaa

theorem wordTells_holds : Rows.WordTellsSaid := Den.wordTells_holds

#print axioms wordTells_holds

end Go.Proofs.Ytdjmfcdopaejcaa
