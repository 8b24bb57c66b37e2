/- WordBack, as given: for every input the law returns true, and each argument reads behind the call as it read before. No condition. -/
import Derived.Test.YtdjmfcdopaejcaaDenwordBack6
namespace Go.Proofs.Ytdjmfcdopaejcaa

theorem wordBack_holds : Rows.WordBackSaid := Den.wordBack_holds

#print axioms wordBack_holds

end Go.Proofs.Ytdjmfcdopaejcaa
