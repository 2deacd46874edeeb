/- Numbers of four words: the law's own sum. -/
import Derived.Test.YthmaijmjhfngpaaWideK
namespace Go.Proofs.Ythmaijmjhfngpaa
open Go.RowKit

end Go.Proofs.Ythmaijmjhfngpaa
