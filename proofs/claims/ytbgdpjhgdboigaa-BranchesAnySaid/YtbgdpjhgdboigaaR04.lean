/- The reference's At. -/
import Derived.Test.YtbgdpjhgdboigaaF04a
namespace Go.PM
open Go.Proofs
set_option maxRecDepth 10000

end Go.PM

