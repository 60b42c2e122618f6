/- Walks, written by gen.py out of hints. -/
import Derived.Test.YtpnmkmgnkdmniaaTypes
import Derived.Test.YtpnmkmgnkdmniaaBase
import Derived.Test.YtpnmkmgnkdmniaaEngP
set_option linter.unusedVariables false
set_option linter.unusedSimpArgs false
namespace Go.Proofs.Ytpnmkmgnkdmniaa
open Go.Eng
set_option maxRecDepth 10000
set_option maxHeartbeats 1000000



end Go.Proofs.Ytpnmkmgnkdmniaa
