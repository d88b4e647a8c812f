-- written by a program of this session
import Derived.Test.YtgmdmghpmmcaeaaPMeasureTightx0
import Derived.Test.YtgmdmghpmmcaeaaPMeasureTightx1
import Derived.Test.YtgmdmghpmmcaeaaPMeasureTightx2
import Derived.Test.YtgmdmghpmmcaeaaPMeasureTightx3
import Derived.Test.YtgmdmghpmmcaeaaPMeasureTightx4
namespace Go.Proofs.Ytgmdmghpmmcaeaa.PMeasureTight
open Go.RowKit Go.Proofs.YtgmdmghpmmcaeaaW.PrintWords Go.Proofs.YtgmdmghpmmcaeaaW.PrintLast Go.Proofs.YtgmdmghpmmcaeaaW.PrintMore
attribute [local go_sem] max2_int min2_int max_two min_two max_three min_three max_four min_four   -- for this text's walks alone
set_option linter.unusedVariables false
set_option linter.unusedSimpArgs false

end Go.Proofs.Ytgmdmghpmmcaeaa.PMeasureTight
