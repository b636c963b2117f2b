-- Written by wip/tools/stubprint.py (a program of this session) through the kit's print; contracts proved by hand stand in it.
import Derived.Test.YtcbakjgplcnpfaaQReplayx0
import Derived.Test.YtcbakjgplcnpfaaQReplayx1
import Derived.Test.YtcbakjgplcnpfaaQReplayx2
namespace Go.Proofs.Ytcbakjgplcnpfaa.QReplay
open Go.Proofs.Ytcbakjgplcnpfaa.Mine
open Go.RowKit Go.Proofs.YtcbakjgplcnpfaaW.PrintWords Go.Proofs.YtcbakjgplcnpfaaW.PrintLast Go.Proofs.YtcbakjgplcnpfaaW.PrintMore
attribute [local go_sem] max2_int min2_int max_two min_two max_three min_three max_four min_four
set_option linter.unusedVariables false
set_option linter.unusedSimpArgs false

end Go.Proofs.Ytcbakjgplcnpfaa.QReplay
