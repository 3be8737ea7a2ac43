/- Texts joined: Wh Wd. -/
import Derived.KernelRfl
import Derived.Test.YtcbfamgdkmfcgaaZe
set_option linter.all false
/- The search, run by the kernel: the list. -/
namespace Go.Proofs.Ytcbfamgdkmfcgaa
theorem run_pl : (plB PL && descB PL) = true := by kernel_rfl
theorem run_sm : smL 1490 = true := by kernel_rfl
end Go.Proofs.Ytcbfamgdkmfcgaa

/- The search, run by the kernel: numbers whose prime factors are at most 1500. -/
namespace Go.Proofs.Ytcbfamgdkmfcgaa
set_option maxRecDepth 1000000 in
theorem run_t1 : topB PL 0 29 = true := by kernel_rfl
set_option maxRecDepth 1000000 in
theorem run_t2 : topB PL 29 28 = true := by kernel_rfl
set_option maxRecDepth 1000000 in
theorem run_t3 : topB PL 57 29 = true := by kernel_rfl
set_option maxRecDepth 1000000 in
theorem run_t4 : topB PL 86 29 = true := by kernel_rfl
set_option maxRecDepth 1000000 in
theorem run_t5 : topB PL 115 25 = true := by kernel_rfl
set_option maxRecDepth 1000000 in
theorem run_t6 : topB PL 140 19 = true := by kernel_rfl
set_option maxRecDepth 1000000 in
theorem run_t7 : topB PL 159 16 = true := by kernel_rfl
end Go.Proofs.Ytcbfamgdkmfcgaa
