/- Texts joined: Wk. -/
import Derived.KernelRfl
import Derived.Test.YtcbfamgdkmfcgaaZe
set_option linter.all false
/- The search, run by the kernel: a greatest prime factor above 65536. -/
namespace Go.Proofs.Ytcbfamgdkmfcgaa
set_option maxRecDepth 1000000 in
theorem run_k7 : kLB 22511 2500 = true := by kernel_rfl
set_option maxRecDepth 1000000 in
theorem run_k8 : kLB 25011 2500 = true := by kernel_rfl
set_option maxRecDepth 1000000 in
theorem run_k9 : kLB 27511 2500 = true := by kernel_rfl
set_option maxRecDepth 1000000 in
theorem run_k10 : kLB 30011 2800 = true := by kernel_rfl
end Go.Proofs.Ytcbfamgdkmfcgaa
