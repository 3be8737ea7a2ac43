/- Texts joined: Wj Wf. -/
import Derived.KernelRfl
import Derived.Test.YtcbfamgdkmfcgaaZe
set_option linter.all false
/- The search, run by the kernel: a greatest prime factor from 32768 to 65536. -/
namespace Go.Proofs.Ytcbfamgdkmfcgaa
set_option maxRecDepth 1000000 in
theorem run_p6 : lpB 32801 4100 = true := by kernel_rfl
set_option maxRecDepth 1000000 in
theorem run_p7 : lpB 41001 4100 = true := by kernel_rfl
set_option maxRecDepth 1000000 in
theorem run_p8 : lpB 49201 4100 = true := by kernel_rfl
set_option maxRecDepth 1000000 in
theorem run_p9 : lpB 57401 4100 = true := by kernel_rfl
end Go.Proofs.Ytcbfamgdkmfcgaa

/- The search, run by the kernel: a greatest prime factor above 65536. -/
namespace Go.Proofs.Ytcbfamgdkmfcgaa
set_option maxRecDepth 1000000 in
theorem run_k1 : kLB 11 5000 = true := by kernel_rfl
set_option maxRecDepth 1000000 in
theorem run_k2 : kLB 5011 5000 = true := by kernel_rfl
set_option maxRecDepth 1000000 in
theorem run_k3 : kLB 10011 4000 = true := by kernel_rfl
set_option maxRecDepth 1000000 in
theorem run_k4 : kLB 14011 3000 = true := by kernel_rfl
set_option maxRecDepth 1000000 in
theorem run_k5 : kLB 17011 3000 = true := by kernel_rfl
set_option maxRecDepth 1000000 in
theorem run_k6 : kLB 20011 2500 = true := by kernel_rfl
end Go.Proofs.Ytcbfamgdkmfcgaa
