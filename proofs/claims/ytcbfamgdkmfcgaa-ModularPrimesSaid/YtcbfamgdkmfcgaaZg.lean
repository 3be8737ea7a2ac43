/- Texts joined: Wi We. -/
import Derived.KernelRfl
import Derived.Test.YtcbfamgdkmfcgaaZe
set_option linter.all false
/- The search, run by the kernel: numbers whose prime factors are at most 1500. -/
namespace Go.Proofs.Ytcbfamgdkmfcgaa
set_option maxRecDepth 1000000 in
theorem run_t8 : topB PL 175 12 = true := by kernel_rfl
set_option maxRecDepth 1000000 in
theorem run_t9 : topB PL 187 10 = true := by kernel_rfl
set_option maxRecDepth 1000000 in
theorem run_t10 : topB PL 197 9 = true := by kernel_rfl
set_option maxRecDepth 1000000 in
theorem run_t11 : topB PL 206 7 = true := by kernel_rfl
set_option maxRecDepth 1000000 in
theorem run_t12 : topB PL 213 7 = true := by kernel_rfl
set_option maxRecDepth 1000000 in
theorem run_t13 : topB PL 220 7 = true := by kernel_rfl
set_option maxRecDepth 1000000 in
theorem run_t14 : topB PL 227 8 = true := by kernel_rfl
end Go.Proofs.Ytcbfamgdkmfcgaa

/- The search, run by the kernel: a greatest prime factor from 1500 to 32768. -/
namespace Go.Proofs.Ytcbfamgdkmfcgaa
set_option maxRecDepth 1000000 in
theorem run_p1 : lpB 1501 500 = true := by kernel_rfl
set_option maxRecDepth 1000000 in
theorem run_p2 : lpB 2501 1000 = true := by kernel_rfl
set_option maxRecDepth 1000000 in
theorem run_p3 : lpB 4501 2750 = true := by kernel_rfl
set_option maxRecDepth 1000000 in
theorem run_p4 : lpB 10001 5000 = true := by kernel_rfl
set_option maxRecDepth 1000000 in
theorem run_p5 : lpB 20001 6400 = true := by kernel_rfl
end Go.Proofs.Ytcbfamgdkmfcgaa
