/- Texts joined: Jl Jo Jp. -/
import Derived.Test.YtfhcmibgpddggaaZf
import Derived.Test.YtfhcmibgpddggaaZf
set_option linter.all false
/- The reference's integers by value: short, Small, estimate. -/
namespace Go.Proofs.Ytfhcmibgpddggaa
open Go.RowKit
end Go.Proofs.Ytfhcmibgpddggaa

/- The reference's integers by value: divide. -/
namespace Go.Proofs.Ytfhcmibgpddggaa
open Go.RowKit
theorem limbsOf_one {n : Nat} (h0 : 0 < n) (h : n < 4294967296) : limbsOf n = [n] := by
  have := limbsOf_eq (l := [n]) (limbs_one h) (by intro _; simp; omega)
  rwa [val_one] at this
end Go.Proofs.Ytfhcmibgpddggaa

/- The reference's integers by value: DivMod. -/
namespace Go.Proofs.Ytfhcmibgpddggaa
open Go.RowKit
end Go.Proofs.Ytfhcmibgpddggaa
