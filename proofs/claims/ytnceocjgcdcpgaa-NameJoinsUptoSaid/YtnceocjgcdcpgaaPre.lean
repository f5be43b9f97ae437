/- Small words beside the print's own. -/
import Derived.Test.YtnceocjgcdcpgaaWWords
namespace Go.Proofs.YtnceocjgcdcpgaaW.PrintWords
theorem bt_atN (s : ByteArray) (n : Nat) : ∀ h : n < s.size, ((s[n]'h).toNat : Int) = bt s (n : Int) := fun h => by simp [bt, h]
end Go.Proofs.YtnceocjgcdcpgaaW.PrintWords
