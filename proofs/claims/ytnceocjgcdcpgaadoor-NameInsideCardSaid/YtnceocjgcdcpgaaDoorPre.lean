/- Small words beside the print's own. -/
import Derived.Test.YtnceocjgcdcpgaaDoorWWords
namespace Go.Proofs.YtnceocjgcdcpgaaDoorW.PrintWords
theorem bt_atN (s : ByteArray) (n : Nat) : ∀ h : n < s.size, ((s[n]'h).toNat : Int) = bt s (n : Int) := fun h => by simp [bt, h]
end Go.Proofs.YtnceocjgcdcpgaaDoorW.PrintWords
