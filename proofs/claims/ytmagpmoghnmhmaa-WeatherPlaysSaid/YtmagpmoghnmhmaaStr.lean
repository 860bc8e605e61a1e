/- Rows of bytes as strings: lengths, sums. -/
import Derived.Test.YtmagpmoghnmhmaaBytes
namespace Go.Proofs.Ytmagpmoghnmhmaa
open Go.RowKit

theorem strN_size (xs : List Nat) : (strN xs).size = xs.length := by
  simp [strN, strOfNums, ByteArray.size]
theorem strN_append (xs ys : List Nat) : strN (xs ++ ys) = strN xs ++ strN ys := by
  apply ByteArray.ext
  simp [strN, strOfNums, ByteArray.data_append]
end Go.Proofs.Ytmagpmoghnmhmaa
