/- The maker of letters that were sent: Stream.SentList. -/
import Derived.Test.YtfdpfkdfglombaaGreatDoorSentSpec
import Derived.Test.YtfdpfkdfglombaaGreatDoorKey
import Derived.Test.YtfdpfkdfglombaaGreatDoorPickAt
set_option linter.unusedVariables false
namespace Go.Proofs.YtfdpfkdfglombaaGreatDoor
open Go.RowKit

theorem enc_size (n : Int) (h0 : 0 ≤ n) (h1 : n < 128) : (Utf8.encode n).size ≤ 4 := by
  unfold Utf8.encode
  split
  · have hc : n.toNat < 128 := by omega
    simp only [hc, if_true]
    show 1 ≤ 4
    omega
  · show 3 ≤ 4
    omega
theorem size_pre (c : UInt8) (R : ByteArray) (h : R.size ≤ 4) : ((⟨#[c]⟩ : ByteArray) ++ R).size ≤ 5 := by
  rw [ByteArray.size_append]
  show 1 + R.size ≤ 5
  omega

end Go.Proofs.YtfdpfkdfglombaaGreatDoor
