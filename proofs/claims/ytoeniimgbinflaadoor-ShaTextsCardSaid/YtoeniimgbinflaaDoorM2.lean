/- The digest of bytes, in plain numbers; the chapter's example. -/
import Derived.Test.YtoeniimgbinflaaDoorS3
namespace Go.Proofs.YtoeniimgbinflaaDoor
open Go.RowKit
def padz (n : Nat) : Nat := (120 - (n + 1) % 64) % 64
/-- Byte i of the number n of bytes, as bits. -/
def lb (n i : Nat) : UInt8 := UInt8.ofNat (8 * n / 2 ^ (56 - 8 * i))
def len8 (n : Nat) : List UInt8 := [lb n 0, lb n 1, lb n 2, lb n 3, lb n 4, lb n 5, lb n 6, lb n 7]
def padded (l : List UInt8) : List UInt8 := l ++ [128] ++ List.replicate (padz l.length) 0 ++ len8 l.length
def sums (l : List UInt8) : H8 := fold l (l.length / 64)
/-- Byte i of the digest. -/
def db (s : H8) (i : Nat) : UInt8 := UInt8.ofNat ((s.get (i / 4)).toNat / 2 ^ (24 - i % 4 * 8))
def digest (s : H8) : List UInt8 := (List.range 32).map (db s)
def dig (l : List UInt8) : List UInt8 := digest (sums (padded l))
theorem padded_length (l : List UInt8) : (padded l).length % 64 = 0 := by
  simp only [padded, List.length_append, List.length_replicate, List.length_cons, List.length_nil, padz, len8]
  omega
theorem dig_length (l : List UInt8) : (dig l).length = 32 := by simp [dig, digest]
theorem dig_abc : dig [97, 98, 99] = [186, 120, 22, 191, 143, 1, 207, 234, 65, 65, 64, 222, 93, 174, 34, 35, 176, 3, 97, 163, 150, 23, 122, 156, 180, 16, 255, 97, 242, 0, 21, 173] := by decide +kernel
end Go.Proofs.YtoeniimgbinflaaDoor
