/- SHA-256 in plain numbers, and how words, bytes and a state lie in memory. No condition. -/
import Derived.Test.YtoeniimgbinflaaDoorReg
import Derived.Laws.BitsAll
import Derived.Laws.BitsAllLaws
import Derived.Laws.Shifts
namespace Go.Proofs.YtoeniimgbinflaaDoor
open Go.RowKit
abbrev W32 := BitVec 32
abbrev W32.v (x : W32) : Value := .int .u32 (x.toNat : Int)
/-- x turned right by n bits. -/
def rr (x : W32) (n : Nat) : W32 := (x <<< (32 - n)) ||| (x >>> n)
structure H8 where
  a : W32
  b : W32
  c : W32
  d : W32
  e : W32
  f : W32
  g : W32
  h : W32
def H8.cs (s : H8) : List Value := [s.a.v, s.b.v, s.c.v, s.d.v, s.e.v, s.f.v, s.g.v, s.h.v]
def KT : List Nat := [1116352408, 1899447441, 3049323471, 3921009573, 961987163, 1508970993, 2453635748, 2870763221, 3624381080, 310598401, 607225278, 1426881987, 1925078388, 2162078206, 2614888103, 3248222580, 3835390401, 4022224774, 264347078, 604807628, 770255983, 1249150122, 1555081692, 1996064986, 2554220882, 2821834349, 2952996808, 3210313671, 3336571891, 3584528711, 113926993, 338241895, 666307205, 773529912, 1294757372, 1396182291, 1695183700, 1986661051, 2177026350, 2456956037, 2730485921, 2820302411, 3259730800, 3345764771, 3516065817, 3600352804, 4094571909, 275423344, 430227734, 506948616, 659060556, 883997877, 958139571, 1322822218, 1537002063, 1747873779, 1955562222, 2024104815, 2227730452, 2361852424, 2428436474, 2756734187, 3204031479, 3329325298]
def kk (i : Nat) : W32 := BitVec.ofNat 32 (KT.getD i 0)
def sx (e : W32) : W32 := rr e 6 ^^^ rr e 11 ^^^ rr e 25
def sy (a : W32) : W32 := rr a 2 ^^^ rr a 13 ^^^ rr a 22
def ch (e f g : W32) : W32 := g ^^^ (e &&& (f ^^^ g))
def mj (a b c : W32) : W32 := (a &&& b) ||| (c &&& (a ||| b))
def rx (s : H8) (k w : W32) : W32 := s.h + sx s.e + ch s.e s.f s.g + k + w
def ry (s : H8) : W32 := sy s.a + mj s.a s.b s.c
def rnd (s : H8) (k w : W32) : H8 := ⟨rx s k w + ry s, s.a, s.b, s.c, s.d + rx s k w, s.e, s.f, s.g⟩
def b8 (x : UInt8) : W32 := BitVec.ofNat 32 x.toNat
/-- Word i of a block's bytes. -/
def wd (b : List UInt8) (i : Nat) : W32 := b8 (b.getD (4 * i) 0) <<< 24 ||| b8 (b.getD (4 * i + 1) 0) <<< 16 ||| b8 (b.getD (4 * i + 2) 0) <<< 8 ||| b8 (b.getD (4 * i + 3) 0)
def s0 (x : W32) : W32 := rr x 7 ^^^ rr x 18 ^^^ (x >>> 3)
def s1 (x : W32) : W32 := rr x 17 ^^^ rr x 19 ^^^ (x >>> 10)
def nxt (b : List UInt8) (n : Nat) (l : List W32) : W32 :=
  if n < 16 then wd b n else l.getD (n - 16) 0 + s0 (l.getD (n - 15) 0) + l.getD (n - 7) 0 + s1 (l.getD (n - 2) 0)
/-- The first n words of a block. -/
def wl (b : List UInt8) : Nat → List W32
  | 0 => []
  | n + 1 => wl b n ++ [nxt b n (wl b n)]
theorem wl_length (b : List UInt8) (n : Nat) : (wl b n).length = n := by
  induction n with
  | zero => rfl
  | succ n ih => simp [wl, ih]
theorem wl_more (b : List UInt8) (n m : Nat) (i : Nat) (hi : i < n) (hm : n ≤ m) : (wl b m).getD i 0 = (wl b n).getD i 0 := by
  induction m with
  | zero => omega
  | succ m ih =>
    by_cases h : n = m + 1
    · rw [h]
    · rw [wl, List.getD_eq_getElem?_getD, List.getElem?_append_left (by rw [wl_length]; omega), ← List.getD_eq_getElem?_getD, ih (by omega)]
def rounds (s : H8) (ws : List W32) : Nat → H8
  | 0 => s
  | n + 1 => rnd (rounds s ws n) (kk n) (ws.getD n 0)
def H8.add (s t : H8) : H8 := ⟨s.a + t.a, s.b + t.b, s.c + t.c, s.d + t.d, s.e + t.e, s.f + t.f, s.g + t.g, s.h + t.h⟩
/-- The sums behind a block. -/
def mixed (s : H8) (b : List UInt8) : H8 := s.add (rounds s (wl b 64) 64)
def init8 : H8 := ⟨1779033703#32, 3144134277#32, 1013904242#32, 2773480762#32, 1359893119#32, 2600822924#32, 528734635#32, 1541459225#32⟩
/-- The sums behind the first n blocks. -/
def fold (l : List UInt8) : Nat → H8
  | 0 => init8
  | n + 1 => mixed (fold l n) ((l.drop (64 * n)).take 64)
theorem fold_append (l m : List UInt8) (n : Nat) (h : 64 * n ≤ l.length) : fold (l ++ m) n = fold l n := by
  induction n with
  | zero => rfl
  | succ n ih =>
    rw [fold, fold, ih (by omega)]
    congr 1
    rw [List.drop_append_of_le_length (by omega), List.take_append_of_le_length (by rw [List.length_drop]; omega)]
theorem toNat_lt (x : W32) : (x.toNat : Int) < 4294967296 := by have := x.isLt; omega
theorem v_add (x y : W32) : IntKind.u32.wrap ((x.toNat : Int) + y.toNat) = ((x + y).toNat : Int) := by
  rw [IntKind.wrap_u32', BitVec.toNat_add]; omega
theorem v_xor (x y : W32) : bits .xor .u32 (x.toNat : Int) (y.toNat : Int) = ((x ^^^ y).toNat : Int) := by
  rw [BitVec.toNat_xor, u32_xor_nat _ _ x.isLt y.isLt]
theorem v_and (x y : W32) : bits .and .u32 (x.toNat : Int) (y.toNat : Int) = ((x &&& y).toNat : Int) := by
  rw [BitVec.toNat_and, u32_and_nat _ _ x.isLt y.isLt]
theorem v_or (x y : W32) : bits .or .u32 (x.toNat : Int) (y.toNat : Int) = ((x ||| y).toNat : Int) := by
  rw [BitVec.toNat_or, u32_or_nat _ _ x.isLt y.isLt]
theorem v_shr (x : W32) (n : Nat) : (x.toNat : Int) / 2 ^ n = ((x >>> n).toNat : Int) := by
  rw [BitVec.toNat_ushiftRight, Nat.shiftRight_eq_div_pow]; simp
theorem v_shl (x : W32) (n : Nat) : IntKind.u32.wrap ((x.toNat : Int) * 2 ^ n) = ((x <<< n).toNat : Int) := by
  rw [IntKind.wrap_u32', BitVec.toNat_shiftLeft, Nat.shiftLeft_eq]; simp
theorem m_add (x y : W32) : ((x.toNat : Int) + y.toNat) % 4294967296 = ((x + y).toNat : Int) := by
  rw [← v_add, IntKind.wrap_u32']
theorem m_shl (x : W32) (n : Nat) : (x.toNat : Int) * 2 ^ n % 4294967296 = ((x <<< n).toNat : Int) := by
  rw [← v_shl, IntKind.wrap_u32']
end Go.Proofs.YtoeniimgbinflaaDoor
