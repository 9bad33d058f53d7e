/- Bits of bytes. Own work; generic over any program. -/
import Derived.Test.YtamfkofcpoglnaaLp
import Derived.Laws.Closers25b
set_option autoImplicit false
set_option linter.all false
namespace Go.Vc
abbrev b8 (x : Int) : BitVec 8 := BitVec.ofInt 8 x
theorem b8_nat (v : BitVec 8) : b8 (v.toNat : Int) = v := by simp [b8]
theorem w8_nat (v : BitVec 8) : IntKind.u8.wrap (v.toNat : Int) = (v.toNat : Int) := by
  have := v.isLt
  rw [IntKind.wrap_u8]; omega
theorem bits_and8 (x y : Int) : bits .and .u8 x y = ((b8 x &&& b8 y).toNat : Int) := w8_nat (b8 x &&& b8 y)
theorem bits_or8 (x y : Int) : bits .or .u8 x y = ((b8 x ||| b8 y).toNat : Int) := w8_nat (b8 x ||| b8 y)
theorem bits_xor8 (x y : Int) : bits .xor .u8 x y = ((b8 x ^^^ b8 y).toNat : Int) := w8_nat (b8 x ^^^ b8 y)
theorem bits_andNot8 (x y : Int) : bits .andNot .u8 x y = ((b8 x &&& ~~~ b8 y).toNat : Int) := w8_nat (b8 x &&& ~~~ b8 y)
theorem cut_prog (w m x : Int) : bits .or .u8 (bits .andNot .u8 w m) (bits .and .u8 (bits .and .u8 w x) m) = bits .andNot .u8 w (bits .andNot .u8 m x) := by
  simp only [bits_and8, bits_or8, bits_andNot8, b8_nat]
  congr 1; congr 1
  ext i hi
  simp [hi]
  cases (b8 w)[i] <;> cases (b8 m)[i] <;> cases (b8 x)[i] <;> rfl
theorem full_prog (w x : Int) : bits .and .u8 w x = bits .andNot .u8 w (bits .andNot .u8 255 x) := by
  simp only [bits_and8, bits_andNot8, b8_nat]
  congr 1; congr 1
  have : b8 255 = BitVec.allOnes 8 := by decide
  rw [this]
  ext i hi
  simp only [BitVec.getElem_and, BitVec.getElem_not, BitVec.getElem_allOnes, Bool.true_and, Bool.not_not]
theorem full_or (b : Int) : bits .or .u8 b 255 = 255 := by
  rw [bits_or8]
  have : b8 255 = BitVec.allOnes 8 := by decide
  rw [this, BitVec.or_allOnes]
  decide
end Go.Vc
