/- Words of 8, 16, 32 and 64 bits as values of the model, and what Go's operations make of them: laws for the walk, over any program. -/
import Derived.WalkKit
import Derived.WalkSpells
import Derived.WalkLawsBesides
import Derived.Deep.QuietTactic
import Derived.BigQuiet
namespace Go.Proofs.Ytljddimmhjiehaa
open Go.RowKit
theorem hid {p : Prop} (h : p) : RowKit.Hid p := h

def W8 (x : BitVec 8) : Value := .int .u8 (x.toNat : Int)
def W16 (x : BitVec 16) : Value := .int .u16 (x.toNat : Int)
def W32 (x : BitVec 32) : Value := .int .u32 (x.toNat : Int)
def W64 (x : BitVec 64) : Value := .int .u64 (x.toNat : Int)

theorem wrap_u_ofNat (k : IntKind) (hk : k.signed = false) (n : Nat) (h : n < 2 ^ k.bits) : k.wrap (n : Int) = n := by
  have e : ((n : Int) % (2 : Int) ^ k.bits) = n := by
    have : ((2 : Int) ^ k.bits) = ((2 ^ k.bits : Nat) : Int) := by simp
    rw [this]; exact_mod_cast Nat.mod_eq_of_lt h
  simp [IntKind.wrap, hk, e]
theorem ofInt_toNat {w : Nat} (x : BitVec w) : BitVec.ofInt w (x.toNat : Int) = x := by
  rw [BitVec.ofInt_natCast, BitVec.ofNat_toNat, BitVec.setWidth_eq]
theorem ofInt_sub' {w : Nat} (a b : Int) : BitVec.ofInt w (a - b) = BitVec.ofInt w a - BitVec.ofInt w b := by
  rw [Int.sub_eq_add_neg, BitVec.ofInt_add, BitVec.ofInt_neg, BitVec.sub_eq_add_neg]
theorem toNat_eq_iff {w : Nat} (x y : BitVec w) : ((x.toNat : Int) = (y.toNat : Int)) ↔ x = y := by rw [Int.natCast_inj, BitVec.toNat_inj]
theorem wrap_u_toNat (k : IntKind) (hk : k.signed = false) (n : Int) : k.wrap n = ((BitVec.ofInt k.bits n).toNat : Int) := by
  have e2 : (0 : Int) ≤ n % (2 : Int) ^ k.bits := Int.emod_nonneg _ (by have : (0:Int) < 2 ^ k.bits := Int.pow_pos (by decide); omega)
  simp only [IntKind.wrap, hk, Bool.false_and, BitVec.toNat_ofInt]
  have : (((2 : Nat) ^ k.bits : Nat) : Int) = (2 : Int) ^ k.bits := by simp
  rw [this, Int.toNat_of_nonneg e2]; rfl

theorem bits_and8 (x y : BitVec 8) : bits .and .u8 (x.toNat : Int) (y.toNat : Int) = ((x &&& y).toNat : Int) := by
  show IntKind.u8.wrap (((BitVec.ofInt 8 (x.toNat : Int)) &&& (BitVec.ofInt 8 (y.toNat : Int))).toNat : Int) = _
  rw [ofInt_toNat, ofInt_toNat]
  exact wrap_u_ofNat .u8 rfl _ (x &&& y).isLt
theorem bits_or8 (x y : BitVec 8) : bits .or .u8 (x.toNat : Int) (y.toNat : Int) = ((x ||| y).toNat : Int) := by
  show IntKind.u8.wrap (((BitVec.ofInt 8 (x.toNat : Int)) ||| (BitVec.ofInt 8 (y.toNat : Int))).toNat : Int) = _
  rw [ofInt_toNat, ofInt_toNat]
  exact wrap_u_ofNat .u8 rfl _ (x ||| y).isLt
theorem bits_xor8 (x y : BitVec 8) : bits .xor .u8 (x.toNat : Int) (y.toNat : Int) = ((x ^^^ y).toNat : Int) := by
  show IntKind.u8.wrap (((BitVec.ofInt 8 (x.toNat : Int)) ^^^ (BitVec.ofInt 8 (y.toNat : Int))).toNat : Int) = _
  rw [ofInt_toNat, ofInt_toNat]
  exact wrap_u_ofNat .u8 rfl _ (x ^^^ y).isLt
theorem wrap_add8 (x y : BitVec 8) : IntKind.u8.wrap ((x.toNat : Int) + (y.toNat : Int)) = ((x + y).toNat : Int) := by
  rw [wrap_u_toNat .u8 rfl]; show ((BitVec.ofInt 8 _).toNat : Int) = _
  rw [BitVec.ofInt_add, ofInt_toNat, ofInt_toNat]
theorem wrap_sub8 (x y : BitVec 8) : IntKind.u8.wrap ((x.toNat : Int) - (y.toNat : Int)) = ((x - y).toNat : Int) := by
  rw [wrap_u_toNat .u8 rfl]; show ((BitVec.ofInt 8 _).toNat : Int) = _
  rw [ofInt_sub', ofInt_toNat, ofInt_toNat]
theorem wrap_mul8 (x y : BitVec 8) : IntKind.u8.wrap ((x.toNat : Int) * (y.toNat : Int)) = ((x * y).toNat : Int) := by
  rw [wrap_u_toNat .u8 rfl]; show ((BitVec.ofInt 8 _).toNat : Int) = _
  rw [BitVec.ofInt_mul, ofInt_toNat, ofInt_toNat]
theorem bits_and16 (x y : BitVec 16) : bits .and .u16 (x.toNat : Int) (y.toNat : Int) = ((x &&& y).toNat : Int) := by
  show IntKind.u16.wrap (((BitVec.ofInt 16 (x.toNat : Int)) &&& (BitVec.ofInt 16 (y.toNat : Int))).toNat : Int) = _
  rw [ofInt_toNat, ofInt_toNat]
  exact wrap_u_ofNat .u16 rfl _ (x &&& y).isLt
theorem bits_or16 (x y : BitVec 16) : bits .or .u16 (x.toNat : Int) (y.toNat : Int) = ((x ||| y).toNat : Int) := by
  show IntKind.u16.wrap (((BitVec.ofInt 16 (x.toNat : Int)) ||| (BitVec.ofInt 16 (y.toNat : Int))).toNat : Int) = _
  rw [ofInt_toNat, ofInt_toNat]
  exact wrap_u_ofNat .u16 rfl _ (x ||| y).isLt
theorem bits_xor16 (x y : BitVec 16) : bits .xor .u16 (x.toNat : Int) (y.toNat : Int) = ((x ^^^ y).toNat : Int) := by
  show IntKind.u16.wrap (((BitVec.ofInt 16 (x.toNat : Int)) ^^^ (BitVec.ofInt 16 (y.toNat : Int))).toNat : Int) = _
  rw [ofInt_toNat, ofInt_toNat]
  exact wrap_u_ofNat .u16 rfl _ (x ^^^ y).isLt
theorem wrap_add16 (x y : BitVec 16) : IntKind.u16.wrap ((x.toNat : Int) + (y.toNat : Int)) = ((x + y).toNat : Int) := by
  rw [wrap_u_toNat .u16 rfl]; show ((BitVec.ofInt 16 _).toNat : Int) = _
  rw [BitVec.ofInt_add, ofInt_toNat, ofInt_toNat]
theorem wrap_sub16 (x y : BitVec 16) : IntKind.u16.wrap ((x.toNat : Int) - (y.toNat : Int)) = ((x - y).toNat : Int) := by
  rw [wrap_u_toNat .u16 rfl]; show ((BitVec.ofInt 16 _).toNat : Int) = _
  rw [ofInt_sub', ofInt_toNat, ofInt_toNat]
theorem wrap_mul16 (x y : BitVec 16) : IntKind.u16.wrap ((x.toNat : Int) * (y.toNat : Int)) = ((x * y).toNat : Int) := by
  rw [wrap_u_toNat .u16 rfl]; show ((BitVec.ofInt 16 _).toNat : Int) = _
  rw [BitVec.ofInt_mul, ofInt_toNat, ofInt_toNat]
theorem bits_and32 (x y : BitVec 32) : bits .and .u32 (x.toNat : Int) (y.toNat : Int) = ((x &&& y).toNat : Int) := by
  show IntKind.u32.wrap (((BitVec.ofInt 32 (x.toNat : Int)) &&& (BitVec.ofInt 32 (y.toNat : Int))).toNat : Int) = _
  rw [ofInt_toNat, ofInt_toNat]
  exact wrap_u_ofNat .u32 rfl _ (x &&& y).isLt
theorem bits_or32 (x y : BitVec 32) : bits .or .u32 (x.toNat : Int) (y.toNat : Int) = ((x ||| y).toNat : Int) := by
  show IntKind.u32.wrap (((BitVec.ofInt 32 (x.toNat : Int)) ||| (BitVec.ofInt 32 (y.toNat : Int))).toNat : Int) = _
  rw [ofInt_toNat, ofInt_toNat]
  exact wrap_u_ofNat .u32 rfl _ (x ||| y).isLt
theorem bits_xor32 (x y : BitVec 32) : bits .xor .u32 (x.toNat : Int) (y.toNat : Int) = ((x ^^^ y).toNat : Int) := by
  show IntKind.u32.wrap (((BitVec.ofInt 32 (x.toNat : Int)) ^^^ (BitVec.ofInt 32 (y.toNat : Int))).toNat : Int) = _
  rw [ofInt_toNat, ofInt_toNat]
  exact wrap_u_ofNat .u32 rfl _ (x ^^^ y).isLt
theorem wrap_add32 (x y : BitVec 32) : IntKind.u32.wrap ((x.toNat : Int) + (y.toNat : Int)) = ((x + y).toNat : Int) := by
  rw [wrap_u_toNat .u32 rfl]; show ((BitVec.ofInt 32 _).toNat : Int) = _
  rw [BitVec.ofInt_add, ofInt_toNat, ofInt_toNat]
theorem wrap_sub32 (x y : BitVec 32) : IntKind.u32.wrap ((x.toNat : Int) - (y.toNat : Int)) = ((x - y).toNat : Int) := by
  rw [wrap_u_toNat .u32 rfl]; show ((BitVec.ofInt 32 _).toNat : Int) = _
  rw [ofInt_sub', ofInt_toNat, ofInt_toNat]
theorem wrap_mul32 (x y : BitVec 32) : IntKind.u32.wrap ((x.toNat : Int) * (y.toNat : Int)) = ((x * y).toNat : Int) := by
  rw [wrap_u_toNat .u32 rfl]; show ((BitVec.ofInt 32 _).toNat : Int) = _
  rw [BitVec.ofInt_mul, ofInt_toNat, ofInt_toNat]
theorem bits_and64 (x y : BitVec 64) : bits .and .u64 (x.toNat : Int) (y.toNat : Int) = ((x &&& y).toNat : Int) := by
  show IntKind.u64.wrap (((BitVec.ofInt 64 (x.toNat : Int)) &&& (BitVec.ofInt 64 (y.toNat : Int))).toNat : Int) = _
  rw [ofInt_toNat, ofInt_toNat]
  exact wrap_u_ofNat .u64 rfl _ (x &&& y).isLt
theorem bits_or64 (x y : BitVec 64) : bits .or .u64 (x.toNat : Int) (y.toNat : Int) = ((x ||| y).toNat : Int) := by
  show IntKind.u64.wrap (((BitVec.ofInt 64 (x.toNat : Int)) ||| (BitVec.ofInt 64 (y.toNat : Int))).toNat : Int) = _
  rw [ofInt_toNat, ofInt_toNat]
  exact wrap_u_ofNat .u64 rfl _ (x ||| y).isLt
theorem bits_xor64 (x y : BitVec 64) : bits .xor .u64 (x.toNat : Int) (y.toNat : Int) = ((x ^^^ y).toNat : Int) := by
  show IntKind.u64.wrap (((BitVec.ofInt 64 (x.toNat : Int)) ^^^ (BitVec.ofInt 64 (y.toNat : Int))).toNat : Int) = _
  rw [ofInt_toNat, ofInt_toNat]
  exact wrap_u_ofNat .u64 rfl _ (x ^^^ y).isLt
theorem wrap_add64 (x y : BitVec 64) : IntKind.u64.wrap ((x.toNat : Int) + (y.toNat : Int)) = ((x + y).toNat : Int) := by
  rw [wrap_u_toNat .u64 rfl]; show ((BitVec.ofInt 64 _).toNat : Int) = _
  rw [BitVec.ofInt_add, ofInt_toNat, ofInt_toNat]
theorem wrap_sub64 (x y : BitVec 64) : IntKind.u64.wrap ((x.toNat : Int) - (y.toNat : Int)) = ((x - y).toNat : Int) := by
  rw [wrap_u_toNat .u64 rfl]; show ((BitVec.ofInt 64 _).toNat : Int) = _
  rw [ofInt_sub', ofInt_toNat, ofInt_toNat]
theorem wrap_mul64 (x y : BitVec 64) : IntKind.u64.wrap ((x.toNat : Int) * (y.toNat : Int)) = ((x * y).toNat : Int) := by
  rw [wrap_u_toNat .u64 rfl]; show ((BitVec.ofInt 64 _).toNat : Int) = _
  rw [BitVec.ofInt_mul, ofInt_toNat, ofInt_toNat]
def vcells (v : Value) : Array Value := v.cells
@[go_sem ↓ high] theorem cells_own (v : Value) : v.cells = vcells v := rfl
@[go_sem] theorem vcells_bool (b : Bool) : vcells (.bool b) = #[.bool b] := rfl
@[go_sem] theorem vcells_int (k : IntKind) (n : Int) : vcells (.int k n) = #[.int k n] := rfl
@[go_sem] theorem vcells_string (s : ByteArray) : vcells (.string s) = #[.string s] := rfl
@[go_sem] theorem vcells_pointer (a : Option Addr) : vcells (.pointer a) = #[.pointer a] := rfl
@[go_sem] theorem vcells_slice (a : Option Addr) (n c : Nat) : vcells (.slice a n c) = #[.slice a n c] := rfl
@[go_sem] theorem vcells_map (r : Option Nat) : vcells (.map r) = #[.map r] := rfl
@[go_sem] theorem vcells_chan (r : Option Nat) : vcells (.chan r) = #[.chan r] := rfl
@[go_sem] theorem vcells_func (f : Fn) (a b : Array Value) : vcells (.func f a b) = #[.func f a b] := rfl
@[go_sem] theorem vcells_nilFunc : vcells .nilFunc = #[.nilFunc] := rfl
@[go_sem] theorem vcells_iface (t : TypeId) (v : Value) : vcells (.iface t v) = #[.iface t v] := rfl
@[go_sem] theorem vcells_nilIface : vcells .nilIface = #[.nilIface] := rfl
@[go_sem] theorem vcells_agg (cs : Array Value) : vcells (.agg cs) = cs := rfl
@[go_sem] theorem vcells_tuple (cs : Array Value) : vcells (.tuple cs) = #[.tuple cs] := rfl
def vint (v : Value) : Sem (IntKind × Int) := asIntOf v
@[go_sem ↓ high] theorem asIntOf_own (v : Value) : asIntOf v = vint v := rfl
@[go_sem] theorem vint_int (k : IntKind) (n : Int) : vint (.int k n) = pure (k, n) := rfl

section
variable (t : TypeId)
@[go_sem] theorem bw8_and (x y : BitVec 8) : binOp .and t (W8 x) (W8 y) = pure (W8 (x &&& y)) := by
  show binOp .and t (.int .u8 _) (.int .u8 _) = _
  rw [binOp_and, intBits_and, bits_and8]; rfl
@[go_sem] theorem bw8_or (x y : BitVec 8) : binOp .or t (W8 x) (W8 y) = pure (W8 (x ||| y)) := by
  show binOp .or t (.int .u8 _) (.int .u8 _) = _
  rw [binOp_or, intBits_or, bits_or8]; rfl
@[go_sem] theorem bw8_xor (x y : BitVec 8) : binOp .xor t (W8 x) (W8 y) = pure (W8 (x ^^^ y)) := by
  show binOp .xor t (.int .u8 _) (.int .u8 _) = _
  rw [binOp_xor, intBits_xor, bits_xor8]; rfl
@[go_sem] theorem bw8_add (x y : BitVec 8) : binOp .add t (W8 x) (W8 y) = pure (W8 (x + y)) := by
  show binOp .add t (.int .u8 _) (.int .u8 _) = _
  rw [binOp_add]; show (pure (Value.int .u8 (IntKind.u8.wrap ((x.toNat : Int) + (y.toNat : Int)))) : Sem Value) = _
  rw [wrap_add8]; rfl
@[go_sem] theorem bw8_sub (x y : BitVec 8) : binOp .sub t (W8 x) (W8 y) = pure (W8 (x - y)) := by
  show binOp .sub t (.int .u8 _) (.int .u8 _) = _
  rw [binOp_sub]; show (pure (Value.int .u8 (IntKind.u8.wrap ((x.toNat : Int) - (y.toNat : Int)))) : Sem Value) = _
  rw [wrap_sub8]; rfl
@[go_sem] theorem bw8_mul (x y : BitVec 8) : binOp .mul t (W8 x) (W8 y) = pure (W8 (x * y)) := by
  show binOp .mul t (.int .u8 _) (.int .u8 _) = _
  rw [binOp_mul]; show (pure (Value.int .u8 (IntKind.u8.wrap ((x.toNat : Int) * (y.toNat : Int)))) : Sem Value) = _
  rw [wrap_mul8]; rfl
theorem W8_of (n : Int) (h0 : 0 ≤ n) (h : n < 2 ^ 8) : Value.int .u8 n = W8 (BitVec.ofInt 8 n) := by
  have : IntKind.u8.wrap n = n := by
    obtain ⟨m, rfl⟩ := Int.eq_ofNat_of_zero_le h0
    exact wrap_u_ofNat .u8 rfl m (by show m < 2 ^ 8; omega)
  have e := wrap_u_toNat .u8 rfl n
  rw [this] at e; unfold W8; rw [show ((BitVec.ofInt 8 n).toNat : Int) = n from e.symm]
@[go_sem] theorem bw8_and_l (x : BitVec 8) (n : Int) (h0 : 0 ≤ n) (h : n < 256) : binOp .and t (.int .u8 n) (W8 x) = pure (W8 ((BitVec.ofInt 8 n) &&& x)) := by
  rw [W8_of n h0 (by exact h), bw8_and]
@[go_sem] theorem bw8_and_r (x : BitVec 8) (n : Int) (h0 : 0 ≤ n) (h : n < 256) : binOp .and t (W8 x) (.int .u8 n) = pure (W8 (x &&& (BitVec.ofInt 8 n))) := by
  rw [W8_of n h0 (by exact h), bw8_and]
@[go_sem] theorem bw8_or_l (x : BitVec 8) (n : Int) (h0 : 0 ≤ n) (h : n < 256) : binOp .or t (.int .u8 n) (W8 x) = pure (W8 ((BitVec.ofInt 8 n) ||| x)) := by
  rw [W8_of n h0 (by exact h), bw8_or]
@[go_sem] theorem bw8_or_r (x : BitVec 8) (n : Int) (h0 : 0 ≤ n) (h : n < 256) : binOp .or t (W8 x) (.int .u8 n) = pure (W8 (x ||| (BitVec.ofInt 8 n))) := by
  rw [W8_of n h0 (by exact h), bw8_or]
@[go_sem] theorem bw8_xor_l (x : BitVec 8) (n : Int) (h0 : 0 ≤ n) (h : n < 256) : binOp .xor t (.int .u8 n) (W8 x) = pure (W8 ((BitVec.ofInt 8 n) ^^^ x)) := by
  rw [W8_of n h0 (by exact h), bw8_xor]
@[go_sem] theorem bw8_xor_r (x : BitVec 8) (n : Int) (h0 : 0 ≤ n) (h : n < 256) : binOp .xor t (W8 x) (.int .u8 n) = pure (W8 (x ^^^ (BitVec.ofInt 8 n))) := by
  rw [W8_of n h0 (by exact h), bw8_xor]
@[go_sem] theorem bw8_add_l (x : BitVec 8) (n : Int) (h0 : 0 ≤ n) (h : n < 256) : binOp .add t (.int .u8 n) (W8 x) = pure (W8 ((BitVec.ofInt 8 n) + x)) := by
  rw [W8_of n h0 (by exact h), bw8_add]
@[go_sem] theorem bw8_add_r (x : BitVec 8) (n : Int) (h0 : 0 ≤ n) (h : n < 256) : binOp .add t (W8 x) (.int .u8 n) = pure (W8 (x + (BitVec.ofInt 8 n))) := by
  rw [W8_of n h0 (by exact h), bw8_add]
@[go_sem] theorem bw8_sub_l (x : BitVec 8) (n : Int) (h0 : 0 ≤ n) (h : n < 256) : binOp .sub t (.int .u8 n) (W8 x) = pure (W8 ((BitVec.ofInt 8 n) - x)) := by
  rw [W8_of n h0 (by exact h), bw8_sub]
@[go_sem] theorem bw8_sub_r (x : BitVec 8) (n : Int) (h0 : 0 ≤ n) (h : n < 256) : binOp .sub t (W8 x) (.int .u8 n) = pure (W8 (x - (BitVec.ofInt 8 n))) := by
  rw [W8_of n h0 (by exact h), bw8_sub]
@[go_sem] theorem bw8_mul_l (x : BitVec 8) (n : Int) (h0 : 0 ≤ n) (h : n < 256) : binOp .mul t (.int .u8 n) (W8 x) = pure (W8 ((BitVec.ofInt 8 n) * x)) := by
  rw [W8_of n h0 (by exact h), bw8_mul]
@[go_sem] theorem bw8_mul_r (x : BitVec 8) (n : Int) (h0 : 0 ≤ n) (h : n < 256) : binOp .mul t (W8 x) (.int .u8 n) = pure (W8 (x * (BitVec.ofInt 8 n))) := by
  rw [W8_of n h0 (by exact h), bw8_mul]
@[go_sem] theorem bw8_eql (x y : BitVec 8) : binOp .eql t (W8 x) (W8 y) = pure (.bool (x == y)) := by
  show binOp .eql t (.int .u8 _) (.int .u8 _) = _
  rw [binOp_eql]; congr 2; rw [Bool.eq_iff_iff]; simp [toNat_eq_iff]
@[go_sem] theorem bw8_neq (x y : BitVec 8) : binOp .neq t (W8 x) (W8 y) = pure (.bool (x != y)) := by
  show binOp .neq t (.int .u8 _) (.int .u8 _) = _
  rw [binOp_neq]; congr 2; rw [Bool.eq_iff_iff]; simp [toNat_eq_iff]
@[go_sem] theorem bw8_eql_l (x : BitVec 8) (n : Int) (h0 : 0 ≤ n) (h : n < 256) : binOp .eql t (.int .u8 n) (W8 x) = pure (.bool ((BitVec.ofInt 8 n) == x)) := by
  rw [W8_of n h0 (by exact h), bw8_eql]
@[go_sem] theorem bw8_neq_l (x : BitVec 8) (n : Int) (h0 : 0 ≤ n) (h : n < 256) : binOp .neq t (.int .u8 n) (W8 x) = pure (.bool ((BitVec.ofInt 8 n) != x)) := by
  rw [W8_of n h0 (by exact h), bw8_neq]
@[go_sem] theorem bw8_eql_r (x : BitVec 8) (n : Int) (h0 : 0 ≤ n) (h : n < 256) : binOp .eql t (W8 x) (.int .u8 n) = pure (.bool (x == (BitVec.ofInt 8 n))) := by
  rw [W8_of n h0 (by exact h), bw8_eql]
@[go_sem] theorem bw8_neq_r (x : BitVec 8) (n : Int) (h0 : 0 ≤ n) (h : n < 256) : binOp .neq t (W8 x) (.int .u8 n) = pure (.bool (x != (BitVec.ofInt 8 n))) := by
  rw [W8_of n h0 (by exact h), bw8_neq]
@[go_sem] theorem bw8_lss (x y : BitVec 8) : binOp .lss t (W8 x) (W8 y) = pure (.bool (decide ((x.toNat : Int) < (y.toNat : Int)))) := by
  show binOp .lss t (.int .u8 _) (.int .u8 _) = _
  rw [binOp_lss]
@[go_sem] theorem bw8_lss_l (x : BitVec 8) (n : Int) : binOp .lss t (.int .u8 n) (W8 x) = pure (.bool (decide (n < (x.toNat : Int)))) := by
  show binOp .lss t (.int .u8 _) (.int .u8 _) = _
  rw [binOp_lss]
@[go_sem] theorem bw8_lss_r (x : BitVec 8) (n : Int) : binOp .lss t (W8 x) (.int .u8 n) = pure (.bool (decide ((x.toNat : Int) < n))) := by
  show binOp .lss t (.int .u8 _) (.int .u8 _) = _
  rw [binOp_lss]
@[go_sem] theorem bw8_leq (x y : BitVec 8) : binOp .leq t (W8 x) (W8 y) = pure (.bool (decide ((x.toNat : Int) ≤ (y.toNat : Int)))) := by
  show binOp .leq t (.int .u8 _) (.int .u8 _) = _
  rw [binOp_leq]
@[go_sem] theorem bw8_leq_l (x : BitVec 8) (n : Int) : binOp .leq t (.int .u8 n) (W8 x) = pure (.bool (decide (n ≤ (x.toNat : Int)))) := by
  show binOp .leq t (.int .u8 _) (.int .u8 _) = _
  rw [binOp_leq]
@[go_sem] theorem bw8_leq_r (x : BitVec 8) (n : Int) : binOp .leq t (W8 x) (.int .u8 n) = pure (.bool (decide ((x.toNat : Int) ≤ n))) := by
  show binOp .leq t (.int .u8 _) (.int .u8 _) = _
  rw [binOp_leq]
@[go_sem] theorem bw8_gtr (x y : BitVec 8) : binOp .gtr t (W8 x) (W8 y) = pure (.bool (decide ((x.toNat : Int) > (y.toNat : Int)))) := by
  show binOp .gtr t (.int .u8 _) (.int .u8 _) = _
  rw [binOp_gtr]
@[go_sem] theorem bw8_gtr_l (x : BitVec 8) (n : Int) : binOp .gtr t (.int .u8 n) (W8 x) = pure (.bool (decide (n > (x.toNat : Int)))) := by
  show binOp .gtr t (.int .u8 _) (.int .u8 _) = _
  rw [binOp_gtr]
@[go_sem] theorem bw8_gtr_r (x : BitVec 8) (n : Int) : binOp .gtr t (W8 x) (.int .u8 n) = pure (.bool (decide ((x.toNat : Int) > n))) := by
  show binOp .gtr t (.int .u8 _) (.int .u8 _) = _
  rw [binOp_gtr]
@[go_sem] theorem bw8_geq (x y : BitVec 8) : binOp .geq t (W8 x) (W8 y) = pure (.bool (decide ((x.toNat : Int) ≥ (y.toNat : Int)))) := by
  show binOp .geq t (.int .u8 _) (.int .u8 _) = _
  rw [binOp_geq]
@[go_sem] theorem bw8_geq_l (x : BitVec 8) (n : Int) : binOp .geq t (.int .u8 n) (W8 x) = pure (.bool (decide (n ≥ (x.toNat : Int)))) := by
  show binOp .geq t (.int .u8 _) (.int .u8 _) = _
  rw [binOp_geq]
@[go_sem] theorem bw8_geq_r (x : BitVec 8) (n : Int) : binOp .geq t (W8 x) (.int .u8 n) = pure (.bool (decide ((x.toNat : Int) ≥ n))) := by
  show binOp .geq t (.int .u8 _) (.int .u8 _) = _
  rw [binOp_geq]
@[go_sem] theorem bw16_and (x y : BitVec 16) : binOp .and t (W16 x) (W16 y) = pure (W16 (x &&& y)) := by
  show binOp .and t (.int .u16 _) (.int .u16 _) = _
  rw [binOp_and, intBits_and, bits_and16]; rfl
@[go_sem] theorem bw16_or (x y : BitVec 16) : binOp .or t (W16 x) (W16 y) = pure (W16 (x ||| y)) := by
  show binOp .or t (.int .u16 _) (.int .u16 _) = _
  rw [binOp_or, intBits_or, bits_or16]; rfl
@[go_sem] theorem bw16_xor (x y : BitVec 16) : binOp .xor t (W16 x) (W16 y) = pure (W16 (x ^^^ y)) := by
  show binOp .xor t (.int .u16 _) (.int .u16 _) = _
  rw [binOp_xor, intBits_xor, bits_xor16]; rfl
@[go_sem] theorem bw16_add (x y : BitVec 16) : binOp .add t (W16 x) (W16 y) = pure (W16 (x + y)) := by
  show binOp .add t (.int .u16 _) (.int .u16 _) = _
  rw [binOp_add]; show (pure (Value.int .u16 (IntKind.u16.wrap ((x.toNat : Int) + (y.toNat : Int)))) : Sem Value) = _
  rw [wrap_add16]; rfl
@[go_sem] theorem bw16_sub (x y : BitVec 16) : binOp .sub t (W16 x) (W16 y) = pure (W16 (x - y)) := by
  show binOp .sub t (.int .u16 _) (.int .u16 _) = _
  rw [binOp_sub]; show (pure (Value.int .u16 (IntKind.u16.wrap ((x.toNat : Int) - (y.toNat : Int)))) : Sem Value) = _
  rw [wrap_sub16]; rfl
@[go_sem] theorem bw16_mul (x y : BitVec 16) : binOp .mul t (W16 x) (W16 y) = pure (W16 (x * y)) := by
  show binOp .mul t (.int .u16 _) (.int .u16 _) = _
  rw [binOp_mul]; show (pure (Value.int .u16 (IntKind.u16.wrap ((x.toNat : Int) * (y.toNat : Int)))) : Sem Value) = _
  rw [wrap_mul16]; rfl
theorem W16_of (n : Int) (h0 : 0 ≤ n) (h : n < 2 ^ 16) : Value.int .u16 n = W16 (BitVec.ofInt 16 n) := by
  have : IntKind.u16.wrap n = n := by
    obtain ⟨m, rfl⟩ := Int.eq_ofNat_of_zero_le h0
    exact wrap_u_ofNat .u16 rfl m (by show m < 2 ^ 16; omega)
  have e := wrap_u_toNat .u16 rfl n
  rw [this] at e; unfold W16; rw [show ((BitVec.ofInt 16 n).toNat : Int) = n from e.symm]
@[go_sem] theorem bw16_and_l (x : BitVec 16) (n : Int) (h0 : 0 ≤ n) (h : n < 65536) : binOp .and t (.int .u16 n) (W16 x) = pure (W16 ((BitVec.ofInt 16 n) &&& x)) := by
  rw [W16_of n h0 (by exact h), bw16_and]
@[go_sem] theorem bw16_and_r (x : BitVec 16) (n : Int) (h0 : 0 ≤ n) (h : n < 65536) : binOp .and t (W16 x) (.int .u16 n) = pure (W16 (x &&& (BitVec.ofInt 16 n))) := by
  rw [W16_of n h0 (by exact h), bw16_and]
@[go_sem] theorem bw16_or_l (x : BitVec 16) (n : Int) (h0 : 0 ≤ n) (h : n < 65536) : binOp .or t (.int .u16 n) (W16 x) = pure (W16 ((BitVec.ofInt 16 n) ||| x)) := by
  rw [W16_of n h0 (by exact h), bw16_or]
@[go_sem] theorem bw16_or_r (x : BitVec 16) (n : Int) (h0 : 0 ≤ n) (h : n < 65536) : binOp .or t (W16 x) (.int .u16 n) = pure (W16 (x ||| (BitVec.ofInt 16 n))) := by
  rw [W16_of n h0 (by exact h), bw16_or]
@[go_sem] theorem bw16_xor_l (x : BitVec 16) (n : Int) (h0 : 0 ≤ n) (h : n < 65536) : binOp .xor t (.int .u16 n) (W16 x) = pure (W16 ((BitVec.ofInt 16 n) ^^^ x)) := by
  rw [W16_of n h0 (by exact h), bw16_xor]
@[go_sem] theorem bw16_xor_r (x : BitVec 16) (n : Int) (h0 : 0 ≤ n) (h : n < 65536) : binOp .xor t (W16 x) (.int .u16 n) = pure (W16 (x ^^^ (BitVec.ofInt 16 n))) := by
  rw [W16_of n h0 (by exact h), bw16_xor]
@[go_sem] theorem bw16_add_l (x : BitVec 16) (n : Int) (h0 : 0 ≤ n) (h : n < 65536) : binOp .add t (.int .u16 n) (W16 x) = pure (W16 ((BitVec.ofInt 16 n) + x)) := by
  rw [W16_of n h0 (by exact h), bw16_add]
@[go_sem] theorem bw16_add_r (x : BitVec 16) (n : Int) (h0 : 0 ≤ n) (h : n < 65536) : binOp .add t (W16 x) (.int .u16 n) = pure (W16 (x + (BitVec.ofInt 16 n))) := by
  rw [W16_of n h0 (by exact h), bw16_add]
@[go_sem] theorem bw16_sub_l (x : BitVec 16) (n : Int) (h0 : 0 ≤ n) (h : n < 65536) : binOp .sub t (.int .u16 n) (W16 x) = pure (W16 ((BitVec.ofInt 16 n) - x)) := by
  rw [W16_of n h0 (by exact h), bw16_sub]
@[go_sem] theorem bw16_sub_r (x : BitVec 16) (n : Int) (h0 : 0 ≤ n) (h : n < 65536) : binOp .sub t (W16 x) (.int .u16 n) = pure (W16 (x - (BitVec.ofInt 16 n))) := by
  rw [W16_of n h0 (by exact h), bw16_sub]
@[go_sem] theorem bw16_mul_l (x : BitVec 16) (n : Int) (h0 : 0 ≤ n) (h : n < 65536) : binOp .mul t (.int .u16 n) (W16 x) = pure (W16 ((BitVec.ofInt 16 n) * x)) := by
  rw [W16_of n h0 (by exact h), bw16_mul]
@[go_sem] theorem bw16_mul_r (x : BitVec 16) (n : Int) (h0 : 0 ≤ n) (h : n < 65536) : binOp .mul t (W16 x) (.int .u16 n) = pure (W16 (x * (BitVec.ofInt 16 n))) := by
  rw [W16_of n h0 (by exact h), bw16_mul]
@[go_sem] theorem bw16_eql (x y : BitVec 16) : binOp .eql t (W16 x) (W16 y) = pure (.bool (x == y)) := by
  show binOp .eql t (.int .u16 _) (.int .u16 _) = _
  rw [binOp_eql]; congr 2; rw [Bool.eq_iff_iff]; simp [toNat_eq_iff]
@[go_sem] theorem bw16_neq (x y : BitVec 16) : binOp .neq t (W16 x) (W16 y) = pure (.bool (x != y)) := by
  show binOp .neq t (.int .u16 _) (.int .u16 _) = _
  rw [binOp_neq]; congr 2; rw [Bool.eq_iff_iff]; simp [toNat_eq_iff]
@[go_sem] theorem bw16_eql_l (x : BitVec 16) (n : Int) (h0 : 0 ≤ n) (h : n < 65536) : binOp .eql t (.int .u16 n) (W16 x) = pure (.bool ((BitVec.ofInt 16 n) == x)) := by
  rw [W16_of n h0 (by exact h), bw16_eql]
@[go_sem] theorem bw16_neq_l (x : BitVec 16) (n : Int) (h0 : 0 ≤ n) (h : n < 65536) : binOp .neq t (.int .u16 n) (W16 x) = pure (.bool ((BitVec.ofInt 16 n) != x)) := by
  rw [W16_of n h0 (by exact h), bw16_neq]
@[go_sem] theorem bw16_eql_r (x : BitVec 16) (n : Int) (h0 : 0 ≤ n) (h : n < 65536) : binOp .eql t (W16 x) (.int .u16 n) = pure (.bool (x == (BitVec.ofInt 16 n))) := by
  rw [W16_of n h0 (by exact h), bw16_eql]
@[go_sem] theorem bw16_neq_r (x : BitVec 16) (n : Int) (h0 : 0 ≤ n) (h : n < 65536) : binOp .neq t (W16 x) (.int .u16 n) = pure (.bool (x != (BitVec.ofInt 16 n))) := by
  rw [W16_of n h0 (by exact h), bw16_neq]
@[go_sem] theorem bw16_lss (x y : BitVec 16) : binOp .lss t (W16 x) (W16 y) = pure (.bool (decide ((x.toNat : Int) < (y.toNat : Int)))) := by
  show binOp .lss t (.int .u16 _) (.int .u16 _) = _
  rw [binOp_lss]
@[go_sem] theorem bw16_lss_l (x : BitVec 16) (n : Int) : binOp .lss t (.int .u16 n) (W16 x) = pure (.bool (decide (n < (x.toNat : Int)))) := by
  show binOp .lss t (.int .u16 _) (.int .u16 _) = _
  rw [binOp_lss]
@[go_sem] theorem bw16_lss_r (x : BitVec 16) (n : Int) : binOp .lss t (W16 x) (.int .u16 n) = pure (.bool (decide ((x.toNat : Int) < n))) := by
  show binOp .lss t (.int .u16 _) (.int .u16 _) = _
  rw [binOp_lss]
@[go_sem] theorem bw16_leq (x y : BitVec 16) : binOp .leq t (W16 x) (W16 y) = pure (.bool (decide ((x.toNat : Int) ≤ (y.toNat : Int)))) := by
  show binOp .leq t (.int .u16 _) (.int .u16 _) = _
  rw [binOp_leq]
@[go_sem] theorem bw16_leq_l (x : BitVec 16) (n : Int) : binOp .leq t (.int .u16 n) (W16 x) = pure (.bool (decide (n ≤ (x.toNat : Int)))) := by
  show binOp .leq t (.int .u16 _) (.int .u16 _) = _
  rw [binOp_leq]
@[go_sem] theorem bw16_leq_r (x : BitVec 16) (n : Int) : binOp .leq t (W16 x) (.int .u16 n) = pure (.bool (decide ((x.toNat : Int) ≤ n))) := by
  show binOp .leq t (.int .u16 _) (.int .u16 _) = _
  rw [binOp_leq]
@[go_sem] theorem bw16_gtr (x y : BitVec 16) : binOp .gtr t (W16 x) (W16 y) = pure (.bool (decide ((x.toNat : Int) > (y.toNat : Int)))) := by
  show binOp .gtr t (.int .u16 _) (.int .u16 _) = _
  rw [binOp_gtr]
@[go_sem] theorem bw16_gtr_l (x : BitVec 16) (n : Int) : binOp .gtr t (.int .u16 n) (W16 x) = pure (.bool (decide (n > (x.toNat : Int)))) := by
  show binOp .gtr t (.int .u16 _) (.int .u16 _) = _
  rw [binOp_gtr]
@[go_sem] theorem bw16_gtr_r (x : BitVec 16) (n : Int) : binOp .gtr t (W16 x) (.int .u16 n) = pure (.bool (decide ((x.toNat : Int) > n))) := by
  show binOp .gtr t (.int .u16 _) (.int .u16 _) = _
  rw [binOp_gtr]
@[go_sem] theorem bw16_geq (x y : BitVec 16) : binOp .geq t (W16 x) (W16 y) = pure (.bool (decide ((x.toNat : Int) ≥ (y.toNat : Int)))) := by
  show binOp .geq t (.int .u16 _) (.int .u16 _) = _
  rw [binOp_geq]
@[go_sem] theorem bw16_geq_l (x : BitVec 16) (n : Int) : binOp .geq t (.int .u16 n) (W16 x) = pure (.bool (decide (n ≥ (x.toNat : Int)))) := by
  show binOp .geq t (.int .u16 _) (.int .u16 _) = _
  rw [binOp_geq]
@[go_sem] theorem bw16_geq_r (x : BitVec 16) (n : Int) : binOp .geq t (W16 x) (.int .u16 n) = pure (.bool (decide ((x.toNat : Int) ≥ n))) := by
  show binOp .geq t (.int .u16 _) (.int .u16 _) = _
  rw [binOp_geq]
@[go_sem] theorem bw32_and (x y : BitVec 32) : binOp .and t (W32 x) (W32 y) = pure (W32 (x &&& y)) := by
  show binOp .and t (.int .u32 _) (.int .u32 _) = _
  rw [binOp_and, intBits_and, bits_and32]; rfl
@[go_sem] theorem bw32_or (x y : BitVec 32) : binOp .or t (W32 x) (W32 y) = pure (W32 (x ||| y)) := by
  show binOp .or t (.int .u32 _) (.int .u32 _) = _
  rw [binOp_or, intBits_or, bits_or32]; rfl
@[go_sem] theorem bw32_xor (x y : BitVec 32) : binOp .xor t (W32 x) (W32 y) = pure (W32 (x ^^^ y)) := by
  show binOp .xor t (.int .u32 _) (.int .u32 _) = _
  rw [binOp_xor, intBits_xor, bits_xor32]; rfl
@[go_sem] theorem bw32_add (x y : BitVec 32) : binOp .add t (W32 x) (W32 y) = pure (W32 (x + y)) := by
  show binOp .add t (.int .u32 _) (.int .u32 _) = _
  rw [binOp_add]; show (pure (Value.int .u32 (IntKind.u32.wrap ((x.toNat : Int) + (y.toNat : Int)))) : Sem Value) = _
  rw [wrap_add32]; rfl
@[go_sem] theorem bw32_sub (x y : BitVec 32) : binOp .sub t (W32 x) (W32 y) = pure (W32 (x - y)) := by
  show binOp .sub t (.int .u32 _) (.int .u32 _) = _
  rw [binOp_sub]; show (pure (Value.int .u32 (IntKind.u32.wrap ((x.toNat : Int) - (y.toNat : Int)))) : Sem Value) = _
  rw [wrap_sub32]; rfl
@[go_sem] theorem bw32_mul (x y : BitVec 32) : binOp .mul t (W32 x) (W32 y) = pure (W32 (x * y)) := by
  show binOp .mul t (.int .u32 _) (.int .u32 _) = _
  rw [binOp_mul]; show (pure (Value.int .u32 (IntKind.u32.wrap ((x.toNat : Int) * (y.toNat : Int)))) : Sem Value) = _
  rw [wrap_mul32]; rfl
theorem W32_of (n : Int) (h0 : 0 ≤ n) (h : n < 2 ^ 32) : Value.int .u32 n = W32 (BitVec.ofInt 32 n) := by
  have : IntKind.u32.wrap n = n := by
    obtain ⟨m, rfl⟩ := Int.eq_ofNat_of_zero_le h0
    exact wrap_u_ofNat .u32 rfl m (by show m < 2 ^ 32; omega)
  have e := wrap_u_toNat .u32 rfl n
  rw [this] at e; unfold W32; rw [show ((BitVec.ofInt 32 n).toNat : Int) = n from e.symm]
@[go_sem] theorem bw32_and_l (x : BitVec 32) (n : Int) (h0 : 0 ≤ n) (h : n < 4294967296) : binOp .and t (.int .u32 n) (W32 x) = pure (W32 ((BitVec.ofInt 32 n) &&& x)) := by
  rw [W32_of n h0 (by exact h), bw32_and]
@[go_sem] theorem bw32_and_r (x : BitVec 32) (n : Int) (h0 : 0 ≤ n) (h : n < 4294967296) : binOp .and t (W32 x) (.int .u32 n) = pure (W32 (x &&& (BitVec.ofInt 32 n))) := by
  rw [W32_of n h0 (by exact h), bw32_and]
@[go_sem] theorem bw32_or_l (x : BitVec 32) (n : Int) (h0 : 0 ≤ n) (h : n < 4294967296) : binOp .or t (.int .u32 n) (W32 x) = pure (W32 ((BitVec.ofInt 32 n) ||| x)) := by
  rw [W32_of n h0 (by exact h), bw32_or]
@[go_sem] theorem bw32_or_r (x : BitVec 32) (n : Int) (h0 : 0 ≤ n) (h : n < 4294967296) : binOp .or t (W32 x) (.int .u32 n) = pure (W32 (x ||| (BitVec.ofInt 32 n))) := by
  rw [W32_of n h0 (by exact h), bw32_or]
@[go_sem] theorem bw32_xor_l (x : BitVec 32) (n : Int) (h0 : 0 ≤ n) (h : n < 4294967296) : binOp .xor t (.int .u32 n) (W32 x) = pure (W32 ((BitVec.ofInt 32 n) ^^^ x)) := by
  rw [W32_of n h0 (by exact h), bw32_xor]
@[go_sem] theorem bw32_xor_r (x : BitVec 32) (n : Int) (h0 : 0 ≤ n) (h : n < 4294967296) : binOp .xor t (W32 x) (.int .u32 n) = pure (W32 (x ^^^ (BitVec.ofInt 32 n))) := by
  rw [W32_of n h0 (by exact h), bw32_xor]
@[go_sem] theorem bw32_add_l (x : BitVec 32) (n : Int) (h0 : 0 ≤ n) (h : n < 4294967296) : binOp .add t (.int .u32 n) (W32 x) = pure (W32 ((BitVec.ofInt 32 n) + x)) := by
  rw [W32_of n h0 (by exact h), bw32_add]
@[go_sem] theorem bw32_add_r (x : BitVec 32) (n : Int) (h0 : 0 ≤ n) (h : n < 4294967296) : binOp .add t (W32 x) (.int .u32 n) = pure (W32 (x + (BitVec.ofInt 32 n))) := by
  rw [W32_of n h0 (by exact h), bw32_add]
@[go_sem] theorem bw32_sub_l (x : BitVec 32) (n : Int) (h0 : 0 ≤ n) (h : n < 4294967296) : binOp .sub t (.int .u32 n) (W32 x) = pure (W32 ((BitVec.ofInt 32 n) - x)) := by
  rw [W32_of n h0 (by exact h), bw32_sub]
@[go_sem] theorem bw32_sub_r (x : BitVec 32) (n : Int) (h0 : 0 ≤ n) (h : n < 4294967296) : binOp .sub t (W32 x) (.int .u32 n) = pure (W32 (x - (BitVec.ofInt 32 n))) := by
  rw [W32_of n h0 (by exact h), bw32_sub]
@[go_sem] theorem bw32_mul_l (x : BitVec 32) (n : Int) (h0 : 0 ≤ n) (h : n < 4294967296) : binOp .mul t (.int .u32 n) (W32 x) = pure (W32 ((BitVec.ofInt 32 n) * x)) := by
  rw [W32_of n h0 (by exact h), bw32_mul]
@[go_sem] theorem bw32_mul_r (x : BitVec 32) (n : Int) (h0 : 0 ≤ n) (h : n < 4294967296) : binOp .mul t (W32 x) (.int .u32 n) = pure (W32 (x * (BitVec.ofInt 32 n))) := by
  rw [W32_of n h0 (by exact h), bw32_mul]
@[go_sem] theorem bw32_eql (x y : BitVec 32) : binOp .eql t (W32 x) (W32 y) = pure (.bool (x == y)) := by
  show binOp .eql t (.int .u32 _) (.int .u32 _) = _
  rw [binOp_eql]; congr 2; rw [Bool.eq_iff_iff]; simp [toNat_eq_iff]
@[go_sem] theorem bw32_neq (x y : BitVec 32) : binOp .neq t (W32 x) (W32 y) = pure (.bool (x != y)) := by
  show binOp .neq t (.int .u32 _) (.int .u32 _) = _
  rw [binOp_neq]; congr 2; rw [Bool.eq_iff_iff]; simp [toNat_eq_iff]
@[go_sem] theorem bw32_eql_l (x : BitVec 32) (n : Int) (h0 : 0 ≤ n) (h : n < 4294967296) : binOp .eql t (.int .u32 n) (W32 x) = pure (.bool ((BitVec.ofInt 32 n) == x)) := by
  rw [W32_of n h0 (by exact h), bw32_eql]
@[go_sem] theorem bw32_neq_l (x : BitVec 32) (n : Int) (h0 : 0 ≤ n) (h : n < 4294967296) : binOp .neq t (.int .u32 n) (W32 x) = pure (.bool ((BitVec.ofInt 32 n) != x)) := by
  rw [W32_of n h0 (by exact h), bw32_neq]
@[go_sem] theorem bw32_eql_r (x : BitVec 32) (n : Int) (h0 : 0 ≤ n) (h : n < 4294967296) : binOp .eql t (W32 x) (.int .u32 n) = pure (.bool (x == (BitVec.ofInt 32 n))) := by
  rw [W32_of n h0 (by exact h), bw32_eql]
@[go_sem] theorem bw32_neq_r (x : BitVec 32) (n : Int) (h0 : 0 ≤ n) (h : n < 4294967296) : binOp .neq t (W32 x) (.int .u32 n) = pure (.bool (x != (BitVec.ofInt 32 n))) := by
  rw [W32_of n h0 (by exact h), bw32_neq]
@[go_sem] theorem bw32_lss (x y : BitVec 32) : binOp .lss t (W32 x) (W32 y) = pure (.bool (decide ((x.toNat : Int) < (y.toNat : Int)))) := by
  show binOp .lss t (.int .u32 _) (.int .u32 _) = _
  rw [binOp_lss]
@[go_sem] theorem bw32_lss_l (x : BitVec 32) (n : Int) : binOp .lss t (.int .u32 n) (W32 x) = pure (.bool (decide (n < (x.toNat : Int)))) := by
  show binOp .lss t (.int .u32 _) (.int .u32 _) = _
  rw [binOp_lss]
@[go_sem] theorem bw32_lss_r (x : BitVec 32) (n : Int) : binOp .lss t (W32 x) (.int .u32 n) = pure (.bool (decide ((x.toNat : Int) < n))) := by
  show binOp .lss t (.int .u32 _) (.int .u32 _) = _
  rw [binOp_lss]
@[go_sem] theorem bw32_leq (x y : BitVec 32) : binOp .leq t (W32 x) (W32 y) = pure (.bool (decide ((x.toNat : Int) ≤ (y.toNat : Int)))) := by
  show binOp .leq t (.int .u32 _) (.int .u32 _) = _
  rw [binOp_leq]
@[go_sem] theorem bw32_leq_l (x : BitVec 32) (n : Int) : binOp .leq t (.int .u32 n) (W32 x) = pure (.bool (decide (n ≤ (x.toNat : Int)))) := by
  show binOp .leq t (.int .u32 _) (.int .u32 _) = _
  rw [binOp_leq]
@[go_sem] theorem bw32_leq_r (x : BitVec 32) (n : Int) : binOp .leq t (W32 x) (.int .u32 n) = pure (.bool (decide ((x.toNat : Int) ≤ n))) := by
  show binOp .leq t (.int .u32 _) (.int .u32 _) = _
  rw [binOp_leq]
@[go_sem] theorem bw32_gtr (x y : BitVec 32) : binOp .gtr t (W32 x) (W32 y) = pure (.bool (decide ((x.toNat : Int) > (y.toNat : Int)))) := by
  show binOp .gtr t (.int .u32 _) (.int .u32 _) = _
  rw [binOp_gtr]
@[go_sem] theorem bw32_gtr_l (x : BitVec 32) (n : Int) : binOp .gtr t (.int .u32 n) (W32 x) = pure (.bool (decide (n > (x.toNat : Int)))) := by
  show binOp .gtr t (.int .u32 _) (.int .u32 _) = _
  rw [binOp_gtr]
@[go_sem] theorem bw32_gtr_r (x : BitVec 32) (n : Int) : binOp .gtr t (W32 x) (.int .u32 n) = pure (.bool (decide ((x.toNat : Int) > n))) := by
  show binOp .gtr t (.int .u32 _) (.int .u32 _) = _
  rw [binOp_gtr]
@[go_sem] theorem bw32_geq (x y : BitVec 32) : binOp .geq t (W32 x) (W32 y) = pure (.bool (decide ((x.toNat : Int) ≥ (y.toNat : Int)))) := by
  show binOp .geq t (.int .u32 _) (.int .u32 _) = _
  rw [binOp_geq]
@[go_sem] theorem bw32_geq_l (x : BitVec 32) (n : Int) : binOp .geq t (.int .u32 n) (W32 x) = pure (.bool (decide (n ≥ (x.toNat : Int)))) := by
  show binOp .geq t (.int .u32 _) (.int .u32 _) = _
  rw [binOp_geq]
@[go_sem] theorem bw32_geq_r (x : BitVec 32) (n : Int) : binOp .geq t (W32 x) (.int .u32 n) = pure (.bool (decide ((x.toNat : Int) ≥ n))) := by
  show binOp .geq t (.int .u32 _) (.int .u32 _) = _
  rw [binOp_geq]
@[go_sem] theorem bw64_and (x y : BitVec 64) : binOp .and t (W64 x) (W64 y) = pure (W64 (x &&& y)) := by
  show binOp .and t (.int .u64 _) (.int .u64 _) = _
  rw [binOp_and, intBits_and, bits_and64]; rfl
@[go_sem] theorem bw64_or (x y : BitVec 64) : binOp .or t (W64 x) (W64 y) = pure (W64 (x ||| y)) := by
  show binOp .or t (.int .u64 _) (.int .u64 _) = _
  rw [binOp_or, intBits_or, bits_or64]; rfl
@[go_sem] theorem bw64_xor (x y : BitVec 64) : binOp .xor t (W64 x) (W64 y) = pure (W64 (x ^^^ y)) := by
  show binOp .xor t (.int .u64 _) (.int .u64 _) = _
  rw [binOp_xor, intBits_xor, bits_xor64]; rfl
@[go_sem] theorem bw64_add (x y : BitVec 64) : binOp .add t (W64 x) (W64 y) = pure (W64 (x + y)) := by
  show binOp .add t (.int .u64 _) (.int .u64 _) = _
  rw [binOp_add]; show (pure (Value.int .u64 (IntKind.u64.wrap ((x.toNat : Int) + (y.toNat : Int)))) : Sem Value) = _
  rw [wrap_add64]; rfl
@[go_sem] theorem bw64_sub (x y : BitVec 64) : binOp .sub t (W64 x) (W64 y) = pure (W64 (x - y)) := by
  show binOp .sub t (.int .u64 _) (.int .u64 _) = _
  rw [binOp_sub]; show (pure (Value.int .u64 (IntKind.u64.wrap ((x.toNat : Int) - (y.toNat : Int)))) : Sem Value) = _
  rw [wrap_sub64]; rfl
@[go_sem] theorem bw64_mul (x y : BitVec 64) : binOp .mul t (W64 x) (W64 y) = pure (W64 (x * y)) := by
  show binOp .mul t (.int .u64 _) (.int .u64 _) = _
  rw [binOp_mul]; show (pure (Value.int .u64 (IntKind.u64.wrap ((x.toNat : Int) * (y.toNat : Int)))) : Sem Value) = _
  rw [wrap_mul64]; rfl
theorem W64_of (n : Int) (h0 : 0 ≤ n) (h : n < 2 ^ 64) : Value.int .u64 n = W64 (BitVec.ofInt 64 n) := by
  have : IntKind.u64.wrap n = n := by
    obtain ⟨m, rfl⟩ := Int.eq_ofNat_of_zero_le h0
    exact wrap_u_ofNat .u64 rfl m (by show m < 2 ^ 64; omega)
  have e := wrap_u_toNat .u64 rfl n
  rw [this] at e; unfold W64; rw [show ((BitVec.ofInt 64 n).toNat : Int) = n from e.symm]
@[go_sem] theorem bw64_and_l (x : BitVec 64) (n : Int) (h0 : 0 ≤ n) (h : n < 18446744073709551616) : binOp .and t (.int .u64 n) (W64 x) = pure (W64 ((BitVec.ofInt 64 n) &&& x)) := by
  rw [W64_of n h0 (by exact h), bw64_and]
@[go_sem] theorem bw64_and_r (x : BitVec 64) (n : Int) (h0 : 0 ≤ n) (h : n < 18446744073709551616) : binOp .and t (W64 x) (.int .u64 n) = pure (W64 (x &&& (BitVec.ofInt 64 n))) := by
  rw [W64_of n h0 (by exact h), bw64_and]
@[go_sem] theorem bw64_or_l (x : BitVec 64) (n : Int) (h0 : 0 ≤ n) (h : n < 18446744073709551616) : binOp .or t (.int .u64 n) (W64 x) = pure (W64 ((BitVec.ofInt 64 n) ||| x)) := by
  rw [W64_of n h0 (by exact h), bw64_or]
@[go_sem] theorem bw64_or_r (x : BitVec 64) (n : Int) (h0 : 0 ≤ n) (h : n < 18446744073709551616) : binOp .or t (W64 x) (.int .u64 n) = pure (W64 (x ||| (BitVec.ofInt 64 n))) := by
  rw [W64_of n h0 (by exact h), bw64_or]
@[go_sem] theorem bw64_xor_l (x : BitVec 64) (n : Int) (h0 : 0 ≤ n) (h : n < 18446744073709551616) : binOp .xor t (.int .u64 n) (W64 x) = pure (W64 ((BitVec.ofInt 64 n) ^^^ x)) := by
  rw [W64_of n h0 (by exact h), bw64_xor]
@[go_sem] theorem bw64_xor_r (x : BitVec 64) (n : Int) (h0 : 0 ≤ n) (h : n < 18446744073709551616) : binOp .xor t (W64 x) (.int .u64 n) = pure (W64 (x ^^^ (BitVec.ofInt 64 n))) := by
  rw [W64_of n h0 (by exact h), bw64_xor]
@[go_sem] theorem bw64_add_l (x : BitVec 64) (n : Int) (h0 : 0 ≤ n) (h : n < 18446744073709551616) : binOp .add t (.int .u64 n) (W64 x) = pure (W64 ((BitVec.ofInt 64 n) + x)) := by
  rw [W64_of n h0 (by exact h), bw64_add]
@[go_sem] theorem bw64_add_r (x : BitVec 64) (n : Int) (h0 : 0 ≤ n) (h : n < 18446744073709551616) : binOp .add t (W64 x) (.int .u64 n) = pure (W64 (x + (BitVec.ofInt 64 n))) := by
  rw [W64_of n h0 (by exact h), bw64_add]
@[go_sem] theorem bw64_sub_l (x : BitVec 64) (n : Int) (h0 : 0 ≤ n) (h : n < 18446744073709551616) : binOp .sub t (.int .u64 n) (W64 x) = pure (W64 ((BitVec.ofInt 64 n) - x)) := by
  rw [W64_of n h0 (by exact h), bw64_sub]
@[go_sem] theorem bw64_sub_r (x : BitVec 64) (n : Int) (h0 : 0 ≤ n) (h : n < 18446744073709551616) : binOp .sub t (W64 x) (.int .u64 n) = pure (W64 (x - (BitVec.ofInt 64 n))) := by
  rw [W64_of n h0 (by exact h), bw64_sub]
@[go_sem] theorem bw64_mul_l (x : BitVec 64) (n : Int) (h0 : 0 ≤ n) (h : n < 18446744073709551616) : binOp .mul t (.int .u64 n) (W64 x) = pure (W64 ((BitVec.ofInt 64 n) * x)) := by
  rw [W64_of n h0 (by exact h), bw64_mul]
@[go_sem] theorem bw64_mul_r (x : BitVec 64) (n : Int) (h0 : 0 ≤ n) (h : n < 18446744073709551616) : binOp .mul t (W64 x) (.int .u64 n) = pure (W64 (x * (BitVec.ofInt 64 n))) := by
  rw [W64_of n h0 (by exact h), bw64_mul]
@[go_sem] theorem bw64_eql (x y : BitVec 64) : binOp .eql t (W64 x) (W64 y) = pure (.bool (x == y)) := by
  show binOp .eql t (.int .u64 _) (.int .u64 _) = _
  rw [binOp_eql]; congr 2; rw [Bool.eq_iff_iff]; simp [toNat_eq_iff]
@[go_sem] theorem bw64_neq (x y : BitVec 64) : binOp .neq t (W64 x) (W64 y) = pure (.bool (x != y)) := by
  show binOp .neq t (.int .u64 _) (.int .u64 _) = _
  rw [binOp_neq]; congr 2; rw [Bool.eq_iff_iff]; simp [toNat_eq_iff]
@[go_sem] theorem bw64_eql_l (x : BitVec 64) (n : Int) (h0 : 0 ≤ n) (h : n < 18446744073709551616) : binOp .eql t (.int .u64 n) (W64 x) = pure (.bool ((BitVec.ofInt 64 n) == x)) := by
  rw [W64_of n h0 (by exact h), bw64_eql]
@[go_sem] theorem bw64_neq_l (x : BitVec 64) (n : Int) (h0 : 0 ≤ n) (h : n < 18446744073709551616) : binOp .neq t (.int .u64 n) (W64 x) = pure (.bool ((BitVec.ofInt 64 n) != x)) := by
  rw [W64_of n h0 (by exact h), bw64_neq]
@[go_sem] theorem bw64_eql_r (x : BitVec 64) (n : Int) (h0 : 0 ≤ n) (h : n < 18446744073709551616) : binOp .eql t (W64 x) (.int .u64 n) = pure (.bool (x == (BitVec.ofInt 64 n))) := by
  rw [W64_of n h0 (by exact h), bw64_eql]
@[go_sem] theorem bw64_neq_r (x : BitVec 64) (n : Int) (h0 : 0 ≤ n) (h : n < 18446744073709551616) : binOp .neq t (W64 x) (.int .u64 n) = pure (.bool (x != (BitVec.ofInt 64 n))) := by
  rw [W64_of n h0 (by exact h), bw64_neq]
@[go_sem] theorem bw64_lss (x y : BitVec 64) : binOp .lss t (W64 x) (W64 y) = pure (.bool (decide ((x.toNat : Int) < (y.toNat : Int)))) := by
  show binOp .lss t (.int .u64 _) (.int .u64 _) = _
  rw [binOp_lss]
@[go_sem] theorem bw64_lss_l (x : BitVec 64) (n : Int) : binOp .lss t (.int .u64 n) (W64 x) = pure (.bool (decide (n < (x.toNat : Int)))) := by
  show binOp .lss t (.int .u64 _) (.int .u64 _) = _
  rw [binOp_lss]
@[go_sem] theorem bw64_lss_r (x : BitVec 64) (n : Int) : binOp .lss t (W64 x) (.int .u64 n) = pure (.bool (decide ((x.toNat : Int) < n))) := by
  show binOp .lss t (.int .u64 _) (.int .u64 _) = _
  rw [binOp_lss]
@[go_sem] theorem bw64_leq (x y : BitVec 64) : binOp .leq t (W64 x) (W64 y) = pure (.bool (decide ((x.toNat : Int) ≤ (y.toNat : Int)))) := by
  show binOp .leq t (.int .u64 _) (.int .u64 _) = _
  rw [binOp_leq]
@[go_sem] theorem bw64_leq_l (x : BitVec 64) (n : Int) : binOp .leq t (.int .u64 n) (W64 x) = pure (.bool (decide (n ≤ (x.toNat : Int)))) := by
  show binOp .leq t (.int .u64 _) (.int .u64 _) = _
  rw [binOp_leq]
@[go_sem] theorem bw64_leq_r (x : BitVec 64) (n : Int) : binOp .leq t (W64 x) (.int .u64 n) = pure (.bool (decide ((x.toNat : Int) ≤ n))) := by
  show binOp .leq t (.int .u64 _) (.int .u64 _) = _
  rw [binOp_leq]
@[go_sem] theorem bw64_gtr (x y : BitVec 64) : binOp .gtr t (W64 x) (W64 y) = pure (.bool (decide ((x.toNat : Int) > (y.toNat : Int)))) := by
  show binOp .gtr t (.int .u64 _) (.int .u64 _) = _
  rw [binOp_gtr]
@[go_sem] theorem bw64_gtr_l (x : BitVec 64) (n : Int) : binOp .gtr t (.int .u64 n) (W64 x) = pure (.bool (decide (n > (x.toNat : Int)))) := by
  show binOp .gtr t (.int .u64 _) (.int .u64 _) = _
  rw [binOp_gtr]
@[go_sem] theorem bw64_gtr_r (x : BitVec 64) (n : Int) : binOp .gtr t (W64 x) (.int .u64 n) = pure (.bool (decide ((x.toNat : Int) > n))) := by
  show binOp .gtr t (.int .u64 _) (.int .u64 _) = _
  rw [binOp_gtr]
@[go_sem] theorem bw64_geq (x y : BitVec 64) : binOp .geq t (W64 x) (W64 y) = pure (.bool (decide ((x.toNat : Int) ≥ (y.toNat : Int)))) := by
  show binOp .geq t (.int .u64 _) (.int .u64 _) = _
  rw [binOp_geq]
@[go_sem] theorem bw64_geq_l (x : BitVec 64) (n : Int) : binOp .geq t (.int .u64 n) (W64 x) = pure (.bool (decide (n ≥ (x.toNat : Int)))) := by
  show binOp .geq t (.int .u64 _) (.int .u64 _) = _
  rw [binOp_geq]
@[go_sem] theorem bw64_geq_r (x : BitVec 64) (n : Int) : binOp .geq t (W64 x) (.int .u64 n) = pure (.bool (decide ((x.toNat : Int) ≥ n))) := by
  show binOp .geq t (.int .u64 _) (.int .u64 _) = _
  rw [binOp_geq]
theorem shl_core {w : Nat} (x : BitVec w) (n : Nat) : BitVec.ofInt w ((x.toNat : Int) * 2 ^ (min n w)) = x <<< n := by
  apply BitVec.eq_of_toNat_eq
  rw [BitVec.toNat_ofInt, BitVec.toNat_shiftLeft]
  have e : ((x.toNat : Int) * 2 ^ (min n w)) % ((2 ^ w : Nat) : Int) = ((x.toNat * 2 ^ (min n w) % 2 ^ w : Nat) : Int) := by push_cast; rfl
  rw [e, Int.toNat_natCast, Nat.shiftLeft_eq]
  rcases Nat.le_total n w with h | h
  · rw [Nat.min_eq_left h]
  · rw [Nat.min_eq_right h, Nat.mul_mod_left]
    rw [show n = w + (n - w) by omega, Nat.pow_add, ← Nat.mul_assoc, Nat.mul_right_comm, Nat.mul_mod_left]
theorem shr_core {w : Nat} (x : BitVec w) (n : Nat) : ((x.toNat : Int).fdiv (2 ^ (min n w))) = ((x >>> n).toNat : Int) := by
  rw [BitVec.toNat_ushiftRight, Nat.shiftRight_eq_div_pow]
  have e : ((2 : Int) ^ (min n w)) = ((2 ^ (min n w) : Nat) : Int) := by simp
  rw [e, Int.fdiv_eq_ediv_of_nonneg _ (Int.natCast_nonneg _)]
  norm_cast
  rcases Nat.le_total n w with h | h
  · rw [Nat.min_eq_left h]
  · rw [Nat.min_eq_right h, Nat.div_eq_of_lt x.isLt, Nat.div_eq_of_lt (Nat.lt_of_lt_of_le x.isLt (Nat.pow_le_pow_right (by decide) h))]
@[go_sem] theorem bw8_shl_i (x : BitVec 8) (k : IntKind) (n : Int) (h : 0 ≤ n) : binOp .shl t (W8 x) (.int k n) = pure (W8 (x <<< n.toNat)) := by
  show binOp .shl t (.int .u8 _) (.int k n) = _
  rw [binOp_shl, Op.shift, if_neg (by omega)]
  show (pure (Value.int .u8 (IntKind.u8.wrap ((x.toNat : Int) * 2 ^ (min n.toNat 8)))) : Sem Value) = _
  rw [wrap_u_toNat .u8 rfl]; show (pure (Value.int .u8 ((BitVec.ofInt 8 ((x.toNat : Int) * 2 ^ (min n.toNat 8))).toNat : Int)) : Sem Value) = _
  rw [shl_core]; rfl
@[go_sem] theorem bw8_shl_w (x : BitVec 8) (n : BitVec 64) : binOp .shl t (W8 x) (W64 n) = pure (W8 (x <<< n.toNat)) := by
  show binOp .shl t (W8 x) (.int .u64 _) = _
  rw [bw8_shl_i _ _ _ _ (by omega), Int.toNat_natCast]
@[go_sem] theorem bw8_shr_i (x : BitVec 8) (k : IntKind) (n : Int) (h : 0 ≤ n) : binOp .shr t (W8 x) (.int k n) = pure (W8 (x >>> n.toNat)) := by
  show binOp .shr t (.int .u8 _) (.int k n) = _
  rw [binOp_shr, Op.shift, if_neg (by omega)]
  show (pure (Value.int .u8 ((x.toNat : Int).fdiv (2 ^ (min n.toNat 8)))) : Sem Value) = _
  rw [shr_core]; rfl
@[go_sem] theorem bw8_shr_w (x : BitVec 8) (n : BitVec 64) : binOp .shr t (W8 x) (W64 n) = pure (W8 (x >>> n.toNat)) := by
  show binOp .shr t (W8 x) (.int .u64 _) = _
  rw [bw8_shr_i _ _ _ _ (by omega), Int.toNat_natCast]
@[go_sem] theorem bw32_shl_i (x : BitVec 32) (k : IntKind) (n : Int) (h : 0 ≤ n) : binOp .shl t (W32 x) (.int k n) = pure (W32 (x <<< n.toNat)) := by
  show binOp .shl t (.int .u32 _) (.int k n) = _
  rw [binOp_shl, Op.shift, if_neg (by omega)]
  show (pure (Value.int .u32 (IntKind.u32.wrap ((x.toNat : Int) * 2 ^ (min n.toNat 32)))) : Sem Value) = _
  rw [wrap_u_toNat .u32 rfl]; show (pure (Value.int .u32 ((BitVec.ofInt 32 ((x.toNat : Int) * 2 ^ (min n.toNat 32))).toNat : Int)) : Sem Value) = _
  rw [shl_core]; rfl
@[go_sem] theorem bw32_shl_w (x : BitVec 32) (n : BitVec 64) : binOp .shl t (W32 x) (W64 n) = pure (W32 (x <<< n.toNat)) := by
  show binOp .shl t (W32 x) (.int .u64 _) = _
  rw [bw32_shl_i _ _ _ _ (by omega), Int.toNat_natCast]
@[go_sem] theorem bw32_shr_i (x : BitVec 32) (k : IntKind) (n : Int) (h : 0 ≤ n) : binOp .shr t (W32 x) (.int k n) = pure (W32 (x >>> n.toNat)) := by
  show binOp .shr t (.int .u32 _) (.int k n) = _
  rw [binOp_shr, Op.shift, if_neg (by omega)]
  show (pure (Value.int .u32 ((x.toNat : Int).fdiv (2 ^ (min n.toNat 32)))) : Sem Value) = _
  rw [shr_core]; rfl
@[go_sem] theorem bw32_shr_w (x : BitVec 32) (n : BitVec 64) : binOp .shr t (W32 x) (W64 n) = pure (W32 (x >>> n.toNat)) := by
  show binOp .shr t (W32 x) (.int .u64 _) = _
  rw [bw32_shr_i _ _ _ _ (by omega), Int.toNat_natCast]
@[go_sem] theorem bw64_shl_i (x : BitVec 64) (k : IntKind) (n : Int) (h : 0 ≤ n) : binOp .shl t (W64 x) (.int k n) = pure (W64 (x <<< n.toNat)) := by
  show binOp .shl t (.int .u64 _) (.int k n) = _
  rw [binOp_shl, Op.shift, if_neg (by omega)]
  show (pure (Value.int .u64 (IntKind.u64.wrap ((x.toNat : Int) * 2 ^ (min n.toNat 64)))) : Sem Value) = _
  rw [wrap_u_toNat .u64 rfl]; show (pure (Value.int .u64 ((BitVec.ofInt 64 ((x.toNat : Int) * 2 ^ (min n.toNat 64))).toNat : Int)) : Sem Value) = _
  rw [shl_core]; rfl
@[go_sem] theorem bw64_shl_w (x : BitVec 64) (n : BitVec 64) : binOp .shl t (W64 x) (W64 n) = pure (W64 (x <<< n.toNat)) := by
  show binOp .shl t (W64 x) (.int .u64 _) = _
  rw [bw64_shl_i _ _ _ _ (by omega), Int.toNat_natCast]
@[go_sem] theorem bw64_shr_i (x : BitVec 64) (k : IntKind) (n : Int) (h : 0 ≤ n) : binOp .shr t (W64 x) (.int k n) = pure (W64 (x >>> n.toNat)) := by
  show binOp .shr t (.int .u64 _) (.int k n) = _
  rw [binOp_shr, Op.shift, if_neg (by omega)]
  show (pure (Value.int .u64 ((x.toNat : Int).fdiv (2 ^ (min n.toNat 64)))) : Sem Value) = _
  rw [shr_core]; rfl
@[go_sem] theorem bw64_shr_w (x : BitVec 64) (n : BitVec 64) : binOp .shr t (W64 x) (W64 n) = pure (W64 (x >>> n.toNat)) := by
  show binOp .shr t (W64 x) (.int .u64 _) = _
  rw [bw64_shr_i _ _ _ _ (by omega), Int.toNat_natCast]
end
section
variable {P : Program} (w : World)
@[go_sem] theorem conv8_16 (src dst : TypeId) (x : BitVec 8) (hs : (P.underlying src).isSome = true) (hd : P.underlying dst = some (.int .u16)) : (convert src dst (W8 x)).run P w = .ok (W16 (x.setWidth 16)) w := by
  have hk : P.intKind dst = .u16 := by simp [Program.intKind, hd]
  have h := run_convert_int (P := P) w src dst .u8 (x.toNat : Int) hs (by rw [hk]; exact hd)
  rw [hk, wrap_u_toNat .u16 rfl] at h
  show (convert src dst (.int .u8 _)).run P w = _
  rw [h]; unfold W16
  rw [show BitVec.ofInt (IntKind.u16.bits) (x.toNat : Int) = x.setWidth 16 from by rw [BitVec.ofInt_natCast]; exact BitVec.ofNat_toNat _ _]; rfl
@[go_sem] theorem conv8_32 (src dst : TypeId) (x : BitVec 8) (hs : (P.underlying src).isSome = true) (hd : P.underlying dst = some (.int .u32)) : (convert src dst (W8 x)).run P w = .ok (W32 (x.setWidth 32)) w := by
  have hk : P.intKind dst = .u32 := by simp [Program.intKind, hd]
  have h := run_convert_int (P := P) w src dst .u8 (x.toNat : Int) hs (by rw [hk]; exact hd)
  rw [hk, wrap_u_toNat .u32 rfl] at h
  show (convert src dst (.int .u8 _)).run P w = _
  rw [h]; unfold W32
  rw [show BitVec.ofInt (IntKind.u32.bits) (x.toNat : Int) = x.setWidth 32 from by rw [BitVec.ofInt_natCast]; exact BitVec.ofNat_toNat _ _]; rfl
@[go_sem] theorem conv8_64 (src dst : TypeId) (x : BitVec 8) (hs : (P.underlying src).isSome = true) (hd : P.underlying dst = some (.int .u64)) : (convert src dst (W8 x)).run P w = .ok (W64 (x.setWidth 64)) w := by
  have hk : P.intKind dst = .u64 := by simp [Program.intKind, hd]
  have h := run_convert_int (P := P) w src dst .u8 (x.toNat : Int) hs (by rw [hk]; exact hd)
  rw [hk, wrap_u_toNat .u64 rfl] at h
  show (convert src dst (.int .u8 _)).run P w = _
  rw [h]; unfold W64
  rw [show BitVec.ofInt (IntKind.u64.bits) (x.toNat : Int) = x.setWidth 64 from by rw [BitVec.ofInt_natCast]; exact BitVec.ofNat_toNat _ _]; rfl
@[go_sem] theorem conv8_i64 (src dst : TypeId) (x : BitVec 8) (hs : (P.underlying src).isSome = true) (hd : P.underlying dst = some (.int .i64)) : (convert src dst (W8 x)).run P w = .ok (.int .i64 (IntKind.i64.wrap (x.toNat : Int))) w := by
  have hk : P.intKind dst = .i64 := by simp [Program.intKind, hd]
  have h := run_convert_int (P := P) w src dst .u8 (x.toNat : Int) hs (by rw [hk]; exact hd)
  rw [hk] at h; exact h
@[go_sem] theorem conv8_8 (src dst : TypeId) (x : BitVec 8) (hs : (P.underlying src).isSome = true) (hd : P.underlying dst = some (.int .u8)) : (convert src dst (W8 x)).run P w = .ok (W8 x) w := by
  have hk : P.intKind dst = .u8 := by simp [Program.intKind, hd]
  have h := run_convert_int (P := P) w src dst .u8 (x.toNat : Int) hs (by rw [hk]; exact hd)
  rw [hk, wrap_u_toNat .u8 rfl] at h
  show (convert src dst (.int .u8 _)).run P w = _
  rw [h, show BitVec.ofInt (IntKind.u8.bits) (x.toNat : Int) = x from ofInt_toNat x]; rfl
@[go_sem high] theorem convi_8 (src dst : TypeId) (n : Int) (hs : (P.underlying src).isSome = true) (hd : P.underlying dst = some (.int .u8)) : (convert src dst (.int .i64 n)).run P w = .ok (W8 (BitVec.ofInt 8 n)) w := by
  have hk : P.intKind dst = .u8 := by simp [Program.intKind, hd]
  have h := run_convert_int (P := P) w src dst .i64 n hs (by rw [hk]; exact hd)
  rw [hk, wrap_u_toNat .u8 rfl] at h
  exact h
@[go_sem] theorem store_W8 (a : Addr) (x : BitVec 8) (m : Mode) : (store a (W8 x) m).run P w = stored P w a (W8 x) m := run_store P w a _ m rfl
@[go_sem] theorem eqGuard_W8 (op : BinOp) (t : TypeId) (x y : Operand) (a : BitVec 8) (v : Value) : eqGuard op t x y (W8 a) v = pure () := by cases op <;> rfl
@[go_sem] theorem indexAt_W8 (t : TypeId) (v : Value) (x : BitVec 8) : Instr.indexAt t v (W8 x) = Instr.indexAt t v (.int .u8 (x.toNat : Int)) := rfl
@[go_sem] theorem index_W8 (t : TypeId) (v : Value) (x : BitVec 8) : Instr.index t v (W8 x) = Instr.index t v (.int .u8 (x.toNat : Int)) := rfl
@[go_sem] theorem vcells_W8 (x : BitVec 8) : vcells (W8 x) = #[W8 x] := rfl
@[go_sem] theorem vint_W8 (x : BitVec 8) : vint (W8 x) = pure (.u8, (x.toNat : Int)) := rfl
theorem oneCell_W8 (x : BitVec 8) : (W8 x).oneCell' = true := rfl
@[go_sem] theorem conv16_8 (src dst : TypeId) (x : BitVec 16) (hs : (P.underlying src).isSome = true) (hd : P.underlying dst = some (.int .u8)) : (convert src dst (W16 x)).run P w = .ok (W8 (x.setWidth 8)) w := by
  have hk : P.intKind dst = .u8 := by simp [Program.intKind, hd]
  have h := run_convert_int (P := P) w src dst .u16 (x.toNat : Int) hs (by rw [hk]; exact hd)
  rw [hk, wrap_u_toNat .u8 rfl] at h
  show (convert src dst (.int .u16 _)).run P w = _
  rw [h]; unfold W8
  rw [show BitVec.ofInt (IntKind.u8.bits) (x.toNat : Int) = x.setWidth 8 from by rw [BitVec.ofInt_natCast]; exact BitVec.ofNat_toNat _ _]; rfl
@[go_sem] theorem conv16_32 (src dst : TypeId) (x : BitVec 16) (hs : (P.underlying src).isSome = true) (hd : P.underlying dst = some (.int .u32)) : (convert src dst (W16 x)).run P w = .ok (W32 (x.setWidth 32)) w := by
  have hk : P.intKind dst = .u32 := by simp [Program.intKind, hd]
  have h := run_convert_int (P := P) w src dst .u16 (x.toNat : Int) hs (by rw [hk]; exact hd)
  rw [hk, wrap_u_toNat .u32 rfl] at h
  show (convert src dst (.int .u16 _)).run P w = _
  rw [h]; unfold W32
  rw [show BitVec.ofInt (IntKind.u32.bits) (x.toNat : Int) = x.setWidth 32 from by rw [BitVec.ofInt_natCast]; exact BitVec.ofNat_toNat _ _]; rfl
@[go_sem] theorem conv16_64 (src dst : TypeId) (x : BitVec 16) (hs : (P.underlying src).isSome = true) (hd : P.underlying dst = some (.int .u64)) : (convert src dst (W16 x)).run P w = .ok (W64 (x.setWidth 64)) w := by
  have hk : P.intKind dst = .u64 := by simp [Program.intKind, hd]
  have h := run_convert_int (P := P) w src dst .u16 (x.toNat : Int) hs (by rw [hk]; exact hd)
  rw [hk, wrap_u_toNat .u64 rfl] at h
  show (convert src dst (.int .u16 _)).run P w = _
  rw [h]; unfold W64
  rw [show BitVec.ofInt (IntKind.u64.bits) (x.toNat : Int) = x.setWidth 64 from by rw [BitVec.ofInt_natCast]; exact BitVec.ofNat_toNat _ _]; rfl
@[go_sem] theorem conv16_i64 (src dst : TypeId) (x : BitVec 16) (hs : (P.underlying src).isSome = true) (hd : P.underlying dst = some (.int .i64)) : (convert src dst (W16 x)).run P w = .ok (.int .i64 (IntKind.i64.wrap (x.toNat : Int))) w := by
  have hk : P.intKind dst = .i64 := by simp [Program.intKind, hd]
  have h := run_convert_int (P := P) w src dst .u16 (x.toNat : Int) hs (by rw [hk]; exact hd)
  rw [hk] at h; exact h
@[go_sem] theorem conv16_16 (src dst : TypeId) (x : BitVec 16) (hs : (P.underlying src).isSome = true) (hd : P.underlying dst = some (.int .u16)) : (convert src dst (W16 x)).run P w = .ok (W16 x) w := by
  have hk : P.intKind dst = .u16 := by simp [Program.intKind, hd]
  have h := run_convert_int (P := P) w src dst .u16 (x.toNat : Int) hs (by rw [hk]; exact hd)
  rw [hk, wrap_u_toNat .u16 rfl] at h
  show (convert src dst (.int .u16 _)).run P w = _
  rw [h, show BitVec.ofInt (IntKind.u16.bits) (x.toNat : Int) = x from ofInt_toNat x]; rfl
@[go_sem high] theorem convi_16 (src dst : TypeId) (n : Int) (hs : (P.underlying src).isSome = true) (hd : P.underlying dst = some (.int .u16)) : (convert src dst (.int .i64 n)).run P w = .ok (W16 (BitVec.ofInt 16 n)) w := by
  have hk : P.intKind dst = .u16 := by simp [Program.intKind, hd]
  have h := run_convert_int (P := P) w src dst .i64 n hs (by rw [hk]; exact hd)
  rw [hk, wrap_u_toNat .u16 rfl] at h
  exact h
@[go_sem] theorem store_W16 (a : Addr) (x : BitVec 16) (m : Mode) : (store a (W16 x) m).run P w = stored P w a (W16 x) m := run_store P w a _ m rfl
@[go_sem] theorem eqGuard_W16 (op : BinOp) (t : TypeId) (x y : Operand) (a : BitVec 16) (v : Value) : eqGuard op t x y (W16 a) v = pure () := by cases op <;> rfl
@[go_sem] theorem indexAt_W16 (t : TypeId) (v : Value) (x : BitVec 16) : Instr.indexAt t v (W16 x) = Instr.indexAt t v (.int .u16 (x.toNat : Int)) := rfl
@[go_sem] theorem index_W16 (t : TypeId) (v : Value) (x : BitVec 16) : Instr.index t v (W16 x) = Instr.index t v (.int .u16 (x.toNat : Int)) := rfl
@[go_sem] theorem vcells_W16 (x : BitVec 16) : vcells (W16 x) = #[W16 x] := rfl
@[go_sem] theorem vint_W16 (x : BitVec 16) : vint (W16 x) = pure (.u16, (x.toNat : Int)) := rfl
theorem oneCell_W16 (x : BitVec 16) : (W16 x).oneCell' = true := rfl
@[go_sem] theorem conv32_8 (src dst : TypeId) (x : BitVec 32) (hs : (P.underlying src).isSome = true) (hd : P.underlying dst = some (.int .u8)) : (convert src dst (W32 x)).run P w = .ok (W8 (x.setWidth 8)) w := by
  have hk : P.intKind dst = .u8 := by simp [Program.intKind, hd]
  have h := run_convert_int (P := P) w src dst .u32 (x.toNat : Int) hs (by rw [hk]; exact hd)
  rw [hk, wrap_u_toNat .u8 rfl] at h
  show (convert src dst (.int .u32 _)).run P w = _
  rw [h]; unfold W8
  rw [show BitVec.ofInt (IntKind.u8.bits) (x.toNat : Int) = x.setWidth 8 from by rw [BitVec.ofInt_natCast]; exact BitVec.ofNat_toNat _ _]; rfl
@[go_sem] theorem conv32_16 (src dst : TypeId) (x : BitVec 32) (hs : (P.underlying src).isSome = true) (hd : P.underlying dst = some (.int .u16)) : (convert src dst (W32 x)).run P w = .ok (W16 (x.setWidth 16)) w := by
  have hk : P.intKind dst = .u16 := by simp [Program.intKind, hd]
  have h := run_convert_int (P := P) w src dst .u32 (x.toNat : Int) hs (by rw [hk]; exact hd)
  rw [hk, wrap_u_toNat .u16 rfl] at h
  show (convert src dst (.int .u32 _)).run P w = _
  rw [h]; unfold W16
  rw [show BitVec.ofInt (IntKind.u16.bits) (x.toNat : Int) = x.setWidth 16 from by rw [BitVec.ofInt_natCast]; exact BitVec.ofNat_toNat _ _]; rfl
@[go_sem] theorem conv32_64 (src dst : TypeId) (x : BitVec 32) (hs : (P.underlying src).isSome = true) (hd : P.underlying dst = some (.int .u64)) : (convert src dst (W32 x)).run P w = .ok (W64 (x.setWidth 64)) w := by
  have hk : P.intKind dst = .u64 := by simp [Program.intKind, hd]
  have h := run_convert_int (P := P) w src dst .u32 (x.toNat : Int) hs (by rw [hk]; exact hd)
  rw [hk, wrap_u_toNat .u64 rfl] at h
  show (convert src dst (.int .u32 _)).run P w = _
  rw [h]; unfold W64
  rw [show BitVec.ofInt (IntKind.u64.bits) (x.toNat : Int) = x.setWidth 64 from by rw [BitVec.ofInt_natCast]; exact BitVec.ofNat_toNat _ _]; rfl
@[go_sem] theorem conv32_i64 (src dst : TypeId) (x : BitVec 32) (hs : (P.underlying src).isSome = true) (hd : P.underlying dst = some (.int .i64)) : (convert src dst (W32 x)).run P w = .ok (.int .i64 (IntKind.i64.wrap (x.toNat : Int))) w := by
  have hk : P.intKind dst = .i64 := by simp [Program.intKind, hd]
  have h := run_convert_int (P := P) w src dst .u32 (x.toNat : Int) hs (by rw [hk]; exact hd)
  rw [hk] at h; exact h
@[go_sem] theorem conv32_32 (src dst : TypeId) (x : BitVec 32) (hs : (P.underlying src).isSome = true) (hd : P.underlying dst = some (.int .u32)) : (convert src dst (W32 x)).run P w = .ok (W32 x) w := by
  have hk : P.intKind dst = .u32 := by simp [Program.intKind, hd]
  have h := run_convert_int (P := P) w src dst .u32 (x.toNat : Int) hs (by rw [hk]; exact hd)
  rw [hk, wrap_u_toNat .u32 rfl] at h
  show (convert src dst (.int .u32 _)).run P w = _
  rw [h, show BitVec.ofInt (IntKind.u32.bits) (x.toNat : Int) = x from ofInt_toNat x]; rfl
@[go_sem high] theorem convi_32 (src dst : TypeId) (n : Int) (hs : (P.underlying src).isSome = true) (hd : P.underlying dst = some (.int .u32)) : (convert src dst (.int .i64 n)).run P w = .ok (W32 (BitVec.ofInt 32 n)) w := by
  have hk : P.intKind dst = .u32 := by simp [Program.intKind, hd]
  have h := run_convert_int (P := P) w src dst .i64 n hs (by rw [hk]; exact hd)
  rw [hk, wrap_u_toNat .u32 rfl] at h
  exact h
@[go_sem] theorem store_W32 (a : Addr) (x : BitVec 32) (m : Mode) : (store a (W32 x) m).run P w = stored P w a (W32 x) m := run_store P w a _ m rfl
@[go_sem] theorem eqGuard_W32 (op : BinOp) (t : TypeId) (x y : Operand) (a : BitVec 32) (v : Value) : eqGuard op t x y (W32 a) v = pure () := by cases op <;> rfl
@[go_sem] theorem indexAt_W32 (t : TypeId) (v : Value) (x : BitVec 32) : Instr.indexAt t v (W32 x) = Instr.indexAt t v (.int .u32 (x.toNat : Int)) := rfl
@[go_sem] theorem index_W32 (t : TypeId) (v : Value) (x : BitVec 32) : Instr.index t v (W32 x) = Instr.index t v (.int .u32 (x.toNat : Int)) := rfl
@[go_sem] theorem vcells_W32 (x : BitVec 32) : vcells (W32 x) = #[W32 x] := rfl
@[go_sem] theorem vint_W32 (x : BitVec 32) : vint (W32 x) = pure (.u32, (x.toNat : Int)) := rfl
theorem oneCell_W32 (x : BitVec 32) : (W32 x).oneCell' = true := rfl
@[go_sem] theorem conv64_8 (src dst : TypeId) (x : BitVec 64) (hs : (P.underlying src).isSome = true) (hd : P.underlying dst = some (.int .u8)) : (convert src dst (W64 x)).run P w = .ok (W8 (x.setWidth 8)) w := by
  have hk : P.intKind dst = .u8 := by simp [Program.intKind, hd]
  have h := run_convert_int (P := P) w src dst .u64 (x.toNat : Int) hs (by rw [hk]; exact hd)
  rw [hk, wrap_u_toNat .u8 rfl] at h
  show (convert src dst (.int .u64 _)).run P w = _
  rw [h]; unfold W8
  rw [show BitVec.ofInt (IntKind.u8.bits) (x.toNat : Int) = x.setWidth 8 from by rw [BitVec.ofInt_natCast]; exact BitVec.ofNat_toNat _ _]; rfl
@[go_sem] theorem conv64_16 (src dst : TypeId) (x : BitVec 64) (hs : (P.underlying src).isSome = true) (hd : P.underlying dst = some (.int .u16)) : (convert src dst (W64 x)).run P w = .ok (W16 (x.setWidth 16)) w := by
  have hk : P.intKind dst = .u16 := by simp [Program.intKind, hd]
  have h := run_convert_int (P := P) w src dst .u64 (x.toNat : Int) hs (by rw [hk]; exact hd)
  rw [hk, wrap_u_toNat .u16 rfl] at h
  show (convert src dst (.int .u64 _)).run P w = _
  rw [h]; unfold W16
  rw [show BitVec.ofInt (IntKind.u16.bits) (x.toNat : Int) = x.setWidth 16 from by rw [BitVec.ofInt_natCast]; exact BitVec.ofNat_toNat _ _]; rfl
@[go_sem] theorem conv64_32 (src dst : TypeId) (x : BitVec 64) (hs : (P.underlying src).isSome = true) (hd : P.underlying dst = some (.int .u32)) : (convert src dst (W64 x)).run P w = .ok (W32 (x.setWidth 32)) w := by
  have hk : P.intKind dst = .u32 := by simp [Program.intKind, hd]
  have h := run_convert_int (P := P) w src dst .u64 (x.toNat : Int) hs (by rw [hk]; exact hd)
  rw [hk, wrap_u_toNat .u32 rfl] at h
  show (convert src dst (.int .u64 _)).run P w = _
  rw [h]; unfold W32
  rw [show BitVec.ofInt (IntKind.u32.bits) (x.toNat : Int) = x.setWidth 32 from by rw [BitVec.ofInt_natCast]; exact BitVec.ofNat_toNat _ _]; rfl
@[go_sem] theorem conv64_i64 (src dst : TypeId) (x : BitVec 64) (hs : (P.underlying src).isSome = true) (hd : P.underlying dst = some (.int .i64)) : (convert src dst (W64 x)).run P w = .ok (.int .i64 (IntKind.i64.wrap (x.toNat : Int))) w := by
  have hk : P.intKind dst = .i64 := by simp [Program.intKind, hd]
  have h := run_convert_int (P := P) w src dst .u64 (x.toNat : Int) hs (by rw [hk]; exact hd)
  rw [hk] at h; exact h
@[go_sem] theorem conv64_64 (src dst : TypeId) (x : BitVec 64) (hs : (P.underlying src).isSome = true) (hd : P.underlying dst = some (.int .u64)) : (convert src dst (W64 x)).run P w = .ok (W64 x) w := by
  have hk : P.intKind dst = .u64 := by simp [Program.intKind, hd]
  have h := run_convert_int (P := P) w src dst .u64 (x.toNat : Int) hs (by rw [hk]; exact hd)
  rw [hk, wrap_u_toNat .u64 rfl] at h
  show (convert src dst (.int .u64 _)).run P w = _
  rw [h, show BitVec.ofInt (IntKind.u64.bits) (x.toNat : Int) = x from ofInt_toNat x]; rfl
@[go_sem high] theorem convi_64 (src dst : TypeId) (n : Int) (hs : (P.underlying src).isSome = true) (hd : P.underlying dst = some (.int .u64)) : (convert src dst (.int .i64 n)).run P w = .ok (W64 (BitVec.ofInt 64 n)) w := by
  have hk : P.intKind dst = .u64 := by simp [Program.intKind, hd]
  have h := run_convert_int (P := P) w src dst .i64 n hs (by rw [hk]; exact hd)
  rw [hk, wrap_u_toNat .u64 rfl] at h
  exact h
@[go_sem] theorem store_W64 (a : Addr) (x : BitVec 64) (m : Mode) : (store a (W64 x) m).run P w = stored P w a (W64 x) m := run_store P w a _ m rfl
@[go_sem] theorem eqGuard_W64 (op : BinOp) (t : TypeId) (x y : Operand) (a : BitVec 64) (v : Value) : eqGuard op t x y (W64 a) v = pure () := by cases op <;> rfl
@[go_sem] theorem indexAt_W64 (t : TypeId) (v : Value) (x : BitVec 64) : Instr.indexAt t v (W64 x) = Instr.indexAt t v (.int .u64 (x.toNat : Int)) := rfl
@[go_sem] theorem index_W64 (t : TypeId) (v : Value) (x : BitVec 64) : Instr.index t v (W64 x) = Instr.index t v (.int .u64 (x.toNat : Int)) := rfl
@[go_sem] theorem vcells_W64 (x : BitVec 64) : vcells (W64 x) = #[W64 x] := rfl
@[go_sem] theorem vint_W64 (x : BitVec 64) : vint (W64 x) = pure (.u64, (x.toNat : Int)) := rfl
theorem oneCell_W64 (x : BitVec 64) : (W64 x).oneCell' = true := rfl
end
end Go.Proofs.Ytljddimmhjiehaa
