/- aes: a key's box: plain facts. -/
import Derived.Test.YtljddimmhjiehaaAes3
import Derived.StillTailTactics
namespace Go.Proofs.Ytljddimmhjiehaa
open Go.RowKit

theorem wpList_build_one {P : Program} {ops : Array Oper} {rest : List Oper} {o : Oper} {a : Act} {w : World} {Q : Exit → Act → World → Prop} (hg : o.guard = none) (t : TypeId) (i : Nat) (x : Operand) (ho : o.op = .build t #[(i, x)])
    (v : Value) (hv : a.eval x = v) (cells : Array Value) (hb : P.built t [(i, v)] = some cells)
    (h : wpList P ops Q rest (a.put o.dst (.agg cells)) w) : wpList P ops Q (o :: rest) a w := by
  refine wpList_build hg t #[(i, x)] ho ?_ ?_
  · simp [hv, hb]
  · simpa [hv, hb] using h
theorem zero8_240 : Try.zeroCells97 = rowOf 240 (w8 fun _ => 0#8) := by kernel_rfl
theorem built_box (t : Nat → BitVec 8) : Try.prog.built 95 [(0, .agg (rowOf 256 (w8 t)))] = some (rowOf 496 (w8 (boxF t fun _ => 0#8))) := by kernel_rfl
/-- The key's own words. -/
def keyTo (key : Nat → BitVec 8) (k : Nat) : Nat → BitVec 8 := fun j => if j < 4 * k then key j else 0#8
theorem splice_key (key : Nat → BitVec 8) (k : Nat) : splice (w8 (keyTo key k)) (k * 4) 4 (w8 fun i => key (4 * k + i)) = w8 (keyTo key (k + 1)) := by
  funext j; simp only [splice, w8, keyTo]
  by_cases h1 : k * 4 ≤ j ∧ j < k * 4 + 4
  · rw [if_pos h1, if_pos (by omega), show 4 * k + (j - k * 4) = j by omega]
  · rw [if_neg h1]
    by_cases h2 : j < 4 * k
    · rw [if_pos h2, if_pos (by omega)]
    · rw [if_neg h2, if_neg (by omega)]
def xOf (t W : Nat → BitVec 8) (more : BitVec 8) (i : Nat) : Nat → BitVec 8 :=
  let x := fun k => W (4 * (i - 1) + k)
  if i % 8 = 0 then (fun k => if k = 0 then t (x 1).toNat ^^^ more else if k = 1 then t (x 2).toNat else if k = 2 then t (x 3).toNat else t (x 0).toNat)
  else if i % 8 = 4 then (fun k => t (x k).toNat) else x
/-- A word's first k bytes are there. -/
def wordTo (W x : Nat → BitVec 8) (i k : Nat) : Nat → BitVec 8 := fun j => if 4 * i ≤ j ∧ j < 4 * i + k then W (j - 32) ^^^ x (j - 4 * i) else W j
def moreOf (more : BitVec 8) (i : Nat) : BitVec 8 := if i % 8 = 0 then twice more else more
def wordsTo (t key : Nat → BitVec 8) : Nat → (Nat → BitVec 8) × BitVec 8
  | 0 => (keyTo key 8, 1#8)
  | n + 1 => (wordTo (wordsTo t key n).1 (xOf t (wordsTo t key n).1 (wordsTo t key n).2 (n + 8)) (n + 8) 4, moreOf (wordsTo t key n).2 (n + 8))
def keysOf (t key : Nat → BitVec 8) : Nat → BitVec 8 := (wordsTo t key 52).1

end Go.Proofs.Ytljddimmhjiehaa
