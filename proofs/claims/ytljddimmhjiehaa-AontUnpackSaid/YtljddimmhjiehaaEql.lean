/- Arrays of bytes that are held by value, compared. -/
import Derived.Test.YtljddimmhjiehaaKey
namespace Go.Proofs.Ytljddimmhjiehaa
open Go.RowKit

theorem part8 (w : World) (f : Nat → BitVec 8) (n i : Nat) (h : i < n) : (part 5 (rowOf n (w8 f)) i).run Try.prog w = .ok (W8 (f i)) w := by
  have h1 := rowOf_get n (w8 f) i h
  have hu : Try.prog.underlying 5 = some (.int .u8) := Try.underlying5
  have hs := Try.isAgg5
  simp [part, Sem.run_bind, hs, h1]
  rfl
theorem equalIn_u8 (w : World) (d : Nat) (a b : Int) : (Op.equalIn (d + 1) 5 (.int .u8 a) (.int .u8 b)).run Try.prog w = .ok (a == b) w := by
  have hu : Try.prog.underlying 5 = some (.int .u8) := Try.underlying5
  simp [Op.equalIn, run_underlying hu]
theorem eq8 (w : World) (d : Nat) (x y : BitVec 8) : (Op.equalIn (d + 1) 5 (W8 x) (W8 y)).run Try.prog w = .ok (x == y) w := by
  have e : (((x.toNat : Nat) : Int) == ((y.toNat : Nat) : Int)) = (x == y) := by
    by_cases h : x = y
    · rw [h, beq_self_eq_true, beq_self_eq_true]
    · rw [beq_eq_false_iff_ne.2 h, beq_eq_false_iff_ne.2 (fun q => h ((toNat_eq_iff x y).1 q))]
  rw [← e]
  exact equalIn_u8 w d _ _
def allEq (f g : Nat → BitVec 8) (l : List Nat) : Bool := l.all fun i => f i == g i
theorem eql_loop (w : World) (d n : Nat) (f g : Nat → BitVec 8) : ∀ (l : List Nat), (∀ i ∈ l, i < n) →
    (forIn (m := Sem) l (((none : Option Bool), ()) : Option Bool × Unit) (fun i (_ : Option Bool × Unit) => do
              let a ← part 5 (rowOf n (w8 f)) (i * 1)
              let b ← part 5 (rowOf n (w8 g)) (i * 1)
              let r ← Op.equalIn (d + 1) 5 a b
              if (!r) = true then pure (ForInStep.done (some false, ())) else pure (ForInStep.yield (none, ())))).run Try.prog w = .ok (if allEq f g l then none else some false, ()) w := by
  intro l
  induction l with
  | nil => intro _; rw [List.forIn_nil, Sem.run_pure]; rfl
  | cons i l ih =>
    intro h
    rw [List.forIn_cons]
    simp only [Sem.run_bind, Nat.mul_one, part8 w f n i (h i (by simp)), part8 w g n i (h i (by simp)), eq8, Result.andThen_ok]
    cases hb : (f i == g i) with
    | true =>
      have e : allEq f g (i :: l) = allEq f g l := by simp [allEq, hb]
      rw [e, ← ih (fun j hj => h j (List.mem_cons_of_mem _ hj))]
      simp
    | false =>
      have e : allEq f g (i :: l) = false := by simp [allEq, hb]
      rw [e]
      simp
theorem equal_key (w : World) (f g : Nat → BitVec 8) : (Op.equal 26 (.agg (rowOf 32 (w8 f))) (.agg (rowOf 32 (w8 g)))).run Try.prog w = .ok (allEq f g (List.range 32)) w := by
  show (Op.equalIn (9998 + 1 + 1) 26 (.agg (rowOf 32 (w8 f))) (.agg (rowOf 32 (w8 g)))).run Try.prog w = _
  unfold Op.equalIn
  rw [Sem.run_bind, run_underlying Try.underlying26 w]
  simp only [Result.andThen_ok]
  simp only [Std.Legacy.Range.forIn_eq_forIn_range']
  have h := eql_loop w 9998 32 f g (List.range' 0 32) (fun i hi => by have := List.mem_range'_1.1 hi; omega)
  have hs : (sizeOf 5).run Try.prog w = .ok 1 w := Try.sizeOf5 w
  rw [Sem.run_bind, hs]
  simp only [Result.andThen_ok]
  rw [Sem.run_bind]
  refine (congrArg (fun r => Result.andThen r _) h).trans ?_
  have e : allEq f g (List.range 32) = allEq f g (List.range' 0 32) := by rw [List.range_eq_range']
  rw [e]
  cases allEq f g (List.range' 0 32) <;> simp
@[go_sem] theorem run_eql_key (w : World) (f g : Nat → BitVec 8) : (binOp .eql 26 (.agg (rowOf 32 (w8 f))) (.agg (rowOf 32 (w8 g)))).run Try.prog w = .ok (.bool (allEq f g (List.range 32))) w := by
  simp [binOp, equal_key]
theorem allEq_iff (f g : Nat → BitVec 8) (n : Nat) : allEq f g (List.range n) = true ↔ ∀ i, i < n → f i = g i := by simp [allEq]
end Go.Proofs.Ytljddimmhjiehaa
