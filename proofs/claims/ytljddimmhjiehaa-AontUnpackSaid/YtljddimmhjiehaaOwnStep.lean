/- append as one step of a region that draws its order; a slice made with room. -/
import Derived.Test.YtljddimmhjiehaaKit
import Derived.Deep.RegionLaw
namespace Go.Proofs.Ytljddimmhjiehaa
open Go.RowKit

theorem step_append_seg {P : Program} {ops : Array Oper} {o : Oper} {a : Act} {w : World} {K : Act → World → Prop} {Q : Exit → Act → World → Prop} {E : Prop}
    (hg : o.guard = none) (s x : Operand) (t : TypeId) (hop : o.op = Op.call { callee := Callee.builtin Builtin.append, args := #[s, x], argTypes := #[t, t] })
    (e : TypeId) (z : Value) (bytes : Nat) (ht : P.underlying t = some (.slice e)) (hE : (P.info? e).map (fun i => (i.zero, i.size, i.bytes)) = some (some z, 1, bytes)) (hzs : z.cells.size = 1)
    (v : Value) (xs : List Value) (hs : a.eval s = v) (sv : Value) (ys : List Value) (hx : a.eval x = sv) (hown : Own w e v xs) (hseg : Seg w sv ys) (h1 : ∀ u ∈ ys, u.oneCell' = true)
    (h63 : xs.length + ys.length ≤ maxLen) (hbytes : (xs.length + ys.length) * bytes ≤ 140737488355328)
    (hK : ∀ v' w', Own w' e v' (xs ++ ys) → Frm (fun k => v.ownBlock = some k) w w' → (v'.ownBlock = v.ownBlock ∨ ∃ g, v'.ownBlock = some g ∧ w.heap.size ≤ g) →
      (v' = .slice none 0 0 ↔ v = .slice none 0 0 ∧ ys = []) → K (a.put o.dst v') w') :
    if Region.wanted o (yielded ops a.tmps) = true then Oper.wp P o a w K Q else E := by
  have hw : Region.wanted o (yielded ops a.tmps) = true := by simp [Region.wanted, hg]
  rw [if_pos hw]
  obtain ⟨v', w', hr, h2, h3, h4, h5⟩ := run_append_seg (P := P) w t o.type e z bytes ht hE hzs v xs hown sv ys hseg h1 h63 hbytes
  unfold Oper.wp execOp
  simp only [hop, resolve, invoke, builtin, Sem.run_bind, Sem.run_pure, Result.andThen_ok, List.map_toArray, List.map_cons, List.map_nil, hs, hx, hr]
  exact hK v' w' h2 h3 h4 h5
theorem Own.of_base {w : World} {e : TypeId} {base n : Nat} {v : Value} {xs : List Value} (h : w.ownsRow base e 1 v n xs) (hn : xs.length = n) : Own w e v xs := by
  unfold Own; rw [hn]
  refine ⟨h.1, ?_⟩
  rcases h.2 with hn' | ⟨g, cap, cur, hv, hb, rest⟩
  · exact .inl hn'
  · exact .inr ⟨g, cap, cur, hv, Nat.zero_le _, rest⟩
theorem Frm.of_grown {w w' : World} (h : w.grownBy w' none) : Frm Nil w w' := ⟨h.os, h.tape, h.output, h.size, fun k hk _ => h.block k hk (by simp)⟩
theorem Seg.drew {w : World} {sv : Value} {ys : List Value} (h : Seg w sv ys) : Seg w.drew sv ys := h
theorem Seg.frm {P : Nat → Prop} {w w' : World} {sv : Value} {ys : List Value} (h : Seg w sv ys) (hf : Frm P w w') (hp : ∀ a n c, sv = .slice (some a) n c → 0 < ys.length → ¬ P a.block) : Seg w' sv ys := by
  obtain ⟨ao, c, rfl, h0, hc⟩ := h
  refine ⟨ao, c, rfl, h0, fun a ha j u hu => ?_⟩
  subst ha
  exact hf.cell (hc a rfl j u hu) (by rw [show (a.add j).block = a.block by unfold Addr.add; split <;> rfl]; exact hp a _ _ rfl (by have := (List.getElem?_eq_some_iff.1 hu).1; omega))
end Go.Proofs.Ytljddimmhjiehaa
