/- A slice that a call has made for itself and fills: what it holds, and that nothing of before has turned. -/
import Derived.Test.YtljddimmhjiehaaKeep
import Derived.Test.YtljddimmhjiehaaTail
namespace Go.Proofs.Ytljddimmhjiehaa
open Go.RowKit

/-- v is the call's own slice of xs in wr; from w to wr nothing has turned that was there. -/
structure New (w wr : World) (e : TypeId) (v : Value) (xs : List Value) : Prop where
  own : Own wr e v xs
  frm : Frm Nil w wr
  fresh : ∀ g, v.ownBlock = some g → w.heap.size ≤ g
section
variable {w wr w1 w2 : World} {e : TypeId} {v v' : Value} {xs ys : List Value}
theorem New.nil (e : TypeId) (h : Frm Nil w wr) : New w wr e (.slice none 0 0) [] := ⟨Own.nil _ _, h, fun g hg => by simp [Value.ownBlock] at hg⟩
theorem New.later (h : New w wr e v xs) (hf : Frm Nil wr w1) : New w w1 e v xs := ⟨hf.own h.own (by simp [Nil]), h.frm.trans hf (fun _ _ h => h), h.fresh⟩
/-- What is written elsewhere leaves it. -/
theorem New.besides {P : Nat → Prop} (h : New w wr e v xs) (hf : Frm P wr w1) (hp : ∀ g, v.ownBlock = some g → ¬ P g) (hw : ∀ g, P g → w.heap.size ≤ g) : New w w1 e v xs :=
  ⟨hf.own h.own hp, h.frm.trans hf (fun i hi hq => absurd (hw i hq) (by omega)), h.fresh⟩
theorem New.lower {w0 : World} (h : New w wr e v xs) (hf : Frm Nil w0 w) : New w0 wr e v xs := ⟨h.own, hf.trans h.frm (fun _ _ h => h), fun g hg => Nat.le_trans hf.size (h.fresh g hg)⟩
theorem New.form (h : New w wr e v xs) : ∃ ao c, v = .slice ao xs.length c := by
  obtain ⟨ao, c, hv, _⟩ := h.own.seg
  exact ⟨ao, c, hv⟩
theorem New.grown (h : New w w1 e v xs) (ho : Own w2 e v' ys) (hf : Frm (fun k => v.ownBlock = some k) w1 w2) (hv : v'.ownBlock = v.ownBlock ∨ ∃ g, v'.ownBlock = some g ∧ w1.heap.size ≤ g) : New w w2 e v' ys := by
  refine ⟨ho, h.frm.trans hf (fun i hi hq => absurd (h.fresh i hq) (by omega)), fun g hg => ?_⟩
  rcases hv with hv | ⟨g', hg', hl⟩
  · exact h.fresh g (hv ▸ hg)
  · rw [hg] at hg'; cases hg'
    have := h.frm.size
    omega
end
section
variable {P : Program}
/-- append of what a slice reads. -/
theorem wpList_append_new {ops : Array Oper} {rest : List Oper} {o : Oper} {a : Act} (w0 w : World) {Q : Exit → Act → World → Prop} (hgd : o.guard = none) (s x : Operand) (t : TypeId)
    (ho : o.op = .call { callee := .builtin .append, args := #[s, x], argTypes := #[t, t] })
    (e : TypeId) (z : Value) (bytes : Nat) (ht : P.underlying t = some (.slice e)) (hE : (P.info? e).map (fun i => (i.zero, i.size, i.bytes)) = some (some z, 1, bytes)) (hzs : z.cells.size = 1)
    (v : Value) (xs : List Value) (hs : a.eval s = v) (sv : Value) (ys : List Value) (hx : a.eval x = sv) (hn : New w0 w e v xs) (hseg : Seg w sv ys) (h1 : ∀ u ∈ ys, u.oneCell' = true)
    (h63 : xs.length + ys.length ≤ maxLen) (hbytes : (xs.length + ys.length) * bytes ≤ 140737488355328)
    (h : ∀ v' w', New w0 w' e v' (xs ++ ys) → Frm (fun k => v.ownBlock = some k) w w' → (v'.ownBlock = v.ownBlock ∨ ∃ g, v'.ownBlock = some g ∧ w.heap.size ≤ g) → wpList P ops Q rest (a.put o.dst v') w') : wpList P ops Q (o :: rest) a w :=
  wpList_append_seg w hgd s x t ho e z bytes ht hE hzs v xs hs sv ys hx hn.own hseg h1 h63 hbytes fun v' w' h2 h3 h4 _ => h v' w' (hn.grown h2 h3 h4) h3 h4
/-- append of one element that was just laid into a block of its own. -/
theorem wpList_push {ops : Array Oper} {rest : List Oper} {o : Oper} {a : Act} (w0 w : World) {Q : Exit → Act → World → Prop} (T : TypeId) (u : Value) (hgd : o.guard = none) (s x : Operand) (t : TypeId)
    (ho : o.op = .call { callee := .builtin .append, args := #[s, x], argTypes := #[t, t] })
    (e : TypeId) (z : Value) (bytes : Nat) (ht : P.underlying t = some (.slice e)) (hE : (P.info? e).map (fun i => (i.zero, i.size, i.bytes)) = some (some z, 1, bytes)) (hzs : z.cells.size = 1)
    (v : Value) (xs : List Value) (hs : a.eval s = v) (hx : a.eval x = .slice (some ⟨w.heap.size, 0, none⟩) 1 1) (hn : New w0 w e v xs) (h1 : u.oneCell' = true)
    (h63 : xs.length + 1 ≤ maxLen) (hbytes : (xs.length + 1) * bytes ≤ 140737488355328)
    (h : ∀ v' w', New w0 w' e v' (xs ++ [u]) → Frm (fun k => v.ownBlock = some k) w w' → (v'.ownBlock = v.ownBlock ∨ ∃ g, v'.ownBlock = some g ∧ w.heap.size ≤ g) → wpList P ops Q rest (a.put o.dst v') w') :
    wpList P ops Q (o :: rest) a (w.alloc (.cells #[u] T)) :=
  wpList_append_new w0 _ hgd s x t ho e z bytes ht hE hzs v xs hs _ [u] hx (hn.later ((Frm.refl Nil w).alloc _)) (seg_oneV w T u) (fun y hy => by rw [List.mem_singleton] at hy; rw [hy]; exact h1) h63 hbytes
    fun v' w' h2 h3 h4 => h v' w' h2 (((Frm.refl _ w).alloc _).trans h3 (fun _ _ h => h)) (by
      rcases h4 with h4 | ⟨g, h4, h5⟩
      · exact .inl h4
      · exact .inr ⟨g, h4, by rw [World.size_alloc] at h5; omega⟩)
end
/-- The same in words of 32 bits. -/
theorem push32 {ops : Array Oper} {rest : List Oper} {o : Oper} {a : Act} {Q : Exit → Act → World → Prop} {w0 w : World} {v : Value} {l : List (BitVec 32)} (hn : New w0 w 63 v (l.map W32)) (u : BitVec 32) (hl : l.length ≤ 1000000000000) (hgd : o.guard = none) (s x : Operand)
    (ho : o.op = .call { callee := .builtin .append, args := #[s, x], argTypes := #[62, 62] }) (hs : a.eval s = v) (hx : a.eval x = .slice (some ⟨w.heap.size, 0, none⟩) 1 1)
    (h : ∀ v' w', New w0 w' 63 v' ((l ++ [u]).map W32) → Frm (fun k => v.ownBlock = some k) w w' → (v'.ownBlock = v.ownBlock ∨ ∃ g, v'.ownBlock = some g ∧ w.heap.size ≤ g) → wpList Try.prog ops Q rest (a.put o.dst v') w') :
    wpList Try.prog ops Q (o :: rest) a (w.alloc (.cells #[W32 u] 63)) :=
  wpList_push w0 w 63 (W32 u) hgd s x 62 ho 63 (.int .u32 0) 4 Try.underlying62 info_u32 rfl v (l.map W32) hs hx hn rfl (by rw [List.length_map]; unfold maxLen; omega) (by rw [List.length_map]; omega) fun v' w' h2 h3 h4 => h v' w' (by rw [List.map_append]; exact h2) h3 h4
theorem app32 {ops : Array Oper} {rest : List Oper} {o : Oper} {a : Act} {Q : Exit → Act → World → Prop} {w0 w : World} {v sv : Value} {l m : List (BitVec 32)} (hn : New w0 w 63 v (l.map W32)) (hseg : Seg w sv (m.map W32)) (hl : l.length + m.length ≤ 1000000000000) (hgd : o.guard = none) (s x : Operand)
    (ho : o.op = .call { callee := .builtin .append, args := #[s, x], argTypes := #[62, 62] }) (hs : a.eval s = v) (hx : a.eval x = sv)
    (h : ∀ v' w', New w0 w' 63 v' ((l ++ m).map W32) → Frm (fun k => v.ownBlock = some k) w w' → (v'.ownBlock = v.ownBlock ∨ ∃ g, v'.ownBlock = some g ∧ w.heap.size ≤ g) → wpList Try.prog ops Q rest (a.put o.dst v') w') : wpList Try.prog ops Q (o :: rest) a w :=
  wpList_append_new w0 w hgd s x 62 ho 63 (.int .u32 0) 4 Try.underlying62 info_u32 rfl v (l.map W32) hs sv (m.map W32) hx hn hseg (ones_W32 m) (by rw [List.length_map, List.length_map]; unfold maxLen; omega) (by rw [List.length_map, List.length_map]; omega) fun v' w' h2 h3 h4 => h v' w' (by rw [List.map_append]; exact h2) h3 h4
/-- The same in bytes. -/
theorem push8 {ops : Array Oper} {rest : List Oper} {o : Oper} {a : Act} {Q : Exit → Act → World → Prop} {w0 w : World} {v : Value} {l : List (BitVec 8)} (hn : New w0 w 5 v (l.map W8)) (u : BitVec 8) (hl : l.length ≤ 100000000000000) (hgd : o.guard = none) (s x : Operand)
    (ho : o.op = .call { callee := .builtin .append, args := #[s, x], argTypes := #[22, 22] }) (hs : a.eval s = v) (hx : a.eval x = .slice (some ⟨w.heap.size, 0, none⟩) 1 1)
    (h : ∀ v' w', New w0 w' 5 v' ((l ++ [u]).map W8) → Frm (fun k => v.ownBlock = some k) w w' → (v'.ownBlock = v.ownBlock ∨ ∃ g, v'.ownBlock = some g ∧ w.heap.size ≤ g) → wpList Try.prog ops Q rest (a.put o.dst v') w') :
    wpList Try.prog ops Q (o :: rest) a (w.alloc (.cells #[W8 u] 5)) :=
  wpList_push w0 w 5 (W8 u) hgd s x 22 ho 5 (.int .u8 0) 1 Try.underlying22 info_u8 rfl v (l.map W8) hs hx hn rfl (by rw [List.length_map]; unfold maxLen; omega) (by rw [List.length_map]; omega) fun v' w' h2 h3 h4 => h v' w' (by rw [List.map_append]; exact h2) h3 h4
theorem app8 {ops : Array Oper} {rest : List Oper} {o : Oper} {a : Act} {Q : Exit → Act → World → Prop} {w0 w : World} {v sv : Value} {l m : List (BitVec 8)} (hn : New w0 w 5 v (l.map W8)) (hseg : Seg w sv (m.map W8)) (hl : l.length + m.length ≤ 100000000000000) (hgd : o.guard = none) (s x : Operand)
    (ho : o.op = .call { callee := .builtin .append, args := #[s, x], argTypes := #[22, 22] }) (hs : a.eval s = v) (hx : a.eval x = sv)
    (h : ∀ v' w', New w0 w' 5 v' ((l ++ m).map W8) → Frm (fun k => v.ownBlock = some k) w w' → (v'.ownBlock = v.ownBlock ∨ ∃ g, v'.ownBlock = some g ∧ w.heap.size ≤ g) → wpList Try.prog ops Q rest (a.put o.dst v') w') : wpList Try.prog ops Q (o :: rest) a w :=
  wpList_append_new w0 w hgd s x 22 ho 5 (.int .u8 0) 1 Try.underlying22 info_u8 rfl v (l.map W8) hs sv (m.map W8) hx hn hseg (ones_W8 m) (by rw [List.length_map, List.length_map]; unfold maxLen; omega) (by rw [List.length_map, List.length_map]; omega) fun v' w' h2 h3 h4 => h v' w' (by rw [List.map_append]; exact h2) h3 h4
end Go.Proofs.Ytljddimmhjiehaa
