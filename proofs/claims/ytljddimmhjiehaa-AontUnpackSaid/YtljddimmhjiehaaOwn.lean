/- Slices of one-cell elements: what a slice reads (Seg), what a call owns (Own), and append between them; over any program. -/
import Derived.Test.YtljddimmhjiehaaMem
namespace Go.Proofs.Ytljddimmhjiehaa
open Go.RowKit

/-- The slice value sv reads ys. -/
def Seg (w : World) (sv : Value) (ys : List Value) : Prop :=
  ∃ ao c, sv = .slice ao ys.length c ∧ (ao = none → ys = [] ∧ c = 0) ∧ ∀ a, ao = some a → ∀ j u, ys[j]? = some u → w.cell? (a.add j) = some u
/-- The slice value v is the call's own: nothing, or the head of a block of its own. -/
def Own (w : World) (e : TypeId) (v : Value) (xs : List Value) : Prop := w.ownsRow 0 e 1 v xs.length xs
section
variable {w w' : World} {e : TypeId} {v sv : Value} {xs ys : List Value}
theorem Own.nil (w : World) (e : TypeId) : Own w e (.slice none 0 0) [] := World.ownsRow_nil w 0 e 1
theorem Own.lt (h : Own w e v xs) {k : Nat} (hk : v.ownBlock = some k) : k < w.heap.size := (World.ownsRow.lt h k hk).2
theorem Own.same (h : Own w e v xs) (hb : ∀ k, v.ownBlock = some k → w'.heap[k]? = w.heap[k]?) : Own w' e v xs := by
  refine ⟨h.1, ?_⟩
  rcases h.2 with hn | ⟨g, cap, cur, rfl, hb0, hgg, rest⟩
  · exact .inl hn
  · exact .inr ⟨g, cap, cur, rfl, hb0, by rw [hb g rfl]; exact hgg, rest⟩
theorem Frm.own {P : Nat → Prop} (hf : Frm P w w') (h : Own w e v xs) (hp : ∀ k, v.ownBlock = some k → ¬ P k) : Own w' e v xs :=
  h.same fun k hk => hf.block k (h.lt hk) (hp k hk)
theorem Own.alloc (h : Own w e v xs) (o : Obj) : Own (w.alloc o) e v xs := World.ownsRow.alloc h o
theorem Own.drew (h : Own w e v xs) : Own w.drew e v xs := h
theorem Own.set (h : Own w e v xs) (a : Addr) (u : Value) (hp : v.ownBlock ≠ some a.block) : Own (w.setCell a u) e v xs :=
  h.same fun k hk => heap_setCell_other w a k u (fun e => hp (by rw [hk, e]))
theorem Own.seg (h : Own w e v xs) : Seg w v xs := by
  rcases h.2 with ⟨rfl, h0⟩ | ⟨g, cap, cur, rfl, hb0, hgg, rest⟩
  · have : xs = [] := List.eq_nil_of_length_eq_zero h0
    subst this
    exact ⟨none, 0, rfl, fun _ => ⟨rfl, rfl⟩, (fun a ha => by cases ha)⟩
  · exact ⟨some ⟨g, 0, none⟩, cap, rfl, (fun h => by cases h), (fun a ha j u hu => by
      cases ha
      exact World.ownsRow.cells h (g := g) rfl j u hu)⟩
theorem Own.form (h : Own w e v xs) : v = .slice none 0 0 ∧ xs = [] ∨ ∃ g cap, v = .slice (some ⟨g, 0, none⟩) xs.length cap ∧ xs.length ≤ cap ∧ g < w.heap.size ∧
    (∀ j, j < xs.length → w.cell? ⟨g, j, none⟩ = xs[j]?) ∧ (∀ j, w.frozen? ⟨g, j, none⟩ = false) := by
  rcases h.2 with ⟨rfl, h0⟩ | ⟨g, cap, cur, rfl, hb0, hgg, rest⟩
  · exact .inl ⟨rfl, List.eq_nil_of_length_eq_zero h0⟩
  · refine .inr ⟨g, cap, rfl, rest.1, h.lt rfl, fun j hj => World.ownsRow.cellAt h j (by simpa using hj), fun j => World.ownsRow.frozenAt h j⟩
theorem Own.of_row (w : World) (e : TypeId) (n : Nat) (cs : Array Value) (hn : cs.size = n) (hm : n ≤ maxLen) :
    Own (w.alloc (.cells cs e)) e (.slice (some ⟨w.heap.size, 0, none⟩) n n) cs.toList := by
  have := World.ownsRow_lit (base := 0) (e := e) (size := 1) w cs n (Nat.zero_le _) hm (by simpa using hn)
  have hl : cs.toList.length = n := by simpa using hn
  unfold Own; rw [hl]; exact this
/-- The slice that is cut to nothing is its own still. -/
theorem Own.cut {g n cap : Nat} (h : Own w e (.slice (some ⟨g, 0, none⟩) n cap) xs) (k : Nat) (hk : k ≤ xs.length) : Own w e (.slice (some ⟨g, 0, none⟩) k cap) (xs.take k) := by
  rcases h.2 with ⟨h', _⟩ | ⟨g', cap', cur, h', hb, hg, hnc, hcm, hcs, htake⟩
  · simp at h'
  · simp only [Value.slice.injEq, Option.some.injEq, Addr.mk.injEq, and_true] at h'
    obtain ⟨rfl, rfl, rfl⟩ := h'
    have e1 : (xs.take k).length = k := by rw [List.length_take]; omega
    unfold Own; rw [e1]
    refine ⟨by rw [e1]; simp, .inr ⟨g, cap, cur, rfl, Nat.zero_le _, hg, by omega, hcm, hcs, ?_⟩⟩
    rw [← htake, List.take_take]; congr 1; omega
theorem Seg.same (h : Seg w sv ys) (hb : ∀ a n c, sv = .slice (some a) n c → w'.heap[a.block]? = w.heap[a.block]?) : Seg w' sv ys := by
  obtain ⟨ao, c, rfl, h0, hc⟩ := h
  refine ⟨ao, c, rfl, h0, fun a ha j u hu => ?_⟩
  subst ha
  have := hb a _ _ rfl
  rw [World.cell?_of_block (w := w) (a := a.add j) (by unfold Addr.add; split <;> exact this)]
  exact hc a rfl j u hu
end
section
variable {P : Program}
theorem run_append_seg (w : World) (t ty e : TypeId) (z : Value) (bytes : Nat) (ht : P.underlying t = some (.slice e)) (hE : (P.info? e).map (fun i => (i.zero, i.size, i.bytes)) = some (some z, 1, bytes))
    (hzs : z.cells.size = 1) (v : Value) (xs : List Value) (hown : Own w e v xs) (sv : Value) (ys : List Value) (hseg : Seg w sv ys) (h1 : ∀ u ∈ ys, u.oneCell' = true)
    (h63 : xs.length + ys.length ≤ maxLen) (hbytes : (xs.length + ys.length) * bytes ≤ 140737488355328) :
    ∃ v' w', (Builtin.append_ #[t, t] ty #[v, sv]).run P w = .ok v' w' ∧ Own w' e v' (xs ++ ys) ∧ Frm (fun k => v.ownBlock = some k) w w' ∧
      (v'.ownBlock = v.ownBlock ∨ ∃ g, v'.ownBlock = some g ∧ w.heap.size ≤ g) ∧ (v' = .slice none 0 0 ↔ v = .slice none 0 0 ∧ ys = []) := by
  obtain ⟨i, hi, hz, hsz, hby⟩ := info_parts hE
  obtain ⟨ao, c, rfl, h0, hc⟩ := hseg
  cases ao with
  | none =>
    obtain ⟨rfl, rfl⟩ := h0 rfl
    refine ⟨v, w, run_append_owned_none (P := P) w 0 t ty e i 1 ht hi v xs.length xs hown, by rw [List.append_nil]; exact hown, Frm.refl _ _, .inl rfl, by simp⟩
  | some a =>
    obtain ⟨v', w', hr, ho, hg, hn⟩ := run_append_own (P := P) w 0 t ty e i z 1 bytes ht hi hz hsz hby hzs (by decide) v xs.length xs hown a ys.length c ys (by simp) (hc a rfl) h1 h63 hbytes (Nat.zero_le _)
    have hown' : Own w' e v' (xs ++ ys) := by unfold Own; rw [List.length_append]; exact ho
    have hfrm : Frm (fun k => v.ownBlock = some k) w w' := ⟨hg.os, hg.tape, hg.output, hg.size, fun k hk hp => hg.block k hk (fun e => hp e.symm)⟩
    refine ⟨v', w', hr, hown', hfrm, ?_, by rw [hn]; simp⟩
    rcases hown.2 with ⟨rfl, h0⟩ | ⟨g, cap, cur, hv, hb0, hgg, hnc, hcm, hcs, htake⟩
    · obtain ⟨v2, w2, hr2, ho2, _⟩ := run_append_own (P := P) w w.heap.size t ty e i z 1 bytes ht hi hz hsz hby hzs (by decide) (.slice none 0 0) 0 [] (World.ownsRow_nil _ _ _ _) a ys.length c ys (by simp) (hc a rfl) h1 (by omega) (by
        have := Nat.mul_le_mul_right bytes (show 0 + ys.length ≤ xs.length + ys.length by omega); omega) (Nat.le_refl _)
      rw [hr] at hr2
      obtain ⟨rfl, rfl⟩ : v' = v2 ∧ w' = w2 := by simpa using hr2
      cases hvb : v'.ownBlock with
      | none => left; rfl
      | some g => right; exact ⟨g, rfl, (ho2.lt g hvb).1⟩
    · by_cases hroom : xs.length + ys.length ≤ cap
      · left
        obtain ⟨w2, hr2, _⟩ := run_append_fits (P := P) (ty := ty) w 0 t e i 1 ht hi hsz g xs.length cap xs (hv ▸ hown) a ys.length c ys (by simp) (hc a rfl) h1 hroom
        rw [← hv, hr] at hr2
        have : v' = .slice (some ⟨g, 0, none⟩) (xs.length + ys.length) cap := by simpa using (Result.ok.inj hr2).1
        rw [this, hv]; rfl
      · right
        have hsm : xs.length + ys.length ≤ 9223372036854775807 := by simp only [maxLen] at h63; omega
        have hr2 := run_append_grow (P := P) (ty := ty) w t e i z ht hi hz ⟨g, 0, none⟩ xs.length cap xs (by simp [hsz]) (World.ownsRow.cells (hv ▸ hown) (g := g) rfl) a ys.length c ys (by simp [hsz]) (hc a rfl) (by omega) (by omega)
          (by rw [hby]; exact growslice_fits (by omega) hbytes)
        rw [← hv, hr] at hr2
        have : v' = _ := (Result.ok.inj hr2).1
        rw [this]
        exact ⟨w.heap.size, rfl, Nat.le_refl _⟩
theorem wpList_append_seg {ops : Array Oper} {rest : List Oper} {o : Oper} {a : Act} (w : World) {Q : Exit → Act → World → Prop} (hgd : o.guard = none) (s x : Operand) (t : TypeId)
    (ho : o.op = .call { callee := .builtin .append, args := #[s, x], argTypes := #[t, t] })
    (e : TypeId) (z : Value) (bytes : Nat) (ht : P.underlying t = some (.slice e)) (hE : (P.info? e).map (fun i => (i.zero, i.size, i.bytes)) = some (some z, 1, bytes)) (hzs : z.cells.size = 1)
    (v : Value) (xs : List Value) (hs : a.eval s = v) (sv : Value) (ys : List Value) (hx : a.eval x = sv) (hown : Own w e v xs) (hseg : Seg w sv ys) (h1 : ∀ u ∈ ys, u.oneCell' = true)
    (h63 : xs.length + ys.length ≤ maxLen) (hbytes : (xs.length + ys.length) * bytes ≤ 140737488355328)
    (h : ∀ v' w', Own w' e v' (xs ++ ys) → Frm (fun k => v.ownBlock = some k) w w' → (v'.ownBlock = v.ownBlock ∨ ∃ g, v'.ownBlock = some g ∧ w.heap.size ≤ g) →
      (v' = .slice none 0 0 ↔ v = .slice none 0 0 ∧ ys = []) → wpList P ops Q rest (a.put o.dst v') w') : wpList P ops Q (o :: rest) a w :=
  wpList_plain hgd fun _ hK => by
    obtain ⟨v', w', hr, h2, h3, h4, h5⟩ := run_append_seg (P := P) w t o.type e z bytes ht hE hzs v xs hown sv ys hseg h1 h63 hbytes
    unfold Oper.wp execOp
    simp only [ho, resolve, invoke, builtin, Sem.run_bind, Sem.run_pure, Result.andThen_ok, List.map_toArray, List.map_cons, List.map_nil, hs, hx, hr]
    exact hK _ _ (h v' w' h2 h3 h4 h5)
end
end Go.Proofs.Ytljddimmhjiehaa
