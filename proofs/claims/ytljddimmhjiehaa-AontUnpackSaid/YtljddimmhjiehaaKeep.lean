/- append: what was there before stays readable; as one step of a region that draws its order. -/
import Derived.Test.YtljddimmhjiehaaR2b
import Derived.Deep.RegionHeldLaw
namespace Go.Proofs.Ytljddimmhjiehaa
open Go.RowKit

section
variable {P : Program}
theorem run_append_keep (w : World) (t ty e : TypeId) (z : Value) (bytes : Nat) (ht : P.underlying t = some (.slice e)) (hE : (P.info? e).map (fun i => (i.zero, i.size, i.bytes)) = some (some z, 1, bytes))
    (hzs : z.cells.size = 1) (v : Value) (xs : List Value) (hown : Own w e v xs) (sv : Value) (ys : List Value) (hseg : Seg w sv ys) (h1 : ∀ u ∈ ys, u.oneCell' = true)
    (h63 : xs.length + ys.length ≤ maxLen) (hbytes : (xs.length + ys.length) * bytes ≤ 140737488355328) :
    ∃ v' w', (Builtin.append_ #[t, t] ty #[v, sv]).run P w = .ok v' w' ∧ Own w' e v' (xs ++ ys) ∧ Frm (fun k => v.ownBlock = some k) w w' ∧
      (v'.ownBlock = v.ownBlock ∨ ∃ g, v'.ownBlock = some g ∧ w.heap.size ≤ g) ∧ (v' = .slice none 0 0 ↔ v = .slice none 0 0 ∧ ys = []) ∧ Own w' e v xs := by
  obtain ⟨v', w', hr, h2, h3, h4, h5⟩ := run_append_seg (P := P) w t ty e z bytes ht hE hzs v xs hown sv ys hseg h1 h63 hbytes
  refine ⟨v', w', hr, h2, h3, h4, h5, ?_⟩
  obtain ⟨i, hi, hz, hsz, hby⟩ := info_parts hE
  obtain ⟨ao, c, rfl, h0, hc⟩ := hseg
  cases ao with
  | none =>
    obtain ⟨rfl, rfl⟩ := h0 rfl
    have hr2 := run_append_owned_none (P := P) w 0 t ty e i 1 ht hi v xs.length xs hown
    rw [show ([] : List Value).length = 0 from rfl, hr2] at hr
    obtain ⟨rfl, rfl⟩ : v = v' ∧ w = w' := by simpa using hr
    exact hown
  | some a =>
    rcases hown.2 with ⟨rfl, h0'⟩ | ⟨g, cap, cur, hv, hb0, hgg, hnc, hcm, hcs, htake⟩
    · have : xs = [] := List.eq_nil_of_length_eq_zero h0'
      subst this
      exact Own.nil _ _
    · by_cases hroom : xs.length + ys.length ≤ cap
      · obtain ⟨w2, hr2, _⟩ := run_append_fits (P := P) (ty := ty) w 0 t e i 1 ht hi hsz g xs.length cap xs (hv ▸ hown) a ys.length c ys (by simp) (hc a rfl) h1 hroom
        rw [← hv, hr] at hr2
        have hv' : v' = .slice (some ⟨g, 0, none⟩) (xs.length + ys.length) cap := by simpa using (Result.ok.inj hr2).1
        subst hv'
        have hcut := h2.cut xs.length (by simp)
        rw [List.take_left] at hcut
        rw [hv]
        exact hcut
      · have hsm : xs.length + ys.length ≤ 9223372036854775807 := by simp only [maxLen] at h63; omega
        have hr2 := run_append_grow (P := P) (ty := ty) w t e i z ht hi hz ⟨g, 0, none⟩ xs.length cap xs (by simp [hsz]) (World.ownsRow.cells (hv ▸ hown) (g := g) rfl) a ys.length c ys (by simp [hsz]) (hc a rfl) (by omega) (by omega)
          (by rw [hby]; exact growslice_fits (by omega) hbytes)
        rw [← hv, hr] at hr2
        have hw' := (Result.ok.inj hr2).2
        rw [hw']
        exact (hown.drew).alloc _
theorem step_append_keep {ops : Array Oper} {o : Oper} {a : Act} {w : World} {K : Act → World → Prop} {Q : Exit → Act → World → Prop} {E : Prop}
    (hg : o.guard = none) (s x : Operand) (t : TypeId) (hop : o.op = Op.call { callee := Callee.builtin Builtin.append, args := #[s, x], argTypes := #[t, t] })
    (e : TypeId) (z : Value) (bytes : Nat) (ht : P.underlying t = some (.slice e)) (hE : (P.info? e).map (fun i => (i.zero, i.size, i.bytes)) = some (some z, 1, bytes)) (hzs : z.cells.size = 1)
    (v : Value) (xs : List Value) (hs : a.eval s = v) (sv : Value) (ys : List Value) (hx : a.eval x = sv) (hown : Own w e v xs) (hseg : Seg w sv ys) (h1 : ∀ u ∈ ys, u.oneCell' = true)
    (h63 : xs.length + ys.length ≤ maxLen) (hbytes : (xs.length + ys.length) * bytes ≤ 140737488355328)
    (hK : ∀ v' w', Own w' e v' (xs ++ ys) → Frm (fun k => v.ownBlock = some k) w w' → (v'.ownBlock = v.ownBlock ∨ ∃ g, v'.ownBlock = some g ∧ w.heap.size ≤ g) →
      (v' = .slice none 0 0 ↔ v = .slice none 0 0 ∧ ys = []) → Own w' e v xs → K (a.put o.dst v') w') :
    if Region.wanted o (yielded ops a.tmps) = true then Oper.wp P o a w K Q else E := by
  have hw : Region.wanted o (yielded ops a.tmps) = true := by simp [Region.wanted, hg]
  rw [if_pos hw]
  obtain ⟨v', w', hr, h2, h3, h4, h5, h6⟩ := run_append_keep (P := P) w t o.type e z bytes ht hE hzs v xs hown sv ys hseg h1 h63 hbytes
  unfold Oper.wp execOp
  simp only [hop, resolve, invoke, builtin, Sem.run_bind, Sem.run_pure, Result.andThen_ok, List.map_toArray, List.map_cons, List.map_nil, hs, hx, hr]
  exact hK v' w' h2 h3 h4 h5 h6
end
theorem info_u32 : (Try.prog.info? 63).map (fun i => (i.zero, i.size, i.bytes)) = some (some (.int .u32 0), 1, 4) := by kernel_rfl
theorem ones_W32 (l : List (BitVec 32)) : ∀ u ∈ l.map W32, u.oneCell' = true := by
  intro u hu
  obtain ⟨x, _, rfl⟩ := List.mem_map.1 hu
  exact oneCell_W32 x
theorem Own.cell {w : World} {e : TypeId} {g n cap : Nat} {xs : List Value} (h : Own w e (.slice (some ⟨g, 0, none⟩) n cap) xs) (j : Nat) (hj : j < xs.length) : w.cell? ⟨g, j, none⟩ = some xs[j] := by
  obtain ⟨ao, c, hs, h0, hc⟩ := h.seg
  simp only [Value.slice.injEq] at hs
  have := hc ⟨g, 0, none⟩ hs.1.symm j xs[j] (List.getElem?_eq_getElem hj)
  rw [← this]
  by_cases j0 : j = 0
  · subst j0; simp [Addr.add]
  · simp [Addr.add, j0]
theorem Own.cell32 {w : World} {e : TypeId} {g n cap : Nat} {l : List (BitVec 32)} (h : Own w e (.slice (some ⟨g, 0, none⟩) n cap) (l.map W32)) (j : Nat) (hj : j < l.length) : w.cell? ⟨g, j, none⟩ = some (W32 (l.getD j 0#32)) := by
  rw [h.cell j (by simpa using hj), List.getElem_map, List.getD_eq_getElem?_getD, List.getElem?_eq_getElem hj]
  rfl
end Go.Proofs.Ytljddimmhjiehaa
