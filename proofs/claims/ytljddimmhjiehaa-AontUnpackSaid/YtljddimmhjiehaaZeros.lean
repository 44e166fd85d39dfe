/- append(s, make([]byte, k)...): k zeros onto a slice that the call owns. -/
import Derived.Test.YtljddimmhjiehaaMask
import Derived.Lib.AppendZerosOnto
import Derived.Laws.CopyRow
namespace Go.Proofs.Ytljddimmhjiehaa
open Go.RowKit

def zerosV (k : Nat) : List Value := List.replicate k (.int .u8 0)
theorem zerosV_map (k : Nat) : zerosV k = (List.replicate k 0#8).map W8 := by simp only [zerosV, List.map_replicate]; rfl
theorem zeroCells_u8 (k : Nat) : Builtin.zeroCells (Value.int .u8 0).cells k = (zerosV k).toArray := by
  apply Array.ext
  · rw [size_zeroCells]; simp [zerosV, Value.cells]
  · intro i h1 h2
    have : i % 1 = 0 := Nat.mod_one i
    simp [Builtin.zeroCells, zerosV, Value.cells, this]
section
variable {P : Program}
theorem run_append_zeros (w : World) (t tn ty e : TypeId) (kn : IntKind) (bytes : Nat) (ht : P.underlying t = some (.slice e)) (htn : P.underlying tn = some (.int kn))
    (hE : (P.info? e).map (fun i => (i.zero, i.size, i.bytes)) = some (some (.int .u8 0), 1, bytes)) (v : Value) (xs : List Value) (hown : Own w e v xs) (k : Nat)
    (h63 : xs.length + k ≤ maxLen) (hbytes : (xs.length + k) * bytes ≤ 140737488355328) :
    ∃ v' w', (Builtin.append_ #[t, tn] ty #[v, .int .i64 (k : Int)]).run P w = .ok v' w' ∧ Own w' e v' (xs ++ zerosV k) ∧ Frm (fun g => v.ownBlock = some g) w w' ∧
      (v'.ownBlock = v.ownBlock ∨ ∃ g, v'.ownBlock = some g ∧ w.heap.size ≤ g) := by
  obtain ⟨i, hi, hz, hsz, hby⟩ := info_parts hE
  have hw : IntKind.i64.wrap (k : Int) = k := by rw [IntKind.wrap_i64]; unfold maxLen at h63; omega
  have h48i : ¬ (281474976710656 < (k : Int) * (i.bytes : Int)) := by
    rw [← Int.natCast_mul, hby]
    have := Nat.mul_le_mul_right bytes (show k ≤ xs.length + k by omega)
    omega
  have hneg : ¬ ((k : Int) < 0) := by omega
  have hw0 : IntKind.i64.wrap 0 = 0 := by rw [IntKind.wrap_i64]; omega
  have hzl : (zerosV k).length = k := by simp [zerosV]
  have grown : ∀ (old : Nat), old < xs.length + k →
      Own (w.drew.alloc (.cells (xs.toArray ++ Builtin.zeroCells (Value.int .u8 0).cells k ++ Builtin.zeroCells (Value.int .u8 0).cells (grownCap w (xs.length + k) old e - (xs.length + k))) e)) e
        (.slice (some ⟨w.heap.size, 0, none⟩) (xs.length + k) (grownCap w (xs.length + k) old e)) (xs ++ zerosV k) ∧
      Frm (fun g => v.ownBlock = some g) w (w.drew.alloc (.cells (xs.toArray ++ Builtin.zeroCells (Value.int .u8 0).cells k ++ Builtin.zeroCells (Value.int .u8 0).cells (grownCap w (xs.length + k) old e - (xs.length + k))) e)) := by
    intro old ho
    have hge := grownCap_ge w (xs.length + k) old e
    have hcm : grownCap w (xs.length + k) old e ≤ maxLen := grownCap_le_maxLen w (xs.length + k) old e h63
    have hlen : (xs ++ zerosV k).length = xs.length + k := by rw [List.length_append, hzl]
    refine ⟨?_, (Frm.refl _ w).drew.alloc _⟩
    unfold Own
    rw [hlen]
    refine ⟨by rw [hlen]; simp, .inr ⟨w.heap.size, _, _, rfl, Nat.zero_le _, heap_alloc_new w.drew _, hge, hcm, ?_, ?_⟩⟩
    · rw [zeroCells_u8, zeroCells_u8]
      simp [zerosV]
      omega
    · rw [zeroCells_u8, zeroCells_u8]
      simp only [Array.toList_append, Nat.mul_one]
      rw [← hlen]
      exact List.take_left
  rcases hown.2 with ⟨rfl, h0⟩ | ⟨g, cap, cur, rfl, hbg, hg, hnc, hcm, hcs, htake⟩
  · have hx : xs = [] := List.eq_nil_of_length_eq_zero h0
    subst hx
    by_cases hk : k = 0
    · subst hk
      refine ⟨.slice none 0 0, w, ?_, Own.nil w e, Frm.refl _ _, .inl rfl⟩
      simp [Builtin.append_, run_underlying ht, run_underlying htn, sizeOf, typeInfo, hi, asInt, asIntOf, hw0]
    · have hr := Lib.run_append_nil_zeros (P := P) w t tn ty e i (.int .u8 0) .i64 kn ht htn hi hz k (by omega) (by omega) (by unfold maxLen at h63; omega) (by rw [hby]; have h := hbytes; simp only [List.length_nil, Nat.zero_add] at h; omega)
      have hgr := grown 0 (by simp; omega)
      simp only [List.length_nil, Nat.zero_add, List.nil_append, Array.empty_append] at hgr ⊢
      exact ⟨_, _, hr, hgr.1, hgr.2, .inr ⟨_, rfl, Nat.le_refl _⟩⟩
  · by_cases hroom : xs.length + k ≤ cap
    · have hst := run_storeCells_at P g xs.length e (zerosV k) 0 cur w hg (by rw [hzl, hcs]; omega) (fun u hu => by
        have := List.eq_of_mem_replicate hu
        subst this
        rfl)
      refine ⟨.slice (some ⟨g, 0, none⟩) (xs.length + k) cap, w.setRow g (cur.toList.take (xs.length + 0) ++ zerosV k ++ cur.toList.drop (xs.length + 0 + (zerosV k).length)).toArray, ?_, ?_, (Frm.refl _ w).setRow _ _ (fun _ => rfl), .inl rfl⟩
      · by_cases hk : k = 0
        · subst hk
          have e0 : (cur.toList.take (xs.length + 0) ++ zerosV 0 ++ cur.toList.drop (xs.length + 0 + (zerosV 0).length)).toArray = cur := by simp [zerosV]
          rw [e0, setRow_self w g cur e (0, 0) hg]
          simp [Builtin.append_, run_underlying ht, run_underlying htn, sizeOf, typeInfo, hi, asInt, asIntOf, hnc, hw0, storeCells]
        · have hst0 := hst
          rw [show (⟨g, xs.length, none⟩ : Addr) = Addr.add ⟨g, 0, none⟩ xs.length by simp [Addr.add]] at hst0
          simp [Builtin.append_, run_underlying ht, run_underlying htn, sizeOf, typeInfo, hi, hz, hsz, asInt, asIntOf, hw, h48i, hneg, hroom, hk, zeroValue, zeroCells_u8, hst0]
      · have hlen : (xs ++ zerosV k).length = xs.length + k := by rw [List.length_append, hzl]
        unfold Own
        rw [hlen]
        refine ⟨by rw [hlen]; simp, .inr ⟨g, cap, _, rfl, Nat.zero_le _, setRow_heap w g cur _ e _ hg, hroom, hcm, ?_, ?_⟩⟩
        · simp [hzl]; omega
        · have e1 : cur.toList.take xs.length = xs := by simpa using htake
          simp only [Nat.mul_one, Nat.add_zero, e1]
          rw [← hlen]
          exact List.take_left
    · have holds : ∀ j u, xs[j]? = some u → w.cell? ((⟨g, 0, none⟩ : Addr).add j) = some u := World.ownsRow.cells hown (g := g) rfl
      have hr := Lib.run_append_grow_zeros (P := P) w t tn ty e i (.int .u8 0) .i64 kn ht htn hi hz (some ⟨g, 0, none⟩) xs.length cap xs (run_firstCells_some w.drew i.size xs.length ⟨g, 0, none⟩ xs.length cap xs (by rw [hsz]; simp) (by simpa using holds)) k (by omega) (by omega) (by omega) (by unfold maxLen at h63; omega) (by rw [hby]; have := Nat.mul_le_mul_right bytes (show k ≤ xs.length + k by omega); omega) (growslice_fits (by omega) (by rw [hby]; exact hbytes))
      have hgr := grown cap (by omega)
      exact ⟨_, _, hr, hgr.1, hgr.2, .inr ⟨_, rfl, Nat.le_refl _⟩⟩
theorem wpList_append_zeros {ops : Array Oper} {rest : List Oper} {o : Oper} {a : Act} (w : World) {Q : Exit → Act → World → Prop} (hgd : o.guard = none) (s x : Operand) (t tn : TypeId)
    (ho : o.op = .call { callee := .builtin .append, args := #[s, x], argTypes := #[t, tn] })
    (e : TypeId) (kn : IntKind) (bytes : Nat) (ht : P.underlying t = some (.slice e)) (htn : P.underlying tn = some (.int kn)) (hE : (P.info? e).map (fun i => (i.zero, i.size, i.bytes)) = some (some (.int .u8 0), 1, bytes))
    (v : Value) (xs : List Value) (hs : a.eval s = v) (k : Nat) (hx : a.eval x = .int .i64 (k : Int)) (hown : Own w e v xs)
    (h63 : xs.length + k ≤ maxLen) (hbytes : (xs.length + k) * bytes ≤ 140737488355328)
    (h : ∀ v' w', Own w' e v' (xs ++ zerosV k) → Frm (fun g => v.ownBlock = some g) w w' → (v'.ownBlock = v.ownBlock ∨ ∃ g, v'.ownBlock = some g ∧ w.heap.size ≤ g) → wpList P ops Q rest (a.put o.dst v') w') : wpList P ops Q (o :: rest) a w :=
  wpList_plain hgd fun _ hK => by
    obtain ⟨v', w', hr, h2, h3, h4⟩ := run_append_zeros (P := P) w t tn o.type e kn bytes ht htn hE v xs hown k h63 hbytes
    unfold Oper.wp execOp
    simp only [ho, resolve, invoke, builtin, Sem.run_bind, Sem.run_pure, Result.andThen_ok, List.map_toArray, List.map_cons, List.map_nil, hs, hx, hr]
    exact hK _ _ (h v' w' h2 h3 h4)
end
end Go.Proofs.Ytljddimmhjiehaa
