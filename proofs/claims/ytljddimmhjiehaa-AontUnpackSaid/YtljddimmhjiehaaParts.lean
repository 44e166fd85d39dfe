/- Rows that a call made whole, copies into them, cuts out of them; slices of slices. -/
import Derived.Test.YtljddimmhjiehaaZeros
import Derived.Laws.CopyOwn
import Derived.OwnWalk
namespace Go.Proofs.Ytljddimmhjiehaa
open Go.RowKit

theorem rowOf_list (n : Nat) (f : Nat → Value) : rowOf n f = ((List.range n).map f).toArray := by
  apply Array.ext
  · simp [rowOf]
  · intro i h1 h2
    simp [rowOf]
theorem rowOf_toList (n : Nat) (f : Nat → Value) : (rowOf n f).toList = (List.range n).map f := by rw [rowOf_list]
def overF (f : Nat → BitVec 8) (off : Nat) (l : List (BitVec 8)) : Nat → BitVec 8 := fun i => if off ≤ i ∧ i < off + l.length then l.getD (i - off) 0#8 else f i
section
variable {w w' : World} {e : TypeId} {v sv : Value} {xs ys : List Value}
theorem Row.of_own {n g : Nat} (h : Own w e (.slice (some ⟨g, 0, none⟩) n n) xs) (f : Nat → Value) (hf : ∀ i, i < n → xs[i]? = some (f i)) : Row w g e n f := by
  rcases h.2 with ⟨h', _⟩ | ⟨g', cap', cur, h', hb, hg, hnc, hcm, hcs, htake⟩
  · simp at h'
  · simp only [Value.slice.injEq, Option.some.injEq, Addr.mk.injEq, and_true] at h'
    obtain ⟨rfl, hn, rfl⟩ := h'
    unfold Row
    rw [hg]
    congr 2
    apply Array.ext
    · rw [hcs, rowOf_size]; omega
    · intro i h1 h2
      rw [rowOf_size] at h2
      have h3 := hf i h2
      rw [← htake, List.getElem?_take] at h3
      have h4 : i < xs.length * 1 := by omega
      rw [if_pos h4, Array.getElem?_toList, Array.getElem?_eq_getElem h1] at h3
      have h5 := rowOf_get n f i h2
      rw [Array.getElem?_eq_getElem (by rw [rowOf_size]; exact h2)] at h5
      rw [Option.some.inj h3, Option.some.inj h5]
theorem Own.of_rowh {n g : Nat} {f : Nat → Value} (h : Row w g e n f) (hm : n ≤ maxLen) : Own w e (.slice (some ⟨g, 0, none⟩) n n) ((List.range n).map f) := by
  have hl : ((List.range n).map f).length = n := by simp
  unfold Own
  rw [hl]
  exact ⟨by rw [hl]; simp, .inr ⟨g, n, _, rfl, Nat.zero_le _, h, Nat.le_refl _, hm, by rw [rowOf_size]; omega, by rw [rowOf_toList, Nat.mul_one]; exact List.take_of_length_le (by simp)⟩⟩
theorem Row.copied {n g off : Nat} {T : TypeId} {f : Nat → BitVec 8} (l : List (BitVec 8)) (h : w.heap[g]? = some (.cells (_root_.Go.splice ((List.range n).map (w8 f)) off (l.map W8)).toArray T (0, 0))) (hfit : off + l.length ≤ n) :
    Row w g T n (w8 (overF f off l)) := by
  unfold Row
  rw [h, rowOf_list]
  congr 3
  apply List.ext_getElem
  · rw [_root_.Go.length_splice _ _ _ (by simpa using hfit)]; simp
  · intro i h1 h2
    simp only [List.length_map, List.length_range] at h2
    simp only [_root_.Go.splice, List.getElem_map, List.getElem_range, w8, overF]
    by_cases h3 : i < off
    · rw [List.getElem_append_left (by simp; omega)]
      simp
      rw [if_neg (by omega)]
      rfl
    · rw [List.getElem_append_right (by simp; omega)]
      have hm : min off n = off := by omega
      by_cases h4 : i < off + l.length
      · rw [List.getElem_append_left (by simp; omega)]
        simp only [List.length_take, List.length_map, List.length_range, hm, List.getElem_map]
        rw [if_pos ⟨by omega, h4⟩, List.getD_eq_getElem?_getD, List.getElem?_eq_getElem (by omega)]
        rfl
      · rw [List.getElem_append_right (by simp; omega)]
        simp only [List.length_take, List.length_map, List.length_range, hm, List.getElem_drop, List.getElem_map, List.getElem_range]
        rw [if_neg (by omega)]
        congr 2
        omega
/-- A cut out of what a slice reads. -/
theorem Seg.part {a : Addr} {n c : Nat} (h : Seg w (.slice (some a) n c) xs) (hv : a.spot = none) (lo hi c' : Nat) (h1 : lo ≤ hi) (h2 : hi ≤ xs.length) : Seg w (.slice (some ⟨a.block, a.off + lo, none⟩) (hi - lo) c') ((xs.drop lo).take (hi - lo)) := by
  obtain ⟨ao, cp, hs, h0, hc⟩ := h
  simp only [Value.slice.injEq] at hs
  obtain ⟨rfl, _, _⟩ := hs
  refine ⟨some ⟨a.block, a.off + lo, none⟩, c', (by rw [List.length_take, List.length_drop, Nat.min_eq_left (by omega)]), (fun h => by simp at h), fun b hb j u hu => ?_⟩
  cases hb
  rw [List.getElem?_take] at hu
  split at hu
  · rw [List.getElem?_drop] at hu
    have := hc a rfl (lo + j) u hu
    rw [show a = ⟨a.block, a.off, none⟩ by cases a; simp at hv ⊢; exact hv] at this
    rw [← this]
    by_cases j0 : j = 0
    · by_cases l0 : lo = 0
      · subst j0; subst l0; simp [Addr.add]
      · subst j0; simp [Addr.add, l0]
    · simp [Addr.add, j0, Nat.add_assoc]
  · cases hu
end
theorem goInt_nat (n : Nat) : goInt n = .int .i64 (n : Int) := rfl
theorem wpList_copy_row {P : Program} {w : World} {ops : Array Oper} {rest : List Oper} {o : Oper} {a : Act} {Q : Exit → Act → World → Prop} (hgd : o.guard = none) (d s : Operand) (dT sT : TypeId)
    (ho : o.op = .call { callee := .builtin .copy, args := #[d, s], argTypes := #[dT, sT] }) (elem : TypeId) (hu : P.underlying dT = some (.slice elem)) (hsz : (P.info? elem).map (·.size) = some 1)
    (g off n dLen dCap : Nat) (T : TypeId) (f : Nat → BitVec 8) (hg : Row w g T n (w8 f)) (l : List (BitVec 8)) (sv : Value) (hd : a.eval d = .slice (some ⟨g, off, none⟩) dLen dCap) (hs : a.eval s = sv)
    (hseg : Seg w sv (l.map W8)) (hle : l.length ≤ dLen) (hfit : off + l.length ≤ n)
    (h : ∀ w', Row w' g T n (w8 (overF f off l)) → Frm (fun k => k = g) w w' → wpList P ops Q rest (a.put o.dst (.int .i64 (l.length : Int))) w') :
    wpList P ops Q (o :: rest) a w := by
  obtain ⟨ao, c, rfl, h0, hc⟩ := hseg
  rw [List.length_map] at hs
  by_cases hl : l.length = 0
  · obtain rfl : l = [] := List.eq_nil_of_length_eq_zero hl
    refine wpList_copy_nothing hgd d s dT sT ho elem hu hsz _ _ _ _ _ _ hd hs (by simp) ?_
    refine h w (hg.congr fun i hi => ?_) (Frm.refl _ _)
    simp only [w8, overF]
    rw [if_neg (by simp)]
  · cases ao with
    | none => have := (h0 rfl).1; simp at this; simp [this] at hl
    | some ad =>
      refine wpList_copy_own hgd d s dT sT ho elem hu hsz g off dLen dCap ad l.length c hd hs _ T hg (l.map W8) (by rw [List.length_map]; exact (Nat.min_eq_left hle).symm) (hc ad rfl) (by rw [List.length_map, rowOf_size]; exact hfit) (fun u hu => by
        obtain ⟨x, _, rfl⟩ := List.mem_map.1 hu; rfl) ?_
      rw [List.length_map, goInt_nat]
      refine h _ (Row.copied l ?_ hfit) ((Frm.refl _ _).setRow _ _ (fun _ => rfl))
      rw [setRow_heap w g _ _ T (0, 0) hg, rowOf_toList]
      simp [_root_.Go.splice]
theorem madeCells_u8 (n : Nat) : (madeCells #[Value.int .u8 0] n).toList = (List.range n).map (w8 fun _ => 0#8) := by
  apply List.ext_getElem
  · simp [size_madeCells]
  · intro i h1 h2
    have : i % 1 = 0 := Nat.mod_one i
    simp [madeCells, this, w8]
    rfl
theorem seg_oneV (w : World) (T : TypeId) (u : Value) : Seg (w.alloc (.cells #[u] T)) (.slice (some ⟨w.heap.size, 0, none⟩) 1 1) [u] := by
  refine ⟨_, _, rfl, (fun h => by cases h), fun a ha j v hv => ?_⟩
  cases ha
  cases j with
  | zero => simp at hv; subst hv; rw [Addr.add_zero']; simp
  | succ j => simp at hv
theorem info_slice8 : (Try.prog.info? 22).map (fun i => (i.zero, i.size, i.bytes)) = some (some (.slice none 0 0), 1, 24) := by kernel_rfl
/-- A slice of k slices of sz bytes each, all new. -/
structure PartsAt (N : Nat) (w : World) (v : Value) (sz : Nat) (bs : List (List (BitVec 8))) (gs : List (Nat × Nat)) : Prop where
  len : gs.length = bs.length
  own : Own w 22 v (gs.map fun p => .slice (some ⟨p.1, 0, none⟩) sz p.2)
  part : ∀ (i : Nat) (p : Nat × Nat) (b : List (BitVec 8)), gs[i]? = some p → bs[i]? = some b → b.length = sz ∧ Own w 5 (.slice (some ⟨p.1, 0, none⟩) sz p.2) (b.map W8) ∧ N ≤ p.1 ∧ v.ownBlock ≠ some p.1
  apart : (gs.map (·.1)).Pairwise (· < ·)
  fresh : ∀ g, v.ownBlock = some g → N ≤ g
end Go.Proofs.Ytljddimmhjiehaa
