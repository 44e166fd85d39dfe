/- The slices of a package: what they read; one byte of them changed. -/
import Derived.Test.YtljddimmhjiehaaEql
namespace Go.Proofs.Ytljddimmhjiehaa
open Go.RowKit

theorem Own.put {w : World} {e : TypeId} {g n cap : Nat} {xs : List Value} (h : Own w e (.slice (some ⟨g, 0, none⟩) n cap) xs) (r : Nat) (u : Value) : Own (w.setCell ⟨g, r, none⟩ u) e (.slice (some ⟨g, 0, none⟩) n cap) (xs.set r u) := by
  have hn : n = xs.length := by
    rcases h.2 with ⟨h', _⟩ | ⟨g', cap', cur, h', _⟩
    · simp at h'
    · simp only [Value.slice.injEq] at h'; exact h'.2.1
  subst hn
  have := (World.ownsRow.stored (base := 0) h r u).1
  unfold Own
  rwa [List.length_set]
section
variable {N sz : Nat} {w w' : World} {v : Value} {bs : List (List (BitVec 8))} {gs : List (Nat × Nat)}
theorem PartsAt.frm (h : PartsAt N w v sz bs gs) (hf : Frm Nil w w') : PartsAt N w' v sz bs gs :=
  ⟨h.len, hf.own h.own (by simp [Nil]), fun i p b hp hb => by
    obtain ⟨h1, h2, h3, h4⟩ := h.part i p b hp hb
    exact ⟨h1, hf.own h2 (by simp [Nil]), h3, h4⟩, h.apart, h.fresh⟩
theorem PartsAt.form (h : PartsAt N w v sz bs gs) (hk : 1 ≤ bs.length) : ∃ g c, v = .slice (some ⟨g, 0, none⟩) bs.length c ∧ bs.length ≤ c ∧ g < w.heap.size ∧ (∀ (j : Nat) (p : Nat × Nat), gs[j]? = some p → w.cell? ⟨g, j, none⟩ = some (.slice (some ⟨p.1, 0, none⟩) sz p.2)) := by
  rcases h.own.form with ⟨_, h2⟩ | ⟨g, cap, h1, h2, h3, h4, _⟩
  · have := congrArg List.length h2
    rw [List.length_map, h.len, List.length_nil] at this
    omega
  · rw [List.length_map, h.len] at h1 h2
    refine ⟨g, cap, h1, h2, h3, fun j p hp => ?_⟩
    have hj : j < gs.length := (List.getElem?_eq_some_iff.1 hp).1
    rw [h4 j (by rw [List.length_map]; exact hj), List.getElem?_map, hp]
    rfl
theorem PartsAt.texts (h : PartsAt N w v sz bs gs) (hk : 1 ≤ bs.length) : Texts w v bs := by
  obtain ⟨g, c, h1, h2, _, h4⟩ := h.form hk
  refine ⟨g, 0, c, fun j => .slice (some ⟨(gs.getD j (0, 0)).1, 0, none⟩) sz (gs.getD j (0, 0)).2, h1, h2, fun j hj => ?_⟩
  have hj' : j < gs.length := by rw [h.len]; exact hj
  have e : gs[j]? = some (gs.getD j (0, 0)) := by rw [List.getD_eq_getElem?_getD, List.getElem?_eq_getElem hj']; rfl
  have eb : bs[j]? = some (bs.getD j []) := by rw [List.getD_eq_getElem?_getD, List.getElem?_eq_getElem hj]; rfl
  refine ⟨?_, (h.part j _ _ e eb).2.1.seg⟩
  rw [Nat.zero_add]
  exact h4 j _ e
theorem PartsAt.flat (h : PartsAt N w v sz bs gs) : Flat bs sz := fun j hj => by
  have hj' : j < gs.length := by rw [h.len]; exact hj
  have e : gs[j]? = some (gs.getD j (0, 0)) := by rw [List.getD_eq_getElem?_getD, List.getElem?_eq_getElem hj']; rfl
  have eb : bs[j]? = some (bs.getD j []) := by rw [List.getD_eq_getElem?_getD, List.getElem?_eq_getElem hj]; rfl
  exact (h.part j _ _ e eb).1
theorem apart_ne (h : PartsAt N w v sz bs gs) (i j : Nat) (p q : Nat × Nat) (hp : gs[i]? = some p) (hq : gs[j]? = some q) (hne : i ≠ j) : p.1 ≠ q.1 := by
  have hpw := List.pairwise_iff_getElem.1 h.apart
  obtain ⟨hi, rfl⟩ := List.getElem?_eq_some_iff.1 hp
  obtain ⟨hj, rfl⟩ := List.getElem?_eq_some_iff.1 hq
  rcases Nat.lt_or_gt_of_ne hne with hlt | hlt
  · have := hpw i j (by simpa using hi) (by simpa using hj) hlt
    simp only [List.getElem_map] at this
    omega
  · have := hpw j i (by simpa using hj) (by simpa using hi) hlt
    simp only [List.getElem_map] at this
    omega
/-- One byte of one slice is changed. -/
theorem PartsAt.put (h : PartsAt N w v sz bs gs) (q r : Nat) (p : Nat × Nat) (hp : gs[q]? = some p) (x : BitVec 8) : PartsAt N (w.setCell ⟨p.1, r, none⟩ (W8 x)) v sz (bs.set q ((bs.getD q []).set r x)) gs := by
  have hq : q < gs.length := (List.getElem?_eq_some_iff.1 hp).1
  have hqb : q < bs.length := by rw [← h.len]; exact hq
  have eb : bs[q]? = some (bs.getD q []) := by rw [List.getD_eq_getElem?_getD, List.getElem?_eq_getElem hqb]; rfl
  have hpart := h.part q p _ hp eb
  refine ⟨by rw [List.length_set]; exact h.len, h.own.set _ _ hpart.2.2.2, fun i p' b hp' hb => ?_, h.apart, h.fresh⟩
  by_cases hi : i = q
  · subst hi
    rw [hp] at hp'
    cases hp'
    rw [List.getElem?_set_self hqb] at hb
    cases hb
    refine ⟨by rw [List.length_set]; exact hpart.1, ?_, hpart.2.2⟩
    have := hpart.2.1.put r (W8 x)
    rwa [← List.map_set] at this
  · rw [List.getElem?_set_ne (Ne.symm hi)] at hb
    obtain ⟨h1, h2, h3⟩ := h.part i p' b hp' hb
    exact ⟨h1, h2.set _ _ (by simpa [Value.ownBlock] using apart_ne h i q p' p hp' hp hi), h3⟩
end
theorem flatten_set (sz : Nat) : ∀ (bs : List (List (BitVec 8))) (q r : Nat) (x : BitVec 8), Flat bs sz → r < sz → q < bs.length → (bs.set q ((bs.getD q []).set r x)).flatten = bs.flatten.set (q * sz + r) x
  | [], q, r, x, _, _, hq => by simp at hq
  | b :: bs, 0, r, x, hf, hr, _ => by
    have hb : b.length = sz := hf 0 (by simp)
    simp only [List.set_cons_zero, List.flatten_cons, List.getD_cons_zero]
    rw [List.set_append_left _ _ (by omega)]
    simp
  | b :: bs, q + 1, r, x, hf, hr, hq => by
    have hb : b.length = sz := hf 0 (by simp)
    have hf' : Flat bs sz := fun j hj => by
      have := hf (j + 1) (by simp; omega)
      simpa using this
    simp only [List.set_cons_succ, List.flatten_cons, List.getD_cons_succ]
    rw [flatten_set sz bs q r x hf' hr (by simpa using hq), List.set_append_right _ _ (by rw [hb, Nat.succ_mul]; omega)]
    congr 2
    rw [hb, Nat.succ_mul]
    omega
theorem partsOf_len (al : List (BitVec 8)) (sz k : Nat) : (partsOf al sz k).length = k := by simp [partsOf]
theorem partsOf_flat (al : List (BitVec 8)) (sz : Nat) : ∀ k, k * sz ≤ al.length → (partsOf al sz k).flatten = al.take (k * sz)
  | 0, _ => by simp [partsOf]
  | k + 1, h => by
    rw [Nat.succ_mul] at h ⊢
    have e : partsOf al sz (k + 1) = partsOf al sz k ++ [(al.drop (k * sz)).take sz] := by
      unfold partsOf
      rw [List.range_succ, List.map_append]
      rfl
    rw [e, List.flatten_append, partsOf_flat al sz k (by omega), List.take_add]
    simp
end Go.Proofs.Ytljddimmhjiehaa
