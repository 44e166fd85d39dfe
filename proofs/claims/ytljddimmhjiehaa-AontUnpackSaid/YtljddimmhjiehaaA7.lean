/- The reference's comparisons: texts, and slices of texts. -/
import Derived.Test.YtljddimmhjiehaaA6b
namespace Go.Proofs.Ytljddimmhjiehaa
open Go.RowKit

theorem Seg.cells8 {w : World} {ao : Option Addr} {n c : Nat} {l : List (BitVec 8)} (h : Seg w (.slice ao n c) (l.map W8)) : n = l.length ∧ ∀ i, i < l.length → ∃ a, ao = some a ∧ w.cell? (a.add i) = some (W8 (l.getD i 0#8)) := by
  obtain ⟨ao', c', hv, h0, hc⟩ := h
  simp only [Value.slice.injEq, List.length_map] at hv
  obtain ⟨rfl, rfl, rfl⟩ := hv
  refine ⟨rfl, fun i hi => ?_⟩
  cases ao with
  | none => have := (h0 rfl).1; simp at this; subst this; simp at hi
  | some a => exact ⟨a, rfl, hc a rfl i _ (by rw [List.getElem?_map, List.getD_eq_getElem?_getD, List.getElem?_eq_getElem hi]; rfl)⟩
theorem take_eq_succ (l m : List (BitVec 8)) (i : Nat) (hl : i < l.length) (hm : i < m.length) (h : l.take i = m.take i) (he : l.getD i 0#8 = m.getD i 0#8) : l.take (i + 1) = m.take (i + 1) := by
  rw [List.take_add_one, List.take_add_one, h]
  rw [List.getD_eq_getElem?_getD, List.getD_eq_getElem?_getD, List.getElem?_eq_getElem hl, List.getElem?_eq_getElem hm] at he
  rw [List.getElem?_eq_getElem hl, List.getElem?_eq_getElem hm]
  simp at he
  rw [he]
set_option maxHeartbeats 1000000 in
set_option maxRecDepth 100000 in
theorem same_any (l m : List (BitVec 8)) (b : Bool) (av bv : Value) (w : World) (hs : Seg w av (l.map W8)) (hm : Seg w bv (m.map W8)) (hl : l.length ≤ 4611686018427387904) (hl2 : m.length ≤ 4611686018427387904) (hb : decide (l = m) = b) :
    Calls Try.prog 18 #[av, bv] w fun e w' => e = .returned (.bool b) ∧ Frm Nil w w' := by
  obtain ⟨ao, ca, rfl⟩ := hs.open8
  obtain ⟨bo, cb, rfl⟩ := hm.open8
  have HA := hid hs.cells8.2
  have HB := hid hm.cells8.2
  have HBB := hid hb
  clear hs hm hb
  go_enter Try.func18, Try.ntmps18
  by_cases hlen : l.length = m.length
  · generalize hn : l.length = n at *
    generalize hn2 : m.length = n2 at *
    subst hlen
    go_wp2_with fail
    go_loopw [5] (fun vi wr => ∃ i : Nat, i ≤ n ∧ vi = .int .i64 (i : Int) ∧ l.take i = m.take i ∧ Frm Nil w wr) (fun vi _ => n - (intOf vi).toNat)
    case atStart => exact ⟨0, by omega, rfl, rfl, Frm.refl _ _⟩
    case round =>
      obtain ⟨i, hi, rfl, ht, hf⟩ := hrel
      by_cases hlt : i < n
      · obtain ⟨a1, rfl, c1⟩ := HA.out i hlt
        obtain ⟨a2, rfl, c2⟩ := HB.out i hlt
        have d1 := hf.cell c1 (by simp [Nil])
        have d2 := hf.cell c2 (by simp [Nil])
        have HNX := hid (fun he => take_eq_succ l m i (by omega) (by omega) ht he)
        have HNE := hid (show l.getD i 0#8 ≠ m.getD i 0#8 → decide (l = m) = false from fun h => by
          rw [decide_eq_false_iff_not]; intro h2; exact h (by rw [h2]))
        have HF := hid hf
        clear c1 c2 ht hf
        generalize l.getD i 0#8 = x at *
        generalize m.getD i 0#8 = y at *
        go_upto_region 6 with fail
        go_quiet (fail)
        generalize hv : (x != y) = vb
        cases vb with
        | false =>
          have HT := hid (HNX.out (by simpa using hv))
          clear hv HNX HNE
          go_wp2_with fail
          go_roundw
          case rel => exact ⟨i + 1, by omega, by go_num, HT.out, HF.out.drewN _⟩
          case measure => simp [intOf]; omega
        | true =>
          have HX := hid (HNE.out (by simpa using hv))
          clear hv HNX HNE
          go_wp2_with fail
          go_ret
          exact ⟨by rw [← HBB.out, HX.out]; rfl, HF.out.drewN _⟩
      · obtain rfl : i = n := by omega
        have hlm : l = m := by rw [← hn, List.take_length, hn, ← hn2, List.take_length] at ht; exact ht
        have HX := hid (show decide (l = m) = true by simpa using hlm)
        have HF := hid hf
        clear hlm ht hf
        go_wp2_with fail
        go_ret
        exact ⟨by rw [← HBB.out, HX.out]; rfl, HF.out⟩
  · have HX := hid (show decide (l = m) = false by
      rw [decide_eq_false_iff_not]; intro h2; exact hlen (by rw [h2]))
    have b1 : ((l.length : Int) != (m.length : Int)) = true := by rw [bne_iff_ne]; omega
    go_wp2_with fail
    go_ret
    exact ⟨by rw [← HBB.out, HX.out]; rfl, Frm.refl _ _⟩
/-- The same, of nothing too. -/
def Txts (w : World) (sv : Value) (bs : List (List (BitVec 8))) : Prop := (∃ ao c, sv = .slice ao 0 c) ∧ bs = [] ∨ Texts w sv bs
theorem Txts.frm {w w' : World} {sv : Value} {bs : List (List (BitVec 8))} (h : Txts w sv bs) (hf : Frm Nil w w') : Txts w' sv bs := by
  rcases h with h | h
  · exact .inl h
  · exact .inr (h.frm hf)
theorem Txts.open {w : World} {sv : Value} {bs : List (List (BitVec 8))} (h : Txts w sv bs) : ∃ (ao : Option Addr) (c : Nat) (ss : Nat → Value), sv = .slice ao bs.length c ∧
    ∀ j, j < bs.length → ∃ b o, ao = some ⟨b, o, none⟩ ∧ w.cell? ⟨b, o + j, none⟩ = some (ss j) ∧ Seg w (ss j) ((bs.getD j []).map W8) := by
  rcases h with ⟨⟨ao, c, rfl⟩, rfl⟩ | ⟨b, o, c, ss, rfl, _, h⟩
  · exact ⟨ao, c, fun _ => .bool false, rfl, fun j hj => by simp at hj⟩
  · exact ⟨_, c, ss, rfl, fun j hj => ⟨b, o, rfl, h j hj⟩⟩
theorem takeT_eq_succ (l m : List (List (BitVec 8))) (i : Nat) (hl : i < l.length) (hm : i < m.length) (h : l.take i = m.take i) (he : l.getD i [] = m.getD i []) : l.take (i + 1) = m.take (i + 1) := by
  rw [List.take_add_one, List.take_add_one, h]
  rw [List.getD_eq_getElem?_getD, List.getD_eq_getElem?_getD, List.getElem?_eq_getElem hl, List.getElem?_eq_getElem hm] at he
  rw [List.getElem?_eq_getElem hl, List.getElem?_eq_getElem hm]
  simp at he
  rw [he]
def Short (bs : List (List (BitVec 8))) : Prop := ∀ j, j < bs.length → (bs.getD j []).length ≤ 4611686018427387904
set_option maxHeartbeats 1000000 in
set_option maxRecDepth 100000 in
theorem sameAll_any (l m : List (List (BitVec 8))) (b : Bool) (av bv : Value) (w : World) (hs : Txts w av l) (hm : Txts w bv m) (hl : l.length ≤ 4611686018427387904) (hl2 : m.length ≤ 4611686018427387904) (hS : Short l) (hS2 : Short m) (hb : decide (l = m) = b) :
    Calls Try.prog 19 #[av, bv] w fun e w' => e = .returned (.bool b) ∧ Frm Nil w w' := by
  obtain ⟨ao, ca, sa, rfl, ha⟩ := hs.open
  obtain ⟨bo, cb, sb, rfl, hb2⟩ := hm.open
  have HA := hid ha
  have HB := hid hb2
  have HBB := hid hb
  have HS1 := hid hS
  have HS2 := hid hS2
  clear hs hm hb ha hb2 hS hS2
  go_enter Try.func19, Try.ntmps19
  by_cases hlen : l.length = m.length
  · have HSH1 : Hid (∀ j, j < l.length → (l.getD j []).length ≤ 4611686018427387904) := HS1.out
    have HSH2 : Hid (∀ j, j < m.length → (m.getD j []).length ≤ 4611686018427387904) := HS2.out
    clear HS1 HS2
    generalize hn : l.length = n at *
    generalize hn2 : m.length = n2 at *
    subst hlen
    go_wp2_with fail
    go_loopw [5] (fun vi wr => ∃ i : Nat, i ≤ n ∧ vi = .int .i64 (i : Int) ∧ l.take i = m.take i ∧ Frm Nil w wr) (fun vi _ => n - (intOf vi).toNat)
    case atStart => exact ⟨0, by omega, rfl, rfl, Frm.refl _ _⟩
    case round =>
      obtain ⟨i, hi, rfl, ht, hf⟩ := hrel
      by_cases hlt : i < n
      · obtain ⟨b1, o1, rfl, c1, s1⟩ := HA.out i hlt
        obtain ⟨b2, o2, rfl, c2, s2⟩ := HB.out i hlt
        have d1 := fun d os => cell_regrown (hf.cell c1 (by simp [Nil])) d os
        have d2 := fun d os => cell_regrown (hf.cell c2 (by simp [Nil])) d os
        have hq1 := HSH1.out i hlt
        have hq2 := HSH2.out i hlt
        have HNX := hid (fun he => takeT_eq_succ l m i (by omega) (by omega) ht he)
        have HNE := hid (show l.getD i [] ≠ m.getD i [] → decide (l = m) = false from fun h => by
          rw [decide_eq_false_iff_not]; intro h2; exact h (by rw [h2]))
        have HF := hid hf
        have HG1 := hid (s1.frm hf (by simp [Nil]))
        have HG2 := hid (s2.frm hf (by simp [Nil]))
        clear c1 c2 ht hf s1 s2
        generalize l.getD i [] = x at *
        generalize m.getD i [] = y at *
        generalize sa i = sx at *
        generalize sb i = sy at *
        generalize hvb : decide (x = y) = vb
        have HVB := hid hvb
        clear hvb
        go_upto_region 6 with fail
        refine wp_region_later (by kernel_rfl) (by kernel_rfl) ?_
        repeat (go_big_quiet_step (refine later_of (same_any x y vb _ _ _ (HG1.out.frm (frm_later _ _ _) (by simp [Nil])) (HG2.out.frm (frm_later _ _ _) (by simp [Nil])) hq1 hq2 HVB.out)))
        refine wpQuiet_nil ?_
        intro w2 hf2
        have HF2 := hid (HF.out.trans hf2 (fun _ _ h => h))
        clear hf2 HF HG1 HG2
        cases vb with
        | false =>
          have HX := hid (HNE.out (by simpa using HVB.out))
          clear HNX HNE
          go_wp2_with fail
          go_ret
          exact ⟨by rw [← HBB.out, HX.out]; rfl, HF2.out⟩
        | true =>
          have HT := hid (HNX.out (by simpa using HVB.out))
          clear HNX HNE
          go_wp2_with fail
          go_roundw
          case rel => exact ⟨i + 1, by omega, by go_num, HT.out, HF2.out⟩
          case measure => simp [intOf]; omega
      · obtain rfl : i = n := by omega
        have hlm : l = m := by rw [← hn, List.take_length, hn, ← hn2, List.take_length] at ht; exact ht
        have HX := hid (show decide (l = m) = true by simpa using hlm)
        have HF := hid hf
        clear hlm ht hf
        go_wp2_with fail
        go_ret
        exact ⟨by rw [← HBB.out, HX.out]; rfl, HF.out⟩
  · have HX := hid (show decide (l = m) = false by
      rw [decide_eq_false_iff_not]; intro h2; exact hlen (by rw [h2]))
    have b1 : ((l.length : Int) != (m.length : Int)) = true := by rw [bne_iff_ne]; omega
    go_wp2_with fail
    go_ret
    exact ⟨by rw [← HBB.out, HX.out]; rfl, Frm.refl _ _⟩
end Go.Proofs.Ytljddimmhjiehaa
/- Slices of slices that a call makes for itself; the reference's cut, copies and sizes of texts. -/
namespace Go.Proofs.Ytljddimmhjiehaa
open Go.RowKit

/-- v is the call's own slice of texts bs in wr, each of its own. -/
structure TextsNew (w wr : World) (v : Value) (bs : List (List (BitVec 8))) : Prop where
  out : ∃ ss : List Value, ss.length = bs.length ∧ New w wr 22 v ss ∧ ∀ (j : Nat) (s : Value) (b : List (BitVec 8)), ss[j]? = some s → bs[j]? = some b → Own wr 5 s (b.map W8) ∧ ∀ g, s.ownBlock = some g → w.heap.size ≤ g ∧ v.ownBlock ≠ some g
section
variable {w wr w1 : World} {v : Value} {bs : List (List (BitVec 8))}
theorem TextsNew.nil (h : Frm Nil w wr) : TextsNew w wr (.slice none 0 0) [] := ⟨[], rfl, New.nil _ h, fun j s b h => by simp at h⟩
theorem TextsNew.frm (h : TextsNew w wr v bs) : Frm Nil w wr := by
  obtain ⟨ss, _, hn, _⟩ := h.out
  exact hn.frm
theorem TextsNew.later (h : TextsNew w wr v bs) (hf : Frm Nil wr w1) : TextsNew w w1 v bs := by
  obtain ⟨ss, hl, hn, hs⟩ := h.out
  exact ⟨ss, hl, hn.later hf, fun j s b h1 h2 => ⟨hf.own (hs j s b h1 h2).1 (by simp [Nil]), (hs j s b h1 h2).2⟩⟩
theorem TextsNew.lower {w0 : World} (h : TextsNew w wr v bs) (hf : Frm Nil w0 w) : TextsNew w0 wr v bs := by
  obtain ⟨ss, hl, hn, hs⟩ := h.out
  exact ⟨ss, hl, hn.lower hf, fun j s b h1 h2 => ⟨(hs j s b h1 h2).1, fun g hg => ⟨Nat.le_trans hf.size ((hs j s b h1 h2).2 g hg).1, ((hs j s b h1 h2).2 g hg).2⟩⟩⟩
theorem TextsNew.form (h : TextsNew w wr v bs) : ∃ ao c, v = .slice ao bs.length c := by
  obtain ⟨ss, hl, hn, _⟩ := h.out
  rw [← hl]
  exact hn.form
theorem TextsNew.txts (h : TextsNew w wr v bs) : Txts wr v bs := by
  obtain ⟨ss, hl, hn, hs⟩ := h.out
  rcases hn.own.form with ⟨h1, h2⟩ | ⟨g, cap, h1, h2, h3, h4, _⟩
  · subst h2
    exact .inl ⟨⟨_, _, h1⟩, List.eq_nil_of_length_eq_zero hl.symm⟩
  · refine .inr ⟨g, 0, cap, fun j => ss.getD j (.bool false), by rw [← hl]; exact h1, by omega, fun j hj => ?_⟩
    have hj2 : j < ss.length := by omega
    have e1 : (fun j => ss.getD j (.bool false)) j = ss[j] := by simp [List.getD_eq_getElem?_getD, List.getElem?_eq_getElem hj2]
    have e2 : bs.getD j [] = bs[j] := by simp [List.getD_eq_getElem?_getD, List.getElem?_eq_getElem hj]
    rw [Nat.zero_add, h4 j hj2, List.getElem?_eq_getElem hj2, e1, e2]
    exact ⟨rfl, (hs j _ _ (List.getElem?_eq_getElem hj2) (List.getElem?_eq_getElem hj)).1.seg⟩
theorem New.one {s : Value} {b : List (BitVec 8)} {w : World} (h : New w w1 5 s (b.map W8)) : s.oneCell' = true := by
  obtain ⟨ao, c, rfl⟩ := h.form
  rfl
end
/-- append of one text that was made beside what was there. -/
theorem pushT {ops : Array Oper} {rest : List Oper} {o : Oper} {a : Act} {Q : Exit → Act → World → Prop} {w0 wr w : World} {v s : Value} {bs : List (List (BitVec 8))} {b : List (BitVec 8)} (hn : TextsNew w0 wr v bs) (hb : New wr w 5 s (b.map W8)) (hl : bs.length ≤ 1000000000000) (hgd : o.guard = none) (p x : Operand)
    (ho : o.op = .call { callee := .builtin .append, args := #[p, x], argTypes := #[27, 27] }) (hs : a.eval p = v) (hx : a.eval x = .slice (some ⟨w.heap.size, 0, none⟩) 1 1)
    (h : ∀ v' w', TextsNew w0 w' v' (bs ++ [b]) → Frm (fun k => v.ownBlock = some k) w w' → (v'.ownBlock = v.ownBlock ∨ ∃ g, v'.ownBlock = some g ∧ w.heap.size ≤ g) → wpList Try.prog ops Q rest (a.put o.dst v') w') :
    wpList Try.prog ops Q (o :: rest) a (w.alloc (.cells #[s] 22)) := by
  obtain ⟨ss, hsl, hnn, hss⟩ := (hn.later hb.frm).out
  refine wpList_push w0 w 22 s hgd p x 27 ho 22 (.slice none 0 0) 24 Try.underlying27 info_slice8 rfl v ss hs hx hnn hb.one (by rw [hsl]; unfold maxLen; omega) (by rw [hsl]; omega) fun v' w' h2 h3 h4 => h v' w' ⟨ss ++ [s], by simp [hsl], h2, fun j t c h5 h6 => ?_⟩ h3 h4
  have hvl : ∀ g, v.ownBlock = some g → g < wr.heap.size := fun g hg => by
    obtain ⟨_, _, hq, _⟩ := hn.out
    exact hq.own.lt hg
  have key : ∀ (t : Value) (c : List (BitVec 8)), Own w 5 t (c.map W8) → (∀ g, t.ownBlock = some g → w0.heap.size ≤ g ∧ v.ownBlock ≠ some g) → Own w' 5 t (c.map W8) ∧ ∀ g, t.ownBlock = some g → w0.heap.size ≤ g ∧ v'.ownBlock ≠ some g := fun t c ht hg => by
    refine ⟨h3.own ht (fun g h7 h8 => (hg g h7).2 h8), fun g h7 => ⟨(hg g h7).1, fun h8 => ?_⟩⟩
    rcases h4 with h4 | ⟨g', h4, h9⟩
    · exact (hg g h7).2 (by rw [← h4]; exact h8)
    · rw [h8] at h4; cases h4
      have := ht.lt h7; omega
  rw [List.getElem?_append] at h5 h6
  rw [← hsl] at h6
  by_cases hj : j < ss.length
  · rw [if_pos hj] at h5 h6
    exact key t c (hss j t c h5 h6).1 (hss j t c h5 h6).2
  · rw [if_neg hj] at h5 h6
    have hj0 : j - ss.length = 0 := by
      have := (List.getElem?_eq_some_iff.1 h5).1
      simp at this; omega
    rw [hj0] at h5 h6
    simp at h5 h6
    subst h5; subst h6
    refine key s b hb.own fun g hg => ?_
    have h7 := hb.fresh g hg
    have h8 := hn.frm.size
    refine ⟨by omega, fun h9 => ?_⟩
    have := hvl g h9; omega
theorem partsOf_snoc (al : List (BitVec 8)) (sz i : Nat) : partsOf al sz (i + 1) = partsOf al sz i ++ [(al.drop (i * sz)).take ((i * sz + sz) - i * sz)] := by
  unfold partsOf
  rw [List.range_succ, List.map_append, Nat.add_sub_cancel_left]
  rfl
set_option maxHeartbeats 2000000 in
set_option maxRecDepth 100000 in
theorem cut_core (k sz N g cp : Nat) (al : List (BitVec 8)) (bs : List (List (BitVec 8))) (w : World) (ho : Own w 5 (.slice (some ⟨g, 0, none⟩) N cp) (al.map W8)) (hN : N = sz * k) (hk : 1 ≤ k) (hk2 : k ≤ 255) (hz : 1 ≤ sz) (hsz : sz ≤ 2000) (hbs : partsOf al sz k = bs) :
    Calls Try.prog 40 #[.int .i64 (k : Int), .slice (some ⟨g, 0, none⟩) N cp] w fun e w' => ∃ v, e = .returned v ∧ TextsNew w w' v bs := by
  have hln : al.length = N := by
    rcases ho.form with ⟨h, _⟩ | ⟨_, _, h, _⟩
    · simp at h
    · simp only [Value.slice.injEq, List.length_map] at h; exact h.2.1.symm
  have hcap : N ≤ cp := by
    rcases ho.form with ⟨h, _⟩ | ⟨_, _, h, h2, _⟩
    · simp at h
    · simp only [Value.slice.injEq, List.length_map] at h h2; omega
  have hd : (N : Int) / (k : Int) = (sz : Int) := by
    rw [hN, Int.natCast_mul]
    exact Int.mul_ediv_cancel _ (by omega)
  have hNb : N ≤ 2000 * 255 := by rw [hN]; exact Nat.mul_le_mul hsz hk2
  have HD := hid (show wrap64 ((N : Int) / (k : Int)) = (sz : Int) by rw [hd, IntWalk.wrap64_in _ ⟨by omega, by omega⟩])
  have HMUL := hid (fun i (h : i < k) => show i * sz + sz ≤ N by rw [hN, ← Nat.succ_mul, Nat.mul_comm sz k]; exact Nat.mul_le_mul_right _ h)
  have HO := hid ho
  have HLN := hid hln
  have HBS := hid hbs
  clear ho hN hd hbs hln
  go_enter Try.func40, Try.ntmps40
  go_upto_region 2 with fail
  rw [HD.out]
  go_wp2_with fail
  go_loopw [6, 7] (fun vo vi wr => ∃ (i : Nat) (q : Value), q = vo ∧ i ≤ k ∧ vi = .int .i64 (i : Int) ∧ TextsNew w wr vo (partsOf al sz i)) (fun _ vi _ => k - (intOf vi).toNat)
  case atStart => exact ⟨0, _, rfl, by omega, rfl, TextsNew.nil (Frm.refl _ _)⟩
  case round =>
    obtain ⟨i, q, rfl, hi, rfl, hn⟩ := hrel
    by_cases hlt : i < k
    · have hmul := HMUL.out i hlt
      have hm1 : (i : Int) * (sz : Int) = ((i * sz : Nat) : Int) := (Int.natCast_mul _ _).symm
      have hq1 : 0 ≤ (i : Int) * (sz : Int) := by omega
      have hq2 : (i : Int) * (sz : Int) + (sz : Int) ≤ (N : Int) := by omega
      have hsg := (hn.frm.own HO.out (by simp [Nil])).seg.part rfl (i * sz) (i * sz + sz) (cp - i * sz) (by omega) (by rw [List.length_map, HLN.out]; omega)
      rw [Nat.zero_add, ← List.map_drop, ← List.map_take] at hsg
      have hst := partsOf_snoc al sz i
      have hbl : ((al.drop (i * sz)).take ((i * sz + sz) - i * sz)).length = sz := by
        rw [List.length_take, List.length_drop, HLN.out]; omega
      have hpl := partsOf_len al sz i
      generalize (al.drop (i * sz)).take ((i * sz + sz) - i * sz) = pb at *
      have hne : ¬ cp = i * sz := by omega
      have HM1 := hid hm1
      have HSG := hid hsg
      have HST := hid hst
      have HBL := hid hbl
      have HPL := hid hpl
      have HN := hid hn
      clear hm1 hsg hst hbl hpl hn hmul
      go_upto_region 7 with fail
      go_wp2_with (at_builtin; go_loud (refine app8 (l := []) (New.nil _ (Frm.refl Nil wr)) (by exact HSG.out) (by rw [HBL.out]; simp; omega) rfl _ _ rfl (by rfl) (by rfl) ?_))
      intro q2 w2 hn2 _ _
      have hn3 : New wr w2 5 q2 (pb.map W8) := by simpa using hn2
      obtain ⟨ao2, c2, rfl⟩ := hn3.len8
      have HN3 := hid hn3
      clear hn2 hn3
      go_upto_region 8 with fail
      go_wp2_with (at_builtin; go_loud (refine pushT HN.out HN3.out (by rw [HPL.out]; omega) rfl _ _ rfl (by rfl) (by rfl) ?_))
      intro q3 w3 hn4 _ _
      have HN4 : Hid (TextsNew w w3 q3 (partsOf al sz (i + 1))) := by rw [HST.out]; exact hn4
      clear hn4
      go_wp2_with fail
      go_roundw
      case rel => exact ⟨i + 1, _, rfl, by omega, by go_num, HN4.out⟩
      case measure => simp [intOf]; omega
    · obtain rfl : i = k := by omega
      rw [HBS.out] at hn
      have HN := hid hn
      clear hn
      go_wp2_with fail
      go_ret
      exact ⟨_, rfl, HN.out⟩
end Go.Proofs.Ytljddimmhjiehaa
/- The reference's packing, whole, and what it refuses. -/
namespace Go.Proofs.Ytljddimmhjiehaa
open Go.RowKit

set_option maxHeartbeats 2000000 in
set_option maxRecDepth 100000 in
theorem refSize_out (c k : Int) (w : World) (h : ¬ (IsCls c ∧ 1 ≤ k ∧ k ≤ 255)) :
    Calls Try.prog 25 #[.int .i64 c, .int .i64 k] w fun e w' => e = .returned (.tuple #[.int .i64 0, .int .i64 14]) ∧ w = w' := by
  by_cases hc : IsCls c
  · by_cases hk : k < 1
    · clear h
      have e0 : decide (k < 1) = true := by simpa using hk
      rcases hc with rfl | rfl | rfl | rfl | rfl | rfl
      all_goals
        go_enter Try.func25, Try.ntmps25
        go_wp2_with fail
        go_ret2
        exact ⟨rfl, rfl⟩
    · have hk2 : 255 < k := by
        by_cases h3 : 255 < k
        · exact h3
        · exact absurd ⟨hc, by omega, by omega⟩ h
      clear h
      have e0 : decide (k < 1) = false := by simpa using hk
      have e1 : decide (k > 255) = true := by simpa using hk2
      rcases hc with rfl | rfl | rfl | rfl | rfl | rfl
      all_goals
        go_enter Try.func25, Try.ntmps25
        go_wp2_with fail
        go_ret2
        exact ⟨rfl, rfl⟩
  · have n1 : (c == 32) = false := by rw [beq_eq_false_iff_ne]; intro h3; exact hc (by unfold IsCls; omega)
    have n2 : (c == 64) = false := by rw [beq_eq_false_iff_ne]; intro h3; exact hc (by unfold IsCls; omega)
    have n3 : (c == 128) = false := by rw [beq_eq_false_iff_ne]; intro h3; exact hc (by unfold IsCls; omega)
    have n4 : (c == 256) = false := by rw [beq_eq_false_iff_ne]; intro h3; exact hc (by unfold IsCls; omega)
    have n5 : (c == 512) = false := by rw [beq_eq_false_iff_ne]; intro h3; exact hc (by unfold IsCls; omega)
    have n6 : (c == 1024) = false := by rw [beq_eq_false_iff_ne]; intro h3; exact hc (by unfold IsCls; omega)
    clear h hc
    go_enter Try.func25, Try.ntmps25
    go_wp2_with fail
    go_ret2
    exact ⟨rfl, rfl⟩
theorem whole_len (key : Nat → BitVec 8) (l : List (BitVec 8)) (c k : Nat) (hk : 1 ≤ k) : (fullL key (hidL key l c) c k).length = sizeN c k * k := by
  have hb := sizeN_bounds c k hk
  have hhl : (hidL key l c).length = c + 16 := by rw [hidL, hideL_len, inL, List.length_map, List.length_range]
  simp only [fullL, List.length_append, List.length_map, List.length_range, List.length_replicate, hhl]
  omega
set_option maxHeartbeats 2000000 in
set_option maxRecDepth 100000 in
theorem rPack_core (k c sz : Nat) (l al : List (BitVec 8)) (bs : List (List (BitVec 8))) (sv : Value) (key : Nat → BitVec 8) (w : World) (hs : Seg w sv (l.map W8)) (hlen : l.length ≤ 1000) (hk : 1 ≤ k) (hk2 : k ≤ 255)
    (hc : classN l.length = c) (hsz : sizeN c k = sz) (hal : fullL key (hidL key l c) c k = al) (hbs : partsOf al sz k = bs) :
    Calls Try.prog 20 #[.agg (rowOf 256 (w8 tabF)), .int .i64 (k : Int), sv, .agg (rowOf 32 (w8 key))] w fun e w' => ∃ v, e = .returned (.tuple #[v, .int .i64 0]) ∧ TextsNew w w' v bs := by
  have hcs := classN_spec l.length hlen
  rw [hc] at hcs
  obtain ⟨hic, hc1, _⟩ := hcs
  have hc2 : 32 ≤ c ∧ c ≤ 1024 := by unfold IsCls at hic; omega
  obtain ⟨hc2, hc3⟩ := hc2
  have hb := sizeN_bounds c k hk
  rw [hsz] at hb
  have hall := whole_len key l c k hk
  rw [hal, hsz] at hall
  have HCL := hid (fun w => rClass_in l.length c w hlen hc)
  have HSZ := hid (fun w => refSize_in c k sz w hic hk hk2 hsz)
  have HWH := hid (fun sv w hs => whole_core k c sz l _ _ _ al _ sv key w hs hlen hk hk2 hc hsz rfl rfl rfl rfl hal)
  have HCT := hid (fun g cp w ho => cut_core k sz (sz * k) g cp al bs w ho rfl hk hk2 (by omega) (by omega) hbs)
  have HS := hid hs
  have HALL := hid hall
  obtain ⟨ao, cp, rfl⟩ := hs.open8
  clear hs hc hsz hal hbs hic hall
  generalize sz * k = N at *
  obtain ⟨hb1, hb2, hb3, hb4⟩ := hb
  go_enter Try.func20, Try.ntmps20
  have ht0 := (Row.new w 47 256 (w8 tabF)).alloc (.cells (rowOf 32 (w8 key)) 26)
  have hk0 := Row.new (w.alloc (.cells (rowOf 256 (w8 tabF)) 47)) 26 32 (w8 key)
  rw [World.size_alloc] at hk0
  have hf0 := ((Frm.refl Nil w).alloc (.cells (rowOf 256 (w8 tabF)) 47)).alloc (.cells (rowOf 32 (w8 key)) 26)
  have HT0 := hid ht0
  have HK0 := hid hk0
  have HF0 := hid hf0
  clear ht0 hk0 hf0
  go_upto_region 1 with fail
  generalize (w.alloc (.cells (rowOf 256 (w8 tabF)) 47)).alloc (.cells (rowOf 32 (w8 key)) 26) = w0 at HT0 HK0 HF0 ⊢
  go_wp2_with fail
  refine (HCL.out w0).mono ?_
  rintro e w' ⟨rfl, rfl⟩
  go_wp2_with fail
  refine (HSZ.out w0).mono ?_
  rintro e w' ⟨rfl, rfl⟩
  have HC1 : Hid (∀ j, j < 256 → w0.cell? ⟨w.heap.size, 0 + j, none⟩ = some (w8 tabF j)) := fun j hj => by rw [Nat.zero_add]; exact HT0.out.cell j hj
  have HC2 : Hid (∀ j, j < 32 → w0.cell? ⟨w.heap.size + 1, 0 + j, none⟩ = some (w8 key j)) := fun j hj => by rw [Nat.zero_add]; exact HK0.out.cell j hj
  go_wp2_with (first | (refine wpList_load_fn rfl 47 _ rfl w.heap.size 0 256 (w8 tabF) rfl _ HC1.out Try.underlying47 rfl (by kernel_rfl) ?_) | (refine wpList_load_fn rfl 26 _ rfl (w.heap.size + 1) 0 32 (w8 key) rfl _ HC2.out Try.underlying26 rfl (by kernel_rfl) ?_))
  refine (HWH.out _ w0 (HS.out.frm HF0.out (by simp [Nil]))).mono ?_
  rintro e w1 ⟨v, rfl, hn1⟩
  obtain ⟨g, c1, rfl, _, _, _⟩ := hn1.slice8 (by rw [HALL.out]; omega)
  have hn2 := hn1
  rw [HALL.out] at hn2
  have HN1 := hid hn2
  clear hn1 hn2
  rw [HALL.out]
  go_wp2_with fail
  refine (HCT.out g c1 w1 HN1.out.own).mono ?_
  rintro e w2 ⟨v, rfl, ht2⟩
  have HT2 := hid (ht2.lower (HF0.out.trans HN1.out.frm (fun _ _ h => h)))
  clear ht2
  go_wp2_with fail
  go_ret2
  exact ⟨_, rfl, HT2.out⟩
set_option maxHeartbeats 1000000 in
set_option maxRecDepth 100000 in
theorem rPack_long (k : Int) (l : List (BitVec 8)) (sv : Value) (key : Nat → BitVec 8) (w : World) (hs : Seg w sv (l.map W8)) (hlen : 1000 < l.length) (hl2 : l.length ≤ 4611686018427387904) :
    Calls Try.prog 20 #[.agg (rowOf 256 (w8 tabF)), .int .i64 k, sv, .agg (rowOf 32 (w8 key))] w fun e w' => e = .returned (.tuple #[.slice none 0 0, .int .i64 3]) ∧ Frm Nil w w' := by
  obtain ⟨ao, cp, rfl⟩ := hs.open8
  clear hs
  go_enter Try.func20, Try.ntmps20
  have HF0 := hid (((Frm.refl Nil w).alloc (.cells (rowOf 256 (w8 tabF)) 47)).alloc (.cells (rowOf 32 (w8 key)) 26))
  go_wp2_with (go_at_call 36; refine (rClass_out l.length _ (by omega)).mono ?_; rintro e w' ⟨rfl, rfl⟩)
  go_ret2
  exact ⟨rfl, HF0.out⟩
set_option maxHeartbeats 1000000 in
set_option maxRecDepth 100000 in
theorem rPack_odd (k : Int) (l : List (BitVec 8)) (sv : Value) (key : Nat → BitVec 8) (w : World) (hs : Seg w sv (l.map W8)) (hlen : l.length ≤ 1000) (hk : ¬ (1 ≤ k ∧ k ≤ 255)) :
    Calls Try.prog 20 #[.agg (rowOf 256 (w8 tabF)), .int .i64 k, sv, .agg (rowOf 32 (w8 key))] w fun e w' => e = .returned (.tuple #[.slice none 0 0, .int .i64 14]) ∧ Frm Nil w w' := by
  obtain ⟨ao, cp, rfl⟩ := hs.open8
  clear hs
  generalize hcl : classN l.length = c
  have HK := hid (show ¬ (IsCls (c : Int) ∧ 1 ≤ k ∧ k ≤ 255) from fun h => hk h.2)
  have HCL := hid hcl
  clear hk hcl
  go_enter Try.func20, Try.ntmps20
  have HF0 := hid (((Frm.refl Nil w).alloc (.cells (rowOf 256 (w8 tabF)) 47)).alloc (.cells (rowOf 32 (w8 key)) 26))
  go_wp2_with (first | (go_at_call 36; refine (rClass_in l.length c _ hlen HCL.out).mono ?_; rintro e w' ⟨rfl, rfl⟩) | (go_at_call 25; refine (refSize_out c k _ HK.out).mono ?_; rintro e w' ⟨rfl, rfl⟩))
  go_ret2
  exact ⟨rfl, HF0.out⟩
end Go.Proofs.Ytljddimmhjiehaa
