/- A region that draws its order: reads, and calls that may make memory, walked once in the order of the text; then operations each of which waits for all that stand before it. -/
import Derived.StillTail
import Derived.Lib.QuietBelow
import Derived.BigQuiet
import Derived.Test.YtljddimmhjiehaaKit
namespace Go.Proofs.Ytljddimmhjiehaa
open Go.RowKit

section
variable {P : Program} {ops : Array Oper} {md : Region.Mode} {C : World → Prop}
/-- Whatever comes up, as long as something of the first n operations is left: it is one of these, and it yields in the class; then L. -/
def headQ (P : Program) (md : Region.Mode) (ops : Array Oper) (C : World → Prop) (n : Nat) (L : Array Bool → Act → Prop) : Nat → Array Bool → Act → Prop
  | 0, seen, a => L seen a
  | f + 1, seen, a => Region.ready md ops seen ≠ [] ∧ ∀ i ∈ Region.ready md ops seen, i < n ∧ qOp P ops C i (headQ P md ops C n L f (seen.setIfInBounds i true)) a

/-- Each of the operations from e to n is waited for by a later one up to n. -/
def sinkE (md : Region.Mode) (ops : Array Oper) (e n : Nat) : Bool :=
  (List.range n).all fun i => decide (i < e) || (List.range (n + 1)).any fun j => decide (i < j) && Region.waitsFor md ops j i
theorem sinkE_at {e n : Nat} (h : sinkE md ops e n = true) (i : Nat) (he : e ≤ i) (hi : i < n) : ∃ j oj, i < j ∧ j ≤ n ∧ ops[j]? = some oj ∧ ∃ x ∈ oj.after, Region.binds md x = true ∧ x.on = i := by
  have h1 := List.all_eq_true.1 h i (List.mem_range.2 hi)
  rw [Bool.or_eq_true] at h1
  rcases h1 with h1 | h1
  · simp at h1; omega
  · obtain ⟨j, hj, hj2⟩ := List.any_eq_true.1 h1
    simp only [Bool.and_eq_true, decide_eq_true_eq] at hj2
    obtain ⟨oj, hoj, hx⟩ := Region.waitsFor_spec hj2.2
    exact ⟨j, oj, hj2.1, by have := List.mem_range.1 hj; omega, hoj, hx⟩
theorem late_waits {e n : Nat} {seen : Array Bool} (hs : sinkE md ops e n = true) (hc : Region.chainB md ops n = true) (inv : HeadInv md ops n seen) :
    ∀ (d i : Nat), n - i ≤ d → e ≤ i → i < n → seen.getD i true = false → ∀ t, n ≤ t → t ∉ Region.ready md ops seen := by
  intro d
  induction d with
  | zero => intro i hd _ hi; omega
  | succ d ih =>
    intro i hd he hi hun t ht hr
    obtain ⟨_, ot, hot, hall⟩ := mem_ready.1 hr
    have htlt : t < ops.size := (Array.getElem?_eq_some_iff.1 hot).1
    rcases Nat.lt_or_ge n t with hlt | hge
    · have h1 := List.all_eq_true.1 hc t (List.mem_range.2 htlt)
      rw [Bool.or_eq_true] at h1
      rcases h1 with h1 | h1
      · simp at h1; omega
      · obtain ⟨o', ho', x, hx, hb, hon⟩ := Region.waitsFor_spec h1
        rw [hot] at ho'
        obtain rfl := Option.some.inj ho'
        have h2 := hall x hx hb
        rw [hon, getD_both (inv.tail (t - 1) (by omega) (by omega))] at h2
        cases h2
    · obtain rfl : t = n := by omega
      obtain ⟨j, oj, hij, hjt, hoj, x, hx, hb, hon⟩ := sinkE_at hs i he hi
      rcases Nat.lt_or_ge j t with hj | hj
      · cases hl : seen.getD j false with
        | true =>
          have h2 := inv.closed j oj hoj hl x hx hb
          rw [hon, getD_both hun] at h2
          cases h2
        | false => exact ih j (by omega) (by omega) hj (getD_in (by rw [inv.size]; omega) hl) t ht hr
      · obtain rfl : j = t := by omega
        rw [hot] at hoj
        obtain rfl := Option.some.inj hoj
        have h2 := hall x hx hb
        rw [hon, getD_both hun] at h2
        cases h2

theorem headQ_sound {n g : Nat} {L : Array Bool → Act → Prop} {Q : Exit → Act → World → Prop} (hL : ∀ seen a w, C w → L seen a → wpAny P md ops Q g seen a w) (f : Nat) :
    ∀ (seen : Array Bool) (a : Act) (w : World), C w → headQ P md ops C n L f seen a → wpAny P md ops Q (f + g) seen a w := by
  induction f with
  | zero => intro seen a w hw h; rw [Nat.zero_add]; exact hL seen a w hw h
  | succ f ih =>
    intro seen a w hw h
    rw [Nat.add_right_comm]
    exact ⟨fun h0 => (h.1 h0).elim, fun i hi => wpOp_of_qOp hw (fun a' w' hw' h' => ih _ a' w' hw' h') (h.2 i hi).2⟩

theorem headQ_first {e n i : Nat} {oi : Oper} {v : Value} {L : Array Bool → Act → Prop} (hi : ops[i]? = some oi) (hsel : ∀ (j : Nat) (o : Oper) cs b, ops[j]? = some o → o.op ≠ .select cs b)
    (hs : sinkE md ops e n = true) (hc : Region.chainB md ops n = true) (hei : e ≤ i) (hin : i < n)
    (hdone : ∀ seen a, L seen a → ∀ j ∈ Region.ready md ops seen, n ≤ j) (f : Nat) :
    ∀ (seen : Array Bool) (a : Act), HeadInv md ops n seen →
      (∀ j oj, ops[j]? = some oj → j ≠ i → seen.getD j true = false → (∀ e ∈ oj.after, Region.binds md e = true → e.on ≠ i) → oi.apart ops oj = true) →
      i ∈ Region.ready md ops seen → YieldsIn P ops C oi v a →
      headQ P md ops C n L f (seen.setIfInBounds i true) (a.put oi.dst v) → headQ P md ops C n L (f + 1) seen a := by
  have low : ∀ (seen : Array Bool), HeadInv md ops n seen → i ∈ Region.ready md ops seen → ∀ j ∈ Region.ready md ops seen, j < n := fun seen inv hr j hj =>
    Nat.lt_of_not_le fun h => late_waits hs hc inv _ i (Nat.le_refl _) hei hin (mem_ready.1 hr).1 j h hj
  induction f with
  | zero =>
    intro seen a inv _ hr hy H
    refine ⟨List.ne_nil_of_mem hr, fun j hj => ⟨low seen inv hr j hj, ?_⟩⟩
    by_cases q : j = i
    · rw [q]; exact hy.qOp hi H
    · have h1 := hdone _ _ H j (ready_mono hj q)
      have h2 := low seen inv hr j hj
      omega
  | succ f ih =>
    intro seen a inv hfree hr hy H
    refine ⟨List.ne_nil_of_mem hr, fun j hj => ⟨low seen inv hr j hj, ?_⟩⟩
    by_cases q : j = i
    · rw [q]; exact hy.qOp hi H
    have hrest := (H.2 j (ready_mono hj q)).2
    obtain ⟨hun, oj, hoj, hall⟩ := mem_ready.1 hj
    have hap : oi.apart ops oj = true := hfree j oj hoj q hun fun x hx hb he => by
      have h1 := hall x hx hb
      rw [he, getD_both (mem_ready.1 hr).1] at h1
      cases h1
    refine qOp_mono (fun a' h => ih _ a' (inv.set hj (low seen inv hr j hj)) (fun k ok hk hki hun' hno => ?_) (ready_mono hr (Ne.symm q)) h.1 ?_)
      (qOp_put hoj hap (fun cs b => hsel i oi cs b hi) (fun cs b => hsel j oj cs b hoj) hy hrest)
    · refine hfree k ok hk hki ?_ hno
      by_cases hjk : j = k
      · rw [← hjk]; exact hun
      · rwa [getD_set_ne true hjk] at hun'
    · rw [Array.setIfInBounds_comm _ _ q]
      exact h.2

theorem headQ_lex {e n g : Nat} {K : Act → Prop} (hsel : Region.noSelect ops = true) (hs : sinkE md ops e n = true) (hc : Region.chainB md ops n = true) :
    ∀ (l : List Oper) (k : Nat) (seen : Array Bool) (a : Act), e ≤ k → (∀ j, j < l.length → l[j]? = ops[k + j]?) → k + l.length = n → HeadInv md ops n seen →
    Region.lexHead md ops g l.length k seen = true → wpQuiet P ops C K l a →
    headQ P md ops C n (fun seen' a' => Region.seqB md ops g n seen' = true ∧ K a') l.length seen a := by
  intro l
  induction l with
  | nil =>
    intro k seen a _ _ hk _ hB h
    obtain rfl : k = n := by simpa using hk
    exact ⟨by simpa [Region.lexHead] using hB, h⟩
  | cons o l ih =>
    intro k seen a hek hl hk inv hB h
    have h0 : ops[k]? = some o := by simpa using (hl 0 (by simp)).symm
    have hkn : k < n := by simp only [List.length_cons] at hk; omega
    simp only [List.length_cons, Region.lexHead, Bool.and_eq_true] at hB
    obtain ⟨⟨hr, hf⟩, hB'⟩ := hB
    have hr' : k ∈ Region.ready md ops seen := by simpa using hr
    obtain ⟨v, hy, hK⟩ := yieldsIn_of_qOp h0 (show qOp P ops C k (wpQuiet P ops C K l) a by unfold qOp; rw [h0]; exact h)
    refine headQ_first h0 (Region.noSelect_spec hsel) hs hc hek hkn (fun seen' a' hL => seqB_ready hL.1) l.length seen a inv (Region.free_spec h0 hf) hr' hy ?_
    refine ih (k + 1) _ _ (by omega) (fun j hj => ?_) (by simp only [List.length_cons] at hk; omega) (inv.set hr' hkn) hB' hK
    have := hl (j + 1) (by simp; omega)
    rw [List.getElem?_cons_succ] at this
    rw [this]
    congr 1
    omega

/-- What the walk of a region with a tail asks of the region alone: the first e operations are behind it. -/
def lexTailE (ops : Array Oper) (e n : Nat) (seen : Array Bool) : Bool :=
  Region.noSelect ops && (decide (n < ops.size) && (decide (e ≤ n) && (sinkE .any ops e n && (Region.chainB .any ops n && Region.lexHead .any ops (ops.size - n) (n - e) e seen))))
/-- The first operations up to n yield in the class, walked once; the others follow one by one, in whatever world of the class. -/
theorem wpAny_class_tail {Q : Exit → Act → World → Prop} {a : Act} {w : World} {l : List Oper} (e n : Nat) {seen : Array Bool} (hB : lexTailE l.toArray e n seen = true) (inv : HeadInv .any l.toArray n seen) (hC : C w)
    (h : wpQuiet P l.toArray C (fun a' => ∀ w', C w' → wpList P l.toArray Q (l.drop n) a' w') ((l.drop e).take (n - e)) a) : wpAny P .any l.toArray Q (l.length - e) seen a w := by
  simp only [lexTailE, Bool.and_eq_true, decide_eq_true_eq] at hB
  obtain ⟨hsel, hn, hen, hs, hc, hlex⟩ := hB
  have hlen : n < l.length := by simpa using hn
  have ht : ((l.drop e).take (n - e)).length = n - e := by rw [List.length_take, List.length_drop]; omega
  have hd : (l.drop n).length = l.toArray.size - n := by rw [List.length_drop, List.size_toArray]
  have H := headQ_lex (md := .any) (g := l.toArray.size - n) hsel hs hc ((l.drop e).take (n - e)) e _ a (Nat.le_refl _) (fun j hj => by
    rw [ht] at hj
    simp [hj]) (by rw [ht]; omega) inv (by rw [ht]; exact hlex) h
  have q : l.length - e = ((l.drop e).take (n - e)).length + (l.toArray.size - n) := by rw [ht, List.size_toArray]; omega
  have := headQ_sound (Q := Q) (g := l.toArray.size - n) (fun seen a' w' hw' hL => by
    have := wpAny_of_seq (md := .any) (Q' := Q) (l.drop n) n seen a' w' (fun j => by simp [List.getElem?_drop]) (by rw [hd]; exact hL.1) (hL.2 w' hw')
    rwa [hd] at this) _ _ _ _ hC H
  rw [← q] at this
  exact this
theorem headInv_zero (l : List Oper) (n : Nat) : HeadInv md l.toArray n (Array.replicate l.toArray.size false) :=
  ⟨by simp, fun j oj _ hl => (by rw [getD_replicate_false] at hl; cases hl), fun t _ h => getD_in (by simpa using h) (getD_replicate_false _ _)⟩
theorem wp_region_class_tail {id : Nat} {Q : Exit → Act → World → Prop} {a : Act} {w : World} {l : List Oper} (n : Nat) (hm : P.follows .mixedOrders = true) (hB : lexTailE l.toArray 0 n (Array.replicate l.toArray.size false) = true) (hC : C w.drew)
    (h : wpQuiet P l.toArray C (fun a' => ∀ w', C w' → wpList P l.toArray Q (l.drop n) a' w') (l.take n) a) : (Code.region id l.toArray true).wp P Q a w :=
  wp_region_any hm (wpAny_class_tail 0 n hB (headInv_zero l n) hC h)
/-- The same where the first operation moves a slot that only the tail looks at. -/
theorem wp_region_class_mtail {id : Nat} {Q : Exit → Act → World → Prop} {a : Act} {w : World} {o : Oper} {l : List Oper} {x : Operand} (n : Nat) (hm : P.follows .mixedOrders = true) (ho : o.op = .move x) (hg : o.guard = none)
    (hr : (Region.ready .any (o :: l).toArray (Array.replicate (o :: l).toArray.size false)).contains 0 = true) (hf : Region.free .any (o :: l).toArray (Array.replicate (o :: l).toArray.size false) 0 = true)
    (hB : lexTailE (o :: l).toArray 1 (n + 1) ((Array.replicate (o :: l).toArray.size false).setIfInBounds 0 true) = true) (hQ : ∀ c a w v, Q (.panic c) (Act.put a o.dst v) w → Q (.panic c) a w) (hC : C w.drew)
    (h : wpQuiet P (o :: l).toArray C (fun a' => ∀ w', C w' → wpList P (o :: l).toArray Q (l.drop n) a' w') (l.take n) (a.put o.dst (a.eval x))) : (Code.region id (o :: l).toArray true).wp P Q a w := by
  have hsel : Region.noSelect (o :: l).toArray = true := by
    simp only [lexTailE, Bool.and_eq_true] at hB; exact hB.1
  have h0 : (o :: l).toArray[0]? = some o := by simp
  refine wp_region_any hm ?_
  refine wpAny_take (fuel := (o :: l).length - 1) (v := a.eval x) h0 hsel hf hr (fun c a w h => hQ c a w _ h) (.inl ⟨by simp [Region.wanted, hg], fun w => by rw [BigFrame.run_move x ho]⟩) ?_
  exact wpAny_class_tail 1 (n + 1) hB ((headInv_zero (o :: l) (n + 1)).set (by simpa using hr) (by omega)) hC h
end

/-- The class: some draws, some new blocks. -/
def Later (w : World) : World → Prop := fun w' => ∃ p : Regrown, w' = Sort.grow (redrawn w p.d) p.os
theorem Later.frm {w w' : World} (h : Later w w') : Frm Nil w w' := by
  obtain ⟨p, rfl⟩ := h
  have hb := below_regrown w p.d p.os
  exact ⟨hb.os, hb.tape, hb.output, hb.size, fun k hk _ => hb.block k hk⟩
theorem frm_later (w : World) (d : Nat) (os : Array Obj) : Frm Nil w (Sort.grow (redrawn w d) os) := Later.frm ⟨⟨d, os⟩, rfl⟩
theorem Frm.later {w w' : World} (h : Frm Nil w w') : ∃ p : Regrown, w' = Sort.grow (redrawn w p.d) p.os :=
  regrown_of_below ⟨h.os, h.tape, h.output, h.size, fun k hk => h.block k hk (by simp [Nil])⟩
/-- A callee's contract, met in a world of the class. -/
theorem later_of {P : Program} {f : FuncId} {args : Array Value} {w : World} {d : Nat} {os : Array Obj} {v : Value}
    (h : Calls P f args (Sort.grow (redrawn w d) os) fun e w' => e = .returned v ∧ Frm Nil (Sort.grow (redrawn w d) os) w') : Calls P f args (Sort.grow (redrawn w d) os) fun e w'' => e = .returned v ∧ ∃ p : Regrown, w'' = Sort.grow (redrawn w p.d) p.os :=
  h.mono fun _ _ ⟨he, hb⟩ => ⟨he, ((frm_later w d os).trans hb (fun _ _ h => h)).later⟩
theorem later_of_same {P : Program} {f : FuncId} {args : Array Value} {w : World} {d : Nat} {os : Array Obj} {v : Value}
    (h : Calls P f args (Sort.grow (redrawn w d) os) fun e w' => e = .returned v ∧ Sort.grow (redrawn w d) os = w') : Calls P f args (Sort.grow (redrawn w d) os) fun e w'' => e = .returned v ∧ ∃ p : Regrown, w'' = Sort.grow (redrawn w p.d) p.os :=
  h.mono fun _ _ ⟨he, hb⟩ => ⟨he, ⟨d, os⟩, hb.symm⟩
theorem wpQuiet_weaken {P : Program} {ops : Array Oper} {C : World → Prop} {K K' : Act → Prop} (hk : ∀ a, K a → K' a) {l : List Oper} {a : Act} (h : wpQuiet P ops C K l a) : wpQuiet P ops C K' l a := by
  induction l generalizing a with
  | nil => exact hk _ h
  | cons o l ih =>
    unfold wpQuiet at h ⊢
    split
    · rename_i hw; rw [if_pos hw] at h; exact Oper.quiet_mono (fun _ h => ih h) h
    · rename_i hw; rw [if_neg hw] at h; exact ih h
theorem wp_region_later_tail {P : Program} {id : Nat} {Q : Exit → Act → World → Prop} {a : Act} {w : World} {l : List Oper} (n : Nat) (hm : P.follows .mixedOrders = true) (hB : lexTailE l.toArray 0 n (Array.replicate l.toArray.size false) = true)
    (h : wpQuiet P l.toArray (fun w' => ∃ p : Regrown, w' = Sort.grow (redrawn w p.d) p.os) (fun a' => ∀ w', Frm Nil w w' → wpList P l.toArray Q (l.drop n) a' w') (l.take n) a) : (Code.region id l.toArray true).wp P Q a w :=
  wp_region_class_tail (C := fun w' => ∃ p : Regrown, w' = Sort.grow (redrawn w p.d) p.os) n hm hB (Frm.later (Frm.refl Nil w).drew) (wpQuiet_weaken (fun _ h w' hw' => h w' (Later.frm hw')) h)
theorem wp_region_later_mtail {P : Program} {id : Nat} {Q : Exit → Act → World → Prop} {a : Act} {w : World} {o : Oper} {l : List Oper} {x : Operand} (n : Nat) (hm : P.follows .mixedOrders = true) (ho : o.op = .move x) (hg : o.guard = none)
    (hr : (Region.ready .any (o :: l).toArray (Array.replicate (o :: l).toArray.size false)).contains 0 = true) (hf : Region.free .any (o :: l).toArray (Array.replicate (o :: l).toArray.size false) 0 = true)
    (hB : lexTailE (o :: l).toArray 1 (n + 1) ((Array.replicate (o :: l).toArray.size false).setIfInBounds 0 true) = true) (hQ : ∀ c a w v, Q (.panic c) (Act.put a o.dst v) w → Q (.panic c) a w)
    (h : wpQuiet P (o :: l).toArray (fun w' => ∃ p : Regrown, w' = Sort.grow (redrawn w p.d) p.os) (fun a' => ∀ w', Frm Nil w w' → wpList P (o :: l).toArray Q (l.drop n) a' w') (l.take n) (a.put o.dst (a.eval x))) : (Code.region id (o :: l).toArray true).wp P Q a w :=
  wp_region_class_mtail (C := fun w' => ∃ p : Regrown, w' = Sort.grow (redrawn w p.d) p.os) n hm ho hg hr hf hB hQ (Frm.later (Frm.refl Nil w).drew) (wpQuiet_weaken (fun _ h w' hw' => h w' (Later.frm hw')) h)
/-- All operations of the region yield in the class. -/
theorem wp_region_later {P : Program} {id : Nat} {Q : Exit → Act → World → Prop} {a : Act} {w : World} {l : List Oper} (hm : P.follows .mixedOrders = true) (hB : Region.lexB .any l.toArray = true)
    (h : wpQuiet P l.toArray (fun w' => ∃ p : Regrown, w' = Sort.grow (redrawn w p.d) p.os) (fun a' => ∀ w', Frm Nil w w' → Q .normal a' w') l a) : (Code.region id l.toArray true).wp P Q a w :=
  wp_region_quiet (C := fun w' => ∃ p : Regrown, w' = Sort.grow (redrawn w p.d) p.os) hm hB (Frm.later (Frm.refl Nil w).drew) (wpQuiet_weaken (fun _ h w' hw' => h w' (Later.frm hw')) h)
end Go.Proofs.Ytljddimmhjiehaa
