/- sha: the digest of texts, one behind the other. -/
import Derived.Test.YtljddimmhjiehaaEnd
namespace Go.Proofs.Ytljddimmhjiehaa
open Go.RowKit

def shaOf (l : List (BitVec 8)) : Nat → BitVec 8 := outB (endSt K0 (takeL K0 (F0, []) l) (BitVec.ofNat 64 l.length)).1
theorem dig_lit (S : Nat) (F K : Nat → BitVec 32) : #[Value.pointer (some ⟨S, 0, none⟩), sumsV F K 0, sumsV F K 1, sumsV F K 2, sumsV F K 3, sumsV F K 4, sumsV F K 5, sumsV F K 6, sumsV F K 7, .slice none 0 0, .int .u64 0] =
    rowOf 11 (digV S F (.slice none 0 0) 0#64) := by rfl

/-- The slice value sv reads slices that read the texts bs. -/
def Segs (w : World) (sv : Value) (bs : List (List (BitVec 8))) : Prop :=
  ∃ ss : List Value, Seg w sv ss ∧ ss.length = bs.length ∧ ∀ j, j < bs.length → Seg w (ss.getD j undef) ((bs.getD j []).map W8)
theorem Seg.lt {w : World} {sv : Value} {ys : List Value} (h : Seg w sv ys) {a : Addr} {n c : Nat} (e : sv = .slice (some a) n c) (h0 : 0 < n) : a.block < w.heap.size := by
  obtain ⟨ao, c', rfl, _, hc⟩ := h
  simp only [Value.slice.injEq] at e
  obtain ⟨rfl, rfl, rfl⟩ := e
  have := World.block_lt_of_cell? w _ (hc a rfl 0 _ (List.getElem?_eq_getElem h0))
  rw [add_block] at this; exact this

set_option maxHeartbeats 1000000 in
set_option maxRecDepth 100000 in
theorem of_core (bs : List (List (BitVec 8))) (sh : Nat → BitVec 8) (sv : Value) (w : World) (hs : Segs w sv bs) (hb : bs.length ≤ 4611686018427387904) (hl : ∀ j, j < bs.length → (bs.getD j []).length ≤ 4611686018427387904) (he : shaOf bs.flatten = sh) :
    Calls Try.prog 60 #[sv] w fun e w' => e = .returned (.agg (rowOf 32 (w8 sh))) ∧ Frm Nil w w' := by
  have HE := hid he
  clear he
  obtain ⟨ss, ⟨ao, cp, rfl, h0, hc⟩, hsl, hss⟩ := hs
  rw [hsl]
  have H0 := hid h0
  have HC := hid hc
  have HSL := hid hsl
  have HSS := hid hss
  have HL := hid hl
  clear h0 hc hsl hss hl
  go_enter Try.func60, Try.ntmps60
  go_wp2_with (go_at_call 66; refine (all_any _).mono ?_; rintro e w' ⟨rfl, rfl⟩)
  rw [dig_lit, zero8x32]
  have hd0 : Dig (((w.alloc (.cells (rowOf 32 (w8 fun _ => 0#8)) 26)).alloc (.cells (rowOf 72 (sumsV F0 K0)) 112)).alloc (.cells (rowOf 11 (digV (w.heap.size + 1) F0 (.slice none 0 0) 0#64)) 114))
      (w.heap.size + 2) (w.heap.size + 1) (F0, []) 0#64 (.slice none 0 0) := by
    refine ⟨?_, Own.nil _ _, by simp, by simp [Value.ownBlock], by simp [Value.ownBlock]⟩
    have := Row.new ((w.alloc (.cells (rowOf 32 (w8 fun _ => 0#8)) 26)).alloc (.cells (rowOf 72 (sumsV F0 K0)) 112)) 114 11 (digV (w.heap.size + 1) F0 (.slice none 0 0) 0#64)
    simpa using this
  have hs0 : Row (((w.alloc (.cells (rowOf 32 (w8 fun _ => 0#8)) 26)).alloc (.cells (rowOf 72 (sumsV F0 K0)) 112)).alloc (.cells (rowOf 11 (digV (w.heap.size + 1) F0 (.slice none 0 0) 0#64)) 114))
      (w.heap.size + 1) 112 72 (sumsV F0 K0) := by
    refine Row.alloc ?_ _
    have := Row.new (w.alloc (.cells (rowOf 32 (w8 fun _ => 0#8)) 26)) 112 72 (sumsV F0 K0)
    simpa using this
  have hr0 := ((Row.new w 26 32 (w8 fun _ => 0#8)).alloc (.cells (rowOf 72 (sumsV F0 K0)) 112)).alloc (.cells (rowOf 11 (digV (w.heap.size + 1) F0 (.slice none 0 0) 0#64)) 114)
  have hf0 := (((Frm.refl Nil w).alloc (.cells (rowOf 32 (w8 fun _ => 0#8)) 26)).alloc (.cells (rowOf 72 (sumsV F0 K0)) 112)).alloc (.cells (rowOf 11 (digV (w.heap.size + 1) F0 (.slice none 0 0) 0#64)) 114)
  have hz0 : w.heap.size + 3 ≤ (((w.alloc (.cells (rowOf 32 (w8 fun _ => 0#8)) 26)).alloc (.cells (rowOf 72 (sumsV F0 K0)) 112)).alloc (.cells (rowOf 11 (digV (w.heap.size + 1) F0 (.slice none 0 0) 0#64)) 114)).heap.size := by simp
  generalize ((w.alloc (.cells (rowOf 32 (w8 fun _ => 0#8)) 26)).alloc (.cells (rowOf 72 (sumsV F0 K0)) 112)).alloc (.cells (rowOf 11 (digV (w.heap.size + 1) F0 (.slice none 0 0) 0#64)) 114) = w0 at hd0 hs0 hr0 hf0 hz0 ⊢
  go_loopw [17] (fun i wr => ∃ k : Nat, k ≤ bs.length ∧ i = .int .i64 k ∧ ∃ v', Dig wr (w.heap.size + 2) (w.heap.size + 1) (takeL K0 (F0, []) (bs.take k).flatten) (BitVec.ofNat 64 (bs.take k).flatten.length) v' ∧
      Row wr (w.heap.size + 1) 112 72 (sumsV F0 K0) ∧ Row wr w.heap.size 26 32 (w8 fun _ => 0#8) ∧ Frm Nil w wr ∧ w.heap.size + 3 ≤ wr.heap.size ∧
      (∀ g, v'.ownBlock = some g → w.heap.size + 3 ≤ g)) (fun i _ => bs.length - (intOf i).toNat)
  case atStart => exact ⟨0, by omega, rfl, .slice none 0 0, hd0, hs0, hr0, hf0, hz0, by simp [Value.ownBlock]⟩
  case round =>
    clear hd0 hs0 hr0 hf0 hz0
    obtain ⟨k, hk, rfl, v1, hd1, hs1, hr1, hf1, hz1, hv1⟩ := hrel
    by_cases hlt : k < bs.length
    · obtain ⟨a, rfl⟩ : ∃ a, ao = some a := by
        cases ao with
        | none => have := HSL.out; rw [(H0.out rfl).1] at this; simp at this; omega
        | some a => exact ⟨a, rfl⟩
      have hkl : k < ss.length := by have := HSL.out; omega
      have hc1 : w.cell? (a.add k) = some (ss.getD k undef) := HC.out a rfl k _ (by rw [List.getD_eq_getElem?_getD, List.getElem?_eq_getElem hkl]; rfl)
      have hc2 := hf1.cell hc1 (by simp [Nil])
      have hsk := HSS.out k hlt
      have hsk1 : Seg wr (ss.getD k undef) ((bs.getD k []).map W8) := by
        obtain ⟨ao', c', e, h0', hc'⟩ := hsk
        exact ⟨ao', c', e, h0', fun a' ha' j u hu => hf1.cell (hc' a' ha' j u hu) (by simp [Nil])⟩
      have hab : ∀ a n c, ss.getD k undef = .slice (some a) n c → 0 < (bs.getD k []).length → a.block < w.heap.size := by
        intro a' n c e hp
        exact hsk.lt e (by
          obtain ⟨ao', c', e', _⟩ := hsk
          rw [e'] at e; simp only [Value.slice.injEq] at e; rw [← e.2.1, List.length_map]; exact hp)
      generalize ss.getD k undef = s at *
      generalize hbk : bs.getD k [] = bk at *
      have HBK := hid hbk
      have HD1 := hid hd1
      have HS1 := hid hs1
      have HR1 := hid hr1
      have HF1 := hid hf1
      have HV1 := hid hv1
      have HSK := hid hsk1
      have HAB := hid hab
      clear hbk hd1 hs1 hr1 hf1 hv1 hsk1 hab hsk hc1
      go_wp2_with fail
      refine (take_any (w.heap.size + 2) (w.heap.size + 1) F0 K0 _ _ v1 s bk wr HD1.out HS1.out (by omega) HSK.out (fun a' n c e hp => ⟨?_, fun h => ?_⟩) ?_).mono ?_
      · have := HAB.out a' n c e hp; omega
      · have := HAB.out a' n c e hp; have := HV1.out _ h; omega
      · rw [← HBK.out]; exact HL.out k hlt
      rintro e w2 ⟨rfl, v2, hd2, hf2, hv2⟩
      have HD2 := hid hd2
      have HF2 := hid hf2
      have HV2 := hid hv2
      clear hd2 hf2 hv2
      go_wp2_with fail
      go_roundw
      case rel =>
        have e1 : (bs.take (k + 1)).flatten = (bs.take k).flatten ++ bk := by
          rw [List.take_succ_eq_append_getElem hlt, List.flatten_append]
          have : bs[k] = bk := by rw [← HBK.out, List.getD_eq_getElem?_getD, List.getElem?_eq_getElem hlt]; rfl
          rw [this]; simp
        refine ⟨k + 1, by omega, by go_num, v2, ?_, ?_, ?_, ?_, ?_, ?_⟩
        · rw [e1, takeL_append, List.length_append, BitVec.ofNat_add]; exact HD2.out
        · exact HF2.out.row HS1.out (by intro h; rcases h with h | h; omega; exact HD1.out.2.2.2.2 h)
        · refine HF2.out.row HR1.out (by intro h; rcases h with h | h; omega; have := HV1.out _ h; omega)
        · exact HF1.out.trans HF2.out (fun i hi h => by rcases h with h | h; omega; have := HV1.out _ h; omega)
        · have := HF2.out.size; omega
        · intro g hg
          rcases HV2.out with h | ⟨g', h, hg'⟩
          · rw [h] at hg; exact HV1.out g hg
          · rw [h] at hg; cases hg; omega
      case measure => simp [intOf]; omega
    · obtain rfl : k = bs.length := by omega
      rw [List.take_length] at hd1
      have HD1 := hid hd1
      have HS1 := hid hs1
      have HR1 := hid hr1
      have HF1 := hid hf1
      have HV1 := hid hv1
      clear hd1 hs1 hr1 hf1 hv1
      go_wp2_with fail
      refine (end_any (w.heap.size + 2) (w.heap.size + 1) F0 K0 _ _ v1 wr HD1.out HS1.out (by omega)).mono ?_
      rintro e w2 ⟨rfl, hf2⟩
      have hR2 := hf2.row HR1.out (by intro h; rcases h with h | h; omega; have := HV1.out _ h; omega)
      have hF2 : Frm Nil w w2 := HF1.out.trans hf2 (fun i hi h => by rcases h with h | h; omega; have := HV1.out _ h; omega)
      have HR2 := hid hR2
      have HF2 := hid hF2
      clear hf2 hR2 hF2
      have eo : outB (endSt K0 (takeL K0 (F0, []) bs.flatten) (BitVec.ofNat 64 bs.flatten.length)).1 = shaOf bs.flatten := rfl
      rw [eo, HE.out]
      clear eo
      go_wp2_with (refine wpList_store_fn rfl 26 _ _ rfl rfl w.heap.size 0 32 32 _ _ (w8 sh) rfl rfl HR2.out (by kernel_rfl) (by omega) (fun _ _ => rfl) ?_)
      have hR3 := HR2.out.setRow (splice (w8 fun _ => 0#8) 0 32 (w8 sh))
      have hF3 := HF2.out.setRow w.heap.size (rowOf 32 (splice (w8 fun _ => 0#8) 0 32 (w8 sh))) (fun h => by omega)
      refine bodyPost_ret (v := .agg (rowOf 32 (w8 sh))) (results_cell_fn rfl _ _ w.heap.size 32 (w8 sh) _ rfl ?_ Try.underlying26 rfl (by kernel_rfl)) rfl ⟨rfl, hF3⟩
      intro i hi
      rw [hR3.cell i hi]; simp only [splice]; rw [if_pos (by omega)]; rfl

set_option maxHeartbeats 1000000 in
set_option maxRecDepth 100000 in
theorem sum_core (l : List (BitVec 8)) (sh : Nat → BitVec 8) (sv : Value) (w : World) (hs : Seg w sv (l.map W8)) (hl : l.length ≤ 4611686018427387904) (he : shaOf l = sh) :
    Calls Try.prog 45 #[sv] w fun e w' => e = .returned (.agg (rowOf 32 (w8 sh))) ∧ Frm Nil w w' := by
  have HSV := hid hs
  have HE := hid he
  clear he
  obtain ⟨ao, cp, rfl, _, _⟩ := hs
  go_enter Try.func45, Try.ntmps45
  go_wp2_with fail
  rw [zero8x32]
  have hr0 := (Row.new w 26 32 (w8 fun _ => 0#8)).alloc (.cells #[.slice ao (l.map W8).length cp] 22)
  have hf0 := ((Frm.refl Nil w).alloc (.cells (rowOf 32 (w8 fun _ => 0#8)) 26)).alloc (.cells #[.slice ao (l.map W8).length cp] 22)
  have hg0 : Segs ((w.alloc (.cells (rowOf 32 (w8 fun _ => 0#8)) 26)).alloc (.cells #[.slice ao (l.map W8).length cp] 22)) (.slice (some ⟨w.heap.size + 1, 0, none⟩) 1 1) [l] := by
    refine ⟨[.slice ao (l.map W8).length cp], ⟨_, _, rfl, (fun h => by cases h), (fun a ha j u hu => ?_)⟩, rfl, fun j hj => ?_⟩
    · cases ha
      cases j with
      | zero =>
        simp at hu; subst hu; rw [Addr.add_zero']
        have := World.cell?_alloc_new (w.alloc (.cells (rowOf 32 (w8 fun _ => 0#8)) 26)) #[.slice ao (l.map W8).length cp] 22 0
        rw [World.size_alloc] at this; rw [this]; simp
      | succ j => simp at hu
    · have : j = 0 := by simpa using hj
      subst this
      obtain ⟨ao', c', e, h0', hc'⟩ := HSV.out
      exact ⟨ao', c', e, h0', fun a' ha' j u hu => hf0.cell (hc' a' ha' j u hu) (by simp [Nil])⟩
  have hz0 : w.heap.size + 2 ≤ ((w.alloc (.cells (rowOf 32 (w8 fun _ => 0#8)) 26)).alloc (.cells #[.slice ao (l.map W8).length cp] 22)).heap.size := by simp
  have el : (l.map W8).length = l.length := List.length_map _
  rw [el] at hr0 hf0 hg0 hz0
  clear el
  generalize (w.alloc (.cells (rowOf 32 (w8 fun _ => 0#8)) 26)).alloc (.cells #[.slice ao l.length cp] 22) = w1 at hr0 hf0 hg0 hz0 ⊢
  refine (of_core [l] sh _ w1 hg0 (by simp) (fun j hj => by have h0 : j = 0 := (by simpa using hj); subst h0; exact hl) (by simpa using HE.out)).mono ?_
  rintro e w2 ⟨rfl, hf2⟩
  have HR2 := hid (hf2.row hr0 (by simp [Nil]))
  have HF2 := hid (hf0.trans hf2 (fun _ _ h => h))
  clear hr0 hf0 hg0 hf2 hz0
  go_wp2_with (refine wpList_store_fn rfl 26 _ _ rfl rfl w.heap.size 0 32 32 _ _ (w8 sh) rfl rfl HR2.out (by kernel_rfl) (by omega) (fun _ _ => rfl) ?_)
  have hR3 := HR2.out.setRow (splice (w8 fun _ => 0#8) 0 32 (w8 sh))
  have hF3 := HF2.out.setRow w.heap.size (rowOf 32 (splice (w8 fun _ => 0#8) 0 32 (w8 sh))) (fun h => by omega)
  refine bodyPost_ret (v := .agg (rowOf 32 (w8 sh))) (results_cell_fn rfl _ _ w.heap.size 32 (w8 sh) _ rfl ?_ Try.underlying26 rfl (by kernel_rfl)) rfl ⟨rfl, hF3⟩
  intro i hi
  rw [hR3.cell i hi]; simp only [splice]; rw [if_pos (by omega)]; rfl
theorem sum_any (l : List (BitVec 8)) (sv : Value) (w : World) (hs : Seg w sv (l.map W8)) (hl : l.length ≤ 4611686018427387904) :
    Calls Try.prog 45 #[sv] w fun e w' => e = .returned (.agg (rowOf 32 (w8 (shaOf l)))) ∧ Frm Nil w w' := sum_core l _ sv w hs hl rfl
end Go.Proofs.Ytljddimmhjiehaa
