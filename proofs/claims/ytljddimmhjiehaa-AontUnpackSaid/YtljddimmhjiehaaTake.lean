/- sha: a digest on its way takes bytes. -/
import Derived.Test.YtljddimmhjiehaaFull
import Derived.Test.YtljddimmhjiehaaOwn
namespace Go.Proofs.Ytljddimmhjiehaa
open Go.RowKit

def pushB (K : Nat → BitVec 32) (st : (Nat → BitVec 32) × List (BitVec 8)) (c : BitVec 8) : (Nat → BitVec 32) × List (BitVec 8) :=
  if st.2.length + 1 = 64 then (fullH K st.1 (fun i => (st.2 ++ [c]).getD i 0#8), []) else (st.1, st.2 ++ [c])
def takeL (K : Nat → BitVec 32) (st : (Nat → BitVec 32) × List (BitVec 8)) (l : List (BitVec 8)) : (Nat → BitVec 32) × List (BitVec 8) := l.foldl (pushB K) st
theorem pushB_lt {K : Nat → BitVec 32} {st : (Nat → BitVec 32) × List (BitVec 8)} {c : BitVec 8} (h : st.2.length < 64) : (pushB K st c).2.length < 64 := by
  unfold pushB; split
  · simp
  · simp; omega
theorem takeL_snoc (K : Nat → BitVec 32) (st : (Nat → BitVec 32) × List (BitVec 8)) (l : List (BitVec 8)) (c : BitVec 8) : takeL K st (l ++ [c]) = pushB K (takeL K st l) c := by
  simp [takeL]
theorem takeL_append (K : Nat → BitVec 32) (st : (Nat → BitVec 32) × List (BitVec 8)) (l m : List (BitVec 8)) : takeL K st (l ++ m) = takeL K (takeL K st l) m := by
  simp [takeL]
theorem add_block (a : Addr) (k : Nat) : (a.add k).block = a.block := by unfold Addr.add; split <;> rfl

/-- A digest on its way, at block D over the words at block S: st: its words, and the bytes that wait; v: their slice. -/
def Dig (w : World) (D S : Nat) (st : (Nat → BitVec 32) × List (BitVec 8)) (long : BitVec 64) (v : Value) : Prop :=
  Row w D 114 11 (digV S st.1 v long) ∧ Own w 5 v (st.2.map W8) ∧ st.2.length < 64 ∧ v.ownBlock ≠ some D ∧ v.ownBlock ≠ some S

theorem upd_wait (S : Nat) (h : Nat → BitVec 32) (v v' : Value) (long : BitVec 64) : upd (digV S h v long) 9 v' = digV S h v' long := by
  funext i
  by_cases e : i = 9
  · subst e; rfl
  · rw [upd_other _ _ _ _ e]; simp only [digV]
    by_cases h0 : i = 0
    · rw [if_pos h0, if_pos h0]
    · rw [if_neg h0, if_neg h0]
      by_cases h8 : i ≤ 8
      · rw [if_pos h8, if_pos h8]
      · rw [if_neg h8, if_neg h8, if_neg e, if_neg e]
theorem upd_long (S : Nat) (h : Nat → BitVec 32) (v : Value) (long l2 : BitVec 64) : upd (digV S h v long) 10 (W64 l2) = digV S h v l2 := by
  funext i
  by_cases e : i = 10
  · subst e; rfl
  · rw [upd_other _ _ _ _ e]; simp only [digV]
    by_cases h0 : i = 0
    · rw [if_pos h0, if_pos h0]
    · rw [if_neg h0, if_neg h0]
      by_cases h8 : i ≤ 8
      · rw [if_pos h8, if_pos h8]
      · rw [if_neg h8, if_neg h8]
        by_cases h9 : i = 9
        · rw [if_pos h9, if_pos h9]
        · rw [if_neg h9, if_neg h9, if_neg e, if_neg e]
theorem info_u8 : (Try.prog.info? 5).map (fun i => (i.zero, i.size, i.bytes)) = some (some (.int .u8 0), 1, 1) := by kernel_rfl
theorem ones_W8 (l : List (BitVec 8)) : ∀ u ∈ l.map W8, u.oneCell' = true := by
  intro u hu
  obtain ⟨_, _, rfl⟩ := List.mem_map.1 hu
  rfl

set_option maxHeartbeats 1000000 in
set_option maxRecDepth 100000 in
theorem take_some (D S : Nat) (F K : Nat → BitVec 32) (st : (Nat → BitVec 32) × List (BitVec 8)) (long : BitVec 64) (v : Value) (l : List (BitVec 8)) (a : Addr) (c : Nat) (w : World)
    (hd : Dig w D S st long v) (hS : Row w S 112 72 (sumsV F K)) (hDS : D ≠ S)
    (hs : ∀ j, j < l.length → w.cell? (a.add j) = some (W8 (l.getD j 0#8)))
    (hn1 : 0 < l.length → a.block ≠ D) (hn2 : 0 < l.length → v.ownBlock ≠ some a.block) (hab : 0 < l.length → a.block < w.heap.size) (hl : l.length ≤ 4611686018427387904) :
    Calls Try.prog 67 #[.pointer (some ⟨D, 0, none⟩), .slice (some a) l.length c] w fun e w' => e = .returned (.tuple #[]) ∧
      ∃ v', Dig w' D S (takeL K st l) (long + BitVec.ofNat 64 l.length) v' ∧ Frm (fun k => k = D ∨ v.ownBlock = some k) w w' ∧
        (v'.ownBlock = v.ownBlock ∨ ∃ g, v'.ownBlock = some g ∧ w.heap.size ≤ g) := by
  have hSlt := hS.lt
  have hDlt := hd.1.lt
  have HD := hid hd
  have HS := hid hS
  have HC := hid hs
  clear hd hS hs
  have HN2 := hid hn2
  clear hn2
  go_enter Try.func67, Try.ntmps67
  go_wp2
  go_loopw [8] (fun i wr => ∃ k : Nat, k ≤ l.length ∧ i = .int .i64 k ∧ Frm (fun k => k = D ∨ v.ownBlock = some k) w wr ∧
      ∃ v', Dig wr D S (takeL K st (l.take k)) long v' ∧ (v'.ownBlock = v.ownBlock ∨ ∃ g, v'.ownBlock = some g ∧ w.heap.size ≤ g)) (fun i _ => l.length - (intOf i).toNat)
  case atStart => exact ⟨0, by omega, rfl, Frm.refl _ _, v, HD.out, .inl rfl⟩
  case round =>
    obtain ⟨k, hk, rfl, hf, v1, hd1, hv1⟩ := hrel
    by_cases hlt : k < l.length
    · have hb := hf.cell (HC.out k hlt) (by rw [add_block]; intro h; rcases h with h | h; exact hn1 (by omega) h; exact HN2.out (by omega) h)
      have hRD := hd1.1
      have c9 : wr.cell? ⟨D, 9, none⟩ = some v1 := hRD.cell 9 (by omega)
      obtain ⟨c8, hc8⟩ : ∃ c8, l.getD k 0#8 = c8 := ⟨_, rfl⟩
      rw [hc8] at hb
      have HC8 := hid hc8
      clear hc8
      have hDr := hRD.lt
      have hDb := hab (by omega)
      have HD1 := hid hd1
      have HF := hid hf
      have HV1 := hid hv1
      clear hd1 hf hv1 hRD
      generalize hst : takeL K st (l.take k) = s1 at *
      have HST := hid hst
      clear hst
      go_wp2_with (at_builtin; refine wpList_append_seg _ rfl _ _ 22 rfl 5 (.int .u8 0) 1 Try.underlying22 info_u8 rfl v1 (s1.2.map W8) rfl _ [W8 c8] rfl ?hown ?hseg ?hones ?h63 ?hby ?_)
      case hown => exact HD1.out.2.1.alloc _
      case hseg => exact ⟨_, _, rfl, (fun h => by cases h), (fun a ha j u hu => by
        cases ha
        cases j with
        | zero => simp at hu; subst hu; rw [Addr.add_zero']; simp
        | succ j => simp at hu)⟩
      case hones => exact ones_W8 [c8]
      case h63 => have := HD1.out.2.2.1; rw [List.length_map]; unfold maxLen; simp only [List.length_cons, List.length_nil]; omega
      case hby => have := HD1.out.2.2.1; rw [List.length_map]; simp only [List.length_cons, List.length_nil]; omega
      intro v2 w2 ho2 hf2 hv2 _
      have hR2 := hf2.row (HD1.out.1.alloc (.cells #[W8 c8] 5)) (by exact HD1.out.2.2.2.1)
      have hS2 := hf2.row ((HF.out.row HS.out (by intro h; rcases h with h | h; exact hDS h.symm; exact HD.out.2.2.2.2 h)).alloc (.cells #[W8 c8] 5)) (by exact HD1.out.2.2.2.2)
      have hF2 : Frm (fun k => k = D ∨ v.ownBlock = some k) w w2 := (HF.out.alloc (.cells #[W8 c8] 5)).trans hf2 (fun i hi hb => by
        rcases HV1.out with h | ⟨g, h, hg⟩
        · right; rw [← h]; exact hb
        · rw [h] at hb; cases hb; omega)
      have hz2 : wr.heap.size + 1 ≤ w2.heap.size := by have := hf2.size; simp at this; exact this
      rcases ho2.form with ⟨_, hnil⟩ | ⟨g, cap, hv2e, hcap, hg2, hcells, _⟩
      · simp at hnil
      have hlen : (List.map W8 s1.2 ++ [W8 c8]).length = s1.2.length + 1 := by simp
      rw [hlen] at hv2e hcells hcap
      have HV2 : Hid (g ≠ D ∧ g ≠ S ∧ (v2.ownBlock = v.ownBlock ∨ ∃ g, v2.ownBlock = some g ∧ w.heap.size ≤ g)) := by
        refine ⟨?_, ?_, ?_⟩
        · rintro rfl
          rcases hv2 with h | ⟨g', h, hg'⟩
          · rw [hv2e] at h; exact HD1.out.2.2.2.1 h.symm
          · rw [hv2e] at h; cases h; have hg3 : wr.heap.size + 1 ≤ _ := hg'; simp only at hg3; omega
        · rintro rfl
          rcases hv2 with h | ⟨g', h, hg'⟩
          · rw [hv2e] at h; exact HD1.out.2.2.2.2 h.symm
          · rw [hv2e] at h; cases h; have := HF.out.size; have hg3 : wr.heap.size + 1 ≤ _ := hg'; simp only at hg3; omega
        · rcases hv2 with h | ⟨g', h, hg'⟩
          · rcases HV1.out with h1 | ⟨g1, h1, hg1⟩
            · left; rw [h, h1]
            · right; exact ⟨g1, by rw [h, h1], hg1⟩
          · right; refine ⟨g', h, ?_⟩; have := HF.out.size; omega
      subst hv2e
      clear hf2 hv2 hlen
      have d9 : w2.cell? ⟨D, 9, none⟩ = some v1 := hR2.cell 9 (by omega)
      have d9f := hR2.free 9
      have hD2 := hR2.lt
      have HR2 := hid hR2
      have HS2 := hid hS2
      have HF2 := hid hF2
      have HO2 := hid ho2
      have HCL := hid hcells
      clear hR2 hS2 hF2 ho2 hcells
      by_cases h64 : s1.2.length + 1 = 64
      · have h64b : (((s1.2.length : Int) + 1) == 64) = true := by simp; omega
        have H64 := hid h64
        have hD3 := HR2.out.set 9 (.slice (some ⟨g, 0, none⟩) 64 cap)
        rw [upd_wait] at hD3
        have hS3 := HS2.out.other ⟨D, 9, none⟩ (.slice (some ⟨g, 0, none⟩) 64 cap) (Ne.symm hDS)
        have hO3 := HO2.out.set ⟨D, 9, none⟩ (.slice (some ⟨g, 0, none⟩) 64 cap) (by intro h; cases h; exact HV2.out.1 rfl)
        have hF3 := HF2.out.set ⟨D, 9, none⟩ (.slice (some ⟨g, 0, none⟩) 64 cap) (fun _ => .inl rfl)
        have hB3 : ∀ i, i < 64 → (w2.setCell ⟨D, 9, none⟩ (.slice (some ⟨g, 0, none⟩) 64 cap)).cell? ⟨g, i, none⟩ = some (W8 ((s1.2 ++ [c8]).getD i 0#8)) := by
          intro i hi
          rw [World.cell?_setCell_other _ _ _ _ (by intro h; cases h; exact HV2.out.1 rfl), HCL.out i (by rw [H64.out]; exact hi)]
          rw [show List.map W8 s1.2 ++ [W8 c8] = (s1.2 ++ [c8]).map W8 by simp, List.getElem?_map, List.getD_eq_getElem?_getD, List.getElem?_eq_getElem (by rw [List.length_append]; simp only [List.length_cons, List.length_nil]; have := H64.out; omega)]
          rfl
        have HD3 := hid hD3
        have HS3 := hid hS3
        have HO3 := hid hO3
        have HF3 := hid hF3
        have HB3 := hid hB3
        clear hD3 hS3 hO3 hF3 hB3
        go_wp2_with fail
        refine (full_any D S g cap F K s1.1 (fun i => (s1.2 ++ [c8]).getD i 0#8) (.slice (some ⟨g, 0, none⟩) 64 cap) long _ HD3.out HS3.out HB3.out).mono ?_
        rintro e w4 ⟨rfl, hD4, hF4⟩
        have hcap2 : 64 ≤ cap := by have := H64.out; omega
        have hO4 := hF4.own HO3.out (by intro k hk he; cases hk; exact HV2.out.1 he)
        have hF5 := HF3.out.trans hF4 (fun i hi he => .inl he)
        have d0 : w4.cell? ⟨D, 9, none⟩ = some (.slice (some ⟨g, 0, none⟩) 64 cap) := hD4.cell 9 (by omega)
        have d1 := hD4.free 9
        have HD4 := hid hD4
        have HO4 := hid hO4
        have HF5 := hid hF5
        clear hD4 hF4 hO4 hF5 d9 d9f
        go_wp2_with fail
        go_roundw
        case rel =>
          have hs2 : takeL K st (l.take (k + 1)) = (fullH K s1.1 (fun i => (s1.2 ++ [c8]).getD i 0#8), []) := by
            rw [List.take_succ_eq_append_getElem hlt, takeL_snoc, HST.out]
            have e : l[k] = c8 := by have := HC8.out; rw [List.getD_eq_getElem?_getD, List.getElem?_eq_getElem hlt] at this; exact this
            rw [e, pushB, if_pos H64.out]
          refine ⟨k + 1, by omega, by go_num, ?_, .slice (some ⟨g, 0, none⟩) 0 cap, ?_, HV2.out.2.2⟩
          · exact HF5.out.set _ _ (fun _ => .inl rfl)
          · rw [hs2]
            have h1 := HD4.out.set 9 (.slice (some ⟨g, 0, none⟩) 0 cap)
            rw [upd_wait] at h1
            refine ⟨h1, ?_, by simp, ?_, ?_⟩
            · have h2 := HO4.out.set ⟨D, 9, none⟩ (.slice (some ⟨g, 0, none⟩) 0 cap) (by intro h; cases h; exact HV2.out.1 rfl)
              exact h2.cut 0 (Nat.zero_le _)
            · intro h; cases h; exact HV2.out.1 rfl
            · intro h; cases h; exact HV2.out.2.1 rfl
        case measure => simp [intOf]; omega
      · have h64b : (((s1.2.length : Int) + 1) == 64) = false := by simp; omega
        have H64 := hid h64
        clear h64
        go_wp2_with fail
        go_roundw
        case rel =>
          have hs2 : takeL K st (l.take (k + 1)) = (s1.1, s1.2 ++ [c8]) := by
            rw [List.take_succ_eq_append_getElem hlt, takeL_snoc, HST.out]
            have e : l[k] = c8 := by have := HC8.out; rw [List.getD_eq_getElem?_getD, List.getElem?_eq_getElem hlt] at this; exact this
            rw [e, pushB, if_neg H64.out]
          refine ⟨k + 1, by omega, by go_num, ?_, .slice (some ⟨g, 0, none⟩) (s1.2.length + 1) cap, ?_, HV2.out.2.2⟩
          · exact HF2.out.set _ _ (fun _ => .inl rfl)
          · rw [hs2]
            have h1 := HR2.out.set 9 (.slice (some ⟨g, 0, none⟩) (s1.2.length + 1) cap)
            rw [upd_wait] at h1
            refine ⟨h1, ?_, ?_, ?_, ?_⟩
            · have := HO2.out.set ⟨D, 9, none⟩ (.slice (some ⟨g, 0, none⟩) (s1.2.length + 1) cap) (by intro h; cases h; exact HV2.out.1 rfl)
              simpa using this
            · have := HD1.out.2.2.1; have := H64.out; simp; omega
            · intro h; cases h; exact HV2.out.1 rfl
            · intro h; cases h; exact HV2.out.2.1 rfl
        case measure => simp [intOf]; omega
    · obtain rfl : k = l.length := by omega
      have hRD := hd1.1
      have c9 : wr.cell? ⟨D, 10, none⟩ = some (W64 long) := hRD.cell 10 (by omega)
      have c9f := hRD.free 10
      have HD1 := hid hd1
      have HF := hid hf
      have HV1 := hid hv1
      clear hd1 hf hv1 hRD
      go_wp2_with fail
      go_end0
      refine ⟨rfl, v1, ?_, HF.out.set _ _ (fun _ => .inl rfl), HV1.out⟩
      have h1 := HD1.out.1.set 10 (W64 (long + BitVec.ofNat 64 l.length))
      rw [upd_long] at h1
      obtain ⟨_, h2, h3, h4, h5⟩ := HD1.out
      rw [List.take_length] at h1 h2 h3
      exact ⟨h1, h2.set _ _ (by intro h; exact h4 h), h3, h4, h5⟩

set_option maxHeartbeats 400000 in
theorem take_none (D S : Nat) (K : Nat → BitVec 32) (st : (Nat → BitVec 32) × List (BitVec 8)) (long : BitVec 64) (v : Value) (w : World) (hd : Dig w D S st long v) :
    Calls Try.prog 67 #[.pointer (some ⟨D, 0, none⟩), .slice none 0 0] w fun e w' => e = .returned (.tuple #[]) ∧
      ∃ v', Dig w' D S (takeL K st []) (long + BitVec.ofNat 64 0) v' ∧ Frm (fun k => k = D ∨ v.ownBlock = some k) w w' ∧
        (v'.ownBlock = v.ownBlock ∨ ∃ g, v'.ownBlock = some g ∧ w.heap.size ≤ g) := by
  have hRD := hd.1
  have c9 : w.cell? ⟨D, 10, none⟩ = some (W64 long) := hRD.cell 10 (by omega)
  have c9f := hRD.free 10
  have HD := hid hd
  clear hd hRD
  go_enter Try.func67, Try.ntmps67
  go_wp2
  refine wp_loop_rounds 1 ?_
  rw [rounds_succ]
  go_wp2
  go_end0
  refine ⟨rfl, v, ?_, (Frm.refl _ _).set _ _ (fun _ => .inl rfl), .inl rfl⟩
  have e : long + BitVec.ofNat 64 0 = long := by simp
  rw [e]
  have h1 := HD.out.1.set 10 (W64 long)
  rw [upd_long] at h1
  obtain ⟨_, h2, h3, h4, h5⟩ := HD.out
  exact ⟨h1, h2.set _ _ (by intro h; exact h4 h), h3, h4, h5⟩

theorem take_any (D S : Nat) (F K : Nat → BitVec 32) (st : (Nat → BitVec 32) × List (BitVec 8)) (long : BitVec 64) (v sv : Value) (l : List (BitVec 8)) (w : World)
    (hd : Dig w D S st long v) (hS : Row w S 112 72 (sumsV F K)) (hDS : D ≠ S) (hs : Seg w sv (l.map W8))
    (hne : ∀ a n c, sv = .slice (some a) n c → 0 < l.length → a.block ≠ D ∧ v.ownBlock ≠ some a.block) (hl : l.length ≤ 4611686018427387904) :
    Calls Try.prog 67 #[.pointer (some ⟨D, 0, none⟩), sv] w fun e w' => e = .returned (.tuple #[]) ∧
      ∃ v', Dig w' D S (takeL K st l) (long + BitVec.ofNat 64 l.length) v' ∧ Frm (fun k => k = D ∨ v.ownBlock = some k) w w' ∧
        (v'.ownBlock = v.ownBlock ∨ ∃ g, v'.ownBlock = some g ∧ w.heap.size ≤ g) := by
  obtain ⟨ao, c, rfl, h0, hc⟩ := hs
  cases ao with
  | none =>
    obtain ⟨h1, rfl⟩ := h0 rfl
    have : l = [] := by simpa using h1
    subst this
    exact take_none D S K st long v w hd
  | some a =>
    rw [List.length_map]
    have hcell : ∀ j, j < l.length → w.cell? (a.add j) = some (W8 (l.getD j 0#8)) := fun j hj => by
      refine hc a rfl j _ ?_
      rw [List.getElem?_map, List.getD_eq_getElem?_getD, List.getElem?_eq_getElem hj]; rfl
    refine take_some D S F K st long v l a c w hd hS hDS hcell (fun h => (hne a _ _ rfl h).1) (fun h => (hne a _ _ rfl h).2) (fun h => ?_) hl
    have := World.block_lt_of_cell? w _ (hcell 0 h)
    rw [add_block] at this; exact this

theorem takeL_len (K : Nat → BitVec 32) (st : (Nat → BitVec 32) × List (BitVec 8)) (l : List (BitVec 8)) (h : st.2.length < 64) :
    (takeL K st l).2.length = (st.2.length + l.length) % 64 := by
  induction l generalizing st with
  | nil => simp [takeL]; omega
  | cons c l ih =>
    have h1 := pushB_lt (K := K) (c := c) h
    have e : takeL K st (c :: l) = takeL K (pushB K st c) l := rfl
    rw [e, ih _ h1]
    by_cases h2 : st.2.length + 1 = 64
    · simp [pushB, h2]; omega
    · simp [pushB, h2]; omega
end Go.Proofs.Ytljddimmhjiehaa
