/- sha: a digest's end. -/
import Derived.Test.YtljddimmhjiehaaTake
import Derived.Test.YtljddimmhjiehaaAll
import Derived.Deep.LoopGhost
namespace Go.Proofs.Ytljddimmhjiehaa
open Go.RowKit

/-- How many zeros stand behind the one bit. -/
def zerosOf (n : Nat) : Nat := (120 - (n + 1) % 64) % 64
def tailB (n : BitVec 64) (i : Nat) : BitVec 8 := (n.rotateLeft (8 * (i + 1))).setWidth 8
def tailL (n : BitVec 64) : List (BitVec 8) := (List.range 8).map (tailB n)
def outB (h : Nat → BitVec 32) (i : Nat) : BitVec 8 := ((h (i / 4)).rotateLeft (8 * (i % 4 + 1))).setWidth 8
def endSt (K : Nat → BitVec 32) (st : (Nat → BitVec 32) × List (BitVec 8)) (long : BitVec 64) : (Nat → BitVec 32) × List (BitVec 8) :=
  takeL K st ([0x80#8] ++ List.replicate (zerosOf st.2.length) 0#8 ++ tailL (long * 8#64))

theorem seg_one (w : World) (T : TypeId) (c : BitVec 8) : Seg (w.alloc (.cells #[W8 c] T)) (.slice (some ⟨w.heap.size, 0, none⟩) 1 1) ([c].map W8) :=
  ⟨_, _, rfl, (fun h => by cases h), (fun a ha j u hu => by
    cases ha
    cases j with
    | zero => simp at hu; subst hu; rw [Addr.add_zero']; simp
    | succ j => simp at hu)⟩
theorem Dig.alloc {w : World} {D S : Nat} {st : (Nat → BitVec 32) × List (BitVec 8)} {long : BitVec 64} {v : Value} (h : Dig w D S st long v) (o : Obj) : Dig (w.alloc o) D S st long v :=
  ⟨h.1.alloc o, h.2.1.alloc o, h.2.2⟩
theorem Dig.own_lt {w : World} {D S : Nat} {st : (Nat → BitVec 32) × List (BitVec 8)} {long : BitVec 64} {v : Value} (h : Dig w D S st long v) : v.ownBlock ≠ some w.heap.size := by
  intro e; have := h.2.1.lt e; omega
theorem Dig.frm {w w' : World} {P : Nat → Prop} {D S : Nat} {st : (Nat → BitVec 32) × List (BitVec 8)} {long : BitVec 64} {v : Value} (h : Dig w D S st long v) (hf : Frm P w w')
    (hD : ¬ P D) (hv : ∀ k, v.ownBlock = some k → ¬ P k) : Dig w' D S st long v := ⟨hf.row h.1 hD, hf.own h.2.1 hv, h.2.2⟩
theorem seg_row8 {w : World} {b n : Nat} {T : TypeId} {f : Nat → BitVec 8} (h : Row w b T n (w8 f)) (c : Nat) : Seg w (.slice (some ⟨b, 0, none⟩) n c) (((List.range n).map f).map W8) := by
  refine ⟨some ⟨b, 0, none⟩, c, by simp, (fun h => by cases h), (fun a ha j u hu => ?_)⟩
  cases ha
  have hj : j < n := by
    have := (List.getElem?_eq_some_iff.1 hu).1
    simpa using this
  rw [Addr.add_lit, Nat.zero_add, h.cell8 j hj]
  rw [List.map_map, List.getElem?_map, List.getElem?_range hj] at hu
  exact hu
theorem zero8x32 : #[Value.int .u8 0, .int .u8 0, .int .u8 0, .int .u8 0, .int .u8 0, .int .u8 0, .int .u8 0, .int .u8 0, .int .u8 0, .int .u8 0, .int .u8 0, .int .u8 0, .int .u8 0, .int .u8 0, .int .u8 0, .int .u8 0, .int .u8 0, .int .u8 0, .int .u8 0, .int .u8 0, .int .u8 0, .int .u8 0, .int .u8 0, .int .u8 0, .int .u8 0, .int .u8 0, .int .u8 0, .int .u8 0, .int .u8 0, .int .u8 0, .int .u8 0, .int .u8 0] = rowOf 32 (w8 fun _ => 0#8) := by rfl

def tailTo (n : BitVec 64) (k : Nat) : Nat → BitVec 8 := fun j => if j < k then tailB n j else 0#8
theorem upd_tailTo (n : BitVec 64) (k : Nat) : upd (tailTo n k) k (tailB n k) = tailTo n (k + 1) := by
  funext i
  by_cases e : i = k
  · subst e; rw [upd_same]; simp [tailTo]
  · rw [upd_other _ _ _ _ e]; simp only [tailTo]
    by_cases h : i < k
    · rw [if_pos h, if_pos (by omega)]
    · rw [if_neg h, if_neg (by omega)]
def outTo (h : Nat → BitVec 32) (k : Nat) : Nat → BitVec 8 := fun j => if j < k then outB h j else 0#8
theorem upd_outTo (h : Nat → BitVec 32) (k : Nat) : upd (outTo h k) k (outB h k) = outTo h (k + 1) := by
  funext i
  by_cases e : i = k
  · subst e; rw [upd_same]; simp [outTo]
  · rw [upd_other _ _ _ _ e]; simp only [outTo]
    by_cases h : i < k
    · rw [if_pos h, if_pos (by omega)]
    · rw [if_neg h, if_neg (by omega)]
theorem zero8x8 : #[Value.int .u8 0, .int .u8 0, .int .u8 0, .int .u8 0, .int .u8 0, .int .u8 0, .int .u8 0, .int .u8 0] = rowOf 8 (w8 fun _ => 0#8) := by rfl
set_option maxHeartbeats 1000000 in
set_option maxRecDepth 100000 in
theorem end_core (D S : Nat) (F K h7 : Nat → BitVec 32) (st : (Nat → BitVec 32) × List (BitVec 8)) (long : BitVec 64) (v : Value) (w : World)
    (hd : Dig w D S st long v) (hS : Row w S 112 72 (sumsV F K)) (hDS : D ≠ S) (h7e : (endSt K st long).1 = h7) :
    Calls Try.prog 68 #[.pointer (some ⟨D, 0, none⟩)] w fun e w' => e = .returned (.agg (rowOf 32 (w8 (outB h7)))) ∧
      Frm (fun k => k = D ∨ v.ownBlock = some k) w w' := by
  have H7E := hid h7e
  clear h7e
  have c10 : w.cell? ⟨D, 10, none⟩ = some (W64 long) := hd.1.cell 10 (by omega)
  have hDlt := hd.1.lt
  have hSlt := hS.lt
  have HD := hid hd
  have HS := hid hS
  clear hd hS
  go_enter Try.func68, Try.ntmps68
  go_wp2_with fail
  rw [zero8x32]
  have hd1 := (HD.out.alloc (.cells (rowOf 32 (w8 fun _ => 0#8)) 26)).alloc (.cells #[.int .u8 128] 5)
  have hs1 := (HS.out.alloc (.cells (rowOf 32 (w8 fun _ => 0#8)) 26)).alloc (.cells #[.int .u8 128] 5)
  have hr1 := (Row.new w 26 32 (w8 fun _ => 0#8)).alloc (.cells #[.int .u8 128] 5)
  have hg1 : Seg ((w.alloc (.cells (rowOf 32 (w8 fun _ => 0#8)) 26)).alloc (.cells #[.int .u8 128] 5)) (.slice (some ⟨w.heap.size + 1, 0, none⟩) 1 1) ([128#8].map W8) := by
    have := seg_one (w.alloc (.cells (rowOf 32 (w8 fun _ => 0#8)) 26)) 5 128#8
    rw [World.size_alloc] at this; exact this
  have hf1 := ((Frm.refl (fun k => k = D ∨ v.ownBlock = some k) w).alloc (.cells (rowOf 32 (w8 fun _ => 0#8)) 26)).alloc (.cells #[.int .u8 128] 5)
  have hz1 : w.heap.size + 2 ≤ ((w.alloc (.cells (rowOf 32 (w8 fun _ => 0#8)) 26)).alloc (.cells #[.int .u8 128] 5)).heap.size := by simp
  have hvw : ∀ k, v.ownBlock = some k → k < w.heap.size := fun k hk => HD.out.2.1.lt hk
  have HVW := hid hvw
  clear hvw
  generalize (w.alloc (.cells (rowOf 32 (w8 fun _ => 0#8)) 26)).alloc (.cells #[.int .u8 128] 5) = w1 at hd1 hs1 hr1 hg1 hf1 hz1 ⊢
  refine (take_any D S F K st long v _ [128#8] w1 hd1 hs1 hDS hg1 (fun a n c e _ => by cases e; exact ⟨by simp only; omega, fun h => by have := HVW.out _ h; simp only at this; omega⟩) (by simp)).mono ?_
  rintro e w2 ⟨rfl, v2, hd2, hf2, hv2⟩
  have hs2 := hf2.row hs1 (by intro h; rcases h with h | h; exact hDS h.symm; have := HVW.out _ h; exact HD.out.2.2.2.2 h)
  have hr2 := hf2.row hr1 (by intro h; rcases h with h | h; omega; have := HVW.out _ h; omega)
  have hF2 := hf1.trans hf2 (fun i _ h => h)
  have hz2 : w.heap.size + 2 ≤ w2.heap.size := by have := hf2.size; omega
  have hv2' : v2.ownBlock = v.ownBlock ∨ ∃ g, v2.ownBlock = some g ∧ w.heap.size + 2 ≤ g := by
    rcases hv2 with h | ⟨g, h, hg⟩
    · exact .inl h
    · exact .inr ⟨g, h, by omega⟩
  clear hd1 hs1 hr1 hg1 hf1 hf2 hv2
  obtain ⟨s1, hs1⟩ : ∃ s1, takeL K st [128#8] = s1 := ⟨_, rfl⟩
  rw [hs1] at hd2
  have HS1 := hid hs1
  have HD2 := hid hd2
  have HS2 := hid hs2
  have HR2 := hid hr2
  have HF2 := hid hF2
  have HV2 := hid hv2'
  clear hs1 hd2 hs2 hr2 hF2 hv2'
  go_wp2_with fail
  go_loopg [16] (zerosOf st.2.length) (fun gk _v wr => ∃ (j : Nat) (v' : Value) (lg : BitVec 64), j + gk = zerosOf st.2.length ∧ Dig wr D S (takeL K s1 (List.replicate j 0#8)) lg v' ∧ Row wr S 112 72 (sumsV F K) ∧
    Row wr w.heap.size 26 32 (w8 fun _ => 0#8) ∧ Frm (fun k => k = D ∨ v.ownBlock = some k) w wr ∧ w.heap.size + 2 ≤ wr.heap.size ∧ (v'.ownBlock = v.ownBlock ∨ ∃ g, v'.ownBlock = some g ∧ w.heap.size + 2 ≤ g))
  case atStart => exact ⟨0, v2, _, by omega, HD2.out, HS2.out, HR2.out, HF2.out, hz2, HV2.out⟩
  case round =>
    obtain ⟨j, v3, lg, hj, hd3, hs3, hr3, hf3, hz3, hv3⟩ := hrel
    have hlen : (takeL K s1 (List.replicate j 0#8)).2.length = ((st.2.length + 1) % 64 + j) % 64 := by
      have h1 := takeL_len K st [128#8] HD.out.2.2.1
      have h2 : s1.2.length < 64 := HD2.out.2.2.1
      rw [takeL_len K s1 _ h2, List.length_replicate, ← HS1.out, h1]; rfl
    have c9 : wr.cell? ⟨D, 9, none⟩ = some v3 := hd3.1.cell 9 (by omega)
    have hDr := hd3.1.lt
    obtain ⟨ao, cp, hv3e, _, _⟩ := hd3.2.1.seg
    rw [List.length_map] at hv3e
    generalize hs3e : takeL K s1 (List.replicate j 0#8) = s3 at *
    generalize hn3 : s3.2.length = n3 at *
    have hst : st.2.length < 64 := HD.out.2.2.1
    have hzo : zerosOf st.2.length = (120 - (st.2.length + 1) % 64) % 64 := rfl
    have HZO := hid hzo
    have HLEN := hid hlen
    have HN3 := hid hn3
    have HS3E := hid hs3e
    have HJ := hid hj
    subst hv3e
    have HD3 := hid hd3
    have HS3 := hid hs3
    have HR3 := hid hr3
    have HF3 := hid hf3
    have HV3 := hid hv3
    clear hzo hlen hn3 hs3e hj hd3 hs3 hr3 hf3 hv3
    by_cases hgk : gk = 0
    · have hb : ((n3 : Int) != 56) = false := by
        have := HJ.out; have := HZO.out; have := HLEN.out; subst hgk
        have : n3 = 56 := by omega
        rw [this]; rfl
      have HGK := hid hgk
      clear hgk
      go_wp2_with fail
      rw [zero8x8]
      have hr5 := Row.new wr 118 8 (w8 fun _ => 0#8)
      have hf5 : Frm Nil wr (wr.alloc (.cells (rowOf 8 (w8 fun _ => 0#8)) 118)) := (Frm.refl _ _).alloc _
      have hz5 : (wr.alloc (.cells (rowOf 8 (w8 fun _ => 0#8)) 118)).heap.size = wr.heap.size + 1 := by simp
      generalize wr.alloc (.cells (rowOf 8 (w8 fun _ => 0#8)) 118) = w5 at hr5 hf5 hz5 ⊢
      obtain ⟨wo, rfl⟩ : ∃ wo : World, wo = wr := ⟨_, rfl⟩
      go_loopw [25] (fun i wi => ∃ k : Nat, k ≤ 8 ∧ i = .int .i64 k ∧ Row wi wo.heap.size 118 8 (w8 (tailTo (long * 8#64) k)) ∧ Frm Nil wo wi ∧ wi.heap.size = wo.heap.size + 1) (fun i _ => 8 - (intOf i).toNat)
      case atStart => exact ⟨0, by omega, rfl, hr5.congr (fun i _ => by simp [w8, tailTo]), hf5, hz5⟩
      case round =>
        clear hr5 hf5 hz5
        obtain ⟨k, hk, rfl, hr6, hf6, hz6⟩ := hrel
        by_cases hlt : k < 8
        · have e1 := hr6.cell8 k hlt
          have e2 := hr6.free k
          have HR6 := hid hr6
          have HF6 := hid hf6
          have HZ6 := hid hz6
          clear hr6 hf6 hz6
          go_wp2_with (go_at_call 71; refine (rot64_any _ _ _ (by omega)).mono ?_; rintro e w' ⟨rfl, rfl⟩)
          go_roundw
          case rel =>
            have h1 := HR6.out.set k (W8 (tailB (long * 8#64) k))
            rw [upd_w8, upd_tailTo] at h1
            exact ⟨k + 1, by omega, by go_num, h1, HF6.out.set _ _ (by simp), by simp [HZ6.out]⟩
          case measure => simp [intOf]; omega
        · obtain rfl : k = 8 := by omega
          go_wp2_with fail
          have hd6 := HD3.out.frm hf6 (by simp [Nil]) (by simp [Nil])
          have hs6 := hf6.row HS3.out (by simp [Nil])
          have hR6 := hf6.row HR3.out (by simp [Nil])
          have hF6 := HF3.out.trans hf6 (fun _ _ h => False.elim h)
          have hg6 := seg_row8 hr6 8
          have e6 : (List.range 8).map (tailTo (long * 8#64) 8) = tailL (long * 8#64) := by
            unfold tailL; apply List.map_congr_left; intro i hi; simp only [tailTo]; rw [if_pos (by simpa using hi)]
          rw [e6] at hg6
          have hown6 := HD3.out.own_lt
          have hDn := HD3.out.1.lt
          refine (take_any D S F K s3 lg _ _ (tailL (long * 8#64)) wr hd6 hs6 hDS hg6 (fun a n c e _ => by cases e; exact ⟨by simp only; omega, hown6⟩) (by simp [tailL])).mono ?_
          rintro e w7 ⟨rfl, v7, hd7, hf7, hv7⟩
          have hR7 := hf7.row hR6 (by intro h; rcases h with h | h; omega; rcases HV3.out with h1 | ⟨g, h1, hg⟩; rw [h1] at h; have := HVW.out _ h; omega; rw [h1] at h; cases h; omega)
          have hF7 := hF6.trans hf7 (fun i hi h => by
            rcases h with h | h
            · exact .inl h
            · rcases HV3.out with h1 | ⟨g, h1, hg⟩
              · right; rw [← h1]; exact h
              · rw [h1] at h; cases h; omega)
          have hst7 : takeL K s3 (tailL (long * 8#64)) = endSt K st long := by
            have hj2 : j = zerosOf st.2.length := by have := HJ.out; have := HGK.out; omega
            rw [endSt, takeL_append, takeL_append, HS1.out, ← hj2, HS3E.out]
          rw [hst7] at hd7
          have hd7' := hd7.1
          rw [H7E.out] at hd7'
          have hz7 : w.heap.size + 2 ≤ w7.heap.size := by have := hf7.size; omega
          have HD7 := hid hd7'
          have HR7 := hid hR7
          have HF7 := hid hF7
          clear hst7 e6 hd7 hd7' hR7 hF7 hf7 hv7 hd6 hs6 hR6 hF6 hg6
          go_wp2_with fail
          rw [zero8x32]
          have hr8 := Row.new w7 26 32 (w8 fun _ => 0#8)
          have hf8 : Frm Nil w7 (w7.alloc (.cells (rowOf 32 (w8 fun _ => 0#8)) 26)) := (Frm.refl _ _).alloc _
          have hz8 : (w7.alloc (.cells (rowOf 32 (w8 fun _ => 0#8)) 26)).heap.size = w7.heap.size + 1 := by simp
          generalize w7.alloc (.cells (rowOf 32 (w8 fun _ => 0#8)) 26) = w8' at hr8 hf8 hz8 ⊢
          go_loopw [40] (fun i wi => ∃ k : Nat, k ≤ 32 ∧ i = .int .i64 k ∧ Row wi w7.heap.size 26 32 (w8 (outTo h7 k)) ∧ Frm Nil w7 wi) (fun i _ => 32 - (intOf i).toNat)
          case atStart => exact ⟨0, by omega, rfl, hr8.congr (fun i _ => by simp [w8, outTo]), hf8⟩
          case round =>
            clear hr8 hf8 hz8
            obtain ⟨k, hk, rfl, hr9, hf9⟩ := hrel
            by_cases hlt : k < 32
            · have e1 := hr9.cell8 k hlt
              have e2 := hr9.free k
              have e3 : wr.cell? ⟨D, 1 + k / 4, none⟩ = some (W32 (h7 (k / 4))) := by
                rw [(hf9.row HD7.out (by simp [Nil])).cell (1 + k / 4) (by omega)]; simp only [digV]
                rw [if_neg (by omega), if_pos (by omega), Nat.add_sub_cancel_left]
              have HR9 := hid hr9
              have HF9 := hid hf9
              clear hr9 hf9
              go_wp2_with (go_at_call 72; refine (rot32_any _ _ _ (by omega)).mono ?_; rintro e w' ⟨rfl, rfl⟩)
              go_roundw
              case rel =>
                have h1 := HR9.out.set k (W8 (outB h7 k))
                rw [upd_w8, upd_outTo] at h1
                exact ⟨k + 1, by omega, by go_num, h1, HF9.out.set _ _ (by simp)⟩
              case measure => simp [intOf]; omega
            · obtain rfl : k = 32 := by omega
              have hR9 := hf9.row HR7.out (by simp [Nil])
              have hc9 : ∀ i, i < 32 → wr.cell? ⟨w7.heap.size, 0 + i, none⟩ = some (w8 (outB h7) i) := fun i hi => by
                rw [Nat.zero_add, hr9.cell i hi]; simp only [w8, outTo]; rw [if_pos hi]
              have hF9 := HF7.out.trans hf9 (fun _ _ h => False.elim h)
              have HC9 := hid hc9
              have HR9 := hid hR9
              have HF9 := hid hF9
              clear hr9 hf9 hc9 hR9 hF9
              go_wp2_with (first | (refine wpList_load_fn rfl 26 _ rfl w7.heap.size 0 32 (w8 (outB h7)) rfl _ HC9.out Try.underlying26 rfl (by kernel_rfl) ?_) | (refine wpList_store_fn rfl 26 _ _ rfl rfl w.heap.size 0 32 32 _ _ (w8 (outB h7)) rfl rfl HR9.out (by kernel_rfl) (by omega) (fun _ _ => rfl) ?_))
              have hR10 := HR9.out.setRow (splice (w8 fun _ => 0#8) 0 32 (w8 (outB h7)))
              have hF10 := HF9.out.setRow w.heap.size (rowOf 32 (splice (w8 fun _ => 0#8) 0 32 (w8 (outB h7)))) (fun h => by omega)
              refine bodyPost_ret (v := .agg (rowOf 32 (w8 (outB h7)))) (results_cell_fn rfl _ _ w.heap.size 32 (w8 (outB h7)) _ rfl ?_ Try.underlying26 rfl (by kernel_rfl)) rfl ⟨rfl, hF10⟩
              intro i hi
              rw [hR10.cell i hi]; simp only [splice]; rw [if_pos (by omega)]; rfl
    · have hb : ((n3 : Int) != 56) = true := by
        have := HJ.out; have := HZO.out; have := HLEN.out
        have : n3 ≠ 56 := by omega
        simp; omega
      go_wp2_with fail
      have hd4 := HD3.out.alloc (.cells #[.int .u8 0] 5)
      have hs4 := HS3.out.alloc (.cells #[.int .u8 0] 5)
      have hr4 := HR3.out.alloc (.cells #[.int .u8 0] 5)
      have hf4 := HF3.out.alloc (.cells #[.int .u8 0] 5)
      have hg4 := seg_one wr 5 0#8
      have hz4 : wr.heap.size + 1 ≤ (wr.alloc (.cells #[.int .u8 0] 5)).heap.size := by simp
      have hown4 := HD3.out.own_lt
      have hg4' : Seg (wr.alloc (.cells #[.int .u8 0] 5)) (.slice (some ⟨wr.heap.size, 0, none⟩) 1 1) ([0#8].map W8) := hg4
      clear hg4
      generalize wr.alloc (.cells #[.int .u8 0] 5) = w4 at hd4 hs4 hr4 hf4 hg4' hz4 ⊢
      refine (take_any D S F K s3 lg _ _ [0#8] w4 hd4 hs4 hDS hg4' (fun a n c e _ => by cases e; exact ⟨by simp only; omega, hown4⟩) (by simp)).mono ?_
      rintro e w5 ⟨rfl, v5, hd5, hf5, hv5⟩
      go_wp2_with fail
      go_roundg (gk - 1)
      case measure => omega
      case rel =>
        refine ⟨j + 1, v5, lg + BitVec.ofNat 64 [0#8].length, by have := HJ.out; omega, ?_, ?_, ?_, ?_, ?_, ?_⟩
        · have e : takeL K s1 (List.replicate (j + 1) 0#8) = takeL K s3 [0#8] := by
            rw [List.replicate_succ', takeL_append, HS3E.out]
          rw [e]; exact hd5
        · exact hf5.row hs4 (by intro h; rcases h with h | h; exact hDS h.symm; exact HD3.out.2.2.2.2 h)
        · refine hf5.row hr4 (by intro h; rcases h with h | h; omega; rcases HV3.out with h1 | ⟨g, h1, hg⟩; rw [h1] at h; have := HVW.out _ h; omega; rw [h1] at h; cases h; omega)
        · refine hf4.trans hf5 (fun i hi h => ?_)
          rcases h with h | h
          · exact .inl h
          · rcases HV3.out with h1 | ⟨g, h1, hg⟩
            · right; rw [← h1]; exact h
            · rw [h1] at h; cases h; omega
        · have := hf5.size; omega
        · rcases hv5 with h | ⟨g, h, hg⟩
          · rcases HV3.out with h1 | ⟨g, h1, hg⟩
            · left; rw [h, h1]
            · right; exact ⟨g, by rw [h, h1], hg⟩
          · right; exact ⟨g, h, by omega⟩

theorem end_any (D S : Nat) (F K : Nat → BitVec 32) (st : (Nat → BitVec 32) × List (BitVec 8)) (long : BitVec 64) (v : Value) (w : World)
    (hd : Dig w D S st long v) (hS : Row w S 112 72 (sumsV F K)) (hDS : D ≠ S) :
    Calls Try.prog 68 #[.pointer (some ⟨D, 0, none⟩)] w fun e w' => e = .returned (.agg (rowOf 32 (w8 (outB (endSt K st long).1)))) ∧
      Frm (fun k => k = D ∨ v.ownBlock = some k) w w' := end_core D S F K _ st long v w hd hS hDS rfl
end Go.Proofs.Ytljddimmhjiehaa
