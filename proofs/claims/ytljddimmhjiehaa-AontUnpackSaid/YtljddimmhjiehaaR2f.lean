/- The reference of layer 2: the digest. -/
import Derived.Test.YtljddimmhjiehaaR2e
namespace Go.Proofs.Ytljddimmhjiehaa
open Go.RowKit

def begTo : Nat → List (BitVec 32)
  | 0 => []
  | n + 1 => begTo n ++ [wrdB beginsS n]
theorem begTo_len : ∀ n, (begTo n).length = n
  | 0 => rfl
  | n + 1 => by rw [begTo, List.length_append, begTo_len n]; rfl
def sumSt (f : List (BitVec 32)) (t : List (BitVec 8)) : Nat → List (BitVec 32)
  | 0 => f
  | j + 1 => behL (sumSt f t j) ((t.drop (64 * j)).take 64)
theorem behL_len (f : List (BitVec 32)) (l : List (BitVec 8)) : (behL f l).length = 8 := behAdd_len _ _ 8
theorem sumSt_len (f : List (BitVec 32)) (t : List (BitVec 8)) (hf : f.length = 8) : ∀ j, (sumSt f t j).length = 8
  | 0 => hf
  | _ + 1 => behL_len _ _
def digF (s : List (BitVec 32)) : Nat → BitVec 8 := fun i => bytesF ((s.getD (i / 4) 0#32).setWidth 64) 4 (i % 4)
def refSha (l : List (BitVec 8)) : Nat → BitVec 8 := digF (sumSt (begTo 8) (fillL l) ((padN l.length + 8) / 64))
theorem fillL_len (l : List (BitVec 8)) : (fillL l).length = padN l.length + 8 := by simp [fillL, bytesL]
theorem word_begin (bs : ByteArray) (n : Nat) (x : BitVec 32) (w : World) (hr : beginsS = bs) (h : n < 8) (hx : wrdB beginsS n = x) : Calls Try.prog 27 #[.string bs, .int .i64 (n : Int)] w fun e w' => e = .returned (W32 x) ∧ w = w' := by
  subst hx hr
  exact word_any beginsS n w (by rw [begins_size]; omega) (by rw [begins_size]; omega)
theorem begins_c (bs : ByteArray) (hr : beginsS = bs) (w : World) : Calls Try.prog 28 #[] w fun e w' => e = .returned (.string bs) ∧ w = w' := by
  subst hr
  exact begins_any w
theorem partF_step {α : Type} (s t : Nat → α) (k : Nat) (v : α) (h : t k = v) : upd (partF s t k) k v = partF s t (k + 1) := by rw [← h]; exact upd_partF s t k
set_option maxHeartbeats 2000000 in
set_option maxRecDepth 100000 in
theorem refSum_core (l T : List (BitVec 8)) (f S : List (BitVec 32)) (M : Nat) (bs : ByteArray) (out : Nat → BitVec 8) (sv : Value) (w : World) (hs : Seg w sv (l.map W8)) (hl : l.length ≤ 70368744177664) (hT : fillL l = T) (hM : T.length = 64 * M) (hM1 : 1 ≤ M) (hbs : beginsS = bs)
    (hf : begTo 8 = f) (hS : sumSt f T M = S) (ho : digF S = out) :
    Calls Try.prog 10 #[sv] w fun e w' => e = .returned (.agg (rowOf 32 (w8 out))) ∧ Frm Nil w w' := by
  have HTC := hid (fun w hs => filled_any l sv w hs hl)
  rw [hT] at HTC
  have HM := hid hM
  have HB := hid hbs
  have HF8 := hid hf
  have HS0 := hid hS
  have HO := hid ho
  have HSEG := hid hs
  have hml : T.length ≤ 100000000000000 := by rw [← hT, fillL_len]; have := padN_ge l.length; omega
  have HML := hid hml
  clear hT hM hbs hf hS ho hs hl hml
  go_enter Try.func10, Try.ntmps10
  have hr0 := Row.new w 26 32 (w8 fun _ => 0#8)
  have hf0 := ((Frm.refl Nil w).alloc (.cells (rowOf 32 (w8 fun _ => 0#8)) 26))
  go_upto_region 1 with (fail)
  rw [zero8x32]
  generalize w.alloc (.cells (rowOf 32 (w8 fun _ => 0#8)) 26) = w0 at hr0 hf0 ⊢
  have HR0 := hid hr0
  have HF0 := hid hf0
  have hz0 := hr0.lt
  clear hr0 hf0
  go_wp2_with fail
  refine (HTC.out w0 (HSEG.out.frm HF0.out (by simp [Nil]))).mono ?_
  rintro e w1 ⟨tv, rfl, hn1⟩
  clear HTC HSEG
  obtain ⟨gt, ct, hv, hct⟩ : ∃ g c, tv = .slice (some ⟨g, 0, none⟩) (64 * M) c ∧ 64 * M ≤ c := by
    have hm := HM.out
    rcases hn1.own.form with ⟨_, h2⟩ | ⟨g, cap, h1, h2, _⟩
    · have := congrArg List.length h2; rw [List.length_map, hm, List.length_nil] at this; omega
    · rw [List.length_map, hm] at h1 h2; exact ⟨g, cap, h1, h2⟩
  subst hv
  have hmm : 64 * M ≤ 100000000000000 := by have h1 := HM.out; have h2 := HML.out; omega
  have HN1 := hid hn1
  have HF1 := hid (HF0.out.trans hn1.frm (fun _ _ h => h))
  have HR1 := hid (hn1.frm.row HR0.out (by simp [Nil]))
  have hz1 := hn1.frm.size
  clear hn1 HR0 HF0
  go_wp2_with fail
  go_loopw [4, 5] (fun vs vi wr => ∃ (k : Nat) (q : Value), q = vs ∧ k ≤ 8 ∧ vi = .int .i64 (k : Int) ∧ New w1 wr 63 vs ((begTo k).map W32)) (fun _ vi _ => 8 - (intOf vi).toNat)
  case atStart => exact ⟨0, _, rfl, by omega, rfl, New.nil _ (Frm.refl _ _)⟩
  case round =>
    obtain ⟨k, q, rfl, hk, rfl, hn⟩ := hrel
    by_cases hlt : k < 8
    · have hst : begTo (k + 1) = begTo k ++ [wrdB beginsS k] := rfl
      have hlen := begTo_len k
      generalize begTo k = s at *
      generalize hx : wrdB beginsS k = x at *
      have HX := hid hx
      have HST := hid hst
      have HN := hid hn
      have HLEN := hid hlen
      clear hx hst hn hlen
      go_wp2_with fail
      refine (begins_c bs HB.out _).mono ?_
      rintro e w' ⟨rfl, rfl⟩
      go_wp2_with fail
      refine (word_begin bs k x _ HB.out hlt HX.out).mono ?_
      rintro e w' ⟨rfl, rfl⟩
      go_wp2_with (at_builtin; go_loud (refine push32 HN.out _ (by rw [HLEN.out]; omega) rfl _ _ rfl (by rfl) (by rfl) ?_))
      intro q2 w3 hn3 _ _
      have HN3 : Hid (New w1 w3 63 q2 ((s ++ [x]).map W32)) := by
        rw [List.map_append]; exact hn3
      clear hn3
      go_wp2_with fail
      go_roundw
      case rel => exact ⟨k + 1, _, rfl, by omega, by go_num, by rw [HST.out]; exact HN3.out⟩
      case measure => simp [intOf]; omega
    · have hk8 : begTo k = f := by rw [← HF8.out]; congr 1; omega
      have hfl : f.length = 8 := by rw [← hk8, begTo_len]; omega
      rw [hk8] at hn
      have HFL := hid hfl
      have hf1 := hn.frm
      have HO0 := hid hn.own
      have HFA := hid hf1
      clear hk8 hfl hn hf1
      go_wp2_with fail
      obtain ⟨wx, rfl⟩ : ∃ wx : World, wx = wr := ⟨_, rfl⟩
      go_loopw [3, 4] (fun vt vs wr => ∃ (j r n o c : Nat) (q : Value), q = vs ∧ vt = .slice (some ⟨gt, o, none⟩) n c ∧ n = 64 * r ∧ j + r = M ∧ n ≤ c ∧ (0 < r → o = 64 * j) ∧ Own wr 63 vs ((sumSt f T j).map W32) ∧ Frm Nil w1 wr) (fun vt _ _ => match vt with | .slice _ n _ => n | _ => 0)
      case atStart => exact ⟨0, M, _, 0, ct, _, rfl, rfl, rfl, by omega, hct, fun _ => rfl, HO0.out, HFA.out⟩
      case round =>
        obtain ⟨j, r, n, o, c, q, rfl, rfl, hn, hjr, hnc, ho, hs, hfr⟩ := hrel
        by_cases hlt : 0 < r
        · obtain rfl : o = 64 * j := ho hlt
          have hst : sumSt f T (j + 1) = behL (sumSt f T j) ((T.drop (64 * j)).take 64) := rfl
          have hsl := sumSt_len f T HFL.out j
          have hseg : Seg wr (.slice (some ⟨gt, 64 * j, none⟩) 64 c) (((T.drop (64 * j)).take 64).map W8) := by
            have h1 := (hfr.own HN1.out.own (by simp [Nil])).segPart (64 * j) (64 * j + 64) c (by omega) (by rw [List.length_map, HM.out]; omega)
            rw [show 64 * j + 64 - 64 * j = 64 by omega] at h1
            rw [List.map_take, List.map_drop]; exact h1
          have hbl : ((T.drop (64 * j)).take 64).length = 64 := by rw [List.length_take, List.length_drop, HM.out]; omega
          generalize (T.drop (64 * j)).take 64 = b at *
          generalize sumSt f T j = s at *
          have HST := hid hst
          have HSL := hid hsl
          have HSEG := hid hseg
          have HBL := hid hbl
          have HS := hid hs
          have HFR := hid hfr
          have HN := hid hn
          have hn64 : 64 ≤ n := by omega
          have hn0 : decide ((n : Int) > 0) = true := by simp; omega
          clear hst hsl hseg hbl hs hfr hn
          rcases (show c = 64 ∨ 64 < c by omega) with rfl | hcap
          all_goals
            go_wp2_with fail
            refine (behind_any s b q _ wr HS.out HSL.out HSEG.out HBL.out).mono ?_
            rintro e w2 ⟨q2, rfl, hn2⟩
            have HN2 := hid hn2.own
            have HF2 := hid (HFR.out.trans hn2.frm (fun _ _ h => h))
            clear hn2 HSEG
            go_wp2_with fail
            go_roundw
            case rel => exact ⟨j + 1, r - 1, _, _, _, q2, rfl, rfl, by have := HN.out; omega, by omega, by omega, fun h => by have := HN.out; omega, by rw [HST.out]; exact HN2.out, HF2.out⟩
            case measure => first | (show n - 64 < n; omega) | (show 0 < n; omega)
        · have hjM : sumSt f T j = S := by rw [← HS0.out]; congr 1; omega
          have hsl := sumSt_len f T HFL.out j
          rw [hjM] at hs hsl
          obtain rfl : n = 0 := by omega
          have hn0 : decide (((0 : Nat) : Int) > 0) = false := by simp
          have HS := hid hs
          have HSL := hid hsl
          have HFR := hid hfr
          clear hjM hsl hs hfr hn ho HS0
          go_upto_region 11 with (refine wpList_store_fn rfl 26 _ _ rfl rfl wr.heap.size 0 32 32 26 (w8 fun _ => 0#8) (w8 fun _ => 0#8) rfl (congrArg Value.agg zero8x32) (Row.new wr 26 32 (w8 fun _ => 0#8)) (by kernel_rfl) (by omega) (fun _ _ => rfl) ?_)
          rw [zero8x32]
          have hh4 := (Row.new wr 26 32 (w8 fun _ => 0#8)).over (w8 fun _ => 0#8)
          have hf4 : Frm Nil wr ((wr.alloc (.cells (rowOf 32 (w8 fun _ => 0#8)) 26)).setRow wr.heap.size (rowOf 32 (splice (w8 fun _ => 0#8) 0 32 (w8 fun _ => 0#8)))) :=
            ((Frm.refl Nil wr).alloc (.cells (rowOf 32 (w8 fun _ => 0#8)) 26)).setRow wr.heap.size _ (fun h => by omega)
          generalize (wr.alloc (.cells (rowOf 32 (w8 fun _ => 0#8)) 26)).setRow wr.heap.size (rowOf 32 (splice (w8 fun _ => 0#8) 0 32 (w8 fun _ => 0#8))) = w4 at hh4 hf4 ⊢
          obtain ⟨gs, cs, rfl, hcs, hgs⟩ := HS.out.eight HSL.out
          have HH4 := hid hh4
          have HF4 := hid hf4
          clear hh4 hf4
          obtain ⟨wz, hwz⟩ : ∃ wz : World, wz = wr := ⟨_, rfl⟩
          rw [← hwz] at HH4 HF4 HS HFR hgs ⊢
          clear hwz
          go_wp2_with fail
          go_loopw [7] (fun vi wr => ∃ i : Nat, i ≤ 8 ∧ vi = .int .i64 (i : Int) ∧ Row wr wz.heap.size 26 32 (w8 (partF (fun _ => 0#8) out (4 * i))) ∧ Frm Nil wz wr) (fun vi _ => 8 - (intOf vi).toNat)
          case atStart => exact ⟨0, by omega, rfl, by rw [Nat.mul_zero, partF_zero]; exact HH4.out, HF4.out⟩
          case round =>
            clear HH4 HF4
            obtain ⟨i, hi, rfl, hh, hf⟩ := hrel
            by_cases hlt2 : i < 8
            · have c1 := (hf.own HS.out (by simp [Nil])).cell32 i (by rw [HSL.out]; omega)
              have hout : ∀ k, k < 4 → out (4 * i + k) = bytesF ((S.getD i 0#32).setWidth 64) 4 k := fun k hk => by
                rw [← HO.out, digF, show (4 * i + k) / 4 = i by omega, show (4 * i + k) % 4 = k by omega]
              generalize S.getD i 0#32 = x at *
              have HOUT := hid hout
              have HH := hid hh
              have HF := hid hf
              clear hout hh hf
              go_wp2_with fail
              refine (bytes_new (x.setWidth 64) 4 _ wr (by omega) rfl).mono ?_
              rintro e w5 ⟨xv, rfl, hx⟩
              obtain ⟨gx, cx, hxv, hgx⟩ : ∃ g c, xv = .slice (some ⟨g, 0, none⟩) 4 c ∧ wr.heap.size ≤ g := by
                rcases hx.own.form with ⟨_, h2⟩ | ⟨g, cap, h1, h2, _⟩
                · have := congrArg List.length h2; rw [List.length_map, bytesL_len, List.length_nil] at this; omega
                · rw [List.length_map, bytesL_len] at h1; exact ⟨g, cap, h1, hx.fresh g (by rw [h1]; rfl)⟩
              subst hxv
              have HX := hid hx.own
              have HH5 := hid (hx.frm.row HH.out (by simp [Nil]))
              have HF5 := hid (HF.out.trans hx.frm (fun _ _ h => h))
              have hzx := HH.out.lt
              clear hx HH HF
              go_wp2_with fail
              obtain ⟨wy, rfl⟩ : ∃ wy : World, wy = wr := ⟨_, rfl⟩
              go_loopw [9] (fun vk wi => ∃ k : Nat, k ≤ 4 ∧ vk = .int .i64 (k : Int) ∧ Row wi wz.heap.size 26 32 (w8 (partF (fun _ => 0#8) out (4 * i + k))) ∧ Own wi 5 (.slice (some ⟨gx, 0, none⟩) 4 cx) ((bytesL (x.setWidth 64) 4).map W8) ∧ Frm Nil wz wi) (fun vk _ => 4 - (intOf vk).toNat)
              case atStart => exact ⟨0, by omega, rfl, HH5.out, HX.out, HF5.out⟩
              case round =>
                clear HH5 HX HF5
                obtain ⟨k, hk, rfl, hh, hx, hf⟩ := hrel
                by_cases hlt3 : k < 4
                · have c2 : wr.cell? ⟨gx, k, none⟩ = some (W8 (bytesF (x.setWidth 64) 4 k)) := by
                    have := hx.cell k (by rw [List.length_map, bytesL_len]; omega)
                    rw [this, List.getElem_map]; simp [bytesL]
                  have c3 := hh.cell8 (4 * i + k) (by omega)
                  have c3f := hh.free (4 * i + k)
                  have hst := HOUT.out k hlt3
                  generalize bytesF (x.setWidth 64) 4 k = b at *
                  have e1 : (4 * (i : Int) + (k : Int)).toNat = 4 * i + k := by omega
                  have HST := hid hst
                  have HH := hid hh
                  have HX := hid hx
                  have HF := hid hf
                  clear hst hh hx hf
                  go_wp2_with fail
                  go_roundw
                  case rel =>
                    have h1 := HH.out.set (4 * i + k) (W8 b)
                    rw [upd_w8, partF_step _ _ _ _ HST.out] at h1
                    exact ⟨k + 1, by omega, by go_num, h1, HX.out.set _ _ (by simp [Value.ownBlock]; omega), HF.out.set _ _ (by simp)⟩
                  case measure => simp [intOf]; omega
                · obtain rfl : k = 4 := by omega
                  have HH := hid hh
                  have HF := hid hf
                  clear hh hx hf
                  go_wp2_with fail
                  go_roundw
                  case rel => exact ⟨i + 1, by omega, by go_num, HH.out, HF.out⟩
                  case measure => simp [intOf]; omega
            · obtain rfl : i = 8 := by omega
              have hfz : Frm Nil w1 wr := HFR.out.trans hf (fun _ _ h => h)
              have HRR := hid (hfz.row HR1.out (by simp [Nil]))
              have HC : Hid (∀ i, i < 32 → wr.cell? ⟨wz.heap.size, 0 + i, none⟩ = some (w8 out i)) := fun i hi => by rw [Nat.zero_add, hh.cell i hi, w8, partF_full _ _ _ _ hi]; rfl
              have HFW := hid (HF1.out.trans hfz (fun _ _ h => h))
              clear hh hf hfz
              go_wp2_with (first | (refine wpList_load_fn rfl 26 _ rfl wz.heap.size 0 32 (w8 out) rfl _ HC.out Try.underlying26 rfl (by kernel_rfl) ?_) | (refine wpList_store_fn rfl 26 _ _ rfl rfl w.heap.size 0 32 32 _ _ (w8 out) rfl rfl HRR.out (by kernel_rfl) (by omega) (fun _ _ => rfl) ?_))
              exact bodyPost_cell rfl w.heap.size 32 _ _ _ rfl (HRR.out.over _) Try.underlying26 rfl (by kernel_rfl) rfl ⟨rfl, HFW.out.setRow _ _ (fun h => by omega)⟩
theorem refSum_any (l : List (BitVec 8)) (sv : Value) (w : World) (hs : Seg w sv (l.map W8)) (hl : l.length ≤ 70368744177664) :
    Calls Try.prog 10 #[sv] w fun e w' => e = .returned (.agg (rowOf 32 (w8 (refSha l)))) ∧ Frm Nil w w' :=
  refSum_core l _ _ _ _ _ _ sv w hs hl rfl (by rw [fillL_len]; have := padN_at l.length; omega) (by have := padN_ge l.length; have := padN_at l.length; omega) rfl rfl rfl rfl
end Go.Proofs.Ytljddimmhjiehaa
