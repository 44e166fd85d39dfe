/- The reference of layer 2: eight words behind a block. -/
import Derived.Test.YtljddimmhjiehaaR2c
namespace Go.Proofs.Ytljddimmhjiehaa
open Go.RowKit

def behX (v : List (BitVec 32)) (kx wx : BitVec 32) : BitVec 32 :=
  v.getD 7 0#32 + three32 (v.getD 4 0#32) 6 11 25 + (v.getD 4 0#32 &&& v.getD 5 0#32 ||| (4294967295#32 - v.getD 4 0#32) &&& v.getD 6 0#32) + kx + wx
def behNext (v : List (BitVec 32)) (kx wx : BitVec 32) : List (BitVec 32) :=
  [behX v kx wx + three32 (v.getD 0 0#32) 2 13 22 + (v.getD 0 0#32 &&& v.getD 1 0#32 ||| v.getD 0 0#32 &&& v.getD 2 0#32 ||| v.getD 1 0#32 &&& v.getD 2 0#32), v.getD 0 0#32, v.getD 1 0#32, v.getD 2 0#32,
    v.getD 3 0#32 + behX v kx wx, v.getD 4 0#32, v.getD 5 0#32, v.getD 6 0#32]
def behTo (f sp : List (BitVec 32)) : Nat → List (BitVec 32)
  | 0 => f
  | n + 1 => behNext (behTo f sp n) (wrdB roundsS n) (sp.getD n 0#32)
def behAdd (f v : List (BitVec 32)) : Nat → List (BitVec 32)
  | 0 => []
  | n + 1 => behAdd f v n ++ [f.getD n 0#32 + v.getD n 0#32]
def behL (f : List (BitVec 32)) (l : List (BitVec 8)) : List (BitVec 32) := behAdd f (behTo f (sprTo l 64) 64) 8
theorem behAdd_len (f v : List (BitVec 32)) : ∀ n, (behAdd f v n).length = n
  | 0 => rfl
  | n + 1 => by rw [behAdd, List.length_append, behAdd_len f v n]; rfl
theorem behTo_len (f sp : List (BitVec 32)) (hf : f.length = 8) : ∀ n, (behTo f sp n).length = 8
  | 0 => hf
  | _ + 1 => rfl
theorem eight_of {α : Type} (l : List α) (h : l.length = 8) : ∃ a b c d e f g i, l = [a, b, c, d, e, f, g, i] := by
  match l, h with
  | [a, b, c, d, e, f, g, i], _ => exact ⟨a, b, c, d, e, f, g, i, rfl⟩
theorem three_c (x : BitVec 32) (a b c : Int) (w : World) (ha : 0 ≤ a ∧ a ≤ 31) (hb : 0 ≤ b ∧ b ≤ 31) (hc : 0 ≤ c ∧ c ≤ 31) :
    Calls Try.prog 48 #[W32 x, .agg #[.int .i64 a, .int .i64 b, .int .i64 c]] w fun e w' => e = .returned (W32 (three32 x a.toNat b.toNat c.toNat)) ∧ Frm Nil w w' := by
  have h := three_any x a.toNat b.toNat c.toNat w (by omega) (by omega) (by omega)
  rw [Int.toNat_of_nonneg ha.1, Int.toNat_of_nonneg hb.1, Int.toNat_of_nonneg hc.1] at h
  exact h
theorem word_round (rs : ByteArray) (n : Nat) (x : BitVec 32) (w : World) (hr : roundsS = rs) (h : n < 64) (hx : wrdB roundsS n = x) : Calls Try.prog 27 #[.string rs, .int .i64 (n : Int)] w fun e w' => e = .returned (W32 x) ∧ w = w' := by
  subst hx hr
  exact word_any roundsS n w (by rw [rounds_size]; omega) (by rw [rounds_size]; omega)
theorem Own.eight {w : World} {v : Value} {l : List (BitVec 32)} (h : Own w 63 v (l.map W32)) (hl : l.length = 8) : ∃ g c, v = .slice (some ⟨g, 0, none⟩) 8 c ∧ 8 ≤ c ∧ g < w.heap.size := by
  rcases h.form with ⟨_, h2⟩ | ⟨g, cap, h1, h2, h3, _⟩
  · have := congrArg List.length h2; rw [List.length_map, hl] at this; simp at this
  · rw [List.length_map, hl] at h1 h2; exact ⟨g, cap, h1, h2, h3⟩
theorem Own.segPart {w : World} {e : TypeId} {g n cap : Nat} {xs : List Value} (h : Own w e (.slice (some ⟨g, 0, none⟩) n cap) xs) (lo hi c' : Nat) (h1 : lo ≤ hi) (h2 : hi ≤ xs.length) :
    Seg w (.slice (some ⟨g, lo, none⟩) (hi - lo) c') ((xs.drop lo).take (hi - lo)) := by
  have := h.seg.part rfl lo hi c' h1 h2
  rwa [Nat.zero_add] at this
set_option maxHeartbeats 1000000 in
set_option maxRecDepth 100000 in
theorem behind_core (f sp out : List (BitVec 32)) (l : List (BitVec 8)) (fv sv : Value) (w : World) (hfo : Own w 63 fv (f.map W32)) (hfl : f.length = 8) (hs : Seg w sv (l.map W8)) (hl : l.length = 64) (hsp : sprTo l 64 = sp) (hout : behAdd f (behTo f sp 64) 8 = out) :
    Calls Try.prog 29 #[fv, sv] w fun e w' => Fresh32 out w e w' := by
  obtain ⟨g0, c0, rfl, hc0, hg0⟩ := hfo.eight hfl
  have hsl : sp.length = 64 := by rw [← hsp]; exact sprTo_len l 64
  have HSP := hid (fun w => spread_any l sv w)
  rw [hsp] at HSP
  have HSL := hid hsl
  have HS := hid hs
  have HLL := hid hl
  have HFO := hid hfo
  have HFL := hid hfl
  have HOUT := hid hout
  clear hs hl hfo hfl hsp hsl hout
  go_enter Try.func29, Try.ntmps29
  go_wp2_with fail
  refine (HSP.out w HS.out HLL.out).mono ?_
  rintro e w1 ⟨wv, rfl, hn1⟩
  clear HSP
  obtain ⟨gw, cw, hwv⟩ : ∃ g c, wv = .slice (some ⟨g, 0, none⟩) 64 c := by
    rcases hn1.own.form with ⟨_, h2⟩ | ⟨g, cap, h1, _⟩
    · have := congrArg List.length h2; rw [List.length_map, HSL.out] at this; simp at this
    · rw [List.length_map, HSL.out] at h1; exact ⟨g, cap, h1⟩
  subst hwv
  have HN1 := hid hn1
  have HFO1 := hid (hn1.frm.own HFO.out (by simp [Nil]))
  have hz1 := hn1.frm.size
  clear hn1
  go_wp2_with (go_at_call 47; refine (rounds_any _).mono ?_; rintro e w' ⟨rfl, rfl⟩; generalize hrs : roundsS = rs; have HRS := hid hrs; clear hrs)
  go_loopw [7, 8] (fun vv vn wr => ∃ (k g c : Nat), vv = .slice (some ⟨g, 0, none⟩) 8 c ∧ 8 ≤ c ∧ k ≤ 64 ∧ vn = .int .i64 (k : Int) ∧ Own wr 63 vv ((behTo f sp k).map W32) ∧ Frm Nil w1 wr) (fun _ vn _ => 64 - (intOf vn).toNat)
  case atStart => exact ⟨0, g0, c0, rfl, hc0, by omega, rfl, HFO1.out, Frm.refl _ _⟩
  case round =>
    obtain ⟨k, g, c, rfl, hc, hk, rfl, ho, hf⟩ := hrel
    have hvl := behTo_len f sp HFL.out k
    by_cases hlt : k < 64
    · have hst : behTo f sp (k + 1) = behNext (behTo f sp k) (wrdB roundsS k) (sp.getD k 0#32) := rfl
      generalize hkx : wrdB roundsS k = kx at *
      have cw0 := (hf.own HN1.out.own (by simp [Nil])).cell32 k (by rw [HSL.out]; omega)
      generalize hwx : sp.getD k 0#32 = wx at *
      generalize behTo f sp k = v at *
      obtain ⟨v0, v1, v2, v3, v4, v5, v6, v7, rfl⟩ := eight_of v hvl
      have d0 : wr.cell? ⟨g, 0, none⟩ = some (W32 v0) := ho.cell32 0 (by simp)
      have d1 : wr.cell? ⟨g, 1, none⟩ = some (W32 v1) := ho.cell32 1 (by simp)
      have d2 : wr.cell? ⟨g, 2, none⟩ = some (W32 v2) := ho.cell32 2 (by simp)
      have d3 : wr.cell? ⟨g, 3, none⟩ = some (W32 v3) := ho.cell32 3 (by simp)
      have d4 : wr.cell? ⟨g, 4, none⟩ = some (W32 v4) := ho.cell32 4 (by simp)
      have d5 : wr.cell? ⟨g, 5, none⟩ = some (W32 v5) := ho.cell32 5 (by simp)
      have d6 : wr.cell? ⟨g, 6, none⟩ = some (W32 v6) := ho.cell32 6 (by simp)
      have d7 : wr.cell? ⟨g, 7, none⟩ = some (W32 v7) := ho.cell32 7 (by simp)
      have HX := hid hkx
      have HST := hid hst
      have HO := hid ho
      have HF := hid hf
      clear hst ho hf hvl hkx hwx
      go_upto_region 7 with fail
      go_quiet (fail)
      generalize nq = n7
      go_upto_region 8 with fail
      go_quiet (fail)
      generalize nq = n8
      go_upto_region 9 with fail
      have hfz : Frm Nil wr ((wr.drewN n7).drewN n8) := ((Frm.refl Nil wr).drewN n7).trans ((Frm.refl Nil _).drewN n8) (fun _ _ h => h)
      generalize (wr.drewN n7).drewN n8 = wz at hfz ⊢
      have e7 := fun d os => cell_regrown (hfz.cell d7 (by simp [Nil])) d os
      have e4 := fun d os => cell_regrown (hfz.cell d4 (by simp [Nil])) d os
      have ew := fun d os => cell_regrown (hfz.cell cw0 (by simp [Nil])) d os
      have HFZ := hid hfz
      clear d4 d5 d6 d7 d1 d2 cw0 hfz
      refine wp_region_later (by kernel_rfl) (by kernel_rfl) ?_
      repeat (go_big_quiet_step (first | (go_at_call 48; refine later_of (three_c _ _ _ _ _ (by decide) (by decide) (by decide))) | (go_at_call 27; refine later_of_same (word_round rs k kx _ HRS.out hlt HX.out))))
      refine wpQuiet_nil ?_
      intro w9 hf9
      have hfr := HFZ.out.trans hf9 (fun _ _ h => h)
      have f0 := hfr.cell d0 (by simp [Nil])
      have HFR := hid hfr
      clear e7 e4 ew HFZ hf9 hfr d0
      generalize hX : v7 + three32 v4 6 11 25 + (v4 &&& v5 ||| 4294967295#32 - v4 &&& v6) + kx + wx = X
      generalize hM : v0 &&& v1 ||| v0 &&& v2 ||| v1 &&& v2 = M
      have HEX : Hid (behNext [v0, v1, v2, v3, v4, v5, v6, v7] kx wx = [X + three32 v0 2 13 22 + M, v0, v1, v2, v3 + X, v4, v5, v6]) := by rw [← hX, ← hM]; rfl
      clear hX hM
      go_wp2_with fail
      refine (three_c _ _ _ _ _ (by decide) (by decide) (by decide)).mono ?_
      rintro e wa ⟨rfl, hfa⟩
      have HNA : Hid (New w9 wa 63 (.slice none 0 0) (([] : List (BitVec 32)).map W32)) := New.nil _ hfa
      have HFA := hid (HFR.out.trans hfa (fun _ _ h => h))
      clear hfa
      go_wp2_with (at_builtin; refine push32 HNA.out _ (by decide) rfl _ _ rfl (by rfl) (by rfl) ?_)
      intro q1 wb hn1 hf1 _
      generalize X + three32 v0 2 13 22 + M = Y at *
      have HNB : Hid (New w9 wb 63 q1 ([Y].map W32)) := hn1
      have HO1 := hid (HFA.out.own HO.out (by simp [Nil]))
      clear HNA hn1
      have HOB := hid (hf1.own HO1.out (fun _ _ h => by cases h))
      have HFB := hid (HFA.out.trans hf1 (fun _ _ h => by cases h))
      have HSB := hid (HOB.out.segPart 0 3 c (by omega) (by simp))
      clear hf1 HFA HO1
      go_wp2_with (at_builtin; go_loud (refine app32 (m := [v0, v1, v2]) HNB.out (by exact HSB.out) (by simp) rfl _ _ rfl (by rfl) (by rfl) ?_))
      intro q2 wc hn2 hf2 _
      have HNC : Hid (New w9 wc 63 q2 ([Y, v0, v1, v2].map W32)) := hn2
      have hgl : ∀ (q : Value) (u : World) (xs : List Value), New w9 u 63 q xs → ∀ h, (Value.slice (some ⟨g, 0, none⟩) 8 c).ownBlock = some h → ¬ q.ownBlock = some h := fun q u xs hq h hh e => by
        have h1 := hq.fresh h e
        have h2 := HO.out.lt hh
        have h3 := HFR.out.size
        omega
      have HGL := hid hgl
      have HOC := hid (hf2.own HOB.out (HGL.out _ _ _ HNB.out))
      have HFC := hid (HNB.out.frm)
      clear hn2 hf2 HSB HNB HOB hgl
      have d3' : wc.cell? ⟨g, 3, none⟩ = some (W32 v3) := HOC.out.cell32 3 (by simp)
      clear d3
      go_wp2_with (at_builtin; go_loud (refine push32 HNC.out _ (by simp) rfl _ _ rfl (by rfl) (by rfl) ?_))
      intro q3 wd hn3 hf3 _
      have HND : Hid (New w9 wd 63 q3 ([Y, v0, v1, v2, v3 + X].map W32)) := hn3
      have HOD := hid (hf3.own HOC.out (HGL.out _ _ _ HNC.out))
      have HSD := hid (HOD.out.segPart 4 7 (c - 4) (by omega) (by simp))
      clear hn3 hf3 HNC HOC d3' HFC
      go_wp2_with (at_builtin; go_loud (refine app32 (m := [v4, v5, v6]) HND.out (by exact HSD.out) (by simp) rfl _ _ rfl (by rfl) (by rfl) ?_))
      intro q4 we hn4 _ _
      have hn5 : New w9 we 63 q4 ([Y, v0, v1, v2, v3 + X, v4, v5, v6].map W32) := hn4
      obtain ⟨g4, c4, rfl, hc4, _⟩ := hn5.own.eight rfl
      have HNE := hid hn5
      clear hn4 hn5 HND HOD HSD HGL
      go_wp2_with fail
      go_roundw
      case rel => exact ⟨k + 1, g4, c4, rfl, hc4, by omega, by go_num, by rw [HST.out, HEX.out]; exact HNE.out.own, (HF.out.trans HFR.out (fun _ _ h => h)).trans HNE.out.frm (fun _ _ h => h)⟩
      case measure => simp [intOf]; omega
    · have hk64 : behTo f sp 64 = behTo f sp k := congrArg _ (by omega)
      rw [hk64] at HOUT
      clear hk64
      generalize hv : behTo f sp k = v at *
      have HO := hid ho
      have HF := hid hf
      have HVL := hid hvl
      clear ho hf hvl hv
      go_wp2_with fail
      obtain ⟨wx, rfl⟩ : ∃ wx : World, wx = wr := ⟨_, rfl⟩
      go_loopw [13, 14] (fun vo vj wr => ∃ (j : Nat) (q : Value), q = vo ∧ j ≤ 8 ∧ vj = .int .i64 (j : Int) ∧ New wx wr 63 vo ((behAdd f v j).map W32)) (fun _ vj _ => 8 - (intOf vj).toNat)
      case atStart => exact ⟨0, _, rfl, by omega, rfl, New.nil _ (Frm.refl _ _)⟩
      case round =>
        obtain ⟨j, q, rfl, hj, rfl, hn⟩ := hrel
        by_cases hlt2 : j < 8
        · have hst : behAdd f v (j + 1) = behAdd f v j ++ [f.getD j 0#32 + v.getD j 0#32] := rfl
          have hlen := behAdd_len f v j
          have hfw : Frm Nil w wr := (HN1.out.frm.trans HF.out (fun _ _ h => h)).trans hn.frm (fun _ _ h => h)
          have d1 := fun d os => cell_regrown ((hfw.own HFO.out (by simp [Nil])).cell32 j (by rw [HFL.out]; omega)) d os
          have d2 := fun d os => cell_regrown ((hn.frm.own HO.out (by simp [Nil])).cell32 j (by rw [HVL.out]; omega)) d os
          generalize behAdd f v j = s at *
          have HST := hid hst
          have HN := hid hn
          have HLEN := hid hlen
          clear hst hn hfw hlen
          go_upto_region 20 with fail
          refine wp_region_later_mtail (x := .tmp 13) 9 (by kernel_rfl) rfl rfl (by kernel_rfl) (by kernel_rfl) (by kernel_rfl) (fun _ _ _ _ h => h) ?_
          simp only [List.take_succ_cons, List.take_zero, List.drop_succ_cons, List.drop_zero, Act.put, Act.eval]
          simp only [Array.getD_eq_getD_getElem?, List.getElem?_toArray, List.getElem?_cons_succ, List.getElem?_cons_zero, Option.getD_some, List.setIfInBounds_toArray, List.set_cons_succ, List.set_cons_zero]
          repeat (go_big_quiet_step (fail))
          refine wpQuiet_nil ?_
          intro w2 hf2
          rw [← List.getD_eq_getElem?_getD, ← List.getD_eq_getElem?_getD]
          have HN2 := hid (HN.out.later hf2)
          clear hf2 HN d1 d2
          go_wp2_with (at_builtin; go_loud (refine push32 HN2.out _ (by rw [HLEN.out]; omega) rfl _ _ rfl (by rfl) (by rfl) ?_))
          intro q2 w3 hn3 _ _
          have HN3 : Hid (New wx w3 63 q2 ((s ++ [f.getD j 0#32 + v.getD j 0#32]).map W32)) := by
            rw [List.map_append]; exact hn3
          clear hn3
          go_wp2_with fail
          go_roundw
          case rel =>
            exact ⟨j + 1, _, rfl, by omega, by go_num, by rw [HST.out]; exact HN3.out⟩
          case measure => simp [intOf]; omega
        · obtain rfl : j = 8 := by omega
          have hn2 := hn.lower (HN1.out.frm.trans HF.out (fun _ _ h => h))
          have ho : behAdd f v 8 = out := HOUT.out
          rw [ho] at hn2
          have HN := hid hn2
          clear hn hn2 ho
          go_wp2_with fail
          go_ret
          exact ⟨_, rfl, HN.out⟩
theorem behind_any (f : List (BitVec 32)) (l : List (BitVec 8)) (fv sv : Value) (w : World) (hfo : Own w 63 fv (f.map W32)) (hfl : f.length = 8) (hs : Seg w sv (l.map W8)) (hl : l.length = 64) :
    Calls Try.prog 29 #[fv, sv] w fun e w' => Fresh32 (behL f l) w e w' := behind_core f _ _ l fv sv w hfo hfl hs hl rfl rfl
end Go.Proofs.Ytljddimmhjiehaa
