/- The reference of layer 2: a block's words. -/
import Derived.Test.YtljddimmhjiehaaNew
namespace Go.Proofs.Ytljddimmhjiehaa
open Go.RowKit

def sprNext (l : List (BitVec 8)) (s : List (BitVec 32)) (n : Nat) : BitVec 32 :=
  if n < 16 then (numTo l (4 * n) 4).setWidth 32
  else s.getD (n - 16) 0#32 + two32' (s.getD (n - 15) 0#32) 7 18 3 + s.getD (n - 7) 0#32 + two32' (s.getD (n - 2) 0#32) 17 19 10
def sprTo (l : List (BitVec 8)) : Nat → List (BitVec 32)
  | 0 => []
  | n + 1 => sprTo l n ++ [sprNext l (sprTo l n) n]
theorem sprTo_len (l : List (BitVec 8)) : ∀ n, (sprTo l n).length = n
  | 0 => rfl
  | n + 1 => by rw [sprTo, List.length_append, sprTo_len l n]; rfl
def Fresh32 (l : List (BitVec 32)) (w : World) (e : Ending) (w' : World) : Prop := ∃ v, e = .returned v ∧ New w w' 63 v (l.map W32)
@[go_sem] theorem field_got0 (w : World) (x : BitVec 64) (v1 v2 v3 : Value) : (Instr.field 101 (.agg #[W64 x, v1, v2, v3]) 0).run Try.prog w = .ok (W64 x) w := by kernel_rfl
theorem takeNum_at (l : List (BitVec 8)) (sv : Value) (p n : Nat) (pi : Int) (hp : pi = (p : Int)) (x : BitVec 64) (hx : numTo l p n = x) (w : World) (hs : Seg w sv (l.map W8)) (hn : n ≤ 8) (h : p + n ≤ l.length) (hl : l.length ≤ 4611686018427387904) (hn1 : 1 ≤ n) :
    Calls Try.prog 61 #[sv, .int .i64 pi, .int .i64 (n : Int)] w fun e w' => e = .returned (.agg #[W64 x, .slice none 0 0, .int .i64 (n : Int), .int .i64 0]) ∧ Frm Nil w w' := by
  subst hp; subst hx
  exact takeNum_any l sv p n w hs hn h hl hn1
theorem two_c (x : BitVec 32) (a b c : Int) (w : World) (ha : 0 ≤ a ∧ a ≤ 31) (hb : 0 ≤ b ∧ b ≤ 31) (hc : 0 ≤ c ∧ c ≤ 31) :
    Calls Try.prog 62 #[W32 x, .agg #[.int .i64 a, .int .i64 b, .int .i64 c]] w fun e w' => e = .returned (W32 (two32' x a.toNat b.toNat c.toNat)) ∧ Frm Nil w w' := by
  have h := two_any' x a.toNat b.toNat c.toNat w (by omega) (by omega) (by omega)
  rw [Int.toNat_of_nonneg ha.1, Int.toNat_of_nonneg hb.1, Int.toNat_of_nonneg hc.1] at h
  exact h
set_option maxHeartbeats 2000000 in
set_option maxRecDepth 100000 in
theorem spread_any (l : List (BitVec 8)) (sv : Value) (w : World) (hs : Seg w sv (l.map W8)) (hl : l.length = 64) :
    Calls Try.prog 46 #[sv] w fun e w' => Fresh32 (sprTo l 64) w e w' := by
  obtain ⟨a, c, rfl, _⟩ := hs.at8 0 (by omega)
  rw [hl] at hs ⊢
  have HS := hid hs
  have HLL := hid hl
  clear hs hl
  go_enter Try.func46, Try.ntmps46
  go_wp2_with fail
  go_loopw [3] (fun vo wr => ∃ (k : Nat) (q : Value), q = vo ∧ k ≤ 16 ∧ New w wr 63 vo ((sprTo l k).map W32)) (fun vo _ => 16 - (match vo with | .slice _ n _ => n | _ => 0))
  case atStart => exact ⟨0, _, rfl, by omega, New.nil _ (Frm.refl _ _)⟩
  case round =>
    obtain ⟨k, q, rfl, hk, hn⟩ := hrel
    have hsl := sprTo_len l k
    obtain ⟨ao, cq, hq⟩ := hn.form
    rw [List.length_map, hsl] at hq
    subst hq
    have HN := hid hn
    clear hn
    by_cases hlt : k < 16
    · have hst : sprTo l (k + 1) = sprTo l k ++ [(numTo l (4 * k) 4).setWidth 32] := by rw [sprTo, sprNext, if_pos hlt]
      have hnum : numTo l (4 * k) 4 = numTo l (4 * k) 4 := rfl
      generalize sprTo l k = s at *
      generalize hx : numTo l (4 * k) 4 = x at *
      have HX := hid hx
      clear hx hnum
      have HST := hid hst
      have HSW := hid (HS.out.frm HN.out.frm (by simp [Nil]))
      clear hst
      go_wp2_with fail
      refine (takeNum_at l _ (4 * k) 4 _ (by omega) x HX.out wr HSW.out (by omega) (by rw [HLL.out]; omega) (by rw [HLL.out]; omega) (by omega)).mono ?_
      rintro e w1 ⟨rfl, hf1⟩
      have HN1 := hid (HN.out.later hf1)
      clear hf1 HN
      go_wp2_with (at_builtin; refine wpList_push w w1 63 (W32 (x.setWidth 32)) rfl _ _ 62 rfl 63 (.int .u32 0) 4 Try.underlying62 info_u32 rfl _ (s.map W32) rfl rfl HN1.out rfl (by rw [List.length_map, hsl]; unfold maxLen; omega) (by rw [List.length_map, hsl]; omega) ?_)
      intro v2 w2 hn2 _ _
      have hn3 : New w w2 63 v2 ((sprTo l (k + 1)).map W32) := by rw [HST.out, List.map_append]; exact hn2
      obtain ⟨ao2, cq2, hq2⟩ := hn3.form
      rw [List.length_map, sprTo_len] at hq2
      subst hq2
      have HN3 := hid hn3
      clear hn2 hn3
      go_wp2_with fail
      go_roundw
      case rel => exact ⟨k + 1, _, rfl, by omega, HN3.out⟩
      case measure => simp; omega
    · obtain rfl : k = 16 := by omega
      go_wp2_with fail
      obtain ⟨wx, rfl⟩ : ∃ wx : World, wx = wr := ⟨_, rfl⟩
      go_loopw [3, 4] (fun vo vi wr => ∃ (k : Nat) (q : Value), q = vo ∧ 16 ≤ k ∧ k ≤ 64 ∧ vi = .int .i64 (k : Int) ∧ New w wr 63 vo ((sprTo l k).map W32)) (fun _ vi _ => 64 - (intOf vi).toNat)
      case atStart => exact ⟨16, _, rfl, by omega, by omega, rfl, HN.out⟩
      case round =>
        clear HN
        obtain ⟨k, q, rfl, hk1, hk2, rfl, hn⟩ := hrel
        have hsl := sprTo_len l k
        obtain ⟨g, cq, hq⟩ : ∃ g cq, q = .slice (some ⟨g, 0, none⟩) k cq := by
          rcases hn.own.form with ⟨_, h2⟩ | ⟨g, cap, h1, _⟩
          · have := congrArg List.length h2; rw [List.length_map, hsl] at this; simp at this; omega
          · rw [List.length_map, hsl] at h1; exact ⟨g, cap, h1⟩
        subst hq
        by_cases hlt : k < 64
        · have hst : sprTo l (k + 1) = sprTo l k ++ [(sprTo l k).getD (k - 16) 0#32 + two32' ((sprTo l k).getD (k - 15) 0#32) 7 18 3 + (sprTo l k).getD (k - 7) 0#32 + two32' ((sprTo l k).getD (k - 2) 0#32) 17 19 10] := by
            rw [sprTo, sprNext, if_neg (by omega)]
          generalize sprTo l k = s at *
          have c16 := fun d os => cell_regrown (hn.own.cell32 (k - 16) (by omega)) d os
          have c15 := fun d os => cell_regrown (hn.own.cell32 (k - 15) (by omega)) d os
          have c7 := fun d os => cell_regrown (hn.own.cell32 (k - 7) (by omega)) d os
          have c2 := fun d os => cell_regrown (hn.own.cell32 (k - 2) (by omega)) d os
          have HST := hid hst
          have HN := hid hn
          clear hst hn
          have e1 : ((k : Int) - 16).toNat = k - 16 := by omega
          have e2 : ((k : Int) - 15).toNat = k - 15 := by omega
          have e3 : ((k : Int) - 7).toNat = k - 7 := by omega
          have e4 : ((k : Int) - 2).toNat = k - 2 := by omega
          go_upto_region 7 with fail
          refine wp_region_later_mtail (x := .tmp 3) 27 (by kernel_rfl) rfl rfl (by kernel_rfl) (by kernel_rfl) (by kernel_rfl) (fun _ _ _ _ h => h) ?_
          simp only [List.take_succ_cons, List.take_zero, List.drop_succ_cons, List.drop_zero, Act.put, Act.eval]
          simp only [Array.getD_eq_getD_getElem?, List.getElem?_toArray, List.getElem?_cons_succ, List.getElem?_cons_zero, Option.getD_some, List.setIfInBounds_toArray, List.set_cons_succ, List.set_cons_zero]
          repeat (go_big_quiet_step (((go_at_call 62; refine later_of ((two_c _ _ _ _ _ (by decide) (by decide) (by decide)))))))
          refine wpQuiet_nil ?_
          intro w1 hf1
          have HN1 := hid (HN.out.later hf1)
          rw [← List.getD_eq_getElem?_getD, ← List.getD_eq_getElem?_getD, ← List.getD_eq_getElem?_getD, ← List.getD_eq_getElem?_getD]
          generalize hX : s.getD (k - 16) 0#32 + two32' (s.getD (k - 15) 0#32) 7 18 3 + s.getD (k - 7) 0#32 + two32' (s.getD (k - 2) 0#32) 17 19 10 = x at *
          clear hf1 HN c16 c15 c7 c2 hX e1 e2 e3 e4
          go_wp2_with (at_builtin; refine wpList_push w w1 63 (W32 x) rfl _ _ 62 rfl 63 (.int .u32 0) 4 Try.underlying62 info_u32 rfl _ (s.map W32) rfl rfl HN1.out rfl (by rw [List.length_map, hsl]; unfold maxLen; omega) (by rw [List.length_map, hsl]; omega) ?_)
          intro v2 w2 hn2 _ _
          have hn3 : New w w2 63 v2 ((sprTo l (k + 1)).map W32) := by rw [HST.out, List.map_append]; exact hn2
          have HN3 := hid hn3
          clear hn2 hn3
          go_wp2_with fail
          go_roundw
          case rel => exact ⟨k + 1, _, rfl, by omega, by omega, by go_num, HN3.out⟩
          case measure => simp [intOf]; omega
        · obtain rfl : k = 64 := by omega
          have HN := hid hn
          clear hn
          go_wp2_with fail
          go_ret
          exact ⟨_, rfl, HN.out⟩
end Go.Proofs.Ytljddimmhjiehaa
