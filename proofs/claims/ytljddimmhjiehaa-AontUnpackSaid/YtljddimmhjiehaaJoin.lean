/- Slices of texts: what they read; the reference's sizes and its Join; bytes.Join; joined, keyOf, Key. -/
import Derived.Test.YtljddimmhjiehaaPack
import Derived.Test.YtljddimmhjiehaaShaEq
import Derived.Test.YtljddimmhjiehaaShelf
namespace Go.Proofs.Ytljddimmhjiehaa
open Go.RowKit

/-- sv is a slice of slices that read the texts bs. -/
def Texts (w : World) (sv : Value) (bs : List (List (BitVec 8))) : Prop := ∃ (b o c : Nat) (ss : Nat → Value), sv = .slice (some ⟨b, o, none⟩) bs.length c ∧ bs.length ≤ c ∧
  ∀ j, j < bs.length → w.cell? ⟨b, o + j, none⟩ = some (ss j) ∧ Seg w (ss j) ((bs.getD j []).map W8)
theorem Texts.frm {w w' : World} {sv : Value} {bs : List (List (BitVec 8))} (h : Texts w sv bs) (hf : Frm Nil w w') : Texts w' sv bs := by
  obtain ⟨b, o, c, ss, e, hc, h⟩ := h
  exact ⟨b, o, c, ss, e, hc, fun j hj => ⟨hf.cell (h j hj).1 (by simp [Nil]), (h j hj).2.frm hf (by simp [Nil])⟩⟩
def Flat (bs : List (List (BitVec 8))) (sz : Nat) : Prop := ∀ j, j < bs.length → (bs.getD j []).length = sz
theorem flat_len (bs : List (List (BitVec 8))) (sz : Nat) (h : Flat bs sz) : bs.flatten.length = bs.length * sz := by
  have h' : ∀ b ∈ bs, b.length = sz := fun b hb => by
    obtain ⟨j, hj, rfl⟩ := List.getElem_of_mem hb
    have := h j hj
    rwa [List.getD_eq_getElem?_getD, List.getElem?_eq_getElem hj] at this
  clear h
  induction bs with
  | nil => simp
  | cons b r ih => rw [List.flatten_cons, List.length_append, ih (fun x hx => h' x (List.mem_cons_of_mem _ hx)), h' b (by simp), List.length_cons, Nat.succ_mul]; omega
theorem Flat.take {bs : List (List (BitVec 8))} {sz : Nat} (h : Flat bs sz) (k : Nat) : Flat (bs.take k) sz := fun j hj => by
  rw [List.length_take] at hj
  have := h j (by omega)
  rw [List.getD_eq_getElem?_getD, List.getElem?_take_of_lt (by omega), ← List.getD_eq_getElem?_getD]
  exact this
theorem take_flat (bs : List (List (BitVec 8))) (j : Nat) (hj : j < bs.length) : (bs.take (j + 1)).flatten = (bs.take j).flatten ++ bs.getD j [] := by
  rw [List.take_succ_eq_append_getElem hj, List.flatten_append, List.getD_eq_getElem?_getD, List.getElem?_eq_getElem hj]
  simp
/-- The least multiple. -/
theorem sizeN_least (c k m : Nat) (hk : 1 ≤ k) (h1 : c + 48 ≤ m) (h2 : m < sizeN c k * k) : m % k ≠ 0 := by
  intro h0
  have hm := Nat.div_add_mod m k
  rw [h0, Nat.add_zero, Nat.mul_comm] at hm
  have hb := sizeN_bounds c k hk
  rw [← hm] at h1 h2
  have h3 : m / k < sizeN c k := Nat.lt_of_mul_lt_mul_right h2
  have h4 : (m / k + 1) * k ≤ sizeN c k * k := Nat.mul_le_mul_right k h3
  rw [Nat.add_mul, Nat.one_mul] at h4
  omega
theorem sizeN_mul_mod (c k : Nat) : sizeN c k * k % k = 0 := Nat.mul_mod_left _ _
theorem sizeN_mul_div (c k : Nat) (hk : 1 ≤ k) : sizeN c k * k / k = sizeN c k := Nat.mul_div_cancel _ hk
set_option maxHeartbeats 1000000 in
theorem refSize_in (c k sz : Nat) (w : World) (h : IsCls c) (h1 : 1 ≤ k) (h2 : k ≤ 255) (hsz : sizeN c k = sz) :
    Calls Try.prog 25 #[.int .i64 (c : Int), .int .i64 (k : Int)] w fun e w' => e = .returned (.tuple #[.int .i64 (sz : Int), .int .i64 0]) ∧ w = w' := by
  have hb := sizeN_bounds c k h1
  have hd := sizeN_mul_div c k h1
  have hm := sizeN_mul_mod c k
  have hl := fun m => sizeN_least c k m h1
  rw [hsz] at hb hd hm hl
  generalize sz * k = N at *
  obtain ⟨hb1, hb2, hb3, hb4⟩ := hb
  have HD := hid hd
  have HM := hid hm
  have HL := hid hl
  have hc3 : c ≤ 1024 := by unfold IsCls at h; omega
  have hb5 : sz ≤ 1072 := by omega
  clear hd hm hl hsz
  have go : ∀ (c : Nat), c ≤ 1024 → c + 48 ≤ N → Hid (∀ m, c + 48 ≤ m → m < N → m % k ≠ 0) → N < c + 48 + k → (c = 32 ∨ c = 64 ∨ c = 128 ∨ c = 256 ∨ c = 512 ∨ c = 1024) →
      Calls Try.prog 25 #[.int .i64 (c : Int), .int .i64 (k : Int)] w fun e w' => e = .returned (.tuple #[.int .i64 (sz : Int), .int .i64 0]) ∧ w = w' := by
    clear hb1 hb2 HL hc3 h
    intro c hc3 hb1 HL hb2 h
    have e0 : decide ((k : Int) < 1) = false := by simp; omega
    have e1 : decide ((k : Int) > 255) = false := by simp; omega
    rcases h with rfl | rfl | rfl | rfl | rfl | rfl
    all_goals
      go_enter Try.func25, Try.ntmps25
      go_wp2_with fail
      go_loop [7] (fun v => ∃ m : Nat, _ + 48 ≤ m ∧ m ≤ N ∧ v = .int .i64 (m : Int)) (fun v => N - (intOf v).toNat)
      case atStart => exact ⟨_, Nat.le_refl _, hb1, by go_num⟩
      case round =>
        obtain ⟨m, hm1, hm2, rfl⟩ := hrel
        by_cases hlt : m < N
        · have ht : (((m : Int) % (k : Int)) != 0) = true := by
            have := HL.out m hm1 hlt
            rw [bne_iff_ne]; omega
          go_wp2_with fail
          go_round
          case rel => exact ⟨m + 1, by omega, by omega, by go_num⟩
          case measure => simp [intOf]; omega
        · obtain rfl : m = N := by omega
          have ht : (((m : Int) % (k : Int)) != 0) = false := by
            have := HM.out
            rw [bne_eq_false_iff_eq]; omega
          have HQ : Hid (wrap64 ((m : Int) / (k : Int)) = (sz : Int)) := by
            have e : (m : Int) / (k : Int) = ((m / k : Nat) : Int) := by norm_cast
            show wrap64 _ = _
            rw [e, HD.out, IntWalk.wrap64_in _ ⟨by omega, by omega⟩]
          go_wp2_with fail
          go_ret2
          exact ⟨by rw [HQ.out]; rfl, rfl⟩
  exact go c hc3 hb1 HL hb2 (by unfold IsCls at h; omega)
set_option maxHeartbeats 1000000 in
set_option maxRecDepth 100000 in
theorem refJoin_ok (c sz : Nat) (bs : List (List (BitVec 8))) (sv : Value) (w : World) (hs : Texts w sv bs) (h : IsCls c) (h1 : 1 ≤ bs.length) (h2 : bs.length ≤ 255) (hsz : sizeN c bs.length = sz) (hf : Flat bs sz) :
    Calls Try.prog 9 #[.int .i64 (c : Int), sv] w fun e w' => ∃ v, e = .returned (.tuple #[v, .int .i64 0]) ∧ New w w' 5 v (bs.flatten.map W8) := by
  have HF := hid hf
  have hb := (sizeN_bounds c bs.length h1).2.2.2
  rw [hsz] at hb
  have hc3 : c ≤ 1024 := by unfold IsCls at h; omega
  have hbt : ∀ k, k ≤ bs.length → (bs.take k).flatten.length ≤ 255 * 1072 := fun k hk => by
    rw [flat_len _ _ (hf.take k), List.length_take, Nat.min_eq_left hk]
    exact Nat.mul_le_mul (by omega) (by omega)
  have HBT := hid hbt
  have HSZ := hid (fun w => refSize_in c bs.length sz w h h1 h2 hsz)
  obtain ⟨b, o, cp, ss, rfl, hcp, hss⟩ := hs
  have HSS := hid hss
  clear hss hbt hf h hsz
  have HT := hid (take_flat bs)
  have HTA := hid (show bs.take bs.length = bs from List.take_length)
  have HFL : Hid (∀ j, j < bs.length → (bs.getD j []).length = sz) := HF.out
  clear HF
  generalize hn : bs.length = n at *
  clear hn
  go_enter Try.func9, Try.ntmps9
  go_wp2_with (go_at_call 25; refine (HSZ.out _).mono ?_; rintro e w' ⟨rfl, rfl⟩)
  go_loopw [8, 9] (fun vo vi wr => ∃ (j : Nat) (q : Value), q = vo ∧ j ≤ n ∧ vi = .int .i64 (j : Int) ∧ New w wr 5 vo ((bs.take j).flatten.map W8)) (fun _ vi _ => n - (intOf vi).toNat)
  case atStart => exact ⟨0, _, rfl, by omega, rfl, New.nil _ (Frm.refl _ _)⟩
  case round =>
    obtain ⟨j, q, rfl, hj, rfl, hn⟩ := hrel
    by_cases hlt : j < n
    · obtain ⟨hc1, hc2⟩ := HSS.out j hlt
      have d1 := hn.frm.cell hc1 (by simp [Nil])
      have d2 := hc2.frm hn.frm (by simp [Nil])
      have hst := HT.out j hlt
      have hlen := HFL.out j hlt
      have hll := HBT.out j (by omega)
      generalize bs.getD j [] = m at *
      generalize (bs.take j).flatten = l at *
      obtain ⟨ao, cq, hv, hh⟩ := d2
      rw [List.length_map, hlen] at hv
      have HSEG : Hid (Seg wr (.slice ao sz cq) (m.map W8)) := ⟨ao, cq, by rw [List.length_map, hlen], hh⟩
      generalize ss j = s at *
      subst hv
      have HN := hid hn
      have HST := hid hst
      have HLN := hid hlen
      clear hc1 hc2 hst hh hn hlen
      have b1 : (j : Int) < (n : Int) := by omega
      go_wp2_with (at_builtin; go_loud (refine app8 HN.out (by exact HSEG.out) (by rw [HLN.out]; omega) rfl _ _ rfl (by rfl) (by rfl) ?_))
      intro q2 w2 hn2 _ _
      have HN2 : Hid (New w w2 5 q2 ((bs.take (j + 1)).flatten.map W8)) := by
        rw [HST.out, List.map_append]; exact hn2
      clear hn2
      go_wp2_with fail
      go_roundw
      case rel => exact ⟨j + 1, _, rfl, by omega, by go_num, HN2.out⟩
      case measure => simp [intOf]; omega
    · obtain rfl : j = n := by omega
      rw [HTA.out] at hn
      have HN := hid hn
      clear hn
      go_wp2_with fail
      go_ret2
      exact ⟨_, rfl, HN.out⟩
end Go.Proofs.Ytljddimmhjiehaa
