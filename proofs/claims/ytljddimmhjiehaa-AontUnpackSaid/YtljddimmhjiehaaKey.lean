/- bytes.Join; aont.joined, keyOf, Key. -/
import Derived.Test.YtljddimmhjiehaaJoin
namespace Go.Proofs.Ytljddimmhjiehaa
open Go.RowKit

def toU (b : BitVec 8) : UInt8 := UInt8.ofBitVec b
theorem toU_at (b : BitVec 8) : Value.int .u8 ((toU b).toNat : Int) = W8 b := rfl
theorem holds_of_seg {w : World} {v : Value} {l : List (BitVec 8)} (h : Seg w v (l.map W8)) : Lib.HoldsBytes w v (l.map toU) := by
  obtain ⟨ao, c, rfl, h0, hc⟩ := h
  refine ⟨ao, c, by rw [List.length_map, List.length_map], fun e => ?_, fun a e i x hx => ?_⟩
  · have := (h0 e).1
    rw [List.map_eq_nil_iff] at this ⊢
    exact this
  · rw [List.getElem?_map] at hx
    obtain ⟨b, hb, rfl⟩ := Option.map_eq_some_iff.1 hx
    rw [toU_at]
    exact hc a e i (W8 b) (by rw [List.getElem?_map, hb]; rfl)
theorem lens_map (bs : List (List (BitVec 8))) : Lib.lens (bs.map (·.map toU)) = bs.flatten.length := by
  rw [Lib.lens, List.map_map, List.length_flatten]
  congr 1
  apply List.map_congr_left
  intro b _
  simp
theorem join_map (bs : List (List (BitVec 8))) : Lib.join (bs.map (·.map toU)) [] = bs.flatten.map toU := by
  induction bs with
  | nil => rfl
  | cons b r ih =>
    rw [List.map_cons, Lib.join_cons, List.flatten_cons, List.map_append]
    congr 1
    rw [Lib.joinTail, List.map_map, List.map_flatten]
    congr 1
theorem bytesOf_at (zs : List Int) (l : List (BitVec 8)) (h : Lib.bytesOf zs = l.map toU) (hz : ∀ x ∈ zs, 0 ≤ x ∧ x < 256) (i : Nat) (hi : i < l.length) : zs.getD i 0 = ((l.getD i 0#8).toNat : Int) := by
  have hl : zs.length = l.length := by have := congrArg List.length h; simpa [Lib.bytesOf] using this
  have h1 := congrArg (fun m => m[i]?) h
  simp only [Lib.bytesOf, List.getElem?_map] at h1
  rw [List.getElem?_eq_getElem (by omega), List.getElem?_eq_getElem hi] at h1
  rw [List.getD_eq_getElem?_getD, List.getD_eq_getElem?_getD, List.getElem?_eq_getElem (by omega), List.getElem?_eq_getElem hi]
  obtain ⟨ha, hb⟩ := hz zs[i] (List.getElem_mem _)
  have h2 := congrArg UInt8.toNat (Option.some.inj h1)
  rw [show (toU l[i]).toNat = l[i].toNat from rfl, UInt8.toNat_ofNat'] at h2
  show zs[i] = (l[i].toNat : Int)
  omega
/-- What the shelf tells of a fresh text. -/
theorem seg_of_fresh {B : Nat} {w : World} {v : Value} {l : List (BitVec 8)} (h : Lib.FreshBytes B w v (l.map toU)) :
    ∃ g c, v = .slice (some ⟨g, 0, none⟩) l.length c ∧ l.length ≤ c ∧ Seg w (.slice (some ⟨g, 0, none⟩) l.length c) (l.map W8) ∧ B ≤ g := by
  obtain ⟨g, cap, zs, hv, hB, hlc, _, hzl, hz, hbs, hc, _⟩ := h
  rw [List.length_map] at hv hlc hbs
  refine ⟨g, cap, hv, hlc, ⟨some ⟨g, 0, none⟩, cap, by rw [List.length_map], (fun e => by cases e), fun a ha j u hu => ?_⟩, hB⟩
  cases ha
  rw [List.getElem?_map] at hu
  obtain ⟨b, hb, rfl⟩ := Option.map_eq_some_iff.1 hu
  obtain ⟨hj, hbj⟩ := List.getElem?_eq_some_iff.1 hb
  rw [Addr.add_lit, Nat.zero_add, hc j (by omega)]
  have h1 := bytesOf_at _ l hbs (fun x hx => hz x (List.mem_of_mem_take hx)) j hj
  rw [List.getD_eq_getElem?_getD, List.getElem?_take_of_lt hj, ← List.getD_eq_getElem?_getD] at h1
  rw [h1, List.getD_eq_getElem?_getD, hb]
  rfl
theorem frm_of_below {w w' : World} (h : Below w.heap.size w w') : Frm Nil w w' := ⟨h.os, h.tape, h.output, h.size, fun k hk _ => h.block k hk⟩
/-- The texts of a slice of slices, one behind the other. -/
theorem joinB_any (bs : List (List (BitVec 8))) (sv : Value) (w : World) (hs : Texts w sv bs) (h1 : 1 ≤ bs.length) (h0 : 1 ≤ bs.flatten.length) (hb : bs.flatten.length ≤ 100000000000000) (hn : bs.length ≤ 100000000000000) :
    Calls Try.prog 49 #[sv, .slice none 0 0] w fun e w' => ∃ g c, e = .returned (.slice (some ⟨g, 0, none⟩) bs.flatten.length c) ∧ bs.flatten.length ≤ c ∧ Seg w' (.slice (some ⟨g, 0, none⟩) bs.flatten.length c) (bs.flatten.map W8) ∧ Frm Nil w w' ∧ w.heap.size ≤ g := by
  obtain ⟨b, o, c, ss, rfl, hc, hss⟩ := hs
  by_cases h2 : 2 ≤ bs.length
  · have hP : Lib.PartsAt w ⟨b, o, none⟩ ((List.range bs.length).map ss) (bs.map (·.map toU)) := by
      refine ⟨by simp, fun i v hv => ?_, fun i v l hv hl => ?_⟩
      · rw [List.getElem?_map] at hv
        obtain ⟨j, hj, rfl⟩ := Option.map_eq_some_iff.1 hv
        have hi : i < bs.length := by have := (List.getElem?_eq_some_iff.1 hj).1; simpa using this
        rw [List.getElem?_range hi] at hj
        cases hj
        have := (hss i hi).1
        rwa [Addr.add_lit]
      · rw [List.getElem?_map] at hv hl
        obtain ⟨j, hj, rfl⟩ := Option.map_eq_some_iff.1 hv
        have hi : i < bs.length := by have := (List.getElem?_eq_some_iff.1 hj).1; simpa using this
        rw [List.getElem?_range hi] at hj
        cases hj
        obtain ⟨q, hq, rfl⟩ := Option.map_eq_some_iff.1 hl
        have := holds_of_seg (hss i hi).2
        rwa [List.getD_eq_getElem?_getD, hq] at this
    refine (Try.bytes_Join_many b o bs.length c _ (bs.map (·.map toU)) (.slice none 0 0) [] w (by simp) h2 hP hc ⟨none, 0, rfl, fun _ => rfl, fun a e => by cases e⟩ (by omega) (by rw [lens_map, List.length_nil, Nat.zero_mul]; omega)).mono ?_
    rintro e w' ⟨v, rfl, hf, hb⟩
    rw [join_map] at hf
    obtain ⟨g, c', rfl, hlc, hseg, hg⟩ := seg_of_fresh hf
    exact ⟨g, c', rfl, hlc, hseg, frm_of_below hb, hg⟩
  · have hone : bs.length = 1 := by omega
    obtain ⟨q, rfl⟩ : ∃ q, bs = [q] := by
      match bs, hone with
      | [q], _ => exact ⟨q, rfl⟩
    obtain ⟨hc1, ao, cq, hv, hn0, hcc⟩ := hss 0 (by simp)
    have hq : ([q] : List (List (BitVec 8))).getD 0 [] = q := rfl
    rw [hq] at hv hn0 hcc
    have hfl : ([q] : List (List (BitVec 8))).flatten = q := by simp
    rw [hfl] at h0 hb ⊢
    cases ao with
    | none => have := (hn0 rfl).1; simp at this; subst this; simp at h0
    | some ad =>
      rw [List.length_map] at hv
      refine (Try.bytes_Join_one b o c ad cq (q.map toU) (.slice none 0 0) w (by rw [List.length_map, ← hv]; exact hc1) (fun i x hx => ?_) (by rw [List.length_map]; exact h0) (by rw [List.length_map]; omega)).mono ?_
      · rw [List.getElem?_map] at hx
        obtain ⟨y, hy, rfl⟩ := Option.map_eq_some_iff.1 hx
        rw [toU_at]
        exact hcc ad rfl i _ (by rw [List.getElem?_map, hy]; rfl)
      rintro e w' ⟨v, rfl, hf, hb⟩
      obtain ⟨g, c', rfl, hlc, hseg, hg⟩ := seg_of_fresh hf
      exact ⟨g, c', rfl, hlc, hseg, frm_of_below hb, hg⟩
set_option maxHeartbeats 1000000 in
set_option maxRecDepth 100000 in
theorem joined_ok (c sz N : Nat) (bs : List (List (BitVec 8))) (sv : Value) (w : World) (hs : Texts w sv bs) (h : IsCls c) (h1 : 1 ≤ bs.length) (h2 : bs.length ≤ 255) (hsz : sizeN c bs.length = sz) (hf : Flat bs sz) (hN : bs.length * sz = N) :
    Calls Try.prog 31 #[.int .i64 (c : Int), sv] w fun e w' => ∃ g k, e = .returned (.tuple #[.slice (some ⟨g, 0, none⟩) N k, .int .i64 0]) ∧ N ≤ k ∧ Seg w' (.slice (some ⟨g, 0, none⟩) N k) (bs.flatten.map W8) ∧ Frm Nil w w' := by
  have hb := sizeN_bounds c bs.length h1
  rw [hsz] at hb
  obtain ⟨hb1, hb2, hb3, hb4⟩ := hb
  have hc3 : c ≤ 1024 := by unfold IsCls at h; omega
  have hfl := flat_len bs sz hf
  have hmul : sz * bs.length = bs.length * sz := Nat.mul_comm _ _
  have HJ := hid (fun w hs => joinB_any bs sv w hs h1 (by omega) (by omega) (by omega))
  rw [hfl, hN] at HJ
  have HS := hid hs
  have HSZ := hid (fun w => size_in c bs.length w h h1 h2)
  rw [hsz] at HSZ
  obtain ⟨b, o, cp, ss, rfl, hcp, hss⟩ := hs
  have HSS := hid hss
  have HF : Hid (∀ j, j < bs.length → (bs.getD j []).length = sz) := hf
  clear hss hf h hsz hN hfl hmul hb1 hb2
  generalize hn : bs.length = n at *
  clear hn
  go_enter Try.func31, Try.ntmps31
  go_wp2_with (go_at_call 21; refine (HSZ.out _).mono ?_; rintro e w' ⟨rfl, rfl⟩)
  go_loop [22] (fun vi => ∃ j : Nat, j ≤ n ∧ vi = .int .i64 (j : Int)) (fun vi => n - (intOf vi).toNat)
  case atStart => exact ⟨0, by omega, rfl⟩
  case round =>
    obtain ⟨j, hj, rfl⟩ := hrel
    by_cases hlt : j < n
    · obtain ⟨d1, hc2⟩ := HSS.out j hlt
      have hlen := HF.out j hlt
      obtain ⟨ao, cq, hv, _⟩ := hc2
      rw [List.length_map, hlen] at hv
      generalize ss j = s at *
      subst hv
      clear hlen
      have b1 : (j : Int) < (n : Int) := by omega
      go_wp2_with fail
      go_round
      case rel => exact ⟨j + 1, by omega, by go_num⟩
      case measure => simp [intOf]; omega
    · obtain rfl : j = n := by omega
      go_wp2_with fail
      refine (HJ.out w HS.out).mono ?_
      rintro e w1 ⟨g, k, rfl, hk, hseg, hfr, _⟩
      have HG := hid hseg
      have HFR := hid hfr
      clear hseg hfr
      go_wp2_with fail
      go_ret2
      exact ⟨_, _, rfl, hk, HG.out, HFR.out⟩

section
variable {P : Program}
/-- A whole array is loaded in a region that draws its order. -/
theorem wpQuiet_load_fn {ops : Array Oper} {rest : List Oper} {o : Oper} {a : Act} {C : World → Prop} {Q : Act → Prop} (hgd : o.guard = none) (ty : TypeId) (x : Operand) (ho : o.op = .load ty x)
    (g off n : Nat) (f : Nat → Value) (hx : a.eval x = .pointer (some ⟨g, off, none⟩)) (d : TypeDesc) (hc : ∀ w, C w → ∀ i, i < n → w.cell? ⟨g, off + i, none⟩ = some (f i))
    (hu : P.underlying ty = some d) (hd : (match d with | .struct _ | .array _ _ => true | _ => false) = true) (hi : (P.info? ty).map (·.size) = some n)
    (h : wpQuiet P ops C Q rest (a.put o.dst (.agg (rowOf n f)))) : wpQuiet P ops C Q (o :: rest) a := by
  refine BigFrame.wpQuiet_want (by simp [Region.wanted, hgd]) fun K hK => ⟨.agg (rowOf n f), fun w hw => ?_, hK _ h⟩
  unfold Oper.quietAt execOp
  simp only [ho, hx, Instr.loadAt, Instr.sureAddr, Sem.run_bind, Sem.run_pure, Result.andThen_ok, run_loadVar_fn w g off n ty f d (hc w hw) hu hd hi]
  exact ⟨rfl, rfl⟩
theorem results_cell2_fn {fn : Func} {p q : Tmp} {ty : TypeId} (h : fn.results = #[.cell p ty, .tmp q]) (tmps : Array Value) (w : World) (g n : Nat) (f : Nat → Value) (d : TypeDesc) (v : Value)
    (hp : tmps.getD p undef = .pointer (some ⟨g, 0, none⟩)) (hq : tmps.getD q undef = v) (hc : ∀ i, i < n → w.cell? ⟨g, i, none⟩ = some (f i))
    (hu : P.underlying ty = some d) (hd : (match d with | .struct _ | .array _ _ => true | _ => false) = true) (hi : (P.info? ty).map (·.size) = some n) :
    (results fn tmps).run P w = .ok (.tuple #[.agg (rowOf n f), v]) w := by
  have hp' : tmps[p]?.getD undef = .pointer (some ⟨g, 0, none⟩) := by simpa using hp
  have hq' : tmps[q]?.getD undef = v := by simpa using hq
  have := run_loadVar_fn (P := P) w g 0 n ty f d (fun i hi => by simpa using hc i hi) hu hd hi
  simp [results, h, hp', hq', asAddr, this]
end
@[go_sem] theorem arrayAt_key (w : World) (a : Option Addr) (n c : Nat) (h : 32 ≤ n) : (Instr.arrayAt 26 (.slice a n c)).run Try.prog w = .ok (.pointer a) w := run_arrayAt _ _ _ _ _ _ _ Try.underlying26 h
set_option maxHeartbeats 1000000 in
set_option maxRecDepth 100000 in
theorem keyOf_any (c g o N k : Nat) (al : List (BitVec 8)) (s out : Nat → BitVec 8) (w : World) (hs : Seg w (.slice (some ⟨g, o, none⟩) N k) (al.map W8)) (hl : al.length = N) (hN : c + 48 ≤ N) (hk : N ≤ k) (hN2 : N ≤ 1000000) (hc0 : 1 ≤ c)
    (hs1 : shaOf (al.take (c + 16)) = s) (ho : xorB s (fun i => al.getD (c + 16 + i) 0#8) = out) :
    Calls Try.prog 32 #[.int .i64 (c : Int), .slice (some ⟨g, o, none⟩) N k] w fun e w' => e = .returned (.agg (rowOf 32 (w8 out))) ∧ Frm Nil w w' := by
  have hcell : ∀ i, i < 32 → w.cell? ⟨g, o + (c + 16) + i, none⟩ = some (w8 (fun i => al.getD (c + 16 + i) 0#8) i) := fun i hi => by
    obtain ⟨a, c', e, h⟩ := hs.at8 (c + 16 + i) (by omega)
    simp only [Value.slice.injEq, Option.some.injEq] at e
    rw [← e.1] at h
    rw [show o + (c + 16) + i = o + (c + 16 + i) by omega, w8, ← h, Addr.add_lit]
  have hpart : Seg w (.slice (some ⟨g, o, none⟩) (c + 16) k) ((al.take (c + 16)).map W8) := by
    have := hs.part rfl 0 (c + 16) k (by omega) (by rw [List.length_map]; omega)
    rw [Nat.add_zero, Nat.sub_zero, List.drop_zero, ← List.map_take] at this
    exact this
  have hm := fun w hs => masked_core (fun i => al.getD (c + 16 + i) 0#8) s out (al.take (c + 16)) (.slice (some ⟨g, o, none⟩) (c + 16) k) w hs (by rw [List.length_take]; omega) hs1 ho
  have HM := hid hm
  have HC := hid hcell
  have HP := hid hpart
  generalize (fun i => al.getD (c + 16 + i) 0#8) = f at *
  clear hs hl hs1 ho hcell hpart hm
  go_enter Try.func32, Try.ntmps32
  have HR0 := hid (Row.new w 26 32 (w8 fun _ => 0#8))
  have HF0 := hid ((Frm.refl Nil w).alloc (.cells (rowOf 32 (w8 fun _ => 0#8)) 26))
  go_upto_region 2 with fail
  rw [zero8x32]
  generalize w.alloc (.cells (rowOf 32 (w8 fun _ => 0#8)) 26) = w0 at HR0 HF0 ⊢
  have HC0 : Hid (∀ w', (∃ p : Regrown, w' = Sort.grow (redrawn w0 p.d) p.os) → ∀ i, i < 32 → w'.cell? ⟨g, o + (c + 16) + i, none⟩ = some (w8 f i)) := fun w' hw' i hi => (HF0.out.trans (Later.frm hw') (fun _ _ h => h)).cell (HC.out i hi) (by simp [Nil])
  have HP0 := hid (HP.out.frm HF0.out (by simp [Nil]))
  refine wp_region_later_tail 11 (by kernel_rfl) (by kernel_rfl) ?_
  simp only [List.take_succ_cons, List.take_zero, List.drop_succ_cons, List.drop_zero]
  repeat (go_big_quiet_step (fail))
  refine wpQuiet_load_fn rfl 26 _ rfl g (o + (c + 16)) 32 (w8 f) rfl _ HC0.out Try.underlying26 rfl (by kernel_rfl) ?_
  simp only [Act.put, List.setIfInBounds_toArray, List.set_cons_succ, List.set_cons_zero]
  repeat (go_big_quiet_step ((go_at_call 23; refine later_of (HM.out _ (HP0.out.frm (frm_later _ _ _) (by simp [Nil]))))))
  refine wpQuiet_nil ?_
  intro w1 hf1
  have HR1 := hid (hf1.row HR0.out (by simp [Nil]))
  have HF1 := hid (HF0.out.trans hf1 (fun _ _ h => h))
  clear hf1
  go_wp2_with (refine wpList_store_fn rfl 26 _ _ rfl rfl w.heap.size 0 32 32 _ _ (w8 out) rfl rfl HR1.out (by kernel_rfl) (by omega) (fun _ _ => rfl) ?_)
  exact bodyPost_cell rfl w.heap.size 32 _ _ _ rfl (HR1.out.over _) Try.underlying26 rfl (by kernel_rfl) rfl ⟨rfl, HF1.out.setRow _ _ (fun h => by omega)⟩
theorem bodyPost_cell2 {P : Program} {fn : Func} {R : Ending → World → Prop} {a : Act} {w : World} {p q : Tmp} {ty : TypeId} (h : fn.results = #[.cell p ty, .tmp q]) (g n : Nat) (f : Nat → Value) (d : TypeDesc) (T : TypeId) (v : Value)
    (hp : a.tmps.getD p undef = .pointer (some ⟨g, 0, none⟩)) (hq : a.tmps.getD q undef = v) (hR : Row w g T n f) (hu : P.underlying ty = some d) (hd : (match d with | .struct _ | .array _ _ => true | _ => false) = true)
    (hi : (P.info? ty).map (·.size) = some n) (hdef : a.defers = []) (hr : R (.returned (.tuple #[.agg (rowOf n f), v])) w) : bodyPost P fn R .ret a w :=
  bodyPost_ret (results_cell2_fn h a.tmps w g n f d v hp hq hR.cells hu hd hi) hdef hr
/-- The key that texts tell. -/
def keyF (c : Nat) (al : List (BitVec 8)) : Nat → BitVec 8 := xorB (shaOf (al.take (c + 16))) (fun i => al.getD (c + 16 + i) 0#8)
set_option maxHeartbeats 1000000 in
set_option maxRecDepth 100000 in
theorem key_ok (c sz : Nat) (bs : List (List (BitVec 8))) (out : Nat → BitVec 8) (sv : Value) (w : World) (hs : Texts w sv bs) (h : IsCls c) (h1 : 1 ≤ bs.length) (h2 : bs.length ≤ 255) (hsz : sizeN c bs.length = sz) (hf : Flat bs sz) (ho : keyF c bs.flatten = out) :
    Calls Try.prog 11 #[.int .i64 (c : Int), sv] w fun e w' => e = .returned (.tuple #[.agg (rowOf 32 (w8 out)), .int .i64 0]) ∧ Frm Nil w w' := by
  have hb := sizeN_bounds c bs.length h1
  rw [hsz] at hb
  have hc3 : c ≤ 1024 ∧ 1 ≤ c := by unfold IsCls at h; omega
  have hmul : sz * bs.length = bs.length * sz := Nat.mul_comm _ _
  have hfl := flat_len bs sz hf
  have HJ := hid (fun w hs => joined_ok c sz (bs.length * sz) bs sv w hs h h1 h2 hsz hf rfl)
  have HK := hid (fun g k w hseg hk => keyOf_any c g 0 (bs.length * sz) k bs.flatten _ out w hseg hfl (by omega) hk (by omega) (by omega) rfl ho)
  have HS := hid hs
  clear hs hf hsz ho hfl hmul hb h
  generalize bs.length * sz = N at *
  go_enter Try.func11, Try.ntmps11
  have HR0 := hid (Row.new w 26 32 (w8 fun _ => 0#8))
  have HF0 := hid ((Frm.refl Nil w).alloc (.cells (rowOf 32 (w8 fun _ => 0#8)) 26))
  go_upto_region 1 with fail
  rw [zero8x32]
  generalize w.alloc (.cells (rowOf 32 (w8 fun _ => 0#8)) 26) = w0 at HR0 HF0 ⊢
  go_wp2_with fail
  refine (HJ.out w0 (HS.out.frm HF0.out)).mono ?_
  rintro e w1 ⟨g, k, rfl, hk, hseg, hf1⟩
  have HSEG := hid hseg
  have HR1 := hid (hf1.row HR0.out (by simp [Nil]))
  have HF1 := hid (HF0.out.trans hf1 (fun _ _ h => h))
  clear hseg hf1
  go_wp2_with fail
  refine (HK.out g k w1 HSEG.out hk).mono ?_
  rintro e w2 ⟨rfl, hf2⟩
  have HR2 := hid (hf2.row HR1.out (by simp [Nil]))
  have HF2 := hid (HF1.out.trans hf2 (fun _ _ h => h))
  clear hf2
  go_wp2_with (refine wpList_store_fn rfl 26 _ _ rfl rfl w.heap.size 0 32 32 _ _ (w8 out) rfl rfl HR2.out (by kernel_rfl) (by omega) (fun _ _ => rfl) ?_)
  exact bodyPost_cell2 rfl w.heap.size 32 _ _ _ _ rfl rfl (HR2.out.over _) Try.underlying26 rfl (by kernel_rfl) rfl ⟨rfl, HF2.out.setRow _ _ (fun h => by omega)⟩
end Go.Proofs.Ytljddimmhjiehaa
