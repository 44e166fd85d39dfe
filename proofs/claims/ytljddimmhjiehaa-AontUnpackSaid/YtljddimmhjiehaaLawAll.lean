/- The law AontAll: with one byte of the hidden part changed the key that comes out is turned by both digests. -/
import Derived.Test.YtljddimmhjiehaaAllLib
namespace Go.Proofs.Ytljddimmhjiehaa
open Go.RowKit

@[go_sem] theorem bw16_shr_i (t : TypeId) (x : BitVec 16) (k : IntKind) (n : Int) (h : 0 ≤ n) : binOp .shr t (W16 x) (.int k n) = pure (W16 (x >>> n.toNat)) := by
  show binOp .shr t (.int .u16 _) (.int k n) = _
  rw [binOp_shr, Op.shift, if_neg (by omega)]
  show (pure (Value.int .u16 ((x.toNat : Int).fdiv (2 ^ (min n.toNat 16)))) : Sem Value) = _
  rw [shr_core]; rfl
theorem wakes_any (w : World) : Calls Try.prog 6 #[] w fun e w' => e = .returned (.bool true) ∧ w = w' := by
  have c1 := class_in 30 w (by omega)
  have c2 := class_in 31 w (by omega)
  have c3 := size_in 32 3 w (by unfold IsCls; omega) (by omega) (by omega)
  rw [show classN 30 = 32 by decide] at c1
  rw [show classN 31 = 64 by decide] at c2
  rw [show sizeN 32 3 = 27 by decide] at c3
  have C1 := hid c1
  have C2 := hid c2
  have C3 := hid c3
  clear c1 c2 c3
  go_enter Try.func6, Try.ntmps6
  go_wp2_with fail
  refine (C1.out).mono ?_
  rintro e w' ⟨rfl, rfl⟩
  go_wp2_with fail
  refine (C2.out).mono ?_
  rintro e w' ⟨rfl, rfl⟩
  go_wp2_with fail
  refine (C3.out).mono ?_
  rintro e w' ⟨rfl, rfl⟩
  go_wp2_with fail
  go_ret
  exact ⟨rfl, rfl⟩
def kf (k : BitVec 8) : Nat → BitVec 8 := upd (upd (fun _ => 0#8) 0 k) 1 1#8
theorem key_lit (k : BitVec 8) : #[W8 k, .int .u8 1, Value.int .u8 0, .int .u8 0, .int .u8 0, .int .u8 0, .int .u8 0, .int .u8 0, .int .u8 0, .int .u8 0, .int .u8 0, .int .u8 0, .int .u8 0, .int .u8 0, .int .u8 0, .int .u8 0, .int .u8 0, .int .u8 0, .int .u8 0, .int .u8 0, .int .u8 0, .int .u8 0, .int .u8 0, .int .u8 0, .int .u8 0, .int .u8 0, .int .u8 0, .int .u8 0, .int .u8 0, .int .u8 0, .int .u8 0, .int .u8 0] = rowOf 32 (w8 (kf k)) := by
  unfold kf
  rw [← upd_w8, ← upd_w8, ← rowOf_set, ← rowOf_set, ← zero8x32]
  rfl
theorem pack_c (n : Int) (k : Nat) (l : List (BitVec 8)) (sv : Value) (key : Nat → BitVec 8) (c sz : Nat) (bs : List (List (BitVec 8))) (w : World) (hn : n = k) (hs : Seg w sv (l.map W8)) (hlen : l.length ≤ 1000) (hk : 1 ≤ k) (hk2 : k ≤ 255)
    (hc : classN l.length = c) (hsz : sizeN c k = sz) (hbs : partsOf (fullL key (hidL key l c) c k) sz k = bs) :
    Calls Try.prog 7 #[.int .i64 n, sv, .agg (rowOf 32 (w8 key))] w fun e w' => ∃ v gs, e = .returned (.tuple #[v, .int .i64 0]) ∧ Frm Nil w w' ∧ PartsAt w.heap.size w' v sz bs gs := by
  subst hn hc hsz hbs
  exact pack_any k l sv key w hs hlen hk hk2
set_option maxHeartbeats 1000000 in
set_option maxRecDepth 100000 in
theorem lawAll_long (k : BitVec 8) (l : List (BitVec 8)) (sv : Value) (pa : BitVec 16) (w : World) (hs : Seg w sv (l.map W8)) (hl : 1000 < l.length) (hl2 : l.length ≤ 9223372036854775807) :
    Calls Try.prog 3 #[W8 k, sv, W16 pa] w fun e w' => e = .returned (.bool true) ∧ Frm Nil w w' := by
  obtain ⟨ao, cp, rfl, _⟩ := hs
  rw [List.length_map]
  have ht : decide ((l.length : Int) > 1000) = true := by simp; omega
  go_enter Try.func3, Try.ntmps3
  go_wp2_with (go_at_call 6; refine (wakes_any _).mono ?_; rintro e w' ⟨rfl, rfl⟩)
  go_ret
  exact ⟨rfl, Frm.refl _ _⟩
theorem Seg.open8 {w : World} {sv : Value} {l : List (BitVec 8)} (h : Seg w sv (l.map W8)) : ∃ ao c, sv = .slice ao l.length c := by
  obtain ⟨ao, c, hv, _⟩ := h
  rw [List.length_map] at hv
  exact ⟨ao, c, hv⟩
theorem wpQuiet_load_g {P : Program} {ops : Array Oper} {rest : List Oper} {o : Oper} {a : Act} {C : World → Prop} {Q : Act → Prop} (hw : Region.wanted o (yielded ops a.tmps) = true) (ty : TypeId) (x : Operand) (ho : o.op = .load ty x)
    (g off n : Nat) (f : Nat → Value) (hx : a.eval x = .pointer (some ⟨g, off, none⟩)) (d : TypeDesc) (hc : ∀ w, C w → ∀ i, i < n → w.cell? ⟨g, off + i, none⟩ = some (f i))
    (hu : P.underlying ty = some d) (hd : (match d with | .struct _ | .array _ _ => true | _ => false) = true) (hi : (P.info? ty).map (·.size) = some n)
    (h : wpQuiet P ops C Q rest (a.put o.dst (.agg (rowOf n f)))) : wpQuiet P ops C Q (o :: rest) a := by
  refine BigFrame.wpQuiet_want hw fun K hK => ⟨.agg (rowOf n f), fun w hw => ?_, hK _ h⟩
  unfold Oper.quietAt execOp
  simp only [ho, hx, Instr.loadAt, Instr.sureAddr, Sem.run_bind, Sem.run_pure, Result.andThen_ok, run_loadVar_fn w g off n ty f d (hc w hw) hu hd hi]
  exact ⟨rfl, rfl⟩
theorem guard_key : Try.prog.eqGuardType Try.prog.depth 26 = false := by kernel_rfl
theorem eqGuard_key (w : World) (x y : Operand) (a b : Array Value) : (eqGuard .eql 26 x y (.agg a) (.agg b)).run Try.prog w = .ok () w := by
  have hg := guard_key
  unfold eqGuard
  simp [Sem.run_bind, hg]
theorem wpQuiet_eql_key {ops : Array Oper} {rest : List Oper} {o : Oper} {a : Act} {C : World → Prop} {Q : Act → Prop} (hw : Region.wanted o (yielded ops a.tmps) = true) (x y : Operand) (ho : o.op = .binOp .eql 26 x y 26)
    (f g : Nat → BitVec 8) (hx : a.eval x = .agg (rowOf 32 (w8 f))) (hy : a.eval y = .agg (rowOf 32 (w8 g)))
    (h : wpQuiet Try.prog ops C Q rest (a.put o.dst (.bool (allEq f g (List.range 32))))) : wpQuiet Try.prog ops C Q (o :: rest) a := by
  refine BigFrame.wpQuiet_want hw fun K hK => ⟨.bool (allEq f g (List.range 32)), fun w _ => ?_, hK _ h⟩
  unfold Oper.quietAt execOp
  simp only [ho, hx, hy, Sem.run_bind, eqGuard_key, Result.andThen_ok, run_eql_key, Sem.run_pure]
  exact ⟨rfl, rfl⟩
theorem later_cells {w : World} {b n : Nat} {T : TypeId} {f : Nat → Value} (h : Row w b T n f) : ∀ w', (∃ p : Regrown, w' = Sort.grow (redrawn w p.d) p.os) → ∀ i, i < n → w'.cell? ⟨b, 0 + i, none⟩ = some (f i) := fun w' hw' i hi => by
  rw [Nat.zero_add]; exact ((Later.frm hw').row h (by simp [Nil])).cell i hi
theorem sum_c (l : List (BitVec 8)) (s : Nat → BitVec 8) (sv : Value) (w : World) (hs : Seg w sv (l.map W8)) (hl : l.length ≤ 70368744177664) (h : shaOf l = s) :
    Calls Try.prog 10 #[sv] w fun e w' => e = .returned (.agg (rowOf 32 (w8 s))) ∧ Frm Nil w w' := by
  have e : rowOf 32 (w8 (refSha l)) = rowOf 32 (w8 s) := rowOf_congr fun i hi => by rw [w8, w8, refSha_eq l i hi, h]
  rw [← e]
  exact refSum_any l sv w hs hl
theorem New.slice8 {w wr : World} {v : Value} {l : List (BitVec 8)} (h : New w wr 5 v (l.map W8)) (h0 : 1 ≤ l.length) : ∃ g c, v = .slice (some ⟨g, 0, none⟩) l.length c ∧ l.length ≤ c ∧ w.heap.size ≤ g ∧ g < wr.heap.size := by
  rcases h.own.form with ⟨_, h2⟩ | ⟨g, cap, h1, h2, h3, _⟩
  · have := congrArg List.length h2; rw [List.length_map, List.length_nil] at this; omega
  · rw [List.length_map] at h1 h2
    exact ⟨g, cap, h1, h2, h.fresh g (by rw [h1]; rfl), h3⟩
theorem Own.segTake {w : World} {g n cap : Nat} {l : List (BitVec 8)} (h : Own w 5 (.slice (some ⟨g, 0, none⟩) n cap) (l.map W8)) (k c' : Nat) (hk : k ≤ l.length) : Seg w (.slice (some ⟨g, 0, none⟩) k c') ((l.take k).map W8) := by
  have := h.segPart 0 k c' (by omega) (by rw [List.length_map]; exact hk)
  rw [Nat.sub_zero, List.drop_zero, ← List.map_take] at this
  exact this
set_option maxHeartbeats 4000000 in
set_option maxRecDepth 100000 in
theorem lawAll_core (k : BitVec 8) (l : List (BitVec 8)) (sv : Value) (pa : BitVec 16) (w : World) (hs : Seg w sv (l.map W8)) (hl : l.length ≤ 1000) (n c sz N : Nat) (s : Nat → BitVec 8) (bs : List (List (BitVec 8)))
    (hn : 1 + k.toNat % 9 = n) (hc : classN l.length = c) (hsz : sizeN c n = sz) (hbs : partsOf (fullL (kf k) (hidL (kf k) l c) c n) sz n = bs) (hN : n * sz = N) (hs1 : shaOf (bs.flatten.take (c + 16)) = s) (hal : ∀ j, j < 32 → bs.flatten.getD (c + 16 + j) 0#8 = s j ^^^ kf k j) :
    Calls Try.prog 3 #[W8 k, sv, W16 pa] w fun e w' => e = .returned (.bool true) ∧ Frm Nil w w' := by
  have HS := hid hs
  obtain ⟨ao, cp, rfl⟩ := hs.open8
  have ht : decide ((l.length : Int) > 1000) = false := by simp; omega
  have hn1 : 1 ≤ n ∧ n ≤ 9 := by omega
  obtain ⟨hn1, hn2⟩ := hn1
  have hic := (classN_spec l.length hl).1
  rw [hc] at hic
  have hc2 : 32 ≤ c ∧ c ≤ 1024 := by unfold IsCls at hic; omega
  obtain ⟨hc2, hc3⟩ := hc2
  have HP := hid (fun w hs (m : Int) (hm : m = n) => pack_c m n l (.slice ao l.length cp) (kf k) c sz bs w hm hs hl hn1 (by omega) hc hsz hbs)
  have HCL := hid (fun w => class_in l.length w hl)
  rw [hc] at HCL
  have hb := sizeN_bounds c n hn1
  rw [hsz, Nat.mul_comm, hN] at hb
  obtain ⟨hb1, hb2, hb3, hb4⟩ := hb
  have hbl : bs.length = n := by rw [← hbs, partsOf_len]
  have HJ := hid (fun (bs' : List (List (BitVec 8))) v w hs (hl : bs'.length = n) (hf : Flat bs' sz) => refJoin_ok c sz bs' v w hs hic (by omega) (by omega) (by rw [hl]; exact hsz) hf)
  have HK := hid (fun (bs' : List (List (BitVec 8))) (out : Nat → BitVec 8) v w hs (hl : bs'.length = n) (hf : Flat bs' sz) ho => key_ok c sz bs' out v w hs hic (by omega) (by omega) (by rw [hl]; exact hsz) hf ho)
  have HFN := hid (fun (bs' : List (List (BitVec 8))) (hl : bs'.length = n) (hf : Flat bs' sz) => (show bs'.flatten.length = N by rw [flat_len bs' sz hf, hl, hN]))
  have HSM := hid (fun sv w hs => sum_c (bs.flatten.take (c + 16)) s sv w hs (by rw [List.length_take]; omega) hs1)
  have HBL := hid hbl
  have HN := hid hn
  have HAL := hid hal
  clear hs hn hc hsz hbs hic hbl hs1 hal
  generalize hkf : kf k = key at *
  have hlit := key_lit k
  rw [hkf] at hlit
  have HLIT := hid hlit
  clear hlit hkf
  go_enter Try.func3, Try.ntmps3
  go_upto_region 5 with (go_at_call 6; refine (wakes_any _).mono ?_; rintro e w' ⟨rfl, rfl⟩)
  go_upto_region 6 with (refine wpList_store_fn rfl 26 _ _ rfl rfl w.heap.size 0 32 32 26 (w8 fun _ => 0#8) (w8 key) rfl (congrArg Value.agg HLIT.out) (Row.new w 26 32 (w8 fun _ => 0#8)) (by kernel_rfl) (by omega) (fun _ _ => rfl) ?_)
  rw [zero8x32]
  have hk4 := (Row.new w 26 32 (w8 fun _ => 0#8)).over (w8 key)
  have hf4 : Frm Nil w ((w.alloc (.cells (rowOf 32 (w8 fun _ => 0#8)) 26)).setRow w.heap.size (rowOf 32 (splice (w8 fun _ => 0#8) 0 32 (w8 key)))) :=
    ((Frm.refl Nil w).alloc (.cells (rowOf 32 (w8 fun _ => 0#8)) 26)).setRow w.heap.size _ (fun h => by omega)
  generalize (w.alloc (.cells (rowOf 32 (w8 fun _ => 0#8)) 26)).setRow w.heap.size (rowOf 32 (splice (w8 fun _ => 0#8) 0 32 (w8 key))) = w1 at hk4 hf4 ⊢
  have HK1 := hid hk4
  have HF1 := hid hf4
  have hz1 := hk4.lt
  clear hk4 hf4
  have HC1 : Hid (∀ i, i < 32 → w1.cell? ⟨w.heap.size, 0 + i, none⟩ = some (w8 key i)) := fun i hi => by rw [Nat.zero_add]; exact HK1.out.cell i hi
  go_wp2_with (refine wpList_load_fn rfl 26 _ rfl w.heap.size 0 32 (w8 key) rfl _ HC1.out Try.underlying26 rfl (by kernel_rfl) ?_)
  refine (HP.out w1 (HS.out.frm HF1.out (by simp [Nil])) _ (by have := HN.out; omega)).mono ?_
  rintro e w2 ⟨v, gs, rfl, hf2, hp2⟩
  have HGB : Hid (∀ (q : Nat) (p : Nat × Nat), gs[q]? = some p → p.1 < w2.heap.size) := fun q p hq => by
    have hqb : q < bs.length := by rw [← hp2.len]; exact (List.getElem?_eq_some_iff.1 hq).1
    exact (hp2.part q p _ hq (List.getElem?_eq_getElem hqb)).2.1.lt rfl
  have HP2 := hid hp2
  have HK2 := hid (hf2.row HK1.out (by simp [Nil]))
  have HF2 := hid (HF1.out.trans hf2 (fun _ _ h => h))
  have hz2 : w1.heap.size ≤ w2.heap.size := hf2.size
  clear HK1 HF1 HC1 hf2 hp2
  go_wp2_with fail
  refine (HCL.out w2).mono ?_
  rintro e w' ⟨rfl, rfl⟩
  go_wp2_with fail
  refine (HJ.out bs v w2 (HP2.out.texts (by rw [HBL.out]; omega)) HBL.out HP2.out.flat).mono ?_
  rintro e w3 ⟨v3, rfl, hn3⟩
  have hall := HFN.out bs HBL.out HP2.out.flat
  obtain ⟨g3, c3, rfl, hc3', hg3, _⟩ := hn3.slice8 (by omega)
  have HS3 := hid (hn3.own.segTake (c + 16) c3 (by omega))
  rw [hall] at hc3' ⊢
  have HK3 := hid (hn3.frm.row HK2.out (by simp [Nil]))
  have HP3 := hid (HP2.out.frm hn3.frm)
  have HF3 := hid (HF2.out.trans hn3.frm (fun _ _ h => h))
  have hz3 : w2.heap.size ≤ w3.heap.size := hn3.frm.size
  clear hn3 HK2 HP2 HF2 hall
  go_wp2_with fail
  refine (HSM.out _ w3 HS3.out).mono ?_
  rintro e w4 ⟨rfl, hf4⟩
  have HK4 := hid (hf4.row HK3.out (by simp [Nil]))
  have HP4 := hid (HP3.out.frm hf4)
  have HF4 := hid (HF3.out.trans hf4 (fun _ _ h => h))
  have hz4 : w3.heap.size ≤ w4.heap.size := hf4.size
  clear hf4 HK3 HP3 HF3 HS3
  go_upto_region 13 with (refine wpList_store_fn rfl 26 _ _ rfl rfl w4.heap.size 0 32 32 26 (w8 fun _ => 0#8) (w8 s) rfl rfl (Row.new w4 26 32 (w8 fun _ => 0#8)) (by kernel_rfl) (by omega) (fun _ _ => rfl) ?_)
  rw [zero8x32]
  have hq5 := (Row.new w4 26 32 (w8 fun _ => 0#8)).over (w8 s)
  have hf5 : Frm Nil w4 ((w4.alloc (.cells (rowOf 32 (w8 fun _ => 0#8)) 26)).setRow w4.heap.size (rowOf 32 (splice (w8 fun _ => 0#8) 0 32 (w8 s)))) :=
    ((Frm.refl Nil w4).alloc (.cells (rowOf 32 (w8 fun _ => 0#8)) 26)).setRow w4.heap.size _ (fun h => by omega)
  generalize (w4.alloc (.cells (rowOf 32 (w8 fun _ => 0#8)) 26)).setRow w4.heap.size (rowOf 32 (splice (w8 fun _ => 0#8) 0 32 (w8 s))) = w5 at hq5 hf5 ⊢
  generalize hW : w4.heap.size = W at *
  have HW5 := hid hq5
  have HK5 := hid (hf5.row HK4.out (by simp [Nil]))
  have HP5 := hid (HP4.out.frm hf5)
  have HF5 := hid (HF4.out.trans hf5 (fun _ _ h => h))
  have hz5 : W ≤ w5.heap.size := by have := hf5.size; omega
  clear hq5 hf5 HK4 HP4 HF4 hW
  go_upto_region 14 with fail
  obtain ⟨I, hI⟩ : ∃ I : Nat, pa.toNat % (c + 16) = I := ⟨_, rfl⟩
  have hI1 : I < c + 16 := by rw [← hI]; exact Nat.mod_lt _ (by omega)
  have hI2 : (pa.toNat : Int) % ((c : Int) + 16) = (I : Int) := by rw [← hI]; norm_cast
  rw [hI2]
  clear hI hI2
  have hz0 : 0 < sz := by omega
  obtain ⟨q, hq⟩ : ∃ q : Nat, I / sz = q := ⟨_, rfl⟩
  obtain ⟨r, hr⟩ : ∃ r : Nat, I % sz = r := ⟨_, rfl⟩
  have hr1 : r < sz := by rw [← hr]; exact Nat.mod_lt _ hz0
  have hqr : q * sz + r = I := by rw [← hq, ← hr, Nat.mul_comm]; exact Nat.div_add_mod I sz
  have hq1 : q < n := by
    apply Nat.lt_of_mul_lt_mul_right (a := sz)
    rw [hN]; omega
  have hbl := HBL.out
  obtain ⟨p, hp⟩ : ∃ p, gs[q]? = some p := ⟨gs[q]'(by rw [HP5.out.len]; omega), List.getElem?_eq_getElem _⟩
  obtain ⟨p0, hp0⟩ : ∃ p, gs[0]? = some p := ⟨gs[0]'(by rw [HP5.out.len]; omega), List.getElem?_eq_getElem _⟩
  obtain ⟨gv, cv, rfl, hcv, _, hcl⟩ := HP5.out.form (by omega)
  rw [hbl] at HP5 hcv ⊢
  have f0 := fun d os => cell_regrown (hcl 0 p0 hp0) d os
  have f1 := fun d os => cell_regrown (hcl q p hp) d os
  have hbq : bs[q]? = some (bs.getD q []) := by rw [List.getD_eq_getElem?_getD, List.getElem?_eq_getElem (by omega)]; rfl
  have hpart := HP5.out.part q p _ hp hbq
  have hcr := hpart.2.1.cell r (by rw [List.length_map]; omega)
  obtain ⟨b, hb⟩ : ∃ b, (bs.getD q []).getD r 0#8 = b := ⟨_, rfl⟩
  have hcr2 : w5.cell? ⟨p.1, r, none⟩ = some (W8 b) := by
    rw [hcr, List.getElem_map, ← hb, List.getD_eq_getElem?_getD (l := bs.getD q []), List.getElem?_eq_getElem (by omega)]; rfl
  have f2 := fun d os => cell_regrown hcr2 d os
  have hg := hpart.2.2.1
  have e1 : (I : Int) / (sz : Int) = (q : Int) := by rw [← hq]; norm_cast
  have e2 : (I : Int) % (sz : Int) = (r : Int) := by rw [← hr]; norm_cast
  have HHP := hid hp
  have HQR := hid hqr
  have HPP := hid hpart
  obtain ⟨gq, cq⟩ := p
  simp only at f1 f2 hcr hg hpart HPP HHP
  clear hcr hcr2 hpart hb hbq hp hp0 hcl hq hr hqr hN
  refine wp_region_later_tail 23 (by kernel_rfl) (by kernel_rfl) ?_
  simp only [List.take_succ_cons, List.take_zero, List.drop_succ_cons, List.drop_zero]
  repeat (go_big_quiet_step (fail))
  refine wpQuiet_nil ?_
  intro w6 hf6
  have HW6 := hid (hf6.row HW5.out (by simp [Nil]))
  have HK6 := hid (hf6.row HK5.out (by simp [Nil]))
  have HP6 := hid (HP5.out.frm hf6)
  have HF6 := hid (HF5.out.trans hf6 (fun _ _ h => h))
  have hz6 : w5.heap.size ≤ w6.heap.size := hf6.size
  have hbq : bs[q]? = some (bs.getD q []) := by rw [List.getD_eq_getElem?_getD, List.getElem?_eq_getElem (by omega)]; rfl
  have hp6 := HP6.out.part q _ _ HHP.out hbq
  obtain ⟨u6, c6⟩ : ∃ u, w6.cell? ⟨gq, r, none⟩ = some u := ⟨_, hp6.2.1.cell r (by rw [List.length_map]; omega)⟩
  have c6f : w6.frozen? ⟨gq, r, none⟩ = false := by
    rcases hp6.2.1.form with ⟨h, _⟩ | ⟨g', _, h, _, _, _, hfz⟩
    · cases h
    · simp only [Value.slice.injEq, Option.some.injEq, Addr.mk.injEq, and_true] at h
      rw [h.1]; exact hfz r
  clear hf6 HW5 HK5 HP5 HF5 f0 f1 f2 hp6 hbq e1 e2
  go_wp2_with fail
  generalize b ^^^ BitVec.setWidth 8 (1#16 + pa >>> 12) = x
  have hgq : gq < w2.heap.size := HGB.out q _ HHP.out
  have HP7 := hid (HP6.out.put q r _ HHP.out x)
  have HF7 := hid (HF6.out.set ⟨gq, r, none⟩ (W8 x) (fun h => by simp at h; omega))
  have HK7 := hid (HK6.out.other ⟨gq, r, none⟩ (W8 x) (by simp; omega))
  have HW7 := hid (HW6.out.other ⟨gq, r, none⟩ (W8 x) (by simp; omega))
  have hz7 : (w6.setCell ⟨gq, r, none⟩ (W8 x)).heap.size = w6.heap.size := by simp
  have hfs := flatten_set sz bs q r x HP6.out.flat hr1 (by omega)
  rw [HQR.out] at hfs
  have hbl2 : (bs.set q ((bs.getD q []).set r x)).length = n := by rw [List.length_set]; exact hbl
  simp only at HP7
  generalize bs.set q ((bs.getD q []).set r x) = bs2 at *
  generalize w6.setCell ⟨gq, r, none⟩ (W8 x) = w7 at *
  obtain ⟨s2, hs2⟩ : ∃ s2, shaOf (bs2.flatten.take (c + 16)) = s2 := ⟨_, rfl⟩
  obtain ⟨out, hout⟩ : ∃ out, keyF c bs2.flatten = out := ⟨_, rfl⟩
  have houtj : ∀ j, j < 32 → out j = key j ^^^ s j ^^^ s2 j := fun j hj => by
    rw [← hout, keyF, xorB, hs2, hfs, List.getD_eq_getElem?_getD, List.getElem?_set_ne (by omega), ← List.getD_eq_getElem?_getD, HAL.out j hj, BitVec.xor_comm (s2 j), BitVec.xor_comm (s j)]
  have HSM2 := hid (fun sv w hs => sum_c (bs2.flatten.take (c + 16)) s2 sv w hs (by rw [List.length_take]; omega) hs2)
  have HK2' := hid (fun v w hs hf => HK.out bs2 out v w hs hbl2 hf hout)
  have HOUT := hid houtj
  have HBL2 := hid hbl2
  clear c6 c6f hfs hs2 hout houtj hbl2 HP6 HF6 HK6 HW6 hbl
  refine (HJ.out bs2 _ w7 (HP7.out.texts (by rw [HBL2.out]; omega)) HBL2.out HP7.out.flat).mono ?_
  rintro e wh ⟨v8, rfl, hn8⟩
  have hall := HFN.out bs2 HBL2.out HP7.out.flat
  obtain ⟨g8, c8, rfl, hc8, hg8, _⟩ := hn8.slice8 (by omega)
  have HS8 := hid (hn8.own.segTake (c + 16) c8 (by omega))
  rw [hall] at hc8 ⊢
  have HK8 := hid (hn8.frm.row HK7.out (by simp [Nil]))
  have HW8 := hid (hn8.frm.row HW7.out (by simp [Nil]))
  have HP8 := hid (HP7.out.frm hn8.frm)
  have HF8 := hid (HF7.out.trans hn8.frm (fun _ _ h => h))
  have hz8 : w7.heap.size ≤ wh.heap.size := hn8.frm.size
  clear hn8 HK7 HW7 HP7 HF7 hall
  go_wp2_with fail
  refine (HSM2.out _ wh HS8.out).mono ?_
  rintro e w9 ⟨rfl, hf9⟩
  have HK9 := hid (hf9.row HK8.out (by simp [Nil]))
  have HW9 := hid (hf9.row HW8.out (by simp [Nil]))
  have HP9 := hid (HP8.out.frm hf9)
  have HF9 := hid (HF8.out.trans hf9 (fun _ _ h => h))
  have hz9 : wh.heap.size ≤ w9.heap.size := hf9.size
  clear hf9 HK8 HW8 HP8 HF8 HS8
  go_upto_region 17 with (refine wpList_store_fn rfl 26 _ _ rfl rfl w9.heap.size 0 32 32 26 (w8 fun _ => 0#8) (w8 s2) rfl rfl (Row.new w9 26 32 (w8 fun _ => 0#8)) (by kernel_rfl) (by omega) (fun _ _ => rfl) ?_)
  rw [zero8x32]
  have hqa := (Row.new w9 26 32 (w8 fun _ => 0#8)).over (w8 s2)
  have hfa : Frm Nil w9 ((w9.alloc (.cells (rowOf 32 (w8 fun _ => 0#8)) 26)).setRow w9.heap.size (rowOf 32 (splice (w8 fun _ => 0#8) 0 32 (w8 s2)))) :=
    ((Frm.refl Nil w9).alloc (.cells (rowOf 32 (w8 fun _ => 0#8)) 26)).setRow w9.heap.size _ (fun h => by omega)
  generalize (w9.alloc (.cells (rowOf 32 (w8 fun _ => 0#8)) 26)).setRow w9.heap.size (rowOf 32 (splice (w8 fun _ => 0#8) 0 32 (w8 s2))) = wa at hqa hfa ⊢
  generalize W2e : w9.heap.size = W2 at *
  clear W2e
  have HNA := hid hqa
  have HKA := hid (hfa.row HK9.out (by simp [Nil]))
  have HWA := hid (hfa.row HW9.out (by simp [Nil]))
  have HPA := hid (HP9.out.frm hfa)
  have HFA := hid (HF9.out.trans hfa (fun _ _ h => h))
  clear hqa hfa HK9 HW9 HP9 HF9
  go_wp2_with fail
  refine (HK2'.out _ wa (HPA.out.texts (by rw [HBL2.out]; omega)) HPA.out.flat).mono ?_
  rintro e wb ⟨rfl, hfb⟩
  have HNB := hid (hfb.row HNA.out (by simp [Nil]))
  have HKB := hid (hfb.row HKA.out (by simp [Nil]))
  have HWB := hid (hfb.row HWA.out (by simp [Nil]))
  have HFB := hid (HFA.out.trans hfb (fun _ _ h => h))
  clear hfb HNA HKA HWA HPA HFA
  go_upto_region 18 with (refine wpList_store_fn rfl 26 _ _ rfl rfl wb.heap.size 0 32 32 26 (w8 fun _ => 0#8) (w8 out) rfl rfl (Row.new wb 26 32 (w8 fun _ => 0#8)) (by kernel_rfl) (by omega) (fun _ _ => rfl) ?_)
  rw [zero8x32]
  have hqc := (Row.new wb 26 32 (w8 fun _ => 0#8)).over (w8 out)
  have hfc : Frm Nil wb ((wb.alloc (.cells (rowOf 32 (w8 fun _ => 0#8)) 26)).setRow wb.heap.size (rowOf 32 (splice (w8 fun _ => 0#8) 0 32 (w8 out)))) :=
    ((Frm.refl Nil wb).alloc (.cells (rowOf 32 (w8 fun _ => 0#8)) 26)).setRow wb.heap.size _ (fun h => by omega)
  generalize (wb.alloc (.cells (rowOf 32 (w8 fun _ => 0#8)) 26)).setRow wb.heap.size (rowOf 32 (splice (w8 fun _ => 0#8) 0 32 (w8 out))) = wc at hqc hfc ⊢
  generalize W3e : wb.heap.size = W3 at *
  clear W3e
  have HOC := hid hqc
  have HNC := hid (hfc.row HNB.out (by simp [Nil]))
  have HKC := hid (hfc.row HKB.out (by simp [Nil]))
  have HWC := hid (hfc.row HWB.out (by simp [Nil]))
  have HFC := hid (HFB.out.trans hfc (fun _ _ h => h))
  clear hqc hfc HNB HKB HWB HFB
  go_wp2_with fail
  go_loopw [103] (fun vj wr => ∃ j : Nat, j ≤ 32 ∧ vj = .int .i64 (j : Int) ∧ Row wr w.heap.size 26 32 (w8 key) ∧ Row wr W 26 32 (w8 s) ∧ Row wr W2 26 32 (w8 s2) ∧ Row wr W3 26 32 (w8 out) ∧ Frm Nil w wr) (fun vj _ => 32 - (intOf vj).toNat)
  case atStart => exact ⟨0, by omega, rfl, HKC.out, HWC.out, HNC.out, HOC.out, HFC.out⟩
  case round =>
    clear HKC HWC HNC HOC HFC
    obtain ⟨j, hj, rfl, hk, hw, hn, ho, hf⟩ := hrel
    by_cases hlt : j < 32
    · have d1 := hk.cell8 j hlt
      have d2 := hw.cell8 j hlt
      have d3 := hn.cell8 j hlt
      have d4 := ho.cell8 j hlt
      rw [HOUT.out j hlt] at d4
      generalize key j = k1 at d1 d4
      generalize s j = k2 at d2 d4
      generalize s2 j = k3 at d3 d4
      have HK := hid hk
      have HW := hid hw
      have HNN := hid hn
      have HO := hid ho
      have HF := hid hf
      clear hk hw hn ho hf
      go_upto_region 21 with fail
      go_quiet (fail)
      go_wp2_with fail
      go_roundw
      case rel => exact ⟨j + 1, by omega, by go_num, HK.out, HW.out, HNN.out, HO.out, HF.out.drewN _⟩
      case measure => simp [intOf]; omega
    · have hfin : allEq out key (List.range 32) = allEq s s2 (List.range 32) := by
        rw [Bool.eq_iff_iff, allEq_iff, allEq_iff]
        refine ⟨fun h i hi => ?_, fun h i hi => ?_⟩
        · have h1 := h i hi
          rw [HOUT.out i hi, BitVec.xor_assoc] at h1
          have h2 : s i ^^^ s2 i = 0#8 := by
            have h3 := congrArg (key i ^^^ ·) h1
            simpa [← BitVec.xor_assoc] using h3
          exact BitVec.xor_eq_zero_iff.1 h2
        · rw [HOUT.out i hi, h i hi, BitVec.xor_assoc, BitVec.xor_self, BitVec.xor_zero]
      have HFIN := hid hfin
      have HK := hid (later_cells hk)
      have HW := hid (later_cells hw)
      have HNN := hid (later_cells hn)
      have HO := hid (later_cells ho)
      have HF := hid hf
      clear hk hw hn ho hf hfin
      go_upto_region 24 with fail
      refine wp_region_later (by kernel_rfl) (by kernel_rfl) ?_
      repeat (go_big_quiet_step (fail))
      refine wpQuiet_load_g rfl 26 _ rfl W3 0 32 (w8 out) rfl _ HO.out Try.underlying26 rfl (by kernel_rfl) ?_
      simp only [Act.put, List.setIfInBounds_toArray, List.set_cons_succ, List.set_cons_zero]
      refine wpQuiet_load_g rfl 26 _ rfl w.heap.size 0 32 (w8 key) rfl _ HK.out Try.underlying26 rfl (by kernel_rfl) ?_
      simp only [Act.put, List.setIfInBounds_toArray, List.set_cons_succ, List.set_cons_zero]
      refine wpQuiet_eql_key rfl _ _ rfl out key rfl rfl ?_
      simp only [Act.put, List.setIfInBounds_toArray, List.set_cons_succ, List.set_cons_zero]
      refine wpQuiet_load_g rfl 26 _ rfl W 0 32 (w8 s) rfl _ HW.out Try.underlying26 rfl (by kernel_rfl) ?_
      simp only [Act.put, List.setIfInBounds_toArray, List.set_cons_succ, List.set_cons_zero]
      refine wpQuiet_load_g rfl 26 _ rfl W2 0 32 (w8 s2) rfl _ HNN.out Try.underlying26 rfl (by kernel_rfl) ?_
      simp only [Act.put, List.setIfInBounds_toArray, List.set_cons_succ, List.set_cons_zero]
      refine wpQuiet_eql_key rfl _ _ rfl s s2 rfl rfl ?_
      simp only [Act.put, List.setIfInBounds_toArray, List.set_cons_succ, List.set_cons_zero]
      rw [HFIN.out]
      repeat (go_big_quiet_step (fail))
      refine wpQuiet_nil ?_
      intro wd hfd
      have HFD := hid (HF.out.trans hfd (fun _ _ h => h))
      clear hfd HF
      go_wp2_with fail
      go_ret
      exact ⟨by simp, HFD.out⟩
theorem lawAll_any (k : BitVec 8) (l : List (BitVec 8)) (sv : Value) (pa : BitVec 16) (w : World) (hs : Seg w sv (l.map W8)) (hl2 : l.length ≤ 9223372036854775807) :
    Calls Try.prog 3 #[W8 k, sv, W16 pa] w fun e w' => e = .returned (.bool true) ∧ Frm Nil w w' := by
  rcases Nat.lt_or_ge 1000 l.length with h | h
  · exact lawAll_long k l sv pa w hs h hl2
  · have hc := classN_spec l.length h
    have hic := hc.1
    have hn1 : 1 ≤ 1 + k.toNat % 9 := by omega
    have hb := sizeN_bounds (classN l.length) (1 + k.toNat % 9) hn1
    have hhl : (hidL (kf k) l (classN l.length)).length = classN l.length + 16 := by
      rw [hidL, hideL_len, inL, List.length_map, List.length_range]
    have hfull : (fullL (kf k) (hidL (kf k) l (classN l.length)) (classN l.length) (1 + k.toNat % 9)).length = sizeN (classN l.length) (1 + k.toNat % 9) * (1 + k.toNat % 9) := by
      simp only [fullL, List.length_append, List.length_map, List.length_range, List.length_replicate, hhl]
      omega
    have hfl : (partsOf (fullL (kf k) (hidL (kf k) l (classN l.length)) (classN l.length) (1 + k.toNat % 9)) (sizeN (classN l.length) (1 + k.toNat % 9)) (1 + k.toNat % 9)).flatten = fullL (kf k) (hidL (kf k) l (classN l.length)) (classN l.length) (1 + k.toNat % 9) := by
      rw [partsOf_flat _ _ _ (by rw [hfull, Nat.mul_comm]; exact Nat.le_refl _), Nat.mul_comm, ← hfull, List.take_length]
    have htk : (fullL (kf k) (hidL (kf k) l (classN l.length)) (classN l.length) (1 + k.toNat % 9)).take (classN l.length + 16) = hidL (kf k) l (classN l.length) := by
      rw [fullL, List.append_assoc, ← hhl, List.take_left]
    refine lawAll_core k l sv pa w hs h _ _ _ _ (shaOf (hidL (kf k) l (classN l.length))) _ rfl rfl rfl rfl rfl (by rw [hfl, htk]) fun j hj => ?_
    rw [hfl, fullL, List.append_assoc, List.getD_eq_getElem?_getD, List.getElem?_append_right (by omega), hhl, List.getElem?_append_left (by simp; omega), List.getElem?_map, List.getElem?_range (by omega), show classN l.length + 16 + j - (classN l.length + 16) = j by omega]
    rfl
end Go.Proofs.Ytljddimmhjiehaa
