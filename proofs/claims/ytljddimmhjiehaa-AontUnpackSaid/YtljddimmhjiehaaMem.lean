/- Memory: a block that is known whole (Row), and what a call leaves as it was (Frm); over any program. -/
import Derived.Test.YtljddimmhjiehaaBase
namespace Go.Proofs.Ytljddimmhjiehaa
open Go.RowKit

def upd {α : Type} (f : Nat → α) (i : Nat) (v : α) : Nat → α := fun j => if j = i then v else f j
theorem upd_same {α : Type} (f : Nat → α) (i : Nat) (v : α) : upd f i v i = v := by simp [upd]
theorem upd_other {α : Type} (f : Nat → α) (i j : Nat) (v : α) (h : j ≠ i) : upd f i v j = f j := by simp [upd, h]

def rowOf (n : Nat) (f : Nat → Value) : Array Value := Array.ofFn (n := n) fun i => f i
theorem rowOf_size (n : Nat) (f : Nat → Value) : (rowOf n f).size = n := by simp [rowOf]
theorem rowOf_get (n : Nat) (f : Nat → Value) (i : Nat) (h : i < n) : (rowOf n f)[i]? = some (f i) := by simp [rowOf, h]
theorem rowOf_congr {n : Nat} {f g : Nat → Value} (h : ∀ i, i < n → f i = g i) : rowOf n f = rowOf n g := by
  apply Array.ext
  · simp [rowOf]
  · intro i h1 h2
    simp only [rowOf, Array.getElem_ofFn]
    exact h i (by simpa [rowOf] using h1)
theorem rowOf_set (n : Nat) (f : Nat → Value) (i : Nat) (v : Value) : (rowOf n f).setIfInBounds i v = rowOf n (upd f i v) := by
  apply Array.ext
  · simp [rowOf]
  · intro j h1 h2
    have hj : j < n := by simpa [rowOf] using h2
    simp only [rowOf, Array.getElem_ofFn, upd]
    rw [Array.getElem_setIfInBounds (by simpa using hj), Array.getElem_ofFn]
    by_cases e : i = j
    · simp [e]
    · rw [if_neg e, if_neg (Ne.symm e)]

/-- Block b is known whole: n cells of kind T, none frozen. -/
def Row (w : World) (b : Nat) (T : TypeId) (n : Nat) (f : Nat → Value) : Prop := w.heap[b]? = some (.cells (rowOf n f) T (0, 0))
section
variable {w w' : World} {b n : Nat} {T : TypeId} {f g : Nat → Value}
theorem Row.lt (h : Row w b T n f) : b < w.heap.size := (Array.getElem?_eq_some_iff.1 h).1
theorem Row.cell (h : Row w b T n f) (i : Nat) (hi : i < n) : w.cell? ⟨b, i, none⟩ = some (f i) := by
  rw [cell_of_row w b i _ T _ h, rowOf_get n f i hi]
theorem Row.cells (h : Row w b T n f) : ∀ i, i < n → w.cell? ⟨b, i, none⟩ = some (f i) := fun i hi => h.cell i hi
theorem Row.free (h : Row w b T n f) : ∀ i, w.frozen? ⟨b, i, none⟩ = false := fun i => frozen_of_row w b i _ T h
theorem Row.set (h : Row w b T n f) (i : Nat) (v : Value) : Row (w.setCell ⟨b, i, none⟩ v) b T n (upd f i v) := by
  unfold Row
  rw [heap_setCell_same w b i _ T v h, rowOf_set]
theorem Row.other (h : Row w b T n f) (a : Addr) (v : Value) (hne : b ≠ a.block) : Row (w.setCell a v) b T n f := by
  unfold Row
  rw [heap_setCell_other w a b v hne]; exact h
theorem Row.alloc (h : Row w b T n f) (o : Obj) : Row (w.alloc o) b T n f := by
  unfold Row
  rw [Below.heap_alloc w o b h.lt]; exact h
theorem Row.drew (h : Row w b T n f) : Row w.drew b T n f := h
theorem Row.same (h : Row w b T n f) (e : w'.heap[b]? = w.heap[b]?) : Row w' b T n f := by unfold Row; rw [e]; exact h
theorem Row.congr (h : Row w b T n f) (e : ∀ i, i < n → f i = g i) : Row w b T n g := by unfold Row; rw [← rowOf_congr e]; exact h
theorem Row.new (w : World) (T : TypeId) (n : Nat) (f : Nat → Value) : Row (w.alloc (.cells (rowOf n f) T)) w.heap.size T n f := heap_alloc_new w _
end

/-- From w to w' no block of w has turned but those that P names; the streams are as they were. -/
structure Frm (P : Nat → Prop) (w w' : World) : Prop where
  os : w'.os = w.os
  tape : w'.tape = w.tape
  output : w'.output = w.output
  size : w.heap.size ≤ w'.heap.size
  block : ∀ k, k < w.heap.size → ¬ P k → w'.heap[k]? = w.heap[k]?
section
variable {P Q : Nat → Prop} {w w' w'' : World}
theorem Frm.refl (P : Nat → Prop) (w : World) : Frm P w w := ⟨rfl, rfl, rfl, Nat.le_refl _, fun _ _ _ => rfl⟩
theorem Frm.trans (h : Frm P w w') (k : Frm Q w' w'') (hq : ∀ i, i < w.heap.size → Q i → P i) : Frm P w w'' :=
  ⟨k.os.trans h.os, k.tape.trans h.tape, k.output.trans h.output, Nat.le_trans h.size k.size,
   fun i hi hp => (k.block i (Nat.lt_of_lt_of_le hi h.size) (fun q => hp (hq i hi q))).trans (h.block i hi hp)⟩
theorem Frm.mono (h : Frm P w w') (hq : ∀ i, i < w.heap.size → P i → Q i) : Frm Q w w' :=
  ⟨h.os, h.tape, h.output, h.size, fun i hi hn => h.block i hi (fun p => hn (hq i hi p))⟩
theorem Frm.alloc (h : Frm P w w') (o : Obj) : Frm P w (w'.alloc o) :=
  ⟨h.os, h.tape, h.output, by have := h.size; simp; omega, fun i hi hp => by rw [Below.heap_alloc w' o i (Nat.lt_of_lt_of_le hi h.size)]; exact h.block i hi hp⟩
theorem Frm.set (h : Frm P w w') (a : Addr) (v : Value) (ha : a.block < w.heap.size → P a.block) : Frm P w (w'.setCell a v) :=
  ⟨h.os, h.tape, h.output, by have := h.size; simp; omega, fun i hi hp => by
    rw [heap_setCell_other w' a i v (fun e => hp (e ▸ ha (e ▸ hi)))]; exact h.block i hi hp⟩
theorem Frm.drew (h : Frm P w w') : Frm P w w'.drew := ⟨h.os, h.tape, h.output, h.size, h.block⟩
theorem Frm.drewN (h : Frm P w w') (n : Nat) : Frm P w (w'.drewN n) := ⟨h.os, h.tape, h.output, h.size, h.block⟩
theorem Frm.below (h : Frm P w w') {B : Nat} (hB : B ≤ w.heap.size) (hp : ∀ i, i < B → ¬ P i) : Below B w w' :=
  ⟨h.os, h.tape, h.output, h.size, fun k hk => h.block k (Nat.lt_of_lt_of_le hk hB) (hp k hk)⟩
theorem Frm.row {b n : Nat} {T : TypeId} {f : Nat → Value} (h : Frm P w w') (r : Row w b T n f) (hb : ¬ P b) : Row w' b T n f :=
  r.same (h.block b r.lt hb)
theorem Frm.cell {a : Addr} {v : Value} (h : Frm P w w') (hc : w.cell? a = some v) (hp : ¬ P a.block) : w'.cell? a = some v := by
  rw [World.cell?_of_block (h.block a.block (World.block_lt_of_cell? w a hc) hp)]; exact hc
theorem Frm.cell' {a : Addr} (h : Frm P w w') (hc : a.block < w.heap.size) (hp : ¬ P a.block) : w'.cell? a = w.cell? a :=
  World.cell?_of_block (h.block a.block hc hp)
end
def w8 (f : Nat → BitVec 8) : Nat → Value := fun i => W8 (f i)
theorem upd_w8 (f : Nat → BitVec 8) (i : Nat) (v : BitVec 8) : upd (w8 f) i (W8 v) = w8 (upd f i v) := by
  funext j; by_cases h : j = i <;> simp [upd, w8, h]
theorem Row.cell8 {w : World} {b n : Nat} {T : TypeId} {f : Nat → BitVec 8} (h : Row w b T n (w8 f)) (i : Nat) (hi : i < n) : w.cell? ⟨b, i, none⟩ = some (W8 (f i)) := h.cell i hi
def w32 (f : Nat → BitVec 32) : Nat → Value := fun i => W32 (f i)
theorem upd_w32 (f : Nat → BitVec 32) (i : Nat) (v : BitVec 32) : upd (w32 f) i (W32 v) = w32 (upd f i v) := by
  funext j; by_cases h : j = i <;> simp [upd, w32, h]
theorem Row.cell32 {w : World} {b n : Nat} {T : TypeId} {f : Nat → BitVec 32} (h : Row w b T n (w32 f)) (i : Nat) (hi : i < n) : w.cell? ⟨b, i, none⟩ = some (W32 (f i)) := h.cell i hi
def w64 (f : Nat → BitVec 64) : Nat → Value := fun i => W64 (f i)
theorem upd_w64 (f : Nat → BitVec 64) (i : Nat) (v : BitVec 64) : upd (w64 f) i (W64 v) = w64 (upd f i v) := by
  funext j; by_cases h : j = i <;> simp [upd, w64, h]
theorem Row.cell64 {w : World} {b n : Nat} {T : TypeId} {f : Nat → BitVec 64} (h : Row w b T n (w64 f)) (i : Nat) (hi : i < n) : w.cell? ⟨b, i, none⟩ = some (W64 (f i)) := h.cell i hi
def Nil : Nat → Prop := fun _ => False

section
variable {P : Program}
/-- A variable of an array's or a struct's type is read whole. -/
theorem run_loadVar_fn (w : World) (g o n : Nat) (ty : TypeId) (f : Nat → Value) (d : TypeDesc) (hc : ∀ i, i < n → w.cell? ⟨g, o + i, none⟩ = some (f i))
    (hu : P.underlying ty = some d) (hd : (match d with | .struct _ | .array _ _ => true | _ => false) = true) (hi : (P.info? ty).map (·.size) = some n) :
    (loadVar ty ⟨g, o, none⟩).run P w = .ok (.agg (rowOf n f)) w := by
  have hl : (loadCells ⟨g, o, none⟩ (rowOf n f).toList.length).run P w = .ok (rowOf n f).toList.toArray w :=
    run_loadCells_list (P := P) w ⟨g, o, none⟩ (rowOf n f).toList (fun j v hv => by
      have hj : j < n := by
        have := (List.getElem?_eq_some_iff.1 hv).1
        simpa [rowOf] using this
      rw [Addr.add_lit, hc j hj]
      have := rowOf_get n f j hj
      rw [← Array.getElem?_toList] at this
      exact this.symm.trans hv)
  cases hq : P.info? ty with
  | none => simp [hq] at hi
  | some i =>
    have hs : i.size = n := by simpa [hq] using hi
    have hagg : (isAgg ty).run P w = .ok true w := by
      unfold isAgg
      rw [Sem.run_bind, run_underlying hu w]
      cases d <;> simp_all
    simp only [Array.length_toList, Array.toArray_toList, rowOf_size] at hl
    simp [loadVar, Sem.run_bind, hagg, sizeOf, typeInfo, hq, hs, hl]
theorem wpList_load_fn {ops : Array Oper} {rest : List Oper} {o : Oper} {a : Act} {w : World} {Q : Exit → Act → World → Prop} (hgd : o.guard = none) (ty : TypeId) (x : Operand) (ho : o.op = .load ty x)
    (g off n : Nat) (f : Nat → Value) (hx : a.eval x = .pointer (some ⟨g, off, none⟩)) (d : TypeDesc) (hc : ∀ i, i < n → w.cell? ⟨g, off + i, none⟩ = some (f i))
    (hu : P.underlying ty = some d) (hd : (match d with | .struct _ | .array _ _ => true | _ => false) = true) (hi : (P.info? ty).map (·.size) = some n)
    (h : wpList P ops Q rest (a.put o.dst (.agg (rowOf n f))) w) : wpList P ops Q (o :: rest) a w :=
  wpList_plain hgd fun _ hK => by
    unfold Oper.wp execOp
    simp only [ho, hx, Instr.loadAt, Instr.sureAddr, Sem.run_bind, Sem.run_pure, Result.andThen_ok, run_loadVar_fn w g off n ty f d hc hu hd hi]
    exact hK _ _ h
theorem results_cell_fn {fn : Func} {p : Tmp} {ty : TypeId} (h : fn.results = #[.cell p ty]) (tmps : Array Value) (w : World) (g n : Nat) (f : Nat → Value) (d : TypeDesc)
    (hp : tmps.getD p undef = .pointer (some ⟨g, 0, none⟩)) (hc : ∀ i, i < n → w.cell? ⟨g, i, none⟩ = some (f i))
    (hu : P.underlying ty = some d) (hd : (match d with | .struct _ | .array _ _ => true | _ => false) = true) (hi : (P.info? ty).map (·.size) = some n) :
    (results fn tmps).run P w = .ok (.agg (rowOf n f)) w := by
  have hp' : tmps[p]?.getD undef = .pointer (some ⟨g, 0, none⟩) := by simpa using hp
  have := run_loadVar_fn (P := P) w g 0 n ty f d (fun i hi => by simpa using hc i hi) hu hd hi
  simp [results, h, hp', asAddr, this]

def splice (f0 : Nat → Value) (o m : Nat) (f : Nat → Value) : Nat → Value := fun i => if o ≤ i ∧ i < o + m then f (i - o) else f0 i
theorem rowOf_splice (n : Nat) (f0 : Nat → Value) (o m : Nat) (f : Nat → Value) (h : o + m ≤ n) :
    ((rowOf n f0).toList.take o ++ (rowOf m f).toList ++ (rowOf n f0).toList.drop (o + m)).toArray = rowOf n (splice f0 o m f) := by
  apply Array.ext'
  apply List.ext_getElem?
  intro i
  have e : ∀ (k : Nat) (q : Nat → Value) (j : Nat), (rowOf k q).toList[j]? = if j < k then some (q j) else none := by
    intro k q j
    rw [Array.getElem?_toList]
    by_cases hj : j < k
    · rw [if_pos hj, rowOf_get k q j hj]
    · rw [if_neg hj]; simp [rowOf]; omega
  have el : ∀ (k : Nat) (q : Nat → Value), (rowOf k q).toList.length = k := by intro k q; simp [rowOf]
  rw [List.toList_toArray, e, List.getElem?_append, List.getElem?_append, List.length_append, List.length_take, el, el, List.getElem?_take, e, e, List.getElem?_drop, e]
  have hm : min o n = o := by omega
  rw [hm]
  by_cases h1 : i < o
  · simp only [h1, if_true, show i < o + m by omega, show i < n by omega, splice]
    rw [if_neg (by omega)]
  · by_cases h2 : i < o + m
    · simp only [h2, h1, if_true, if_false, show i - o < m by omega, show i < n by omega, splice]
      rw [if_pos ⟨by omega, trivial⟩]
    · simp only [h2, if_false]
      by_cases h3 : i < n
      · rw [if_pos (by omega), if_pos h3]; simp only [splice]; rw [if_neg (by omega)]; congr 2; omega
      · rw [if_neg (by omega), if_neg h3]
theorem run_storeVar_fn (w : World) (g o n m : Nat) (T ty : TypeId) (f0 f : Nat → Value) (hg : Row w g T n f0) (hi : (P.info? ty).map (·.size) = some m) (hfit : o + m ≤ n)
    (h1 : ∀ i, i < m → (f i).oneCell' = true) : (storeVar ty ⟨g, o, none⟩ (.agg (rowOf m f))).run P w = .ok () (w.setRow g (rowOf n (splice f0 o m f))) := by
  have hst := run_storeCells_at P g o T (rowOf m f).toList 0 (rowOf n f0) w hg (by simp [rowOf]; omega) (fun v hv => by
    obtain ⟨i, hi', rfl⟩ := List.getElem_of_mem hv
    have hi2 : i < m := by simpa [rowOf] using hi'
    have := rowOf_get m f i hi2
    rw [← Array.getElem?_toList, List.getElem?_eq_getElem hi'] at this
    rw [Option.some.inj this]; exact h1 i hi2)
  simp only [Nat.add_zero, Array.length_toList, rowOf_size, rowOf_splice n f0 o m f hfit] at hst
  cases hq : P.info? ty with
  | none => simp [hq] at hi
  | some i =>
    have hs : i.size = m := by simpa [hq] using hi
    have e : (Value.agg (rowOf m f)).cells = rowOf m f := rfl
    simp [storeVar, Sem.run_bind, sizeOf, typeInfo, hq, hs, rowOf_size, hst, e]
theorem wpList_store_fn {ops : Array Oper} {rest : List Oper} {o : Oper} {a : Act} {w : World} {Q : Exit → Act → World → Prop} (hgd : o.guard = none) (ty : TypeId) (x y : Operand) (ho : o.op = .store ty x y)
    (hdst : o.dst = none)
    (g off n m : Nat) (T : TypeId) (f0 f : Nat → Value) (hx : a.eval x = .pointer (some ⟨g, off, none⟩)) (hy : a.eval y = .agg (rowOf m f)) (hg : Row w g T n f0)
    (hi : (P.info? ty).map (·.size) = some m) (hfit : off + m ≤ n) (h1 : ∀ i, i < m → (f i).oneCell' = true)
    (h : wpList P ops Q rest a (w.setRow g (rowOf n (splice f0 off m f)))) : wpList P ops Q (o :: rest) a w :=
  wpList_plain hgd fun _ hK => by
    unfold Oper.wp execOp
    simp only [ho, hx, hy, Instr.storeAt, Instr.sureAddr, Sem.run_bind, Sem.run_pure, Result.andThen_ok, run_storeVar_fn w g off n m T ty f0 f hg hi hfit h1]
    rw [Oper.upon_skip, hdst]
    exact hK _ _ h
/-- A part of an array that is held by value. -/
@[go_sem] theorem run_index_agg (w : World) (T : TypeId) (cs : Array Value) (k : IntKind) (i : Int) (hu : P.underlying T = some (.array (P.arrayLen T) (P.elem T))) :
    (Instr.index T (.agg cs) (.int k i)).run P w = if 0 ≤ i ∧ i < P.arrayLen T then ((sizeOf (P.elem T)).run P w).andThen fun s w => (part (P.elem T) cs (i.toNat * s)).run P w
      else (boundsPanic k i (P.arrayLen T) .index).run P w := by
  by_cases h : 0 ≤ i ∧ i < P.arrayLen T <;> simp [Instr.index, asIntOf, Sem.run_bind, run_underlying hu w, h]
@[go_sem] theorem rowOf_getElem? (n : Nat) (f : Nat → Value) (i : Nat) (h : i < n) : (rowOf n f)[i]? = some (f i) := rowOf_get n f i h
theorem w8_at (f : Nat → BitVec 8) (i : Nat) : w8 f i = W8 (f i) := rfl
theorem w32_at (f : Nat → BitVec 32) (i : Nat) : w32 f i = W32 (f i) := rfl
attribute [go_sem] w8_at w32_at
end
section
variable {w w' : World} {g n : Nat} {T : TypeId} {f0 f : Nat → Value}
theorem Row.setRow (h : Row w g T n f0) (f : Nat → Value) : Row (w.setRow g (rowOf n f)) g T n f := setRow_heap w g _ _ T (0, 0) h
theorem Row.setRow_other {b m : Nat} {T' : TypeId} {q : Nat → Value} (h : Row w b T' m q) (hne : b ≠ g) (cs : Array Value) : Row (w.setRow g cs) b T' m q := h.same (_root_.Go.setRow_other w g b cs hne)
theorem Frm.setRow {P : Nat → Prop} (h : Frm P w w') (g : Nat) (cs : Array Value) (ha : g < w.heap.size → P g) : Frm P w (w'.setRow g cs) :=
  ⟨h.os, h.tape, h.output, by have := h.size; simp; omega, fun i hi hp => by
    rw [_root_.Go.setRow_other w' g i cs (fun e => hp (e ▸ ha (e ▸ hi)))]; exact h.block i hi hp⟩
end
end Go.Proofs.Ytljddimmhjiehaa
