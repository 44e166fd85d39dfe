/- sha: the ring of sixteen words. -/
import Derived.Test.YtljddimmhjiehaaMem
import Derived.Test.YtljddimmhjiehaaRot
import Derived.StillTailTactics
import Derived.BigRegion
namespace Go.Proofs.Ytljddimmhjiehaa
open Go.RowKit

def sig0 (x : BitVec 32) : BitVec 32 := x.rotateLeft 25 ^^^ x.rotateLeft 14 ^^^ x >>> 3
def sig1 (x : BitVec 32) : BitVec 32 := x.rotateLeft 15 ^^^ x.rotateLeft 13 ^^^ x >>> 10
def ringNext (r : Nat → BitVec 32) (k : Nat) : Nat → BitVec 32 :=
  if 16 ≤ k then upd r (k % 16) (r (k % 16) + (r ((k - 7) % 16) + sig0 (r ((k - 15) % 16)) + sig1 (r ((k - 2) % 16)))) else r

set_option maxHeartbeats 400000 in
theorem ring_low (R k : Nat) (r : Nat → BitVec 32) (w : World) (hk : k < 16) (hR : Row w R 122 16 (w32 r)) :
    Calls Try.prog 74 #[.pointer (some ⟨R, 0, none⟩), .int .i64 (k : Int)] w fun e w' => e = .returned (W32 (r (k % 16))) ∧ w = w' := by
  have hc := hR.cell32 (k % 16) (by omega)
  have HR := hid hR
  clear hR
  go_enter Try.func74, Try.ntmps74
  go_wp2
  go_ret
  exact ⟨rfl, rfl⟩

set_option maxHeartbeats 800000 in
set_option maxRecDepth 100000 in
theorem ring_high (R k : Nat) (r : Nat → BitVec 32) (w : World) (hk : 16 ≤ k) (hk2 : k < 64) (hR : Row w R 122 16 (w32 r)) :
    Calls Try.prog 74 #[.pointer (some ⟨R, 0, none⟩), .int .i64 (k : Int)] w fun e w' => e = .returned (W32 (ringNext r k (k % 16))) ∧
      Row w' R 122 16 (w32 (ringNext r k)) ∧ Frm (· = R) w w' ∧ w'.heap.size = w.heap.size := by
  have hc0 := hR.cell32 (k % 16) (by omega)
  have hc1 := hR.cell32 ((k - 15) % 16) (by omega)
  have hc2 := hR.cell32 ((k - 2) % 16) (by omega)
  have hc7 := hR.cell32 ((k - 7) % 16) (by omega)
  have hfr := hR.free (k % 16)
  have HR := hid hR
  clear hR
  go_enter Try.func74, Try.ntmps74
  go_wp2_with fail
  go_quiet (fail)
  go_wp2_with (go_at_call 72; refine (rot32_any _ _ _ (by decide)).mono ?_; rintro e w' ⟨rfl, rfl⟩)
  have hR1 : Row (w.drewN nq) R 122 16 (w32 r) := HR.out
  have hF1 : Frm (· = R) w (w.drewN nq) := (Frm.refl _ _).drewN nq
  have hz1 : (w.drewN nq).heap.size = w.heap.size := rfl
  clear hc0 hc1 hc2 hc7 hfr HR
  generalize w.drewN nq = w1 at hR1 hF1 hz1 ⊢
  have hc0 := hR1.cell32 (k % 16) (by omega)
  have hc7 := hR1.cell32 ((k - 7) % 16) (by omega)
  have hfr := hR1.free (k % 16)
  have HR := hid hR1
  have HF := hid hF1
  have HZ := hid hz1
  clear hR1 hF1 hz1
  go_region
  go_wp2
  go_outline
  go_ret
  have h1 := HR.out.set (k % 16) (W32 (r (k % 16) + (r ((k - 7) % 16) + sig0 (r ((k - 15) % 16)) + sig1 (r ((k - 2) % 16)))))
  rw [upd_w32] at h1
  refine ⟨ret_W32 ?_, ?_, ?_, ?_⟩
  · simp [ringNext, hk, upd, sig0, sig1]
  · rw [ringNext, if_pos hk]; exact h1.drew
  · exact (HF.out.set _ _ (fun _ => rfl)).drew
  · simp [HZ.out]
end Go.Proofs.Ytljddimmhjiehaa
