/- Claims alike are told alike (EqClaims). -/
import Derived.Test.YtkbbaokllgmhiaaB1
namespace Go.Proofs.Ytkbbaokllgmhiaa
open Go.RowKit Go.Maps Go.MuLone
theorem eq16 (w : World) : (Op.equalIn 10000 46 (.agg #[.int .u8 0, .int .u8 0, .int .u8 0, .int .u8 0, .int .u8 0, .int .u8 0, .int .u8 0, .int .u8 0, .int .u8 0, .int .u8 0, .int .u8 0, .int .u8 0, .int .u8 0, .int .u8 0, .int .u8 0, .int .u8 0]) (.agg #[.int .u8 0, .int .u8 0, .int .u8 0, .int .u8 0, .int .u8 0, .int .u8 0, .int .u8 0, .int .u8 0, .int .u8 0, .int .u8 0, .int .u8 0, .int .u8 0, .int .u8 0, .int .u8 0, .int .u8 0, .int .u8 0])).run Try.prog w = .ok true w := by kernel_rfl

set_option maxRecDepth 100000 in
set_option maxHeartbeats 1600000 in
theorem eqClaims_same {w : World} (iss sub : ByteArray) (pu pv : Option Addr) (cu cv n : Nat) (g e : Int)
    (hE : ∀ W : World, Kp (fun _ => False) w W → Calls Try.prog 20 #[.slice pu n cu, .slice pv n cv] W fun e w' => e = .returned (.bool true) ∧ ∃ n, w' = W.drewN n) :
    Calls Try.prog 27 #[clm iss sub (.slice pu n cu) g e, clm iss sub (.slice pv n cv) g e] w fun r w' => r = .returned (.bool true) ∧ Below w.heap.size w w' := by
  have H := Lib.hid hE
  clear hE
  have q16 := eq16
  go_enter Try.func27, Try.ntmps27
  go_wp2_with fail
  refine (H.out _ (((Kp.refl _ w).alloc _).alloc _)).mono ?_
  rintro r w' ⟨rfl, k, rfl⟩
  go_wp2
  go_ret
  exact ⟨rfl, (((Below.refl _ _).alloc (Nat.le_refl _) _).alloc (by simp) _).trans ⟨rfl, rfl, rfl, Nat.le_refl _, fun _ _ => rfl⟩⟩
end Go.Proofs.Ytkbbaokllgmhiaa
