/- Plain facts for CacheLimits' last part: texts of so many zero bytes. -/
import Derived.Test.YtkbbaokllgmhiaaG2
import Derived.Laws.BytesArg
import Derived.Laws.MakeOwn
namespace Go.Proofs.Ytkbbaokllgmhiaa
open Go.RowKit

def zb (n : Nat) : ByteArray := ⟨Array.replicate n 0⟩
theorem zb_size (n : Nat) : (zb n).size = n := by simp [zb, ByteArray.size]
theorem zb_ne {m n : Nat} (h : m ≠ n) : zb m ≠ zb n := fun e => h (by rw [← zb_size m, e, zb_size])
theorem strOf_zb (n : Nat) : strOfNums (List.replicate n 0) = zb n := by
  have h : (List.replicate n (0 : Int)).map (fun m => UInt8.ofNat m.toNat) = List.replicate n (0 : UInt8) := by simp
  unfold strOfNums zb
  rw [h]
  simp

theorem info5 : (Try.prog.info? 5).map (fun i => (i.zero, i.size, i.bytes)) = some (some (.int .u8 0), 1, 1) := by kernel_rfl

/-- A block of so many zero bytes. -/
def ZB (w : World) (b n : Nat) : Prop := ∃ cs, hasRow w b cs ∧ cs.size = n ∧ ∀ i, i < n → cs[i]? = some (.int .u8 0)
theorem ZB.kp {w w' : World} {F : Nat → Prop} {b n : Nat} (h : ZB w b n) (k : Kp F w w') (hf : ¬ F b) : ZB w' b n := let ⟨cs, h1, h2⟩ := h; ⟨cs, h1.kp k hf, h2⟩

theorem makeB (w : World) : ∃ o, (Instr.makeSlice 37 (.int .i64 2049) (.int .i64 2049)).run Try.prog w = .ok (.slice (some ⟨w.heap.size, 0, none⟩) 2049 2049) (w.alloc o) ∧ ZB (w.alloc o) w.heap.size 2049 := by
  obtain ⟨i0, hi0, hz0, hz1, hz2⟩ := info_parts info5
  have h := run_makeSlice (P := Try.prog) w 37 5 i0 (.int .u8 0) Try.underlying37 hi0 hz0 .i64 .i64 2049 2049 (by decide) (by decide) (by rw [hz1]; decide) (by rw [hz2]; decide) (by decide)
  rw [hz1] at h
  refine ⟨_, h, _, hasRow_new w _ 5, by simp [madeCells], fun i hi => ?_⟩
  simp [madeCells]
  refine ⟨i, ?_, ?_⟩
  · simp [hi]
  · show (#[Value.int .u8 0] : Array Value)[i % 1]! = _
    rw [Nat.mod_one]; rfl

theorem convB {w : World} {b n : Nat} (h : ZB w b 2049) (hn : n ≤ 2049) (c : Nat) : (convert 37 9 (.slice (some ⟨b, 0, none⟩) n c)).run Try.prog w = .ok (.string (zb n)) w := by
  obtain ⟨cs, h1, h2, h3⟩ := h
  have := run_convert_bytes_arg (P := Try.prog) w 37 5 Try.underlying37 Try.underlying5 b 0 n c (List.replicate n 0) (by simp) (fun i hi => by
    rw [Nat.zero_add, h1.cell i, h3 i (by omega)]
    simp [List.getD, hi]) 9 Try.underlying9
  rw [strOf_zb] at this
  exact this
end Go.Proofs.Ytkbbaokllgmhiaa
