/- The order of what is remembered: the closure that compares two tokens by their turns. -/
import Derived.Test.YtkbbaokllgmhiaaB5
import Derived.Sort.KeysCollected
namespace Go.Proofs.Ytkbbaokllgmhiaa
open Go.RowKit Go.Maps Go.MuLone

theorem law9 : Keyed Try.prog 9 := string_keyed Try.underlying9
/-- A map's values are read as they are. -/
def RV : Value → Option (DataW Value × List MemPlace) := fun v => some (.held v, [])

/-- An answer as a value. -/
abbrev ansv (iss sub : ByteArray) (p : Option Addr) (n c : Nat) (g e : Int) (ok : Bool) (turn : Int) : Value :=
  .agg #[.string iss, .string sub, .string ⟨#[]⟩, .string ⟨#[]⟩, .slice p n c, .int .u64 g, .int .i64 0, .int .i64 e, .int .u8 0, .int .u8 0, .int .u8 0, .int .u8 0, .int .u8 0, .int .u8 0, .int .u8 0, .int .u8 0, .int .u8 0, .int .u8 0, .int .u8 0, .int .u8 0, .int .u8 0, .int .u8 0, .int .u8 0, .int .u8 0, .bool ok, .int .u64 turn]
theorem zero85 (w : World) : (zeroValue 85).run Try.prog w = .ok (ansv ⟨#[]⟩ ⟨#[]⟩ none 0 0 0 0 false 0) w := by kernel_rfl

/-- An answer's turn, taken out of it in one step. -/
def field85op (x : Value) : Sem Value := Instr.field 85 x 2
@[go_sem ↓ high] theorem field85op_eq (x : Value) : Instr.field 85 x 2 = field85op x := rfl
@[go_sem] theorem run_field85 (iss sub : ByteArray) (p : Option Addr) (n c : Nat) (g e : Int) (ok : Bool) (turn : Int) (w : World) :
    (field85op (.agg #[.string iss, .string sub, .string ⟨#[]⟩, .string ⟨#[]⟩, .slice p n c, .int .u64 g, .int .i64 0, .int .i64 e, .int .u8 0, .int .u8 0, .int .u8 0, .int .u8 0, .int .u8 0, .int .u8 0, .int .u8 0, .int .u8 0, .int .u8 0, .int .u8 0, .int .u8 0, .int .u8 0, .int .u8 0, .int .u8 0, .int .u8 0, .int .u8 0, .bool ok, .int .u64 turn])).run Try.prog w = .ok (.int .u64 turn) w := by kernel_rfl

set_option maxHeartbeats 400000 in
theorem compare_u64 (x y : Int) (w : World) : Calls Try.prog 34 #[.int .u64 x, .int .u64 y] w fun e w' => e = .returned (.int .i64 (Lib.compareInt x y)) ∧ w' = w := by
  rcases Int.lt_trichotomy x y with h | h | h
  · rw [show Lib.compareInt x y = -1 from by simp [Lib.compareInt, h]]
    go_enter Try.func34, Try.ntmps34
    go_wp2
    go_ret
    exact ⟨rfl, rfl⟩
  · subst h
    rw [show Lib.compareInt x x = 0 from by simp [Lib.compareInt]]
    go_enter Try.func34, Try.ntmps34
    go_wp2
    go_ret
    exact ⟨rfl, rfl⟩
  · rw [show Lib.compareInt x y = 1 from by simp [Lib.compareInt]; omega]
    have h' : ¬ x < y := by omega
    go_enter Try.func34, Try.ntmps34
    go_wp2
    go_ret
    exact ⟨rfl, rfl⟩

/-- The turn of the token x in a map of answers (0: it is not there). -/
structure Turns (D : DataW Value) (tf : List UInt8 → Int) : Prop where
  at_ : ∀ x, ∃ iss sub p n c g e ok, D.atKey (.string x) (.held (ansv ⟨#[]⟩ ⟨#[]⟩ none 0 0 0 0 false 0)) = .held (ansv iss sub p n c g e ok (tf x))
  nonneg : ∀ x, 0 ≤ tf x

theorem look_turn {w : World} {M n : Nat} {D : DataW Value} {tf : List UInt8 → Int} (hown : w.ownsMap Try.prog 9 RV M n D) (hT : Turns D tf) (x : ByteArray) (hx : x.size ≤ maxLen) :
    ∃ iss sub p m c g e ok, ∀ W : World, W.heap = w.heap → (Instr.lookup 69 (.map (some M)) (.string x) false).run Try.prog W = .ok (ansv iss sub p m c g e ok (tf x.data.toList)) W := by
  obtain ⟨iss, sub, p, m, c, g, e, ok, ha⟩ := hT.at_ x.data.toList
  refine ⟨iss, sub, p, m, c, g, e, ok, fun W hW => ?_⟩
  have hown' : W.ownsMap Try.prog 9 RV M n D := by
    obtain ⟨es, clock, hb, r⟩ := hown
    exact ⟨es, clock, by rw [hW]; exact hb, r⟩
  obtain ⟨v, ps, hrun, hR⟩ := hown'.lookup law9 Try.underlying69 (zero85 W) (zd := .held (ansv ⟨#[]⟩ ⟨#[]⟩ none 0 0 0 0 false 0)) (zp := []) rfl (WideMaps.keyOf_string_mk Try.underlying9 hx)
  rw [ha] at hR
  simp only [RV, Option.some.injEq, Prod.mk.injEq, DataW.held.injEq] at hR
  rw [hrun, hR.1]

set_option maxHeartbeats 800000 in
theorem closure33 (B c M n : Nat) (D : DataW Value) (tf : List UInt8 → Int) (w : World) (hb : w.cell? ⟨B, 0, none⟩ = some (.pointer (some ⟨c, 0, none⟩))) (hc : w.cell? ⟨c, 5, none⟩ = some (.map (some M)))
    (hown : w.ownsMap Try.prog 9 RV M n D) (hT : Turns D tf) (x y : ByteArray) (hx : x.size ≤ maxLen) (hy : y.size ≤ maxLen) :
    Calls Try.prog 33 #[.string x, .string y, .pointer (some ⟨B, 0, none⟩)] w fun e w' => e = .returned (.int .i64 (Lib.compareInt (tf x.data.toList) (tf y.data.toList))) ∧ ∃ q, w' = w.drewN q := by
  obtain ⟨i1, s1, p1, m1, c1, g1, e1, o1, r1⟩ := look_turn hown hT x hx
  obtain ⟨i2, s2, p2, m2, c2, g2, e2, o2, r2⟩ := look_turn hown hT y hy
  have hx0 := hT.nonneg x.data.toList
  have hy0 := hT.nonneg y.data.toList
  generalize tf x.data.toList = a at r1 hx0 ⊢
  generalize tf y.data.toList = b at r2 hy0 ⊢
  have R1 : ∀ q, (Instr.lookup 69 (.map (some M)) (.string x) false).run Try.prog (w.drewN q) = .ok (ansv i1 s1 p1 m1 c1 g1 e1 o1 a) (w.drewN q) := fun q => r1 _ rfl
  have R2 : ∀ q, (Instr.lookup 69 (.map (some M)) (.string y) false).run Try.prog (w.drewN q) = .ok (ansv i2 s2 p2 m2 c2 g2 e2 o2 b) (w.drewN q) := fun q => r2 _ rfl
  dsimp only [ansv] at R1 R2
  have HC : Hid (∀ W : World, Calls Try.prog 34 #[.int .u64 a, .int .u64 b] W fun e w' => e = .returned (.int .i64 (Lib.compareInt a b)) ∧ w' = W) := fun W => compare_u64 a b W
  generalize Lib.compareInt a b = r at HC ⊢
  clear hown hT r1 r2
  go_enter Try.func33, Try.ntmps33
  go_wp2
  go_quiet ((go_at_call 34; exact Calls.quiet_of_same (HC.out _)))
  go_wp2
  go_ret
  exact ⟨rfl, _, rfl⟩
end Go.Proofs.Ytkbbaokllgmhiaa
