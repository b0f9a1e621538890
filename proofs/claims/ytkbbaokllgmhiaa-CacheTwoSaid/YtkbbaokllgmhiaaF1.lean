/- The laws' own source: its small parts. -/
import Derived.Test.YtkbbaokllgmhiaaE5
namespace Go.Proofs.Ytkbbaokllgmhiaa
open Go.RowKit Go.Maps Go.MuLone Go.Sort Go.Shelf

theorem info50 : (Try.prog.info? 50).map (·.size) = some 26 := by kernel_rfl
/-- Whole facts are stored and loaded in one step. -/
def store50op (x y : Value) : Sem Unit := Instr.storeAt 50 x y
def load50op (x : Value) : Sem Value := Instr.loadAt 50 x
@[go_sem ↓ high] theorem store50op_eq (x y : Value) : Instr.storeAt 50 x y = store50op x y := rfl
@[go_sem ↓ high] theorem load50op_eq (x : Value) : Instr.loadAt 50 x = load50op x := rfl
@[go_sem] theorem store50 (w : World) (g : Nat) (c c0 c1 c2 c3 : ByteArray) (p : Option Addr) (n k : Nat) (g1 g2 g3 : Int) (x0 x1 x2 x3 x4 x5 x6 x7 x8 x9 x10 x11 x12 x13 x14 x15 : Int) (b : Bool) (h : isRow w g 26) :
    (store50op (.pointer (some ⟨g, 0, none⟩)) (.agg #[.string c, .string c0, .string c1, .string c2, .string c3, .slice p n k, .int .u64 g1, .int .i64 g2, .int .i64 g3, .int .u8 x0, .int .u8 x1, .int .u8 x2, .int .u8 x3, .int .u8 x4, .int .u8 x5, .int .u8 x6, .int .u8 x7, .int .u8 x8, .int .u8 x9, .int .u8 x10, .int .u8 x11, .int .u8 x12, .int .u8 x13, .int .u8 x14, .int .u8 x15, .bool b])).run Try.prog w = .ok () (w.setRow g #[.string c, .string c0, .string c1, .string c2, .string c3, .slice p n k, .int .u64 g1, .int .i64 g2, .int .i64 g3, .int .u8 x0, .int .u8 x1, .int .u8 x2, .int .u8 x3, .int .u8 x4, .int .u8 x5, .int .u8 x6, .int .u8 x7, .int .u8 x8, .int .u8 x9, .int .u8 x10, .int .u8 x11, .int .u8 x12, .int .u8 x13, .int .u8 x14, .int .u8 x15, .bool b]) := run_store_row info50 h rfl (by simp [Value.oneCell'])
@[go_sem] theorem load50 (w : World) (g : Nat) (h : isRow w g 26) : (load50op (.pointer (some ⟨g, 0, none⟩))).run Try.prog w = .ok (.agg (rowAt w g)) w := run_load_row info50 Try.underlying50 rfl h
/-- The claims within a fact. -/
def claimsIn (cs : Array Value) : Value := .agg ((cs.toList.drop 1).take 24).toArray
@[go_sem] theorem claimsIn_mk (c c0 c1 c2 c3 : ByteArray) (p : Option Addr) (n k : Nat) (g1 g2 g3 : Int) (x0 x1 x2 x3 x4 x5 x6 x7 x8 x9 x10 x11 x12 x13 x14 x15 : Int) (b : Bool) : claimsIn #[.string c, .string c0, .string c1, .string c2, .string c3, .slice p n k, .int .u64 g1, .int .i64 g2, .int .i64 g3, .int .u8 x0, .int .u8 x1, .int .u8 x2, .int .u8 x3, .int .u8 x4, .int .u8 x5, .int .u8 x6, .int .u8 x7, .int .u8 x8, .int .u8 x9, .int .u8 x10, .int .u8 x11, .int .u8 x12, .int .u8 x13, .int .u8 x14, .int .u8 x15, .bool b] = .agg #[.string c0, .string c1, .string c2, .string c3, .slice p n k, .int .u64 g1, .int .i64 g2, .int .i64 g3, .int .u8 x0, .int .u8 x1, .int .u8 x2, .int .u8 x3, .int .u8 x4, .int .u8 x5, .int .u8 x6, .int .u8 x7, .int .u8 x8, .int .u8 x9, .int .u8 x10, .int .u8 x11, .int .u8 x12, .int .u8 x13, .int .u8 x14, .int .u8 x15] := rfl
@[go_sem] theorem load48of50 (w : World) (g : Nat) (h : isRow w g 26) : (load48op (.pointer (some ⟨g, 1, none⟩))).run Try.prog w = .ok (claimsIn (rowAt w g)) w := by
  obtain ⟨cs, t, hg, hc⟩ := h
  have hr : rowAt w g = cs := by simp [rowAt, hg]
  rw [hr]
  exact run_loadAt_mid (P := Try.prog) w g 1 48 ((cs.toList.drop 1).take 24) _ (fun j v hv => by
    simp only [World.cell?, hg]
    rw [if_neg (by simp)]
    rw [List.getElem?_take] at hv
    split at hv
    · rw [List.getElem?_drop] at hv; simpa using hv
    · cases hv) Try.underlying48 rfl (by rw [info48]; simp [hc])

/-- A fact as cells, as a value. -/
abbrev fcells (t : ByteArray) (te : Tell) (p : Option Addr) (n c : Nat) : Array Value :=
  #[.string t, .string te.iss, .string te.sub, .string ⟨#[]⟩, .string ⟨#[]⟩, .slice p n c, .int .u64 te.grant, .int .i64 0, .int .i64 te.exp, .int .u8 0, .int .u8 0, .int .u8 0, .int .u8 0, .int .u8 0, .int .u8 0, .int .u8 0, .int .u8 0, .int .u8 0, .int .u8 0, .int .u8 0, .int .u8 0, .int .u8 0, .int .u8 0, .int .u8 0, .int .u8 0, .bool te.ok]

set_option maxHeartbeats 800000 in
theorem copy0 (w : World) : Calls Try.prog 96 #[.slice none 0 0] w fun e w' => e = .returned (.slice none 0 0) ∧ w' = w := by
  go_enter Try.func96, Try.ntmps96
  go_wp2
  go_ret
  exact ⟨rfl, rfl⟩

set_option maxHeartbeats 800000 in
theorem copy1 (b c : Nat) (x : ByteArray) (w : World) (hx : w.cell? ⟨b, 0, none⟩ = some (.string x)) : Calls Try.prog 96 #[.slice (some ⟨b, 0, none⟩) 1 c] w fun e w' => ∃ g cap, e = .returned (.slice (some ⟨g, 0, none⟩) 1 cap) ∧ Lst w' w.heap.size (.slice (some ⟨g, 0, none⟩) 1 cap) [x] ∧ Below w.heap.size w w' := by
  go_enter Try.func96, Try.ntmps96
  go_wp2_with (at_builtin; refine wpList_app_lst rfl _ _ rfl _ w.heap.size [] rfl (Lst.nil _ _) (Nat.le_refl _) b c rfl x hx (by simp) ?_; intro g cap' w1 hL1 hgr hg; have HL := Lib.hid hL1; have HG := Lib.hid (Kp.below ((Kp.refl (fun _ => False) w).grown hgr (fun b hb => by cases hb)) (Nat.le_refl _) (fun _ _ h => h)); clear hL1 hgr)
  go_ret
  exact ⟨g, cap', rfl, HL.out, HG.out⟩
end Go.Proofs.Ytkbbaokllgmhiaa
