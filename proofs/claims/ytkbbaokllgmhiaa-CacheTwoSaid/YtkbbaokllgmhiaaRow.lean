/- Whole rows (a struct of many cells) stored and loaded at one step of the walk. -/
import Derived.Test.YtkbbaokllgmhiaaBase
import Derived.Deep.MidRow
namespace Go.Proofs.Ytkbbaokllgmhiaa
open Go.RowKit Go.Maps Go.MuLone

/-- The cells of block g. -/
def rowAt (w : World) (g : Nat) : Array Value := match w.heap[g]? with | some (.cells cs _ _) => cs | _ => #[]
/-- Block g is a row of n cells, none frozen. -/
def isRow (w : World) (g n : Nat) : Prop := ∃ cs t, w.heap[g]? = some (.cells cs t (0, 0)) ∧ cs.size = n
/-- .. and these are its cells. -/
def hasRow (w : World) (g : Nat) (cs : Array Value) : Prop := ∃ t, w.heap[g]? = some (.cells cs t (0, 0))

theorem isRow.lt {w : World} {g n : Nat} (h : isRow w g n) : g < w.heap.size := by
  obtain ⟨cs, t, h, _⟩ := h; exact (Array.getElem?_eq_some_iff.1 h).1
theorem hasRow.lt {w : World} {g : Nat} {cs : Array Value} (h : hasRow w g cs) : g < w.heap.size := by
  obtain ⟨t, h⟩ := h; exact (Array.getElem?_eq_some_iff.1 h).1
theorem hasRow.is {w : World} {g : Nat} {cs : Array Value} (h : hasRow w g cs) : isRow w g cs.size := by
  obtain ⟨t, h⟩ := h; exact ⟨cs, t, h, rfl⟩
theorem hasRow.rowAt {w : World} {g : Nat} {cs : Array Value} (h : hasRow w g cs) : rowAt w g = cs := by
  obtain ⟨t, h⟩ := h; simp [Ytkbbaokllgmhiaa.rowAt, h]
theorem hasRow.of_same {w w' : World} {g : Nat} {cs : Array Value} (h : hasRow w g cs) (e : w'.heap[g]? = w.heap[g]?) : hasRow w' g cs := by
  obtain ⟨t, h⟩ := h; exact ⟨t, e.trans h⟩
theorem hasRow.cell {w : World} {g : Nat} {cs : Array Value} (h : hasRow w g cs) (i : Nat) : w.cell? ⟨g, i, none⟩ = cs[i]? := by
  obtain ⟨t, h⟩ := h; simp [World.cell?, h]
theorem hasRow.frozen {w : World} {g : Nat} {cs : Array Value} (h : hasRow w g cs) (i : Nat) : w.frozen? ⟨g, i, none⟩ = false := by
  obtain ⟨t, h⟩ := h; simp [World.frozen?, h]
theorem hasRow.setCell {w : World} {g i : Nat} {cs : Array Value} (h : hasRow w g cs) (v : Value) : hasRow (w.setCell ⟨g, i, none⟩ v) g (cs.setIfInBounds i v) := by
  obtain ⟨t, h⟩ := h; exact ⟨t, by simp [World.setCell, Array.getElem?_modify, h]⟩
theorem hasRow.setCell_other {w : World} {g k i : Nat} {cs : Array Value} (h : hasRow w g cs) (hk : g ≠ k) (v : Value) : hasRow (w.setCell ⟨k, i, none⟩ v) g cs := h.of_same (Below.heap_setCell _ _ _ _ hk)
theorem hasRow.setRow {w : World} {g : Nat} {cs : Array Value} (h : hasRow w g cs) (ds : Array Value) : hasRow (w.setRow g ds) g ds := by
  obtain ⟨t, h⟩ := h; exact ⟨t, setRow_heap _ _ _ _ _ _ h⟩
theorem hasRow.setRow_other {w : World} {g k : Nat} {cs : Array Value} (h : hasRow w g cs) (hk : g ≠ k) (ds : Array Value) : hasRow (w.setRow k ds) g cs := h.of_same (Go.setRow_other _ _ _ _ hk)
theorem hasRow.alloc {w : World} {g : Nat} {cs : Array Value} (h : hasRow w g cs) (o : Obj) : hasRow (w.alloc o) g cs := h.of_same (Below.heap_alloc _ _ _ h.lt)
theorem hasRow_new (w : World) (cs : Array Value) (t : TypeId) : hasRow (w.alloc (.cells cs t)) w.heap.size cs := ⟨t, by show (w.heap.push _)[w.heap.size]? = _; simp⟩
theorem hasRow.kp {w w' : World} {F : Nat → Prop} {g : Nat} {cs : Array Value} (h : hasRow w g cs) (k : Kp F w w') (hf : ¬ F g) : hasRow w' g cs := h.of_same (k.block g h.lt hf)
theorem hasRow.below {w w' : World} {B : Nat} {g : Nat} {cs : Array Value} (h : hasRow w g cs) (k : Below B w w') (hf : g < B) : hasRow w' g cs := h.of_same (k.block g hf)

section rules
variable (w : World) (g k n i : Nat) (v : Value) (cs C : Array Value) (T : TypeId) (o : Obj)
@[go_sem] theorem isRow_new (hn : g = w.heap.size) (hs : C.size = n) : isRow (w.alloc (.cells C T)) g n := by subst hn; exact hs ▸ (hasRow_new w C T).is
@[go_sem] theorem isRow_alloc (h : isRow w g n) : isRow (w.alloc o) g n := by
  obtain ⟨cs, t, h, hs⟩ := h; exact ⟨cs, t, (Below.heap_alloc _ _ _ (Array.getElem?_eq_some_iff.1 h).1).trans h, hs⟩
@[go_sem] theorem isRow_setCell (h : isRow w g n) : isRow (w.setCell ⟨k, i, none⟩ v) g n := by
  obtain ⟨cs, t, h, hs⟩ := h
  by_cases hk : g = k
  · subst hk; exact ⟨cs.setIfInBounds i v, t, by simp [World.setCell, Array.getElem?_modify, h], by simpa using hs⟩
  · exact ⟨cs, t, (Below.heap_setCell _ _ _ _ hk).trans h, hs⟩
@[go_sem] theorem isRow_setRow (h : isRow w g n) (hs : k = g → cs.size = n) : isRow (w.setRow k cs) g n := by
  obtain ⟨ds, t, h, hs'⟩ := h
  by_cases hk : g = k
  · subst hk; exact ⟨cs, t, setRow_heap _ _ _ _ _ _ h, hs rfl⟩
  · exact ⟨ds, t, (Go.setRow_other _ _ _ _ hk).trans h, hs'⟩
@[go_sem] theorem isRow_drew (h : isRow w g n) : isRow w.drew g n := h
@[go_sem] theorem isRow_drewN (h : isRow w g n) : isRow (w.drewN k) g n := h
@[go_sem] theorem rowAt_new (hn : g = w.heap.size) : rowAt (w.alloc (.cells C T)) g = C := by subst hn; exact (hasRow_new w C T).rowAt
@[go_sem] theorem rowAt_alloc (h : g < w.heap.size) : rowAt (w.alloc o) g = rowAt w g := by simp only [rowAt, Below.heap_alloc _ _ _ h]
@[go_sem] theorem rowAt_setCell_same : rowAt (w.setCell ⟨g, i, none⟩ v) g = (rowAt w g).setIfInBounds i v := by
  simp only [rowAt, World.setCell, Array.getElem?_modify]
  cases w.heap[g]? with
  | none => simp
  | some o => cases o <;> simp
@[go_sem] theorem rowAt_setCell_other (h : g ≠ k) : rowAt (w.setCell ⟨k, i, none⟩ v) g = rowAt w g := by simp only [rowAt, Below.heap_setCell w ⟨k, i, none⟩ v g h]
@[go_sem] theorem rowAt_setRow_same (h : isRow w g n) : rowAt (w.setRow g cs) g = cs := by
  obtain ⟨ds, t, h, _⟩ := h
  simp [rowAt, setRow_heap _ _ _ _ _ _ h]
@[go_sem] theorem rowAt_setRow_other (h : g ≠ k) : rowAt (w.setRow k cs) g = rowAt w g := by simp only [rowAt, Go.setRow_other _ _ _ _ h]
@[go_sem] theorem rowAt_drew : rowAt w.drew g = rowAt w g := rfl
@[go_sem] theorem rowAt_drewN : rowAt (w.drewN k) g = rowAt w g := rfl
@[go_sem] theorem setRow_new (hn : g = w.heap.size) : (w.alloc (.cells C T)).setRow g cs = w.alloc (.cells cs T) := by
  subst hn
  simp only [World.setRow, World.alloc]
  congr 1
  show (w.heap.push _).modify w.heap.size _ = w.heap.push _
  apply Array.ext
  · simp
  · intro j h1 h2
    simp only [Array.size_modify, Array.size_push] at h1
    rw [Array.getElem_modify]
    by_cases hj : w.heap.size = j
    · subst hj; simp
    · rw [if_neg hj, Array.getElem_push_lt (by omega), Array.getElem_push_lt (by omega)]
@[go_sem] theorem cell_setRow_far (h : k ≠ g) : (w.setRow g cs).cell? ⟨k, i, none⟩ = w.cell? ⟨k, i, none⟩ := Go.cell_setRow_other _ _ _ _ h
@[go_sem] theorem frozen_setRow (x : Addr) : (w.setRow g cs).frozen? x = w.frozen? x := by
  simp only [World.frozen?, World.setRow, Array.getElem?_modify]
  by_cases hk : g = x.block
  · rw [if_pos hk]; cases w.heap[x.block]? with
    | none => simp
    | some o => cases o <;> simp
  · rw [if_neg hk]
end rules

theorem run_store_row {P : Program} {w : World} {g n : Nat} {ty : TypeId} {cells : Array Value} (hi : (P.info? ty).map (·.size) = some n) (h : isRow w g n) (hs : cells.size = n) (h1 : cells.all (·.oneCell') = true) :
    (Instr.storeAt ty (.pointer (some ⟨g, 0, none⟩)) (.agg cells)).run P w = .ok () (w.setRow g cells) := by
  obtain ⟨cs, t, hg, hc⟩ := h
  simp only [Instr.storeAt, Instr.sureAddr, Sem.run_bind, Sem.run_pure, Result.andThen_ok, run_storeVar_row w g t ty cs cells hg (by rw [hi, hs]) (by omega) h1]
theorem run_load_row {P : Program} {w : World} {g n : Nat} {ty : TypeId} {d : TypeDesc} (hi : (P.info? ty).map (·.size) = some n) (hu : P.underlying ty = some d) (hd : (match d with | .struct _ | .array _ _ => true | _ => false) = true) (h : isRow w g n) :
    (Instr.loadAt ty (.pointer (some ⟨g, 0, none⟩))).run P w = .ok (.agg (rowAt w g)) w := by
  obtain ⟨cs, t, hg, hc⟩ := h
  have hr : rowAt w g = cs := by simp [rowAt, hg]
  rw [hr]
  simp only [Instr.loadAt, Instr.sureAddr, Sem.run_bind, Sem.run_pure, Result.andThen_ok, run_loadVar_row w g t ty cs (0, 0) d hg hu hd (by rw [hi, hc])]

theorem info48 : (Try.prog.info? 48).map (·.size) = some 24 := by kernel_rfl
theorem info85 : (Try.prog.info? 85).map (·.size) = some 26 := by kernel_rfl
/-- The operations on whole claims and whole answers under names of their own: the walk does not lay them open cell by cell. -/
def store48op (x y : Value) : Sem Unit := Instr.storeAt 48 x y
def store85op (x y : Value) : Sem Unit := Instr.storeAt 85 x y
def load48op (x : Value) : Sem Value := Instr.loadAt 48 x
def load85op (x : Value) : Sem Value := Instr.loadAt 85 x
@[go_sem ↓ high] theorem store48op_eq (x y : Value) : Instr.storeAt 48 x y = store48op x y := rfl
@[go_sem ↓ high] theorem store85op_eq (x y : Value) : Instr.storeAt 85 x y = store85op x y := rfl
@[go_sem ↓ high] theorem load48op_eq (x : Value) : Instr.loadAt 48 x = load48op x := rfl
@[go_sem ↓ high] theorem load85op_eq (x : Value) : Instr.loadAt 85 x = load85op x := rfl
@[go_sem] theorem store48 (w : World) (g : Nat) (c0 c1 c2 c3 : ByteArray) (p : Option Addr) (n k : Nat) (g1 g2 g3 : Int) (x0 x1 x2 x3 x4 x5 x6 x7 x8 x9 x10 x11 x12 x13 x14 x15 : Int) (h : isRow w g 24) :
    (store48op (.pointer (some ⟨g, 0, none⟩)) (.agg #[.string c0, .string c1, .string c2, .string c3, .slice p n k, .int .u64 g1, .int .i64 g2, .int .i64 g3, .int .u8 x0, .int .u8 x1, .int .u8 x2, .int .u8 x3, .int .u8 x4, .int .u8 x5, .int .u8 x6, .int .u8 x7, .int .u8 x8, .int .u8 x9, .int .u8 x10, .int .u8 x11, .int .u8 x12, .int .u8 x13, .int .u8 x14, .int .u8 x15])).run Try.prog w = .ok () (w.setRow g #[.string c0, .string c1, .string c2, .string c3, .slice p n k, .int .u64 g1, .int .i64 g2, .int .i64 g3, .int .u8 x0, .int .u8 x1, .int .u8 x2, .int .u8 x3, .int .u8 x4, .int .u8 x5, .int .u8 x6, .int .u8 x7, .int .u8 x8, .int .u8 x9, .int .u8 x10, .int .u8 x11, .int .u8 x12, .int .u8 x13, .int .u8 x14, .int .u8 x15]) := run_store_row info48 h rfl (by simp [Value.oneCell'])
@[go_sem] theorem store85 (w : World) (g : Nat) (c0 c1 c2 c3 : ByteArray) (p : Option Addr) (n k : Nat) (g1 g2 g3 : Int) (x0 x1 x2 x3 x4 x5 x6 x7 x8 x9 x10 x11 x12 x13 x14 x15 : Int) (b : Bool) (t : Int) (h : isRow w g 26) :
    (store85op (.pointer (some ⟨g, 0, none⟩)) (.agg #[.string c0, .string c1, .string c2, .string c3, .slice p n k, .int .u64 g1, .int .i64 g2, .int .i64 g3, .int .u8 x0, .int .u8 x1, .int .u8 x2, .int .u8 x3, .int .u8 x4, .int .u8 x5, .int .u8 x6, .int .u8 x7, .int .u8 x8, .int .u8 x9, .int .u8 x10, .int .u8 x11, .int .u8 x12, .int .u8 x13, .int .u8 x14, .int .u8 x15, .bool b, .int .u64 t])).run Try.prog w = .ok () (w.setRow g #[.string c0, .string c1, .string c2, .string c3, .slice p n k, .int .u64 g1, .int .i64 g2, .int .i64 g3, .int .u8 x0, .int .u8 x1, .int .u8 x2, .int .u8 x3, .int .u8 x4, .int .u8 x5, .int .u8 x6, .int .u8 x7, .int .u8 x8, .int .u8 x9, .int .u8 x10, .int .u8 x11, .int .u8 x12, .int .u8 x13, .int .u8 x14, .int .u8 x15, .bool b, .int .u64 t]) := run_store_row info85 h rfl (by simp [Value.oneCell'])
@[go_sem] theorem load48 (w : World) (g : Nat) (h : isRow w g 24) : (load48op (.pointer (some ⟨g, 0, none⟩))).run Try.prog w = .ok (.agg (rowAt w g)) w := run_load_row info48 Try.underlying48 rfl h
@[go_sem] theorem load85 (w : World) (g : Nat) (h : isRow w g 26) : (load85op (.pointer (some ⟨g, 0, none⟩))).run Try.prog w = .ok (.agg (rowAt w g)) w := run_load_row info85 Try.underlying85 rfl h
/-- The claims within an answer. -/
def claimsOf (cs : Array Value) : Value := .agg (cs.toList.take 24).toArray
@[go_sem] theorem claimsOf_mk (c0 c1 c2 c3 : ByteArray) (p : Option Addr) (n k : Nat) (g1 g2 g3 : Int) (x0 x1 x2 x3 x4 x5 x6 x7 x8 x9 x10 x11 x12 x13 x14 x15 : Int) (b : Bool) (t : Int) : claimsOf #[.string c0, .string c1, .string c2, .string c3, .slice p n k, .int .u64 g1, .int .i64 g2, .int .i64 g3, .int .u8 x0, .int .u8 x1, .int .u8 x2, .int .u8 x3, .int .u8 x4, .int .u8 x5, .int .u8 x6, .int .u8 x7, .int .u8 x8, .int .u8 x9, .int .u8 x10, .int .u8 x11, .int .u8 x12, .int .u8 x13, .int .u8 x14, .int .u8 x15, .bool b, .int .u64 t] = .agg #[.string c0, .string c1, .string c2, .string c3, .slice p n k, .int .u64 g1, .int .i64 g2, .int .i64 g3, .int .u8 x0, .int .u8 x1, .int .u8 x2, .int .u8 x3, .int .u8 x4, .int .u8 x5, .int .u8 x6, .int .u8 x7, .int .u8 x8, .int .u8 x9, .int .u8 x10, .int .u8 x11, .int .u8 x12, .int .u8 x13, .int .u8 x14, .int .u8 x15] := rfl
@[go_sem] theorem load48of85 (w : World) (g : Nat) (h : isRow w g 26) : (load48op (.pointer (some ⟨g, 0, none⟩))).run Try.prog w = .ok (claimsOf (rowAt w g)) w := by
  obtain ⟨cs, t, hg, hc⟩ := h
  have hr : rowAt w g = cs := by simp [rowAt, hg]
  rw [hr]
  exact run_loadAt_mid (P := Try.prog) w g 0 48 (cs.toList.take 24) _ (fun j v hv => by
    simp only [Nat.zero_add, World.cell?, hg]
    rw [if_neg (by simp)]
    rw [List.getElem?_take] at hv
    split at hv
    · simpa using hv
    · cases hv) Try.underlying48 rfl (by rw [info48]; simp [hc])
end Go.Proofs.Ytkbbaokllgmhiaa
