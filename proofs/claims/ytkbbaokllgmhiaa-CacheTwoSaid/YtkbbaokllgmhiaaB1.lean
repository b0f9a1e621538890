/- Lists of texts in memory; two that hold the same are told alike (EqStrings). -/
import Derived.Test.YtkbbaokllgmhiaaRow
namespace Go.Proofs.Ytkbbaokllgmhiaa
open Go.RowKit Go.Maps Go.MuLone

theorem cell_old {w : World} {o : Obj} {c i : Nat} {v : Value} (h : w.cell? ⟨c, i, none⟩ = some v) : (w.alloc o).cell? ⟨c, i, none⟩ = some v := by
  rw [World.cell?_alloc_past _ _ _ (World.block_lt_of_cell? _ _ h), h]
theorem frozen_old {w : World} {o : Obj} {c i : Nat} (hc : c < w.heap.size) (h : w.frozen? ⟨c, i, none⟩ = false) : (w.alloc o).frozen? ⟨c, i, none⟩ = false := by
  rw [World.frozen?_alloc_past _ _ _ hc, h]

theorem cells_of_block {w : World} {g : Nat} {C : Array Value} {T : TypeId} (h : w.heap[g]? = some (.cells C T (0, 0))) : (∀ i, w.cell? ⟨g, i, none⟩ = C[i]?) ∧ (∀ i, w.frozen? ⟨g, i, none⟩ = false) ∧ g < w.heap.size :=
  ⟨fun i => by simp [World.cell?, h], fun i => by simp [World.frozen?, h], (Array.getElem?_eq_some_iff.1 h).1⟩
theorem block_new (w : World) (o : Obj) : (w.alloc o).heap[w.heap.size]? = some o := by
  show (w.heap.push o)[w.heap.size]? = _
  simp
theorem block_old (w : World) (o : Obj) {k : Nat} (h : k < w.heap.size) : (w.alloc o).heap[k]? = w.heap[k]? := Below.heap_alloc _ _ _ h
theorem block_new1 (w : World) (o p : Obj) : ((w.alloc o).alloc p).heap[w.heap.size]? = some o := (block_old _ _ (by simp)).trans (block_new w o)
theorem block_new2 (w : World) (o p : Obj) : ((w.alloc o).alloc p).heap[w.heap.size + 1]? = some p := by have := block_new (w.alloc o) p; simpa using this
/-- A store into a block that is known whole. -/
theorem block_set {w : World} {g i : Nat} {C : Array Value} {T : TypeId} {f : Nat × Nat} (h : w.heap[g]? = some (.cells C T f)) (v : Value) : (w.setCell ⟨g, i, none⟩ v).heap[g]? = some (.cells (C.setIfInBounds i v) T f) := by
  simp [World.setCell, Array.getElem?_modify, h]
theorem block_set_other {w : World} {g i k : Nat} (h : k ≠ g) (v : Value) : (w.setCell ⟨g, i, none⟩ v).heap[k]? = w.heap[k]? := Below.heap_setCell _ _ _ _ h

/-- Claims that are nought, as a block. -/
abbrev z48 : Obj := .cells #[.string ⟨#[]⟩, .string ⟨#[]⟩, .string ⟨#[]⟩, .string ⟨#[]⟩, .slice none 0 0, .int .u64 0, .int .i64 0, .int .i64 0, .int .u8 0, .int .u8 0, .int .u8 0, .int .u8 0, .int .u8 0, .int .u8 0, .int .u8 0, .int .u8 0, .int .u8 0, .int .u8 0, .int .u8 0, .int .u8 0, .int .u8 0, .int .u8 0, .int .u8 0, .int .u8 0] 48

theorem isRow.setRow {w : World} {g n : Nat} (h : isRow w g n) (cs : Array Value) : hasRow (w.setRow g cs) g cs := by
  obtain ⟨ds, t, h, _⟩ := h; exact ⟨t, setRow_heap _ _ _ _ _ _ h⟩

/-- What a function hands back whose first result is a row of its own. -/
theorem results_row_slot {P : Program} {fn : Func} {p q : Tmp} {ty : TypeId} (h : fn.results = #[.cell p ty, .tmp q]) (tmps : Array Value) {w : World} {g : Nat} {cs : Array Value} {d : TypeDesc}
    (hp : tmps.getD p undef = .pointer (some ⟨g, 0, none⟩)) (hg : hasRow w g cs)
    (hu : P.underlying ty = some d) (hd : (match d with | .struct _ | .array _ _ => true | _ => false) = true) (hi : (P.info? ty).map (·.size) = some cs.size) :
    (results fn tmps).run P w = .ok (.tuple #[.agg cs, tmps.getD q undef]) w := by
  obtain ⟨t, hg⟩ := hg
  have hp' : tmps[p]?.getD undef = .pointer (some ⟨g, 0, none⟩) := by simpa using hp
  simp [results, h, hp', asAddr, run_loadVar_row w g t ty cs (0, 0) d hg hu hd hi]

theorem results_row_slots {P : Program} {fn : Func} {p q r : Tmp} {ty : TypeId} (h : fn.results = #[.cell p ty, .tmp q, .tmp r]) (tmps : Array Value) {w : World} {g : Nat} {cs : Array Value} {d : TypeDesc}
    (hp : tmps.getD p undef = .pointer (some ⟨g, 0, none⟩)) (hg : hasRow w g cs)
    (hu : P.underlying ty = some d) (hd : (match d with | .struct _ | .array _ _ => true | _ => false) = true) (hi : (P.info? ty).map (·.size) = some cs.size) :
    (results fn tmps).run P w = .ok (.tuple #[.agg cs, tmps.getD q undef, tmps.getD r undef]) w := by
  obtain ⟨t, hg⟩ := hg
  have hp' : tmps[p]?.getD undef = .pointer (some ⟨g, 0, none⟩) := by simpa using hp
  simp [results, h, hp', asAddr, run_loadVar_row w g t ty cs (0, 0) d hg hu hd hi]

/-- The slice value v holds the texts xs, in a block of F. -/
def Strs (w : World) (F : Nat → Prop) (v : Value) (xs : List ByteArray) : Prop :=
  ∃ a cap, v = .slice a xs.length cap ∧ (xs ≠ [] → ∃ b off, a = some ⟨b, off, none⟩ ∧ F b ∧ b < w.heap.size ∧ ∀ i (h : i < xs.length), w.cell? ⟨b, off + i, none⟩ = some (.string xs[i]))

theorem Strs.keep {w w' : World} {F G : Nat → Prop} {v : Value} {xs : List ByteArray} (h : Strs w F v xs) (k : Kp G w w') (hd : ∀ b, F b → ¬ G b) : Strs w' F v xs := by
  obtain ⟨a, cap, hv, hx⟩ := h
  refine ⟨a, cap, hv, fun hne => ?_⟩
  obtain ⟨b, off, ha, hF, hb, hc⟩ := hx hne
  exact ⟨b, off, ha, hF, Nat.lt_of_lt_of_le hb k.size, fun i hi => (k.cell (a := ⟨b, off + i, none⟩) hb (hd b hF)).trans (hc i hi)⟩

theorem Strs.mono {w : World} {F G : Nat → Prop} {v : Value} {xs : List ByteArray} (h : Strs w F v xs) (hd : ∀ b, F b → G b) : Strs w G v xs := by
  obtain ⟨a, cap, hv, hx⟩ := h
  exact ⟨a, cap, hv, fun hne => let ⟨b, off, ha, hF, r⟩ := hx hne; ⟨b, off, ha, hd b hF, r⟩⟩

theorem bset_getD (xs : List ByteArray) (i : Nat) (h : i < xs.length) : xs[i] = xs.getD i ByteArray.empty := by simp [List.getD, h]

set_option maxHeartbeats 800000 in
theorem eqStrings_same (a b : Nat) (oa ob ca cb : Nat) (xs : List ByteArray) (w : World) (hm : xs.length ≤ 1000000)
    (ha : ∀ i, i < xs.length → w.cell? ⟨a, oa + i, none⟩ = some (.string (xs.getD i ByteArray.empty))) (hb : ∀ i, i < xs.length → w.cell? ⟨b, ob + i, none⟩ = some (.string (xs.getD i ByteArray.empty))) :
    Calls Try.prog 20 #[.slice (some ⟨a, oa, none⟩) xs.length ca, .slice (some ⟨b, ob, none⟩) xs.length cb] w fun e w' => e = .returned (.bool true) ∧ ∃ n, w' = w.drewN n := by
  go_enter Try.func20, Try.ntmps20
  go_wp2
  go_loopw [5] (fun i wr => ∃ k n : Nat, k ≤ xs.length ∧ i = .int .i64 k ∧ wr = w.drewN n) (fun i _ => xs.length - (intOf i).toNat)
  case atStart => exact ⟨0, 0, by omega, rfl, rfl⟩
  case round =>
    obtain ⟨k, n, hk, rfl, rfl⟩ := hrel
    by_cases hlt : k < xs.length
    · have h1 := ha k hlt
      have h2 := hb k hlt
      clear ha hb
      have g1 : (0 : Int) ≤ (k : Int) := by omega
      have g2 : (k : Int) < (xs.length : Int) := by omega
      go_wp2
      go_quiet (fail)
      go_wp2
      go_roundw
      case rel => exact ⟨k + 1, _, by omega, by go_num, rfl⟩
      case measure => simp [intOf]; omega
    · go_wp2
      go_ret
      exact ⟨rfl, _, rfl⟩

set_option maxHeartbeats 800000 in
theorem eqStrings_none (pa pb : Option Addr) (ca cb : Nat) (w : World) :
    Calls Try.prog 20 #[.slice pa 0 ca, .slice pb 0 cb] w fun e w' => e = .returned (.bool true) ∧ ∃ n, w' = w.drewN n := by
  go_enter Try.func20, Try.ntmps20
  go_wp2
  go_loop [5] (fun i => i = .int .i64 0) (fun _ => 0)
  case atStart => rfl
  case round =>
    obtain rfl := hrel
    go_wp2
    go_ret
    exact ⟨rfl, 0, rfl⟩

theorem eqStrings_strs {w : World} {F G : Nat → Prop} {u v : Value} {xs : List ByteArray} (hu : Strs w F u xs) (hv : Strs w G v xs) (hm : xs.length ≤ 1000000) :
    Calls Try.prog 20 #[u, v] w fun e w' => e = .returned (.bool true) ∧ ∃ n, w' = w.drewN n := by
  obtain ⟨a, ca, rfl, ha⟩ := hu
  obtain ⟨b, cb, rfl, hb⟩ := hv
  by_cases hx : xs = []
  · subst hx; exact eqStrings_none _ _ _ _ _
  · obtain ⟨a, oa, rfl, _, _, h1⟩ := ha hx
    obtain ⟨b, ob, rfl, _, _, h2⟩ := hb hx
    exact eqStrings_same a b oa ob ca cb xs w hm (fun i hi => by rw [h1 i hi, bset_getD]) (fun i hi => by rw [h2 i hi, bset_getD])

/-- Claims as a value: what is nought in all that the laws make is nought here. -/
abbrev clm (iss sub : ByteArray) (sl : Value) (g e : Int) : Value :=
  .agg #[.string iss, .string sub, .string ⟨#[]⟩, .string ⟨#[]⟩, sl, .int .u64 g, .int .i64 0, .int .i64 e, .int .u8 0, .int .u8 0, .int .u8 0, .int .u8 0, .int .u8 0, .int .u8 0, .int .u8 0, .int .u8 0, .int .u8 0, .int .u8 0, .int .u8 0, .int .u8 0, .int .u8 0, .int .u8 0, .int .u8 0, .int .u8 0]

end Go.Proofs.Ytkbbaokllgmhiaa
