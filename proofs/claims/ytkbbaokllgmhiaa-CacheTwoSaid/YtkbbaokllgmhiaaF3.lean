/- The laws' own source: its Version, fact, set. -/
import Derived.Test.YtkbbaokllgmhiaaF2
namespace Go.Proofs.Ytkbbaokllgmhiaa
open Go.RowKit Go.Maps Go.MuLone Go.Sort Go.Shelf

theorem results_row1 {P : Program} {fn : Func} {p : Tmp} {ty : TypeId} (h : fn.results = #[.cell p ty]) (tmps : Array Value) {w : World} {g : Nat} {cs : Array Value} {d : TypeDesc}
    (hp : tmps.getD p undef = .pointer (some ⟨g, 0, none⟩)) (hg : hasRow w g cs)
    (hu : P.underlying ty = some d) (hd : (match d with | .struct _ | .array _ _ => true | _ => false) = true) (hi : (P.info? ty).map (·.size) = some cs.size) :
    (results fn tmps).run P w = .ok (.agg cs) w := by
  obtain ⟨t, hg⟩ := hg
  have hp' : tmps[p]?.getD undef = .pointer (some ⟨g, 0, none⟩) := by simpa using hp
  simp [results, h, hp', asAddr, run_loadVar_row w g t ty cs (0, 0) d hg hu hd hi]

/-- A source as cells. -/
abbrev srow (ver : Int) (facts asked : Value) (seen : Int) (told kept : Value) : Array Value := #[.int .u64 ver, .int .i64 0, .int .i64 0, facts, asked, .int .i64 seen, told, kept]

set_option maxHeartbeats 800000 in
theorem srcVersion {w : World} {S : Nat} {ver seen : Int} {facts asked told kept : Value} (h : hasRow w S (srow ver facts asked seen told kept)) (h0 : 0 ≤ seen) (h1 : seen ≤ 1000) :
    Calls Try.prog 92 #[.pointer (some ⟨S, 0, none⟩)] w fun e w' => e = .returned (.tuple #[.int .u64 ver, .int .i64 0]) ∧ w' = w.setCell ⟨S, 5, none⟩ (.int .i64 (seen + 1)) := by
  have c0 : w.cell? ⟨S, 0, none⟩ = some (.int .u64 ver) := h.cell 0
  have c1 : w.cell? ⟨S, 1, none⟩ = some (.int .i64 0) := h.cell 1
  have c5 : w.cell? ⟨S, 5, none⟩ = some (.int .i64 seen) := h.cell 5
  have f5 := h.frozen 5
  have hl := h.lt
  clear h
  go_enter Try.func92, Try.ntmps92
  go_wp2
  go_ret2
  exact ⟨rfl, rfl⟩

set_option maxRecDepth 100000 in
set_option maxHeartbeats 1600000 in
theorem fact1 {w : World} {S f fc : Nat} {ver seen : Int} {asked told kept : Value} {te : Tell} {p : Option Addr} {n c : Nat} (tok : ByteArray) (h : hasRow w S (srow ver (.slice (some ⟨f, 0, none⟩) 1 fc) asked seen told kept)) (hf : hasRow w f (fcells tok te p n c)) :
    Calls Try.prog 94 #[.pointer (some ⟨S, 0, none⟩), .string tok] w fun e w' => e = .returned (.agg (fcells tok te p n c)) ∧ Below w.heap.size w w' := by
  have c3 := h.cell 3
  simp at c3
  have hl := h.lt
  have i1 : isRow w f 26 := hf.is
  have r1 := hf.rowAt
  have f0 : w.cell? ⟨f, 0, none⟩ = some (.string tok) := hf.cell 0
  have fl := hf.lt
  have ht : (tok.toList == tok.toList) = true := by simp
  clear h hf
  go_enter Try.func94, Try.ntmps94
  go_wp2
  go_loop [5] (fun i => i = .int .i64 0) (fun _ => 0)
  case atStart => rfl
  case round =>
    obtain rfl := hrel
    go_wp2
    exact bodyPost_ret_by (v := .agg (fcells tok te p n c)) (results_row1 (p := 4) (ty := 50) rfl _ rfl (hasRow_new w _ 50) Try.underlying50 rfl (by kernel_rfl)) rfl ⟨rfl, (Below.refl _ _).alloc (Nat.le_refl _) _⟩

set_option maxRecDepth 100000 in
set_option maxHeartbeats 1600000 in
theorem fact0 {w : World} {S : Nat} {ver seen : Int} {asked told kept : Value} (tok : ByteArray) (h : hasRow w S (srow ver (.slice none 0 0) asked seen told kept)) :
    Calls Try.prog 94 #[.pointer (some ⟨S, 0, none⟩), .string tok] w fun e w' => e = .returned (.agg (fcells tok ⟨⟨#[]⟩, ⟨#[]⟩, [], 0, 0, false⟩ none 0 0)) ∧ Below w.heap.size w w' := by
  have c3 := h.cell 3
  simp at c3
  have hl := h.lt
  clear h
  go_enter Try.func94, Try.ntmps94
  go_wp2
  go_loop [5] (fun i => i = .int .i64 0) (fun _ => 0)
  case atStart => rfl
  case round =>
    obtain rfl := hrel
    go_wp2
    exact bodyPost_ret_by (v := .agg (fcells tok ⟨⟨#[]⟩, ⟨#[]⟩, [], 0, 0, false⟩ none 0 0)) (results_row1 (p := 4) (ty := 50) rfl _ rfl (hasRow_new w _ 50) Try.underlying50 rfl (by kernel_rfl)) rfl ⟨rfl, (Below.refl _ _).alloc (Nat.le_refl _) _⟩
end Go.Proofs.Ytkbbaokllgmhiaa
