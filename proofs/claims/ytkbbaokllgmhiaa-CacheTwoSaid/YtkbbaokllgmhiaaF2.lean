/- LendTexts of lists of none and of one text. -/
import Derived.Test.YtkbbaokllgmhiaaF1
namespace Go.Proofs.Ytkbbaokllgmhiaa
open Go.RowKit Go.Maps Go.MuLone Go.Sort Go.Shelf

theorem Lst.cap {w : World} {base n cap : Nat} {p : Option Addr} {ls : List ByteArray} (h : Lst w base (.slice p n cap) ls) : ls.length ≤ cap ∧ cap ≤ maxLen := by
  obtain ⟨_, ⟨e, h0⟩ | ⟨g, cap', cur, e, _, _, h1, h2, _⟩⟩ := h
  · cases e; exact ⟨by omega, by unfold maxLen; omega⟩
  · cases e; exact ⟨h1, h2⟩
theorem Lst.made (w : World) (base n : Nat) (cs : Array Value) (hb : base ≤ w.heap.size) (hm : n ≤ maxLen) (hs : cs.size = n) : Lst (w.alloc (.cells cs 9)) base (.slice (some ⟨w.heap.size, 0, none⟩) 0 n) [] := World.ownsRow_made w cs n hb hm (by omega)

theorem Strs.first {w : World} {F : Nat → Prop} {p : Option Addr} {n cap cap' : Nat} {x : ByteArray} {ls : List ByteArray} (h : Strs w F (.slice p n cap) ls) (h0 : ls[0]? = some x) : Strs w F (.slice p 1 cap') [x] := by
  obtain ⟨a, c, e, hx⟩ := h
  cases e
  obtain ⟨hl, hv⟩ := List.getElem?_eq_some_iff.1 h0
  obtain ⟨b, off, ha, hF, hb, hc⟩ := hx (fun e => by simp [e] at hl)
  exact ⟨_, cap', rfl, fun _ => ⟨b, off, ha, hF, hb, fun i hi => by
    have : i = 0 := by simp at hi; exact hi
    subst this
    rw [hc 0 hl, hv]; rfl⟩⟩
theorem mk10 (w : World) : (Instr.makeSlice 30 (.int .i64 0) (.int .i64 10)).run Try.prog w = .ok (.slice (some ⟨w.heap.size, 0, none⟩) 0 10) (w.alloc (.cells #[.string ⟨#[]⟩, .string ⟨#[]⟩, .string ⟨#[]⟩, .string ⟨#[]⟩, .string ⟨#[]⟩, .string ⟨#[]⟩, .string ⟨#[]⟩, .string ⟨#[]⟩, .string ⟨#[]⟩, .string ⟨#[]⟩] 9)) := by kernel_rfl
theorem mk9 (w : World) : (Instr.makeSlice 30 (.int .i64 0) (.int .i64 9)).run Try.prog w = .ok (.slice (some ⟨w.heap.size, 0, none⟩) 0 9) (w.alloc (.cells #[.string ⟨#[]⟩, .string ⟨#[]⟩, .string ⟨#[]⟩, .string ⟨#[]⟩, .string ⟨#[]⟩, .string ⟨#[]⟩, .string ⟨#[]⟩, .string ⟨#[]⟩, .string ⟨#[]⟩] 9)) := by kernel_rfl

set_option maxRecDepth 100000 in
set_option maxHeartbeats 1600000 in
theorem lend1 (b c : Nat) (x : ByteArray) (w : World) (hx : w.cell? ⟨b, 0, none⟩ = some (.string x)) : Calls Try.prog 95 #[.slice (some ⟨b, 0, none⟩) 1 c] w fun e w' => ∃ g cap, e = .returned (.slice (some ⟨g, 0, none⟩) 1 cap) ∧ Strs w' (fun b => w.heap.size ≤ b) (.slice (some ⟨g, 0, none⟩) 1 cap) [x] ∧ Below w.heap.size w w' := by
  have hbl := World.block_lt_of_cell? _ _ hx
  have hm := mk10 w
  go_enter Try.func95, Try.ntmps95
  go_wp2_with (at_builtin; refine wpList_app_lst rfl _ _ rfl _ w.heap.size [] rfl (Lst.made w w.heap.size 10 _ (Nat.le_refl _) (by unfold maxLen; omega) rfl) (by simp) b c rfl x (cell_old hx) (by simp) ?_; intro g cap' w1 hL1 hgr hg; have HL := Lib.hid hL1; have HG := Lib.hid (((Kp.refl (fun b => w.heap.size ≤ b) w).alloc _).grown hgr (fun b hb => by cases hb; exact .inl (Nat.le_refl _))); clear hL1 hgr)
  go_loopw [3, 4] (fun v i wr => ∃ (k : Nat) (ls : List ByteArray) (g cap : Nat), k ≤ 9 ∧ ls.length = k + 1 ∧ ls[0]? = some x ∧ i = .int .i64 (k : Int) ∧ v = .slice (some ⟨g, 0, none⟩) ls.length cap ∧ Lst wr w.heap.size (.slice (some ⟨g, 0, none⟩) ls.length cap) ls ∧ Kp (fun b => w.heap.size ≤ b) w wr) (fun _ i _ => 9 - (intOf i).toNat)
  case atStart => exact ⟨0, [x], _, _, by omega, rfl, rfl, rfl, rfl, HL.out, HG.out⟩
  case round =>
    clear hm hx
    obtain ⟨k, ls, g1, cap, hk, hls, h0, rfl, rfl, hL, hK⟩ := hrel
    have HL := Lib.hid hL
    have HK := Lib.hid hK
    have HLS := Lib.hid hls
    have H0 := Lib.hid h0
    have hlm : ls.length ≤ 10 := by omega
    have hlp : 0 < ls.length := by omega
    have hz := hK.size
    obtain ⟨hc1, hc2⟩ := hL.cap
    clear hL hK hls h0
    by_cases c1 : k < 9
    · have g1 : (k : Int) < 9 := by omega
      go_wp2_with (at_builtin; refine wpList_app_lst rfl _ _ rfl _ w.heap.size ls rfl (World.ownsRow.alloc HL.out _) (by simp; omega) wr.heap.size 1 rfl ⟨#[109, 97, 114, 107]⟩ ?d1 (by omega) ?_; rotate_left; intro g cap' w1 hL1 hgr hg)
      case d1 => exact (World.cell?_alloc_at _ _ _ _ (by simp)).trans rfl
      have hlen : (ls ++ [(⟨#[109, 97, 114, 107]⟩ : ByteArray)]).length = ls.length + 1 := by simp
      have HF := Lib.hid (And.intro hL1 ((HK.out.alloc (.cells #[.string ⟨#[109, 97, 114, 107]⟩] 9)).grown hgr (fun b hb => .inl (World.ownsRow.lt HL.out b hb).1)))
      clear hL1 hgr
      go_roundw
      case rel => exact ⟨k + 1, ls ++ [⟨#[109, 97, 114, 107]⟩], g, cap', by omega, by rw [hlen, HLS.out], by rw [List.getElem?_append_left (by omega)]; exact H0.out, by go_num, by rw [hlen], by rw [hlen]; exact HF.out.1, HF.out.2⟩
      case measure => simp [intOf]; omega
    · have g1 : ¬ (k : Int) < 9 := by omega
      have q1 : (1 : Int) ≤ (cap : Int) := by omega
      unfold maxLen at hc2
      go_wp2
      go_ret
      exact ⟨_, _, rfl, HL.out.strs.first H0.out, Kp.below HK.out (Nat.le_refl _) (fun b hb e => by omega)⟩
set_option maxRecDepth 100000 in
set_option maxHeartbeats 1600000 in
theorem lend0 (w : World) : Calls Try.prog 95 #[.slice none 0 0] w fun e w' => ∃ p cap, e = .returned (.slice p 0 cap) ∧ Below w.heap.size w w' := by
  have hm := mk9 w
  go_enter Try.func95, Try.ntmps95
  go_wp2
  go_loopw [3, 4] (fun v i wr => ∃ (k : Nat) (ls : List ByteArray) (g cap : Nat), k ≤ 9 ∧ ls.length = k ∧ i = .int .i64 (k : Int) ∧ v = .slice (some ⟨g, 0, none⟩) ls.length cap ∧ Lst wr w.heap.size (.slice (some ⟨g, 0, none⟩) ls.length cap) ls ∧ Kp (fun b => w.heap.size ≤ b) w wr) (fun _ i _ => 9 - (intOf i).toNat)
  case atStart => exact ⟨0, [], _, _, by omega, rfl, rfl, rfl, Lst.made w w.heap.size 9 _ (Nat.le_refl _) (by unfold maxLen; omega) rfl, (Kp.refl (fun b => w.heap.size ≤ b) w).alloc _⟩
  case round =>
    clear hm
    obtain ⟨k, ls, g1, cap, hk, hls, rfl, rfl, hL, hK⟩ := hrel
    have HL := Lib.hid hL
    have HK := Lib.hid hK
    have HLS := Lib.hid hls
    have hlm : ls.length ≤ 10 := by omega
    have hz := hK.size
    obtain ⟨hc1, hc2⟩ := hL.cap
    clear hL hK hls
    by_cases c1 : k < 9
    · have g1 : (k : Int) < 9 := by omega
      go_wp2_with (at_builtin; refine wpList_app_lst rfl _ _ rfl _ w.heap.size ls rfl (World.ownsRow.alloc HL.out _) (by simp; omega) wr.heap.size 1 rfl ⟨#[109, 97, 114, 107]⟩ ?d1 (by omega) ?_; rotate_left; intro g cap' w1 hL1 hgr hg)
      case d1 => exact (World.cell?_alloc_at _ _ _ _ (by simp)).trans rfl
      have hlen : (ls ++ [(⟨#[109, 97, 114, 107]⟩ : ByteArray)]).length = ls.length + 1 := by simp
      have HF := Lib.hid (And.intro hL1 ((HK.out.alloc (.cells #[.string ⟨#[109, 97, 114, 107]⟩] 9)).grown hgr (fun b hb => .inl (World.ownsRow.lt HL.out b hb).1)))
      clear hL1 hgr
      go_roundw
      case rel => exact ⟨k + 1, ls ++ [⟨#[109, 97, 114, 107]⟩], g, cap', by omega, by rw [hlen, HLS.out], by go_num, by rw [hlen], by rw [hlen]; exact HF.out.1, HF.out.2⟩
      case measure => simp [intOf]; omega
    · have g1 : ¬ (k : Int) < 9 := by omega
      have q1 : (0 : Int) ≤ (cap : Int) := by omega
      unfold maxLen at hc2
      go_wp2
      go_ret
      exact ⟨⟨_, _, rfl⟩, Kp.below HK.out (Nat.le_refl _) (fun b hb e => by omega)⟩
end Go.Proofs.Ytkbbaokllgmhiaa
