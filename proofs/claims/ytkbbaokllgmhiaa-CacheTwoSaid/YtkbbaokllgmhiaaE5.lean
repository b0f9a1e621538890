/- Lists of texts that grow; the tokens of a script. -/
import Derived.Test.YtkbbaokllgmhiaaE4
import Derived.Test.YtkbbaokllgmhiaaH1
namespace Go.Proofs.Ytkbbaokllgmhiaa
open Go.RowKit Go.Maps Go.MuLone Go.Sort Go.Shelf

/-- The slice v is a list of the walk's own (its block is not before base): the texts ls. -/
def Lst (w : World) (base : Nat) (v : Value) (ls : List ByteArray) : Prop := w.ownsRow base 9 1 v ls.length (ls.map Value.string)

theorem Lst.form {w : World} {base : Nat} {v : Value} {ls : List ByteArray} (h : Lst w base v ls) : ∃ p cap, v = .slice p ls.length cap := by
  obtain ⟨_, ⟨rfl, h0⟩ | ⟨g, cap, cur, rfl, _⟩⟩ := h
  · exact ⟨none, 0, by rw [h0]⟩
  · exact ⟨_, cap, rfl⟩
theorem Lst.strs {w : World} {base : Nat} {v : Value} {ls : List ByteArray} (h : Lst w base v ls) : Strs w (fun b => base ≤ b) v ls := by
  obtain ⟨h1, ⟨rfl, h0⟩ | ⟨g, cap, cur, rfl, hb, hg, _, _, _, ht⟩⟩ := id h
  · have : ls = [] := List.length_eq_zero_iff.1 h0
    subst this; exact Strs.nil _ _ _ _
  · refine ⟨_, cap, rfl, fun _ => ⟨g, 0, rfl, hb, (Array.getElem?_eq_some_iff.1 hg).1, fun i hi => ?_⟩⟩
    have hc := World.ownsRow.cellAt h i (by omega)
    rw [Nat.zero_add, hc]
    simp [hi]
theorem Lst.kp {w w' : World} {F : Nat → Prop} {base : Nat} {v : Value} {ls : List ByteArray} (h : Lst w base v ls) (k : Kp F w w') (hv : ∀ b, base ≤ b → ¬ F b) : Lst w' base v ls :=
  ownsRow_kp h k (fun b hb => hv b (World.ownsRow.lt h b hb).1)
theorem Lst.mono {w : World} {base base' : Nat} {v : Value} {ls : List ByteArray} (h : Lst w base v ls) (hb : base' ≤ base) : Lst w base' v ls := by
  obtain ⟨h1, h2 | ⟨g, cap, cur, e, hg, r⟩⟩ := h
  · exact ⟨h1, .inl h2⟩
  · exact ⟨h1, .inr ⟨g, cap, cur, e, Nat.le_trans hb hg, r⟩⟩
theorem Lst.nil (w : World) (base : Nat) : Lst w base (.slice none 0 0) [] := World.ownsRow_nil _ _ _ _
theorem Lst.lit (w : World) (base : Nat) (u : ByteArray) (hb : base ≤ w.heap.size) : Lst (w.alloc (.cells #[.string u] 9)) base (.slice (some ⟨w.heap.size, 0, none⟩) 1 1) [u] := World.ownsRow_lit w #[.string u] 1 hb (by unfold maxLen; omega) rfl

/-- 'append(l, u)'. -/
theorem wpList_app_lst {ops : Array Oper} {rest : List Oper} {o : Oper} {a : Act} {w : World} {Q : Exit → Act → World → Prop} (hgd : o.guard = none) (s x : Operand)
    (ho : o.op = .call { callee := .builtin .append, args := #[s, x], argTypes := #[30, 30] })
    (v : Value) (base : Nat) (ls : List ByteArray) (hs : a.eval s = v) (hown : Lst w base v ls) (hbase : base ≤ w.heap.size)
    (g0 c0 : Nat) (hx : a.eval x = .slice (some ⟨g0, 0, none⟩) 1 c0) (u : ByteArray) (hu : w.cell? ⟨g0, 0, none⟩ = some (.string u)) (hn : ls.length ≤ 4294967296)
    (h : ∀ g cap w', Lst w' base (.slice (some ⟨g, 0, none⟩) (ls.length + 1) cap) (ls ++ [u]) → w.grownBy w' v.ownBlock → base ≤ g →
      wpList Try.prog ops Q rest (a.put o.dst (.slice (some ⟨g, 0, none⟩) (ls.length + 1) cap)) w') : wpList Try.prog ops Q (o :: rest) a w := by
  obtain ⟨i0, hi0, hz0, hz1, hz2⟩ := info_parts info9
  refine wpList_plain hgd fun K hK => wp_append_lies w s x 30 ho base 9 i0 _ 1 16 Try.underlying30 hi0 hz0 hz1 hz2 rfl (by omega) v ls.length _ hs hown ⟨g0, 0, none⟩ 1 c0 [.string u] hx rfl ?_ ?_ (by omega) (by unfold maxLen; omega) (by omega) hbase w.heap.size rfl (fun g cap w' h1 h2 h3 h4 => hK _ _ (h g cap w' ?_ h2 ?_))
  · intro j y hy
    match j, hy with
    | 0, hy => simp at hy; subst hy; simpa [Addr.add] using hu
    | j + 1, hy => simp at hy
  · intro y hy; simp at hy; subst hy; rfl
  · unfold Lst; simpa using h1
  · exact (World.ownsRow.lt h1 g rfl).1

theorem Inp.kp {w w' : World} {F : Nat → Prop} {a : Option Addr} {n : Nat} (h : Inp w a n) (k : Kp F w w') (hv : ∀ b, b < w.heap.size → ¬ F b) : Inp w' a n := by
  intro hn
  obtain ⟨b, off, ha, hb, hx⟩ := h hn
  exact ⟨b, off, ha, Nat.lt_of_lt_of_le hb k.size, fun i hi => let ⟨x, h1, h2⟩ := hx i hi; ⟨x, (k.cell (a := ⟨b, off + i, none⟩) hb (hv b hb)).trans h1, h2⟩⟩

set_option maxHeartbeats 1600000 in
theorem tokens_of {w : World} (most : Value) (a : Option Addr) (n ca : Nat) (sv : Value) (hi : Inp w a n) (hn : n ≤ maxLen) :
    Calls Try.prog 14 #[.agg #[most, .slice a n ca, sv]] w fun e w' => ∃ p cap ls, e = .returned (.slice p ls.length cap) ∧ Lst w' w.heap.size (.slice p ls.length cap) ls ∧ 0 < ls.length ∧ ls.length ≤ 61 ∧ (∀ x ∈ ls, x.size ≤ 3000) ∧ Below w.heap.size w w' := by
  unfold maxLen at hn
  go_enter Try.func14, Try.ntmps14
  go_wp2
  go_loopw [3, 4] (fun v i wr => ∃ k p cap ls, k ≤ 60 ∧ k ≤ n ∧ ls.length = k + 1 ∧ (∀ x ∈ ls, x.size ≤ 3000) ∧ i = .int .i64 (k : Int) ∧ v = .slice p ls.length cap ∧ Lst wr (w.heap.size + 1) (.slice p ls.length cap) ls ∧ Kp (fun b => w.heap.size ≤ b) w wr ∧ hasRow wr w.heap.size #[most, .slice a n ca, sv]) (fun _ i _ => 60 - (intOf i).toNat)
  case atStart =>
    refine ⟨0, some ⟨w.heap.size + 1, 0, none⟩, 1, [⟨#[116]⟩], by omega, by omega, rfl, ?_, rfl, rfl, ?_, ((Kp.refl _ w).alloc _).alloc _, (hasRow_new w _ 41).alloc _⟩
    · intro x hx; simp at hx; subst hx; decide
    · have := Lst.lit (w.alloc (.cells #[most, .slice a n ca, sv] 41)) (w.heap.size + 1) ⟨#[116]⟩ (by simp)
      rw [show (w.alloc (.cells #[most, .slice a n ca, sv] 41)).heap.size = w.heap.size + 1 by simp] at this
      exact this
  case round =>
    obtain ⟨k, p, cap, ls, hk1, hk2, hls, hsz, rfl, rfl, hL, hK, hR⟩ := hrel
    have r1 := hR.cell 1
    simp at r1
    have hRl := hR.lt
    have HL := Lib.hid hL
    have HK := Lib.hid hK
    have HR := Lib.hid hR
    have HSZ := Lib.hid hsz
    have HLS := Lib.hid hls
    have hlm : ls.length ≤ 61 := by omega
    have hlp : 0 < ls.length := by omega
    have HI := Lib.hid hi
    clear hL hK hR hsz hi hls
    by_cases c1 : k < n
    · have g1 : (k : Int) < (n : Int) := by omega
      by_cases c2 : k < 60
      · have g2 : (k : Int) < 60 := by omega
        obtain ⟨b, off, rfl, hb, hx⟩ := HI.out.kp HK.out (fun b hb e => Nat.lt_irrefl _ (Nat.lt_of_lt_of_le hb e)) (by omega)
        obtain ⟨x, hx1, hx2⟩ := hx k c1
        unfold maxLen at hx2
        clear hx
        by_cases c3 : 3000 < x.size
        · have g3 : (3000 : Int) < (x.size : Int) := by omega
          go_wp2_with (at_builtin; refine wpList_app_lst rfl _ _ rfl _ (w.heap.size + 1) ls rfl (World.ownsRow.alloc HL.out _) (by simp; omega) wr.heap.size 1 rfl (x.extract 0 3000) ?d1 (by omega) ?_; rotate_left; intro g cap' w1 hL1 hgr hg)
          case d1 => exact (World.cell?_alloc_at _ _ _ _ (by simp)).trans rfl
          have hLs : (ls ++ [x.extract 0 3000]).length = ls.length + 1 := by simp
          have hK1 := ((HK.out.alloc (.cells #[.string (x.extract 0 3000)] 9)).grown hgr (fun b hb => .inr (by have := (World.ownsRow.lt HL.out b hb).1; omega)))
          have hR1 := (HR.out.alloc (.cells #[.string (x.extract 0 3000)] 9)).of_same (hgr.block w.heap.size (by simp; omega) (fun e => absurd (World.ownsRow.lt HL.out _ e.symm).1 (by omega)))
          have HF := Lib.hid (And.intro hL1 (And.intro hK1 hR1))
          clear hL1 hgr hK1 hR1
          go_roundw
          case rel => exact ⟨k + 1, _, _, ls ++ [x.extract 0 3000], by omega, by omega, by rw [hLs, HLS.out], fun z hz => by rcases List.mem_append.1 hz with hz | hz; exact HSZ.out z hz; rw [List.mem_singleton.1 hz]; simp; omega, by go_num, by rw [hLs], by rw [hLs]; exact HF.out.1, HF.out.2.1, HF.out.2.2⟩
          case measure => simp [intOf]; omega
        · have g3 : ¬ (3000 : Int) < (x.size : Int) := by omega
          go_wp2_with (at_builtin; refine wpList_app_lst rfl _ _ rfl _ (w.heap.size + 1) ls rfl (World.ownsRow.alloc HL.out _) (by simp; omega) wr.heap.size 1 rfl x ?d1 (by omega) ?_; rotate_left; intro g cap' w1 hL1 hgr hg)
          have hLs : (ls ++ [x]).length = ls.length + 1 := by simp
          have hK1 := ((HK.out.alloc (.cells #[.string x] 9)).grown hgr (fun b hb => .inr (by have := (World.ownsRow.lt HL.out b hb).1; omega)))
          have hR1 := (HR.out.alloc (.cells #[.string x] 9)).of_same (hgr.block w.heap.size (by simp; omega) (fun e => absurd (World.ownsRow.lt HL.out _ e.symm).1 (by omega)))
          have HF := Lib.hid (And.intro hL1 (And.intro hK1 hR1))
          clear hL1 hgr hK1 hR1
          go_roundw
          case rel => exact ⟨k + 1, _, _, ls ++ [x], by omega, by omega, by rw [hLs, HLS.out], fun z hz => by rcases List.mem_append.1 hz with hz | hz; exact HSZ.out z hz; rw [List.mem_singleton.1 hz]; omega, by go_num, by rw [hLs], by rw [hLs]; exact HF.out.1, HF.out.2.1, HF.out.2.2⟩
          case measure => simp [intOf]; omega
      · have g2 : ¬ (k : Int) < 60 := by omega
        go_wp2
        go_ret
        exact ⟨p, cap, ls, rfl, HL.out.mono (by omega), by omega, by omega, HSZ.out, Kp.below HK.out (Nat.le_refl _) (fun b hb e => by omega)⟩
    · have g1 : ¬ (k : Int) < (n : Int) := by omega
      go_wp2
      go_ret
      exact ⟨p, cap, ls, rfl, HL.out.mono (by omega), by omega, by omega, HSZ.out, Kp.below HK.out (Nat.le_refl _) (fun b hb e => by omega)⟩
end Go.Proofs.Ytkbbaokllgmhiaa
