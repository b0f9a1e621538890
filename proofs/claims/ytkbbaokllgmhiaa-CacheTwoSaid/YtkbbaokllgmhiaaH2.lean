/- A cache over an honest source in a law: what is kept from step to step. -/
import Derived.Test.YtkbbaokllgmhiaaG5
import Derived.Test.YtkbbaokllgmhiaaH1
namespace Go.Proofs.Ytkbbaokllgmhiaa
open Go.RowKit Go.Maps Go.MuLone Go.Sort Go.Shelf

/-- A cache (block c) over an honest source (block S): its state st, the source's version, n questions that went to the source, k questions in all; X: blocks that are none of theirs; all lies behind w. -/
structure RunV (w wx : World) (c S : Nat) (most ver : Int) (st : CSt) (n : Nat) (k : Int) (X : Nat → Prop) : Prop where
  ex : ∃ F G, CacheI wx F c (hon S) most st ∧ HonI wx G S ver n ∧ (∀ b, F b → ¬ G b) ∧ (∀ b, F b → w.heap.size ≤ b ∧ ¬ X b) ∧ (∀ b, G b → w.heap.size ≤ b ∧ ¬ X b)
  hh : Hon st
  fits : Fits st k
  kp : Kp (fun b => w.heap.size ≤ b) w wx
  lt : ∀ b, X b → w.heap.size ≤ b ∧ b < wx.heap.size

section
variable {w wx w' : World} {c c' S n : Nat} {most ver : Int} {st : CSt} {k : Int} {X X' Q : Nat → Prop}

theorem RunV.keep (h : RunV w wx c S most ver st n k X) (kk : Kp Q wx w') (hQ : ∀ b, Q b → X b ∨ wx.heap.size ≤ b) (hX : ∀ b, X' b → (X b ∨ wx.heap.size ≤ b) ∧ b < w'.heap.size) : RunV w w' c S most ver st n k X' := by
  obtain ⟨⟨F, G, hC, hI, hd, hF, hG⟩, hh, hf, hkp, hl⟩ := h
  have hz := hkp.size
  have nF : ∀ b, F b → ¬ Q b := fun b hb e => (hQ b e).elim (hF b hb).2 (fun e => absurd (hC.lt b hb) (by omega))
  have nG : ∀ b, G b → ¬ Q b := fun b hb e => (hQ b e).elim (hG b hb).2 (fun e => absurd (hI.lt b hb) (by omega))
  refine ⟨⟨F, G, hC.keep kk nF, hI.keep kk nG, hd, fun b hb => ⟨(hF b hb).1, fun e => (hX b e).1.elim (hF b hb).2 (fun e => absurd (hC.lt b hb) (by omega))⟩, fun b hb => ⟨(hG b hb).1, fun e => (hX b e).1.elim (hG b hb).2 (fun e => absurd (hI.lt b hb) (by omega))⟩⟩, hh, hf, hkp.trans kk (fun b hb e => (hQ b e).elim (fun e => (hl b e).1) (fun e => by omega)), fun b hb => ⟨(hX b hb).1.elim (fun e => (hl b e).1) (fun e => by omega), (hX b hb).2⟩⟩

theorem RunV.alloc (h : RunV w wx c S most ver st n k X) (o : Obj) : RunV w (wx.alloc o) c S most ver st n k X :=
  h.keep ((Kp.refl (fun b => wx.heap.size ≤ b) wx).alloc o) (fun _ hb => .inr hb) (fun b hb => ⟨.inl hb, by have := (h.lt b hb).2; simp; omega⟩)
theorem RunV.drewN (h : RunV w wx c S most ver st n k X) (q : Nat) : RunV w (wx.drewN q) c S most ver st n k X :=
  h.keep ((Kp.refl (fun b => wx.heap.size ≤ b) wx).drewN q) (fun _ hb => .inr hb) (fun b hb => ⟨.inl hb, (h.lt b hb).2⟩)
theorem RunV.below (h : RunV w wx c S most ver st n k X) (hb : Below wx.heap.size wx w') : RunV w w' c S most ver st n k X :=
  h.keep (Kp.of_below (F := fun b => wx.heap.size ≤ b) hb) (fun _ hb => .inr hb) (fun b hb' => ⟨.inl hb', Nat.lt_of_lt_of_le (h.lt b hb').2 hb.size⟩)

theorem RunV.vcell (h : RunV w wx c S most ver st n k X) : wx.cell? ⟨S, 0, none⟩ = some (.int .u64 ver) := by
  obtain ⟨F, G, hC, hI, _⟩ := h.ex; exact hI.ver
theorem RunV.seen (h : RunV w wx c S most ver st n k X) : ∃ p cap, wx.cell? ⟨S, 1, none⟩ = some (.slice p n cap) := by
  obtain ⟨F, G, hC, hI, _⟩ := h.ex
  obtain ⟨v, xs, h1, h2, _⟩ := hI.ex
  rcases h2.2 with ⟨rfl, h0⟩ | ⟨g, cap, cur, rfl, _⟩
  · exact ⟨none, 0, by rw [h0]; exact h1.cell 1⟩
  · exact ⟨_, _, h1.cell 1⟩
theorem RunV.frozen (h : RunV w wx c S most ver st n k X) (i : Nat) : wx.frozen? ⟨S, i, none⟩ = false := by
  obtain ⟨F, G, hC, hI, _⟩ := h.ex
  obtain ⟨v, xs, h1, h2, _⟩ := hI.ex
  exact h1.frozen i
theorem RunV.ltS (h : RunV w wx c S most ver st n k X) : S < wx.heap.size := World.block_lt_of_cell? _ _ h.vcell
theorem RunV.ltc (h : RunV w wx c S most ver st n k X) : c < wx.heap.size := by
  obtain ⟨F, G, hC, _⟩ := h.ex; exact hC.lt c hC.self
theorem RunV.verb (h : RunV w wx c S most ver st n k X) : 0 ≤ ver ∧ ver < 18446744073709551616 := by
  obtain ⟨F, G, hC, hI, _⟩ := h.ex; exact ⟨hI.lo, hI.hi⟩
theorem RunV.len (h : RunV w wx c S most ver st n k X) : ((toks st).length : Int) ≤ most ∧ 1 ≤ most ∧ most ≤ 1024 := by
  obtain ⟨F, G, hC, hI, _⟩ := h.ex; exact ⟨by unfold toks; rw [List.length_map]; exact hC.len, hC.m1, hC.m2⟩

theorem RunV.right (h : RunV w wx c S most ver st n k X) (hk : k ≤ 1000000000) (t : ByteArray) (hs : t.size ≤ maxLen) (hn : n ≤ 4294967296) :
    Calls Try.prog 11 #[.pointer (some ⟨c, 0, none⟩), .pointer (some ⟨S, 0, none⟩), .string t] wx fun e w' => e = .returned (.bool true) ∧ RunV w w' c S most ver (fnd most ver t st) (n + more ver t st) (k + 1) X ∧ Kp (fun b => w.heap.size ≤ b ∧ ¬ X b) wx w' := by
  obtain ⟨⟨F, G, hC, hI, hd, hF, hG⟩, hh, hf, hkp, hl⟩ := h
  refine (right_any (ver := ver) t hC hI hd hh hf hk hs hn).mono ?_
  rintro e w' ⟨rfl, F', G', A⟩
  have hsz := hkp.size
  have hx : ∀ b, wx.heap.size ≤ b → w.heap.size ≤ b ∧ ¬ X b := fun b hb => ⟨by omega, fun e => absurd (hl b e).2 (by omega)⟩
  exact ⟨rfl, ⟨⟨F', G', A.cache, A.source, A.apart, fun b hb => (A.mine b hb).elim (hF b) (hx b), fun b hb => (A.its b hb).elim (hG b) (hx b)⟩, hh.fnd, hf.fnd, hkp.trans A.kp (fun b _ e => e.elim (fun e => (hF b e).1) (fun e => (hG b e).1)), fun b hb => ⟨(hl b hb).1, Nat.lt_of_lt_of_le (hl b hb).2 A.kp.size⟩⟩, A.kp.mono (fun b _ e => e.elim (hF b) (hG b))⟩

theorem Hon.step {d : Int} (h : Hon st) : Hon (stepSt d st) := by
  unfold stepSt
  split
  · intro e he; cases he
  · exact h
theorem Fits.step {d : Int} (h : Fits st k) : Fits (stepSt d st) k := by
  unfold stepSt
  split
  · exact ⟨h.turn, h.h0, h.hits, h.m0, h.misses⟩
  · exact h

theorem RunV.step {K : Nat → Prop} {lv : Value} {l : List ByteArray} (h : RunV w wx c S most ver st n k X) (cs : Array Value) (d wh N : Int)
    (hl : Strs wx K lv l) (hne : 0 < l.length) (hm : l.length ≤ 1000000) (c0 : cs[0]? = some (.int .i64 d)) (c1 : cs[1]? = some (.int .i64 wh)) (c2 : cs[2]? = some (.int .u64 N)) (hN0 : 0 ≤ N) (hN1 : N < 18446744073709551616) :
    Calls Try.prog 15 #[.pointer (some ⟨c, 0, none⟩), .pointer (some ⟨S, 0, none⟩), .agg cs, lv] wx fun e w' => e = .returned (.tuple #[.string (stepTok d wh l), .bool (asks d)]) ∧ RunV w w' c S most (stepVer d N ver) (stepSt d st) n k X ∧ Kp (fun b => w.heap.size ≤ b ∧ ¬ X b) wx w' := by
  obtain ⟨⟨F, G, hC, hI, hd, hF, hG⟩, hh, hf, hkp, hl'⟩ := h
  refine (step_any cs d wh N hC hI hd hl hne hm c0 c1 c2 hN0 hN1).mono ?_
  rintro e w' ⟨rfl, hC', hI', hk'⟩
  exact ⟨rfl, ⟨⟨F, G, hC', hI', hd, hF, hG⟩, hh.step, hf.step, hkp.trans hk' (fun b _ e => e.elim (fun e => (hF b e).1) (fun e => (hG b e).1)), fun b hb => ⟨(hl' b hb).1, Nat.lt_of_lt_of_le (hl' b hb).2 hk'.size⟩⟩, hk'.mono (fun b _ e => e.elim (hF b) (hG b))⟩

theorem RunV.tokens (h : RunV w wx c S most ver st n k X) :
    Calls Try.prog 10 #[.pointer (some ⟨c, 0, none⟩)] wx fun e w' => ∃ p cap, e = .returned (.slice p (toks st).length cap) ∧ Strs w' (fun b => wx.heap.size ≤ b) (.slice p (toks st).length cap) (toks st) ∧ RunV w w' c S most ver st n k X ∧ Kp (fun b => w.heap.size ≤ b ∧ ¬ X b) wx w' := by
  obtain ⟨⟨F, G, hC, hI, hd, hF, hG⟩, hh, hf, hkp, hl'⟩ := h
  refine (tokens_any hC).mono ?_
  rintro e w' ⟨p, cap, rfl, hs, hC', hk'⟩
  exact ⟨p, cap, rfl, hs, ⟨⟨F, G, hC', hI.keep hk' (fun b hb e => hd c hC.self (e ▸ hb)), hd, hF, hG⟩, hh, hf, hkp.trans hk' (fun b _ e => e ▸ (hF c hC.self).1), fun b hb => ⟨(hl' b hb).1, Nat.lt_of_lt_of_le (hl' b hb).2 hk'.size⟩⟩, hk'.mono (fun b _ e => e ▸ hF c hC.self)⟩

theorem RunV.asked (h : RunV w wx c S most ver st n k X) :
    Calls Try.prog 17 #[.pointer (some ⟨c, 0, none⟩)] wx fun e w' => e = .returned (.tuple #[.int .i64 st.hits, .int .i64 st.misses]) ∧ RunV w w' c S most ver st n k X ∧ Kp (fun b => w.heap.size ≤ b ∧ ¬ X b) wx w' := by
  obtain ⟨⟨F, G, hC, hI, hd, hF, hG⟩, hh, hf, hkp, hl'⟩ := h
  refine (asked_any hC).mono ?_
  rintro e w' ⟨rfl, hC', hk'⟩
  exact ⟨rfl, ⟨⟨F, G, hC', hI.keep hk' (fun b hb e => hd c hC.self (e ▸ hb)), hd, hF, hG⟩, hh, hf, hkp.trans hk' (fun b _ e => e ▸ (hF c hC.self).1), fun b hb => ⟨(hl' b hb).1, Nat.lt_of_lt_of_le (hl' b hb).2 hk'.size⟩⟩, hk'.mono (fun b _ e => e ▸ hF c hC.self)⟩

/-- A new cache over a new honest source. -/
theorem RunV.new {G : Nat → Prop} (hC : CacheI wx (fun b => b = c' ∨ b = c) c (hon S) most ⟨0, 0, 0, 0, []⟩) (hI : HonI wx G S ver 0) (hG : ∀ b, G b → b ≠ c ∧ b ≠ c' ∧ w.heap.size ≤ b ∧ ¬ X b) (hc : w.heap.size ≤ c ∧ ¬ X c) (hc' : w.heap.size ≤ c' ∧ ¬ X c')
    (hk : Kp (fun b => w.heap.size ≤ b) w wx) (hX : ∀ b, X b → w.heap.size ≤ b ∧ b < wx.heap.size) : RunV w wx c S most ver ⟨0, 0, 0, 0, []⟩ 0 0 X :=
  ⟨⟨_, G, hC, hI, fun b hb e => by rcases hb with rfl | rfl; exact (hG _ e).2.1 rfl; exact (hG _ e).1 rfl, fun b hb => by rcases hb with rfl | rfl; exact hc'; exact hc, fun b hb => (hG b hb).2.2⟩, (fun e he => by cases he), ⟨by simp, by simp, by simp, by simp, by simp⟩, hk, hX⟩
end
end Go.Proofs.Ytkbbaokllgmhiaa
