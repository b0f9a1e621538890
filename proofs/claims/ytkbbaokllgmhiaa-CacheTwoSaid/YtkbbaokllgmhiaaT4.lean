/- CacheTwo: forgetting, with the blocks that it may touch told by a bound. -/
import Derived.Test.YtkbbaokllgmhiaaT3
namespace Go.Proofs.Ytkbbaokllgmhiaa
open Go.RowKit Go.Maps Go.MuLone Go.Sort Go.Shelf

section
variable {w wx w' : World} {ad : Nat → Nat} {Q : Nat → Int} {st : Nat → CSt} {ver : Nat → Int} {n : Nat → Nat} {k : Int} {row : Array Value} {lv : Value} {l : List ByteArray} {tag : Nat → Nat}
theorem TwI.stay (h : TwI w wx ad Q st ver n k row lv l tag) (i : Nat) (i1 : 1 ≤ i) (i4 : i ≤ 4) {st' : CSt} (hC : CacheI w' (fun b => tag b = i) (ad i) (hon (ad (sof i))) (Q i) st') (hk : Kp (fun b => tag b = i) wx w') (hh : Hon st') (hf : Fits st' k) : TwI w w' ad Q (upd st i st') ver n k row lv l tag := by
  have nn : ∀ m, m ≠ i → ∀ b, tag b = m → ¬ tag b = i := fun m mi b e e' => mi (e.symm.trans e')
  refine ⟨fun b hb => ⟨(h.t0 b hb).1, Nat.lt_of_lt_of_le (h.t0 b hb).2 hk.size⟩, fun m m1 m4 => ?_, fun m m5 m7 => ⟨(h.so m m5 m7).1.keep hk (nn m (by omega)), (h.so m m5 m7).2⟩, ⟨h.row.1.kp hk (nn 8 (by omega) _ h.row.2), h.row.2⟩, h.l.keep hk (nn 8 (by omega)), h.kp.trans hk (fun b _ e => (h.t0 b (by rw [e]; omega)).1)⟩
  by_cases mi : m = i
  · subst mi; rw [upd_at]; exact ⟨hC, hh, hf⟩
  · rw [upd_ne _ _ mi]; exact ⟨(h.ca m m1 m4).1.keep hk (nn m mi), (h.ca m m1 m4).2⟩
theorem TwI.clear' (h : TwI w wx ad Q st ver n k row lv l tag) (i : Nat) (i1 : 1 ≤ i) (i4 : i ≤ 4) :
    Calls Try.prog 18 #[.pointer (some ⟨ad i, 0, none⟩)] wx fun e w' => e = .returned (.tuple #[]) ∧ TwI w w' ad Q (upd st i (stepSt 6 (st i))) ver n k row lv l tag ∧ Kp (fun b => tag b = i) wx w' := by
  obtain ⟨hC, hh, hf⟩ := h.ca i i1 i4
  exact (clear_any hC).mono fun e w' ⟨he, hC', hk'⟩ => ⟨he, h.stay (st' := stepSt 6 (st i)) i i1 i4 hC' hk' hh.step hf.step, hk'⟩
end

/-- As TwP, and all the caches' and sources' blocks lie before bd. -/
structure TwC (w wx : World) (ad : Nat → Nat) (Q : Nat → Int) (V : Int) (k : Int) (row : Array Value) (lv : Value) (l : List ByteArray) (i : Nat) (S1 S3 : CSt) (d bd : Nat) : Prop where
  ex : ∃ st ver n tag, TwI w wx ad Q st ver n k row lv l tag ∧ (∀ b, tag b ≠ 0 → b < bd) ∧ (∀ j, 5 ≤ j → j ≤ 7 → ver j = V) ∧ st i = S1 ∧ st (i + 2) = S3 ∧ st (3 - i) = st (5 - i) ∧ n 5 = n 6 + n 7 + d
  q : Q 3 = Q 1 ∧ Q 4 = Q 2
  hi : i = 1 ∨ i = 2

section
variable {w wx w' : World} {ad : Nat → Nat} {Q : Nat → Int} {V : Int} {k : Int} {row : Array Value} {lv : Value} {l : List ByteArray} {i d bd : Nat} {S1 S3 S : CSt} {a : Nat}
theorem TwP.bound (h : TwP w wx ad Q V k row lv l i S1 S3 d) : TwC w wx ad Q V k row lv l i S1 S3 d wx.heap.size := by
  obtain ⟨⟨st, ver, n, tag, hT, r⟩, q, hi⟩ := h
  exact ⟨⟨st, ver, n, tag, hT, fun b hb => (hT.t0 b hb).2, r⟩, q, hi⟩
theorem TwC.toP (h : TwC w wx ad Q V k row lv l i S1 S3 d bd) : TwP w wx ad Q V k row lv l i S1 S3 d := by
  obtain ⟨⟨st, ver, n, tag, hT, _, r⟩, q, hi⟩ := h
  exact ⟨⟨st, ver, n, tag, hT, r⟩, q, hi⟩
theorem TwC.below (h : TwC w wx ad Q V k row lv l i S1 S3 d bd) (hb : Below wx.heap.size wx w') : TwC w w' ad Q V k row lv l i S1 S3 d bd := by
  obtain ⟨⟨st, ver, n, tag, hT, r⟩, q, hi⟩ := h
  exact ⟨⟨st, ver, n, tag, hT.below hb, r⟩, q, hi⟩
theorem TwC.clear1 (h : TwC w wx ad Q V k row lv l i S1 S3 d bd) (ha : ad i = a) :
    Calls Try.prog 18 #[.pointer (some ⟨a, 0, none⟩)] wx fun e w' => e = .returned (.tuple #[]) ∧ TwC w w' ad Q V k row lv l i (stepSt 6 S1) S3 d bd ∧ Kp (fun b => b < bd) wx w' := by
  obtain ⟨⟨st, ver, n, tag, hT, hbd, hv, h1, h3, ho, hn⟩, q, hi⟩ := h
  have hr := hT.clear' i (by omega) (by omega)
  rw [ha, h1] at hr
  refine hr.mono fun e w' ⟨he, hT', hk⟩ => ⟨he, ⟨⟨_, _, _, tag, hT', hbd, hv, upd_at _ _ _, ?_, ?_, hn⟩, q, hi⟩, hk.mono (fun b _ e => hbd b (by rw [e]; omega))⟩
  · rw [upd_ne _ _ (by omega), h3]
  · rw [upd_ne _ _ (by omega), upd_ne _ _ (by omega), ho]
theorem TwC.clear3 (h : TwC w wx ad Q V k row lv l i S1 S3 d bd) (ha : ad (i + 2) = a) :
    Calls Try.prog 18 #[.pointer (some ⟨a, 0, none⟩)] wx fun e w' => e = .returned (.tuple #[]) ∧ TwC w w' ad Q V k row lv l i S1 (stepSt 6 S3) d bd ∧ Kp (fun b => b < bd) wx w' := by
  obtain ⟨⟨st, ver, n, tag, hT, hbd, hv, h1, h3, ho, hn⟩, q, hi⟩ := h
  have hr := hT.clear' (i + 2) (by omega) (by omega)
  rw [ha, h3] at hr
  refine hr.mono fun e w' ⟨he, hT', hk⟩ => ⟨he, ⟨⟨_, _, _, tag, hT', hbd, hv, ?_, upd_at _ _ _, ?_, hn⟩, q, hi⟩, hk.mono (fun b _ e => hbd b (by rw [e]; omega))⟩
  · rw [upd_ne _ _ (by omega), h1]
  · rw [upd_ne _ _ (by omega), upd_ne _ _ (by omega), ho]
theorem TwP.lt3n (h : TwP w wx ad Q V k row lv l i S1 S3 d) (ha : ad (i + 2) = a) : a < wx.heap.size := ha ▸ h.lt3
theorem TwP.tokens1n (h : TwP w wx ad Q V k row lv l i S1 S3 d) (ha : ad i = a) (TL : Nat) (hTL : (toks S1).length = TL) :
    Calls Try.prog 10 #[.pointer (some ⟨a, 0, none⟩)] wx fun e w' => ∃ p cap, e = .returned (.slice p TL cap) ∧ Strs w' (fun b => wx.heap.size ≤ b) (.slice p TL cap) (toks S1) ∧ TwP w w' ad Q V k row lv l i S1 S3 d := by
  subst hTL; exact h.tokens1 ha
theorem TwP.tokens3n (h : TwP w wx ad Q V k row lv l i S1 S3 d) (ha : ad (i + 2) = a) (TL : Nat) (hTL : (toks S3).length = TL) :
    Calls Try.prog 10 #[.pointer (some ⟨a, 0, none⟩)] wx fun e w' => ∃ p cap, e = .returned (.slice p TL cap) ∧ Strs w' (fun b => wx.heap.size ≤ b) (.slice p TL cap) (toks S3) ∧ TwP w w' ad Q V k row lv l i S1 S3 d ∧ Kp (fun b => b = a) wx w' := by
  subst hTL; exact h.tokens3 ha
end
end Go.Proofs.Ytkbbaokllgmhiaa
