/- CacheTwo: one cache of the common source beside its twin over a source of its own; one contract a call. -/
import Derived.Test.YtkbbaokllgmhiaaT1
namespace Go.Proofs.Ytkbbaokllgmhiaa
open Go.RowKit Go.Maps Go.MuLone Go.Sort Go.Shelf

/-- Caches i and i + 2 (i: 1 or 2) in the states S1 and S3; the other pair is in one state; the common source was asked d times more than the two others together. -/
structure TwP (w wx : World) (ad : Nat → Nat) (Q : Nat → Int) (V : Int) (k : Int) (row : Array Value) (lv : Value) (l : List ByteArray) (i : Nat) (S1 S3 : CSt) (d : Nat) : Prop where
  ex : ∃ st ver n tag, TwI w wx ad Q st ver n k row lv l tag ∧ (∀ j, 5 ≤ j → j ≤ 7 → ver j = V) ∧ st i = S1 ∧ st (i + 2) = S3 ∧ st (3 - i) = st (5 - i) ∧ n 5 = n 6 + n 7 + d
  q : Q 3 = Q 1 ∧ Q 4 = Q 2
  hi : i = 1 ∨ i = 2

section
variable {w wx w' : World} {ad : Nat → Nat} {Q : Nat → Int} {V : Int} {k : Int} {row : Array Value} {lv : Value} {l : List ByteArray} {i d : Nat} {S1 S3 S : CSt} {a s : Nat}

theorem TwP.below (h : TwP w wx ad Q V k row lv l i S1 S3 d) (hb : Below wx.heap.size wx w') : TwP w w' ad Q V k row lv l i S1 S3 d := by
  obtain ⟨⟨st, ver, n, tag, hT, r⟩, q, hi⟩ := h
  exact ⟨⟨st, ver, n, tag, hT.below hb, r⟩, q, hi⟩
theorem TwP.alloc (h : TwP w wx ad Q V k row lv l i S1 S3 d) (o : Obj) : TwP w (wx.alloc o) ad Q V k row lv l i S1 S3 d := h.below ((Below.refl _ wx).alloc (Nat.le_refl _) o)
theorem TwP.drewN (h : TwP w wx ad Q V k row lv l i S1 S3 d) (q : Nat) : TwP w (wx.drewN q) ad Q V k row lv l i S1 S3 d := h.below ⟨rfl, rfl, rfl, Nat.le_refl _, fun _ _ => rfl⟩
theorem TwP.swap (h : TwP w wx ad Q V k row lv l i S S d) (i' : Nat) (hi' : i' = 1 ∨ i' = 2) : ∃ S', TwP w wx ad Q V k row lv l i' S' S' d := by
  obtain ⟨⟨st, ver, n, tag, hT, hv, h1, h3, ho, hn⟩, q, hi⟩ := h
  refine ⟨st i', ⟨st, ver, n, tag, hT, hv, rfl, ?_, ?_, hn⟩, q, hi'⟩
  · rcases hi with rfl | rfl <;> rcases hi' with rfl | rfl
    · exact h3.trans h1.symm
    · exact ho.symm
    · exact ho.symm
    · exact h3.trans h1.symm
  · rcases hi with rfl | rfl <;> rcases hi' with rfl | rfl
    · exact ho
    · exact h1.trans h3.symm
    · exact h1.trans h3.symm
    · exact ho

theorem TwP.right1 (h : TwP w wx ad Q V k row lv l i S1 S3 d) (ha : ad i = a) (hs : ad 5 = s) (hk : k ≤ 100000) (t : ByteArray) (ht : t.size ≤ 3000) :
    Calls Try.prog 11 #[.pointer (some ⟨a, 0, none⟩), .pointer (some ⟨s, 0, none⟩), .string t] wx fun e w' => e = .returned (.bool true) ∧ TwP w w' ad Q V (k + 1) row lv l i (fnd (Q i) V t S1) S3 (d + more V t S1) := by
  obtain ⟨⟨st, ver, n, tag, hT, hv, h1, h3, ho, hn⟩, q, hi⟩ := h
  have hso : sof i = 5 := by unfold sof; rw [if_pos (by omega)]
  have hr := hT.right i (by omega) (by omega) hk t ht
  rw [hso, ha, hs, h1, hv 5 (by omega) (by omega)] at hr
  refine hr.mono fun e w' ⟨he, tag', hT'⟩ => ⟨he, ⟨_, _, _, tag', hT', hv, upd_at _ _ _, ?_, ?_, ?_⟩, q, hi⟩
  · rw [upd_ne _ _ (by omega), h3]
  · rw [upd_ne _ _ (by omega), upd_ne _ _ (by omega), ho]
  · rw [upd_at, upd_ne _ _ (by omega), upd_ne _ _ (by omega), hn]; omega
theorem TwP.right3 {t : ByteArray} (h : TwP w wx ad Q V k row lv l i S1 S3 (more V t S3)) (ha : ad (i + 2) = a) (hs : ad (i + 5) = s) (hk : k ≤ 100000) (ht : t.size ≤ 3000) :
    Calls Try.prog 11 #[.pointer (some ⟨a, 0, none⟩), .pointer (some ⟨s, 0, none⟩), .string t] wx fun e w' => e = .returned (.bool true) ∧ TwP w w' ad Q V (k + 1) row lv l i S1 (fnd (Q i) V t S3) 0 := by
  obtain ⟨⟨st, ver, n, tag, hT, hv, h1, h3, ho, hn⟩, q, hi⟩ := h
  have hso : sof (i + 2) = i + 5 := by unfold sof; rw [if_neg (by omega)]
  have hq : Q (i + 2) = Q i := by rcases hi with rfl | rfl; exact q.1; exact q.2
  have hr := hT.right (i + 2) (by omega) (by omega) hk t ht
  rw [hso, ha, hs, h3, hv (i + 5) (by omega) (by omega), hq] at hr
  refine hr.mono fun e w' ⟨he, tag', hT'⟩ => ⟨he, ⟨_, _, _, tag', hT', hv, ?_, upd_at _ _ _, ?_, ?_⟩, q, hi⟩
  · rw [upd_ne _ _ (by omega), h1]
  · rw [upd_ne _ _ (by omega), upd_ne _ _ (by omega), ho]
  · rcases hi with rfl | rfl
    · simp only [upd, Nat.reduceAdd, Nat.reduceEqDiff, if_true, if_false]; omega
    · simp only [upd, Nat.reduceAdd, Nat.reduceEqDiff, if_true, if_false]; omega
theorem TwP.clear1 (h : TwP w wx ad Q V k row lv l i S1 S3 d) (ha : ad i = a) :
    Calls Try.prog 18 #[.pointer (some ⟨a, 0, none⟩)] wx fun e w' => e = .returned (.tuple #[]) ∧ TwP w w' ad Q V k row lv l i (stepSt 6 S1) S3 d := by
  obtain ⟨⟨st, ver, n, tag, hT, hv, h1, h3, ho, hn⟩, q, hi⟩ := h
  have hr := hT.clear i (by omega) (by omega)
  rw [ha, h1] at hr
  refine hr.mono fun e w' ⟨he, tag', hT'⟩ => ⟨he, ⟨_, _, _, tag', hT', hv, upd_at _ _ _, ?_, ?_, hn⟩, q, hi⟩
  · rw [upd_ne _ _ (by omega), h3]
  · rw [upd_ne _ _ (by omega), upd_ne _ _ (by omega), ho]
theorem TwP.clear3 (h : TwP w wx ad Q V k row lv l i S1 S3 d) (ha : ad (i + 2) = a) :
    Calls Try.prog 18 #[.pointer (some ⟨a, 0, none⟩)] wx fun e w' => e = .returned (.tuple #[]) ∧ TwP w w' ad Q V k row lv l i S1 (stepSt 6 S3) d := by
  obtain ⟨⟨st, ver, n, tag, hT, hv, h1, h3, ho, hn⟩, q, hi⟩ := h
  have hr := hT.clear (i + 2) (by omega) (by omega)
  rw [ha, h3] at hr
  refine hr.mono fun e w' ⟨he, tag', hT'⟩ => ⟨he, ⟨_, _, _, tag', hT', hv, ?_, upd_at _ _ _, ?_, hn⟩, q, hi⟩
  · rw [upd_ne _ _ (by omega), h1]
  · rw [upd_ne _ _ (by omega), upd_ne _ _ (by omega), ho]
theorem TwP.tokens1 (h : TwP w wx ad Q V k row lv l i S1 S3 d) (ha : ad i = a) :
    Calls Try.prog 10 #[.pointer (some ⟨a, 0, none⟩)] wx fun e w' => ∃ p cap, e = .returned (.slice p (toks S1).length cap) ∧ Strs w' (fun b => wx.heap.size ≤ b) (.slice p (toks S1).length cap) (toks S1) ∧ TwP w w' ad Q V k row lv l i S1 S3 d := by
  obtain ⟨⟨st, ver, n, tag, hT, hv, h1, h3, ho, hn⟩, q, hi⟩ := h
  have hr := hT.tokens i (by omega) (by omega)
  rw [ha, h1] at hr
  exact hr.mono fun e w' ⟨p, cap, he, hs, ⟨tag', hT'⟩, _⟩ => ⟨p, cap, he, hs, ⟨_, _, _, tag', hT', hv, h1, h3, ho, hn⟩, q, hi⟩
theorem TwP.tokens3 (h : TwP w wx ad Q V k row lv l i S1 S3 d) (ha : ad (i + 2) = a) :
    Calls Try.prog 10 #[.pointer (some ⟨a, 0, none⟩)] wx fun e w' => ∃ p cap, e = .returned (.slice p (toks S3).length cap) ∧ Strs w' (fun b => wx.heap.size ≤ b) (.slice p (toks S3).length cap) (toks S3) ∧ TwP w w' ad Q V k row lv l i S1 S3 d ∧ Kp (fun b => b = a) wx w' := by
  obtain ⟨⟨st, ver, n, tag, hT, hv, h1, h3, ho, hn⟩, q, hi⟩ := h
  have hr := hT.tokens (i + 2) (by omega) (by omega)
  rw [ha, h3] at hr
  exact hr.mono fun e w' ⟨p, cap, he, hs, ⟨tag', hT'⟩, hk⟩ => ⟨p, cap, he, hs, ⟨⟨_, _, _, tag', hT', hv, h1, h3, ho, hn⟩, q, hi⟩, hk⟩
theorem TwP.lt3 (h : TwP w wx ad Q V k row lv l i S1 S3 d) : ad (i + 2) < wx.heap.size := by
  obtain ⟨⟨st, ver, n, tag, hT, _⟩, q, hi⟩ := h
  have hC := (hT.ca (i + 2) (by omega) (by omega)).1
  exact hC.lt _ hC.self
theorem TwP.len (h : TwP w wx ad Q V k row lv l i S1 S3 d) : (toks S3).length ≤ 1024 := by
  obtain ⟨⟨st, ver, n, tag, hT, hv, h1, h3, ho, hn⟩, q, hi⟩ := h
  have hC := (hT.ca (i + 2) (by omega) (by omega)).1
  rw [h3] at hC
  have := hC.len; have := hC.m2
  unfold toks; rw [List.length_map]; omega
/-- Two lists of the same tokens are told alike. -/
theorem TwP.same (h : TwP w wx ad Q V k row lv l i S S d) {F G : Nat → Prop} {u v : Value} (hu : Strs wx F u (toks S)) (hv : Strs wx G v (toks S)) :
    Calls Try.prog 20 #[u, v] wx fun e w' => e = .returned (.bool true) ∧ TwP w w' ad Q V k row lv l i S S d := by
  have hl := h.len
  exact (eqStrings_strs hu hv (by omega)).mono fun _ _ ⟨he, q, hq⟩ => ⟨he, hq ▸ h.drewN q⟩
theorem TwP.asked1 (h : TwP w wx ad Q V k row lv l i S1 S3 d) (ha : ad i = a) :
    Calls Try.prog 17 #[.pointer (some ⟨a, 0, none⟩)] wx fun e w' => e = .returned (.tuple #[.int .i64 S1.hits, .int .i64 S1.misses]) ∧ TwP w w' ad Q V k row lv l i S1 S3 d := by
  obtain ⟨⟨st, ver, n, tag, hT, hv, h1, h3, ho, hn⟩, q, hi⟩ := h
  have hr := hT.asked i (by omega) (by omega)
  rw [ha, h1] at hr
  exact hr.mono fun e w' ⟨he, tag', hT'⟩ => ⟨he, ⟨_, _, _, tag', hT', hv, h1, h3, ho, hn⟩, q, hi⟩
theorem TwP.asked3 (h : TwP w wx ad Q V k row lv l i S1 S3 d) (ha : ad (i + 2) = a) :
    Calls Try.prog 17 #[.pointer (some ⟨a, 0, none⟩)] wx fun e w' => e = .returned (.tuple #[.int .i64 S3.hits, .int .i64 S3.misses]) ∧ TwP w w' ad Q V k row lv l i S1 S3 d := by
  obtain ⟨⟨st, ver, n, tag, hT, hv, h1, h3, ho, hn⟩, q, hi⟩ := h
  have hr := hT.asked (i + 2) (by omega) (by omega)
  rw [ha, h3] at hr
  exact hr.mono fun e w' ⟨he, tag', hT'⟩ => ⟨he, ⟨_, _, _, tag', hT', hv, h1, h3, ho, hn⟩, q, hi⟩
end
end Go.Proofs.Ytkbbaokllgmhiaa
