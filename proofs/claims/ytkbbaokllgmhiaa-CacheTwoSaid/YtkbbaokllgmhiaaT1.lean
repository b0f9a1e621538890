/- CacheTwo: four caches over three sources; whose a block is, is told by a tag. -/
import Derived.Test.YtkbbaokllgmhiaaK1
namespace Go.Proofs.Ytkbbaokllgmhiaa
open Go.RowKit Go.Maps Go.MuLone Go.Sort Go.Shelf

theorem CacheI.mono {w : World} {F F' : Nat → Prop} {c : Nat} {src : Value} {most : Int} {st : CSt} (h : CacheI w F c src most st) (hF : ∀ b, F b → F' b) (hl : ∀ b, F' b → b < w.heap.size) : CacheI w F' c src most st := by
  obtain ⟨⟨M, D, h1, h2, h3, h4, h5⟩, a, b, r1, r2, r3, r4, r5⟩ := h
  exact ⟨⟨M, D, h1, h2, h3, hF M h4, h5.mono (fun b hb => ⟨hF b hb.1, hb.2⟩)⟩, hF _ a, hl, r1, r2, r3, r4, r5⟩
theorem HonI.mono {w : World} {G G' : Nat → Prop} {S : Nat} {ver : Int} {n : Nat} (h : HonI w G S ver n) (hG : ∀ b, G b → G' b) (hl : ∀ b, G' b → b < w.heap.size) : HonI w G' S ver n := by
  obtain ⟨⟨v, xs, h1, h2, h3⟩, h4, h5, h6, h7⟩ := h
  exact ⟨⟨v, xs, h1, h2, fun k hk => ⟨hG k (h3 k hk).1, (h3 k hk).2⟩⟩, hG _ h4, hl, h6, h7⟩

/-- The source of cache i (1 and 2 have one together: 5; 3 has 6, 4 has 7). -/
def sof (i : Nat) : Nat := if i ≤ 2 then 5 else i + 3
def upd {α : Type} (f : Nat → α) (i : Nat) (v : α) : Nat → α := fun m => if m = i then v else f m
theorem upd_at {α : Type} (f : Nat → α) (i : Nat) (v : α) : upd f i v i = v := if_pos rfl
theorem upd_ne {α : Type} (f : Nat → α) {i m : Nat} (v : α) (h : m ≠ i) : upd f i v m = f m := if_neg h
theorem upd_same {α : Type} (f : Nat → α) (i : Nat) : upd f i (f i) = f := by
  funext m; unfold upd; split
  · rename_i h; rw [h]
  · rfl

structure TwI (w wx : World) (ad : Nat → Nat) (Q : Nat → Int) (st : Nat → CSt) (ver : Nat → Int) (n : Nat → Nat) (k : Int) (row : Array Value) (lv : Value) (l : List ByteArray) (tag : Nat → Nat) : Prop where
  t0 : ∀ b, tag b ≠ 0 → w.heap.size ≤ b ∧ b < wx.heap.size
  ca : ∀ i, 1 ≤ i → i ≤ 4 → CacheI wx (fun b => tag b = i) (ad i) (hon (ad (sof i))) (Q i) (st i) ∧ Hon (st i) ∧ Fits (st i) k
  so : ∀ j, 5 ≤ j → j ≤ 7 → HonI wx (fun b => tag b = j) (ad j) (ver j) (n j) ∧ (n j : Int) ≤ k
  row : hasRow wx (ad 8) row ∧ tag (ad 8) = 8
  l : Strs wx (fun b => tag b = 8) lv l
  kp : Kp (fun b => w.heap.size ≤ b) w wx

section
variable {w wx w' : World} {ad : Nat → Nat} {Q : Nat → Int} {st : Nat → CSt} {ver : Nat → Int} {n : Nat → Nat} {k k' : Int} {row : Array Value} {lv : Value} {l : List ByteArray} {tag : Nat → Nat}

theorem Fits.le {st : CSt} {k k' : Int} (h : Fits st k) (hk : k ≤ k') : Fits st k' := ⟨by have := h.turn; omega, h.h0, by have := h.hits; omega, h.m0, by have := h.misses; omega⟩

/-- Cache i and its source move on; all the others stay. -/
theorem TwI.move (h : TwI w wx ad Q st ver n k row lv l tag) (i : Nat) (i1 : 1 ≤ i) (i4 : i ≤ 4) {F' G' : Nat → Prop} {st' : CSt} {n' : Nat} (hC : CacheI w' F' (ad i) (hon (ad (sof i))) (Q i) st') (hI : HonI w' G' (ad (sof i)) (ver (sof i)) n') (ap : ∀ b, F' b → ¬ G' b)
    (mine : ∀ b, F' b → tag b = i ∨ wx.heap.size ≤ b) (its : ∀ b, G' b → tag b = sof i ∨ wx.heap.size ≤ b) (hk : Kp (fun b => tag b = i ∨ tag b = sof i) wx w') (hh : Hon st') (hf : Fits st' k') (hkk : k ≤ k') (hn : (n' : Int) ≤ k') :
    ∃ tag', TwI w w' ad Q (upd st i st') ver (upd n (sof i) n') k' row lv l tag' := by
  classical
  have hs : 5 ≤ sof i ∧ sof i ≤ 7 := by unfold sof; split <;> omega
  have hsz := hk.size
  have hz := h.kp.size
  generalize hj : sof i = j at *
  let tag' : Nat → Nat := fun b => if b < wx.heap.size then tag b else if F' b then i else if G' b then j else 0
  have old : ∀ b, b < wx.heap.size → tag' b = tag b := fun b hb => if_pos hb
  have new : ∀ b, ¬ b < wx.heap.size → tag' b = if F' b then i else if G' b then j else 0 := fun b hb => if_neg hb
  have other : ∀ m, m ≠ 0 → m ≠ i → m ≠ j → ∀ b, tag' b = m ↔ tag b = m := by
    intro m m0 mi mj b
    by_cases hb : b < wx.heap.size
    · rw [old b hb]
    · rw [new b hb]
      constructor
      · intro e; split at e
        · exact absurd e.symm mi
        · split at e
          · exact absurd e.symm mj
          · exact absurd e.symm m0
      · intro e; exact absurd (h.t0 b (by rw [e]; exact m0)).2 hb
  have lt' : ∀ m, m ≠ 0 → ∀ b, tag' b = m → w.heap.size ≤ b ∧ b < w'.heap.size := by
    intro m m0 b e
    by_cases hb : b < wx.heap.size
    · rw [old b hb] at e; exact ⟨(h.t0 b (by rw [e]; exact m0)).1, by omega⟩
    · rw [new b hb] at e
      refine ⟨by omega, ?_⟩
      split at e
      · rename_i hF; exact hC.lt b hF
      · split at e
        · rename_i hG; exact hI.lt b hG
        · exact absurd e.symm m0
  have nk : ∀ m, m ≠ i → m ≠ j → ∀ b, tag b = m → ¬ (tag b = i ∨ tag b = j) := fun m mi mj b e e' => e'.elim (fun e' => mi (e.symm.trans e')) (fun e' => mj (e.symm.trans e'))
  refine ⟨tag', fun b hb => lt' (tag' b) hb b rfl, fun m m1 m4 => ?_, fun m m5 m7 => ?_, ⟨h.row.1.kp hk (fun e => by rw [h.row.2] at e; omega), ?_⟩, ?_, h.kp.trans hk (fun b hb e => e.elim (fun e => (h.t0 b (by rw [e]; omega)).1) (fun e => (h.t0 b (by rw [e]; omega)).1))⟩
  · by_cases mi : m = i
    · subst mi
      rw [upd_at, hj]
      refine ⟨hC.mono (fun b hb => ?_) (fun b hb => (lt' m (by omega) b hb).2), hh, hf⟩
      by_cases hbl : b < wx.heap.size
      · rw [old b hbl]; exact (mine b hb).elim id (fun e => absurd hbl (by omega))
      · rw [new b hbl, if_pos hb]
    · rw [upd_ne _ _ mi]
      obtain ⟨h1, h2, h3⟩ := h.ca m m1 m4
      exact ⟨(h1.keep hk (nk m mi (by omega))).mono (fun b hb => (other m (by omega) mi (by omega) b).2 hb) (fun b hb => (lt' m (by omega) b hb).2), h2, h3.le hkk⟩
  · by_cases mj : m = j
    · subst mj
      rw [upd_at]
      refine ⟨hI.mono (fun b hb => ?_) (fun b hb => (lt' m (by omega) b hb).2), hn⟩
      by_cases hbl : b < wx.heap.size
      · rw [old b hbl]; exact (its b hb).elim id (fun e => absurd hbl (by omega))
      · rw [new b hbl, if_neg (fun e => ap b e hb), if_pos hb]
    · rw [upd_ne _ _ mj]
      obtain ⟨h1, h2⟩ := h.so m m5 m7
      exact ⟨(h1.keep hk (nk m (by omega) mj)).mono (fun b hb => (other m (by omega) (by omega) mj b).2 hb) (fun b hb => (lt' m (by omega) b hb).2), by omega⟩
  · exact (other 8 (by omega) (by omega) (by omega) _).2 h.row.2
  · exact (h.l.keep hk (nk 8 (by omega) (by omega))).mono (fun b hb => (other 8 (by omega) (by omega) (by omega) b).2 hb)

theorem TwI.below (h : TwI w wx ad Q st ver n k row lv l tag) (hb : Below wx.heap.size wx w') : TwI w w' ad Q st ver n k row lv l tag := by
  have hk : Kp (fun b => wx.heap.size ≤ b) wx w' := Kp.of_below hb
  have nn : ∀ m, m ≠ 0 → ∀ b, tag b = m → ¬ (wx.heap.size ≤ b) := fun m m0 b e => by have := (h.t0 b (by rw [e]; exact m0)).2; omega
  have hz := h.kp.size
  exact ⟨fun b hb' => ⟨(h.t0 b hb').1, Nat.lt_of_lt_of_le (h.t0 b hb').2 hb.size⟩, fun m m1 m4 => ⟨(h.ca m m1 m4).1.keep hk (nn m (by omega)), (h.ca m m1 m4).2⟩, fun m m5 m7 => ⟨(h.so m m5 m7).1.keep hk (nn m (by omega)), (h.so m m5 m7).2⟩,
    ⟨h.row.1.kp hk (nn 8 (by omega) _ h.row.2), h.row.2⟩, h.l.keep hk (nn 8 (by omega)), h.kp.trans hk (fun b _ e => by omega)⟩
theorem TwI.alloc (h : TwI w wx ad Q st ver n k row lv l tag) (o : Obj) : TwI w (wx.alloc o) ad Q st ver n k row lv l tag := h.below ((Below.refl _ wx).alloc (Nat.le_refl _) o)
theorem TwI.drewN (h : TwI w wx ad Q st ver n k row lv l tag) (q : Nat) : TwI w (wx.drewN q) ad Q st ver n k row lv l tag := h.below ⟨rfl, rfl, rfl, Nat.le_refl _, fun _ _ => rfl⟩

/-- A source's version is set. -/
theorem TwI.setVer (h : TwI w wx ad Q st ver n k row lv l tag) (j : Nat) (j5 : 5 ≤ j) (j7 : j ≤ 7) (v : Int) (v0 : 0 ≤ v) (v1 : v < 18446744073709551616) : TwI w (wx.setCell ⟨ad j, 0, none⟩ (.int .u64 v)) ad Q st (upd ver j v) n k row lv l tag := by
  have hk : Kp (fun b => b = ad j) wx (wx.setCell ⟨ad j, 0, none⟩ (.int .u64 v)) := (Kp.refl (fun b => b = ad j) wx).setCell (.inl rfl) _
  have ht : tag (ad j) = j := (h.so j j5 j7).1.self
  have nn : ∀ m, m ≠ j → ∀ b, tag b = m → ¬ (b = ad j) := fun m mj b e e' => by rw [e', ht] at e; exact mj e.symm
  have hz : (wx.setCell ⟨ad j, 0, none⟩ (.int .u64 v)).heap.size = wx.heap.size := by simp [World.setCell]
  refine ⟨fun b hb => by rw [hz]; exact h.t0 b hb, fun m m1 m4 => ⟨(h.ca m m1 m4).1.keep hk (nn m (by omega)), (h.ca m m1 m4).2⟩, fun m m5 m7 => ?_, ⟨h.row.1.kp hk (nn 8 (by omega) _ h.row.2), h.row.2⟩, h.l.keep hk (nn 8 (by omega)), h.kp.trans hk (fun b _ e => e ▸ (h.t0 _ (by rw [ht]; omega)).1)⟩
  by_cases mj : m = j
  · subst mj; rw [upd_at]; exact ⟨(h.so m m5 m7).1.setVer v v0 v1, (h.so m m5 m7).2⟩
  · rw [upd_ne _ _ mj]; exact ⟨(h.so m m5 m7).1.keep hk (nn m mj), (h.so m m5 m7).2⟩

theorem TwI.right (h : TwI w wx ad Q st ver n k row lv l tag) (i : Nat) (i1 : 1 ≤ i) (i4 : i ≤ 4) (hk : k ≤ 100000) (t : ByteArray) (ht : t.size ≤ 3000) :
    Calls Try.prog 11 #[.pointer (some ⟨ad i, 0, none⟩), .pointer (some ⟨ad (sof i), 0, none⟩), .string t] wx fun e w' => e = .returned (.bool true) ∧ ∃ tag', TwI w w' ad Q (upd st i (fnd (Q i) (ver (sof i)) t (st i))) ver (upd n (sof i) (n (sof i) + more (ver (sof i)) t (st i))) (k + 1) row lv l tag' := by
  have hs : 5 ≤ sof i ∧ sof i ≤ 7 := by unfold sof; split <;> omega
  obtain ⟨hC, hh, hf⟩ := h.ca i i1 i4
  obtain ⟨hI, hn⟩ := h.so (sof i) hs.1 hs.2
  have hm := more_le (ver (sof i)) t (st i)
  refine (right_any (ver := ver (sof i)) t hC hI (fun b e e' => by omega) hh hf (by omega) (by unfold maxLen; omega) (by omega)).mono fun e w' ⟨he, F', G', A⟩ => ⟨he, ?_⟩
  exact h.move i i1 i4 A.cache A.source A.apart A.mine A.its A.kp hh.fnd hf.fnd (by omega) (by omega)

theorem TwI.tokens (h : TwI w wx ad Q st ver n k row lv l tag) (i : Nat) (i1 : 1 ≤ i) (i4 : i ≤ 4) :
    Calls Try.prog 10 #[.pointer (some ⟨ad i, 0, none⟩)] wx fun e w' => ∃ p cap, e = .returned (.slice p (toks (st i)).length cap) ∧ Strs w' (fun b => wx.heap.size ≤ b) (.slice p (toks (st i)).length cap) (toks (st i)) ∧ (∃ tag', TwI w w' ad Q st ver n k row lv l tag') ∧ Kp (fun b => b = ad i) wx w' := by
  have hs : 5 ≤ sof i ∧ sof i ≤ 7 := by unfold sof; split <;> omega
  obtain ⟨hC, hh, hf⟩ := h.ca i i1 i4
  obtain ⟨hI, hn⟩ := h.so (sof i) hs.1 hs.2
  refine (tokens_any hC).mono fun e w' ⟨p, cap, he, hs', hC', hk'⟩ => ⟨p, cap, he, hs', ?_, hk'⟩
  have := h.move i i1 i4 hC' (hI.keep hk' (fun b hb e => by have := hC.self; rw [e] at hb; omega)) (fun b e e' => by omega) (fun b e => .inl e) (fun b e => .inl e) (hk'.mono (fun b _ e => .inl (by rw [e]; exact hC.self))) hh hf (Int.le_refl _) hn
  rw [upd_same, upd_same] at this
  exact this
theorem TwI.asked (h : TwI w wx ad Q st ver n k row lv l tag) (i : Nat) (i1 : 1 ≤ i) (i4 : i ≤ 4) :
    Calls Try.prog 17 #[.pointer (some ⟨ad i, 0, none⟩)] wx fun e w' => e = .returned (.tuple #[.int .i64 (st i).hits, .int .i64 (st i).misses]) ∧ ∃ tag', TwI w w' ad Q st ver n k row lv l tag' := by
  have hs : 5 ≤ sof i ∧ sof i ≤ 7 := by unfold sof; split <;> omega
  obtain ⟨hC, hh, hf⟩ := h.ca i i1 i4
  obtain ⟨hI, hn⟩ := h.so (sof i) hs.1 hs.2
  refine (asked_any hC).mono fun e w' ⟨he, hC', hk'⟩ => ⟨he, ?_⟩
  have := h.move i i1 i4 hC' (hI.keep hk' (fun b hb e => by have := hC.self; rw [e] at hb; omega)) (fun b e e' => by omega) (fun b e => .inl e) (fun b e => .inl e) (hk'.mono (fun b _ e => .inl (by rw [e]; exact hC.self))) hh hf (Int.le_refl _) hn
  rw [upd_same, upd_same] at this
  exact this
theorem TwI.clear (h : TwI w wx ad Q st ver n k row lv l tag) (i : Nat) (i1 : 1 ≤ i) (i4 : i ≤ 4) :
    Calls Try.prog 18 #[.pointer (some ⟨ad i, 0, none⟩)] wx fun e w' => e = .returned (.tuple #[]) ∧ ∃ tag', TwI w w' ad Q (upd st i (stepSt 6 (st i))) ver n k row lv l tag' := by
  have hs : 5 ≤ sof i ∧ sof i ≤ 7 := by unfold sof; split <;> omega
  obtain ⟨hC, hh, hf⟩ := h.ca i i1 i4
  obtain ⟨hI, hn⟩ := h.so (sof i) hs.1 hs.2
  refine (clear_any hC).mono fun e w' ⟨he, hC', hk'⟩ => ⟨he, ?_⟩
  have := h.move (st' := stepSt 6 (st i)) i i1 i4 hC' (hI.keep hk' (fun b hb e => by omega)) (fun b e e' => by omega) (fun b e => .inl e) (fun b e => .inl e) (hk'.mono (fun b _ e => .inl e)) hh.step hf.step (Int.le_refl _) hn
  rw [upd_same] at this
  exact this
end
end Go.Proofs.Ytkbbaokllgmhiaa
