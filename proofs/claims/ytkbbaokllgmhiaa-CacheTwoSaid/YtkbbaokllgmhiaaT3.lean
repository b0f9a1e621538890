/- CacheTwo: where it begins; its versions; its walk. -/
import Derived.Test.YtkbbaokllgmhiaaT2
import Derived.Test.YtkbbaokllgmhiaaH4
import Derived.Test.YtkbbaokllgmhiaaK2
namespace Go.Proofs.Ytkbbaokllgmhiaa
open Go.RowKit Go.Maps Go.MuLone Go.Sort Go.Shelf

def adf (a b x y s r v P : Nat) : Nat → Nat := fun m => match m with | 1 => a | 2 => b | 3 => x | 4 => y | 5 => s | 6 => r | 7 => v | _ => P
def qf (Q1 Q2 : Int) : Nat → Int := fun m => match m with | 1 => Q1 | 2 => Q2 | 3 => Q1 | _ => Q2
def tag0 (P s r v a b x y k : Nat) : Nat := if k = P then 8 else if k = s then 5 else if k = r then 6 else if k = v then 7 else if k = a ∨ k + 1 = a then 1 else if k = b ∨ k + 1 = b then 2 else if k = x ∨ k + 1 = x then 3 else if k = y ∨ k + 1 = y then 4 else 0
theorem tag0_in {P s r v a b x y k : Nat} (h : tag0 P s r v a b x y k ≠ 0) : k = P ∨ k = s ∨ k = r ∨ k = v ∨ k = a ∨ k + 1 = a ∨ k = b ∨ k + 1 = b ∨ k = x ∨ k + 1 = x ∨ k = y ∨ k + 1 = y := by
  unfold tag0 at h
  repeat (split at h; omega)
  omega
abbrev st0 : CSt := ⟨0, 0, 0, 0, []⟩
theorem fits0 : Fits st0 0 := ⟨by simp, by simp, by simp, by simp, by simp⟩
theorem hon0 : Hon st0 := fun e he => by cases he

theorem two_start {w W2 W3 W4 W5 : World} {Q1 Q2 : Int} (row : Array Value)
    (h1 : CacheI W2 (fun k => k = w.heap.size + 4 ∨ k = w.heap.size + 5) (w.heap.size + 5) (hon (w.heap.size + 1)) Q1 st0)
    (b1 : Below (w.heap.size + 4) ((((w.alloc (.cells row 41)).alloc (.cells #[.int .u64 0, .slice none 0 0] 32)).alloc (.cells #[.int .u64 0, .slice none 0 0] 32)).alloc (.cells #[.int .u64 0, .slice none 0 0] 32)) W2)
    (h2 : CacheI W3 (fun k => k = W2.heap.size ∨ k = W2.heap.size + 1) (W2.heap.size + 1) (hon (w.heap.size + 1)) Q2 st0) (b2 : Below W2.heap.size W2 W3)
    (h3 : CacheI W4 (fun k => k = W3.heap.size ∨ k = W3.heap.size + 1) (W3.heap.size + 1) (hon (w.heap.size + 2)) Q1 st0) (b3 : Below W3.heap.size W3 W4)
    (h4 : CacheI W5 (fun k => k = W4.heap.size ∨ k = W4.heap.size + 1) (W4.heap.size + 1) (hon (w.heap.size + 3)) Q2 st0) (b4 : Below W4.heap.size W4 W5) :
    ∃ tag, TwI w W5 (adf (w.heap.size + 5) (W2.heap.size + 1) (W3.heap.size + 1) (W4.heap.size + 1) (w.heap.size + 1) (w.heap.size + 2) (w.heap.size + 3) w.heap.size) (qf Q1 Q2) (fun _ => st0) (fun _ => 0) (fun _ => 0) 0 row (.slice none 0 0) [] tag := by
  have z2 := b1.size; have z3 := b2.size; have z4 := b3.size; have z5 := b4.size
  simp at z2
  have l1 := h1.lt _ h1.self; have l2 := h2.lt _ h2.self; have l3 := h3.lt _ h3.self; have l4 := h4.lt _ h4.self
  have k2 : Kp (fun k => W2.heap.size ≤ k) W2 W5 := ((Kp.of_below (F := fun k => W2.heap.size ≤ k) b2).then_below b3 z3).then_below b4 (by omega)
  have k3 : Kp (fun k => W3.heap.size ≤ k) W3 W5 := (Kp.of_below (F := fun k => W3.heap.size ≤ k) b3).then_below b4 z4
  have k4 : Kp (fun k => W4.heap.size ≤ k) W4 W5 := Kp.of_below b4
  have z25 := k2.size; have z35 := k3.size
  have hon32 : ∀ (V : World) (S : Nat), hasRow V S #[.int .u64 0, .slice none 0 0] → HonI V (fun k => k = S) S 0 0 := fun V S h => ⟨⟨_, [], h, World.ownsRow_nil _ _ _ _, fun _ hb => by cases hb⟩, rfl, fun _ hb => hb ▸ h.lt, by decide, by decide⟩
  have hP := ((((hasRow_new w row 41).alloc (.cells #[.int .u64 0, .slice none 0 0] 32)).alloc (.cells #[.int .u64 0, .slice none 0 0] 32)).alloc (.cells #[.int .u64 0, .slice none 0 0] 32)).below b1 (by omega)
  have hs := (((hasRow_new (w.alloc (.cells row 41)) #[.int .u64 0, .slice none 0 0] 32).alloc (.cells #[.int .u64 0, .slice none 0 0] 32)).alloc (.cells #[.int .u64 0, .slice none 0 0] 32)).below b1 (by simp)
  have hr := ((hasRow_new ((w.alloc (.cells row 41)).alloc (.cells #[.int .u64 0, .slice none 0 0] 32)) #[.int .u64 0, .slice none 0 0] 32).alloc (.cells #[.int .u64 0, .slice none 0 0] 32)).below b1 (by simp)
  have hv := (hasRow_new (((w.alloc (.cells row 41)).alloc (.cells #[.int .u64 0, .slice none 0 0] 32)).alloc (.cells #[.int .u64 0, .slice none 0 0] 32)) #[.int .u64 0, .slice none 0 0] 32).below b1 (by simp)
  simp at hs hr hv
  have hP5 := hP.kp k2 (by have := hP.lt; omega)
  have hs5 := (hon32 _ _ hs).keep k2 (fun b e => by have := hs.lt; omega)
  have hr5 := (hon32 _ _ hr).keep k2 (fun b e => by have := hr.lt; omega)
  have hv5 := (hon32 _ _ hv).keep k2 (fun b e => by have := hv.lt; omega)
  have c1 := h1.keep k2 (fun b e => by omega)
  have c2 := h2.keep k3 (fun b e => by omega)
  have c3 := h3.keep k4 (fun b e => by omega)
  generalize hB : w.heap.size = B at *
  have tl : ∀ k, tag0 B (B + 1) (B + 2) (B + 3) (B + 5) (W2.heap.size + 1) (W3.heap.size + 1) (W4.heap.size + 1) k ≠ 0 → B ≤ k ∧ k < W5.heap.size := fun k hk => by
    have := tag0_in hk
    omega
  have kw : Kp (fun k => B ≤ k) w W5 := ((((((Kp.refl (fun k => B ≤ k) w).alloc _).alloc _).alloc _).alloc _).then_below b1 (by omega)).trans k2 (fun _ _ e => by omega)
  refine ⟨tag0 B (B + 1) (B + 2) (B + 3) (B + 5) (W2.heap.size + 1) (W3.heap.size + 1) (W4.heap.size + 1), by rw [hB]; exact tl, fun i i1 i4 => ⟨?_, hon0, fits0⟩, fun j j5 j7 => ⟨?_, Int.le_refl _⟩, ⟨hP5, ?_⟩, Strs.nil _ _ _ _, by rw [hB]; exact kw⟩
  · rcases (by omega : i = 1 ∨ i = 2 ∨ i = 3 ∨ i = 4) with rfl | rfl | rfl | rfl
    · exact c1.mono (fun k hk => by unfold tag0; rw [if_neg (by omega), if_neg (by omega), if_neg (by omega), if_neg (by omega), if_pos (by omega)]) (fun k hk => (tl k (by rw [hk]; omega)).2)
    · exact c2.mono (fun k hk => by unfold tag0; rw [if_neg (by omega), if_neg (by omega), if_neg (by omega), if_neg (by omega), if_neg (by omega), if_pos (by omega)]) (fun k hk => (tl k (by rw [hk]; omega)).2)
    · exact c3.mono (fun k hk => by unfold tag0; rw [if_neg (by omega), if_neg (by omega), if_neg (by omega), if_neg (by omega), if_neg (by omega), if_neg (by omega), if_pos (by omega)]) (fun k hk => (tl k (by rw [hk]; omega)).2)
    · exact h4.mono (fun k hk => by unfold tag0; rw [if_neg (by omega), if_neg (by omega), if_neg (by omega), if_neg (by omega), if_neg (by omega), if_neg (by omega), if_neg (by omega), if_pos (by omega)]) (fun k hk => (tl k (by rw [hk]; omega)).2)
  · rcases (by omega : j = 5 ∨ j = 6 ∨ j = 7) with rfl | rfl | rfl
    · exact hs5.mono (fun k hk => by unfold tag0; rw [if_neg (by omega), if_pos (by omega)]) (fun k hk => (tl k (by rw [hk]; omega)).2)
    · exact hr5.mono (fun k hk => by unfold tag0; rw [if_neg (by omega), if_neg (by omega), if_pos (by omega)]) (fun k hk => (tl k (by rw [hk]; omega)).2)
    · exact hv5.mono (fun k hk => by unfold tag0; rw [if_neg (by omega), if_neg (by omega), if_neg (by omega), if_pos (by omega)]) (fun k hk => (tl k (by rw [hk]; omega)).2)
  · show tag0 B (B + 1) (B + 2) (B + 3) (B + 5) (W2.heap.size + 1) (W3.heap.size + 1) (W4.heap.size + 1) B = 8
    unfold tag0; rw [if_pos rfl]

/-- The tokens are laid. -/
theorem TwI.setList {w wx w' : World} {ad : Nat → Nat} {Q : Nat → Int} {st : Nat → CSt} {ver : Nat → Int} {n : Nat → Nat} {k : Int} {row : Array Value} {lv lv' : Value} {l l' : List ByteArray} {tag : Nat → Nat} (h : TwI w wx ad Q st ver n k row lv l tag)
    (hL : Lst w' wx.heap.size lv' l') (hb : Below wx.heap.size wx w') : ∃ tag', TwI w w' ad Q st ver n k row lv' l' tag' := by
  have h' := h.below hb
  have hz := hb.size
  have hk := h.kp.size
  have e : ∀ m, m ≠ 0 → m ≠ 8 → ∀ b, (if b < wx.heap.size then tag b else 8) = m ↔ tag b = m := by
    intro m m0 m8 b
    by_cases hbl : b < wx.heap.size
    · rw [if_pos hbl]
    · rw [if_neg hbl]
      exact ⟨fun e => absurd e.symm m8, fun e => absurd (h.t0 b (by rw [e]; exact m0)).2 hbl⟩
  let tag' : Nat → Nat := fun b => if b < w'.heap.size then (if b < wx.heap.size then tag b else 8) else 0
  have e' : ∀ m, m ≠ 0 → m ≠ 8 → ∀ b, tag' b = m ↔ tag b = m := by
    intro m m0 m8 b
    by_cases hbl : b < w'.heap.size
    · show (if b < w'.heap.size then _ else _) = m ↔ _
      rw [if_pos hbl]; exact e m m0 m8 b
    · show (if b < w'.heap.size then _ else _) = m ↔ _
      rw [if_neg hbl]
      exact ⟨fun e => absurd e.symm m0, fun e => absurd (h'.t0 b (by rw [e]; exact m0)).2 hbl⟩
  have lt' : ∀ b, tag' b ≠ 0 → w.heap.size ≤ b ∧ b < w'.heap.size := by
    intro b hne
    by_cases hbl : b < w'.heap.size
    · refine ⟨?_, hbl⟩
      by_cases hbx : b < wx.heap.size
      · have : tag' b = tag b := by show (if _ then (if _ then _ else _) else _) = _; rw [if_pos hbl, if_pos hbx]
        rw [this] at hne; exact (h.t0 b hne).1
      · omega
    · exact absurd (by show (if _ then _ else _) = _; rw [if_neg hbl]) hne
  refine ⟨tag', lt', fun i i1 i4 => ⟨(h'.ca i i1 i4).1.mono (fun b hb => (e' i (by omega) (by omega) b).2 hb) (fun b hb => (lt' b (by rw [hb]; omega)).2), (h'.ca i i1 i4).2⟩, fun j j5 j7 => ⟨(h'.so j j5 j7).1.mono (fun b hb => (e' j (by omega) (by omega) b).2 hb) (fun b hb => (lt' b (by rw [hb]; omega)).2), (h'.so j j5 j7).2⟩, ⟨h'.row.1, ?_⟩, ?_, h'.kp⟩
  · have hl := h.row.1.lt
    show (if _ then (if _ then _ else _) else _) = _
    rw [if_pos (by omega), if_pos hl]; exact h.row.2
  · refine hL.strs.bound.mono (fun b hb => ?_)
    show (if _ then (if _ then _ else _) else _) = _
    rw [if_pos hb.2, if_neg (by omega)]

section
variable {w wx w' : World} {ad : Nat → Nat} {Q : Nat → Int} {V : Int} {k : Int} {row : Array Value} {lv : Value} {l : List ByteArray} {i d : Nat} {S1 S3 S : CSt} {s r v : Nat}
theorem TwP.kp (h : TwP w wx ad Q V k row lv l i S1 S3 d) : Kp (fun b => w.heap.size ≤ b) w wx := by
  obtain ⟨⟨st, ver, n, tag, hT, _⟩, _⟩ := h; exact hT.kp
theorem TwP.row8 (h : TwP w wx ad Q V k row lv l i S1 S3 d) : hasRow wx (ad 8) row := by
  obtain ⟨⟨st, ver, n, tag, hT, _⟩, _⟩ := h; exact hT.row.1
theorem TwP.lst (h : TwP w wx ad Q V k row lv l i S1 S3 d) : Strs wx (fun _ => True) lv l := by
  obtain ⟨⟨st, ver, n, tag, hT, _⟩, _⟩ := h; exact hT.l.mono (fun _ _ => trivial)
theorem TwP.vers (h : TwP w wx ad Q V k row lv l i S1 S3 d) (hs : ad 5 = s) (hr : ad 6 = r) (hv : ad 7 = v) (N : Int) (n0 : 0 ≤ N) (n1 : N < 18446744073709551616) :
    TwP w (((wx.setCell ⟨s, 0, none⟩ (.int .u64 N)).setCell ⟨r, 0, none⟩ (.int .u64 N)).setCell ⟨v, 0, none⟩ (.int .u64 N)) ad Q N k row lv l i S1 S3 d := by
  obtain ⟨⟨st, ver, n, tag, hT, hvv, h1, h3, ho, hn⟩, q, hi⟩ := h
  have := ((hT.setVer 5 (by omega) (by omega) N n0 n1).setVer 6 (by omega) (by omega) N n0 n1).setVer 7 (by omega) (by omega) N n0 n1
  rw [hs, hr, hv] at this
  refine ⟨⟨st, _, n, tag, this, fun j j5 j7 => ?_, h1, h3, ho, hn⟩, q, hi⟩
  rcases (by omega : j = 5 ∨ j = 6 ∨ j = 7) with rfl | rfl | rfl <;> simp [upd]
theorem TwP.srcs (h : TwP w wx ad Q V k row lv l i S1 S3 d) (j : Nat) (j5 : 5 ≤ j) (j7 : j ≤ 7) (hj : ad j = s) : wx.cell? ⟨s, 0, none⟩ = some (.int .u64 V) ∧ wx.frozen? ⟨s, 0, none⟩ = false ∧ s < wx.heap.size ∧ ∃ p c nn, wx.cell? ⟨s, 1, none⟩ = some (.slice p nn c) := by
  obtain ⟨⟨st, ver, n, tag, hT, hvv, h1, h3, ho, hn⟩, q, hi⟩ := h
  obtain ⟨hI, _⟩ := hT.so j j5 j7
  rw [hj, hvv j j5 j7] at hI
  obtain ⟨v, xs, g1, g2, _⟩ := hI.ex
  refine ⟨hI.ver, g1.frozen 0, g1.lt, ?_⟩
  rcases g2.2 with ⟨rfl, h0⟩ | ⟨g, cap, cur, rfl, _⟩
  · exact ⟨none, 0, 0, g1.cell 1⟩
  · exact ⟨_, _, _, g1.cell 1⟩
theorem TwP.apart (h : TwP w wx ad Q V k row lv l i S1 S3 d) : ad 5 ≠ ad 6 ∧ ad 5 ≠ ad 7 ∧ ad 6 ≠ ad 7 := by
  obtain ⟨⟨st, ver, n, tag, hT, _⟩, _⟩ := h
  have a5 := (hT.so 5 (by omega) (by omega)).1.self
  have a6 := (hT.so 6 (by omega) (by omega)).1.self
  have a7 := (hT.so 7 (by omega) (by omega)).1.self
  exact ⟨fun e => by rw [e] at a5; omega, fun e => by rw [e] at a5; omega, fun e => by rw [e] at a6; omega⟩
/-- How often each source was asked. -/
theorem TwP.counts (h : TwP w wx ad Q V k row lv l i S1 S3 0) (hs : ad 5 = s) (hr : ad 6 = r) (hv : ad 7 = v) : ∃ p1 c1 p2 c2 p3 c3 n2 n3, wx.cell? ⟨s, 1, none⟩ = some (.slice p1 (n2 + n3) c1) ∧ wx.cell? ⟨r, 1, none⟩ = some (.slice p2 n2 c2) ∧ wx.cell? ⟨v, 1, none⟩ = some (.slice p3 n3 c3) ∧ (n2 : Int) ≤ k ∧ (n3 : Int) ≤ k := by
  obtain ⟨⟨st, ver, n, tag, hT, hvv, h1, h3, ho, hn⟩, q, hi⟩ := h
  have gen : ∀ j, 5 ≤ j → j ≤ 7 → ∃ p c, wx.cell? ⟨ad j, 1, none⟩ = some (.slice p (n j) c) := fun j j5 j7 => by
    obtain ⟨hI, _⟩ := hT.so j j5 j7
    obtain ⟨v, xs, g1, g2, _⟩ := hI.ex
    rcases g2.2 with ⟨rfl, h0⟩ | ⟨g, cap, cur, rfl, _⟩
    · exact ⟨none, 0, by rw [h0]; exact g1.cell 1⟩
    · exact ⟨_, _, g1.cell 1⟩
  obtain ⟨p1, c1, e1⟩ := gen 5 (by omega) (by omega)
  obtain ⟨p2, c2, e2⟩ := gen 6 (by omega) (by omega)
  obtain ⟨p3, c3, e3⟩ := gen 7 (by omega) (by omega)
  rw [hs, hn, Nat.add_zero] at e1
  rw [hr] at e2
  rw [hv] at e3
  exact ⟨p1, c1, p2, c2, p3, c3, n 6, n 7, e1, e2, e3, (hT.so 6 (by omega) (by omega)).2, (hT.so 7 (by omega) (by omega)).2⟩
theorem TwP.le {k' : Int} (h : TwP w wx ad Q V k row lv l i S1 S3 d) (hk : k ≤ k') : TwP w wx ad Q V k' row lv l i S1 S3 d := by
  obtain ⟨⟨st, ver, n, tag, hT, r⟩, q, hi⟩ := h
  exact ⟨⟨st, ver, n, tag, ⟨hT.t0, fun m m1 m4 => ⟨(hT.ca m m1 m4).1, (hT.ca m m1 m4).2.1, (hT.ca m m1 m4).2.2.le hk⟩, fun m m5 m7 => ⟨(hT.so m m5 m7).1, by have := (hT.so m m5 m7).2; omega⟩, hT.row, hT.l, hT.kp⟩, r⟩, q, hi⟩
end
end Go.Proofs.Ytkbbaokllgmhiaa
