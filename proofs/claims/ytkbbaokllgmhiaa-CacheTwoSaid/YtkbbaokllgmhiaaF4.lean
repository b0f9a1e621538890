/- The laws' own source: set; its Find. -/
import Derived.Test.YtkbbaokllgmhiaaF3
import Derived.OwnWalk
namespace Go.Proofs.Ytkbbaokllgmhiaa
open Go.RowKit Go.Maps Go.MuLone Go.Sort Go.Shelf

set_option maxRecDepth 100000 in
set_option maxHeartbeats 1600000 in
theorem set0 {w : World} {S : Nat} {ver seen : Int} {asked told kept : Value} (tok : ByteArray) (te : Tell) (p : Option Addr) (n c : Nat) (h : hasRow w S (srow ver (.slice none 0 0) asked seen told kept)) :
    Calls Try.prog 21 #[.pointer (some ⟨S, 0, none⟩), .agg (fcells tok te p n c)] w fun e w' => e = .returned (.tuple #[]) ∧ ∃ g, hasRow w' S (srow ver (.slice (some ⟨g, 0, none⟩) 1 1) asked seen told kept) ∧ hasRow w' g (fcells tok te p n c) ∧ w.heap.size ≤ g ∧ Kp (fun b => b = S) w w' := by
  have c3 := h.cell 3
  simp at c3
  have f3 := h.frozen 3
  have hl := h.lt
  have H := Lib.hid h
  clear h
  go_enter Try.func21, Try.ntmps21
  go_wp2
  go_loop [4, 5] (fun l i => l = .slice (some ⟨w.heap.size + 1, 0, none⟩) 1 1 ∧ i = .int .i64 0) (fun _ _ => 0)
  case atStart => exact ⟨rfl, rfl⟩
  case round =>
    obtain ⟨rfl, rfl⟩ := hrel
    go_wp2
    refine bodyPost_end (results_none rfl _ _ _) rfl ⟨rfl, w.heap.size + 1, ?_, ?_, by omega, (((Kp.refl (fun b => b = S) w).setCell (a := ⟨S, 3, none⟩) (.inl rfl) _).alloc _).alloc _⟩
    · exact ((H.out.setCell (i := 3) _).alloc _).alloc _
    · have := hasRow_new ((w.setCell ⟨S, 3, none⟩ (.slice (some ⟨w.heap.size + 1, 0, none⟩) 1 1)).alloc (.cells (fcells tok te p n c) 50)) (fcells tok te p n c) 50
      rw [show ((w.setCell ⟨S, 3, none⟩ (.slice (some ⟨w.heap.size + 1, 0, none⟩) 1 1)).alloc (.cells (fcells tok te p n c) 50)).heap.size = w.heap.size + 1 by simp [World.setCell]] at this
      exact this

theorem info30 : (Try.prog.info? 30).map (fun i => (i.zero, i.size, i.bytes)) = some (some (.slice none 0 0), 1, 24) := by kernel_rfl

theorem step_app61 {ops : Array Oper} {o : Oper} {a : Act} {w : World} {K : Act → World → Prop} {Q : Exit → Act → World → Prop} {E : Prop} (hgd : o.guard = none) (s x : Operand)
    (ho : o.op = .call { callee := .builtin .append, args := #[s, x], argTypes := #[61, 61] })
    (v : Value) (n : Nat) (xs : List Value) (hs : a.eval s = v) (hown : w.ownsRow 0 30 1 v n xs)
    (g0 : Nat) (hx : a.eval x = .slice (some ⟨g0, 0, none⟩) 1 1) (u : Value) (hu : w.cell? ⟨g0, 0, none⟩ = some u) (hu1 : u.oneCell' = true) (hn : n ≤ 1000)
    (h : ∀ g cap w', w'.ownsRow 0 30 1 (.slice (some ⟨g, 0, none⟩) (n + 1) cap) (n + 1) (xs ++ [u]) → w.grownBy w' v.ownBlock → (v.ownBlock = some g ∨ w.heap.size ≤ g) → K (a.put o.dst (.slice (some ⟨g, 0, none⟩) (n + 1) cap)) w') :
    if Region.wanted o (yielded ops a.tmps) = true then Oper.wp Try.prog o a w K Q else E := by
  obtain ⟨i0, hi0, hz0, hz1, hz2⟩ := info_parts info30
  refine step_append_lies w hgd s x 61 ho 0 30 i0 _ 1 24 Try.underlying61 hi0 hz0 hz1 hz2 rfl (by omega) v n xs hs hown ⟨g0, 0, none⟩ 1 1 [u] hx rfl ?_ ?_ (by omega) (by unfold maxLen; omega) (by omega) (Nat.zero_le _) w.heap.size rfl (fun g cap w' h1 h2 h3 h4 => h g cap w' h1 h2 (h3.imp id (fun e => by omega)))
  · intro j y hy
    match j, hy with
    | 0, hy => simp at hy; subst hy; simpa [Addr.add] using hu
    | j + 1, hy => simp at hy
  · intro y hy; simp at hy; subst hy; exact hu1

/-- Behind one more list in the list at cell i of the source. -/
def AfterTold (W wx : World) (S : Nat) (own : Option Nat) (row : Value → Array Value) (n : Nat) : Prop :=
  ∃ g cap xs, Kp (fun b => own = some b ∨ b = S) W wx ∧ hasRow wx S (row (.slice (some ⟨g, 0, none⟩) (n + 1) cap)) ∧ wx.ownsRow 0 30 1 (.slice (some ⟨g, 0, none⟩) (n + 1) cap) (n + 1) xs ∧ (own = some g ∨ W.heap.size ≤ g)

set_option maxRecDepth 100000 in
set_option maxHeartbeats 1600000 in
theorem srcFind {w : World} {S na nt nk : Nat} {ver seen : Int} {facts asked told kept : Value} {as1 ts ks : List Value} {te : Tell} {p : Option Addr} {n c : Nat} (tok : ByteArray)
    (h : hasRow w S (srow ver facts asked seen told kept)) (ha : w.ownsRow 0 9 1 asked na as1) (ht : w.ownsRow 0 30 1 told nt ts) (hk : w.ownsRow 0 30 1 kept nk ks) (na1 : na ≤ 1000) (nt1 : nt ≤ 1000) (nk1 : nk ≤ 1000)
    (d1 : ∀ b, asked.ownBlock = some b → b ≠ S ∧ told.ownBlock ≠ some b ∧ kept.ownBlock ≠ some b) (d2 : ∀ b, told.ownBlock = some b → b ≠ S ∧ kept.ownBlock ≠ some b) (d3 : ∀ b, kept.ownBlock = some b → b ≠ S)
    (hFact : ∀ W asked', Kp (fun b => b = S ∨ asked.ownBlock = some b) w W → hasRow W S (srow ver facts asked' seen told kept) → Calls Try.prog 94 #[.pointer (some ⟨S, 0, none⟩), .string tok] W fun e w' => e = .returned (.agg (fcells tok te p n c)) ∧ Below W.heap.size W w')
    (hLend : ∀ W, Kp (fun b => b = S ∨ asked.ownBlock = some b) w W → Calls Try.prog 95 #[.slice p n c] W fun e w' => ∃ p' c', e = .returned (.slice p' te.scopes.length c') ∧ Strs w' (fun b => W.heap.size ≤ b) (.slice p' te.scopes.length c') te.scopes ∧ Below W.heap.size W w')
    (hCopy : ∀ W, Kp (fun b => b = S ∨ asked.ownBlock = some b ∨ told.ownBlock = some b) w W → Calls Try.prog 96 #[.slice p n c] W fun e w' => ∃ p' n' c', e = .returned (.slice p' n' c') ∧ Below W.heap.size W w') :
    Calls Try.prog 91 #[.pointer (some ⟨S, 0, none⟩), .string tok] w fun e w' => ∃ p' c', e = .returned (.tuple #[tclm te p' c', .bool te.ok, .int .i64 0]) ∧
      ∃ g1 c1 x1 g2 c2 x2 g3 c3 x3, hasRow w' S (srow ver facts (.slice (some ⟨g1, 0, none⟩) (na + 1) c1) seen (.slice (some ⟨g2, 0, none⟩) (nt + 1) c2) (.slice (some ⟨g3, 0, none⟩) (nk + 1) c3)) ∧
        w'.ownsRow 0 9 1 (.slice (some ⟨g1, 0, none⟩) (na + 1) c1) (na + 1) x1 ∧ w'.ownsRow 0 30 1 (.slice (some ⟨g2, 0, none⟩) (nt + 1) c2) (nt + 1) x2 ∧ w'.ownsRow 0 30 1 (.slice (some ⟨g3, 0, none⟩) (nk + 1) c3) (nk + 1) x3 ∧
        (asked.ownBlock = some g1 ∨ w.heap.size ≤ g1) ∧ (told.ownBlock = some g2 ∨ w.heap.size ≤ g2) ∧ (kept.ownBlock = some g3 ∨ w.heap.size ≤ g3) ∧ (g1 ≠ S ∧ g2 ≠ S ∧ g3 ≠ S ∧ g1 ≠ g2 ∧ g1 ≠ g3 ∧ g2 ≠ g3) ∧
        Kp (fun b => b = S ∨ asked.ownBlock = some b ∨ told.ownBlock = some b ∨ kept.ownBlock = some b) w w' ∧ Strs w' (fun b => w.heap.size ≤ b ∧ b ≠ g1 ∧ b ≠ g2 ∧ b ≠ g3) (.slice p' te.scopes.length c') te.scopes := by
  have c4 := h.cell 4
  have c2 := h.cell 2
  have f4 := h.frozen 4
  have f6 := h.frozen 6
  have f7 := h.frozen 7
  have hl := h.lt
  have hsl : ∃ p' m' c', asked = .slice p' m' c' := by
    rcases ha.2 with ⟨rfl, _⟩ | ⟨g, cap, cur, rfl, _⟩
    · exact ⟨_, _, _, rfl⟩
    · exact ⟨_, _, _, rfl⟩
  obtain ⟨pa, ma, ca, rfl⟩ := hsl
  have hst : ∃ p' m' c', told = .slice p' m' c' := by
    rcases ht.2 with ⟨rfl, _⟩ | ⟨g, cap, cur, rfl, _⟩
    · exact ⟨_, _, _, rfl⟩
    · exact ⟨_, _, _, rfl⟩
  obtain ⟨pt, mt, ct, rfl⟩ := hst
  have hsk : ∃ p' m' c', kept = .slice p' m' c' := by
    rcases hk.2 with ⟨rfl, _⟩ | ⟨g, cap, cur, rfl, _⟩
    · exact ⟨_, _, _, rfl⟩
    · exact ⟨_, _, _, rfl⟩
  obtain ⟨pk, mk, ck, rfl⟩ := hsk
  simp at c4 c2
  have HA := Lib.hid ha
  have HT := Lib.hid ht
  have HK := Lib.hid hk
  have H := Lib.hid h
  have HD := Lib.hid (And.intro d1 (And.intro d2 d3))
  have HF := Lib.hid hFact
  have HL := Lib.hid hLend
  have HC := Lib.hid hCopy
  clear h ha ht hk hFact hLend hCopy d1 d2 d3
  go_enter Try.func91, Try.ntmps91
  go_wp2_with (first | (at_builtin; refine wpList_app_str rfl _ _ rfl (.slice pa ma ca) na as1 rfl ((HA.out.alloc _).alloc _) _ _ rfl tok ?d1 (by omega) ?_; rotate_left; intro g cap w1 hown hgr hat hgl; have hk1 := (((Kp.refl (fun b => b = S ∨ (Value.slice pa ma ca).ownBlock = some b) w).alloc z48).alloc (.cells #[.string tok] 9)).grown hgr (fun b hb' => .inl (.inr hb')); have hr1 := ((H.out.alloc z48).alloc (.cells #[.string tok] 9)).of_same (hgr.block S (by simp; omega) (fun e => (HD.out.1 S e.symm).1 rfl)); have hi1 := ((hasRow_new w _ 48).alloc (.cells #[.string tok] 9)).of_same (hgr.block w.heap.size (by simp; omega) (fun e => absurd (World.ownsRow.lt HA.out _ e.symm).2 (Nat.lt_irrefl _))); have i1 := hi1.is; have b2 := hr1.cell 2; have b4 := hr1.cell 4; have g4 := hr1.frozen 4; have l1 := hr1.lt; have li1 := i1.lt; have HQ := Lib.hid (And.intro hk1 (And.intro hr1 (And.intro hi1 (And.intro hown hat)))); clear hk1 hr1 hown hgr hat hi1; simp at b2 b4))
  case d1 => exact (World.cell?_alloc_at _ _ _ _ (by simp)).trans rfl
  have hz1 : (w1.setCell ⟨S, 4, none⟩ (.slice (some ⟨g, 0, none⟩) (na + 1) cap)).heap.size = w1.heap.size := by simp [World.setCell]
  have hSR : w.heap.size ≠ S := by omega
  have hk2 := HQ.out.1.setCell (a := ⟨S, 4, none⟩) (.inl (.inl rfl)) (.slice (some ⟨g, 0, none⟩) (na + 1) cap)
  have hr2 : hasRow (w1.setCell ⟨S, 4, none⟩ (.slice (some ⟨g, 0, none⟩) (na + 1) cap)) S (srow ver facts (.slice (some ⟨g, 0, none⟩) (na + 1) cap) seen (.slice pt mt ct) (.slice pk mk ck)) := HQ.out.2.1.setCell (i := 4) _
  have hi2 := HQ.out.2.2.1.setCell_other (k := S) (i := 4) hSR (.slice (some ⟨g, 0, none⟩) (na + 1) cap)
  refine (HF.out _ _ hk2 hr2).mono ?_
  rintro r w2 ⟨rfl, hb2⟩
  have hr3 := hr2.below hb2 hr2.lt
  have hi3 := hi2.below hb2 hi2.lt
  have hk3 := hk2.then_below hb2 hk2.size
  have z2 := hb2.size
  have i3 := hi3.is
  have li3 := i3.lt
  have lS3 := hr3.lt
  have HR3 := Lib.hid (And.intro hk3 (And.intro hr3 (And.intro hi3 hb2)))
  clear hr3 hi3 hk3 hb2 hk2 hr2 hi2
  have hkA : Kp (fun b => b = S ∨ (Value.slice pa ma ca).ownBlock = some b) w ((w2.alloc (.cells (fcells tok te p n c) 50)).alloc (.cells #[.string te.iss, .string te.sub, .string ⟨#[]⟩, .string ⟨#[]⟩, .slice p n c, .int .u64 te.grant, .int .i64 0, .int .i64 te.exp, .int .u8 0, .int .u8 0, .int .u8 0, .int .u8 0, .int .u8 0, .int .u8 0, .int .u8 0, .int .u8 0, .int .u8 0, .int .u8 0, .int .u8 0, .int .u8 0, .int .u8 0, .int .u8 0, .int .u8 0, .int .u8 0] 48)) := (HR3.out.1.alloc _).alloc _
  have HKA := Lib.hid hkA
  clear hkA
  go_wp2_with (fail)
  refine (HL.out _ HKA.out).mono ?_
  rintro r w4 ⟨p', c', rfl, hs4, hb4⟩
  have ht7 : hasRow w4 w2.heap.size (fcells tok te p n c) := ((hasRow_new w2 _ 50).alloc _).below hb4 (by simp; omega)
  have ht8 := (hasRow_new (w2.alloc (.cells (fcells tok te p n c) 50)) #[.string te.iss, .string te.sub, .string ⟨#[]⟩, .string ⟨#[]⟩, .slice p n c, .int .u64 te.grant, .int .i64 0, .int .i64 te.exp, .int .u8 0, .int .u8 0, .int .u8 0, .int .u8 0, .int .u8 0, .int .u8 0, .int .u8 0, .int .u8 0, .int .u8 0, .int .u8 0, .int .u8 0, .int .u8 0, .int .u8 0, .int .u8 0, .int .u8 0, .int .u8 0] 48).below hb4 (by simp)
  rw [show (w2.alloc (.cells (fcells tok te p n c) 50)).heap.size = w2.heap.size + 1 by simp] at ht8
  have hr4 := ((HR3.out.2.1.alloc (.cells (fcells tok te p n c) 50)).alloc (.cells #[.string te.iss, .string te.sub, .string ⟨#[]⟩, .string ⟨#[]⟩, .slice p n c, .int .u64 te.grant, .int .i64 0, .int .i64 te.exp, .int .u8 0, .int .u8 0, .int .u8 0, .int .u8 0, .int .u8 0, .int .u8 0, .int .u8 0, .int .u8 0, .int .u8 0, .int .u8 0, .int .u8 0, .int .u8 0, .int .u8 0, .int .u8 0, .int .u8 0, .int .u8 0] 48)).below hb4 (by simp; omega)
  have hi4 := ((HR3.out.2.2.1.alloc (.cells (fcells tok te p n c) 50)).alloc (.cells #[.string te.iss, .string te.sub, .string ⟨#[]⟩, .string ⟨#[]⟩, .slice p n c, .int .u64 te.grant, .int .i64 0, .int .i64 te.exp, .int .u8 0, .int .u8 0, .int .u8 0, .int .u8 0, .int .u8 0, .int .u8 0, .int .u8 0, .int .u8 0, .int .u8 0, .int .u8 0, .int .u8 0, .int .u8 0, .int .u8 0, .int .u8 0, .int .u8 0, .int .u8 0] 48)).below hb4 (by simp; omega)
  have hk4 := HKA.out.then_below hb4 HKA.out.size
  have f84 := ht8.frozen 4
  have l8 := ht8.lt
  have HB4 := Lib.hid (And.intro hs4 (And.intro ht7 (And.intro ht8 (And.intro hr4 (And.intro hi4 (And.intro hk4 hb4))))))
  clear hs4 hb4 ht7 ht8 hr4 hi4 hk4
  have c84 : ∃ v, w4.cell? ⟨w2.heap.size + 1, 4, none⟩ = some v := ⟨_, HB4.out.2.2.1.cell 4⟩
  obtain ⟨vv, c84⟩ := c84
  go_wp2
  generalize hT8 : w2.heap.size + 1 = T8 at *
  generalize hT7 : w2.heap.size = T7 at *
  have hgS : g ≠ S := by
    rcases HQ.out.2.2.2.2 with h | h
    · exact (HD.out.1 g h).1
    · simp at h; omega
  have hT7w : w.heap.size < T7 := by omega
  have hw17 : w1.heap.size ≤ T7 := by omega
  have hgT : (Value.slice pt mt ct).ownBlock ≠ some g := by
    rcases HQ.out.2.2.2.2 with h | h
    · exact (HD.out.1 g h).2.1
    · intro e; have := (World.ownsRow.lt HT.out g e).2; simp at h; omega
  have hgK : (Value.slice pk mk ck).ownBlock ≠ some g := by
    rcases HQ.out.2.2.2.2 with h | h
    · exact (HD.out.1 g h).2.2
    · intro e; have := (World.ownsRow.lt HK.out g e).2; simp at h; omega
  have hga : (Value.slice pa ma ca).ownBlock = some g ∨ w.heap.size < g := by
    rcases HQ.out.2.2.2.2 with h | h
    · exact .inl h
    · simp at h; exact .inr (by omega)
  have z4 := HB4.out.2.2.2.2.2.2.size
  have l7 := HB4.out.2.1.lt
  have own1 : w1.ownsRow 0 9 1 (.slice (some ⟨g, 0, none⟩) (na + 1) cap) (na + 1) (as1 ++ [.string tok]) := HQ.out.2.2.2.1
  have hlg := (World.ownsRow.lt own1 g rfl).2
  have hKW1 : Kp (fun b => b = S) w1 (w4.setCell ⟨T8, 4, none⟩ (.slice p' te.scopes.length c')) := by
    refine ((((((Kp.refl (fun b => b = S) w1).setCell (a := ⟨S, 4, none⟩) (.inl rfl) _).then_below HR3.out.2.2.2 (by rw [hz1]; exact Nat.le_refl _)).alloc _).alloc _).then_below HB4.out.2.2.2.2.2.2 (by simp; omega)).setCell (.inr ?_) _
    show w1.heap.size ≤ T8
    omega
  have e1 : hasRow (w4.setCell ⟨T8, 4, none⟩ (.slice p' te.scopes.length c')) S (srow ver facts (.slice (some ⟨g, 0, none⟩) (na + 1) cap) seen (.slice pt mt ct) (.slice pk mk ck)) := HB4.out.2.2.2.1.setCell_other (by omega) _
  have e2 := ownsRow_kp own1 hKW1 (fun b hb e => by cases hb; exact hgS e)
  have hKW : Kp (fun b => b = S ∨ (Value.slice pa ma ca).ownBlock = some b) w (w4.setCell ⟨T8, 4, none⟩ (.slice p' te.scopes.length c')) := HB4.out.2.2.2.2.2.1.setCell (.inr (show w.heap.size ≤ T8 by omega)) _
  have e3 := ownsRow_kp HT.out hKW (fun b hb e => by rcases e with e | e; exact (HD.out.2.1 b hb).1 e; exact (HD.out.1 b e).2.1 hb)
  have e4 := ownsRow_kp HK.out hKW (fun b hb e => by rcases e with e | e; exact HD.out.2.2 b hb e; exact (HD.out.1 b e).2.2 hb)
  have e5 : hasRow (w4.setCell ⟨T8, 4, none⟩ (.slice p' te.scopes.length c')) T7 (fcells tok te p n c) := HB4.out.2.1.setCell_other (by omega) _
  have e6 : hasRow (w4.setCell ⟨T8, 4, none⟩ (.slice p' te.scopes.length c')) T8 #[.string te.iss, .string te.sub, .string ⟨#[]⟩, .string ⟨#[]⟩, .slice p' te.scopes.length c', .int .u64 te.grant, .int .i64 0, .int .i64 te.exp, .int .u8 0, .int .u8 0, .int .u8 0, .int .u8 0, .int .u8 0, .int .u8 0, .int .u8 0, .int .u8 0, .int .u8 0, .int .u8 0, .int .u8 0, .int .u8 0, .int .u8 0, .int .u8 0, .int .u8 0, .int .u8 0] := HB4.out.2.2.1.setCell (i := 4) _
  have e7 : isRow (w4.setCell ⟨T8, 4, none⟩ (.slice p' te.scopes.length c')) w.heap.size 24 := isRow_setCell _ _ _ _ _ _ HB4.out.2.2.2.2.1.is
  have e8 : Strs (w4.setCell ⟨T8, 4, none⟩ (.slice p' te.scopes.length c')) (fun b => T8 < b ∧ b < w4.heap.size) (.slice p' te.scopes.length c') te.scopes := by
    refine (HB4.out.1.bound.keep ((Kp.refl (fun b => b = T8) w4).setCell (a := ⟨T8, 4, none⟩) (.inl rfl) _) ?_).mono ?_
    · intro b hb e; simp at hb; omega
    · intro b hb; simp at hb; exact ⟨by omega, hb.2⟩
  have hz5 : (w4.setCell ⟨T8, 4, none⟩ (.slice p' te.scopes.length c')).heap.size = w4.heap.size := by simp [World.setCell]
  generalize w4.setCell ⟨T8, 4, none⟩ (.slice p' te.scopes.length c') = W5 at *
  have E := Lib.hid (And.intro e1 (And.intro e2 (And.intro e3 (And.intro e4 (And.intro e5 (And.intro e6 (And.intro e7 (And.intro e8 hKW))))))))
  have HZ5 := Lib.hid hz5
  clear hz5
  have x6 := e1.cell 6
  have y6 := e1.frozen 6
  have x84 := e6.cell 4
  have lS5 := e1.lt
  have l85 := e6.lt
  simp at x6 x84
  clear e1 e2 e3 e4 e5 e6 e7 e8 hKW HB4 HQ HR3 HKA own1 hKW1 f84 c84 b2 b4 g4 l1 li1 i1 i3 li3 hz1 z2 lS3 l8 f4 f6 f7 c2 c4
  go_cut [39] from 40 to 49 (fun _ wx => AfterTold W5 wx S (Value.slice pt mt ct).ownBlock (fun v => srow ver facts (.slice (some ⟨g, 0, none⟩) (na + 1) cap) seen v (.slice pk mk ck)) nt)
  case first =>
    go_region_law (refine step_app61 rfl _ _ rfl (.slice pt mt ct) nt ts rfl (World.ownsRow.alloc E.out.2.2.1.drew _) W5.heap.size rfl (.slice p' te.scopes.length c') ((World.cell?_alloc_at _ _ _ _ (by simp)).trans rfl) rfl nt1 ?_; intro g2 cap2 w7 hown7 hgr7 hat7; have k7 := ((Kp.refl (fun b => (Value.slice pt mt ct).ownBlock = some b) W5).drew.alloc _).grown hgr7 (fun b hb => .inl hb); have r7 := E.out.1.kp k7 (fun e => (HD.out.2.1 S e).1 rfl); have x7 := r7.cell 6; have y7 := r7.frozen 6; have l7' := r7.lt; have X7 := Lib.hid (And.intro k7 (And.intro r7 (And.intro hown7 hat7))); clear k7 r7 hown7 hat7 hgr7; simp at x7)
    all_goals
      go_wp2_with (fail)
      go_meet
      have hgS2 : g2 ≠ S := by
        rcases X7.out.2.2.2 with h | h
        · exact (HD.out.2.1 g2 h).1
        · simp at h; omega
      exact ⟨g2, cap2, _, (X7.out.1.mono (fun b _ e => .inl e)).setCell (a := ⟨S, 6, none⟩) (.inl (.inr rfl)) _, X7.out.2.1.setCell (i := 6) _, ownsRow_kp X7.out.2.2.1 ((Kp.refl (fun b => b = S) w7).setCell (a := ⟨S, 6, none⟩) (.inl rfl) _) (fun b hb e => by cases hb; exact hgS2 e), X7.out.2.2.2.imp id (fun h => by simp at h; omega)⟩
  case rest =>
    obtain ⟨g2, cap2, ts2, k7, r7, own7, at7⟩ := hcut
    generalize wc = W7 at *
    have hkP : Kp (fun b => (Value.slice pt mt ct).ownBlock = some b ∨ b = S) W5 W7 := k7
    have hKWc : Kp (fun b => b = S ∨ (Value.slice pa ma ca).ownBlock = some b ∨ (Value.slice pt mt ct).ownBlock = some b) w W7 :=
      (E.out.2.2.2.2.2.2.2.2.mono (fun b _ e => e.elim .inl (fun e => .inr (.inl e)))).trans k7 (fun b _ e => e.elim (fun e => .inr (.inr e)) .inl)
    have u4 : W7.ownsRow 0 30 1 (.slice pk mk ck) nk ks := ownsRow_kp E.out.2.2.2.1 k7 (fun b hb e => by rcases e with e | e; exact (HD.out.2.1 b e).2 hb; exact HD.out.2.2 b hb e)
    have hTb : ∀ b, (Value.slice pt mt ct).ownBlock = some b → b < w.heap.size := fun b hb => (World.ownsRow.lt HT.out b hb).2
    have u5 : hasRow W7 T7 (fcells tok te p n c) := E.out.2.2.2.2.1.kp k7 (fun e => by rcases e with e | e; exact absurd (hTb _ e) (by omega); omega)
    have u6 := E.out.2.2.2.2.2.1.kp k7 (fun e => by rcases e with e | e; exact absurd (hTb _ e) (by omega); omega)
    have u7 : isRow W7 w.heap.size 24 := E.out.2.2.2.2.2.2.1.kp k7 (fun e => by rcases e with e | e; exact absurd (hTb _ e) (by omega); omega)
    have u8 : Strs W7 (fun b => T8 < b ∧ b < w4.heap.size) (.slice p' te.scopes.length c') te.scopes := E.out.2.2.2.2.2.2.2.1.keep k7 (fun b hb e => by rcases e with e | e; exact absurd (hTb _ e) (by omega); omega)
    have hg2k : ∀ b, (Value.slice pk mk ck).ownBlock = some b → b ≠ g2 := fun b hb e => by
      subst e
      rcases at7 with h | h
      · exact (HD.out.2.1 b h).2 hb
      · have := (World.ownsRow.lt HK.out b hb).2; have := HZ5.out; omega
    have hg2S : g2 ≠ S := by
      rcases at7 with h | h
      · exact (HD.out.2.1 g2 h).1
      · have := HZ5.out; omega
    have u2 : W7.ownsRow 0 9 1 (.slice (some ⟨g, 0, none⟩) (na + 1) cap) (na + 1) (as1 ++ [.string tok]) := ownsRow_kp E.out.2.1 k7 (fun b hb e => by
      cases hb
      rcases e with e | e
      · exact hgT e
      · exact hgS e)
    have v7 := r7.cell 7
    have v75 := u5.cell 5
    have lSc := r7.lt
    have l7c := u5.lt
    have l8c := u6.lt
    have lgc := (World.ownsRow.lt u2 g rfl).2
    have lg2c := (World.ownsRow.lt own7 g2 rfl).2
    have hzc := k7.size
    simp at v7 v75
    have U := Lib.hid (And.intro u2 (And.intro own7 (And.intro u4 (And.intro u5 (And.intro u6 (And.intro u7 (And.intro u8 (And.intro hKWc r7))))))))
    clear u2 own7 u4 u5 u6 u7 u8 hKWc r7 hkP k7 x6 y6 x84 lS5 l85
    have HG2K := Lib.hid hg2k
    have AT7 := Lib.hid at7
    have HTB := Lib.hid hTb
    clear hg2k at7 hTb
    go_wp2_with (fail)
    go_cut [50] from 51 to 62 (fun _ wx => AfterTold W7 wx S (Value.slice pk mk ck).ownBlock (fun v => srow ver facts (.slice (some ⟨g, 0, none⟩) (na + 1) cap) seen (.slice (some ⟨g2, 0, none⟩) (nt + 1) cap2) v) nk)
    case first =>
      go_region_law (first
        | (go_simp; go_at_call 96; refine (HC.out _ (show Kp _ w W7.drew from U.out.2.2.2.2.2.2.2.1.drew)).mono ?_; rintro r w8 ⟨pq, nq, cq, rfl, hb8⟩; have v8 := (show hasRow W7.drew _ _ from U.out.2.2.2.2.2.2.2.2).below hb8 lSc; have v87 := v8.cell 7; have l8S := v8.lt; have V8 := Lib.hid (And.intro v8 hb8); clear v8; simp at v87)
        | (refine step_app61 rfl _ _ rfl (.slice pk mk ck) nk ks rfl (World.ownsRow.alloc (ownsRow_kp (show W7.drew.ownsRow 0 30 1 _ _ _ from U.out.2.2.1.drew) (Kp.of_below (F := fun _ => False) V8.out.2) (fun _ _ h => h)) _) w8.heap.size rfl (.slice pq nq cq) ((World.cell?_alloc_at _ _ _ _ (by simp)).trans rfl) rfl nk1 ?_; intro g3 cap3 w9 hown9 hgr9 hat9; have k9 := ((Kp.refl (fun b => (Value.slice pk mk ck).ownBlock = some b) w8).alloc _).grown hgr9 (fun b hb => .inl hb); have r9 := V8.out.1.kp k9 (fun e => HD.out.2.2 S e rfl); have x9 := r9.cell 7; have y9 := r9.frozen 7; have l9' := r9.lt; have X9 := Lib.hid (And.intro k9 (And.intro r9 (And.intro hown9 hat9))); clear k9 r9 hown9 hat9 hgr9; simp at x9))
      all_goals
        go_wp2_with (fail)
        go_meet
        have hgS3 : g3 ≠ S := by
          rcases X9.out.2.2.2 with h | h
          · exact HD.out.2.2 g3 h
          · have := V8.out.2.size; simp at h this; omega
        have hkb := ((Kp.of_below (F := fun b => (Value.slice pk mk ck).ownBlock = some b ∨ b = S) (below_undrew V8.out.2)).trans X9.out.1 (fun b _ e => .inl e))
        exact ⟨g3, cap3, _, hkb.setCell (a := ⟨S, 7, none⟩) (.inl (.inr rfl)) _, X9.out.2.1.setCell (i := 7) _, ownsRow_kp X9.out.2.2.1 ((Kp.refl (fun b => b = S) w9).setCell (a := ⟨S, 7, none⟩) (.inl rfl) _) (fun b hb e => by cases hb; exact hgS3 e), X9.out.2.2.2.imp id (fun h => by have := V8.out.2.size; simp at h this; omega)⟩
    case rest =>
      obtain ⟨g3, cap3, ks2, k9, r9, own9, at9⟩ := hcut
      obtain ⟨u2, own7, u4, u5, u6, u7, u8, hKWc, r7⟩ := U.out
      have hKb : ∀ b, (Value.slice pk mk ck).ownBlock = some b → b < w.heap.size := fun b hb => (World.ownsRow.lt HK.out b hb).2
      have a5 : hasRow wc T7 (fcells tok te p n c) := u5.kp k9 (fun e => by rcases e with e | e; exact absurd (hKb _ e) (by omega); omega)
      have a6 : hasRow wc T8 _ := u6.kp k9 (fun e => by rcases e with e | e; exact absurd (hKb _ e) (by omega); omega)
      have a7 : isRow wc w.heap.size 24 := u7.kp k9 (fun e => by rcases e with e | e; exact absurd (hKb _ e) (by omega); omega)
      have a8 : Strs wc (fun b => T8 < b ∧ b < w4.heap.size) (.slice p' te.scopes.length c') te.scopes := u8.keep k9 (fun b hb e => by rcases e with e | e; exact absurd (hKb _ e) (by omega); omega)
      have a2 : wc.ownsRow 0 9 1 (.slice (some ⟨g, 0, none⟩) (na + 1) cap) (na + 1) (as1 ++ [.string tok]) := ownsRow_kp u2 k9 (fun b hb e => by
        cases hb
        rcases e with e | e
        · exact hgK e
        · exact hgS e)
      have a4 : wc.ownsRow 0 30 1 (.slice (some ⟨g2, 0, none⟩) (nt + 1) cap2) (nt + 1) ts2 := ownsRow_kp own7 k9 (fun b hb e => by
        cases hb
        rcases e with e | e
        · exact HG2K.out _ e rfl
        · exact hg2S e)
      have b25 : wc.cell? ⟨T7, 25, none⟩ = some (.bool te.ok) := a5.cell 25
      have i8 : isRow wc T8 24 := a6.is
      have q8 := a6.rowAt
      have lT8 := a6.lt
      have hzd := k9.size
      have Z := Lib.hid (And.intro a2 (And.intro a4 (And.intro own9 (And.intro r9 (And.intro a7 (And.intro a8 (And.intro hKWc k9)))))))
      have AT9 := Lib.hid at9
      have a7' := a7.lt
      clear u2 own7 u4 u5 u6 u7 u8 hKWc r7 k9 a5 a6 a8 a2 a4 own9 r9 at9
      have ne7 : T7 ≠ w.heap.size := by omega
      have ne8 : T8 ≠ w.heap.size := by omega
      go_wp2_with (fail)
      go_region_held3 (fun w' => w'.cell? ⟨T7, 25, none⟩ = some (.bool te.ok) ∧ isRow w' T8 24 ∧ rowAt w' T8 = #[.string te.iss, .string te.sub, .string ⟨#[]⟩, .string ⟨#[]⟩, .slice p' te.scopes.length c', .int .u64 te.grant, .int .i64 0, .int .i64 te.exp, .int .u8 0, .int .u8 0, .int .u8 0, .int .u8 0, .int .u8 0, .int .u8 0, .int .u8 0, .int .u8 0, .int .u8 0, .int .u8 0, .int .u8 0, .int .u8 0, .int .u8 0, .int .u8 0, .int .u8 0, .int .u8 0] ∧ isRow w' w.heap.size 24)
        (first
          | (exact ⟨b25, i8, q8, a7⟩)
          | (exact ⟨(Go.cell_setRow_other _ _ _ _ ne7).trans b25, isRow_setRow _ _ _ _ _ i8 (fun _ => rfl), (rowAt_setRow_other _ _ _ _ ne8).trans q8, isRow_setRow _ _ _ _ _ a7 (fun _ => rfl)⟩))
        (first | fail)
      go_wp2_with (fail)
      have hSR2 : S ≠ w.heap.size := by omega
      have hz5 := HZ5.out
      have hgR : g ≠ w.heap.size := fun e => by
        rcases hga with h | h
        · have := (World.ownsRow.lt HA.out g h).2; omega
        · omega
      have hgR2 : g2 ≠ w.heap.size := fun e => by
        rcases AT7.out with h | h
        · have := (World.ownsRow.lt HT.out g2 h).2; omega
        · omega
      have hgR3 : g3 ≠ w.heap.size := fun e => by
        rcases AT9.out with h | h
        · have := (World.ownsRow.lt HK.out g3 h).2; omega
        · omega
      have hgS3 : g3 ≠ S := fun e => by
        rcases AT9.out with h | h
        · exact HD.out.2.2 g3 h e
        · omega
      have n12 : g ≠ g2 := fun e => by
        rcases AT7.out with h | h
        · exact hgT (e ▸ h)
        · omega
      have n13 : g ≠ g3 := fun e => by
        rcases AT9.out with h | h
        · exact hgK (e ▸ h)
        · omega
      have n23 : g2 ≠ g3 := fun e => by
        rcases AT9.out with h | h
        · exact HG2K.out g3 h e.symm
        · omega
      have kR : Kp (fun b => b = w.heap.size) wc (wc.drew.setRow w.heap.size #[.string te.iss, .string te.sub, .string ⟨#[]⟩, .string ⟨#[]⟩, .slice p' te.scopes.length c', .int .u64 te.grant, .int .i64 0, .int .i64 te.exp, .int .u8 0, .int .u8 0, .int .u8 0, .int .u8 0, .int .u8 0, .int .u8 0, .int .u8 0, .int .u8 0, .int .u8 0, .int .u8 0, .int .u8 0, .int .u8 0, .int .u8 0, .int .u8 0, .int .u8 0, .int .u8 0]) := ((Kp.refl (fun b => b = w.heap.size) wc).drew).setRow (.inl rfl) _
      refine bodyPost_ret_by (v := .tuple #[tclm te p' c', .bool te.ok, .int .i64 0]) (results_row_slots (p := 4) (q := 5) (r := 6) (ty := 48) rfl _ rfl ((isRow_drew _ _ _ a7).setRow _) Try.underlying48 rfl (by kernel_rfl)) rfl ⟨p', c', rfl, g, cap, _, g2, cap2, _, g3, cap3, _, Z.out.2.2.2.1.kp kR hSR2, ownsRow_kp Z.out.1 kR (fun b hb e => by cases hb; exact hgR e), ownsRow_kp Z.out.2.1 kR (fun b hb e => by cases hb; exact hgR2 e), ownsRow_kp Z.out.2.2.1 kR (fun b hb e => by cases hb; exact hgR3 e), hga.imp id Nat.le_of_lt, AT7.out.imp id (fun h => by omega), AT9.out.imp id (fun h => by omega), ⟨hgS, hg2S, hgS3, n12, n13, n23⟩, ?_, ?_⟩
      · refine (((Z.out.2.2.2.2.2.2.1.mono (fun b _ e => ?_)).trans Z.out.2.2.2.2.2.2.2 (fun b _ e => ?_)).trans kR (fun b hb e => absurd hb (by omega)))
        · rcases e with e | e | e
          · exact .inl e
          · exact .inr (.inl e)
          · exact .inr (.inr (.inl e))
        · rcases e with e | e
          · exact .inr (.inr (.inr e))
          · exact .inl e
      · refine (Z.out.2.2.2.2.2.1.keep kR (fun b hb e => by omega)).mono (fun b hb => ⟨by omega, fun e => by omega, fun e => ?_, fun e => ?_⟩)
        · rcases AT7.out with h | h
          · have := (World.ownsRow.lt HT.out g2 h).2; omega
          · omega
        · rcases AT9.out with h | h
          · have := (World.ownsRow.lt HK.out g3 h).2; omega
          · omega
end Go.Proofs.Ytkbbaokllgmhiaa
