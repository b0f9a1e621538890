/- lives: a cache asks once, and again behind a change. -/
import Derived.Test.YtkbbaokllgmhiaaF5
namespace Go.Proofs.Ytkbbaokllgmhiaa
open Go.RowKit Go.Maps Go.MuLone Go.Sort Go.Shelf

theorem SI.noFacts {w : World} {G : Nat → Prop} {S n : Nat} {ver seen : Int} {A : Bool} (h : SI w G S ver seen n A) : SI (w.setCell ⟨S, 3, none⟩ (.slice none 0 0)) G S ver seen n false := by
  obtain ⟨⟨facts, asked, told, kept, as1, ts, ks, h1, h2, h3, h4, h5, h6, h7, h8, h9⟩, hs, hl⟩ := h
  have k : Kp (fun b => b = S) w (w.setCell ⟨S, 3, none⟩ (.slice none 0 0)) := (Kp.refl (fun b => b = S) w).setCell (.inl rfl) _
  exact ⟨⟨.slice none 0 0, asked, told, kept, as1, ts, ks, h1.setCell (i := 3) _, ownsRow_kp h2 k (fun b hb e => (h5 b hb).1 e), ownsRow_kp h3 k (fun b hb e => (h6 b hb).1 e), ownsRow_kp h4 k (fun b hb e => h7 b hb e), h5, h6, h7, h8, rfl⟩, hs, fun b hb => by have := hl b hb; simpa [World.setCell] using this⟩

theorem SI.asked {w : World} {G : Nat → Prop} {S n : Nat} {ver seen : Int} {A : Bool} (h : SI w G S ver seen n A) : ∃ p c, w.cell? ⟨S, 4, none⟩ = some (.slice p n c) := by
  obtain ⟨facts, asked, told, kept, as1, ts, ks, h1, h2, _⟩ := h.ex
  have hc := h1.cell 4
  simp at hc
  obtain ⟨_, ⟨rfl, rfl⟩ | ⟨g, cap, cur, rfl, _⟩⟩ := h2
  · exact ⟨_, _, hc⟩
  · exact ⟨_, _, hc⟩
theorem SI.frozen {w : World} {G : Nat → Prop} {S n : Nat} {ver seen : Int} {A : Bool} (h : SI w G S ver seen n A) (i : Nat) : w.frozen? ⟨S, i, none⟩ = false := by
  obtain ⟨facts, asked, told, kept, as1, ts, ks, h1, _⟩ := h.ex
  exact h1.frozen i
theorem SI.cells {w : World} {G : Nat → Prop} {S n : Nat} {ver seen : Int} {A : Bool} (h : SI w G S ver seen n A) : ∃ x, w.cell? ⟨S, 0, none⟩ = some (.int .u64 ver) ∧ w.cell? ⟨S, 3, none⟩ = some x := by
  obtain ⟨facts, asked, told, kept, as1, ts, ks, h1, _⟩ := h.ex
  exact ⟨facts, h1.cell 0, h1.cell 3⟩

abbrev src (S : Nat) : Value := .iface 59 (.pointer (some ⟨S, 0, none⟩))

set_option maxRecDepth 100000 in
set_option maxHeartbeats 4000000 in
theorem lives_ok (w : World) : Calls Try.prog 7 #[] w fun e w' => e = .returned (.bool true) ∧ Below w.heap.size w w' := by
  have hS0 := hasRow_new w (srow 7 (.slice none 0 0) (.slice none 0 0) 0 (.slice none 0 0) (.slice none 0 0)) 63
  have hset := set0 tT (teA true) (some ⟨w.heap.size + 1, 0, none⟩) 1 1 (hS0.alloc (.cells #[.string tA] 9))
  have HSET := Lib.hid hset
  clear hS0 hset
  go_enter Try.func7, Try.ntmps7
  go_wp2_with (fail)
  refine HSET.out.mono ?_
  rintro r w2 ⟨rfl, g, hr2, hf2, hg2, hk2⟩
  have hkw : Kp (fun _ => False) w w2 := (((Kp.refl (fun _ => False) w).alloc _).alloc _).trans (hk2.mono (G := fun b => w.heap.size ≤ b) (fun b _ e => Nat.le_of_eq e.symm)) (fun b hb e => by omega)
  have hc2 : w2.cell? ⟨w.heap.size + 1, 0, none⟩ = some (.string tA) := by
    refine (hk2.cell (a := ⟨w.heap.size + 1, 0, none⟩) (by simp) (by simp)).trans ?_
    have := (hasRow_new (w.alloc (.cells (srow 7 (.slice none 0 0) (.slice none 0 0) 0 (.slice none 0 0) (.slice none 0 0)) 63)) #[.string tA] 9).cell 0
    rw [show (w.alloc (.cells (srow 7 (.slice none 0 0) (.slice none 0 0) 0 (.slice none 0 0) (.slice none 0 0)) 63)).heap.size = w.heap.size + 1 by simp] at this
    exact this
  have hz2 := hk2.size
  simp at hz2 hg2
  have hSI : SI w2 (fun b => w.heap.size ≤ b ∧ b < w2.heap.size) w.heap.size 7 0 0 true :=
    ⟨⟨_, _, _, _, [], [], [], hr2, World.ownsRow_nil _ _ _ _, World.ownsRow_nil _ _ _ _, World.ownsRow_nil _ _ _ _, (fun b hb => by cases hb), (fun b hb => by cases hb), (fun b hb => by cases hb), (fun b hb => by rcases hb with hb | hb | hb <;> cases hb),
      ⟨g, 1, w.heap.size + 1, 1, rfl, hf2, hc2, ⟨by omega, hf2.lt⟩, ⟨by omega, by omega⟩, (fun e => by rcases e with e | e | e | e; omega; cases e; cases e; cases e), (fun e => by rcases e with e | e | e | e; omega; cases e; cases e; cases e)⟩⟩, ⟨Nat.le_refl _, by omega⟩, fun b hb => hb.2⟩
  have HW := Lib.hid (And.intro hkw (And.intro hSI hz2))
  clear hr2 hf2 hg2 hk2 hkw hc2 hSI HSET
  go_wp2_with (first | (go_at_call 9; refine (num_any _ _).mono ?_; rintro e w' ⟨rfl, hww⟩; rw [hww]; clear hww w') | (go_at_call 8; refine (new_ok 59 (.pointer (some ⟨w.heap.size, 0, none⟩)) 2 w2 (by decide) (by decide)).mono ?_; rintro r w3 ⟨rfl, hC3, hb3⟩; have HC3 := Lib.hid (And.intro hC3 hb3); clear hC3 hb3))
  have hSI3 : SI w3 (fun b => w.heap.size ≤ b ∧ b < w2.heap.size) w.heap.size 7 0 0 true := HW.out.2.1.keep (Kp.of_below (F := fun _ => False) HC3.out.2) (fun _ _ h => h)
  have hf1 := find_miss (srcSrc w.heap.size 7 0 0 true (by decide) (by decide) (by decide)) HC3.out.1 hSI3 (fun b hb e => by rcases hb with hb | hb <;> omega) (fun e he => by simp [known] at he) (by decide) (by decide) (by decide) (by decide) (by decide)
  have HF1 := Lib.hid hf1
  clear hSI3 hf1
  go_wp2_with (first | (go_at_call 9; refine (num_any _ _).mono ?_; rintro e w' ⟨rfl, hww⟩; rw [hww]; clear hww w') | (go_at_call 22; refine HF1.out.mono ?_; rintro r w4 ⟨p1, m1, rfl, hs1, F1, G1, hC4, hI4, d1, f1, g1, k4⟩; have H4 := Lib.hid (And.intro hC4 (And.intro hI4 (And.intro d1 (And.intro f1 (And.intro g1 k4))))); clear hs1 hC4 hI4 d1 f1 g1 k4))
  have hC4 : CacheI w4 F1 (w2.heap.size + 1) (src w.heap.size) 2 ⟨7, 1, 0, 1, [⟨tT, 1, teA true⟩]⟩ := H4.out.1
  have hI4 : SI w4 G1 w.heap.size 7 1 1 true := H4.out.2.1
  have hl4 : ∀ o, Kp (fun b => w4.heap.size ≤ b) w4 (w4.alloc o) := fun o => (Kp.refl _ w4).alloc o
  have hf2 := fun o => find_hit (srcSrc w.heap.size 7 1 1 true (by decide) (by decide) (by decide)) (hC4.keep (hl4 o) (fun b hb e => absurd (hC4.lt b hb) (by omega))) (hI4.keep (hl4 o) (fun b hb e => absurd (hI4.lt b hb) (by omega))) H4.out.2.2.1 rfl ⟨tT, 1, teA true⟩ (by simp) rfl (by decide) (by decide) (by decide) (by decide) (by decide)
  have hrow4 := fun cs => hasRow_new w4 cs 48
  have HF2 := Lib.hid hf2
  have HR4 := Lib.hid hrow4
  have HL4 := Lib.hid (And.intro hC4.lt hI4.lt)
  clear hC4 hI4 hl4 hf2 hrow4 HF1
  go_wp2_with (first | (go_at_call 9; refine (num_any _ _).mono ?_; rintro e w' ⟨rfl, hww⟩; rw [hww]; clear hww w') | (go_at_call 22; refine (HF2.out _).mono ?_; rintro r w5 ⟨p2, m2, rfl, hs2, F2, G2, hC5, hI5, d2, f2, g2, k5⟩; have x51 := (HR4.out _).kp k5 (fun e => e.elim (fun e => Nat.lt_irrefl _ (HL4.out.1 _ e)) (fun e => Nat.lt_irrefl _ (HL4.out.2 _ e))); have y51 := x51.cell 1; have l51 := x51.lt; have hC5' : CacheI w5 F2 (w2.heap.size + 1) (src w.heap.size) 2 ⟨7, 2, 1, 1, [⟨tT, 2, teA true⟩]⟩ := hC5; have hI5' : SI w5 G2 w.heap.size 7 2 1 true := hI5; have as5 := hI5'.asked; have H5 := Lib.hid (And.intro hC5' (And.intro hI5' (And.intro d2 (And.intro f2 (And.intro g2 k5))))); clear hs2 hC5 hI5 hC5' hI5' d2 f2 g2 k5 x51; simp at y51; obtain ⟨pa5, ca5, as5⟩ := as5; have lS5 := World.block_lt_of_cell? _ _ as5))
  have hl5 : ∀ o, Kp (fun b => w5.heap.size ≤ b) w5 (w5.alloc o) := fun o => (Kp.refl _ w5).alloc o
  have htk := fun o => tokens_any (H5.out.1.keep (hl5 o) (fun b hb e => absurd (H5.out.1.lt b hb) (by omega)))
  have hsi := fun o => H5.out.2.1.keep (hl5 o) (fun b hb e => absurd (H5.out.2.1.lt b hb) (by omega))
  refine (htk _).mono ?_
  rintro r w6 ⟨p6, c6, rfl, _, hC6, k6⟩
  have hI6 := (hsi _).keep k6 (fun b hb e => H5.out.2.2.1 _ H5.out.1.self (e ▸ hb))
  obtain ⟨fx, s0, s3⟩ := hI6.cells
  have z0 := hI6.frozen 0
  have z3 := hI6.frozen 3
  have lS6 := World.block_lt_of_cell? _ _ s0
  have hkS : Kp (fun b => b = w.heap.size) w6 ((w6.setCell ⟨w.heap.size, 0, none⟩ (.int .u64 8)).setCell ⟨w.heap.size, 3, none⟩ (.slice none 0 0)) := ((Kp.refl (fun b => b = w.heap.size) w6).setCell (a := ⟨w.heap.size, 0, none⟩) (.inl rfl) _).setCell (a := ⟨w.heap.size, 3, none⟩) (.inl rfl) _
  have hI6' : SI ((w6.setCell ⟨w.heap.size, 0, none⟩ (.int .u64 8)).setCell ⟨w.heap.size, 3, none⟩ (.slice none 0 0)) G2 w.heap.size 8 2 1 false := (hI6.setCell (ver' := 8) (seen' := 2) (fun _ _ _ _ => rfl)).noFacts
  have hC6' := hC6.keep hkS (fun b hb e => H5.out.2.2.1 b hb (e ▸ H5.out.2.1.self))
  have hf3 := find_miss (srcSrc w.heap.size 8 2 1 false (by decide) (by decide) (by decide)) hC6' hI6' H5.out.2.2.1 (fun e he => by simp [known] at he) (by decide) (by decide) (by decide) (by decide) (by decide)
  have HF3 := Lib.hid hf3
  have H6 := Lib.hid (And.intro k6 (And.intro hkS (And.intro hC6'.lt hI6'.lt)))
  clear htk hsi hC6 k6 hI6 hkS hI6' hC6' hf3 hl5
  go_wp2_with (first | (go_at_call 9; refine (num_any _ _).mono ?_; rintro e w' ⟨rfl, hww⟩; rw [hww]; clear hww w') | (go_at_call 22; refine HF3.out.mono ?_; rintro r w7 ⟨p7, m7, rfl, hs7, F3, G3, hC7, hI7, d3, f3, g3, k7⟩; have H7 := Lib.hid (And.intro hC7 (And.intro hI7 (And.intro d3 (And.intro f3 (And.intro g3 k7))))); clear hs7 hC7 hI7 d3 f3 g3 k7))
  have hC7 : CacheI w7 F3 (w2.heap.size + 1) (src w.heap.size) 2 ⟨8, 3, 1, 2, [⟨tT, 3, teA false⟩]⟩ := H7.out.1
  have hI7 : SI w7 G3 w.heap.size 8 3 2 false := H7.out.2.1
  have hl7 : ∀ o, Kp (fun b => w7.heap.size ≤ b) w7 (w7.alloc o) := fun o => (Kp.refl _ w7).alloc o
  have hak := fun o => asked_any (hC7.keep (hl7 o) (fun b hb e => absurd (hC7.lt b hb) (by omega)))
  have hsi := fun o => hI7.keep (hl7 o) (fun b hb e => absurd (hI7.lt b hb) (by omega))
  refine (hak _).mono ?_
  rintro r w8 ⟨rfl, hC8, k8⟩
  have hI8 := (hsi _).keep k8 (fun b hb e => H7.out.2.2.1 _ H7.out.1.self (e ▸ hb))
  obtain ⟨pa8, ca8, as8⟩ := hI8.asked
  have lS8 := World.block_lt_of_cell? _ _ as8
  have H8 := Lib.hid k8
  clear hak hsi hC8 k8 hI8 hC7 hI7 hl7
  go_wp2_with (first | (go_at_call 9; refine (num_any _ _).mono ?_; rintro e w' ⟨rfl, hww⟩; rw [hww]; clear hww w'))
  go_ret
  refine ⟨rfl, ?_⟩
  have q3 := HC3.out.2.size
  have q4 := H4.out.2.2.2.2.2.size
  have q5 := H5.out.2.2.2.2.2.size
  have q6 := H6.out.1.size
  have q6' := H6.out.2.1.size
  simp at q5 q6
  have b1 : Kp (fun b => w.heap.size ≤ b) w w3 := (HW.out.1.mono (fun b _ e => e.elim)).then_below HC3.out.2 (by omega)
  have a0 : ∀ b, (b = w2.heap.size ∨ b = w2.heap.size + 1) → w.heap.size ≤ b := fun b hb => by omega
  have a1 : ∀ b, F1 b → w.heap.size ≤ b := fun b hb => (H4.out.2.2.2.1 b hb).elim (a0 b) (fun e => by omega)
  have a1' : ∀ b, G1 b → w.heap.size ≤ b := fun b hb => (H4.out.2.2.2.2.1 b hb).elim (fun e => e.1) (fun e => by omega)
  have a2 : ∀ b, F2 b → w.heap.size ≤ b := fun b hb => (H5.out.2.2.2.1 b hb).elim (a1 b) (fun e => by simp at e; omega)
  have a2' : ∀ b, G2 b → w.heap.size ≤ b := fun b hb => (H5.out.2.2.2.2.1 b hb).elim (a1' b) (fun e => by simp at e; omega)
  have b2 := (b1.trans H4.out.2.2.2.2.2 (fun b _ e => e.elim (a0 b) (fun e => e.1))).alloc (.cells #[.string (teA true).iss, .string (teA true).sub, .string ⟨#[]⟩, .string ⟨#[]⟩, .slice p1 1 m1, .int .u64 0, .int .i64 0, .int .i64 0, .int .u8 0, .int .u8 0, .int .u8 0, .int .u8 0, .int .u8 0, .int .u8 0, .int .u8 0, .int .u8 0, .int .u8 0, .int .u8 0, .int .u8 0, .int .u8 0, .int .u8 0, .int .u8 0, .int .u8 0, .int .u8 0] 48)
  have b3 := (b2.trans H5.out.2.2.2.2.2 (fun b _ e => e.elim (a1 b) (a1' b))).alloc (.cells #[.string (teA true).iss, .string (teA true).sub, .string ⟨#[]⟩, .string ⟨#[]⟩, .slice p2 1 m2, .int .u64 0, .int .i64 0, .int .i64 0, .int .u8 0, .int .u8 0, .int .u8 0, .int .u8 0, .int .u8 0, .int .u8 0, .int .u8 0, .int .u8 0, .int .u8 0, .int .u8 0, .int .u8 0, .int .u8 0, .int .u8 0, .int .u8 0, .int .u8 0, .int .u8 0] 48)
  have b4 := (b3.trans H6.out.1 (fun b _ e => by omega)).trans H6.out.2.1 (fun b _ e => by omega)
  have b5 := (b4.trans H7.out.2.2.2.2.2 (fun b _ e => e.elim (a2 b) (a2' b))).alloc (.cells #[.string (teA false).iss, .string (teA false).sub, .string ⟨#[]⟩, .string ⟨#[]⟩, .slice p7 0 m7, .int .u64 0, .int .i64 0, .int .i64 0, .int .u8 0, .int .u8 0, .int .u8 0, .int .u8 0, .int .u8 0, .int .u8 0, .int .u8 0, .int .u8 0, .int .u8 0, .int .u8 0, .int .u8 0, .int .u8 0, .int .u8 0, .int .u8 0, .int .u8 0, .int .u8 0] 48)
  exact (b5.trans H8.out (fun b _ e => by omega)).below (Nat.le_refl _) (fun b hb e => by omega)
end Go.Proofs.Ytkbbaokllgmhiaa
