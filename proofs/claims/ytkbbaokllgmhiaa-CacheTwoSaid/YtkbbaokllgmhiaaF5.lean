/- The laws' own source as a source. -/
import Derived.Test.YtkbbaokllgmhiaaF4
namespace Go.Proofs.Ytkbbaokllgmhiaa
open Go.RowKit Go.Maps Go.MuLone Go.Sort Go.Shelf

abbrev tT : ByteArray := ⟨#[116]⟩
abbrev tA : ByteArray := ⟨#[97]⟩
/-- What the source of 'lives' tells: with its fact, without it. -/
abbrev teA : Bool → Tell
  | true => ⟨⟨#[]⟩, ⟨#[97, 110, 110]⟩, [tA], 0, 0, true⟩
  | false => ⟨⟨#[]⟩, ⟨#[]⟩, [], 0, 0, false⟩

/-- Its facts: one, or none. -/
def FactsOK (w : World) (G : Nat → Prop) (facts : Value) (X : Nat → Prop) : Bool → Prop
  | true => ∃ f fc sb sc, facts = .slice (some ⟨f, 0, none⟩) 1 fc ∧ hasRow w f (fcells tT (teA true) (some ⟨sb, 0, none⟩) 1 sc) ∧ w.cell? ⟨sb, 0, none⟩ = some (.string tA) ∧ G f ∧ G sb ∧ ¬ X f ∧ ¬ X sb
  | false => facts = .slice none 0 0

structure SI (w : World) (G : Nat → Prop) (S : Nat) (ver seen : Int) (n : Nat) (A : Bool) : Prop where
  ex : ∃ facts asked told kept as1 ts ks, hasRow w S (srow ver facts asked seen told kept) ∧ w.ownsRow 0 9 1 asked n as1 ∧ w.ownsRow 0 30 1 told n ts ∧ w.ownsRow 0 30 1 kept n ks ∧
    (∀ b, asked.ownBlock = some b → b ≠ S ∧ told.ownBlock ≠ some b ∧ kept.ownBlock ≠ some b) ∧ (∀ b, told.ownBlock = some b → b ≠ S ∧ kept.ownBlock ≠ some b) ∧ (∀ b, kept.ownBlock = some b → b ≠ S) ∧
    (∀ b, asked.ownBlock = some b ∨ told.ownBlock = some b ∨ kept.ownBlock = some b → G b) ∧
    FactsOK w G facts (fun b => b = S ∨ asked.ownBlock = some b ∨ told.ownBlock = some b ∨ kept.ownBlock = some b) A
  self : G S
  lt : ∀ b, G b → b < w.heap.size

theorem FactsOK.keep {w w' : World} {G F X : Nat → Prop} {facts : Value} {A : Bool} (h : FactsOK w G facts X A) (k : Kp F w w') (hl : ∀ b, G b → b < w.heap.size) (hd : ∀ b, G b → ¬ X b → ¬ F b) : FactsOK w' G facts X A := by
  cases A with
  | false => exact h
  | true =>
    obtain ⟨f, fc, sb, sc, h1, h2, h3, h4, h5, h6, h7⟩ := h
    exact ⟨f, fc, sb, sc, h1, h2.kp k (hd f h4 h6), (k.cell (a := ⟨sb, 0, none⟩) (hl sb h5) (hd sb h5 h7)).trans h3, h4, h5, h6, h7⟩

theorem SI.keep {w w' : World} {G F : Nat → Prop} {S n : Nat} {ver seen : Int} {A : Bool} (h : SI w G S ver seen n A) (k : Kp F w w') (hd : ∀ b, G b → ¬ F b) : SI w' G S ver seen n A := by
  obtain ⟨⟨facts, asked, told, kept, as1, ts, ks, h1, h2, h3, h4, h5, h6, h7, h8, h9⟩, hs, hl⟩ := h
  exact ⟨⟨facts, asked, told, kept, as1, ts, ks, h1.kp k (hd S hs), ownsRow_kp h2 k (fun b hb => hd b (h8 b (.inl hb))), ownsRow_kp h3 k (fun b hb => hd b (h8 b (.inr (.inl hb)))), ownsRow_kp h4 k (fun b hb => hd b (h8 b (.inr (.inr hb)))), h5, h6, h7, h8, h9.keep k hl (fun b hb _ => hd b hb)⟩, hs, fun b hb => Nat.lt_of_lt_of_le (hl b hb) k.size⟩

/-- A store into the source's own row. -/
theorem SI.setCell {w : World} {G : Nat → Prop} {S n : Nat} {ver seen ver' seen' : Int} {A : Bool} {i : Nat} {v : Value} (h : SI w G S ver seen n A) (hi : ∀ facts asked told kept, (srow ver facts asked seen told kept).setIfInBounds i v = srow ver' facts asked seen' told kept) : SI (w.setCell ⟨S, i, none⟩ v) G S ver' seen' n A := by
  obtain ⟨⟨facts, asked, told, kept, as1, ts, ks, h1, h2, h3, h4, h5, h6, h7, h8, h9⟩, hs, hl⟩ := h
  have k : Kp (fun b => b = S) w (w.setCell ⟨S, i, none⟩ v) := (Kp.refl (fun b => b = S) w).setCell (.inl rfl) _
  have hr := h1.setCell (i := i) v
  rw [hi] at hr
  exact ⟨⟨facts, asked, told, kept, as1, ts, ks, hr, ownsRow_kp h2 k (fun b hb e => (h5 b hb).1 e), ownsRow_kp h3 k (fun b hb e => (h6 b hb).1 e), ownsRow_kp h4 k (fun b hb e => h7 b hb e), h5, h6, h7, h8, h9.keep k hl (fun b hb hx e => hx (.inl e))⟩, hs, fun b hb => by have := hl b hb; simpa [World.setCell] using this⟩

theorem method59V (S : Nat) (w : World) : (method 250 59 (.pointer (some ⟨S, 0, none⟩)) "Version").run Try.prog w = .ok (92, .pointer (some ⟨S, 0, none⟩)) w := by kernel_rfl
theorem method59F (S : Nat) (w : World) : (method 250 59 (.pointer (some ⟨S, 0, none⟩)) "Find").run Try.prog w = .ok (91, .pointer (some ⟨S, 0, none⟩)) w := by kernel_rfl

theorem srcRunFind {w : World} {G : Nat → Prop} {S n : Nat} {ver seen : Int} {A : Bool} (h : SI w G S ver seen n A) (hn : n ≤ 1000) :
    Calls Try.prog 91 #[.pointer (some ⟨S, 0, none⟩), .string tT] w fun e w' => ∃ p c, e = .returned (.tuple #[tclm (teA A) p c, .bool (teA A).ok, .int .i64 0]) ∧
      ∃ G', SI w' G' S ver seen (n + 1) A ∧ Kp G w w' ∧ (∀ b, G' b → G b ∨ w.heap.size ≤ b) ∧ Strs w' (fun b => w.heap.size ≤ b ∧ ¬ G' b) (.slice p (teA A).scopes.length c) (teA A).scopes := by
  obtain ⟨⟨facts, asked, told, kept, as1, ts, ks, h1, h2, h3, h4, h5, h6, h7, h8, h9⟩, hs, hl⟩ := h
  have main : ∀ (p : Option Addr) (m c : Nat),
      (∀ W asked', Kp (fun b => b = S ∨ asked.ownBlock = some b) w W → hasRow W S (srow ver facts asked' seen told kept) → Calls Try.prog 94 #[.pointer (some ⟨S, 0, none⟩), .string tT] W fun e w' => e = .returned (.agg (fcells tT (teA A) p m c)) ∧ Below W.heap.size W w') →
      (∀ W, Kp (fun b => b = S ∨ asked.ownBlock = some b) w W → Calls Try.prog 95 #[.slice p m c] W fun e w' => ∃ p' c', e = .returned (.slice p' (teA A).scopes.length c') ∧ Strs w' (fun b => W.heap.size ≤ b) (.slice p' (teA A).scopes.length c') (teA A).scopes ∧ Below W.heap.size W w') →
      (∀ W, Kp (fun b => b = S ∨ asked.ownBlock = some b ∨ told.ownBlock = some b) w W → Calls Try.prog 96 #[.slice p m c] W fun e w' => ∃ p' n' c', e = .returned (.slice p' n' c') ∧ Below W.heap.size W w') → _ :=
    fun p m c a1 a2 a3 => srcFind tT h1 h2 h3 h4 hn hn hn h5 h6 h7 a1 a2 a3
  have post := fun (e : Ending) (w' : World) (q : ∃ p' c', e = .returned (.tuple #[tclm (teA A) p' c', .bool (teA A).ok, .int .i64 0]) ∧
      ∃ g1 c1 x1 g2 c2 x2 g3 c3 x3, hasRow w' S (srow ver facts (.slice (some ⟨g1, 0, none⟩) (n + 1) c1) seen (.slice (some ⟨g2, 0, none⟩) (n + 1) c2) (.slice (some ⟨g3, 0, none⟩) (n + 1) c3)) ∧
        w'.ownsRow 0 9 1 (.slice (some ⟨g1, 0, none⟩) (n + 1) c1) (n + 1) x1 ∧ w'.ownsRow 0 30 1 (.slice (some ⟨g2, 0, none⟩) (n + 1) c2) (n + 1) x2 ∧ w'.ownsRow 0 30 1 (.slice (some ⟨g3, 0, none⟩) (n + 1) c3) (n + 1) x3 ∧
        (asked.ownBlock = some g1 ∨ w.heap.size ≤ g1) ∧ (told.ownBlock = some g2 ∨ w.heap.size ≤ g2) ∧ (kept.ownBlock = some g3 ∨ w.heap.size ≤ g3) ∧ (g1 ≠ S ∧ g2 ≠ S ∧ g3 ≠ S ∧ g1 ≠ g2 ∧ g1 ≠ g3 ∧ g2 ≠ g3) ∧
        Kp (fun b => b = S ∨ asked.ownBlock = some b ∨ told.ownBlock = some b ∨ kept.ownBlock = some b) w w' ∧ Strs w' (fun b => w.heap.size ≤ b ∧ b ≠ g1 ∧ b ≠ g2 ∧ b ≠ g3) (.slice p' (teA A).scopes.length c') (teA A).scopes) =>
    show (∃ p c, e = .returned (.tuple #[tclm (teA A) p c, .bool (teA A).ok, .int .i64 0]) ∧ ∃ G', SI w' G' S ver seen (n + 1) A ∧ Kp G w w' ∧ (∀ b, G' b → G b ∨ w.heap.size ≤ b) ∧ Strs w' (fun b => w.heap.size ≤ b ∧ ¬ G' b) (.slice p (teA A).scopes.length c) (teA A).scopes) from by
    obtain ⟨p', c', he, g1, c1, x1, g2, c2, x2, g3, c3, x3, r, o1, o2, o3, t1, t2, t3, ⟨n1, n2, n3, n4, n5, n6⟩, k, st⟩ := q
    have hx : ∀ b, (b = S ∨ asked.ownBlock = some b ∨ told.ownBlock = some b ∨ kept.ownBlock = some b) → G b := fun b hb => by
      rcases hb with rfl | hb
      · exact hs
      · exact h8 b hb
    have l1 := (World.ownsRow.lt o1 g1 rfl).2
    have l2 := (World.ownsRow.lt o2 g2 rfl).2
    have l3 := (World.ownsRow.lt o3 g3 rfl).2
    refine ⟨p', c', he, fun b => (G b ∧ ¬ (asked.ownBlock = some b ∨ told.ownBlock = some b ∨ kept.ownBlock = some b)) ∨ b = g1 ∨ b = g2 ∨ b = g3, ⟨⟨facts, _, _, _, x1, x2, x3, r, o1, o2, o3, ?_, ?_, ?_, ?_, ?_⟩, ?_, ?_⟩, k.mono (fun b _ hb => hx b hb), ?_, ?_⟩
    · intro b hb; cases hb; exact ⟨n1, fun e => by cases e; exact n4 rfl, fun e => by cases e; exact n5 rfl⟩
    · intro b hb; cases hb; exact ⟨n2, fun e => by cases e; exact n6 rfl⟩
    · intro b hb; cases hb; exact n3
    · intro b hb
      rcases hb with hb | hb | hb <;> cases hb
      · exact .inr (.inl rfl)
      · exact .inr (.inr (.inl rfl))
      · exact .inr (.inr (.inr rfl))
    · cases A with
      | false => exact h9
      | true =>
        obtain ⟨f, fc, sb, sc, q1, q2, q3, q4, q5, q6, q7⟩ := h9
        have fresh : ∀ z, G z → ¬ (z = S ∨ asked.ownBlock = some z ∨ told.ownBlock = some z ∨ kept.ownBlock = some z) → ¬ (z = S ∨ (Value.slice (some ⟨g1, 0, none⟩) (n + 1) c1).ownBlock = some z ∨ (Value.slice (some ⟨g2, 0, none⟩) (n + 1) c2).ownBlock = some z ∨ (Value.slice (some ⟨g3, 0, none⟩) (n + 1) c3).ownBlock = some z) := fun z hz hn e => by
          have hzl : z < w.heap.size := hl z hz
          rcases e with e | e | e | e
          · exact hn (.inl e)
          · have e' : g1 = z := Option.some.inj e
            subst e'
            exact t1.elim (fun e => hn (.inr (.inl e))) (fun e => by omega)
          · have e' : g2 = z := Option.some.inj e
            subst e'
            exact t2.elim (fun e => hn (.inr (.inr (.inl e)))) (fun e => by omega)
          · have e' : g3 = z := Option.some.inj e
            subst e'
            exact t3.elim (fun e => hn (.inr (.inr (.inr e)))) (fun e => by omega)
        exact ⟨f, fc, sb, sc, q1, q2.kp k q6, (k.cell (a := ⟨sb, 0, none⟩) (hl sb q5) q7).trans q3, .inl ⟨q4, fun e => q6 (.inr e)⟩, .inl ⟨q5, fun e => q7 (.inr e)⟩, fresh f q4 q6, fresh sb q5 q7⟩
    · exact .inl ⟨hs, fun e => by rcases e with e | e | e; exact (h5 S e).1 rfl; exact (h6 S e).1 rfl; exact h7 S e rfl⟩
    · intro b hb
      rcases hb with hb | rfl | rfl | rfl
      · exact Nat.lt_of_lt_of_le (hl b hb.1) k.size
      · exact l1
      · exact l2
      · exact l3
    · intro b hb
      rcases hb with hb | rfl | rfl | rfl
      · exact .inl hb.1
      · exact t1.imp (fun e => h8 _ (.inl e)) id
      · exact t2.imp (fun e => h8 _ (.inr (.inl e))) id
      · exact t3.imp (fun e => h8 _ (.inr (.inr e))) id
    · refine st.mono (fun b hb => ⟨hb.1, fun e => ?_⟩)
      rcases e with e | e | e | e
      · exact absurd (hl b e.1) (by omega)
      · exact hb.2.1 e
      · exact hb.2.2.1 e
      · exact hb.2.2.2 e
  cases A with
  | true =>
    obtain ⟨f, fc, sb, sc, rfl, q2, q3, q4, q5, q6, q7⟩ := h9
    refine (main (some ⟨sb, 0, none⟩) 1 sc (fun W a k hr => fact1 tT hr (q2.kp k (fun e => q6 (e.imp id .inl)))) (fun W k => ?_) (fun W k => ?_)).mono (fun e w' q => post e w' q)
    · refine (lend1 sb sc tA W ((k.cell (a := ⟨sb, 0, none⟩) (hl sb q5) (fun e => q7 (e.imp id .inl))).trans q3)).mono ?_
      rintro e w' ⟨g, cap, rfl, hst, hb⟩
      exact ⟨_, cap, rfl, hst, hb⟩
    · refine (copy1 sb sc tA W ((k.cell (a := ⟨sb, 0, none⟩) (hl sb q5) (fun e => q7 (e.imp id (fun e => e.imp id .inl)))).trans q3)).mono ?_
      rintro e w' ⟨g, cap, rfl, hst, hb⟩
      exact ⟨_, _, cap, rfl, hb⟩
  | false =>
    obtain rfl := h9
    refine (main none 0 0 (fun W a k hr => fact0 tT hr) (fun W k => ?_) (fun W k => ?_)).mono (fun e w' q => post e w' q)
    · refine (lend0 W).mono ?_
      rintro e w' ⟨p, cap, rfl, hb⟩
      exact ⟨p, cap, rfl, Strs.nil _ _ _ _, hb⟩
    · refine (copy0 W).mono ?_
      rintro e w' ⟨rfl, rfl⟩
      exact ⟨none, 0, 0, rfl, Below.refl _ _⟩

theorem srcSrc (S : Nat) (ver seen : Int) (n : Nat) (A : Bool) (h0 : 0 ≤ seen) (h1 : seen ≤ 1000) (hn : n ≤ 1000) :
    Src 59 92 91 S ver tT (teA A) (fun w G => SI w G S ver seen n A) (fun w G => SI w G S ver (seen + 1) n A) (fun w G => SI w G S ver (seen + 1) (n + 1) A) where
  mV := method59V S
  mF := method59F S
  cV := fun args w => enters_of Try.func92 (by kernel_rfl) rfl args w
  cF := fun args w => enters_of Try.func91 (by kernel_rfl) rfl args w
  kI := fun _ _ _ _ h k hd => h.keep k hd
  kI1 := fun _ _ _ _ h k hd => h.keep k hd
  kI2 := fun _ _ _ _ h k hd => h.keep k hd
  lI := fun _ _ h => h.lt
  lI1 := fun _ _ h => h.lt
  lI2 := fun _ _ h => h.lt
  runV := fun w G h => by
    obtain ⟨facts, asked, told, kept, as1, ts, ks, r, _⟩ := h.ex
    refine (srcVersion r h0 h1).mono ?_
    rintro e w' ⟨rfl, rfl⟩
    exact ⟨rfl, G, h.setCell (fun _ _ _ _ => rfl), (Kp.refl G w).setCell (a := ⟨S, 5, none⟩) (.inl h.self) _, fun b hb => .inl hb⟩
  runF := fun w G h => srcRunFind h hn
end Go.Proofs.Ytkbbaokllgmhiaa
