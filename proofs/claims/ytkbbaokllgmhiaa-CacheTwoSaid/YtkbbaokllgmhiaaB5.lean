/- The honest source: what it keeps in memory; its Find. -/
import Derived.Test.YtkbbaokllgmhiaaB4
import Derived.Deep.AppendLies
namespace Go.Proofs.Ytkbbaokllgmhiaa
open Go.RowKit Go.Maps Go.MuLone

theorem info9 : (Try.prog.info? 9).map (fun i => (i.zero, i.size, i.bytes)) = some (some (.string ⟨#[]⟩), 1, 16) := by kernel_rfl

/-- One text more at a list of texts of the program's own. -/
theorem wpList_app_str {ops : Array Oper} {rest : List Oper} {o : Oper} {a : Act} {w : World} {Q : Exit → Act → World → Prop} (hgd : o.guard = none) (s x : Operand)
    (ho : o.op = .call { callee := .builtin .append, args := #[s, x], argTypes := #[30, 30] })
    (v : Value) (n : Nat) (xs : List Value) (hs : a.eval s = v) (hown : w.ownsRow 0 9 1 v n xs)
    (g0 c0 : Nat) (hx : a.eval x = .slice (some ⟨g0, 0, none⟩) 1 c0) (u : ByteArray) (hu : w.cell? ⟨g0, 0, none⟩ = some (.string u)) (hn : n ≤ 4294967296)
    (h : ∀ g cap w', w'.ownsRow 0 9 1 (.slice (some ⟨g, 0, none⟩) (n + 1) cap) (n + 1) (xs ++ [.string u]) → w.grownBy w' v.ownBlock → (v.ownBlock = some g ∨ g = w.heap.size) → g < w'.heap.size →
      wpList Try.prog ops Q rest (a.put o.dst (.slice (some ⟨g, 0, none⟩) (n + 1) cap)) w') : wpList Try.prog ops Q (o :: rest) a w := by
  obtain ⟨i0, hi0, hz0, hz1, hz2⟩ := info_parts info9
  refine wpList_plain hgd fun K hK => wp_append_lies w s x 30 ho 0 9 i0 _ 1 16 Try.underlying30 hi0 hz0 hz1 hz2 rfl (by omega) v n xs hs hown ⟨g0, 0, none⟩ 1 c0 [.string u] hx rfl ?_ ?_ (by omega) (by unfold maxLen; omega) (by omega) (Nat.zero_le _) w.heap.size rfl (fun g cap w' h1 h2 h3 h4 => hK _ _ (h g cap w' h1 h2 h3 h4))
  · intro j y hy
    match j, hy with
    | 0, hy => simp at hy; subst hy; simpa [Addr.add] using hu
    | j + 1, hy => simp at hy
  · intro y hy; simp at hy; subst hy; rfl

/-- What an honest source at block S keeps: its version; the list of what it was asked (n texts); all of it in blocks of G. -/
structure HonI (w : World) (G : Nat → Prop) (S : Nat) (ver : Int) (n : Nat) : Prop where
  ex : ∃ v xs, hasRow w S #[.int .u64 ver, v] ∧ w.ownsRow 0 9 1 v n xs ∧ ∀ k, v.ownBlock = some k → G k ∧ k ≠ S
  self : G S
  lt : ∀ b, G b → b < w.heap.size
  lo : 0 ≤ ver
  hi : ver < 18446744073709551616

theorem grownBy_same {w w' : World} {F : Nat → Prop} {v : Value} (k : Kp F w w') (hv : ∀ b, v.ownBlock = some b → ¬ F b) (b : Nat) (hb : v.ownBlock = some b) (hl : b < w.heap.size) : w'.heap[b]? = w.heap[b]? := k.block b hl (hv b hb)

theorem ownsRow_kp {w w' : World} {F : Nat → Prop} {base e size n : Nat} {v : Value} {xs : List Value} (h : w.ownsRow base e size v n xs) (k : Kp F w w') (hv : ∀ b, v.ownBlock = some b → ¬ F b) : w'.ownsRow base e size v n xs := by
  obtain ⟨h1, h2⟩ := h
  refine ⟨h1, ?_⟩
  rcases h2 with h2 | ⟨g, cap, cur, rfl, hb, hg, r⟩
  · exact .inl h2
  · exact .inr ⟨g, cap, cur, rfl, hb, (k.block g (Array.getElem?_eq_some_iff.1 hg).1 (hv g rfl)).trans hg, r⟩

theorem HonI.keep {w w' : World} {G F : Nat → Prop} {S : Nat} {ver : Int} {n : Nat} (h : HonI w G S ver n) (k : Kp F w w') (hd : ∀ b, G b → ¬ F b) : HonI w' G S ver n := by
  obtain ⟨⟨v, xs, h1, h2, h3⟩, h4, h5, h6, h7⟩ := h
  exact ⟨⟨v, xs, h1.kp k (hd S h4), ownsRow_kp h2 k (fun b hb => hd b (h3 b hb).1), h3⟩, h4, fun b hb => Nat.lt_of_lt_of_le (h5 b hb) k.size, h6, h7⟩

theorem HonI.ver {w : World} {G : Nat → Prop} {S : Nat} {ver : Int} {n : Nat} (h : HonI w G S ver n) : w.cell? ⟨S, 0, none⟩ = some (.int .u64 ver) := by
  obtain ⟨v, xs, h1, _⟩ := h.ex; exact h1.cell 0

abbrev tclm (t : Tell) (p : Option Addr) (c : Nat) : Value := clm t.iss t.sub (.slice p t.scopes.length c) t.grant t.exp

set_option maxRecDepth 100000 in
set_option maxHeartbeats 1600000 in
theorem honFind {w : World} {G : Nat → Prop} {S : Nat} {ver : Int} {n : Nat} (tok : ByteArray) (h : HonI w G S ver n) (hs : tok.size ≤ maxLen) (hn : n ≤ 4294967296) :
    Calls Try.prog 89 #[.pointer (some ⟨S, 0, none⟩), .string tok] w fun e w' => ∃ p c, e = .returned (.tuple #[tclm (tell ver tok) p c, .bool (tell ver tok).ok, .int .i64 0]) ∧
      ∃ G', HonI w' G' S ver (n + 1) ∧ Kp G w w' ∧ (∀ b, G' b → G b ∨ w.heap.size ≤ b) ∧ Strs w' (fun b => w.heap.size ≤ b ∧ ¬ G' b) (.slice p (tell ver tok).scopes.length c) (tell ver tok).scopes := by
  obtain ⟨⟨v, xs, hr, ho, hb⟩, hG, hlt, hlo, hhi⟩ := h
  have hS := hr.lt
  have c1 := hr.cell 1
  have f1 := hr.frozen 1
  have hsl : ∃ p' m' c', v = .slice p' m' c' := by
    rcases ho.2 with ⟨rfl, _⟩ | ⟨g, cap, cur, rfl, _⟩
    · exact ⟨_, _, _, rfl⟩
    · exact ⟨_, _, _, rfl⟩
  obtain ⟨p', m', c', rfl⟩ := hsl
  simp at c1
  have HR := Lib.hid hr
  have HO := Lib.hid ho
  have HB := Lib.hid hb
  have hob : ∀ k, (Value.slice p' m' c').ownBlock = some k → k < w.heap.size := fun k hk => (ho.lt k hk).2
  have HOB := Lib.hid hob
  clear hr ho hb hob
  generalize hte : tell ver tok = te
  have HT := Lib.hid hte
  clear hte
  go_enter Try.func89, Try.ntmps89
  go_wp2_with (at_builtin; refine wpList_app_str rfl _ _ rfl (.slice p' m' c') n xs rfl ((HO.out.alloc _).alloc _) _ _ rfl tok ?d1 hn ?_; rotate_left; intro g cap w1 hown hgr hat hgl; have hk := (((Kp.refl G w).alloc z48).alloc (.cells #[.string tok] 9)).grown hgr (fun b hb' => .inl (HB.out b hb').1); have hr1 := ((HR.out.alloc z48).alloc (.cells #[.string tok] 9)).of_same (hgr.block S (by simp; omega) (fun e => (HB.out S e.symm).2 rfl)); have hi1 := (((hasRow_new w _ 48).alloc (.cells #[.string tok] 9)).of_same (hgr.block w.heap.size (by simp; omega) (fun e => absurd (HOB.out _ e.symm) (Nat.lt_irrefl _)))).is; have HK1 := Lib.hid hk; have HR1 := Lib.hid hr1; have HO1 := Lib.hid hown; have HA := Lib.hid hat; have d1 := hr1.cell 1; have e1 := hr1.frozen 1; have l1 := hr1.lt; have l2 := hi1.lt; clear hown hgr hat hk hr1; simp at d1)
  case d1 => exact (World.cell?_alloc_at _ _ _ _ (by simp)).trans rfl
  have hv2 : (w1.setCell ⟨S, 1, none⟩ (.slice (some ⟨g, 0, none⟩) (n + 1) cap)).cell? ⟨S, 0, none⟩ = some (.int .u64 ver) := (HR1.out.setCell _).cell 0
  have ht := tells_any S ver tok _ hv2 hs hlo hhi
  rw [HT.out] at ht
  refine ht.mono ?_
  clear ht
  rintro r w2 ⟨p2, c2, rfl, hs2, hb2⟩
  have hk2 := hb2.size
  have hi2 : isRow w2 w.heap.size 24 := by
    obtain ⟨cs, t, h, hc⟩ := isRow_setCell _ w.heap.size S 24 1 (.slice (some ⟨g, 0, none⟩) (n + 1) cap) hi1
    exact ⟨cs, t, (hb2.block _ (by simp [World.setCell]; omega)).trans h, hc⟩
  have l3 := hi2.lt
  have HS2 := Lib.hid hs2
  have HB2 := Lib.hid hb2
  clear hs2 hb2 hk2
  go_wp2
  have hgS : g ≠ S := by
    rcases HA.out with h | h
    · exact (HB.out g h).2
    · simp at h; omega
  have hgW : g ≠ w.heap.size := by
    rcases HA.out with h | h
    · have := HOB.out g h; omega
    · simp at h; omega
  have hg1 : g < w1.heap.size := (HO1.out.lt g rfl).2
  have hGg : G g ∨ w.heap.size ≤ g := by
    rcases HA.out with h | h
    · exact .inl (HB.out g h).1
    · simp at h; omega
  have hz2 : (w1.setCell ⟨S, 1, none⟩ (.slice (some ⟨g, 0, none⟩) (n + 1) cap)).heap.size = w1.heap.size := by simp [World.setCell]
  have hon2 : HonI (w1.setCell ⟨S, 1, none⟩ (.slice (some ⟨g, 0, none⟩) (n + 1) cap)) (fun b => b = S ∨ b = g) S ver (n + 1) :=
    ⟨⟨.slice (some ⟨g, 0, none⟩) (n + 1) cap, _, HR1.out.setCell _, ownsRow_kp HO1.out ((Kp.refl (fun b => b = S) w1).setCell (.inl rfl) _) (fun b hb e => by cases hb; exact hgS e), fun k hk => by cases hk; exact ⟨.inr rfl, hgS⟩⟩,
      .inl rfl, fun b hb => by rw [hz2]; rcases hb with rfl | rfl; exact l1; exact hg1, hlo, hhi⟩
  have k2 := HB2.out
  refine bodyPost_ret_by (v := .tuple #[tclm te p2 c2, .bool te.ok, .int .i64 0]) (results_row_slots (p := 4) (q := 5) (r := 6) (ty := 48) rfl _ rfl ((isRow_alloc _ _ _ _ hi2).setRow _) Try.underlying48 rfl (by kernel_rfl)) rfl ⟨p2, c2, rfl, fun b => b = S ∨ b = g, ?_, ?_, ?_, ?_⟩
  · exact hon2.keep (((Kp.of_below (F := fun b => b = w.heap.size) k2).alloc _).setRow (.inl rfl) _) (fun b hb e => by rcases hb with hb | hb <;> omega)
  · exact (((HK1.out.setCell (a := ⟨S, 1, none⟩) (.inl hG) _).trans (Kp.of_below (F := G) k2) (fun _ _ h => h)).alloc _).setRow (.inr (Nat.le_refl _)) _
  · intro b hb
    rcases hb with rfl | rfl
    · exact .inl hG
    · exact hGg
  · refine (HS2.out.keep (((Kp.refl (fun b => b = w.heap.size) w2).alloc _).setRow (.inl rfl) _) ?_).mono ?_
    · intro b hb e; rw [hz2] at hb; omega
    · intro b hb; rw [hz2] at hb; exact ⟨by omega, fun e => by rcases e with e | e <;> omega⟩
end Go.Proofs.Ytkbbaokllgmhiaa
