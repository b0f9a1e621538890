/- What a cache keeps in memory. -/
import Derived.Test.YtkbbaokllgmhiaaC3
namespace Go.Proofs.Ytkbbaokllgmhiaa
open Go.RowKit Go.Maps Go.MuLone Go.Sort Go.Shelf

/-- One answer that is remembered: of which token, when it was asked last, what was told. -/
structure Ent where
  tok : ByteArray
  turn : Int
  te : Tell
abbrev key (t : ByteArray) : Lit := .string t.data.toList
theorem keyLit (t : ByteArray) : WideAt.IsKeyLit (key t) := trivial
abbrev zv : DataW Value := .held (ansv ⟨#[]⟩ ⟨#[]⟩ none 0 0 0 0 false 0)
abbrev eans (e : Ent) (p : Option Addr) (n : Nat) : Value := ansv e.te.iss e.te.sub p e.te.scopes.length n e.te.grant e.te.exp e.te.ok e.turn

/-- The map D holds just the answers of L (in the order of their turns), their lists in blocks of K. -/
structure DOK (w : World) (K : Nat → Prop) (D : DataW Value) (L : List Ent) : Prop where
  mem : ∀ e ∈ L, ∃ p n, D.atKey (key e.tok) zv = .held (eans e p n) ∧ Strs w K (.slice p e.te.scopes.length n) e.te.scopes
  has : ∀ x, Maps.has D (.string x) = true ↔ ∃ e ∈ L, e.tok.data.toList = x
  asc : L.Pairwise (fun a b => a.turn < b.turn)
  nodup : L.Pairwise (fun a b => a.tok ≠ b.tok)
  pos : ∀ e ∈ L, 0 < e.turn

theorem DOK.empty (w : World) (K : Nat → Prop) : DOK w K (.map []) [] :=
  ⟨fun e he => (by cases he), fun x => (by simp [Maps.has]), List.Pairwise.nil, List.Pairwise.nil, fun e he => (by cases he)⟩

theorem DOK.keep {w w' : World} {K F : Nat → Prop} {D : DataW Value} {L : List Ent} (h : DOK w K D L) (k : Kp F w w') (hd : ∀ b, K b → ¬ F b) : DOK w' K D L :=
  ⟨fun e he => let ⟨p, n, h1, h2⟩ := h.mem e he; ⟨p, n, h1, h2.keep k hd⟩, h.has, h.asc, h.nodup, h.pos⟩
theorem DOK.mono {w : World} {K K' : Nat → Prop} {D : DataW Value} {L : List Ent} (h : DOK w K D L) (hd : ∀ b, K b → K' b) : DOK w K' D L :=
  ⟨fun e he => let ⟨p, n, h1, h2⟩ := h.mem e he; ⟨p, n, h1, h2.mono hd⟩, h.has, h.asc, h.nodup, h.pos⟩

theorem bytes_inj {a b : ByteArray} (h : a.data.toList = b.data.toList) : a = b := by
  cases a; cases b; simp_all

theorem tok_inj {a b : Ent} {L : List Ent} (hn : L.Pairwise (fun a b => a.tok ≠ b.tok)) (ha : a ∈ L) (hb : b ∈ L) (h : a.tok = b.tok) : a = b := by
  induction L with
  | nil => cases ha
  | cons z L ih =>
    rw [List.pairwise_cons] at hn
    rcases List.mem_cons.1 ha with rfl | ha' <;> rcases List.mem_cons.1 hb with rfl | hb'
    · rfl
    · exact absurd h (hn.1 b hb')
    · exact absurd h.symm (hn.1 a ha')
    · exact ih hn.2 ha' hb'

/-- An answer is laid (anew): it is the last one asked. -/
theorem DOK.put {w : World} {K : Nat → Prop} {D : DataW Value} {L : List Ent} (h : DOK w K D L) (hm : IsMap D) (e : Ent) (p : Option Addr) (n : Nat) (hs : Strs w K (.slice p e.te.scopes.length n) e.te.scopes) (ht : ∀ a ∈ L, a.turn < e.turn) (hp : 0 < e.turn) :
    DOK w K (D.put (key e.tok) (.held (eans e p n))) (L.filter (fun a => !decide (a.tok = e.tok)) ++ [e]) := by
  refine ⟨?_, ?_, ?_, ?_, ?_⟩
  · intro a ha
    rcases List.mem_append.1 ha with ha | ha
    · obtain ⟨ha, hne⟩ := List.mem_filter.1 ha
      obtain ⟨q, m, h1, h2⟩ := h.mem a ha
      refine ⟨q, m, ?_, h2⟩
      rw [atKey_put_other]
      · exact h1
      · intro e1
        simp only [key, Lit.string.injEq] at e1
        simp [bytes_inj e1] at hne
    · obtain rfl : a = e := by simpa using ha
      exact ⟨p, n, atKey_put_same hm (keyLit a.tok) _ _, hs⟩
  · intro x
    by_cases hx : x = e.tok.data.toList
    · subst hx
      constructor
      · intro _; exact ⟨e, by simp, rfl⟩
      · intro _; exact has_put_same hm (keyLit e.tok) _
    · rw [has_put_other (fun e1 => hx (by simpa using e1)), h.has]
      constructor
      · rintro ⟨a, ha, rfl⟩
        refine ⟨a, List.mem_append.2 (.inl (List.mem_filter.2 ⟨ha, ?_⟩)), rfl⟩
        simp only [Bool.not_eq_true', decide_eq_false_iff_not]
        exact fun e1 => hx (by rw [e1])
      · rintro ⟨a, ha, rfl⟩
        rcases List.mem_append.1 ha with ha | ha
        · exact ⟨a, (List.mem_filter.1 ha).1, rfl⟩
        · obtain rfl : a = e := by simpa using ha
          exact absurd rfl hx
  · refine List.pairwise_append.2 ⟨h.asc.filter _, by simp, fun a ha b hb => ?_⟩
    obtain rfl : b = e := by simpa using hb
    exact ht a (List.mem_filter.1 ha).1
  · refine List.pairwise_append.2 ⟨h.nodup.filter _, by simp, fun a ha b hb => ?_⟩
    obtain rfl : b = e := by simpa using hb
    simpa using (List.mem_filter.1 ha).2
  · intro a ha
    rcases List.mem_append.1 ha with ha | ha
    · exact h.pos a (List.mem_filter.1 ha).1
    · obtain rfl : a = e := by simpa using ha
      exact hp

/-- The least recently asked one goes. -/
theorem DOK.tail {w : World} {K : Nat → Prop} {D : DataW Value} {e : Ent} {L : List Ent} (h : DOK w K D (e :: L)) : DOK w K (D.del (key e.tok)) L := by
  have hn := List.pairwise_cons.1 h.nodup
  refine ⟨?_, ?_, (List.pairwise_cons.1 h.asc).2, hn.2, fun a ha => h.pos a (List.mem_cons_of_mem _ ha)⟩
  · intro a ha
    obtain ⟨q, m, h1, h2⟩ := h.mem a (List.mem_cons_of_mem _ ha)
    refine ⟨q, m, ?_, h2⟩
    rw [atKey_del_other]
    · exact h1
    · intro e1
      simp only [key, Lit.string.injEq] at e1
      exact hn.1 a ha (bytes_inj e1.symm)
  · intro x
    by_cases hx : x = e.tok.data.toList
    · subst hx
      rw [has_del_same]
      constructor
      · intro h; cases h
      · rintro ⟨a, ha, e1⟩; exact absurd (bytes_inj e1).symm (hn.1 a ha)
    · rw [has_del_other (fun e1 => hx (by simpa using e1)), h.has]
      constructor
      · rintro ⟨a, ha, rfl⟩
        rcases List.mem_cons.1 ha with rfl | ha
        · exact absurd rfl hx
        · exact ⟨a, ha, rfl⟩
      · rintro ⟨a, ha, rfl⟩; exact ⟨a, List.mem_cons_of_mem _ ha, rfl⟩

/-- A token's turn. -/
def turnOf (L : List Ent) (x : List UInt8) : Int := ((L.find? (fun e => e.tok.data.toList = x)).map (·.turn)).getD 0

theorem turnOf_mem {L : List Ent} {e : Ent} (hn : L.Pairwise (fun a b => a.tok ≠ b.tok)) (he : e ∈ L) : turnOf L e.tok.data.toList = e.turn := by
  unfold turnOf
  cases hf : L.find? (fun a => a.tok.data.toList = e.tok.data.toList) with
  | none =>
    have := List.find?_eq_none.1 hf e he
    simp at this
  | some a =>
    have h1 := List.find?_some hf
    have h2 := List.mem_of_find?_eq_some hf
    simp only [decide_eq_true_eq] at h1
    rw [tok_inj hn h2 he (bytes_inj h1)]
    rfl

theorem DOK.turns {w : World} {K : Nat → Prop} {D : DataW Value} {L : List Ent} (h : DOK w K D L) : Turns D (turnOf L) := by
  constructor
  · intro x
    by_cases hx : Maps.has D (.string x) = true
    · obtain ⟨e, he, rfl⟩ := (h.has x).1 hx
      obtain ⟨p, n, h1, _⟩ := h.mem e he
      rw [turnOf_mem h.nodup he]
      exact ⟨_, _, _, _, _, _, _, _, h1⟩
    · have hf : Maps.has D (.string x) = false := by simpa using hx
      have : turnOf L x = 0 := by
        unfold turnOf
        cases hf : L.find? (fun a => a.tok.data.toList = x) with
        | none => rfl
        | some a =>
          have h1 := List.find?_some hf
          simp only [decide_eq_true_eq] at h1
          exact absurd ((h.has x).2 ⟨a, List.mem_of_find?_eq_some hf, h1⟩) hx
      rw [this]
      exact ⟨_, _, _, _, _, _, _, _, atKey_of_not_has hf _⟩
  · intro x
    unfold turnOf
    cases hf : L.find? (fun a => a.tok.data.toList = x) with
    | none => simp
    | some a => have := h.pos a (List.mem_of_find?_eq_some hf); simp; omega

theorem DOK.perm {w W : World} {K : Nat → Prop} {D : DataW Value} {L : List Ent} {M n : Nat} (h : DOK w K D L) (hown : W.ownsMap Try.prog 9 RV M n D) : (L.map (fun e => e.tok.data.toList)).Perm (strKeys D) := by
  obtain ⟨es, rfl, hp, _⟩ := hown.entries law9
  refine perm_strKeys hp ?_ ?_ ?_
  · obtain ⟨es', e1, hk⟩ := hown.keysOf
    cases e1
    intro q hq
    obtain ⟨v, hv⟩ := hk q hq
    obtain ⟨x, _, hx, _⟩ := Maps.keyOf_str Try.underlying9 hv
    exact ⟨x, hx⟩
  · rw [List.nodup_iff_pairwise_ne, List.pairwise_map]
    exact h.nodup.imp (fun hne e1 => hne (bytes_inj e1))
  · intro x
    rw [h.has]
    simp

theorem DOK.ordered {w W : World} {K : Nat → Prop} {D : DataW Value} {L : List Ent} {M n : Nat} (h : DOK w K D L) (hown : W.ownsMap Try.prog 9 RV M n D) : Ordered D (turnOf L) (L.map (·.tok)) := by
  refine ⟨?_, ?_⟩
  · rw [List.map_map]; exact h.perm hown
  · rw [List.pairwise_map]
    refine List.Pairwise.imp_of_mem ?_ h.asc
    intro a b ha hb hlt
    rw [turnOf_mem h.nodup ha, turnOf_mem h.nodup hb]
    exact hlt

theorem DOK.size {w W : World} {K : Nat → Prop} {D : DataW Value} {L : List Ent} {M n : Nat} (h : DOK w K D L) (hown : W.ownsMap Try.prog 9 RV M n D) : Maps.size D = L.length := by
  have h1 := (h.perm hown).length_eq
  obtain ⟨es, rfl, hp, _⟩ := hown.entries law9
  simpa [strKeys, Maps.size] using h1.symm
end Go.Proofs.Ytkbbaokllgmhiaa
