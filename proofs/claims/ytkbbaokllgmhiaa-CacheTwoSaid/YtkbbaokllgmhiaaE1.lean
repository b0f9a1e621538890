/- The honest source as a source; Find of a cache over it, told over what the cache remembers. -/
import Derived.Test.YtkbbaokllgmhiaaD5
import Derived.Test.YtkbbaokllgmhiaaD3
namespace Go.Proofs.Ytkbbaokllgmhiaa
open Go.RowKit Go.Maps Go.MuLone Go.Sort Go.Shelf

set_option maxHeartbeats 400000 in
theorem version_any (b off : Nat) (v : Int) (w : World) (h0 : w.cell? ⟨b, off, none⟩ = some (.int .u64 v)) :
    Calls Try.prog 90 #[.pointer (some ⟨b, off, none⟩)] w fun e w' => e = .returned (.tuple #[.int .u64 v, .int .i64 0]) ∧ w' = w := by
  go_enter Try.func90, Try.ntmps90
  go_wp2
  go_ret2
  exact ⟨rfl, rfl⟩

theorem method28V (S : Nat) (w : World) : (method 250 28 (.pointer (some ⟨S, 0, none⟩)) "Version").run Try.prog w = .ok (90, .pointer (some ⟨S, 0, none⟩)) w := by kernel_rfl
theorem method28F (S : Nat) (w : World) : (method 250 28 (.pointer (some ⟨S, 0, none⟩)) "Find").run Try.prog w = .ok (89, .pointer (some ⟨S, 0, none⟩)) w := by kernel_rfl

theorem tell_scopes (ver : Int) (tok : ByteArray) : (tell ver tok).scopes.length ≤ 1000000 := by
  unfold tell; split
  · simp
  · split <;> simp

/-- The honest source is a source. -/
theorem honSrc (S : Nat) (ver : Int) (n : Nat) (tok : ByteArray) (hs : tok.size ≤ maxLen) (hn : n ≤ 4294967296) :
    Src 28 90 89 S ver tok (tell ver tok) (fun w G => HonI w G S ver n) (fun w G => HonI w G S ver n) (fun w G => HonI w G S ver (n + 1)) where
  mV := method28V S
  mF := method28F S
  cV := fun args w => enters_of Try.func90 (by kernel_rfl) rfl args w
  cF := fun args w => enters_of Try.func89 (by kernel_rfl) rfl args w
  kI := fun _ _ _ _ h k hd => h.keep k hd
  kI1 := fun _ _ _ _ h k hd => h.keep k hd
  kI2 := fun _ _ _ _ h k hd => h.keep k hd
  lI := fun _ _ h => h.lt
  lI1 := fun _ _ h => h.lt
  lI2 := fun _ _ h => h.lt
  runV := fun w G h => (version_any S 0 ver w h.ver).mono (by rintro e w' ⟨rfl, rfl⟩; exact ⟨rfl, G, h, Kp.refl _ _, fun b hb => .inl hb⟩)
  runF := fun w G h => (honFind tok h hs hn).mono (by rintro e w' ⟨p, c, rfl, G', h1, h2, h3, h4⟩; exact ⟨p, c, rfl, G', h1, h2, h3, h4⟩)

/-- Is the token known at version v? -/
def isHit (v : Int) (tok : ByteArray) (st : CSt) : Prop := ∃ e ∈ known v st, e.tok = tok
instance (v : Int) (tok : ByteArray) (st : CSt) : Decidable (isHit v tok st) := by unfold isHit; infer_instance
/-- What a cache keeps behind a question. -/
def fnd (most v : Int) (tok : ByteArray) (st : CSt) : CSt :=
  if isHit v tok st then ⟨v, st.turn + 1, st.hits + 1, st.misses, st.L.filter (fun a => !decide (a.tok = tok)) ++ [⟨tok, st.turn + 1, tell v tok⟩]⟩
  else ⟨v, st.turn + 1, st.hits, st.misses + 1, laid most (known v st) ⟨tok, st.turn + 1, tell v tok⟩⟩
def more (v : Int) (tok : ByteArray) (st : CSt) : Nat := if isHit v tok st then 0 else 1
/-- All that is remembered is what the honest source tells at that version. -/
def Hon (st : CSt) : Prop := ∀ e ∈ st.L, e.te = tell st.ver e.tok

theorem Hon.fnd {most v : Int} {tok : ByteArray} {st : CSt} (h : Hon st) : Hon (fnd most v tok st) := by
  have hk : ∀ e ∈ known v st, e.te = tell v e.tok := by
    intro e he
    unfold known at he
    split at he
    · rename_i hv; rw [hv]; exact h e he
    · cases he
  intro e he
  unfold Ytkbbaokllgmhiaa.fnd at he ⊢
  split at he
  · rename_i hh
    rw [if_pos hh]
    simp only [List.mem_append, List.mem_filter, List.mem_singleton] at he
    rcases he with he | rfl
    · refine hk e ?_
      obtain ⟨a, ha, _⟩ := hh
      unfold known at ha ⊢
      split at ha
      · rename_i hv; rw [if_pos hv]; exact he.1
      · cases ha
    · rfl
  · rename_i hh
    rw [if_neg hh]
    unfold laid at he
    split at he
    · rw [List.mem_append, List.mem_singleton] at he
      rcases he with he | rfl
      · split at he
        · exact hk e (List.mem_of_mem_tail he)
        · exact hk e he
      · rfl
    · exact hk e he

structure Fits (st : CSt) (k : Int) : Prop where
  turn : st.turn ≤ k
  h0 : 0 ≤ st.hits
  hits : st.hits ≤ k
  m0 : 0 ≤ st.misses
  misses : st.misses ≤ k

theorem Fits.fnd {most v : Int} {tok : ByteArray} {st : CSt} {k : Int} (h : Fits st k) : Fits (fnd most v tok st) (k + 1) := by
  have := h.turn; have := h.h0; have := h.hits; have := h.m0; have := h.misses
  unfold Ytkbbaokllgmhiaa.fnd
  split <;> constructor <;> simp only <;> omega

/-- Where an honest source lies. -/
abbrev hon (S : Nat) : Value := .iface 28 (.pointer (some ⟨S, 0, none⟩))

theorem find_hon {w : World} {F G : Nat → Prop} {c S n : Nat} {ver most : Int} {st : CSt} {k : Int} (tok : ByteArray) (hC : CacheI w F c (hon S) most st) (hI : HonI w G S ver n) (hFG : ∀ b, F b → ¬ G b) (hh : Hon st) (hf : Fits st k) (hk : k ≤ 1000000000) (hsz : tok.size ≤ maxLen) (hn : n ≤ 4294967296) :
    Calls Try.prog 22 #[.pointer (some ⟨c, 0, none⟩), .string tok] w (FindPost w F G c (hon S) most (fnd most ver tok st) (fun w G => HonI w G S ver (n + more ver tok st)) (tell ver tok)) := by
  have h1 := hf.turn; have h2 := hf.h0; have h3 := hf.hits; have h4 := hf.m0; have h5 := hf.misses
  by_cases hit : isHit ver tok st
  · obtain ⟨e, he, het⟩ := id hit
    have hv : ver = st.ver := by
      unfold known at he; split at he
      · assumption
      · cases he
    have heL : e ∈ st.L := by unfold known at he; rw [if_pos hv] at he; exact he
    have hte : e.te = tell ver tok := by rw [hh e heL, het, hv]
    have := find_hit (honSrc S ver n tok hsz hn) hC hI hFG hv.symm e heL het hsz (by rw [hte]; exact tell_scopes _ _) (by omega) h2 (by omega)
    rw [hte] at this
    unfold fnd more
    rw [if_pos hit, if_pos hit]
    exact this
  · have := find_miss (honSrc S ver n tok hsz hn) hC hI hFG (fun e he hh => hit ⟨e, he, hh⟩) hsz (tell_scopes _ _) (by omega) h4 (by omega)
    unfold fnd more
    rw [if_neg hit, if_neg hit]
    exact this

/-- The tokens that are remembered, in their order. -/
def toks (st : CSt) : List ByteArray := st.L.map (·.tok)
end Go.Proofs.Ytkbbaokllgmhiaa
