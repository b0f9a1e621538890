/- right: a Find tells what the source tells. -/
import Derived.Test.YtkbbaokllgmhiaaE2
import Derived.Test.YtkbbaokllgmhiaaB2
namespace Go.Proofs.Ytkbbaokllgmhiaa
open Go.RowKit Go.Maps Go.MuLone Go.Sort Go.Shelf

/-- Behind a question: the cache, the source; all else as it was. -/
structure Asked (w : World) (F G : Nat → Prop) (c S : Nat) (most : Int) (st' : CSt) (ver : Int) (n' : Nat) (F' G' : Nat → Prop) (w' : World) : Prop where
  cache : CacheI w' F' c (hon S) most st'
  source : HonI w' G' S ver n'
  apart : ∀ b, F' b → ¬ G' b
  mine : ∀ b, F' b → F b ∨ w.heap.size ≤ b
  its : ∀ b, G' b → G b ∨ w.heap.size ≤ b
  kp : Kp (fun b => F b ∨ G b) w w'

theorem Asked.later {w : World} {F G F' G' : Nat → Prop} {c S n : Nat} {most ver : Int} {st : CSt} {w1 w2 : World} (h : Asked w F G c S most st ver n F' G' w1) (k : Kp (fun b => w1.heap.size ≤ b) w1 w2) : Asked w F G c S most st ver n F' G' w2 :=
  ⟨h.cache.keep k (fun b hb e => Nat.lt_irrefl _ (Nat.lt_of_lt_of_le (h.cache.lt b hb) e)), h.source.keep k (fun b hb e => Nat.lt_irrefl _ (Nat.lt_of_lt_of_le (h.source.lt b hb) e)), h.apart, h.mine, h.its,
    h.kp.trans k (fun b hb e => absurd e (by have := h.kp.size; omega))⟩

set_option maxRecDepth 100000 in
set_option maxHeartbeats 1600000 in
theorem right_any {w : World} {F G : Nat → Prop} {c S n : Nat} {ver most : Int} {st : CSt} {k : Int} (tok : ByteArray) (hC : CacheI w F c (hon S) most st) (hI : HonI w G S ver n) (hFG : ∀ b, F b → ¬ G b) (hh : Hon st) (hf : Fits st k) (hk : k ≤ 1000000000) (hsz : tok.size ≤ maxLen) (hn : n ≤ 4294967296) :
    Calls Try.prog 11 #[.pointer (some ⟨c, 0, none⟩), .pointer (some ⟨S, 0, none⟩), .string tok] w fun e w' => e = .returned (.bool true) ∧ ∃ F' G', Asked w F G c S most (fnd most ver tok st) ver (n + more ver tok st) F' G' w' := by
  have hfind := find_hon (ver := ver) tok hC hI hFG hh hf hk hsz hn
  have hlo := hI.lo
  have hhi := hI.hi
  have hsc := tell_scopes ver tok
  have HF := Lib.hid hfind
  have HT : Hid (∀ W : World, W.cell? ⟨S, 0, none⟩ = some (.int .u64 ver) → _) := fun W hW => tells_any S ver tok W hW hsz hlo hhi
  generalize tell ver tok = te at HF HT hsc
  have HSC := Lib.hid hsc
  clear hfind hC hI hFG hf hh hsc hlo hhi
  generalize fnd most ver tok st = st' at *
  generalize n + more ver tok st = n' at *
  obtain ⟨iss, sub, scopes, g, x, ok⟩ := te
  go_enter Try.func11, Try.ntmps11
  go_wp2_with (first | (go_at_call 22; refine HF.out.mono ?_; rintro r w1 ⟨p, m, rfl, hs1, F', G', hC1, hI1, a1, a2, a3, k1⟩; have v1 := hI1.ver; have hA : Asked w F G c S most st' ver n' F' G' w1 := ⟨hC1, hI1, a1, a2, a3, k1⟩; have HA := Lib.hid hA; have HS1 := Lib.hid hs1; have hS1 := World.block_lt_of_cell? _ _ v1; clear hC1 hI1 a1 a2 a3 k1 hA hs1))
  refine (HT.out _ (cell_old v1)).mono ?_
  rintro r w2 ⟨p2, m2, rfl, hs2, hb2⟩
  have hr2 : hasRow w2 w1.heap.size _ := (hasRow_new w1 _ 48).below hb2 (by simp)
  have i2 : isRow w2 w1.heap.size 24 := hr2.is
  have e2 := hr2.rowAt
  have l2 := i2.lt
  have HS2 := Lib.hid hs2
  have HB2 := Lib.hid hb2
  clear hs2 hb2 hr2 HT HF
  go_wp2_with (first | (go_at_call 9; refine (num_any _ _).mono ?_; rintro e w' ⟨rfl, rfl⟩) | (go_at_call 27; refine (eqClaims_same _ _ _ _ _ _ _ _ _ ?hE).mono ?_))
  case hE =>
    intro W hW
    have k1 : Kp (fun b => w1.heap.size ≤ b) w1 W := ((((Kp.refl (fun b => w1.heap.size ≤ b) w1).alloc _).then_below HB2.out (by simp)).alloc _).trans hW (fun _ _ h => h.elim)
    have k2 : Kp (fun b => w2.heap.size ≤ b) w2 W := ((Kp.refl (fun b => w2.heap.size ≤ b) w2).alloc _).trans hW (fun _ _ h => h.elim)
    refine eqStrings_strs (HS1.out.bound.keep k1 (fun b hb e => Nat.lt_irrefl _ (Nat.lt_of_lt_of_le hb.2 e))) (HS2.out.bound.keep k2 (fun b hb e => Nat.lt_irrefl _ (Nat.lt_of_lt_of_le hb.2 e))) HSC.out
  rintro r w3 ⟨rfl, hb3⟩
  have k3 : Kp (fun b => w1.heap.size ≤ b) w1 w3 := ((((Kp.refl (fun b => w1.heap.size ≤ b) w1).alloc _).then_below HB2.out (by simp)).alloc _).then_below hb3 (by have := HB2.out.size; simp at this ⊢; omega)
  go_wp2
  go_ret
  exact ⟨rfl, F', G', HA.out.later k3⟩
end Go.Proofs.Ytkbbaokllgmhiaa
