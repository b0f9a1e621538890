/- One question more, told over the tokens alone; the last part of CacheLimits. -/
import Derived.Test.YtkbbaokllgmhiaaG4
namespace Go.Proofs.Ytkbbaokllgmhiaa
open Go.RowKit

def nextL (most : Int) (L : List ByteArray) (t : ByteArray) : List ByteArray :=
  if t ∈ L then L.filter (fun y => !decide (y = t)) ++ [t] else if t.size ≤ 2048 then (if most ≤ (L.length : Int) then L.tail else L) ++ [t] else L

theorem toks_next {most v : Int} {t : ByteArray} {st : CSt} : toks (fnd most v t st) = nextL most (ktoks v st) t := by
  unfold nextL
  by_cases h : t ∈ ktoks v st
  · rw [if_pos h, toks_hit h]
  · rw [if_neg h, toks_miss h]
theorem more_next {v : Int} {t : ByteArray} {st : CSt} : more v t st = if t ∈ ktoks v st then 0 else 1 := by
  by_cases h : t ∈ ktoks v st
  · rw [if_pos h, (hits_hit (most := 0) h).2.2]
  · rw [if_neg h, (hits_miss (most := 0) h).2.2]

/-- A cache over an honest source: the tokens L are known, n questions went to the source; all lies behind w. -/
structure RunI (w wx : World) (c S : Nat) (most ver : Int) (L : List ByteArray) (n : Nat) (k : Int) (X : Nat → Prop) : Prop where
  ex : ∃ F G st, CacheI wx F c (hon S) most st ∧ HonI wx G S ver n ∧ (∀ b, F b → ¬ G b) ∧ Hon st ∧ Fits st k ∧ ktoks ver st = L ∧ (∀ b, F b → w.heap.size ≤ b ∧ ¬ X b) ∧ (∀ b, G b → w.heap.size ≤ b ∧ ¬ X b)
  kp : Kp (fun b => w.heap.size ≤ b) w wx
  lt : ∀ b, X b → b < wx.heap.size

theorem RunI.keep {w wx w' : World} {c S n : Nat} {most ver k : Int} {L : List ByteArray} {X : Nat → Prop} (h : RunI w wx c S most ver L n k X) (kk : Kp (fun b => wx.heap.size ≤ b) wx w') : RunI w w' c S most ver L n k X := by
  obtain ⟨⟨F, G, st, hC, hI, hd, hh, hf, ht, hF, hG⟩, hkp, hl⟩ := h
  exact ⟨⟨F, G, st, hC.keep kk (fun b hb e => absurd (hC.lt b hb) (by omega)), hI.keep kk (fun b hb e => absurd (hI.lt b hb) (by omega)), hd, hh, hf, ht, hF, hG⟩, hkp.trans kk (fun b hb e => absurd hkp.size (by omega)), fun b hb => Nat.lt_of_lt_of_le (hl b hb) kk.size⟩

theorem RunI.right {w wx : World} {c S n : Nat} {most ver k : Int} {L : List ByteArray} {X : Nat → Prop} (h : RunI w wx c S most ver L n k X) (hk : k ≤ 1000000000) (t : ByteArray) (hs : t.size ≤ maxLen) (hn : n ≤ 4294967296) :
    Calls Try.prog 11 #[.pointer (some ⟨c, 0, none⟩), .pointer (some ⟨S, 0, none⟩), .string t] wx fun e w' => e = .returned (.bool true) ∧ RunI w w' c S most ver (nextL most L t) (n + if t ∈ L then 0 else 1) (k + 1) X ∧ Kp (fun b => w.heap.size ≤ b ∧ ¬ X b) wx w' := by
  obtain ⟨⟨F, G, st, hC, hI, hd, hh, hf, rfl, hF, hG⟩, hkp, hl⟩ := h
  refine (right_any (ver := ver) t hC hI hd hh hf hk hs hn).mono ?_
  rintro e w' ⟨rfl, F', G', A⟩
  have hsz := hkp.size
  have hv : ktoks ver (fnd most ver t st) = toks (fnd most ver t st) := by
    have h := ktoks_same (fnd most ver t st)
    rwa [fnd_ver] at h
  have hx : ∀ b, wx.heap.size ≤ b → w.heap.size ≤ b ∧ ¬ X b := fun b hb => ⟨by omega, fun e => absurd (hl b e) (by omega)⟩
  refine ⟨rfl, ⟨⟨F', G', _, A.cache, ?_, A.apart, hh.fnd, hf.fnd, hv.trans toks_next, fun b hb => (A.mine b hb).elim (hF b) (hx b), fun b hb => (A.its b hb).elim (hG b) (hx b)⟩, hkp.trans A.kp (fun b _ e => e.elim (fun e => (hF b e).1) (fun e => (hG b e).1)), fun b hb => Nat.lt_of_lt_of_le (hl b hb) A.kp.size⟩, A.kp.mono (fun b _ e => e.elim (hF b) (hG b))⟩
  rw [← more_next]; exact A.source
end Go.Proofs.Ytkbbaokllgmhiaa
namespace Go.Proofs.Ytkbbaokllgmhiaa
/-- What CacheLimits' cache remembers: behind its first loop, behind the rest. -/
def limT : List ByteArray := ((List.range 1024).map tk).tail ++ [tk 1024]
def limU : List ByteArray := limT.tail ++ [zb 2048]
theorem limT_size {x : ByteArray} (h : x ∈ limT) : x.size = 2 := by
  rcases List.mem_append.1 h with h | h
  · obtain ⟨i, _, rfl⟩ := List.mem_map.1 (List.mem_of_mem_tail h); exact tk_size i
  · rw [List.mem_singleton.1 h]; exact tk_size 1024
theorem limU_size {x : ByteArray} (h : x ∈ limU) : x.size = 2 ∨ x = zb 2048 := by
  rcases List.mem_append.1 h with h | h
  · exact .inl (limT_size (List.mem_of_mem_tail h))
  · exact .inr (List.mem_singleton.1 h)
theorem limT_length : limT.length = 1024 := by simp [limT]
theorem limT_no : zb 2048 ∉ limT := fun h => by have := limT_size h; rw [zb_size] at this; omega
theorem limU_yes : zb 2048 ∈ limU := List.mem_append.2 (.inr List.mem_cons_self)
theorem limU_no : zb 2049 ∉ limU := fun h => by
  rcases limU_size h with h | h
  · rw [zb_size] at h; omega
  · exact zb_ne (by omega) h
theorem limT_next : nextL 1024 limT (zb 2048) = limU := by
  rw [nextL, if_neg limT_no, if_pos (by rw [zb_size]; omega), if_pos (by rw [limT_length]; omega)]; rfl
theorem limU_next : nextL 1024 limU (zb 2048) = limU := by
  rw [nextL, if_pos limU_yes]
  have h1 : limT.tail.filter (fun y => !decide (y = zb 2048)) = limT.tail := List.filter_eq_self.2 fun x hx => by
    have : x ≠ zb 2048 := fun e => limT_no (e ▸ List.mem_of_mem_tail hx)
    simp [this]
  show (limT.tail ++ [zb 2048]).filter _ ++ [zb 2048] = limT.tail ++ [zb 2048]
  rw [List.filter_append, h1]
  simp
theorem limU_long : nextL 1024 limU (zb 2049) = limU := by
  rw [nextL, if_neg limU_no, if_neg (by rw [zb_size]; omega)]
theorem limU_none : (limU.filter (fun y => decide (y = zb 2049))).length = 0 := (filter_none _ _).2 limU_no
theorem limU_one : (limU.filter (fun y => decide (y = zb 2048))).length = 1 := by
  have h1 : limT.tail.filter (fun y => decide (y = zb 2048)) = [] := List.filter_eq_nil_iff.2 fun x hx => by
    have : x ≠ zb 2048 := fun e => limT_no (e ▸ List.mem_of_mem_tail hx)
    simp [this]
  show ((limT.tail ++ [zb 2048]).filter _).length = 1
  rw [List.filter_append, h1]
  simp
theorem limU_length : limU.length = 1024 := by simp [limU, limT]
end Go.Proofs.Ytkbbaokllgmhiaa
