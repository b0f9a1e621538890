/- The tokens that are remembered behind a question, as lists. -/
import Derived.Test.YtkbbaokllgmhiaaG1
namespace Go.Proofs.Ytkbbaokllgmhiaa
open Go.RowKit

def ktoks (v : Int) (st : CSt) : List ByteArray := (known v st).map (·.tok)
theorem isHit_iff {v : Int} {t : ByteArray} {st : CSt} : isHit v t st ↔ t ∈ ktoks v st := by
  unfold isHit ktoks
  rw [List.mem_map]
theorem ktoks_same (st : CSt) : ktoks st.ver st = toks st := by simp [ktoks, known, toks]
theorem ktoks_other {v : Int} {st : CSt} (h : v ≠ st.ver) : ktoks v st = [] := by simp [ktoks, known, h]
theorem fnd_ver (most v : Int) (t : ByteArray) (st : CSt) : (fnd most v t st).ver = v := by unfold fnd; split <;> rfl

theorem toks_hit {most v : Int} {t : ByteArray} {st : CSt} (h : t ∈ ktoks v st) : toks (fnd most v t st) = (ktoks v st).filter (fun y => !decide (y = t)) ++ [t] := by
  have hh : isHit v t st := isHit_iff.2 h
  have hk : known v st = st.L := by
    unfold known
    split
    · rfl
    · rename_i hv; rw [ktoks_other hv] at h; cases h
  unfold fnd ktoks
  rw [if_pos hh, hk]
  unfold toks
  simp only [List.map_append, List.map_cons, List.map_nil, List.filter_map]
  rfl
theorem toks_miss {most v : Int} {t : ByteArray} {st : CSt} (h : t ∉ ktoks v st) : toks (fnd most v t st) = if t.size ≤ 2048 then (if most ≤ ((ktoks v st).length : Int) then (ktoks v st).tail else ktoks v st) ++ [t] else ktoks v st := by
  have hh : ¬ isHit v t st := fun e => h (isHit_iff.1 e)
  unfold fnd ktoks
  rw [if_neg hh]
  unfold toks laid
  simp only [List.length_map]
  split
  · split <;> simp [List.map_tail]
  · rfl
theorem hits_hit {most v : Int} {t : ByteArray} {st : CSt} (h : t ∈ ktoks v st) : (fnd most v t st).hits = st.hits + 1 ∧ (fnd most v t st).misses = st.misses ∧ more v t st = 0 := by
  have hh : isHit v t st := isHit_iff.2 h
  unfold fnd more
  rw [if_pos hh, if_pos hh]; exact ⟨rfl, rfl, rfl⟩
theorem hits_miss {most v : Int} {t : ByteArray} {st : CSt} (h : t ∉ ktoks v st) : (fnd most v t st).hits = st.hits ∧ (fnd most v t st).misses = st.misses + 1 ∧ more v t st = 1 := by
  have hh : ¬ isHit v t st := fun e => h (isHit_iff.1 e)
  unfold fnd more
  rw [if_neg hh, if_neg hh]; exact ⟨rfl, rfl, rfl⟩

/-- The tokens of CacheLimits. -/
def tk (i : Nat) : ByteArray := ⟨#[UInt8.ofNat i, UInt8.ofNat (i / 256)]⟩
theorem tk_inj {i j : Nat} (hi : i < 65536) (hj : j < 65536) (h : tk i = tk j) : i = j := by
  have h1 := congrArg (fun b : ByteArray => b.data.toList.map UInt8.toNat) h
  simp [tk] at h1
  omega
theorem tk_size (i : Nat) : (tk i).size = 2 := rfl

theorem tk_notin {k n : Nat} (h : k ≤ n) (hn : n < 65536) : tk n ∉ (List.range k).map tk := by
  intro e
  obtain ⟨i, hi, he⟩ := List.mem_map.1 e
  rw [List.mem_range] at hi
  have := tk_inj (by omega) hn he
  omega

/-- What is remembered behind k + 1 questions of CacheLimits' first tokens. -/
theorem lim_step {st : CSt} {k : Nat} (hk : k ≤ 1024) (ht : ktoks 1 st = (List.range k).map tk) : tk k ∉ ktoks 1 st ∧ toks (fnd 1024 1 (tk k) st) = if k = 1024 then ((List.range 1024).map tk).tail ++ [tk 1024] else (List.range (k + 1)).map tk := by
  have h := tk_notin (Nat.le_refl k) (by omega : k < 65536)
  rw [← ht] at h
  refine ⟨h, ?_⟩
  rw [toks_miss h, ht, if_pos (by rw [tk_size]; omega)]
  by_cases hh : k = 1024
  · subst hh
    rw [if_pos (by simp), if_pos rfl]
  · rw [if_neg (by simp; omega), if_neg hh, List.range_succ]; simp
end Go.Proofs.Ytkbbaokllgmhiaa
