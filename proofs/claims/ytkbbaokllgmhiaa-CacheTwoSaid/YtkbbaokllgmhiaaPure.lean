/- The plain law of the cache: which tokens are remembered, as a function of lists; and that 'near' (the law's own reckoning) tells just these. No Go and no program in sight. -/
namespace Go.Proofs.CM
variable {α : Type} [DecidableEq α]

/-- What is remembered (least recently asked first), at which version, and the two counts. -/
structure St (α : Type) where
  ver : Int
  L : List α
  hits : Int
  misses : Int

def lay (most : Nat) (L : List α) (t : α) : List α := (if most ≤ L.length then L.tail else L) ++ [t]
def known (v : Int) (s : St α) : List α := if v = s.ver then s.L else []
def find (most : Nat) (short : α → Bool) (v : Int) (t : α) (s : St α) : St α :=
  if t ∈ known v s then { ver := v, L := (known v s).erase t ++ [t], hits := s.hits + 1, misses := s.misses }
  else { ver := v, L := if short t then lay most (known v s) t else known v s, hits := s.hits, misses := s.misses + 1 }

/-- One question more, of a token that may be remembered. -/
def next (most : Nat) (L : List α) (t : α) : List α := if t ∈ L then L.erase t ++ [t] else lay most L t
def lru (most : Nat) (past : List α) : List α := past.foldl (next most) []

theorem lru_snoc (most : Nat) (past : List α) (t : α) : lru most (past ++ [t]) = next most (lru most past) t := by simp [lru]

/-- The law's 'near', from the end of the past on. -/
def nearGo (t : α) (most : Nat) : List α → List α → Bool
  | [], _ => false
  | x :: r, seen =>
    if x = t then true
    else
      let seen' := if x ∈ seen then seen else seen ++ [x]
      if seen'.length = most then false else nearGo t most r seen'

/-- Of a list the elements that stand in it, each once, in the order in which they come first. -/
def dist : List α → List α
  | [] => []
  | x :: r => x :: (dist r).filter (fun y => y ≠ x)

theorem dist_nodup (l : List α) : (dist l).Nodup := by
  induction l with
  | nil => simp [dist]
  | cons x r ih => simp only [dist, List.nodup_cons]; exact ⟨by simp, ih.filter _⟩

theorem nearGo_eq (t : α) (most : Nat) : ∀ (r seen : List α), t ∉ seen → seen.length < most →
    nearGo t most r seen = decide (t ∈ ((dist r).filter (fun y => y ∉ seen)).take (most - seen.length)) := by
  intro r
  induction r with
  | nil => intro seen _ _; simp [nearGo, dist]
  | cons x r ih =>
    intro seen ht hl
    by_cases hx : x = t
    · subst hx
      have : ((dist (x :: r)).filter (fun y => y ∉ seen)).take (most - seen.length) = x :: (((dist r).filter (fun y => y ≠ x)).filter (fun y => y ∉ seen)).take (most - seen.length - 1) := by
        rw [dist, List.filter_cons_of_pos (by simpa using ht)]
        obtain ⟨k, hk⟩ : ∃ k, most - seen.length = k + 1 := ⟨most - seen.length - 1, by omega⟩
        rw [hk]; simp
      rw [this]; simp [nearGo]
    · by_cases hs : x ∈ seen
      · have h1 : nearGo t most (x :: r) seen = nearGo t most r seen := by
          simp only [nearGo, if_neg hx, if_pos hs]
          rw [if_neg (by omega)]
        rw [h1, ih seen ht hl]
        have : (dist (x :: r)).filter (fun y => y ∉ seen) = (dist r).filter (fun y => y ∉ seen) := by
          rw [dist, List.filter_cons_of_neg (by simpa using hs), List.filter_filter]
          apply List.filter_congr
          intro y _
          by_cases hy : y ∈ seen
          · simp [hy]
          · have : y ≠ x := fun e => hy (e ▸ hs)
            simp [hy, this]
        rw [this]
      · have hlen : (seen ++ [x]).length = seen.length + 1 := by simp
        have hd : (dist (x :: r)).filter (fun y => y ∉ seen) = x :: (dist r).filter (fun y => y ∉ seen ++ [x]) := by
          rw [dist, List.filter_cons_of_pos (by simpa using hs), List.filter_filter]
          congr 1
          apply List.filter_congr
          intro y _
          by_cases hy : y ∈ seen <;> by_cases hyx : y = x <;> simp [hy, hyx]
        rw [hd]
        obtain ⟨k, hk⟩ : ∃ k, most - seen.length = k + 1 := ⟨most - seen.length - 1, by omega⟩
        rw [hk, List.take_succ_cons]
        by_cases hm : seen.length + 1 = most
        · have hk0 : k = 0 := by omega
          subst hk0
          simp only [nearGo, if_neg hx, if_neg hs, hlen, if_pos hm]
          simp [Ne.symm hx]
        · have h1 : nearGo t most (x :: r) seen = nearGo t most r (seen ++ [x]) := by
            simp only [nearGo, if_neg hx, if_neg hs, hlen, if_neg hm]
          rw [h1, ih (seen ++ [x]) (by simp [ht, Ne.symm hx]) (by omega), hlen]
          have hkk : most - (seen.length + 1) = k := by omega
          rw [hkk]
          simp [Ne.symm hx]

theorem take_erase (x : α) : ∀ (n : Nat) (D : List α), x ∈ D.take n → (D.take n).erase x = (D.erase x).take (n - 1) := by
  intro n D
  induction D generalizing n with
  | nil => simp
  | cons y D ih =>
    intro h
    obtain ⟨k, rfl⟩ : ∃ k, n = k + 1 := ⟨n - 1, by cases n <;> simp at h ⊢⟩
    rw [List.take_succ_cons] at h ⊢
    by_cases hy : y = x
    · subst hy; simp
    · rw [List.erase_cons_tail (by simpa using hy), List.erase_cons_tail (by simpa using hy)]
      have hx : x ∈ D.take k := by
        rcases List.mem_cons.1 h with e | e
        · exact absurd e.symm hy
        · exact e
      obtain ⟨j, rfl⟩ : ∃ j, k = j + 1 := ⟨k - 1, by cases k <;> simp at hx ⊢⟩
      rw [ih _ hx]; simp

theorem take_erase_not (x : α) : ∀ (n : Nat) (D : List α), x ∉ D.take n → (D.erase x).take (n - 1) = D.take (n - 1) := by
  intro n D
  induction D generalizing n with
  | nil => simp
  | cons y D ih =>
    intro h
    rcases Nat.eq_zero_or_pos n with rfl | hn
    · simp
    obtain ⟨k, rfl⟩ : ∃ k, n = k + 1 := ⟨n - 1, by omega⟩
    rw [List.take_succ_cons] at h
    have hy : y ≠ x := fun e => h (by simp [e])
    have hx : x ∉ D.take k := fun e => h (List.mem_cons_of_mem _ e)
    rw [List.erase_cons_tail (by simpa using hy)]
    rcases Nat.eq_zero_or_pos k with rfl | hk
    · simp
    obtain ⟨j, rfl⟩ : ∃ j, k = j + 1 := ⟨k - 1, by omega⟩
    have := ih (j + 1) hx
    simp at this ⊢
    exact this

theorem erase_reverse_nodup (x : α) (l : List α) (h : l.Nodup) : l.reverse.erase x = (l.erase x).reverse := by
  have h' : l.reverse.Nodup := List.pairwise_reverse.2 (h.imp Ne.symm)
  rw [h'.erase_eq_filter, h.erase_eq_filter, List.filter_reverse]

theorem lru_rev (most : Nat) (hm : 1 ≤ most) (past : List α) : lru most past = ((dist past.reverse).take most).reverse := by
  obtain ⟨r, rfl⟩ : ∃ r, past = r.reverse := ⟨past.reverse, by simp⟩
  rw [List.reverse_reverse]
  induction r with
  | nil => simp [lru, dist]
  | cons x r ih =>
    rw [List.reverse_cons, lru_snoc, ih, next]
    have hnd := dist_nodup r
    have hT : ((dist r).take most).Nodup := hnd.sublist (List.take_sublist _ _)
    have hf : (dist r).filter (fun y => y ≠ x) = (dist r).erase x := by
      rw [hnd.erase_eq_filter]; apply List.filter_congr; intro y _; by_cases h : y = x <;> simp [h]
    obtain ⟨k, rfl⟩ : ∃ k, most = k + 1 := ⟨most - 1, by omega⟩
    rw [dist, hf, List.take_succ_cons, List.reverse_cons]
    by_cases hx : x ∈ (dist r).take (k + 1)
    · rw [if_pos (by simpa using hx), erase_reverse_nodup x _ hT, take_erase x _ _ hx]; simp
    · rw [if_neg (by simpa using hx), lay]
      congr 1
      have h2 := take_erase_not x (k + 1) (dist r) hx
      simp only [Nat.add_sub_cancel] at h2
      rw [h2]
      by_cases hl : k + 1 ≤ ((dist r).take (k + 1)).reverse.length
      · rw [if_pos hl]
        have hl' : k + 1 ≤ (dist r).length := by rw [List.length_reverse, List.length_take] at hl; omega
        rw [List.tail_reverse, List.dropLast_eq_take, List.take_take, List.length_take]
        congr 2; omega
      · rw [if_neg hl]
        have hl' : (dist r).length ≤ k := by rw [List.length_reverse, List.length_take] at hl; omega
        rw [List.take_of_length_le (by omega), List.take_of_length_le hl']

theorem near_lru (t : α) (most : Nat) (hm : 1 ≤ most) (past : List α) : nearGo t most past.reverse [] = decide (t ∈ lru most past) := by
  rw [nearGo_eq t most _ [] (by simp) (by simp; omega), lru_rev most hm]
  have : (dist past.reverse).filter (fun y => decide (y ∉ ([] : List α))) = dist past.reverse := List.filter_eq_self.2 (by simp)
  rw [this]
  simp

theorem lru_nodup (most : Nat) (hm : 1 ≤ most) (past : List α) : (lru most past).Nodup := by
  rw [lru_rev most hm]
  exact List.pairwise_reverse.2 (((dist_nodup _).sublist (List.take_sublist _ _)).imp Ne.symm)

theorem lru_length (most : Nat) (hm : 1 ≤ most) (past : List α) : (lru most past).length ≤ most := by
  rw [lru_rev most hm]; simp; omega

end Go.Proofs.CM
