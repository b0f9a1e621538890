/- CacheNear: what holds at each place of a round; one contract a call. -/
import Derived.Test.YtkbbaokllgmhiaaJ1
import Derived.Test.YtkbbaokllgmhiaaG1
import Derived.Test.YtkbbaokllgmhiaaPure
namespace Go.Proofs.Ytkbbaokllgmhiaa
open Go.RowKit Go.Maps Go.MuLone Go.Sort Go.Shelf

theorem dist_mem {x : ByteArray} : ∀ {l : List ByteArray}, x ∈ CM.dist l → x ∈ l
  | [], h => h
  | y :: r, h => by
    rw [CM.dist, List.mem_cons] at h
    rcases h with rfl | h
    · exact List.mem_cons_self
    · exact List.mem_cons_of_mem _ (dist_mem (List.mem_filter.1 h).1)
theorem lru_mem {Q : Nat} (hQ : 1 ≤ Q) {x : ByteArray} {past : List ByteArray} (h : x ∈ CM.lru Q past) : x ∈ past := by
  rw [CM.lru_rev Q hQ, List.mem_reverse] at h
  have := dist_mem (List.mem_of_mem_take h)
  rwa [List.mem_reverse] at this
theorem next_filter {α : Type} [DecidableEq α] (most : Nat) (L : List α) (t : α) (hn : L.Nodup) : CM.next most L t = if t ∈ L then L.filter (fun y => !decide (y = t)) ++ [t] else CM.lay most L t := by
  unfold CM.next
  by_cases h : t ∈ L
  · rw [if_pos h, if_pos h, hn.erase_eq_filter]
    congr 1
  · rw [if_neg h, if_neg h]
theorem nextL_next {Q : Nat} {L : List ByteArray} {t : ByteArray} (hn : L.Nodup) (ht : t.size ≤ 2048) : nextL (Q : Int) L t = CM.next Q L t := by
  rw [next_filter Q L t hn]
  unfold nextL CM.lay
  by_cases h : t ∈ L
  · rw [if_pos h, if_pos h]
  · rw [if_neg h, if_neg h, if_pos ht]
    by_cases hl : Q ≤ L.length
    · rw [if_pos hl, if_pos (by omega)]
    · rw [if_neg hl, if_neg (by omega)]
theorem lru_one {Q : Nat} (hQ : 1 ≤ Q) {past : List ByteArray} {t : ByteArray} (ht : t.size ≤ 2048) : nextL (Q : Int) (CM.lru Q past) t = CM.lru Q (past ++ [t]) := by
  rw [nextL_next (CM.lru_nodup Q hQ past) ht, CM.lru_snoc]
theorem nextL_last {Q : Int} {L : List ByteArray} {t : ByteArray} (ht : t.size ≤ 2048) : ∃ ys, nextL Q L t = ys ++ [t] := by
  unfold nextL
  by_cases h : t ∈ L
  · rw [if_pos h]; exact ⟨_, rfl⟩
  · rw [if_neg h, if_pos ht]; exact ⟨_, rfl⟩
theorem nextL_long {Q : Int} {L : List ByteArray} {t : ByteArray} (hn : t ∉ L) (ht : ¬ t.size ≤ 2048) : nextL Q L t = L := by
  unfold nextL
  rw [if_neg hn, if_neg ht]

/-- 'append(l, u)', and where the new slice lies. -/
theorem wpList_app_at {ops : Array Oper} {rest : List Oper} {o : Oper} {a : Act} {w : World} {Q : Exit → Act → World → Prop} (hgd : o.guard = none) (s x : Operand)
    (ho : o.op = .call { callee := .builtin .append, args := #[s, x], argTypes := #[30, 30] })
    (v : Value) (base : Nat) (ls : List ByteArray) (hs : a.eval s = v) (hown : Lst w base v ls) (hbase : base ≤ w.heap.size)
    (g0 c0 : Nat) (hx : a.eval x = .slice (some ⟨g0, 0, none⟩) 1 c0) (u : ByteArray) (hu : w.cell? ⟨g0, 0, none⟩ = some (.string u)) (hn : ls.length ≤ 4294967296)
    (h : ∀ g cap w', Lst w' base (.slice (some ⟨g, 0, none⟩) (ls.length + 1) cap) (ls ++ [u]) → w.grownBy w' v.ownBlock → (v.ownBlock = some g ∨ g = w.heap.size) → g < w'.heap.size →
      wpList Try.prog ops Q rest (a.put o.dst (.slice (some ⟨g, 0, none⟩) (ls.length + 1) cap)) w') : wpList Try.prog ops Q (o :: rest) a w := by
  obtain ⟨i0, hi0, hz0, hz1, hz2⟩ := info_parts info9
  refine wpList_plain hgd fun K hK => wp_append_lies w s x 30 ho base 9 i0 _ 1 16 Try.underlying30 hi0 hz0 hz1 hz2 rfl (by omega) v ls.length _ hs hown ⟨g0, 0, none⟩ 1 c0 [.string u] hx rfl ?_ ?_ (by omega) (by unfold maxLen; omega) (by omega) hbase w.heap.size rfl (fun g cap w' h1 h2 h3 h4 => hK _ _ (h g cap w' ?_ h2 h3 h4))
  · intro j y hy
    match j, hy with
    | 0, hy => simp at hy; subst hy; simpa [Addr.add] using hu
    | j + 1, hy => simp at hy
  · intro y hy; simp at hy; subst hy; rfl
  · unfold Lst; simpa using h1

/-- What holds in a round of CacheNear: the cache and its source; the argument's row; the tokens; the law's own past (slice pv: the texts past). -/
structure NeJ (w wx : World) (c S P Q : Nat) (row : Array Value) (lv : Value) (l : List ByteArray) (K : Nat → Prop) (base : Nat) (pv : Value) (past : List ByteArray) (st : CSt) (ver : Int) (n : Nat) (k : Int) : Prop where
  run : RunV w wx c S Q ver st n k (fun b => b = P ∨ K b ∨ pv.ownBlock = some b)
  row : hasRow wx P row
  l : Strs wx K lv l
  p : Lst wx base pv past
  nk : (n : Int) ≤ k
  psz : ∀ x ∈ past, x.size ≤ 2048
  plen : (past.length : Int) ≤ k
  kb : ∀ b, b = P ∨ K b → b < base
  wb : w.heap.size ≤ base ∧ base ≤ wx.heap.size

section
variable {w wx w' : World} {c S P Q base n : Nat} {row : Array Value} {lv pv : Value} {l past : List ByteArray} {K : Nat → Prop} {st st' : CSt} {ver ver' k k' : Int} {n' : Nat}

theorem NeJ.next (h : NeJ w wx c S P Q row lv l K base pv past st ver n k) (hr : RunV w w' c S Q ver' st' n' k' (fun b => b = P ∨ K b ∨ pv.ownBlock = some b)) (hk : Kp (fun b => w.heap.size ≤ b ∧ ¬ (b = P ∨ K b ∨ pv.ownBlock = some b)) wx w') (hn : (n' : Int) ≤ k') (hkk : k ≤ k') :
    NeJ w w' c S P Q row lv l K base pv past st' ver' n' k' :=
  ⟨hr, h.row.kp hk (fun e => e.2 (.inl rfl)), h.l.keep hk (fun _ hb e => e.2 (.inr (.inl hb))), ownsRow_kp h.p hk (fun _ hb e => e.2 (.inr (.inr hb))), hn, h.psz, Int.le_trans h.plen hkk, h.kb, ⟨h.wb.1, Nat.le_trans h.wb.2 hk.size⟩⟩

theorem NeJ.below (h : NeJ w wx c S P Q row lv l K base pv past st ver n k) (hb : Below wx.heap.size wx w') : NeJ w w' c S P Q row lv l K base pv past st ver n k := by
  have hl := h.run.lt
  have hz := h.run.kp.size
  exact h.next (h.run.below hb) ((Kp.of_below (F := fun b => w.heap.size ≤ b ∧ ¬ (b = P ∨ K b ∨ pv.ownBlock = some b)) hb)) h.nk (Int.le_refl _)
theorem NeJ.alloc (h : NeJ w wx c S P Q row lv l K base pv past st ver n k) (o : Obj) : NeJ w (wx.alloc o) c S P Q row lv l K base pv past st ver n k := h.below ((Below.refl _ wx).alloc (Nat.le_refl _) o)
theorem NeJ.drewN (h : NeJ w wx c S P Q row lv l K base pv past st ver n k) (q : Nat) : NeJ w (wx.drewN q) c S P Q row lv l K base pv past st ver n k := h.below ⟨rfl, rfl, rfl, Nat.le_refl _, fun _ _ => rfl⟩
theorem NeJ.more (h : NeJ w wx c S P Q row lv l K base pv past st ver n k) (hkk : k ≤ k') : NeJ w wx c S P Q row lv l K base pv past st ver n k' := by
  have hf := h.run.fits
  exact ⟨⟨h.run.ex, h.run.hh, ⟨by have := hf.turn; omega, hf.h0, by have := hf.hits; omega, hf.m0, by have := hf.misses; omega⟩, h.run.kp, h.run.lt⟩, h.row, h.l, h.p, by have := h.nk; omega, h.psz, by have := h.plen; omega, h.kb, h.wb⟩
/-- The past is forgotten. -/
theorem NeJ.nil (h : NeJ w wx c S P Q row lv l K base pv past st ver n k) : NeJ w wx c S P Q row lv l K base (.slice none 0 0) [] st ver n k := by
  have hn := h.nk
  exact ⟨h.run.keep (Kp.refl (fun _ => False) wx) (fun _ e => e.elim) (fun b hb => by
    rcases hb with rfl | hb | hb
    · exact ⟨.inl (.inl rfl), (h.run.lt _ (.inl rfl)).2⟩
    · exact ⟨.inl (.inr (.inl hb)), (h.run.lt _ (.inr (.inl hb))).2⟩
    · cases hb), h.row, h.l, Lst.nil _ _, hn, (fun _ hx => by cases hx), (by simp; omega), h.kb, h.wb⟩
/-- One token more in the past. -/
theorem NeJ.app (h : NeJ w wx c S P Q row lv l K base pv past st ver n k) {g cap : Nat} {t : ByteArray} (hL : Lst w' base (.slice (some ⟨g, 0, none⟩) (past.length + 1) cap) (past ++ [t])) (hg : wx.grownBy w' pv.ownBlock) (hat : pv.ownBlock = some g ∨ g = wx.heap.size) (hlt : g < w'.heap.size) (ht : t.size ≤ 2048) (hlen : (past.length : Int) + 1 ≤ k) :
    NeJ w w' c S P Q row lv l K base (.slice (some ⟨g, 0, none⟩) (past.length + 1) cap) (past ++ [t]) st ver n k := by
  have hk : Kp (fun b => pv.ownBlock = some b) wx w' := (Kp.refl _ wx).grown hg (fun b hb => .inl hb)
  have hpb : ∀ b, pv.ownBlock = some b → base ≤ b := fun b hb => (World.ownsRow.lt h.p b hb).1
  have hP : base > P := h.kb P (.inl rfl)
  refine ⟨h.run.keep hk (fun b hb => .inl (.inr (.inr hb))) (fun b hb => ?_), h.row.kp hk (fun e => by have := hpb _ e; omega), h.l.keep hk (fun b hb e => by have := hpb _ e; have := h.kb b (.inr hb); omega), hL, h.nk, fun x hx => ?_, (by simp; omega), h.kb, ⟨h.wb.1, Nat.le_trans h.wb.2 hk.size⟩⟩
  · rcases hb with rfl | hb | hb
    · exact ⟨.inl (.inl rfl), Nat.lt_of_lt_of_le (h.run.lt _ (.inl rfl)).2 hk.size⟩
    · exact ⟨.inl (.inr (.inl hb)), Nat.lt_of_lt_of_le (h.run.lt _ (.inr (.inl hb))).2 hk.size⟩
    · have : g = b := by simpa [Value.ownBlock] using hb
      subst this
      exact ⟨hat.elim (fun e => .inl (.inr (.inr e))) (fun e => .inr (by omega)), hlt⟩
  · rcases List.mem_append.1 hx with hx | hx
    · exact h.psz x hx
    · rw [List.mem_singleton.1 hx]; exact ht

theorem NeJ.step (h : NeJ w wx c S P Q row lv l K base pv past st ver n k) (cs : Array Value) (d wh N : Int)
    (hne : 0 < l.length) (hm : l.length ≤ 1000000) (c0 : cs[0]? = some (.int .i64 d)) (c1 : cs[1]? = some (.int .i64 wh)) (c2 : cs[2]? = some (.int .u64 N)) (hN0 : 0 ≤ N) (hN1 : N < 18446744073709551616) :
    Calls Try.prog 15 #[.pointer (some ⟨c, 0, none⟩), .pointer (some ⟨S, 0, none⟩), .agg cs, lv] wx fun e w' => e = .returned (.tuple #[.string (stepTok d wh l), .bool (asks d)]) ∧ NeJ w w' c S P Q row lv l K base pv past (stepSt d st) (stepVer d N ver) n k ∧ Kp (fun b => w.heap.size ≤ b) wx w' :=
  (h.run.step cs d wh N h.l hne hm c0 c1 c2 hN0 hN1).mono fun _ _ ⟨he, hr, hk⟩ => ⟨he, h.next hr hk h.nk (Int.le_refl _), hk.mono fun _ _ e => e.1⟩

theorem NeJ.asked (h : NeJ w wx c S P Q row lv l K base pv past st ver n k) :
    Calls Try.prog 17 #[.pointer (some ⟨c, 0, none⟩)] wx fun e w' => e = .returned (.tuple #[.int .i64 st.hits, .int .i64 st.misses]) ∧ NeJ w w' c S P Q row lv l K base pv past st ver n k :=
  h.run.asked.mono fun _ _ ⟨he, hr, hk⟩ => ⟨he, h.next hr hk h.nk (Int.le_refl _)⟩

theorem NeJ.right_yes (h : NeJ w wx c S P Q row lv l K base pv past st ver n k) (hk : k ≤ 100000) (t : ByteArray) (hs : t.size ≤ 3000) (ht : t ∈ ktoks ver st) :
    Calls Try.prog 11 #[.pointer (some ⟨c, 0, none⟩), .pointer (some ⟨S, 0, none⟩), .string t] wx fun e w' => e = .returned (.bool true) ∧ ∃ st', NeJ w w' c S P Q row lv l K base pv past st' ver n (k + 1) ∧ st'.hits = st.hits + 1 ∧ st'.misses = st.misses ∧ st'.ver = ver ∧ toks st' = nextL Q (ktoks ver st) t := by
  have hn := h.nk
  have h1 := hits_hit (most := Q) ht
  refine (h.run.right (by omega) t (by unfold maxLen; omega) (by omega)).mono fun _ _ ⟨he, hr, hkp⟩ => ⟨he, _, h.next (n' := n) ?_ hkp (by omega) (by omega), h1.1, h1.2.1, fnd_ver _ _ _ _, toks_next⟩
  have := hr
  rw [h1.2.2] at this
  exact this
theorem NeJ.right_no (h : NeJ w wx c S P Q row lv l K base pv past st ver n k) (hk : k ≤ 100000) (t : ByteArray) (hs : t.size ≤ 3000) (ht : t ∉ ktoks ver st) :
    Calls Try.prog 11 #[.pointer (some ⟨c, 0, none⟩), .pointer (some ⟨S, 0, none⟩), .string t] wx fun e w' => e = .returned (.bool true) ∧ ∃ st', NeJ w w' c S P Q row lv l K base pv past st' ver (n + 1) (k + 1) ∧ st'.hits = st.hits ∧ st'.misses = st.misses + 1 ∧ st'.ver = ver ∧ toks st' = nextL Q (ktoks ver st) t := by
  have hn := h.nk
  have h1 := hits_miss (most := Q) ht
  refine (h.run.right (by omega) t (by unfold maxLen; omega) (by omega)).mono fun _ _ ⟨he, hr, hkp⟩ => ⟨he, _, h.next (n' := n + 1) ?_ hkp (by simp; omega) (by omega), h1.1, h1.2.1, fnd_ver _ _ _ _, toks_next⟩
  have := hr
  rw [h1.2.2] at this
  exact this

theorem NeJ.near (h : NeJ w wx c S P Q row lv l K base pv past st ver n k) (hk : k ≤ 100000) (t : ByteArray) (hp : ktoks ver st = CM.lru Q past) :
    Calls Try.prog 16 #[pv, .string t, .int .i64 (Q : Int)] wx fun e w' => e = .returned (.bool (decide (t ∈ ktoks ver st))) ∧ NeJ w w' c S P Q row lv l K base pv past st ver n k := by
  have hl := h.run.len
  have := h.plen
  refine (near_any past t Q h.p.strs (by omega) (by omega)).mono fun _ _ ⟨he, hb⟩ => ⟨?_, h.below hb⟩
  rw [he, CM.near_lru t Q (by omega), hp]

theorem NeJ.near_yes (h : NeJ w wx c S P Q row lv l K base pv past st ver n k) (hk : k ≤ 100000) (t : ByteArray) (hp : ktoks ver st = CM.lru Q past) (hin : t ∈ ktoks ver st) :
    Calls Try.prog 16 #[pv, .string t, .int .i64 (Q : Int)] wx fun e w' => e = .returned (.bool true) ∧ NeJ w w' c S P Q row lv l K base pv past st ver n k :=
  (h.near hk t hp).mono fun _ _ ⟨he, hj⟩ => ⟨by rw [he, decide_eq_true hin], hj⟩
theorem NeJ.near_no (h : NeJ w wx c S P Q row lv l K base pv past st ver n k) (hk : k ≤ 100000) (t : ByteArray) (hp : ktoks ver st = CM.lru Q past) (hin : t ∉ ktoks ver st) :
    Calls Try.prog 16 #[pv, .string t, .int .i64 (Q : Int)] wx fun e w' => e = .returned (.bool false) ∧ NeJ w w' c S P Q row lv l K base pv past st ver n k :=
  (h.near hk t hp).mono fun _ _ ⟨he, hj⟩ => ⟨by rw [he, decide_eq_false hin], hj⟩
theorem NeJ.cast {pv' : Value} (h : NeJ w wx c S P Q row lv l K base pv past st ver n k) (hp : pv = pv') (hk : k = k') : NeJ w wx c S P Q row lv l K base pv' past st ver n k' := hp ▸ hk ▸ h

/-- The tokens behind a question of a token that may be remembered. -/
theorem NeJ.tokens_short (h : NeJ w wx c S P Q row lv l K base pv past st ver n k) (ys : List ByteArray) (t : ByteArray) (ht : toks st = ys ++ [t]) :
    Calls Try.prog 10 #[.pointer (some ⟨c, 0, none⟩)] wx fun e w' => ∃ b off cap, e = .returned (.slice (some ⟨b, off, none⟩) (ys.length + 1) cap) ∧ b < w'.heap.size ∧ w'.cell? ⟨b, off + ys.length, none⟩ = some (.string t) ∧ NeJ w w' c S P Q row lv l K base pv past st ver n k := by
  refine h.run.tokens.mono fun e w' ⟨p, cap, he, hs, hr, hk⟩ => ?_
  have hl : (toks st).length = ys.length + 1 := by rw [ht]; simp
  obtain ⟨a, c', hv, hx⟩ := hs
  obtain ⟨b, off, ha, _, hb, hc⟩ := hx (fun e => by rw [e] at hl; simp at hl)
  cases hv
  subst ha
  refine ⟨b, off, cap, by rw [he, hl], hb, ?_, h.next hr hk h.nk (Int.le_refl _)⟩
  rw [hc ys.length (by omega)]
  have : (toks st)[ys.length]? = some t := by rw [ht]; simp
  rw [List.getElem?_eq_getElem (by omega)] at this
  rw [Option.some.inj this]
theorem NeJ.tokens_long (h : NeJ w wx c S P Q row lv l K base pv past st ver n k) (TL : Nat) (hTL : (toks st).length = TL) :
    Calls Try.prog 10 #[.pointer (some ⟨c, 0, none⟩)] wx fun e w' => ∃ p cap, e = .returned (.slice p TL cap) ∧ Strs w' (fun b => wx.heap.size ≤ b) (.slice p TL cap) (toks st) ∧ NeJ w w' c S P Q row lv l K base pv past st ver n k := by
  subst hTL
  exact h.run.tokens.mono fun _ _ ⟨p, cap, he, hs, hr, hk⟩ => ⟨p, cap, he, hs, h.next hr hk h.nk (Int.le_refl _)⟩
theorem NeJ.among0 {F : Nat → Prop} {v : Value} (h : NeJ w wx c S P Q row lv l K base pv past st ver n k) (hs : Strs wx F v (toks st)) (t : ByteArray) (ht : t ∉ toks st) :
    Calls Try.prog 12 #[v, .string t] wx fun e w' => e = .returned (.int .i64 0) ∧ NeJ w w' c S P Q row lv l K base pv past st ver n k := by
  have hl := h.run.len
  refine (among_any (toks st) t hs (by omega)).mono fun _ _ ⟨he, q, hq⟩ => ⟨?_, hq ▸ h.drewN q⟩
  rw [he, (filter_none _ _).2 ht]; rfl
end
end Go.Proofs.Ytkbbaokllgmhiaa
