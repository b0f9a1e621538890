/- A script as an argument, once more: each cell of a step is one value; a step stored whole. -/
import Derived.Test.YtkbbaokllgmhiaaH1
import Derived.Test.YtkbbaokllgmhiaaRow
namespace Go.Proofs.Ytkbbaokllgmhiaa
open Go.ChangeShapes Go.WideShapes Go.ChangeAt Go.RowKit Go.Joins Go.Deep

theorem cells50 : Try.prog.cellsOf 50 = 26 := by kernel_rfl
theorem cells48 : Try.prog.cellsOf 48 = 24 := by kernel_rfl
theorem cells46 : Try.prog.cellsOf 46 = 16 := by kernel_rfl
theorem cells5 : Try.prog.cellsOf 5 = 1 := by kernel_rfl
theorem cells30 : Try.prog.cellsOf 30 = 1 := by kernel_rfl
theorem cells4 : Try.prog.cellsOf 4 = 1 := by kernel_rfl
theorem cells2 : Try.prog.cellsOf 2 = 1 := by kernel_rfl

def Stp2 (w : World) (a : Option Addr) (m : Nat) : Prop :=
  0 < m → ∃ b off, a = some ⟨b, off, none⟩ ∧ b < w.heap.size ∧ ∀ i, i < m → ∃ (cs : List Value) (d wh N : Int), w.rangeAt b (off + i * 29) cs ∧ cs.length = 29 ∧ cs[0]? = some (.int .i64 d) ∧ cs[1]? = some (.int .i64 wh) ∧ cs[2]? = some (.int .u64 N) ∧ 0 ≤ N ∧ N < 18446744073709551616 ∧ (∀ v ∈ cs, v.oneCell' = true)

theorem mem_part {cs : List Value} {off m j : Nat} {v : Value} (h1 : off ≤ j) (h2 : j < off + m) (hv : cs[j]? = some v) : v ∈ (cs.drop off).take m := by
  refine List.mem_of_getElem? (i := j - off) ?_
  rw [List.getElem?_take, if_pos (by omega), List.getElem?_drop, show off + (j - off) = j by omega, hv]
theorem at_mem {cs : List Value} {v : Value} (hv : v ∈ cs) : ∃ j, j < cs.length ∧ cs[j]? = some v := by
  obtain ⟨j, h, e⟩ := List.getElem_of_mem hv
  exact ⟨j, h, by rw [List.getElem?_eq_getElem h, e]⟩

section
variable {H : Type} {enc : TypeId × Value → H} {w : World} {base : Nat} {spare : Nat → Bool} {held : Bool} {fuel : Nat} {t : TypeId} {cs : List Value} {x : DataW H × List MemPlace}
theorem ones_int {k : IntKind} (hu : Try.prog.underlying t = some (.int k)) (h : DataW.trod enc Try.prog w base spare held fuel t cs = some x) : ∀ v ∈ cs, v.oneCell' = true := by
  obtain ⟨z, rfl, _⟩ := DataW.trod_int hu h
  intro v hv; rw [List.mem_singleton.1 hv]; rfl
theorem ones_string (hu : Try.prog.underlying t = some .string) (h : DataW.trod enc Try.prog w base spare held fuel t cs = some x) : ∀ v ∈ cs, v.oneCell' = true := by
  obtain ⟨z, rfl, _⟩ := DataW.trod_string hu h
  intro v hv; rw [List.mem_singleton.1 hv]; rfl
theorem ones_bool (hu : Try.prog.underlying t = some .bool) (h : DataW.trod enc Try.prog w base spare held fuel t cs = some x) : ∀ v ∈ cs, v.oneCell' = true := by
  obtain ⟨z, rfl, _⟩ := DataW.trod_bool hu h
  intro v hv; rw [List.mem_singleton.1 hv]; rfl
theorem ones_slice {e : TypeId} (hu : Try.prog.underlying t = some (.slice e)) (h : DataW.trod enc Try.prog w base spare held fuel t cs = some x) : ∀ v ∈ cs, v.oneCell' = true := by
  rcases DataW.trod_slice hu h with ⟨rfl, _⟩ | ⟨a, len, cap, _, _, _, _, rfl, _⟩
  · intro v hv; rw [List.mem_singleton.1 hv]; rfl
  · intro v hv; rw [List.mem_singleton.1 hv]; rfl
theorem some_of {α : Type} {xs : List α} {i : Nat} {o : Option α} (h : o = xs[i]?) (hi : i < xs.length) : ∃ y, o = some y := ⟨xs[i], by rw [h, List.getElem?_eq_getElem hi]⟩

theorem ones46 (h : DataW.trod enc Try.prog w base spare held fuel 46 cs = some x) : ∀ v ∈ cs, v.oneCell' = true := by
  obtain ⟨xs, m, _, _, hl, hlen, hf⟩ := DataW.trod_array Try.underlying46 h
  rw [cells46] at hl
  intro v hv
  obtain ⟨j, hj, hjv⟩ := at_mem hv
  have h1 := hf j (by omega)
  rw [cells5] at h1
  obtain ⟨y, hy⟩ := some_of h1 (by omega)
  exact ones_int Try.underlying5 hy v (mem_part (by omega) (by omega) hjv)
set_option maxRecDepth 20000 in
theorem ones48 (h : DataW.trod enc Try.prog w base spare held fuel 48 cs = some x) : ∀ v ∈ cs, v.oneCell' = true := by
  obtain ⟨xs, m, _, _, hl, hlen, hf⟩ := DataW.trod_struct Try.underlying48 h
  rw [cells48] at hl
  have h0 : DataW.trod enc Try.prog w base spare held m 9 ((cs.drop 0).take (Try.prog.cellsOf 9)) = xs[0]? := hf 0 _ rfl
  have h1 : DataW.trod enc Try.prog w base spare held m 9 ((cs.drop 1).take (Try.prog.cellsOf 9)) = xs[1]? := hf 1 _ rfl
  have h2 : DataW.trod enc Try.prog w base spare held m 9 ((cs.drop 2).take (Try.prog.cellsOf 9)) = xs[2]? := hf 2 _ rfl
  have h3 : DataW.trod enc Try.prog w base spare held m 9 ((cs.drop 3).take (Try.prog.cellsOf 9)) = xs[3]? := hf 3 _ rfl
  have h4 : DataW.trod enc Try.prog w base spare held m 30 ((cs.drop 4).take (Try.prog.cellsOf 30)) = xs[4]? := hf 4 _ rfl
  have h5 : DataW.trod enc Try.prog w base spare held m 29 ((cs.drop 5).take (Try.prog.cellsOf 29)) = xs[5]? := hf 5 _ rfl
  have h6 : DataW.trod enc Try.prog w base spare held m 2 ((cs.drop 6).take (Try.prog.cellsOf 2)) = xs[6]? := hf 6 _ rfl
  have h7 : DataW.trod enc Try.prog w base spare held m 2 ((cs.drop 7).take (Try.prog.cellsOf 2)) = xs[7]? := hf 7 _ rfl
  have h8 : DataW.trod enc Try.prog w base spare held m 46 ((cs.drop 8).take (Try.prog.cellsOf 46)) = xs[8]? := hf 8 _ rfl
  have hxl : xs.length = 9 := hlen
  clear hf hlen h
  rw [cells9] at h0 h1 h2 h3; rw [cells30] at h4; rw [cells29] at h5; rw [cells2] at h6 h7; rw [cells46] at h8
  intro v hv
  obtain ⟨j, hj, hjv⟩ := at_mem hv
  rcases (by omega : j = 0 ∨ j = 1 ∨ j = 2 ∨ j = 3 ∨ j = 4 ∨ j = 5 ∨ j = 6 ∨ j = 7 ∨ 8 ≤ j) with rfl | rfl | rfl | rfl | rfl | rfl | rfl | rfl | h9
  · obtain ⟨y, hy⟩ := some_of h0 (by omega); exact ones_string Try.underlying9 hy v (mem_part (by omega) (by omega) hjv)
  · obtain ⟨y, hy⟩ := some_of h1 (by omega); exact ones_string Try.underlying9 hy v (mem_part (by omega) (by omega) hjv)
  · obtain ⟨y, hy⟩ := some_of h2 (by omega); exact ones_string Try.underlying9 hy v (mem_part (by omega) (by omega) hjv)
  · obtain ⟨y, hy⟩ := some_of h3 (by omega); exact ones_string Try.underlying9 hy v (mem_part (by omega) (by omega) hjv)
  · obtain ⟨y, hy⟩ := some_of h4 (by omega); exact ones_slice Try.underlying30 hy v (mem_part (by omega) (by omega) hjv)
  · obtain ⟨y, hy⟩ := some_of h5 (by omega); exact ones_int Try.underlying29 hy v (mem_part (by omega) (by omega) hjv)
  · obtain ⟨y, hy⟩ := some_of h6 (by omega); exact ones_int Try.underlying2 hy v (mem_part (by omega) (by omega) hjv)
  · obtain ⟨y, hy⟩ := some_of h7 (by omega); exact ones_int Try.underlying2 hy v (mem_part (by omega) (by omega) hjv)
  · obtain ⟨y, hy⟩ := some_of h8 (by omega); exact ones46 hy v (mem_part (by omega) (by omega) hjv)
set_option maxRecDepth 20000 in
theorem ones50 (h : DataW.trod enc Try.prog w base spare held fuel 50 cs = some x) : ∀ v ∈ cs, v.oneCell' = true := by
  obtain ⟨xs, m, _, _, hl, hlen, hf⟩ := DataW.trod_struct Try.underlying50 h
  rw [cells50] at hl
  have h0 : DataW.trod enc Try.prog w base spare held m 9 ((cs.drop 0).take (Try.prog.cellsOf 9)) = xs[0]? := hf 0 _ rfl
  have h1 : DataW.trod enc Try.prog w base spare held m 48 ((cs.drop 1).take (Try.prog.cellsOf 48)) = xs[1]? := hf 1 _ rfl
  have h2 : DataW.trod enc Try.prog w base spare held m 4 ((cs.drop 25).take (Try.prog.cellsOf 4)) = xs[2]? := hf 2 _ rfl
  have hxl : xs.length = 3 := hlen
  clear hf hlen h
  rw [cells9] at h0; rw [cells48] at h1; rw [cells4] at h2
  intro v hv
  obtain ⟨j, hj, hjv⟩ := at_mem hv
  rcases (by omega : j = 0 ∨ (1 ≤ j ∧ j < 25) ∨ j = 25) with rfl | h9 | rfl
  · obtain ⟨y, hy⟩ := some_of h0 (by omega); exact ones_string Try.underlying9 hy v (mem_part (by omega) (by omega) hjv)
  · obtain ⟨y, hy⟩ := some_of h1 (by omega); exact ones48 hy v (mem_part (by omega) (by omega) hjv)
  · obtain ⟨y, hy⟩ := some_of h2 (by omega); exact ones_bool Try.underlying4 hy v (mem_part (by omega) (by omega) hjv)
set_option maxRecDepth 20000 in
theorem ones52 (h : DataW.trod enc Try.prog w base spare held fuel 52 cs = some x) : ∀ v ∈ cs, v.oneCell' = true := by
  obtain ⟨xs, m, _, _, hl, hlen, hf⟩ := DataW.trod_struct Try.underlying52 h
  rw [cells52] at hl
  have h0 : DataW.trod enc Try.prog w base spare held m 3 ((cs.drop 0).take (Try.prog.cellsOf 3)) = xs[0]? := hf 0 _ rfl
  have h1 : DataW.trod enc Try.prog w base spare held m 3 ((cs.drop 1).take (Try.prog.cellsOf 3)) = xs[1]? := hf 1 _ rfl
  have h2 : DataW.trod enc Try.prog w base spare held m 29 ((cs.drop 2).take (Try.prog.cellsOf 29)) = xs[2]? := hf 2 _ rfl
  have h3 : DataW.trod enc Try.prog w base spare held m 50 ((cs.drop 3).take (Try.prog.cellsOf 50)) = xs[3]? := hf 3 _ rfl
  have hxl : xs.length = 4 := hlen
  clear hf hlen h
  rw [cells3] at h0 h1; rw [cells29] at h2; rw [cells50] at h3
  intro v hv
  obtain ⟨j, hj, hjv⟩ := at_mem hv
  rcases (by omega : j = 0 ∨ j = 1 ∨ j = 2 ∨ 3 ≤ j) with rfl | rfl | rfl | h9
  · obtain ⟨y, hy⟩ := some_of h0 (by omega); exact ones_int Try.underlying3 hy v (mem_part (by omega) (by omega) hjv)
  · obtain ⟨y, hy⟩ := some_of h1 (by omega); exact ones_int Try.underlying3 hy v (mem_part (by omega) (by omega) hjv)
  · obtain ⟨y, hy⟩ := some_of h2 (by omega); exact ones_int Try.underlying29 hy v (mem_part (by omega) (by omega) hjv)
  · obtain ⟨y, hy⟩ := some_of h3 (by omega); exact ones50 hy v (mem_part (by omega) (by omega) hjv)
end

section
variable {H : Type} {enc : TypeId × Value → H} {w : World} {base : Nat} {spare : Nat → Bool} {held : Bool}

theorem open_steps2 {fuel : Nat} {cs : List Value} {x : DataW H × List MemPlace} (h : DataW.trod enc Try.prog w base spare held fuel 39 cs = some x) :
    ∃ a m c, cs = [.slice a m c] ∧ Stp2 w a m ∧ m ≤ maxLen := by
  rcases open_slice Try.underlying39 h with ⟨rfl, _⟩ | ⟨a, len, cap, m, n, D, Pl, rfl, hb, hl, hm, hmm, _, hi⟩
  · exact ⟨none, 0, 0, rfl, fun h => absurd h (by omega), by unfold maxLen; omega⟩
  · refine ⟨some a, len, cap, rfl, fun hp => ?_, by omega⟩
    have hlm : len ≤ m := by rw [hmm]; split <;> omega
    have each : ∀ i, i < len → ∃ (cs : List Value) (d wh N : Int), (∀ j v, cs[j]? = some v → w.cell? (a.add (i * 29 + j)) = some v) ∧ cs.length = 29 ∧ cs[0]? = some (.int .i64 d) ∧ cs[1]? = some (.int .i64 wh) ∧ cs[2]? = some (.int .u64 N) ∧ 0 ≤ N ∧ N < 18446744073709551616 ∧ (∀ v ∈ cs, v.oneCell' = true) := by
      intro i hil
      obtain ⟨cs', hc, ht⟩ := hi i (by omega)
      rw [cells52] at hc
      obtain ⟨_, hlen, hat⟩ := World.cells?_some hc
      have hone := ones52 ht
      obtain ⟨ys, n', _, _, _, hyl, hf⟩ := DataW.trod_struct Try.underlying52 ht
      have h0 : DataW.trod enc Try.prog w base spare held n' 3 ((cs'.drop 0).take (Try.prog.cellsOf 3)) = ys[0]? := hf 0 _ rfl
      have h1 : DataW.trod enc Try.prog w base spare held n' 3 ((cs'.drop 1).take (Try.prog.cellsOf 3)) = ys[1]? := hf 1 _ rfl
      have h2 : DataW.trod enc Try.prog w base spare held n' 29 ((cs'.drop 2).take (Try.prog.cellsOf 29)) = ys[2]? := hf 2 _ rfl
      rw [cells3] at h0 h1
      rw [cells29] at h2
      obtain ⟨c0, c1, c2, r, rfl⟩ := three_of cs' (by omega)
      · simp only [List.drop_zero, List.drop_succ_cons, List.take_succ_cons, List.take_zero] at h0 h1 h2
        have g : ∀ {t : TypeId} {c : Value} {k : IntKind} {o : Option (DataW H × List MemPlace)} {j : Nat}, ys[j]? = o → j < ys.length → DataW.trod enc Try.prog w base spare held n' t [c] = o → Try.prog.underlying t = some (.int k) → ∃ z, c = .int k z ∧ (Lit.int k z).wf = true := by
          intro t c k o j ho hj htr hu
          rw [← ho, List.getElem?_eq_getElem hj] at htr
          obtain ⟨z, hz, _, hwf⟩ := DataW.trod_int hu htr
          exact ⟨z, by simpa using hz, hwf⟩
        have hyl : 3 ≤ ys.length := by
          simp at hyl
          omega
        obtain ⟨d, rfl, _⟩ := g rfl (by omega) h0 Try.underlying3
        obtain ⟨wh, rfl, _⟩ := g rfl (by omega) h1 Try.underlying3
        obtain ⟨N, rfl, hN⟩ := g rfl (by omega) h2 Try.underlying29
        refine ⟨_, d, wh, N, fun j v hv => ?_, hlen, rfl, rfl, rfl, (u64_bounds hN).1, (u64_bounds hN).2, hone⟩
        have hj : j < 29 := by have := (List.getElem?_eq_some_iff.1 hv).1; omega
        rw [← Go.Deep.add_add, hat j hj, hv]
    have hsp : a = ⟨a.block, a.off, none⟩ := by
      obtain ⟨cs, d, _, _, hc, _, h0, _⟩ := each 0 hp
      have := hc 0 _ h0
      exact spot_none (a := a) (by simpa [Addr.add] using this)
    refine ⟨a.block, a.off, by rw [← hsp], ?_, fun i hil => ?_⟩
    · obtain ⟨cs, d, _, _, hc, _, h0, _⟩ := each 0 hp
      exact World.block_lt_of_cell? w _ (by simpa [Addr.add] using hc 0 _ h0)
    · obtain ⟨cs, d, wh, N, hc, r⟩ := each i hil
      refine ⟨cs, d, wh, N, fun j v hv => ?_, r⟩
      have := hc j v hv
      rw [hsp] at this
      rw [Addr.add_mid] at this
      rw [Nat.add_assoc]; exact this

set_option maxRecDepth 100000 in
theorem open_script2 {r : Reach} {b0 : Nat} {v : Value} {d : DataW H} {p : List MemPlace} (hv : Value.okWide Try.prog w r b0 41 v) (h : DataW.Trod enc Try.prog w base spare held 41 v d p) :
    ∃ most a n ca b m cb, v = .agg #[.int .i64 most, .slice a n ca, .slice b m cb] ∧ Inp w a n ∧ n ≤ maxLen ∧ Stp2 w b m ∧ m ≤ maxLen := by
  obtain ⟨v0, v1, v2, y0, y1, y2, n, rfl, _, _, h0, h1, h2⟩ := open_agg3 Try.underlying41 (by kernel_rfl) cells41 hv h
  obtain ⟨most, e0, _, _⟩ := DataW.trod_int Try.underlying3 h0
  obtain ⟨a, n, ca, e1, hI, hn⟩ := open_texts h1
  obtain ⟨b, m, cb, e2, hS, hm⟩ := open_steps2 h2
  cases e0; cases e1; cases e2
  exact ⟨most, a, n, ca, b, m, cb, rfl, hI, hn, hS, hm⟩
end

theorem Stp2.at_ {w : World} {a : Option Addr} {m j : Nat} (h : Stp2 w a m) (hj : j < m) : ∃ b off cs d wh N, a = some ⟨b, off, none⟩ ∧ b < w.heap.size ∧ w.rangeAt b (off + j * 29) cs ∧ cs.length = 29 ∧ cs.toArray[0]? = some (.int .i64 d) ∧ cs.toArray[1]? = some (.int .i64 wh) ∧ cs.toArray[2]? = some (.int .u64 N) ∧ 0 ≤ N ∧ N < 18446744073709551616 ∧ cs.toArray.all (·.oneCell') = true := by
  obtain ⟨b, off, ha, hb, hx⟩ := h (by omega)
  obtain ⟨cs, d, wh, N, h1, h2, h3, h4, h5, h6, h7, h8⟩ := hx j hj
  exact ⟨b, off, cs, d, wh, N, ha, hb, h1, h2, by simpa using h3, by simpa using h4, by simpa using h5, h6, h7, all_oneCell_toArray h8⟩

/-- A step is stored whole. -/
theorem wpList_store52 {ops : Array Oper} {rest : List Oper} {o : Oper} {a : Act} {w : World} {Q : Exit → Act → World → Prop} (hg : o.guard = none) (x y : Operand) (hop : o.op = Op.store 52 x y) (b : Nat) (hx : a.eval x = .pointer (some ⟨b, 0, none⟩)) (cells : Array Value) (hy : a.eval y = .agg cells)
    (hi : (Try.prog.info? 52).map (·.size) = some 29) (hs : cells.size = 29) (h1 : cells.all (·.oneCell') = true) (hr : isRow w b 29)
    (h : ∀ w', hasRow w' b cells → Kp (fun k => k = b) w w' → wpList Try.prog ops Q rest (a.put o.dst undef) w') : wpList Try.prog ops Q (o :: rest) a w := by
  refine wpList_plain hg fun K hK => ?_
  have hrun := run_store_row (P := Try.prog) (ty := 52) hi hr hs h1
  unfold Oper.wp
  simp [execOp, hop, hx, hy, hrun]
  exact hK _ _ (h _ (hr.setRow cells) ((Kp.refl (fun k => k = b) w).setRow (.inl rfl) cells))
end Go.Proofs.Ytkbbaokllgmhiaa
