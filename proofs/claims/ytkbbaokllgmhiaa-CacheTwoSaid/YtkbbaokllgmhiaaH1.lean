/- A script as an argument: what its reading says of memory; the row's last step over 'Below'. -/
import Derived.Test.YtkbbaokllgmhiaaB1
import Derived.Deep.Slices
import Derived.Deep.Fields
import Derived.Deep.MidRow
import Derived.SliceStrings
import Derived.Lib.SmallJoins
import Derived.OpenShut
import Derived.ProofKit
namespace Go.Proofs.Ytkbbaokllgmhiaa
open Go.ChangeShapes Go.WideShapes Go.ChangeAt Go.RowKit Go.Joins Go.Deep

theorem cells41 : Try.prog.cellsOf 41 = 3 := by kernel_rfl
theorem cells9 : Try.prog.cellsOf 9 = 1 := by kernel_rfl
theorem cells52 : Try.prog.cellsOf 52 = 29 := by kernel_rfl
theorem cells3 : Try.prog.cellsOf 3 = 1 := by kernel_rfl
theorem cells29 : Try.prog.cellsOf 29 = 1 := by kernel_rfl

/-- The steps of a script, as they are read: each is 29 cells; the first three are numbers. -/
def Stp (w : World) (a : Option Addr) (m : Nat) : Prop :=
  0 < m → ∃ b off, a = some ⟨b, off, none⟩ ∧ b < w.heap.size ∧ ∀ i, i < m → ∃ (cs : List Value) (d wh N : Int), w.rangeAt b (off + i * 29) cs ∧ cs.length = 29 ∧ cs[0]? = some (.int .i64 d) ∧ cs[1]? = some (.int .i64 wh) ∧ cs[2]? = some (.int .u64 N) ∧ 0 ≤ N ∧ N < 18446744073709551616

/-- The texts of an argument, as they are read: of the slice tv (n texts) each is a text. -/
def Inp (w : World) (a : Option Addr) (n : Nat) : Prop := 0 < n → ∃ b off, a = some ⟨b, off, none⟩ ∧ b < w.heap.size ∧ ∀ i, i < n → ∃ x : ByteArray, w.cell? ⟨b, off + i, none⟩ = some (.string x) ∧ x.size ≤ maxLen

theorem rangeAt_same {w w' : World} {b o : Nat} {cs : List Value} (h : w.rangeAt b o cs) (hb : w'.heap[b]? = w.heap[b]?) : w'.rangeAt b o cs := fun j v hv => (World.cell?_of_block (w := w) (a := ⟨b, o + j, none⟩) hb).trans (h j v hv)

theorem Stp.kp {w w' : World} {F : Nat → Prop} {a : Option Addr} {m : Nat} (h : Stp w a m) (k : Kp F w w') (hv : ∀ b, b < w.heap.size → ¬ F b) : Stp w' a m := by
  intro hn
  obtain ⟨b, off, ha, hb, hx⟩ := h hn
  exact ⟨b, off, ha, Nat.lt_of_lt_of_le hb k.size, fun i hi => let ⟨cs, d, wh, N, h1, r⟩ := hx i hi; ⟨cs, d, wh, N, rangeAt_same h1 (k.block b hb (hv b hb)), r⟩⟩

theorem spot_none {w : World} {a : Addr} {v : Value} (h : w.cell? a = some v) : a = ⟨a.block, a.off, none⟩ := by
  obtain ⟨b, o, s⟩ := a
  cases s with
  | none => rfl
  | some s =>
    exfalso
    unfold World.cell? at h
    split at h <;> simp at h

theorem three_of {α : Type} (l : List α) (h : 3 ≤ l.length) : ∃ a b c r, l = a :: b :: c :: r := by
  match l, h with
  | a :: b :: c :: r, _ => exact ⟨a, b, c, r, rfl⟩

theorem u64_bounds {n : Int} (h : (Lit.int .u64 n).wf = true) : 0 ≤ n ∧ n < 18446744073709551616 := by
  simp [Lit.wf, IntKind.min, IntKind.max, IntKind.signed, IntKind.bits] at h
  omega

section
variable {H : Type} {enc : TypeId × Value → H} {w : World} {base : Nat} {spare : Nat → Bool} {held : Bool}

theorem open_steps {fuel : Nat} {cs : List Value} {x : DataW H × List MemPlace} (h : DataW.trod enc Try.prog w base spare held fuel 39 cs = some x) :
    ∃ a m c, cs = [.slice a m c] ∧ Stp w a m ∧ m ≤ maxLen := by
  rcases open_slice Try.underlying39 h with ⟨rfl, _⟩ | ⟨a, len, cap, m, n, D, Pl, rfl, hb, hl, hm, hmm, _, hi⟩
  · exact ⟨none, 0, 0, rfl, fun h => absurd h (by omega), by unfold maxLen; omega⟩
  · refine ⟨some a, len, cap, rfl, fun hp => ?_, by omega⟩
    have hlm : len ≤ m := by rw [hmm]; split <;> omega
    have each : ∀ i, i < len → ∃ (cs : List Value) (d wh N : Int), (∀ j v, cs[j]? = some v → w.cell? (a.add (i * 29 + j)) = some v) ∧ cs.length = 29 ∧ cs[0]? = some (.int .i64 d) ∧ cs[1]? = some (.int .i64 wh) ∧ cs[2]? = some (.int .u64 N) ∧ 0 ≤ N ∧ N < 18446744073709551616 := by
      intro i hil
      obtain ⟨cs', hc, ht⟩ := hi i (by omega)
      rw [cells52] at hc
      obtain ⟨_, hlen, hat⟩ := World.cells?_some hc
      obtain ⟨ys, n', _, _, _, hyl, hf⟩ := DataW.trod_struct Try.underlying52 ht
      have h0 : DataW.trod enc Try.prog w base spare held n' 3 ((cs'.drop 0).take (Try.prog.cellsOf 3)) = ys[0]? := hf 0 _ rfl
      have h1 : DataW.trod enc Try.prog w base spare held n' 3 ((cs'.drop 1).take (Try.prog.cellsOf 3)) = ys[1]? := hf 1 _ rfl
      have h2 : DataW.trod enc Try.prog w base spare held n' 29 ((cs'.drop 2).take (Try.prog.cellsOf 29)) = ys[2]? := hf 2 _ rfl
      rw [cells3] at h0 h1
      rw [cells29] at h2
      obtain ⟨c0, c1, c2, r, rfl⟩ := three_of cs' (by omega)
      · simp only [List.drop_zero, List.drop_succ_cons, List.take_succ_cons, List.take_zero] at h0 h1 h2
        have g : ∀ {t : TypeId} {c : Value} {k : IntKind} {o : Option (DataW H × List MemPlace)} {j : Nat}, ys[j]? = o → j < ys.length → DataW.trod enc Try.prog w base spare held n' t [c] = o → Try.prog.underlying t = some (.int k) → ∃ z, c = .int k z ∧ (Lit.int k z).wf = true := by
          intro t c k o j ho hj htr hu
          rw [← ho, List.getElem?_eq_getElem hj] at htr
          obtain ⟨z, hz, _, hwf⟩ := DataW.trod_int hu htr
          exact ⟨z, by simpa using hz, hwf⟩
        have hyl : 3 ≤ ys.length := by
          simp at hyl
          omega
        obtain ⟨d, rfl, _⟩ := g rfl (by omega) h0 Try.underlying3
        obtain ⟨wh, rfl, _⟩ := g rfl (by omega) h1 Try.underlying3
        obtain ⟨N, rfl, hN⟩ := g rfl (by omega) h2 Try.underlying29
        refine ⟨_, d, wh, N, fun j v hv => ?_, hlen, rfl, rfl, rfl, u64_bounds hN⟩
        have hj : j < 29 := by have := (List.getElem?_eq_some_iff.1 hv).1; omega
        rw [← Go.Deep.add_add, hat j hj, hv]
    have hsp : a = ⟨a.block, a.off, none⟩ := by
      obtain ⟨cs, d, _, _, hc, _, h0, _⟩ := each 0 hp
      have := hc 0 _ h0
      exact spot_none (a := a) (by simpa [Addr.add] using this)
    refine ⟨a.block, a.off, by rw [← hsp], ?_, fun i hil => ?_⟩
    · obtain ⟨cs, d, _, _, hc, _, h0, _⟩ := each 0 hp
      exact World.block_lt_of_cell? w _ (by simpa [Addr.add] using hc 0 _ h0)
    · obtain ⟨cs, d, wh, N, hc, r⟩ := each i hil
      refine ⟨cs, d, wh, N, fun j v hv => ?_, r⟩
      have := hc j v hv
      rw [hsp] at this
      rw [Addr.add_mid] at this
      rw [Nat.add_assoc]; exact this

theorem open_texts {fuel : Nat} {cs : List Value} {x : DataW H × List MemPlace} (h : DataW.trod enc Try.prog w base spare held fuel 30 cs = some x) :
    ∃ a n c, cs = [.slice a n c] ∧ Inp w a n ∧ n ≤ maxLen := by
  rcases open_strings Try.underlying30 Try.underlying9 cells9 h with ⟨rfl, _⟩ | ⟨a, len, cap, ss, rfl, hb, hl, hm, hss, _, hc, hs⟩
  · exact ⟨none, 0, 0, rfl, fun h => absurd h (by omega), by unfold maxLen; omega⟩
  · have hlm : len ≤ ss.length := by rw [hss]; split <;> omega
    refine ⟨some a, len, cap, rfl, fun hp => ?_, by omega⟩
    have h0 := hc 0 (by omega)
    have hsp : a = ⟨a.block, a.off, none⟩ := spot_none (a := a) (by simpa [Addr.add] using h0)
    refine ⟨a.block, a.off, by rw [← hsp], World.block_lt_of_cell? w _ (by simpa [Addr.add] using h0), fun i hi => ⟨ss.getD i ByteArray.empty, ?_, ?_⟩⟩
    · have := hc i (by omega)
      rw [hsp, Addr.add_mid] at this
      exact this
    · have hi' : i < ss.length := by omega
      have : ss.getD i ByteArray.empty = ss[i] := by simp [List.getD, hi']
      rw [this]; exact hs _ (List.getElem_mem hi')

set_option maxRecDepth 100000 in
theorem open_script {r : Reach} {b0 : Nat} {v : Value} {d : DataW H} {p : List MemPlace} (hv : Value.okWide Try.prog w r b0 41 v) (h : DataW.Trod enc Try.prog w base spare held 41 v d p) :
    ∃ most a n ca b m cb, v = .agg #[.int .i64 most, .slice a n ca, .slice b m cb] ∧ Inp w a n ∧ n ≤ maxLen ∧ Stp w b m ∧ m ≤ maxLen := by
  obtain ⟨v0, v1, v2, y0, y1, y2, n, rfl, _, _, h0, h1, h2⟩ := open_agg3 Try.underlying41 (by kernel_rfl) cells41 hv h
  obtain ⟨most, e0, _, _⟩ := DataW.trod_int Try.underlying3 h0
  obtain ⟨a, n, ca, e1, hI, hn⟩ := open_texts h1
  obtain ⟨b, m, cb, e2, hS, hm⟩ := open_steps h2
  cases e0; cases e1; cases e2
  exact ⟨most, a, n, ca, b, m, cb, rfl, hI, hn, hS, hm⟩
end
end Go.Proofs.Ytkbbaokllgmhiaa
