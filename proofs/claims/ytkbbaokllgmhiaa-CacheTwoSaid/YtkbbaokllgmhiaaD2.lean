/- The cache's own state in memory; a source, whatever it is. -/
import Derived.Test.YtkbbaokllgmhiaaD1
import Derived.StillTailTactics
namespace Go.Proofs.Ytkbbaokllgmhiaa
open Go.RowKit Go.Maps Go.MuLone Go.Sort Go.Shelf

structure CSt where
  ver : Int
  turn : Int
  hits : Int
  misses : Int
  L : List Ent

abbrev crow (lock : Int) (src : Value) (most : Int) (M : Nat) (ver turn hits misses : Int) : Array Value :=
  #[.int .i32 lock, .int .u32 0, src, .int .i64 most, .int .u64 ver, .map (some M), .int .u64 turn, .int .i64 hits, .int .i64 misses]

structure CacheI (w : World) (F : Nat → Prop) (c : Nat) (src : Value) (most : Int) (st : CSt) : Prop where
  ex : ∃ M D, hasRow w c (crow 0 src most M st.ver st.turn st.hits st.misses) ∧ w.ownsMap Try.prog 9 RV M (Maps.size D) D ∧ M ≠ c ∧ F M ∧ DOK w (fun b => F b ∧ b ≠ c ∧ b ≠ M) D st.L
  self : F c
  lt : ∀ b, F b → b < w.heap.size
  top : ∀ e ∈ st.L, e.turn ≤ st.turn
  turn0 : 0 ≤ st.turn
  len : (st.L.length : Int) ≤ most
  m1 : 1 ≤ most
  m2 : most ≤ 1024

theorem ownsMap_kp {w w' : World} {F : Nat → Prop} {M n : Nat} {D : DataW Value} (h : w.ownsMap Try.prog 9 RV M n D) (k : Kp F w w') (hf : ¬ F M) : w'.ownsMap Try.prog 9 RV M n D := by
  have hl := h.lt
  obtain ⟨es, clock, hb, r⟩ := h
  exact ⟨es, clock, (k.block M hl hf).trans hb, r⟩
theorem ownsMap_same {w w' : World} {M n : Nat} {D : DataW Value} (h : w.ownsMap Try.prog 9 RV M n D) (k : w'.heap[M]? = w.heap[M]?) : w'.ownsMap Try.prog 9 RV M n D := by
  obtain ⟨es, clock, hb, r⟩ := h
  exact ⟨es, clock, k.trans hb, r⟩
theorem ownsMap_tight {w : World} {M n : Nat} {D : DataW Value} (h : w.ownsMap Try.prog 9 RV M n D) : w.ownsMap Try.prog 9 RV M (Maps.size D) D := by
  obtain ⟨es, clock, hb, F, hs, rfl⟩ := h
  exact ⟨es, clock, hb, F, by simp [Maps.size, length_sorted], rfl⟩

theorem CacheI.keep {w w' : World} {F G : Nat → Prop} {c : Nat} {src : Value} {most : Int} {st : CSt} (h : CacheI w F c src most st) (k : Kp G w w') (hd : ∀ b, F b → ¬ G b) : CacheI w' F c src most st := by
  obtain ⟨⟨M, D, h1, h2, h3, h4, h5⟩, a, b, r1, r2, r3, r4, r5⟩ := h
  exact ⟨⟨M, D, h1.kp k (hd c a), ownsMap_kp h2 k (hd M h4), h3, h4, h5.keep k (fun b hb => hd b hb.1)⟩, a, fun x hx => Nat.lt_of_lt_of_le (b x hx) k.size, r1, r2, r3, r4, r5⟩

theorem look_ok {W : World} {M n : Nat} {D : DataW Value} {v : Value} {b : Bool} (hown : W.ownsMap Try.prog 9 RV M n D) (tok : ByteArray) (hx : tok.size ≤ maxLen) (hD : D.atKey (key tok) zv = .held v) (hb : Maps.has D (key tok) = b) :
    (Instr.lookup 69 (.map (some M)) (.string tok) true).run Try.prog W = .ok (.tuple #[v, .bool b]) W := by
  obtain ⟨u, ps, hrun, hR⟩ := hown.look_ok law9 Try.underlying69 (zero85 W) (zd := zv) (zp := []) rfl (WideMaps.keyOf_string_mk Try.underlying9 hx)
  rw [hD] at hR
  simp only [RV, Option.some.injEq, Prod.mk.injEq, DataW.held.injEq] at hR
  rw [hrun, hR.1, hb]

theorem wpList_look {ops : Array Oper} {rest : List Oper} {o : Oper} {a : Act} {w : World} {Q : Exit → Act → World → Prop} (hg : o.guard = none) (m x : Operand) (hop : o.op = Op.lookup 69 m x true) {M : Nat} {tok : ByteArray}
    (hm : a.eval m = .map (some M)) (hx : a.eval x = .string tok) {v : Value} (hrun : (Instr.lookup 69 (.map (some M)) (.string tok) true).run Try.prog w = .ok v w)
    (hK : wpList Try.prog ops Q rest (a.put o.dst v) w) : wpList Try.prog ops Q (o :: rest) a w := by
  refine wpList_plain hg fun K' hK' => ?_
  unfold Oper.wp
  simp [execOp, hop, hm, hx, hrun, Result.andThen]
  exact hK' _ _ hK

theorem wpList_upd {ops : Array Oper} {rest : List Oper} {o : Oper} {a : Act} {w : World} {Q : Exit → Act → World → Prop} (hg : o.guard = none) (m x v : Operand) (hop : o.op = Op.mapUpdate 69 m x v) {M : Nat} {D : DataW Value} {tok : ByteArray} {val : Value}
    (hm : a.eval m = .map (some M)) (hx : a.eval x = .string tok) (hv : a.eval v = val) (hown : w.ownsMap Try.prog 9 RV M (Maps.size D) D) (hs : Maps.size D ≤ 1000000) (ht : tok.size ≤ maxLen)
    (hK : ∀ w', w'.ownsMap Try.prog 9 RV M (Maps.size (D.put (key tok) (.held val))) (D.put (key tok) (.held val)) → w.grownBy w' (some M) → wpList Try.prog ops Q rest (a.put o.dst undef) w') : wpList Try.prog ops Q (o :: rest) a w :=
  wpList_mapUpdate_own w hg m x v 69 hop 9 85 law9 Try.underlying69 RV M (Maps.size D) D hm hown (by unfold maxLen; omega) _ _ _ hx hv (WideMaps.keyOf_string_mk Try.underlying9 ht) (.held val) [] rfl (fun w' h1 h2 => hK w' (ownsMap_tight h1) h2)

/-- What the last region of a hit reads. -/
theorem s16 {W : World} {b g : Nat} {C : Array Value} {v : Value} (h : hasRow W b C) (hs : C.size = 26) (hv : C[24]? = some v) (z : isRow W g 24) : W.cell? ⟨b, 24, none⟩ = some v ∧ isRow W b 26 ∧ rowAt W b = C ∧ isRow W g 24 :=
  ⟨(h.cell 24).trans hv, hs ▸ h.is, h.rowAt, z⟩
theorem isRow.below {w w' : World} {B g n : Nat} (h : isRow w g n) (k : Below B w w') (hf : g < B) : isRow w' g n := by
  obtain ⟨cs, t, h, hc⟩ := h; exact ⟨cs, t, (k.block g hf).trans h, hc⟩
theorem isRow.kp {w w' : World} {F : Nat → Prop} {g n : Nat} (h : isRow w g n) (k : Kp F w w') (hf : ¬ F g) : isRow w' g n := by
  obtain ⟨cs, t, h, hc⟩ := h; exact ⟨cs, t, (k.block g (Array.getElem?_eq_some_iff.1 h).1 hf).trans h, hc⟩

/-- All is forgotten. -/
theorem wpList_clear {ops : Array Oper} {rest : List Oper} {o : Oper} {a : Act} {w : World} {Q : Exit → Act → World → Prop} (hg : o.guard = none) (m : Operand) (hop : o.op = Op.call { callee := Callee.builtin Builtin.clear, args := #[m], argTypes := #[69] }) {M n : Nat} {D : DataW Value}
    (hm : a.eval m = .map (some M)) (hown : w.ownsMap Try.prog 9 RV M n D)
    (hK : ∀ w', w'.ownsMap Try.prog 9 RV M (Maps.size (.map [] : DataW Value)) (.map []) → w.grownBy w' (some M) → wpList Try.prog ops Q rest (a.put o.dst (.tuple #[])) w') : wpList Try.prog ops Q (o :: rest) a w := by
  refine wpList_plain hg fun K' hK' => ?_
  obtain ⟨es, clock, hb, F, hs, hD⟩ := hown
  have hrun : (Builtin.clear_ #[69] o.type #[.map (some M)]).run Try.prog w = .ok (.tuple #[]) { w with heap := w.heap.setIfInBounds M (.map #[] clock) } := by
    simp [Builtin.clear_, run_underlying Try.underlying69, MapKept.run_getObj_map hb, MapKept.run_setObj_map _ hb, Result.andThen]
  unfold Oper.wp
  simp [execOp, hop, resolve, invoke, builtin, hm, hrun, Result.andThen]
  have hl := (Array.getElem?_eq_some_iff.1 hb).1
  refine hK' _ _ (hK _ ⟨#[], clock, by simp [hl], ⟨by simp, ⟨by simp, by simp⟩, by simp⟩, by simp [Maps.size], rfl⟩ ⟨rfl, rfl, rfl, by simp, fun i hi hne => ?_⟩)
  have : M ≠ i := fun e => hne (by rw [e])
  simp [this]

theorem Strs.bound {w : World} {F : Nat → Prop} {v : Value} {xs : List ByteArray} (h : Strs w F v xs) : Strs w (fun b => F b ∧ b < w.heap.size) v xs := by
  obtain ⟨a, cap, hv, hx⟩ := h
  exact ⟨a, cap, hv, fun hne => let ⟨b, off, ha, hF, hb, hc⟩ := hx hne; ⟨b, off, ha, ⟨hF, hb⟩, hb, hc⟩⟩

/-- The first of those that are remembered, out of the order. -/
theorem order_head {w W : World} {K : Nat → Prop} {c M n : Nat} {D : DataW Value} {e : Ent} {L : List Ent} (hc : w.cell? ⟨c, 5, none⟩ = some (.map (some M))) (hown : w.ownsMap Try.prog 9 RV M n D) (hD : DOK W K D (e :: L)) (hmax : (e :: L).length ≤ 1000000) :
    Calls Try.prog 25 #[.pointer (some ⟨c, 0, none⟩)] w fun r w' => ∃ b off cap, r = .returned (.slice (some ⟨b, off, none⟩) (L.length + 1) cap) ∧ w'.cell? ⟨b, off, none⟩ = some (.string e.tok) ∧ Below w.heap.size w w' := by
  refine (order_any c M n D (turnOf (e :: L)) ((e :: L).map (·.tok)) w hc hown hD.turns (hD.ordered hown) (by rw [hD.size hown]; exact hmax)).mono ?_
  rintro r w' ⟨p, cap, rfl, hs, hb⟩
  obtain ⟨a, cap', hv, hx⟩ := hs
  obtain ⟨b, off, ha, _, _, hcell⟩ := hx (by simp)
  simp only [List.map_cons, List.length_cons, List.length_map, Value.slice.injEq] at hv
  obtain ⟨rfl, _, rfl⟩ := hv
  subst ha
  exact ⟨b, off, cap, by simp, by simpa using hcell 0 (by simp), hb⟩

theorem step_delete {ops : Array Oper} {o : Oper} {a : Act} {w : World} {K : Act → World → Prop} {Q : Exit → Act → World → Prop} {E : Prop} (hg : o.guard = none) (m x : Operand) (hop : o.op = Op.call { callee := Callee.builtin Builtin.delete, args := #[m, x], argTypes := #[69, 9] })
    {M n : Nat} {D : DataW Value} {tok : ByteArray} (hm : a.eval m = .map (some M)) (hx : a.eval x = .string tok) (hown : w.ownsMap Try.prog 9 RV M n D) (ht : tok.size ≤ maxLen)
    (hK : ∀ w', w'.ownsMap Try.prog 9 RV M (Maps.size (D.del (key tok))) (D.del (key tok)) → w.grownBy w' (some M) → K (a.put o.dst (.tuple #[])) w') : if Region.wanted o (yielded ops a.tmps) = true then Oper.wp Try.prog o a w K Q else E := by
  rw [if_pos (by simp [Region.wanted, hg])]
  obtain ⟨w', hrun, r1, r2⟩ := hown.drop law9 Try.underlying69 (WideMaps.keyOf_string_mk Try.underlying9 ht) o.type
  unfold Oper.wp
  simp [execOp, hop, resolve, invoke, builtin, hm, hx, hrun, Result.andThen]
  exact hK w' (ownsMap_tight r1) r2.grown

theorem upd_run {w : World} {M : Nat} {D : DataW Value} (hown : w.ownsMap Try.prog 9 RV M (Maps.size D) D) (tok : ByteArray) (val : Value) (ht : tok.size ≤ maxLen) (hs : Maps.size D ≤ 1000000) :
    ∃ w', (Instr.mapUpdate 69 (.map (some M)) (.string tok) val).run Try.prog w = .ok () w' ∧ w'.ownsMap Try.prog 9 RV M (Maps.size (D.put (key tok) (.held val))) (D.put (key tok) (.held val)) ∧ w.grownBy w' (some M) := by
  obtain ⟨w', h1, h2, h3⟩ := hown.update law9 Try.underlying69 (by unfold maxLen; omega) (WideMaps.keyOf_string_mk Try.underlying9 ht) (val := val) (d := .held val) (ps := []) rfl
  exact ⟨w', h1, ownsMap_tight h2, h3⟩

theorem below_undrew {w w' : World} (h : Below w.drew.heap.size w.drew w') : Below w.heap.size w w' := ⟨h.os, h.tape, h.output, h.size, h.block⟩

/-- What an insertion reads. -/
theorem s24 {W : World} {b c : Nat} {C R : Array Value} {u v : Value} (h : hasRow W b C) (hs : C.size = 24) (r : hasRow W c R) (hu : R[5]? = some u) (hv : R[6]? = some v) : W.cell? ⟨c, 5, none⟩ = some u ∧ W.cell? ⟨c, 6, none⟩ = some v ∧ isRow W b 24 ∧ rowAt W b = C :=
  ⟨(r.cell 5).trans hu, (r.cell 6).trans hv, hs ▸ h.is, h.rowAt⟩

/-- A source as the cache sees it: a pointer of type t to block S; what it keeps (I, I', I'' in turn); its two methods. -/
structure Src (t fV fF S : Nat) (v : Int) (tok : ByteArray) (te : Tell) (I I1 I2 : World → (Nat → Prop) → Prop) : Prop where
  mV : ∀ w, (method 250 t (.pointer (some ⟨S, 0, none⟩)) "Version").run Try.prog w = .ok (fV, .pointer (some ⟨S, 0, none⟩)) w
  mF : ∀ w, (method 250 t (.pointer (some ⟨S, 0, none⟩)) "Find").run Try.prog w = .ok (fF, .pointer (some ⟨S, 0, none⟩)) w
  cV : ∀ args w, (callFunc fV args).run Try.prog w = .ok (.enter fV args) w
  cF : ∀ args w, (callFunc fF args).run Try.prog w = .ok (.enter fF args) w
  kI : ∀ w w' G F, I w G → Kp F w w' → (∀ b, G b → ¬ F b) → I w' G
  kI1 : ∀ w w' G F, I1 w G → Kp F w w' → (∀ b, G b → ¬ F b) → I1 w' G
  kI2 : ∀ w w' G F, I2 w G → Kp F w w' → (∀ b, G b → ¬ F b) → I2 w' G
  lI : ∀ w G, I w G → ∀ b, G b → b < w.heap.size
  lI1 : ∀ w G, I1 w G → ∀ b, G b → b < w.heap.size
  lI2 : ∀ w G, I2 w G → ∀ b, G b → b < w.heap.size
  runV : ∀ w G, I w G → Calls Try.prog fV #[.pointer (some ⟨S, 0, none⟩)] w fun e w' => e = .returned (.tuple #[.int .u64 v, .int .i64 0]) ∧ ∃ G', I1 w' G' ∧ Kp G w w' ∧ ∀ b, G' b → G b ∨ w.heap.size ≤ b
  runF : ∀ w G, I1 w G → Calls Try.prog fF #[.pointer (some ⟨S, 0, none⟩), .string tok] w fun e w' => ∃ p c, e = .returned (.tuple #[tclm te p c, .bool te.ok, .int .i64 0]) ∧
    ∃ G', I2 w' G' ∧ Kp G w w' ∧ (∀ b, G' b → G b ∨ w.heap.size ≤ b) ∧ Strs w' (fun b => w.heap.size ≤ b ∧ ¬ G' b) (.slice p te.scopes.length c) te.scopes

/-- What a Find leaves: the answer, in new memory; the cache and the source as they are now; all else as it was. -/
def FindPost (w : World) (F G : Nat → Prop) (c : Nat) (src : Value) (most : Int) (st' : CSt) (J : World → (Nat → Prop) → Prop) (te : Tell) (r : Ending) (w' : World) : Prop :=
  ∃ p n, r = .returned (.tuple #[tclm te p n, .bool te.ok, .int .i64 0]) ∧ Strs w' (fun b => w.heap.size ≤ b) (.slice p te.scopes.length n) te.scopes ∧
    ∃ F' G', CacheI w' F' c src most st' ∧ J w' G' ∧ (∀ b, F' b → ¬ G' b) ∧ (∀ b, F' b → F b ∨ w.heap.size ≤ b) ∧ (∀ b, G' b → G b ∨ w.heap.size ≤ b) ∧ Kp (fun b => F b ∨ G b) w w'
end Go.Proofs.Ytkbbaokllgmhiaa
