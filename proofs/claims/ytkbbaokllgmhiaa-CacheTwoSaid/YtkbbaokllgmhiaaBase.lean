/- Words for what a call does to memory: of the blocks that were there all but some are as they were ('Kp'). -/
import Derived.Test.YtkbbaokllgmhiaaLocks
import Derived.WalkKit
import Derived.WalkLawsBesides
import Derived.WalkSpells
import Derived.Outline
import Derived.Laws.Tables
import Derived.Laws.Rows
import Derived.Lib.Hide
import Derived.Maps.OwnSet
import Derived.Deep.QuietTactic
import Derived.BigQuiet
import Derived.RegionTactic
import Derived.Deep.RegionWith
namespace Go.Proofs.Ytkbbaokllgmhiaa
open Go.RowKit Go.Maps Go.MuLone

/-- Of the blocks that were there all but those of F are as they were; nothing is told, nothing has gone. -/
structure Kp (F : Nat → Prop) (w w' : World) : Prop where
  os : w'.os = w.os
  tape : w'.tape = w.tape
  output : w'.output = w.output
  size : w.heap.size ≤ w'.heap.size
  block : ∀ k, k < w.heap.size → ¬ F k → w'.heap[k]? = w.heap[k]?

variable {F G : Nat → Prop} {w w1 w2 : World}

theorem Kp.refl (F : Nat → Prop) (w : World) : Kp F w w := ⟨rfl, rfl, rfl, Nat.le_refl _, fun _ _ _ => rfl⟩
theorem Kp.trans (h : Kp F w w1) (k : Kp G w1 w2) (hG : ∀ b, b < w.heap.size → G b → F b) : Kp F w w2 :=
  ⟨k.os.trans h.os, k.tape.trans h.tape, k.output.trans h.output, Nat.le_trans h.size k.size, fun i hi hf => (k.block i (Nat.lt_of_lt_of_le hi h.size) (fun g => hf (hG i hi g))).trans (h.block i hi hf)⟩
theorem Kp.mono (h : Kp F w w1) (hG : ∀ b, b < w.heap.size → F b → G b) : Kp G w w1 := ⟨h.os, h.tape, h.output, h.size, fun i hi hg => h.block i hi fun f => hg (hG i hi f)⟩
theorem Kp.alloc (h : Kp F w w1) (o : Obj) : Kp F w (w1.alloc o) :=
  ⟨h.os, h.tape, h.output, Nat.le_trans h.size (by simp), fun i hi hf => (Below.heap_alloc _ _ _ (Nat.lt_of_lt_of_le hi h.size)).trans (h.block i hi hf)⟩
theorem Kp.setCell (h : Kp F w w1) {a : Addr} (ha : F a.block ∨ w.heap.size ≤ a.block) (v : Value) : Kp F w (w1.setCell a v) :=
  ⟨h.os, h.tape, h.output, Nat.le_trans h.size (by simp [World.setCell]), fun i hi hf => (Below.heap_setCell _ _ _ _ (fun e => by subst e; rcases ha with ha | ha; exact hf ha; omega)).trans (h.block i hi hf)⟩
theorem Kp.drew (h : Kp F w w1) : Kp F w w1.drew := ⟨h.os, h.tape, h.output, h.size, h.block⟩
theorem Kp.drewN (h : Kp F w w1) (n : Nat) : Kp F w (w1.drewN n) := ⟨h.os, h.tape, h.output, h.size, h.block⟩
theorem Kp.of_below (h : Below w.heap.size w w1) : Kp F w w1 := ⟨h.os, h.tape, h.output, h.size, fun i hi _ => h.block i hi⟩
theorem Kp.below (h : Kp F w w1) {B : Nat} (hB : B ≤ w.heap.size) (hF : ∀ b, b < B → ¬ F b) : Below B w w1 := ⟨h.os, h.tape, h.output, h.size, fun i hi => h.block i (Nat.lt_of_lt_of_le hi hB) (hF i hi)⟩
theorem Kp.then_below (h : Kp F w w1) {B : Nat} (k : Below B w1 w2) (hB : w.heap.size ≤ B) : Kp F w w2 :=
  ⟨k.os.trans h.os, k.tape.trans h.tape, k.output.trans h.output, Nat.le_trans h.size k.size, fun i hi hf => (k.block i (by omega)).trans (h.block i hi hf)⟩
/-- A law that ends in 'grownBy' (append). -/
theorem Kp.grown (h : Kp F w w1) {row : Option Nat} (g : w1.grownBy w2 row) (hr : ∀ b, row = some b → F b ∨ w.heap.size ≤ b) : Kp F w w2 :=
  ⟨g.os.trans h.os, g.tape.trans h.tape, g.output.trans h.output, Nat.le_trans h.size g.size, fun i hi hf => (g.block i (Nat.lt_of_lt_of_le hi h.size) (fun e => by rcases hr i e.symm with x | x; exact hf x; omega)).trans (h.block i hi hf)⟩

theorem Kp.setRow (h : Kp F w w1) {g : Nat} (ha : F g ∨ w.heap.size ≤ g) (cs : Array Value) : Kp F w (w1.setRow g cs) :=
  ⟨h.os, h.tape, h.output, Nat.le_trans h.size (by simp), fun i hi hf => (setRow_other _ _ _ _ (fun e => by subst e; rcases ha with ha | ha; exact hf ha; omega)).trans (h.block i hi hf)⟩

theorem Kp.cell (h : Kp F w w1) {a : Addr} (ha : a.block < w.heap.size) (hf : ¬ F a.block) : w1.cell? a = w.cell? a := World.cell?_of_block (w := w) (h.block _ ha hf)
theorem Kp.frozen (h : Kp F w w1) {a : Addr} (ha : a.block < w.heap.size) (hf : ¬ F a.block) : w1.frozen? a = w.frozen? a := World.frozen?_of_block (w := w) (h.block _ ha hf)

end Go.Proofs.Ytkbbaokllgmhiaa
