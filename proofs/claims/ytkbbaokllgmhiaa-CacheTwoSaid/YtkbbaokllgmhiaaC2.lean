/- slices.SortedFunc over a map's keys, by the turns that the map holds; (*Cache).order. -/
import Derived.Test.YtkbbaokllgmhiaaC1
import Derived.Sort.OwnSorted
namespace Go.Proofs.Ytkbbaokllgmhiaa
open Go.RowKit Go.Maps Go.MuLone Go.Sort Go.Shelf

/-- A text that a key may be. -/
abbrev KeyT := { x : List UInt8 // x.length ≤ maxLen }
instance : Inhabited KeyT := ⟨⟨[], Nat.zero_le _⟩⟩
def encK (x : KeyT) : Value := encStr x.1
def cfK (tf : List UInt8 → Int) (x y : KeyT) : Int := Lib.compareInt (tf x.1) (tf y.1)
theorem ltK (tf : List UInt8 → Int) (x y : KeyT) : ltOf (cfK tf) x y = decide (tf x.1 < tf y.1) := by
  unfold ltOf cfK Lib.compareInt
  by_cases h1 : tf x.1 < tf y.1
  · simp [h1]
  · by_cases h2 : tf y.1 < tf x.1 <;> simp [h1, h2]
theorem swoK (tf : List UInt8 → Int) : SWO (ltOf (cfK tf)) where
  irrefl x := by rw [ltK]; simp
  trans x y z h1 h2 := by rw [ltK] at *; simp at *; omega
  ntrans x y z h1 h2 := by rw [ltK] at *; simp at *; omega

theorem sortWorld_block {α : Type} [Inhabited α] (enc : α → Value) (w : World) (blk off m : Nat) (dk : Array α) (os : Array Obj) (k : Nat) (hk : k < w.heap.size) (hne : k ≠ blk) : (sortWorld enc w blk off m dk os).heap[k]? = w.heap[k]? := by
  unfold sortWorld
  rw [heap_grow_old _ _ (by simpa [putRow, mapBlock, Sort.ahead] using hk)]
  simp [putRow, mapBlock, Sort.ahead, Array.getElem?_modify, Ne.symm hne]

theorem holdsK {w : World} {g : Nat} {cur : Array Value} {e : TypeId} {ds : List KeyT} (hb : w.heap[g]? = some (.cells cur e (0, 0))) (ht : cur.toList.take ds.length = ds.map encK) : Holds encK w g 0 ds.toArray := by
  intro j hj
  have hj' : j < ds.length := by simpa using hj
  refine ⟨?_, by simp [World.frozen?, hb]⟩
  have h1 : (cur.toList.take ds.length)[j]? = (ds.map encK)[j]? := by rw [ht]
  rw [List.getElem?_take_of_lt hj'] at h1
  simp only [World.cell?, hb, Nat.zero_add]
  rw [if_neg (by simp), ← Array.getElem?_toList, h1]
  simp [hj']

set_option maxHeartbeats 1000000 in
theorem collect_keys (M n : Nat) (D : DataW Value) (w : World) (hown : w.ownsMap Try.prog 9 RV M n D) (hmax : Maps.size D ≤ 1000000) :
    Calls Try.prog 44 #[.func (.func 46) #[] #[.pointer (some ⟨w.heap.size, 0, none⟩)]] (w.alloc (.cells #[.map (some M)] 69)) fun e w' => ∃ (v : Value) (ss : List (List UInt8)), e = .returned v ∧ ss.Perm (strKeys D) ∧
      w'.ownsRow (w.alloc (.cells #[.map (some M)] 69)).heap.size 9 1 v ss.length (ss.map encStr) ∧ (v = .slice none 0 0 ↔ ss = []) ∧ Below (w.alloc (.cells #[.map (some M)] 69)).heap.size (w.alloc (.cells #[.map (some M)] 69)) w' := by
  have hbl := hown.lt
  have hseq : SeqGives Fence.wide 2 Try.prog 46 #[.pointer (some ⟨w.heap.size, 0, none⟩)] encStr (fun ss => ss.Perm (strKeys D)) (Maps.size D) (w.alloc (.cells #[.map (some M)] 69)) :=
    AnyZ.keys_gives (ρ := Try.keys32_ren) { Try.keys32 with } Fence.wide _ trivial rfl (by omega) w.heap.size M n D _ (by simp) (by simp) (by
      obtain ⟨es, clock, hb, Ft, hs, hD⟩ := hown
      exact ⟨es, clock, (Below.heap_alloc _ _ M hbl).trans hb, Ft, hs, hD⟩)
  exact (callsIn_wide (n := 4)).1 (AnyZ.collect_in Try.collect44 Fence.wide 4 trivial trivial rfl (by omega) 46 #[.pointer (some ⟨w.heap.size, 0, none⟩)] trivial (enters_of Try.func46 (by kernel_rfl) rfl) _ _ (by unfold maxLen; omega) (by omega) _ hseq)

theorem keys_32 (mb : Option Nat) (W : World) : Calls Try.prog 32 #[.map mb] W fun e w' => e = .returned (.func (.func 46) #[] #[.pointer (some ⟨W.heap.size, 0, none⟩)]) ∧ w' = W.alloc (.cells #[.map mb] 69) :=
  (callsIn_wide (n := 5)).1 (AnyZ.keys_in Try.keys32 Fence.wide 5 trivial rfl mb W)

theorem sort_none (p : Option Addr) (c : Nat) (f : Value) (W : World) : Calls Try.prog 45 #[.slice p 0 c, f] W fun e w' => e = .returned (.tuple #[]) ∧ w' = W :=
  AnyF.slices_SortFunc_none (P := Try.prog) (ρ := Try.sort45_ren) { Try.sort45 with } p c f W

/-- The sort, of keys by their turns. -/
theorem sort_keys (B c M n g cap : Nat) (D : DataW Value) (tf : List UInt8 → Int) (ds : List KeyT) (cur : Array Value) (W : World) (hb : W.cell? ⟨B, 0, none⟩ = some (.pointer (some ⟨c, 0, none⟩))) (hc : W.cell? ⟨c, 5, none⟩ = some (.map (some M)))
    (hown : W.ownsMap Try.prog 9 RV M n D) (hT : Turns D tf) (hB : B ≠ g) (hcg : c ≠ g) (hM : M ≠ g) (hg : W.heap[g]? = some (.cells cur 9 (0, 0))) (ht : cur.toList.take ds.length = ds.map encK) (hl : ds.length ≤ 1000000) :
    Calls Try.prog 45 #[.slice (some ⟨g, 0, none⟩) ds.length cap, .func (.func 33) #[] #[.pointer (some ⟨B, 0, none⟩)]] W fun e w' => e = .returned (.tuple #[]) ∧
      ∃ (d' : List KeyT) (k : Nat) (os : Array Obj), d'.Perm ds ∧ d'.Pairwise (fun x y => tf x.1 ≤ tf y.1) ∧ w' = sortWorld encK W g 0 k d'.toArray os := by
  have hcmp : CmpReads Try.prog 33 #[.pointer (some ⟨B, 0, none⟩)] encK (cfK tf) g 0 ds.toArray.size W := by
    intro m os dk _ x y
    have hbl := World.block_lt_of_cell? _ _ hb
    have hcl := World.block_lt_of_cell? _ _ hc
    have e1 := sortWorld_block encK W g 0 m dk os B hbl hB
    have e2 := sortWorld_block encK W g 0 m dk os c hcl hcg
    have e3 := sortWorld_block encK W g 0 m dk os M hown.lt hM
    have hown' : (sortWorld encK W g 0 m dk os).ownsMap Try.prog 9 RV M n D := by
      obtain ⟨es, clock, hb, r⟩ := hown
      exact ⟨es, clock, e3.trans hb, r⟩
    have := closure33 B c M n D tf _ ((World.cell?_of_block (w := W) (a := ⟨B, 0, none⟩) e1).trans hb) ((World.cell?_of_block (w := W) (a := ⟨c, 5, none⟩) e2).trans hc) hown' hT ⟨x.1.toArray⟩ ⟨y.1.toArray⟩ (by simpa [ByteArray.size] using x.2) (by simpa [ByteArray.size] using y.2)
    simpa [encK, encStr, cfK] using this
  have hS := Any.slices_SortFunc Try.sort45 encK (fun _ => rfl) (cfK tf) (swoK tf) 33 #[.pointer (some ⟨B, 0, none⟩)] g 0 cap ds.toArray W (enters_of Try.func33 (by kernel_rfl) rfl) hcmp.lays (holdsK hg ht) (Array.getElem?_eq_some_iff.1 hg).1 (by simp; omega)
  refine hS.mono ?_
  rintro e w' ⟨he, d', k, os, ⟨h1, _, h2⟩, h3, hw⟩
  have hsz : d'.size = ds.length := by simpa using h1
  refine ⟨he, d'.toList, k, os, ?_, ?_, by simpa using hw⟩
  · have e1 : d'.extract 0 ds.toArray.size = d' := by rw [← h1]; exact Array.extract_size
    rw [e1, Array.extract_size] at h2
    simpa using h2
  · rw [List.pairwise_iff_getElem]
    intro i j hi hj hij
    have hi' : i < d'.size := by simpa using hi
    have hj' : j < d'.size := by simpa using hj
    have := h3 i j (Nat.zero_le _) hij (by simp; omega)
    rw [ltK, getElem!_pos d' i hi', getElem!_pos d' j hj'] at this
    simp only [decide_eq_false_iff_not, Int.not_lt] at this
    simpa using this

/-- Tokens as they are: a list in the order of the turns. -/
structure Ordered (D : DataW Value) (tf : List UInt8 → Int) (toks : List ByteArray) : Prop where
  perm : (toks.map (fun t => t.data.toList)).Perm (strKeys D)
  asc : toks.Pairwise (fun x y => tf x.data.toList < tf y.data.toList)

theorem ordered_eq {tf : List UInt8 → Int} {a b : List (List UInt8)} (hp : a.Perm b) (ha : a.Pairwise (fun x y => tf x ≤ tf y)) (hb : b.Pairwise (fun x y => tf x < tf y)) : a = b := by
  have inj : ∀ (l : List (List UInt8)), l.Pairwise (fun x y => tf x < tf y) → ∀ x y, x ∈ l → y ∈ l → tf x = tf y → x = y := by
    intro l
    induction l with
    | nil => intro _ x y hx; cases hx
    | cons z l ih =>
      intro h x y hx hy e
      rw [List.pairwise_cons] at h
      rcases List.mem_cons.1 hx with rfl | hx' <;> rcases List.mem_cons.1 hy with rfl | hy'
      · rfl
      · have := h.1 y hy'; omega
      · have := h.1 x hx'; omega
      · exact ih h.2 x y hx' hy' e
  refine List.Perm.eq_of_pairwise (le := fun x y => tf x ≤ tf y) ?_ ha (hb.imp (fun h => Int.le_of_lt h)) hp
  intro x y hx hy h1 h2
  exact inj b hb x y (hp.mem_iff.1 hx) hy (by omega)
end Go.Proofs.Ytkbbaokllgmhiaa
