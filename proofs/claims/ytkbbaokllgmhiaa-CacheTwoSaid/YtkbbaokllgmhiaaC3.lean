/- slices.SortedFunc over a map's keys; (*Cache).order: the tokens that are remembered, the least recently asked first. -/
import Derived.Test.YtkbbaokllgmhiaaC2
namespace Go.Proofs.Ytkbbaokllgmhiaa
open Go.RowKit Go.Maps Go.MuLone Go.Sort Go.Shelf

theorem Strs.of_encRow {w : World} {base n : Nat} {v : Value} {toks : List ByteArray} (h : w.ownsRow base 9 1 v n ((toks.map (fun t => t.data.toList)).map encStr)) (hn : n = toks.length) : Strs w (fun b => base ≤ b) v toks := by
  subst hn
  have e : (toks.map (fun t => t.data.toList)).map encStr = toks.map Value.string := by
    rw [List.map_map]; apply List.map_congr_left; intro t _; simp [encStr]
  rw [e] at h
  exact Strs.of_row h

theorem sorted_row {w : World} {g k : Nat} {os : Array Obj} {cur : Array Value} (d : List KeyT) (hb : w.heap[g]? = some (.cells cur 9 (0, 0))) : hasRow (sortWorld encK w g 0 k d.toArray os) g (putCells encK 0 d.toArray cur) := by
  have hg : g < w.heap.size := (Array.getElem?_eq_some_iff.1 hb).1
  refine ⟨9, ?_⟩
  unfold sortWorld
  rw [heap_grow_old _ _ (by simpa [putRow, mapBlock, Sort.ahead] using hg)]
  simp [putRow, mapBlock, Sort.ahead, Array.getElem?_modify, hb, onCells]

theorem sorted_kp {w : World} {g k : Nat} {os : Array Obj} (d : List KeyT) : Kp (fun b => b = g) w (sortWorld encK w g 0 k d.toArray os) := by
  refine ⟨rfl, rfl, rfl, ?_, fun j hj hne => sortWorld_block _ _ _ _ _ _ _ _ hj hne⟩
  unfold sortWorld
  simp [putRow, mapBlock, Sort.ahead, grow]

set_option maxHeartbeats 1000000 in
theorem sortedFunc (B c M n : Nat) (D : DataW Value) (tf : List UInt8 → Int) (toks : List ByteArray) (w : World) (hb : w.cell? ⟨B, 0, none⟩ = some (.pointer (some ⟨c, 0, none⟩))) (hc : w.cell? ⟨c, 5, none⟩ = some (.map (some M)))
    (hown : w.ownsMap Try.prog 9 RV M n D) (hT : Turns D tf) (hO : Ordered D tf toks) (hmax : Maps.size D ≤ 1000000) :
    Calls Try.prog 31 #[.func (.func 46) #[] #[.pointer (some ⟨w.heap.size, 0, none⟩)], .func (.func 33) #[] #[.pointer (some ⟨B, 0, none⟩)]] (w.alloc (.cells #[.map (some M)] 69)) fun e w' => ∃ p cap, e = .returned (.slice p toks.length cap) ∧
      Strs w' (fun b => w.heap.size ≤ b) (.slice p toks.length cap) toks ∧ Below w.heap.size w w' := by
  have hbl := World.block_lt_of_cell? _ _ hb
  have hcl := World.block_lt_of_cell? _ _ hc
  have hml := hown.lt
  have hle := strKeys_le hown Try.underlying9
  have hcol := collect_keys M n D w hown hmax
  have hlen : toks.length ≤ 1000000 := by
    have h1 := hO.perm.length_eq
    obtain ⟨es, rfl, _⟩ := hown.entries law9
    simp [strKeys, Maps.size] at h1 hmax
    omega
  simp only at hbl hcl
  have HB := Lib.hid hb
  have HC := Lib.hid hc
  have HO := Lib.hid hown
  have HCol := Lib.hid hcol
  clear hb hc hown hcol
  go_enter Try.func31, Try.ntmps31
  go_wp2_with fail
  refine HCol.out.mono ?_
  rintro e w1 ⟨v, ss, rfl, hperm, hrow, hnil, hbw⟩
  have hp := hO.perm.trans hperm.symm
  have hbw' : Below w.heap.size w w1 := ((Below.refl _ w).alloc (Nat.le_refl _) _).trans (hbw.mono (by simp))
  rcases hrow.2 with ⟨rfl, hz⟩ | ⟨gb, cap, cur, rfl, hbase, hgb, r1, r2, r3, r4⟩
  · have hss : ss = [] := List.eq_nil_of_length_eq_zero hz
    subst hss
    have ht : toks = [] := by simpa using hp.eq_nil
    subst ht
    have HBW := Lib.hid hbw'
    clear hbw hbw' hrow hnil hperm hp
    go_wp2_with fail
    refine (sort_none _ _ _ _).mono ?_
    rintro e w' ⟨rfl, rfl⟩
    go_wp2
    go_ret
    exact ⟨none, 0, rfl, Strs.nil _ _ _ _, HBW.out⟩
  · obtain ⟨ds, hds⟩ : ∃ ds : List KeyT, ds.map (·.1) = ss := ⟨ss.attachWith _ (fun x hx => hle x (hperm.mem_iff.1 hx)), by simp⟩
    subst hds
    have hl : ds.length ≤ 1000000 := by have := hp.length_eq; simp at this; omega
    simp only [World.size_alloc] at hbase
    have k1 := hbw'
    have hs := sort_keys B c M n gb cap D tf ds cur w1 ((World.cell?_of_block (w := w) (a := ⟨B, 0, none⟩) (k1.block B hbl)).trans HB.out) ((World.cell?_of_block (w := w) (a := ⟨c, 5, none⟩) (k1.block c hcl)).trans HC.out)
      (by obtain ⟨es, clock, h, r⟩ := HO.out; exact ⟨es, clock, (k1.block M hml).trans h, r⟩) hT (by omega) (by omega) (by omega) hgb (by
        have : (ds.map (·.1)).map encStr = ds.map encK := by rw [List.map_map]; rfl
        rw [← this]; simpa using r4) hl
    have HS := Lib.hid hs
    have HBW := Lib.hid hbw'
    have HR := Lib.hid (And.intro hgb (And.intro r1 (And.intro r2 r3)))
    have HP := Lib.hid hp
    clear hbw hbw' hrow hnil hperm hp hs k1 hgb r1 r2 r3 r4
    rw [List.length_map]
    go_wp2_with fail
    refine HS.out.mono ?_
    rintro e w2 ⟨rfl, d', k, os, hd1, hd2, rfl⟩
    go_wp2
    go_ret
    obtain ⟨hgb, r1, r2, r3⟩ := HR.out
    have heq : d'.map (·.1) = toks.map (fun t => t.data.toList) := by
      refine ordered_eq (tf := tf) ((hd1.map _).trans HP.out.symm) ?_ ?_
      · exact List.pairwise_map.2 hd2
      · exact List.pairwise_map.2 hO.asc
    have r1' : ds.length ≤ cap := by simpa using r1
    have hlt : ds.length = toks.length := by have := congrArg List.length heq; have h2 := hd1.length_eq; simp at this; omega
    refine ⟨some ⟨gb, 0, none⟩, cap, by rw [hlt]; rfl, ?_, ?_⟩
    · refine Strs.of_hasRow (F := fun b => w.heap.size ≤ b) (sorted_row d' hgb) (by omega) ?_
      intro i hi
      have hi' : i < d'.length := by have := congrArg List.length heq; simp at this; omega
      have e1 : (d'.map (·.1))[i]? = (toks.map (fun t => t.data.toList))[i]? := by rw [heq]
      simp [hi, hi'] at e1
      have hc : i < cur.size := by rw [r3]; have := hd1.length_eq; omega
      simp [putCells, hi', hc, encK, encStr, e1]
    · exact Kp.below ((Kp.of_below (F := fun b => w.heap.size ≤ b) HBW.out).trans (sorted_kp d') (fun b _ hb => by subst hb; omega)) (Nat.le_refl _) (fun b hb hf => by omega)

set_option maxHeartbeats 1000000 in
theorem order_any (c M n : Nat) (D : DataW Value) (tf : List UInt8 → Int) (toks : List ByteArray) (w : World) (hc : w.cell? ⟨c, 5, none⟩ = some (.map (some M)))
    (hown : w.ownsMap Try.prog 9 RV M n D) (hT : Turns D tf) (hO : Ordered D tf toks) (hmax : Maps.size D ≤ 1000000) :
    Calls Try.prog 25 #[.pointer (some ⟨c, 0, none⟩)] w fun e w' => ∃ p cap, e = .returned (.slice p toks.length cap) ∧ Strs w' (fun b => w.heap.size ≤ b) (.slice p toks.length cap) toks ∧ Below w.heap.size w w' := by
  have hcl := World.block_lt_of_cell? _ _ hc
  simp only at hcl
  have hown1 : (w.alloc (.cells #[.pointer (some ⟨c, 0, none⟩)] 24)).ownsMap Try.prog 9 RV M n D := hown.alloc _
  have h1 := sortedFunc w.heap.size c M n D tf toks (w.alloc (.cells #[.pointer (some ⟨c, 0, none⟩)] 24)) (by simp) (cell_old hc) hown1 hT hO hmax
  simp only [World.size_alloc] at h1
  have H1 := Lib.hid h1
  have hk := keys_32
  have HK := Lib.hid hk
  clear h1 hk hown hown1 hT hO hmax
  go_enter Try.func25, Try.ntmps25
  go_wp2_with fail
  refine (HK.out _ _).mono ?_
  rintro e w' ⟨rfl, rfl⟩
  go_wp2_with fail
  refine H1.out.mono ?_
  rintro e w' ⟨p, cap, rfl, hs, hb⟩
  have HS := Lib.hid hs
  have HB := Lib.hid hb
  clear hs hb
  go_wp2
  go_ret
  exact ⟨p, cap, rfl, HS.out.mono (fun b hb => by omega), ((Below.refl _ w).alloc (Nat.le_refl _) _).trans (HB.out.mono (by omega))⟩
end Go.Proofs.Ytkbbaokllgmhiaa
