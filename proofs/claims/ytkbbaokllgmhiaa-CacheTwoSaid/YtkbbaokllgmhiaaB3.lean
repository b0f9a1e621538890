/- slices.Clone, copied: a list of texts in new memory. -/
import Derived.Test.YtkbbaokllgmhiaaB1
import Derived.Test.YtkbbaokllgmhiaaShelf
namespace Go.Proofs.Ytkbbaokllgmhiaa
open Go.RowKit Go.Maps Go.MuLone

/-- What owns a row of texts holds them. -/
theorem Strs.of_row {w : World} {base : Nat} {v : Value} {xs : List ByteArray} (h : w.ownsRow base 9 1 v xs.length (xs.map Value.string)) : Strs w (fun b => base ≤ b) v xs := by
  obtain ⟨_, h | ⟨g, cap, cur, rfl, hb, hg, hn, hcap, hs, ht⟩⟩ := h
  · obtain ⟨rfl, h0⟩ := h
    have : xs = [] := List.eq_nil_of_length_eq_zero h0
    subst this
    exact ⟨none, 0, rfl, fun h => absurd rfl h⟩
  · refine ⟨_, cap, rfl, fun _ => ⟨g, 0, rfl, hb, (Array.getElem?_eq_some_iff.1 hg).1, fun i hi => ?_⟩⟩
    have h1 : (cur.toList.take (xs.length * 1))[i]? = (xs.map Value.string)[i]? := by rw [ht]
    rw [Nat.mul_one, List.getElem?_take, if_pos hi, Array.getElem?_toList] at h1
    simp only [World.cell?, hg, Nat.zero_add]
    rw [if_neg (by simp), h1]
    simp [hi]

theorem Strs.of_hasRow {w : World} {F : Nat → Prop} {g cap : Nat} {C : Array Value} {xs : List ByteArray} (h : hasRow w g C) (hF : F g) (hx : ∀ i (hi : i < xs.length), C[i]? = some (.string xs[i])) : Strs w F (.slice (some ⟨g, 0, none⟩) xs.length cap) xs :=
  ⟨_, cap, rfl, fun _ => ⟨g, 0, rfl, hF, h.lt, fun i hi => by rw [Nat.zero_add, h.cell, hx i hi]⟩⟩

theorem Strs.nil (w : World) (F : Nat → Prop) (a : Option Addr) (c : Nat) : Strs w F (.slice a 0 c) [] := ⟨a, c, rfl, fun h => absurd rfl h⟩

theorem Strs.slice {w : World} {F : Nat → Prop} {v : Value} {xs : List ByteArray} (h : Strs w F v xs) : ∃ p c, v = .slice p xs.length c := let ⟨a, cap, hv, _⟩ := h; ⟨a, cap, hv⟩

theorem clone_strs {w : World} {F : Nat → Prop} {v : Value} {xs : List ByteArray} (h : Strs w F v xs) (hm : xs.length ≤ 1000000) :
    Calls Try.prog 35 #[v] w fun e w' => ∃ p c, e = .returned (.slice p xs.length c) ∧ Strs w' (fun b => w.heap.size ≤ b) (.slice p xs.length c) xs ∧ Below w.heap.size w w' := by
  have fin : ∀ (v' : Value) (e : Ending) (w' : World), e = .returned v' → Strs w' (fun b => w.heap.size ≤ b) v' xs → Below w.heap.size w w' →
      ∃ p c, e = .returned (.slice p xs.length c) ∧ Strs w' (fun b => w.heap.size ≤ b) (.slice p xs.length c) xs ∧ Below w.heap.size w w' := fun v' e w' he hs hb => by
    obtain ⟨p, c, rfl⟩ := hs.slice
    exact ⟨p, c, he, hs, hb⟩
  obtain ⟨a, cap, rfl, hx⟩ := h
  by_cases hne : xs = []
  · subst hne
    cases a with
    | none => exact (Any.slices_Clone_string_nil Try.laysNm216 0 cap w).mono fun e w' ⟨he, hw⟩ => fin _ e w' he (Strs.nil _ _ _ _) (hw ▸ Below.refl _ _)
    | some a => exact (Any.slices_Clone_string_zero Try.laysNm216 a cap w).mono fun e w' ⟨v', he, ho, _, hb⟩ => fin _ e w' he (Strs.of_row (xs := []) ho) hb
  · obtain ⟨b, off, rfl, _, _, hc⟩ := hx hne
    refine (Any.slices_Clone_string Try.laysNm216 b off xs.length cap xs w (Nat.le_refl _) (by omega) (fun j hj => by rw [hc j hj, bset_getD])).mono fun e w' ⟨v', he, ho, _, hb⟩ => fin _ e w' he (Strs.of_row ?_) hb
    rw [List.take_length] at ho
    exact ho

set_option maxRecDepth 100000 in
set_option maxHeartbeats 800000 in
theorem copied_any {w : World} {F : Nat → Prop} {p : Option Addr} {c : Nat} {xs : List ByteArray} (iss sub : ByteArray) (g e : Int) (h : Strs w F (.slice p xs.length c) xs) (hm : xs.length ≤ 1000000) :
    Calls Try.prog 28 #[clm iss sub (.slice p xs.length c) g e] w fun r w' => ∃ p' c', r = .returned (clm iss sub (.slice p' xs.length c') g e) ∧ Strs w' (fun b => w.heap.size ≤ b) (.slice p' xs.length c') xs ∧ Below w.heap.size w w' := by
  have H := Lib.hid h
  clear h
  go_enter Try.func28, Try.ntmps28
  go_wp2_with fail
  refine (clone_strs ((H.out.keep (((Kp.refl (fun _ => False) w).alloc _).alloc _) (fun _ _ h => h))) hm).mono ?_
  rintro r w1 ⟨p', c', rfl, hs, hb⟩
  have hz := hb.size
  simp only [World.size_alloc] at hz
  have b0 := (hb.block _ (by simp; omega)).trans (block_new1 w _ _)
  have b1 := (hb.block _ (by simp)).trans (block_new2 w _ _)
  obtain ⟨q0, y0, l0⟩ := cells_of_block b0
  have b0' := block_set (i := 4) b0 (.slice p' xs.length c')
  have b1' := (block_set_other (i := 4) (show w.heap.size + 1 ≠ w.heap.size by omega) (.slice p' xs.length c')).trans b1
  have HS := Lib.hid hs
  have HB := Lib.hid hb
  have B0 := Lib.hid b0'
  have B1 := Lib.hid b1'
  clear hs hb b0 b1 b0' b1'
  go_wp2_with (first
    | (refine wpList_load_row rfl 48 _ rfl _ rfl 48 _ (0, 0) _ B0.out Try.underlying48 rfl (by kernel_rfl) ?_)
    | (refine wpList_store_row rfl 48 _ _ rfl _ _ rfl rfl 48 _ B1.out ?h1 ?h2 ?h3 ?_))
  case h1 => kernel_rfl
  case h2 => rfl
  case h3 => simp [Value.oneCell', Array.setIfInBounds]
  refine bodyPost_ret_by (v := clm iss sub (.slice p' xs.length c') g e) (results_cell_row (p := 2) (ty := 48) rfl _ _ _ 48 _ (0, 0) _ rfl (setRow_heap _ _ _ _ _ _ B1.out) Try.underlying48 rfl (by kernel_rfl)) rfl ⟨p', c', rfl, ?_, ?_⟩
  · refine (HS.out.keep (((Kp.refl (fun b => b = w.heap.size ∨ b = w.heap.size + 1) w1).setCell (a := ⟨w.heap.size, 4, none⟩) (.inl (.inl rfl)) _).setRow (.inl (.inr rfl)) _) ?_).mono ?_
    · intro b hb; simp only [World.size_alloc] at hb; omega
    · intro b hb; simp only [World.size_alloc] at hb; omega
  · refine Kp.below (F := fun b => w.heap.size ≤ b) ?_ (Nat.le_refl _) (fun b hb hf => by omega)
    exact ((((((Kp.refl _ w).alloc _).alloc _).trans (G := fun b => w.heap.size ≤ b) (Kp.of_below HB.out) (fun _ _ h => h)).setCell (a := ⟨w.heap.size, 4, none⟩) (.inl (Nat.le_refl _)) _).setRow (.inl (by omega)) _)
end Go.Proofs.Ytkbbaokllgmhiaa
