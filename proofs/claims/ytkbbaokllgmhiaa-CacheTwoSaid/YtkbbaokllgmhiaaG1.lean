/- near: the law's own reckoning of what is known. -/
import Derived.Test.YtkbbaokllgmhiaaE5
import Derived.Test.YtkbbaokllgmhiaaPure
namespace Go.Proofs.Ytkbbaokllgmhiaa
open Go.RowKit Go.Maps Go.MuLone Go.Sort Go.Shelf

instance memDec (x : ByteArray) (l : List ByteArray) : Decidable (x ∈ l) := @List.instDecidableMemOfLawfulBEq ByteArray instBEqOfDecidableEq _ x l

theorem near_step (t : ByteArray) (most : Nat) (xs ls : List ByteArray) (k : Nat) (h : k < xs.length) :
    CM.nearGo t most (xs.take (k + 1)).reverse ls = if xs[k] = t then true else if (if xs[k] ∈ ls then ls else ls ++ [xs[k]]).length = most then false else CM.nearGo t most (xs.take k).reverse (if xs[k] ∈ ls then ls else ls ++ [xs[k]]) := by
  rw [List.take_succ_eq_append_getElem h, List.reverse_append]
  rfl
theorem filter_none (ls : List ByteArray) (x : ByteArray) : (ls.filter (fun y => decide (y = x))).length = 0 ↔ x ∉ ls := by
  rw [List.length_eq_zero_iff, List.filter_eq_nil_iff]
  constructor
  · intro h hx; exact h x hx (by simp)
  · intro h y hy e; simp at e; exact h (e ▸ hy)

set_option maxRecDepth 100000 in
set_option maxHeartbeats 1600000 in
theorem near_any {w : World} {F : Nat → Prop} {v : Value} (xs : List ByteArray) (t : ByteArray) (most : Nat) (hv : Strs w F v xs) (hm : xs.length ≤ 100000) (hm2 : most ≤ 1024) :
    Calls Try.prog 16 #[v, .string t, .int .i64 (most : Int)] w fun e w' => e = .returned (.bool (CM.nearGo t most xs.reverse [])) ∧ Below w.heap.size w w' := by
  have HV := Lib.hid hv.bound
  obtain ⟨a, ca, rfl, ha⟩ := hv
  have hcell : ∀ k (h : k < xs.length), ∃ b off, a = some ⟨b, off, none⟩ ∧ b < w.heap.size ∧ w.cell? ⟨b, off + k, none⟩ = some (.string xs[k]) := fun k h => by
    obtain ⟨b, off, e, _, hb, hc⟩ := ha (fun e => by simp [e] at h)
    exact ⟨b, off, e, hb, hc k h⟩
  have HX := Lib.hid hcell
  clear ha hcell
  generalize hres : CM.nearGo t most xs.reverse [] = res
  have HRES := Lib.hid hres
  clear hres
  go_enter Try.func16, Try.ntmps16
  go_wp2
  go_loopw [7, 8] (fun s i wr => ∃ (k : Nat) (p : Option Addr) (cap : Nat) (ls : List ByteArray), k ≤ xs.length ∧ i = .int .i64 ((k : Int) - 1) ∧ s = .slice p ls.length cap ∧ Lst wr w.heap.size (.slice p ls.length cap) ls ∧ ls.length + k ≤ xs.length ∧ Kp (fun b => w.heap.size ≤ b) w wr ∧ CM.nearGo t most (xs.take k).reverse ls = res) (fun _ i _ => (intOf i + 1).toNat)
  case atStart =>
    refine ⟨xs.length, none, 0, [], Nat.le_refl _, by go_num, rfl, Lst.nil _ _, by simp, Kp.refl _ _, ?_⟩
    rw [List.take_length]; exact HRES.out
  case round =>
    obtain ⟨k, p, cap, ls, hk, rfl, rfl, hL, hlk, hK, hN⟩ := hrel
    have HL := Lib.hid hL
    have HK := Lib.hid hK
    have HN := Lib.hid hN
    clear hL hK hN
    rcases Nat.eq_zero_or_pos k with rfl | hp
    · have hr : res = false := by rw [← HN.out]; rfl
      go_wp2
      go_ret
      exact ⟨by rw [hr]; rfl, HK.out.below (Nat.le_refl _) (fun b hb e => by omega)⟩
    · obtain ⟨j, rfl⟩ : ∃ j, k = j + 1 := ⟨k - 1, by omega⟩
      obtain ⟨b, off, rfl, hb, hc⟩ := HX.out j (by omega)
      have hcw : wr.cell? ⟨b, off + j, none⟩ = some (.string xs[j]) := (HK.out.cell (a := ⟨b, off + j, none⟩) hb (by simp; omega)).trans hc
      have hst := near_step t most xs ls j (by omega)
      rw [HN.out] at hst
      have hi : ((j + 1 : Nat) : Int) - 1 = (j : Int) := by omega
      rw [hi]
      have g0 : (0 : Int) ≤ (j : Int) := by omega
      have g1 : (j : Int) < (xs.length : Int) := by omega
      have hbr : b < wr.heap.size := Nat.lt_of_lt_of_le hb HK.out.size
      generalize xs[j] = x at hcw hst
      clear hc hi
      have HST := Lib.hid hst
      clear hst
      by_cases hx : x = t
      · have gx : (x.toList == t.toList) = true := by rw [hx]; simp
        have hr : res = true := by rw [HST.out, if_pos hx]
        clear hx
        go_wp2
        go_ret
        exact ⟨by rw [hr]; rfl, HK.out.below (Nat.le_refl _) (fun b hb e => by omega)⟩
      · have gx : (x.toList == t.toList) = false := eqT_false hx
        have hst2 := HST.out
        rw [if_neg hx] at hst2
        have HST2 := Lib.hid hst2
        clear hst2 HST hx
        have ham := among_any ls x HL.out.strs (by omega)
        by_cases hin : x ∈ ls
        · obtain ⟨c, hc⟩ : ∃ c, (ls.filter (fun y => decide (y = x))).length = c := ⟨_, rfl⟩
          rw [hc] at ham
          have hc0 : ¬ (c : Int) = 0 := fun e => (filter_none ls x).1 (by omega) hin
          have hc1 : ¬ c = 0 := by omega
          have hst3 := HST2.out
          rw [if_pos hin] at hst3
          have HST3 := Lib.hid hst3
          have HAM := Lib.hid ham
          clear ham hst3 HST2 hin hc
          by_cases hfull : ls.length = most
          · have gf : (ls.length : Int) = (most : Int) := by omega
            subst hfull
            have hr : res = false := by rw [HST3.out, if_pos rfl]
            go_wp2_with (go_at_call 12; refine HAM.out.mono ?_; rintro e w1 ⟨rfl, q, rfl⟩; have hcq : (wr.drewN q).cell? ⟨b, off + j, none⟩ = some (.string x) := hcw; have hbq : b < (wr.drewN q).heap.size := hbr)
            go_ret
            exact ⟨by rw [hr]; rfl, (HK.out.drewN q).below (Nat.le_refl _) (fun b hb e => by omega)⟩
          · have gf : ¬ (ls.length : Int) = (most : Int) := by omega
            have gf2 : ¬ ls.length = most := hfull
            have hr := HST3.out
            rw [if_neg hfull] at hr
            have HR := Lib.hid hr
            clear hr
            go_wp2_with (go_at_call 12; refine HAM.out.mono ?_; rintro e w1 ⟨rfl, q, rfl⟩; have hcq : (wr.drewN q).cell? ⟨b, off + j, none⟩ = some (.string x) := hcw; have hbq : b < (wr.drewN q).heap.size := hbr)
            go_roundw
            case rel => exact ⟨j, p, cap, ls, by omega, by go_num, rfl, HL.out, by omega, HK.out.drewN q, HR.out.symm⟩
            case measure => simp [intOf] <;> omega
        · have hc : (ls.filter (fun y => decide (y = x))).length = 0 := (filter_none ls x).2 hin
          rw [hc] at ham
          have hst3 := HST2.out
          rw [if_neg hin] at hst3
          have HST3 := Lib.hid hst3
          have HAM := Lib.hid ham
          clear ham hst3 HST2 hin hc
          have hle : w.heap.size ≤ ((wr.drewN 0).alloc (.cells #[.string x] 9)).heap.size := by have := HK.out.size; simp; omega
          have HLE := Lib.hid hle
          clear hle
          have hlen : (ls ++ [x]).length = ls.length + 1 := by simp
          rw [hlen] at HST3
          have HLEN := Lib.hid hlen
          clear hlen
          by_cases hfull : ls.length + 1 = most
          · have gf : ((ls.length : Int) + 1) = (most : Int) := by omega
            have hr : res = false := by rw [HST3.out, if_pos hfull]
            have HFU := Lib.hid hfull
            clear hfull
            go_wp2_with (first | (go_at_call 12; refine HAM.out.mono ?_; rintro e w1 ⟨rfl, q, rfl⟩; have hcq : (wr.drewN q).cell? ⟨b, off + j, none⟩ = some (.string x) := hcw; have hbq : b < (wr.drewN q).heap.size := hbr) | (at_builtin; refine wpList_app_lst rfl _ _ rfl _ w.heap.size ls rfl (World.ownsRow.alloc (show (wr.drewN q).ownsRow w.heap.size 9 1 _ _ _ from HL.out) _) HLE.out _ 1 rfl x ((World.cell?_alloc_at _ _ _ _ (by simp)).trans rfl) (by omega) ?_; intro g cap' w2 hL2 hgr hg; have HQ := Lib.hid (And.intro hL2 (((HK.out.drewN q).alloc (.cells #[.string x] 9)).grown hgr (fun b hb => .inl (World.ownsRow.lt HL.out b hb).1))); clear hL2 hgr))
            go_ret
            exact ⟨by rw [hr]; rfl, HQ.out.2.below (Nat.le_refl _) (fun b hb e => by omega)⟩
          · have gf : ¬ ((ls.length : Int) + 1) = (most : Int) := by omega
            have gf2 : ¬ ls.length + 1 = most := hfull
            have hr := HST3.out
            rw [if_neg hfull] at hr
            have HR := Lib.hid hr
            clear hr
            go_wp2_with (first | (go_at_call 12; refine HAM.out.mono ?_; rintro e w1 ⟨rfl, q, rfl⟩; have hcq : (wr.drewN q).cell? ⟨b, off + j, none⟩ = some (.string x) := hcw; have hbq : b < (wr.drewN q).heap.size := hbr) | (at_builtin; refine wpList_app_lst rfl _ _ rfl _ w.heap.size ls rfl (World.ownsRow.alloc (show (wr.drewN q).ownsRow w.heap.size 9 1 _ _ _ from HL.out) _) HLE.out _ 1 rfl x ((World.cell?_alloc_at _ _ _ _ (by simp)).trans rfl) (by omega) ?_; intro g cap' w2 hL2 hgr hg; have HQ := Lib.hid (And.intro hL2 (((HK.out.drewN q).alloc (.cells #[.string x] 9)).grown hgr (fun b hb => .inl (World.ownsRow.lt HL.out b hb).1))); clear hL2 hgr))
            go_roundw
            case rel => exact ⟨j, _, cap', ls ++ [x], by omega, by go_num, by rw [HLEN.out], by rw [HLEN.out]; exact HQ.out.1, by rw [HLEN.out]; omega, HQ.out.2, HR.out.symm⟩
            case measure => simp [intOf] <;> omega
end Go.Proofs.Ytkbbaokllgmhiaa
