/- The laws' small helpers: num, Within, size, among. -/
import Derived.Test.YtkbbaokllgmhiaaE1
namespace Go.Proofs.Ytkbbaokllgmhiaa
open Go.RowKit Go.Maps Go.MuLone Go.Sort Go.Shelf

theorem num_any (n : Int) (w : World) : Calls Try.prog 9 #[.int .i64 n] w fun e w' => e = .returned (.int .i64 n) ∧ w' = w := by
  go_enter Try.func9, Try.ntmps9
  go_wp2
  go_ret
  exact ⟨rfl, rfl⟩

theorem within_any (n m : Int) (hm : 0 < m) (h : m ≤ 1000000000) (w : World) : Calls Try.prog 19 #[.int .i64 n, .int .i64 m] w fun e w' => e = .returned (.int .i64 (n % m)) ∧ w' = w := by
  have hr : ∀ x : Int, -1000000000 ≤ x → x ≤ 1000000000 → IntKind.i64.wrap x = x := fun x h1 h2 => IntWalk.i64_in _ (by omega)
  have m0 : ¬ m = 0 := by omega
  have e1 := Int.emod_nonneg n m0
  have e2 := Int.emod_lt_of_pos n hm
  have et := Int.tmod_eq_emod (a := n) (b := m)
  have ha : (m.natAbs : Int) = m := by omega
  by_cases hx : 0 ≤ n ∨ m ∣ n
  · simp [if_pos hx] at et
    have i1 := hr (n.tmod m) (by omega) (by omega)
    rw [et] at i1
    have g : ¬ n % m < 0 := by omega
    go_enter Try.func19, Try.ntmps19
    go_wp2
    go_ret
    exact ⟨rfl, rfl⟩
  · rw [if_neg hx, ha] at et
    have hne : n % m ≠ 0 := fun e => hx (.inr (Int.dvd_of_emod_eq_zero e))
    have i1 := hr (n.tmod m) (by omega) (by omega)
    rw [et] at i1
    have g : n % m - m < 0 := by omega
    have i2 := hr (n % m - m + m) (by omega) (by omega)
    have i3 : n % m - m + m = n % m := by omega
    rw [i3] at i2
    go_enter Try.func19, Try.ntmps19
    go_wp2
    go_ret
    exact ⟨rfl, rfl⟩

theorem size_any (n : Int) (w : World) : Calls Try.prog 13 #[.int .i64 n] w fun e w' => e = .returned (.int .i64 (1 + n % 1024)) ∧ w' = w := by
  have e1 := Int.emod_nonneg n (b := 1024) (by decide)
  have e2 := Int.emod_lt_of_pos n (b := 1024) (by decide)
  have hw : IntKind.i64.wrap (1 + n % 1024) = 1 + n % 1024 := IntWalk.i64_in _ (by omega)
  have hc : ∀ W : World, Calls Try.prog 19 #[.int .i64 n, .int .i64 1024] W fun e w' => e = .returned (.int .i64 (n % 1024)) ∧ w' = W := fun W => within_any n 1024 (by decide) (by decide) W
  have HC := Lib.hid hc
  clear hc
  generalize n % 1024 = m at *
  go_enter Try.func13, Try.ntmps13
  go_wp2_with (go_at_call 19; refine (HC.out _).mono ?_; rintro e w' ⟨rfl, rfl⟩)
  go_ret
  exact ⟨rfl, rfl⟩

theorem eqT_false {x t : ByteArray} (h : x ≠ t) : (x.toList == t.toList) = false := by
  rw [beq_eq_false_iff_ne]
  intro e
  rw [ByteArray.toList_eq, ByteArray.toList_eq] at e
  exact h (Go.Proofs.Ytkbbaokllgmhiaa.bytes_inj e)
/-- How often a text stands in a list. -/
theorem count_snoc (xs : List ByteArray) (t : ByteArray) (k : Nat) (h : k < xs.length) : ((xs.take (k + 1)).filter (fun x => decide (x = t))).length = ((xs.take k).filter (fun x => decide (x = t))).length + (if xs[k] = t then 1 else 0) := by
  rw [List.take_succ_eq_append_getElem h, List.filter_append]
  by_cases e : xs[k] = t <;> simp [e]

set_option maxHeartbeats 800000 in
theorem among_any {w : World} {F : Nat → Prop} {v : Value} (xs : List ByteArray) (t : ByteArray) (hv : Strs w F v xs) (hm : xs.length ≤ 1000000) :
    Calls Try.prog 12 #[v, .string t] w fun e w' => e = .returned (.int .i64 ((xs.filter (fun x => decide (x = t))).length : Int)) ∧ ∃ q, w' = w.drewN q := by
  obtain ⟨a, ca, rfl, ha⟩ := hv
  have hcell : ∀ k (h : k < xs.length), ∃ b off, a = some ⟨b, off, none⟩ ∧ w.cell? ⟨b, off + k, none⟩ = some (.string xs[k]) := fun k h => by
    obtain ⟨b, off, e, _, _, hc⟩ := ha (fun e => by simp [e] at h)
    exact ⟨b, off, e, hc k h⟩
  clear ha
  go_enter Try.func12, Try.ntmps12
  go_wp2
  go_loopw [5, 6] (fun c i wr => ∃ k q : Nat, k ≤ xs.length ∧ i = .int .i64 k ∧ c = .int .i64 (((xs.take k).filter (fun x => decide (x = t))).length : Int) ∧ wr = w.drewN q) (fun _ i _ => xs.length - (intOf i).toNat)
  case atStart => exact ⟨0, 0, by omega, rfl, rfl, rfl⟩
  case round =>
    obtain ⟨k, q, hk, rfl, rfl, rfl⟩ := hrel
    by_cases hlt : k < xs.length
    · obtain ⟨b, off, rfl, h1⟩ := hcell k hlt
      have HS := Lib.hid (count_snoc xs t k hlt)
      have hle : ((xs.take k).filter (fun x => decide (x = t))).length ≤ k := Nat.le_trans (List.length_filter_le _ _) (by simp; omega)
      generalize hn : ((xs.take k).filter (fun x => decide (x = t))).length = n at *
      have HN := Lib.hid hn
      have HX := Lib.hid hcell
      clear hn hcell
      have g1 : (0 : Int) ≤ (k : Int) := by omega
      have g2 : (k : Int) < (xs.length : Int) := by omega
      generalize hx : xs[k] = x at h1 HS
      clear hx
      by_cases hxt : x = t
      · subst hxt
        have g3 : (x.toList == x.toList) = true := by simp
        go_wp2
        go_roundw
        case rel => exact ⟨k + 1, _, by omega, by go_num, by rw [HS.out, if_pos rfl]; go_num, rfl⟩
        case measure => simp [intOf]; omega
      · have g3 : (x.toList == t.toList) = false := eqT_false hxt
        go_wp2
        go_roundw
        case rel => exact ⟨k + 1, _, by omega, by go_num, by rw [HS.out, if_neg hxt, Nat.add_zero], rfl⟩
        case measure => simp [intOf]; omega
    · have hk' : k = xs.length := by omega
      have HT : xs.take k = xs := List.take_of_length_le (by omega)
      rw [HT]
      go_wp2
      go_ret
      exact ⟨rfl, _, rfl⟩
end Go.Proofs.Ytkbbaokllgmhiaa
