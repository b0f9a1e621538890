/- What the honest source tells of a token: a function of its version and the token. -/
import Derived.Test.YtkbbaokllgmhiaaB3
import Derived.Deep.RegionHeld3
import Derived.Deep.RegionLaw
namespace Go.Proofs.Ytkbbaokllgmhiaa
open Go.RowKit Go.Maps Go.MuLone

def mix (n : Int) (c : UInt8) : Int := IntKind.u64.wrap (IntKind.u64.wrap (n * 31) + IntKind.u64.wrap (c.toNat : Int))
def tn (ver : Int) (l : List UInt8) : Int := l.foldl mix ver
theorem tn_snoc (ver : Int) (l : List UInt8) (c : UInt8) : tn ver (l ++ [c]) = mix (tn ver l) c := by simp [tn]
theorem u64_range (n : Int) : 0 ≤ IntKind.u64.wrap n ∧ IntKind.u64.wrap n < 18446744073709551616 := by
  simp only [IntKind.wrap, IntKind.signed, IntKind.bits, Bool.false_and, Bool.false_eq_true, if_false]; omega
theorem tn_range (ver : Int) (h0 : 0 ≤ ver) (h1 : ver < 18446744073709551616) (l : List UInt8) : 0 ≤ tn ver l ∧ tn ver l < 18446744073709551616 := by
  unfold tn
  induction l generalizing ver with
  | nil => exact ⟨h0, h1⟩
  | cons c l ih => exact ih _ (u64_range _).1 (u64_range _).2
theorem take_snoc (s : ByteArray) (k : Nat) (h : k < s.size) : s.data.toList.take (k + 1) = s.data.toList.take k ++ [s[k]] := by
  rw [List.take_succ_eq_append_getElem (by simpa using h)]; rfl

/-- What is told: an issuer, a subject, scopes, a grant, an end; whether there is any. -/
structure Tell where
  iss : ByteArray
  sub : ByteArray
  scopes : List ByteArray
  grant : Int
  exp : Int
  ok : Bool
def tell (ver : Int) (tok : ByteArray) : Tell :=
  if tn ver tok.data.toList % 3 = 0 then ⟨⟨#[]⟩, ⟨#[]⟩, [], 0, 0, false⟩
  else ⟨⟨#[105]⟩, tok, if tn ver tok.data.toList % 2 = 0 then [⟨#[97]⟩] else [⟨#[97]⟩, ⟨#[98]⟩], tn ver tok.data.toList, ver % 1000, true⟩

set_option maxRecDepth 100000 in
set_option maxHeartbeats 1600000 in
theorem tells_any (S : Nat) (ver : Int) (tok : ByteArray) (w : World) (hv : w.cell? ⟨S, 0, none⟩ = some (.int .u64 ver)) (hs : tok.size ≤ maxLen) (h0 : 0 ≤ ver) (h1 : ver < 18446744073709551616) :
    Calls Try.prog 26 #[.pointer (some ⟨S, 0, none⟩), .string tok] w fun e w' => ∃ p c, e = .returned (.tuple #[clm (tell ver tok).iss (tell ver tok).sub (.slice p (tell ver tok).scopes.length c) (tell ver tok).grant (tell ver tok).exp, .bool (tell ver tok).ok]) ∧
      Strs w' (fun b => w.heap.size ≤ b) (.slice p (tell ver tok).scopes.length c) (tell ver tok).scopes ∧ Below w.heap.size w w' := by
  unfold maxLen at hs
  have hS : S < w.heap.size := World.block_lt_of_cell? _ _ hv
  generalize hte : tell ver tok = te
  have HT := Lib.hid hte
  clear hte
  go_enter Try.func26, Try.ntmps26
  go_wp2
  generalize hW : w.alloc z48 = W
  have hWz : W.heap.size = w.heap.size + 1 := by rw [← hW]; simp
  have hWS : W.cell? ⟨S, 0, none⟩ = some (.int .u64 ver) := by rw [← hW]; exact cell_old hv
  have hB : isRow W w.heap.size 24 := by rw [← hW]; exact (hasRow_new _ _ _).is
  have HK : Hid (Kp (fun b => w.heap.size ≤ b) w W) := by rw [← hW]; exact (Kp.refl _ w).alloc _
  have hSW : S < W.heap.size := by omega
  have hSn : S ≠ w.heap.size := by omega
  have HZ := Lib.hid hWz
  have hgW : w.heap.size < W.heap.size := by omega
  clear hW hv hWz
  go_loop [6, 7] (fun n i => ∃ k : Nat, k ≤ tok.size ∧ i = .int .i64 k ∧ n = .int .u64 (tn ver (tok.data.toList.take k))) (fun _ i => tok.size - (intOf i).toNat)
  case atStart => exact ⟨0, Nat.zero_le _, rfl, rfl⟩
  case round =>
    obtain ⟨k, hk, rfl, rfl⟩ := hrel
    by_cases hlt : k < tok.size
    · have HS := Lib.hid (take_snoc tok k hlt)
      go_wp2
      go_round
      case rel => exact ⟨k + 1, by omega, by go_num, by rw [HS.out, tn_snoc]; rfl⟩
      case measure => simp [intOf]; omega
    · have hN := tn_range ver h0 h1 (tok.data.toList.take k)
      have hT : tok.data.toList.take k = tok.data.toList := List.take_of_length_le (by simp; omega)
      rw [hT] at hN ⊢
      obtain ⟨hN0, hN1⟩ := hN
      have HT2 : Hid (tell ver tok = te) := HT
      unfold tell at HT
      generalize tn ver tok.data.toList = N at hN0 hN1 HT ⊢
      have H1 := Lib.hid hN1
      have H2 := Lib.hid h1
      clear hT hN1 h1
      by_cases h3 : N % 3 = 0
      · have g3 : (N % 3 == 0) = true := by simp [h3]
        obtain rfl : te = ⟨⟨#[]⟩, ⟨#[]⟩, [], 0, 0, false⟩ := by rw [← HT.out, if_pos h3]
        clear h3
        go_wp2
        refine bodyPost_ret_by (v := .tuple #[clm ⟨#[]⟩ ⟨#[]⟩ (.slice none 0 0) 0 0, .bool false]) (results_row_slot (p := 4) (q := 5) (ty := 48) rfl _ rfl (hB.setRow _) Try.underlying48 rfl (by kernel_rfl)) rfl ⟨none, 0, rfl, Strs.nil _ _ _ _, ?_⟩
        exact Kp.below (HK.out.setRow (.inl (Nat.le_refl _)) _) (Nat.le_refl _) (fun b hb hf => by omega)
      · have g3 : (N % 3 == 0) = false := by simp [h3]
        have tv : ver.tmod 1000 = ver % 1000 := Int.tmod_eq_emod_of_nonneg h0
        have iv : IntKind.i64.wrap (ver % 1000) = ver % 1000 := IntWalk.i64_in _ (by omega)
        rcases Int.emod_two_eq N with e2 | e2
        · obtain rfl : te = ⟨⟨#[105]⟩, tok, [⟨#[97]⟩], N, ver % 1000, true⟩ := by rw [← HT.out, if_neg h3, if_pos e2]
          clear h3
          have u1 : IntKind.u64.wrap 1 = 1 := by decide
          have t2 : N.tmod 2 = 0 := by rw [Int.tmod_eq_emod_of_nonneg hN0]; exact e2
          clear e2
          go_wp2
          go_region_held3 (fun w' => w'.cell? ⟨S, 0, none⟩ = some (.int .u64 ver) ∧ isRow w' w.heap.size 24) (first | ((refine ⟨?_, ?_⟩) <;> go_simp) | (exact ⟨by go_simp, isRow_setRow _ _ _ _ _ (by go_simp) (fun _ => rfl)⟩) | go_keep) (first | fail)
          go_wp2
          refine bodyPost_ret_by (v := .tuple #[clm ⟨#[105]⟩ tok (.slice (some ⟨W.heap.size, 0, none⟩) 1 2) N (ver % 1000), .bool true]) (results_row_slot (p := 4) (q := 5) (ty := 48) rfl _ rfl ((isRow_drew _ _ _ (isRow_alloc _ _ _ _ hB)).setRow _) Try.underlying48 rfl (by kernel_rfl)) rfl ⟨_, 2, rfl, ?_, ?_⟩
          · refine Strs.of_hasRow (F := fun b => w.heap.size ≤ b) (xs := [⟨#[97]⟩]) (((hasRow_new W #[.string ⟨#[97]⟩, .string ⟨#[98]⟩] 9).of_same (w' := (W.alloc (.cells #[.string ⟨#[97]⟩, .string ⟨#[98]⟩] 9)).drew) rfl).setRow_other (Nat.ne_of_gt hgW) _) (Nat.le_of_lt hgW) ?_
            intro i hi
            match i, hi with
            | 0, _ => rfl
          · exact Kp.below ((HK.out.alloc _).drew.setRow (.inl (Nat.le_refl _)) _) (Nat.le_refl _) (fun b hb hf => by omega)
        · obtain rfl : te = ⟨⟨#[105]⟩, tok, [⟨#[97]⟩, ⟨#[98]⟩], N, ver % 1000, true⟩ := by rw [← HT.out, if_neg h3, if_neg (by omega)]
          clear h3
          have u1 : IntKind.u64.wrap 2 = 2 := by decide
          have t2 : N.tmod 2 = 1 := by rw [Int.tmod_eq_emod_of_nonneg hN0]; exact e2
          clear e2
          go_wp2
          go_region_held3 (fun w' => w'.cell? ⟨S, 0, none⟩ = some (.int .u64 ver) ∧ isRow w' w.heap.size 24) (first | ((refine ⟨?_, ?_⟩) <;> go_simp) | (exact ⟨by go_simp, isRow_setRow _ _ _ _ _ (by go_simp) (fun _ => rfl)⟩) | go_keep) (first | fail)
          go_wp2
          refine bodyPost_ret_by (v := .tuple #[clm ⟨#[105]⟩ tok (.slice (some ⟨W.heap.size, 0, none⟩) 2 2) N (ver % 1000), .bool true]) (results_row_slot (p := 4) (q := 5) (ty := 48) rfl _ rfl ((isRow_drew _ _ _ (isRow_alloc _ _ _ _ hB)).setRow _) Try.underlying48 rfl (by kernel_rfl)) rfl ⟨_, 2, rfl, ?_, ?_⟩
          · refine Strs.of_hasRow (F := fun b => w.heap.size ≤ b) (xs := [⟨#[97]⟩, ⟨#[98]⟩]) (((hasRow_new W #[.string ⟨#[97]⟩, .string ⟨#[98]⟩] 9).of_same (w' := (W.alloc (.cells #[.string ⟨#[97]⟩, .string ⟨#[98]⟩] 9)).drew) rfl).setRow_other (Nat.ne_of_gt hgW) _) (Nat.le_of_lt hgW) ?_
            intro i hi
            match i, hi with
            | 0, _ => rfl
            | 1, _ => rfl
          · exact Kp.below ((HK.out.alloc _).drew.setRow (.inl (Nat.le_refl _)) _) (Nat.le_refl _) (fun b hb hf => by omega)
end Go.Proofs.Ytkbbaokllgmhiaa
