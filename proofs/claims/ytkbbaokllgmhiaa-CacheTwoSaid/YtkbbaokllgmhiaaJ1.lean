/- CacheFresh: the walk. -/
import Derived.Test.YtkbbaokllgmhiaaH2
import Derived.Test.YtkbbaokllgmhiaaF6
namespace Go.Proofs.Ytkbbaokllgmhiaa
open Go.RowKit Go.Maps Go.MuLone Go.Sort Go.Shelf

theorem stepTok_size {d wh : Int} {l : List ByteArray} (hl : ∀ x ∈ l, x.size ≤ 3000) : (stepTok d wh l).size ≤ 3000 := by
  unfold stepTok
  split
  · unfold List.getD
    cases h : l[(wh % l.length).toNat]? with
    | none => decide
    | some x => exact hl x (List.mem_of_getElem? h)
  · decide
theorem more_le (v : Int) (t : ByteArray) (st : CSt) : more v t st ≤ 1 := by unfold more; split <;> omega

/-- Of the steps one, as it lies. -/
theorem Stp.at_ {w : World} {a : Option Addr} {m j : Nat} (h : Stp w a m) (hj : j < m) : ∃ b off cs d wh N, a = some ⟨b, off, none⟩ ∧ b < w.heap.size ∧ w.rangeAt b (off + j * 29) cs ∧ cs.length = 29 ∧ cs.toArray[0]? = some (.int .i64 d) ∧ cs.toArray[1]? = some (.int .i64 wh) ∧ cs.toArray[2]? = some (.int .u64 N) ∧ 0 ≤ N ∧ N < 18446744073709551616 := by
  obtain ⟨b, off, ha, hb, hx⟩ := h (by omega)
  obtain ⟨cs, d, wh, N, h1, h2, h3, h4, h5, h6, h7⟩ := hx j hj
  exact ⟨b, off, cs, d, wh, N, ha, hb, h1, h2, by simpa using h3, by simpa using h4, by simpa using h5, h6, h7⟩
theorem size52 : (Try.prog.info? 52).map (·.size) = some 29 := by kernel_rfl

/-- Behind j steps of CacheFresh. -/
structure FrI (w wx : World) (c S P : Nat) (most : Int) (row : Array Value) (lv : Value) (l : List ByteArray) (K : Nat → Prop) (k : Int) : Prop where
  ex : ∃ st ver n, RunV w wx c S most ver st n k (fun b => b = P ∨ K b) ∧ (n : Int) ≤ k
  row : hasRow wx P row
  l : Strs wx K lv l

/-- Where the laws over one honest source begin: behind 'New' and the first 'lives'. -/
theorem fresh_start {w w2 w3 : World} {q : Int} (row : Array Value) (hC : CacheI w2 (fun b => b = w.heap.size + 1 + 1 ∨ b = w.heap.size + 1 + 1 + 1) (w.heap.size + 1 + 1 + 1) (hon (w.heap.size + 1)) (1 + q) ⟨0, 0, 0, 0, []⟩)
    (hb2 : Below (w.heap.size + 1 + 1) ((w.alloc (.cells row 41)).alloc (.cells #[.int .u64 0, .slice none 0 0] 32)) w2) (hb3 : Below w2.heap.size w2 w3) (_ : 0 ≤ q) :
    RunV w w3 (w.heap.size + 1 + 1 + 1) (w.heap.size + 1) (1 + q) 0 ⟨0, 0, 0, 0, []⟩ 0 0 (fun b => b = w.heap.size) ∧ hasRow w3 w.heap.size row := by
  have hz2 := hb2.size
  simp at hz2
  have hP := ((hasRow_new w row 41).alloc (.cells #[.int .u64 0, .slice none 0 0] 32)).below hb2 (by omega)
  have hS := (hasRow_new (w.alloc (.cells row 41)) #[.int .u64 0, .slice none 0 0] 32).below hb2 (by simp)
  simp at hS
  have hI : HonI w2 (fun b => b = w.heap.size + 1) (w.heap.size + 1) 0 0 := ⟨⟨_, [], hS, World.ownsRow_nil _ _ _ _, fun b hb => by cases hb⟩, rfl, fun b hb => hb ▸ hS.lt, by decide, by decide⟩
  have k2 : Kp (fun b => w.heap.size ≤ b) w w2 := (((Kp.refl (fun b => w.heap.size ≤ b) w).alloc _).alloc _).then_below hb2 (by omega)
  refine ⟨(RunV.new (c' := w.heap.size + 1 + 1) (w := w) (X := fun b => b = w.heap.size) hC hI ?_ ?_ ?_ k2 ?_).below hb3, hP.below hb3 (by omega)⟩
  all_goals omega

theorem FrI.start {w w3 w4 : World} {c S P : Nat} {most : Int} {row : Array Value} {lv : Value} {l : List ByteArray} (h : RunV w w3 c S most 0 ⟨0, 0, 0, 0, []⟩ 0 0 (fun b => b = P)) (hP : hasRow w3 P row) (hL : Lst w4 w3.heap.size lv l) (hb : Below w3.heap.size w3 w4) :
    FrI w w4 c S P most row lv l (fun b => w3.heap.size ≤ b ∧ b < w4.heap.size) 0 := by
  have hz := hb.size
  have hl := h.lt P rfl
  exact ⟨⟨_, _, _, h.keep (Kp.of_below (F := fun b => w3.heap.size ≤ b) hb) (fun b hb => .inr hb) (fun b hb => by rcases hb with rfl | hb; exact ⟨.inl rfl, by omega⟩; exact ⟨.inr hb.1, hb.2⟩), Int.le_refl _⟩, hP.below hb (by omega), hL.strs.bound⟩

theorem FrI.step {w wx : World} {c S P : Nat} {most : Int} {row : Array Value} {lv : Value} {l : List ByteArray} {K : Nat → Prop} {k : Int} (h : FrI w wx c S P most row lv l K k) (cs : Array Value) (d wh N : Int)
    (hne : 0 < l.length) (hm : l.length ≤ 1000000) (c0 : cs[0]? = some (.int .i64 d)) (c1 : cs[1]? = some (.int .i64 wh)) (c2 : cs[2]? = some (.int .u64 N)) (hN0 : 0 ≤ N) (hN1 : N < 18446744073709551616) :
    Calls Try.prog 15 #[.pointer (some ⟨c, 0, none⟩), .pointer (some ⟨S, 0, none⟩), .agg cs, lv] wx fun e w' => e = .returned (.tuple #[.string (stepTok d wh l), .bool (asks d)]) ∧ FrI w w' c S P most row lv l K k := by
  obtain ⟨⟨st, ver, n, hR, hn⟩, hP, hl⟩ := h
  refine (hR.step cs d wh N hl hne hm c0 c1 c2 hN0 hN1).mono ?_
  rintro e w' ⟨rfl, hR', hk⟩
  exact ⟨rfl, ⟨_, _, _, hR', hn⟩, hP.kp hk (fun e => e.2 (.inl rfl)), hl.keep hk (fun b hb e => e.2 (.inr hb))⟩
theorem FrI.right {w wx : World} {c S P : Nat} {most : Int} {row : Array Value} {lv : Value} {l : List ByteArray} {K : Nat → Prop} {k : Int} (h : FrI w wx c S P most row lv l K k) (hk : k ≤ 100000) (t : ByteArray) (ht : t.size ≤ 3000) :
    Calls Try.prog 11 #[.pointer (some ⟨c, 0, none⟩), .pointer (some ⟨S, 0, none⟩), .string t] wx fun e w' => e = .returned (.bool true) ∧ FrI w w' c S P most row lv l K (k + 1) := by
  obtain ⟨⟨st, ver, n, hR, hn⟩, hP, hl⟩ := h
  refine (hR.right (by omega) t (by unfold maxLen; omega) (by omega)).mono ?_
  rintro e w' ⟨rfl, hR', hkp⟩
  have := more_le ver t st
  exact ⟨rfl, ⟨_, _, _, hR', by simp; omega⟩, hP.kp hkp (fun e => e.2 (.inl rfl)), hl.keep hkp (fun b hb e => e.2 (.inr hb))⟩
theorem FrI.text {w wx : World} {c S P : Nat} {most : Int} {row : Array Value} {lv : Value} {l : List ByteArray} {K : Nat → Prop} {k : Int} (h : FrI w wx c S P most row lv l K k) {j : Nat} (hj : j < l.length) :
    ∃ b off cap, lv = .slice (some ⟨b, off, none⟩) l.length cap ∧ b < wx.heap.size ∧ wx.cell? ⟨b, off + j, none⟩ = some (.string l[j]) := by
  obtain ⟨a, cap, rfl, hx⟩ := h.l
  obtain ⟨b, off, rfl, _, hb, hc⟩ := hx (fun e => by simp [e] at hj)
  exact ⟨b, off, cap, rfl, hb, hc j hj⟩
theorem Strs.at_ {w : World} {F : Nat → Prop} {b off n cap j : Nat} {xs : List ByteArray} (h : Strs w F (.slice (some ⟨b, off, none⟩) n cap) xs) (hj : j < xs.length) : b < w.heap.size ∧ w.cell? ⟨b, off + j, none⟩ = some (.string xs[j]) := by
  obtain ⟨a, c, e, hx⟩ := h
  cases e
  obtain ⟨b', off', e, _, hb, hc⟩ := hx (fun e => by simp [e] at hj)
  cases e
  exact ⟨hb, hc j hj⟩
theorem FrI.kp {w wx : World} {c S P : Nat} {most : Int} {row : Array Value} {lv : Value} {l : List ByteArray} {K : Nat → Prop} {k : Int} (h : FrI w wx c S P most row lv l K k) : Kp (fun b => w.heap.size ≤ b) w wx := by
  obtain ⟨st, ver, n, hR, hn⟩ := h.ex; exact hR.kp
theorem FrI.more {w wx : World} {c S P : Nat} {most : Int} {row : Array Value} {lv : Value} {l : List ByteArray} {K : Nat → Prop} {k k' : Int} (h : FrI w wx c S P most row lv l K k) (hk : k ≤ k') : FrI w wx c S P most row lv l K k' := by
  obtain ⟨⟨st, ver, n, hR, hn⟩, hP, hl⟩ := h
  have hf := hR.fits
  exact ⟨⟨st, ver, n, ⟨hR.ex, hR.hh, ⟨by have := hf.turn; omega, hf.h0, by have := hf.hits; omega, hf.m0, by have := hf.misses; omega⟩, hR.kp, hR.lt⟩, by omega⟩, hP, hl⟩

set_option maxRecDepth 100000 in
set_option maxHeartbeats 4000000 in
theorem fresh_ok {w : World} (mo : Int) (a : Option Addr) (n ca : Nat) (b : Option Addr) (m cb : Nat) (hi : Inp w a n) (hn : n ≤ maxLen) (hs : Stp w b m) (hm : m ≤ maxLen) :
    Calls Try.prog 4 #[.agg #[.int .i64 mo, .slice a n ca, .slice b m cb]] w fun e w' => e = .returned (.bool true) ∧ Below w.heap.size w w' := by
  have HN := Lib.hid hn
  unfold maxLen at hm
  have HI := Lib.hid hi
  have HS := Lib.hid hs
  have e1 := Int.emod_nonneg mo (b := 1024) (by decide)
  have e2 := Int.emod_lt_of_pos mo (b := 1024) (by decide)
  have HSZ : Hid (∀ W : World, Calls Try.prog 13 #[.int .i64 mo] W fun e w' => e = .returned (.int .i64 (1 + mo % 1024)) ∧ w' = W) := fun W => size_any mo W
  clear hi hs hn
  generalize mo % 1024 = q at *
  have hnew := fun (W : World) S => new_ok 28 (.pointer (some ⟨S, 0, none⟩)) (1 + q) W (by omega) (by omega)
  have HNEW := Lib.hid hnew
  clear hnew
  go_enter Try.func4, Try.ntmps4
  go_wp2_with (first | (go_at_call 13; refine (HSZ.out _).mono ?_; rintro e w' ⟨rfl, rfl⟩) | (go_at_call 9; refine (num_any _ _).mono ?_; rintro e w' ⟨rfl, hww⟩; rw [hww]; clear hww w') | (go_at_call 8; refine (HNEW.out _ _).mono ?_; rintro e w2 ⟨rfl, hC2, hb2⟩; simp only [World.size_alloc] at hC2 hb2; have HC2 := Lib.hid (And.intro hC2 hb2); clear hC2 hb2) | (go_at_call 7; refine (lives_ok _).mono ?_; rintro e w3 ⟨rfl, hb3⟩; have hF := fresh_start (w := w) _ HC2.out.1 HC2.out.2 hb3 e1; have hP := hF.2; have p0 := hP.cell 0; have p1 := hP.cell 1; have p2 := hP.cell 2; have lP := hP.lt; have HF := Lib.hid hF; clear hF hP hb3; simp at p0 p1 p2) | (go_at_call 14; refine (tokens_of (.int .i64 mo) a n ca (.slice b m cb) ?h1 HN.out).mono ?_; rotate_left; rintro e w4 ⟨p, cap, ls, rfl, hL, hl0, hl1, hlsz, hb4⟩; have hF4 := FrI.start HF.out.1 HF.out.2 hL hb4; have HF4 := Lib.hid hF4; have HLS := Lib.hid hlsz; clear hL hlsz hb4 hF4))
  case h1 => exact HI.out.kp HF.out.1.kp (fun b hb => by omega)
  generalize hcc : w.heap.size + 1 + 1 + 1 = c at *
  generalize hSS : w.heap.size + 1 = S at *
  generalize hPP : w.heap.size = P at *
  have HPP := Lib.hid hPP
  clear hcc hSS hPP p0 p1 p2 lP HC2
  generalize (fun b => w3.heap.size ≤ b ∧ b < w4.heap.size) = K at *
  go_loopw [7] (fun i wx => ∃ j : Nat, j ≤ 300 ∧ j ≤ m ∧ i = .int .i64 (j : Int) ∧ FrI w wx c S P (1 + q) #[.int .i64 mo, .slice a n ca, .slice b m cb] (.slice p ls.length cap) ls K j) (fun i _ => 300 - (intOf i).toNat)
  case atStart => exact ⟨0, by omega, by omega, rfl, HF4.out⟩
  case round =>
    obtain ⟨j, hj1, hj2, rfl, hF⟩ := hrel
    have p2 := hF.row.cell 2
    have lP := hF.row.lt
    simp at p2
    have HFF := Lib.hid hF
    clear hF
    by_cases c1 : j < m ∧ j < 300
    · have g1 : (j : Int) < (m : Int) := by omega
      have g2 : (j : Int) < 300 := by omega
      have g0 : (0 : Int) ≤ (j : Int) := by omega
      obtain ⟨bb, off, cs, d, wh, N, rfl, hbb, hr, hcl, q0, q1, q2, q3, q4⟩ := (HS.out.kp HFF.out.kp (fun b hb => by omega)).at_ c1.1
      have hst := HFF.out.step cs.toArray d wh N hl0 (by omega) q0 q1 q2 q3 q4
      have hts := stepTok_size (d := d) (wh := wh) HLS.out
      have HR := Lib.hid (And.intro hr hcl)
      generalize stepTok d wh ls = t at *
      clear q0 q1 q2 q3 q4 hr hcl
      cases hab : asks d with
      | true =>
        rw [hab] at hst
        have HST := Lib.hid hst
        clear hst hab
        go_wp2_with (first | (refine wpList_load_mid rfl 52 _ rfl bb (off + j * 29) rfl cs _ HR.out.1 Try.underlying52 rfl (by rw [HR.out.2]; exact size52) ?_) | (go_at_call 15; refine HST.out.mono ?_; rintro e w5 ⟨rfl, hF5⟩; have HR5 := Lib.hid (hF5.right (by omega) t hts); clear hF5) | (go_at_call 11; refine HR5.out.mono ?_; rintro e w6 ⟨rfl, hF6⟩; have HF6 := Lib.hid hF6; clear hF6))
        go_roundw
        case rel => exact ⟨j + 1, by omega, by omega, by go_num, HF6.out⟩
        case measure => simp [intOf]; omega
      | false =>
        rw [hab] at hst
        have HST := Lib.hid hst
        clear hst hab
        go_wp2_with (first | (refine wpList_load_mid rfl 52 _ rfl bb (off + j * 29) rfl cs _ HR.out.1 Try.underlying52 rfl (by rw [HR.out.2]; exact size52) ?_) | (go_at_call 15; refine HST.out.mono ?_; rintro e w5 ⟨rfl, hF5⟩; have HF6 := Lib.hid (hF5.more (k' := ((j + 1 : Nat) : Int)) (by omega)); clear hF5))
        go_roundw
        case rel => exact ⟨j + 1, by omega, by omega, by go_num, HF6.out⟩
        case measure => simp [intOf]; omega
    · have hjk : (j : Int) ≤ 300 := by omega
      have hF0 := Lib.hid (HFF.out.more hjk)
      have gg : ¬ j < m ∨ (j < m ∧ ¬ j < 300) := by omega
      clear c1 HFF hjk
      rcases gg with g1 | ⟨g1, g2⟩
      all_goals
        first | (have g1' : ¬ (j : Int) < (m : Int) := (by omega)) | (have g1' : (j : Int) < (m : Int) := (by omega); have g2' : ¬ (j : Int) < 300 := (by omega))
        go_wp2
        go_loopw [10] (fun i wx => ∃ i' : Nat, i' ≤ ls.length ∧ i = .int .i64 (i' : Int) ∧ FrI w wx c S P (1 + q) #[.int .i64 mo, .slice a n ca, .slice b m cb] (.slice p ls.length cap) ls K (300 + 2 * (i' : Int))) (fun i _ => ls.length - (intOf i).toNat)
        case atStart => exact ⟨0, by omega, rfl, by simpa using hF0.out⟩
        case round =>
          obtain ⟨i', hi', rfl, hF⟩ := hrel
          have HG := Lib.hid hF
          clear hF
          by_cases hlt : i' < ls.length
          · obtain ⟨bl, ol, cl, hv, hbl, hcl⟩ := HG.out.text hlt
            cases hv
            have hts := HLS.out _ (List.getElem_mem hlt)
            have h1 := HG.out.right (by omega) ls[i'] hts
            have i1 : (0 : Int) ≤ (i' : Int) := by omega
            have i2 : (i' : Int) < (ls.length : Int) := by omega
            generalize hlst : ls[i'] = t at *
            have HT := Lib.hid hlst
            clear hlst
            have H1 := Lib.hid h1
            clear h1
            go_wp2_with (first | (go_at_call 11; refine H1.out.mono ?_; rintro e w5 ⟨rfl, hF5⟩; have hcl5 := hF5.l.at_ hlt; rw [HT.out] at hcl5; obtain ⟨hbl5, hcl5⟩ := hcl5; have H2 := Lib.hid (hF5.right (by omega) t hts); clear hF5) | (go_at_call 11; refine H2.out.mono ?_; rintro e w6 ⟨rfl, hF6⟩; have HF6 := Lib.hid hF6; clear hF6))
            go_roundw
            case rel => exact ⟨i' + 1, by omega, by go_num, by have := HF6.out; rw [show (300 + 2 * ((i' + 1 : Nat) : Int)) = 300 + 2 * (i' : Int) + 1 + 1 by omega]; exact this⟩
            case measure => simp [intOf]; omega
          · have g3 : ¬ (i' : Int) < (ls.length : Int) := by omega
            go_wp2_with (go_at_call 7; refine (lives_ok _).mono ?_; rintro e w5 ⟨rfl, hb5⟩; have HB5 := Lib.hid hb5; clear hb5)
            go_ret
            exact ⟨rfl, (HG.out.kp.then_below HB5.out HG.out.kp.size).below (Nat.le_refl _) (fun b hb e => by omega)⟩
end Go.Proofs.Ytkbbaokllgmhiaa
