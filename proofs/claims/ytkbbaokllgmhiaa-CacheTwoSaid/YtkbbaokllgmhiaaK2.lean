/- CacheNear: the walk. -/
import Derived.Test.YtkbbaokllgmhiaaK1
namespace Go.Proofs.Ytkbbaokllgmhiaa
open Go.RowKit Go.Maps Go.MuLone Go.Sort Go.Shelf

/-- Where the laws over one honest source begin. -/
theorem near_start {w w2 w3 : World} {M : Int} (row : Array Value) (hC : CacheI w2 (fun b => b = w.heap.size + 1 + 1 ∨ b = w.heap.size + 1 + 1 + 1) (w.heap.size + 1 + 1 + 1) (hon (w.heap.size + 1)) M ⟨0, 0, 0, 0, []⟩)
    (hb2 : Below (w.heap.size + 1 + 1) ((w.alloc (.cells row 41)).alloc (.cells #[.int .u64 0, .slice none 0 0] 32)) w2) (hb3 : Below w2.heap.size w2 w3) :
    RunV w w3 (w.heap.size + 1 + 1 + 1) (w.heap.size + 1) M 0 ⟨0, 0, 0, 0, []⟩ 0 0 (fun b => b = w.heap.size) ∧ hasRow w3 w.heap.size row := by
  have hz2 := hb2.size
  simp at hz2
  have hP := ((hasRow_new w row 41).alloc (.cells #[.int .u64 0, .slice none 0 0] 32)).below hb2 (by omega)
  have hS := (hasRow_new (w.alloc (.cells row 41)) #[.int .u64 0, .slice none 0 0] 32).below hb2 (by simp)
  simp at hS
  have hI : HonI w2 (fun b => b = w.heap.size + 1) (w.heap.size + 1) 0 0 := ⟨⟨_, [], hS, World.ownsRow_nil _ _ _ _, fun b hb => by cases hb⟩, rfl, fun b hb => hb ▸ hS.lt, by decide, by decide⟩
  have k2 : Kp (fun b => w.heap.size ≤ b) w w2 := (((Kp.refl (fun b => w.heap.size ≤ b) w).alloc _).alloc _).then_below hb2 (by omega)
  refine ⟨(RunV.new (c' := w.heap.size + 1 + 1) (w := w) (X := fun b => b = w.heap.size) hC hI ?_ ?_ ?_ k2 ?_).below hb3, hP.below hb3 (by omega)⟩
  all_goals omega

theorem step_cell {w W : World} {bb o : Nat} {cs : List Value} {d : Int} (hr : w.rangeAt bb o cs) (hbb : bb < w.heap.size) (hd : cs[0]? = some (.int .i64 d)) (hk : Kp (fun b => w.heap.size ≤ b) w W) : W.cell? ⟨bb, o, none⟩ = some (.int .i64 d) ∧ bb < W.heap.size :=
  ⟨(World.cell?_of_block (w := w) (a := ⟨bb, o, none⟩) (hk.block bb hbb (by omega))).trans (hr 0 _ hd), Nat.lt_of_lt_of_le hbb hk.size⟩

theorem NeJ.start {w w3 w4 : World} {c S P Q : Nat} {row : Array Value} {lv : Value} {l : List ByteArray} (h : RunV w w3 c S Q 0 ⟨0, 0, 0, 0, []⟩ 0 0 (fun b => b = P)) (hP : hasRow w3 P row) (hL : Lst w4 w3.heap.size lv l) (hb : Below w3.heap.size w3 w4) :
    NeJ w w4 c S P Q row lv l (fun b => w3.heap.size ≤ b ∧ b < w4.heap.size) w4.heap.size (.slice none 0 0) [] ⟨0, 0, 0, 0, []⟩ 0 0 0 := by
  have hz := hb.size
  have hl := h.lt P rfl
  have hk := h.kp.size
  exact ⟨h.keep (Kp.of_below (F := fun b => w3.heap.size ≤ b) hb) (fun b hb => .inr hb) (fun b hb => by rcases hb with rfl | hb | hb; exact ⟨.inl rfl, by omega⟩; exact ⟨.inr hb.1, hb.2⟩; cases hb), hP.below hb (by omega), hL.strs.bound, Lst.nil _ _, Int.le_refl _, (fun _ hx => by cases hx), Int.le_refl _, (fun b hb => by rcases hb with rfl | hb; omega; exact hb.2), ⟨by omega, Nat.le_refl _⟩⟩

set_option maxRecDepth 100000 in
set_option maxHeartbeats 30000000 in
theorem nearlaw_ok {w : World} (mo : Int) (a : Option Addr) (n ca : Nat) (b : Option Addr) (m cb : Nat) (hi : Inp w a n) (hn : n ≤ maxLen) (hs : Stp w b m) (hm : m ≤ maxLen) :
    Calls Try.prog 5 #[.agg #[.int .i64 mo, .slice a n ca, .slice b m cb]] w fun e w' => e = .returned (.bool true) ∧ Below w.heap.size w w' := by
  have HN := Lib.hid hn
  unfold maxLen at hm
  have HI := Lib.hid hi
  have HS := Lib.hid hs
  have e1 := Int.emod_nonneg mo (b := 1024) (by decide)
  have e2 := Int.emod_lt_of_pos mo (b := 1024) (by decide)
  obtain ⟨Q, hQ⟩ : ∃ Q : Nat, 1 + mo % 1024 = (Q : Int) := ⟨(1 + mo % 1024).toNat, by omega⟩
  have hQ1 : 1 ≤ (Q : Int) := by omega
  have hQ2 : (Q : Int) ≤ 1024 := by omega
  have HQ1 := Lib.hid (show 1 ≤ Q by omega)
  have HSZ : Hid (∀ W : World, Calls Try.prog 13 #[.int .i64 mo] W fun e w' => e = .returned (.int .i64 (Q : Int)) ∧ w' = W) := fun W => by rw [← hQ]; exact size_any mo W
  clear hi hs hn e1 e2 hQ
  have hnew := fun (W : World) S => new_ok 28 (.pointer (some ⟨S, 0, none⟩)) (Q : Int) W hQ1 hQ2
  have HNEW := Lib.hid hnew
  clear hnew
  go_enter Try.func5, Try.ntmps5
  go_wp2_with (first | (go_at_call 13; refine (HSZ.out _).mono ?_; rintro e w' ⟨rfl, rfl⟩) | (go_at_call 9; refine (num_any _ _).mono ?_; rintro e w' ⟨rfl, hww⟩; rw [hww]; clear hww w') | (go_at_call 8; refine (HNEW.out _ _).mono ?_; rintro e w2 ⟨rfl, hC2, hb2⟩; simp only [World.size_alloc] at hC2 hb2; have HC2 := Lib.hid (And.intro hC2 hb2); clear hC2 hb2) | (go_at_call 7; refine (lives_ok _).mono ?_; rintro e w3 ⟨rfl, hb3⟩; have hF := near_start (w := w) _ HC2.out.1 HC2.out.2 hb3; have hP := hF.2; have p0 := hP.cell 0; have p1 := hP.cell 1; have p2 := hP.cell 2; have lP := hP.lt; have HF := Lib.hid hF; clear hF hP hb3; simp at p0 p1 p2) | (go_at_call 14; refine (tokens_of (.int .i64 mo) a n ca (.slice b m cb) ?h1 HN.out).mono ?_; rotate_left; rintro e w4 ⟨p, cap, ls, rfl, hL, hl0, hl1, hlsz, hb4⟩; have hF4 := NeJ.start HF.out.1 HF.out.2 hL hb4; have s4 := hF4.run.vcell; have lS4 := hF4.run.ltS; have HF4 := Lib.hid hF4; have HLS := Lib.hid hlsz; clear hL hlsz hb4 hF4))
  case h1 => exact HI.out.kp HF.out.1.kp (fun b hb => by omega)
  generalize hcc : w.heap.size + 1 + 1 + 1 = c at *
  generalize hSS : w.heap.size + 1 = S at *
  generalize hPP : w.heap.size = P at *
  clear hcc hSS hPP p0 p1 p2 lP HC2 s4 lS4
  generalize (fun b => w3.heap.size ≤ b ∧ b < w4.heap.size) = K at *
  generalize w4.heap.size = base at *
  go_loopw [8, 9, 10] (fun v8 v9 i wx => ∃ (j : Nat) (pp : Option Addr) (pc : Nat) (past : List ByteArray) (st : CSt) (ver : Int) (nn : Nat), j ≤ 300 ∧ j ≤ m ∧ v8 = .slice pp past.length pc ∧ v9 = .int .u64 st.ver ∧ i = .int .i64 (j : Int) ∧ NeJ w wx c S P Q #[.int .i64 mo, .slice a n ca, .slice b m cb] (.slice p ls.length cap) ls K base (.slice pp past.length pc) past st ver nn j ∧ toks st = CM.lru Q past) (fun _ _ i _ => 300 - (intOf i).toNat)
  case atStart => exact ⟨0, none, 0, [], ⟨0, 0, 0, 0, []⟩, 0, 0, by omega, by omega, rfl, rfl, rfl, HF4.out, rfl⟩
  case round =>
    obtain ⟨j, pp, pc, past, st, ver, nn, hj1, hj2, rfl, rfl, rfl, hJ, htk⟩ := hrel
    have p2 := hJ.row.cell 2
    have lP := hJ.row.lt
    simp at p2
    have HJ := Lib.hid hJ
    have HTK := Lib.hid htk
    clear hJ htk
    by_cases c1 : j < m ∧ j < 300
    · have g1 : (j : Int) < (m : Int) := by omega
      have g2 : (j : Int) < 300 := by omega
      have g0 : (0 : Int) ≤ (j : Int) := by omega
      obtain ⟨bb, off, cs, d, wh, N, rfl, hbb, hr, hcl, q0, q1, q2, q3, q4⟩ := HS.out.at_ c1.1
      have hst := HJ.out.step cs.toArray d wh N hl0 (by omega) q0 q1 q2 q3 q4
      have hts := stepTok_size (d := d) (wh := wh) HLS.out
      have hd0 : cs[0]? = some (.int .i64 d) := by simpa using q0
      have HR := Lib.hid (And.intro (rangeAt_same hr (HJ.out.run.kp.block bb hbb (by omega))) hcl)
      have HD := Lib.hid (fun (W : World) (hk : Kp (fun b => w.heap.size ≤ b) w W) => step_cell hr hbb hd0 hk)
      clear q0 q1 q2 q3 q4 hr hcl hd0 hbb c1
      by_cases d6 : d = 6
      · subst d6
        have HST := Lib.hid hst
        clear hst
        generalize stepTok 6 wh ls = t at *
        go_wp2_with (first | (refine wpList_load_mid rfl 52 _ rfl bb (off + j * 29) rfl cs _ HR.out.1 Try.underlying52 rfl (by rw [HR.out.2]; exact size52) ?_) | (go_at_call 15; refine HST.out.mono ?_; rintro e w5 ⟨rfl, hJ5, _⟩; have x5 := HD.out _ hJ5.run.kp; obtain ⟨x5, l5⟩ := x5; have p25 := hJ5.row.cell 2; have lP5 := hJ5.row.lt; have HJ5 := Lib.hid hJ5; clear hJ5; simp at p25))
        go_roundw
        case rel => exact ⟨j + 1, none, 0, [], stepSt 6 st, stepVer 6 N ver, nn, by omega, by omega, rfl, rfl, by go_num, HJ5.out.nil.more (by omega), rfl⟩
        case measure => simp [intOf]; omega
      · have hss : stepSt d st = st := by rw [stepSt, if_neg d6]
        rw [hss] at hst
        have g6 : ¬ (d = 6) := d6
        clear hss d6
        cases hab : asks d with
        | false =>
          rw [hab] at hst
          have HST := Lib.hid hst
          clear hst hab
          generalize stepTok d wh ls = t at *
          go_wp2_with (first | (refine wpList_load_mid rfl 52 _ rfl bb (off + j * 29) rfl cs _ HR.out.1 Try.underlying52 rfl (by rw [HR.out.2]; exact size52) ?_) | (go_at_call 15; refine HST.out.mono ?_; rintro e w5 ⟨rfl, hJ5, _⟩; have x5 := HD.out _ hJ5.run.kp; obtain ⟨x5, l5⟩ := x5; have p25 := hJ5.row.cell 2; have lP5 := hJ5.row.lt; have HJ5 := Lib.hid hJ5; clear hJ5; simp at p25))
          go_roundw
          case rel => exact ⟨j + 1, pp, pc, past, st, stepVer d N ver, nn, by omega, by omega, rfl, rfl, by go_num, HJ5.out.more (by omega), HTK.out⟩
          case measure => simp [intOf]; omega
        | true =>
          have hsv : stepVer d N ver = ver := by
            have h12 : d = 1 ∨ d = 2 := by simpa [asks] using hab
            rw [stepVer, if_neg (by omega)]
          rw [hab, hsv] at hst
          have HST := Lib.hid hst
          have hfit := HJ.out.run.fits
          have f1 := hfit.h0
          have f2 := hfit.hits
          have f3 := hfit.m0
          have f4 := hfit.misses
          have f5 := HJ.out.nk
          have f6 := HJ.out.plen
          clear hst hab hsv hfit
          generalize stepTok d wh ls = t at *
          by_cases hv : ver = st.ver
          · have HKT : Hid (ktoks ver st = CM.lru Q past) := by rw [hv, ktoks_same]; exact HTK.out
            clear HTK
            subst hv
            by_cases hin : t ∈ ktoks st.ver st
            · have hsz : t.size ≤ 2048 := HJ.out.psz t (lru_mem HQ1.out (HKT.out ▸ hin))
              have gz : (t.size : Int) ≤ 2048 := by omega
              have gz2 : ¬ (2048 : Int) < (t.size : Int) := by omega
              obtain ⟨ys, hys⟩ := nextL_last (Q := (Q : Int)) (L := ktoks st.ver st) hsz
              have HYS := Lib.hid hys
              clear hys
              go_wp2_with (first
                | (refine wpList_load_mid rfl 52 _ rfl bb (off + j * 29) rfl cs _ HR.out.1 Try.underlying52 rfl (by rw [HR.out.2]; exact size52) ?_)
                | (go_at_call 15; with_reducible refine HST.out.mono ?_; rintro e w5 ⟨rfl, hJ5, _⟩; have x5 := HD.out _ hJ5.run.kp; obtain ⟨x5, l5⟩ := x5; have p25 := hJ5.row.cell 2; have lP5 := hJ5.row.lt; have v5 := hJ5.run.vcell; have lS5 := hJ5.run.ltS; have HNR := Lib.hid (hJ5.near_yes (by omega) t HKT.out hin); clear hJ5; simp at p25)
                | (go_at_call 16; with_reducible refine HNR.out.mono ?_; rintro e w6 ⟨rfl, hJ6⟩; obtain ⟨PN6, CN6, y6⟩ := hJ6.run.seen; have lS6 := World.block_lt_of_cell? _ _ y6; have HA6 := Lib.hid hJ6.asked; clear hJ6)
                | (go_at_call 17; with_reducible refine HA6.out.mono ?_; rintro e w7 ⟨rfl, hJ7⟩; have HR7 := Lib.hid (hJ7.right_yes (by omega) t hts hin); clear hJ7)
                | (go_at_call 11; with_reducible refine HR7.out.mono ?_; rintro e w8 ⟨rfl, st', hJ8, hh8, hm8, hv8, ht8⟩; have hA8 := hJ8.asked; rw [hh8, hm8] at hA8; have HA8 := Lib.hid hA8; have HV8 := Lib.hid hv8; have HT8 := Lib.hid ht8; clear hJ8 hA8 hh8 hm8 hv8 ht8)
                | (go_at_call 17; with_reducible refine HA8.out.mono ?_; rintro e w9 ⟨rfl, hJ9⟩; obtain ⟨PN9, CN9, y9⟩ := hJ9.run.seen; have lS9 := World.block_lt_of_cell? _ _ y9; have HJ9 := Lib.hid (hJ9.alloc (.cells #[.string t] 9)); clear hJ9)
                | (at_builtin; refine wpList_app_at rfl _ _ rfl (.slice pp past.length pc) base past rfl HJ9.out.p HJ9.out.wb.2 _ 1 rfl t ((World.cell?_alloc_at _ _ _ _ (by simp)).trans rfl) (by first | omega | simp) ?_; intro g cg w10 hL10 hg10 hat10 hlt10; have hJ10 := HJ9.out.app hL10 hg10 hat10 hlt10 hsz (by first | omega | (simp; omega)); have hle := hJ10.run.len.1; rw [HT8.out, HYS.out] at hle; simp at hle; have hqq : ¬ (Q : Int) < (ys.length : Int) + 1 := (by omega); have hyy : ((ys.length : Int) + 1 == 0) = false := (by simp; omega); have HTK9 := Lib.hid (hJ10.tokens_short ys t (HT8.out.trans HYS.out)); clear hL10 hg10 hat10 hlt10 hJ10)
                | (go_at_call 10; with_reducible refine HTK9.out.mono ?_; rintro e w11 ⟨b11, o11, c11, rfl, l11, x11, hJ11⟩; have HJ11 := Lib.hid hJ11; clear hJ11))
              refine ⟨⟨j + 1, some ⟨g, 0, none⟩, cg, past ++ [t], st', st.ver, _, by omega, by omega, by simp, by rw [HV8.out], by go_num, (HJ11.out).cast (by simp) (by simp), by rw [HT8.out, HKT.out]; exact lru_one HQ1.out hsz⟩, ?_⟩
              simp [intOf]; omega
            · by_cases hsz : t.size ≤ 2048
              · have gz : (t.size : Int) ≤ 2048 := by omega
                have gz2 : ¬ (2048 : Int) < (t.size : Int) := by omega
                obtain ⟨ys, hys⟩ := nextL_last (Q := (Q : Int)) (L := ktoks st.ver st) hsz
                have HYS := Lib.hid hys
                clear hys
                go_wp2_with (first
                  | (refine wpList_load_mid rfl 52 _ rfl bb (off + j * 29) rfl cs _ HR.out.1 Try.underlying52 rfl (by rw [HR.out.2]; exact size52) ?_)
                  | (go_at_call 15; with_reducible refine HST.out.mono ?_; rintro e w5 ⟨rfl, hJ5, _⟩; have x5 := HD.out _ hJ5.run.kp; obtain ⟨x5, l5⟩ := x5; have p25 := hJ5.row.cell 2; have lP5 := hJ5.row.lt; have v5 := hJ5.run.vcell; have lS5 := hJ5.run.ltS; have HNR := Lib.hid (hJ5.near_no (by omega) t HKT.out hin); clear hJ5; simp at p25)
                  | (go_at_call 16; with_reducible refine HNR.out.mono ?_; rintro e w6 ⟨rfl, hJ6⟩; obtain ⟨PN6, CN6, y6⟩ := hJ6.run.seen; have lS6 := World.block_lt_of_cell? _ _ y6; have HA6 := Lib.hid hJ6.asked; clear hJ6)
                  | (go_at_call 17; with_reducible refine HA6.out.mono ?_; rintro e w7 ⟨rfl, hJ7⟩; have HR7 := Lib.hid (hJ7.right_no (by omega) t hts hin); clear hJ7)
                  | (go_at_call 11; with_reducible refine HR7.out.mono ?_; rintro e w8 ⟨rfl, st', hJ8, hh8, hm8, hv8, ht8⟩; have hA8 := hJ8.asked; rw [hh8, hm8] at hA8; have HA8 := Lib.hid hA8; have HV8 := Lib.hid hv8; have HT8 := Lib.hid ht8; clear hJ8 hA8 hh8 hm8 hv8 ht8)
                  | (go_at_call 17; with_reducible refine HA8.out.mono ?_; rintro e w9 ⟨rfl, hJ9⟩; obtain ⟨PN9, CN9, y9⟩ := hJ9.run.seen; have lS9 := World.block_lt_of_cell? _ _ y9; have HJ9 := Lib.hid (hJ9.alloc (.cells #[.string t] 9)); clear hJ9)
                  | (at_builtin; refine wpList_app_at rfl _ _ rfl (.slice pp past.length pc) base past rfl HJ9.out.p HJ9.out.wb.2 _ 1 rfl t ((World.cell?_alloc_at _ _ _ _ (by simp)).trans rfl) (by first | omega | simp) ?_; intro g cg w10 hL10 hg10 hat10 hlt10; have hJ10 := HJ9.out.app hL10 hg10 hat10 hlt10 hsz (by first | omega | (simp; omega)); have hle := hJ10.run.len.1; rw [HT8.out, HYS.out] at hle; simp at hle; have hqq : ¬ (Q : Int) < (ys.length : Int) + 1 := (by omega); have hyy : ((ys.length : Int) + 1 == 0) = false := (by simp; omega); have HTK9 := Lib.hid (hJ10.tokens_short ys t (HT8.out.trans HYS.out)); clear hL10 hg10 hat10 hlt10 hJ10)
                  | (go_at_call 10; with_reducible refine HTK9.out.mono ?_; rintro e w11 ⟨b11, o11, c11, rfl, l11, x11, hJ11⟩; have HJ11 := Lib.hid hJ11; clear hJ11))
                refine ⟨⟨j + 1, some ⟨g, 0, none⟩, cg, past ++ [t], st', st.ver, _, by omega, by omega, by simp, by rw [HV8.out], by go_num, (HJ11.out).cast (by simp) (by simp), by rw [HT8.out, HKT.out]; exact lru_one HQ1.out hsz⟩, ?_⟩
                simp [intOf]; omega
              · have gz : ¬ (t.size : Int) ≤ 2048 := by omega
                have gz2 : (2048 : Int) < (t.size : Int) := by omega
                go_wp2_with (first
                  | (refine wpList_load_mid rfl 52 _ rfl bb (off + j * 29) rfl cs _ HR.out.1 Try.underlying52 rfl (by rw [HR.out.2]; exact size52) ?_)
                  | (go_at_call 15; with_reducible refine HST.out.mono ?_; rintro e w5 ⟨rfl, hJ5, _⟩; have x5 := HD.out _ hJ5.run.kp; obtain ⟨x5, l5⟩ := x5; have p25 := hJ5.row.cell 2; have lP5 := hJ5.row.lt; have v5 := hJ5.run.vcell; have lS5 := hJ5.run.ltS; have HNR := Lib.hid (hJ5.near_no (by omega) t HKT.out hin); clear hJ5; simp at p25)
                  | (go_at_call 16; with_reducible refine HNR.out.mono ?_; rintro e w6 ⟨rfl, hJ6⟩; obtain ⟨PN6, CN6, y6⟩ := hJ6.run.seen; have lS6 := World.block_lt_of_cell? _ _ y6; have HA6 := Lib.hid hJ6.asked; clear hJ6)
                  | (go_at_call 17; with_reducible refine HA6.out.mono ?_; rintro e w7 ⟨rfl, hJ7⟩; have HR7 := Lib.hid (hJ7.right_no (by omega) t hts hin); clear hJ7)
                  | (go_at_call 11; with_reducible refine HR7.out.mono ?_; rintro e w8 ⟨rfl, st', hJ8, hh8, hm8, hv8, ht8⟩; have hA8 := hJ8.asked; rw [hh8, hm8] at hA8; have HA8 := Lib.hid hA8; have HV8 := Lib.hid hv8; have HT8 := Lib.hid ht8; clear hJ8 hA8 hh8 hm8 hv8 ht8)
                  | (go_at_call 17; with_reducible refine HA8.out.mono ?_; rintro e w9 ⟨rfl, hJ9⟩; obtain ⟨PN9, CN9, y9⟩ := hJ9.run.seen; have lS9 := World.block_lt_of_cell? _ _ y9; have hle := hJ9.run.len.1; obtain ⟨TL, hTL⟩ : ∃ TL, (toks st').length = TL := ⟨_, rfl⟩; have HTK9 := Lib.hid (hJ9.tokens_long TL hTL); rw [hTL] at hle; have hqq : ¬ (Q : Int) < (TL : Int) := (by omega); clear hJ9 hTL))
                refine HTK9.out.mono ?_
                rintro e w11 ⟨p11, c11, rfl, hs11, hJ11⟩
                have HAM := Lib.hid (hJ11.among0 hs11 t (by rw [HT8.out, nextL_long hin hsz]; exact hin))
                have HX := Lib.hid (And.intro hin hsz)
                clear hJ11 hs11 hin hsz x5 l5 p25 lP5 v5 lS5 y6 lS6 y9 lS9 hts
                go_wp2_with fail
                refine HAM.out.mono ?_
                rintro e w12 ⟨rfl, hJ12⟩
                have HJ12 := Lib.hid hJ12
                clear hJ12
                go_wp2_with fail
                refine ⟨⟨j + 1, pp, pc, past, st', st.ver, _, by omega, by omega, by simp, by rw [HV8.out], by go_num, (HJ12.out).cast (by simp) (by simp), by rw [HT8.out, nextL_long HX.out.1 HX.out.2]; exact HKT.out⟩, ?_⟩
                simp [intOf]; omega
          · have HKT : Hid (ktoks ver st = CM.lru Q ([] : List ByteArray)) := by rw [ktoks_other hv]; rfl
            clear HTK
            by_cases hin : t ∈ ktoks ver st
            · exact absurd hin (by rw [ktoks_other hv]; simp)
            · by_cases hsz : t.size ≤ 2048
              · have gz : (t.size : Int) ≤ 2048 := by omega
                have gz2 : ¬ (2048 : Int) < (t.size : Int) := by omega
                obtain ⟨ys, hys⟩ := nextL_last (Q := (Q : Int)) (L := ktoks ver st) hsz
                have HYS := Lib.hid hys
                clear hys
                go_wp2_with (first
                  | (refine wpList_load_mid rfl 52 _ rfl bb (off + j * 29) rfl cs _ HR.out.1 Try.underlying52 rfl (by rw [HR.out.2]; exact size52) ?_)
                  | (go_at_call 15; with_reducible refine HST.out.mono ?_; rintro e w5 ⟨rfl, hJ5, _⟩; have x5 := HD.out _ hJ5.run.kp; obtain ⟨x5, l5⟩ := x5; have p25 := hJ5.row.cell 2; have lP5 := hJ5.row.lt; have v5 := hJ5.run.vcell; have lS5 := hJ5.run.ltS; have HNR := Lib.hid (hJ5.nil.near_no (by omega) t HKT.out hin); clear hJ5; simp at p25)
                  | (go_at_call 16; with_reducible refine HNR.out.mono ?_; rintro e w6 ⟨rfl, hJ6⟩; obtain ⟨PN6, CN6, y6⟩ := hJ6.run.seen; have lS6 := World.block_lt_of_cell? _ _ y6; have HA6 := Lib.hid hJ6.asked; clear hJ6)
                  | (go_at_call 17; with_reducible refine HA6.out.mono ?_; rintro e w7 ⟨rfl, hJ7⟩; have HR7 := Lib.hid (hJ7.right_no (by omega) t hts hin); clear hJ7)
                  | (go_at_call 11; with_reducible refine HR7.out.mono ?_; rintro e w8 ⟨rfl, st', hJ8, hh8, hm8, hv8, ht8⟩; have hA8 := hJ8.asked; rw [hh8, hm8] at hA8; have HA8 := Lib.hid hA8; have HV8 := Lib.hid hv8; have HT8 := Lib.hid ht8; clear hJ8 hA8 hh8 hm8 hv8 ht8)
                  | (go_at_call 17; with_reducible refine HA8.out.mono ?_; rintro e w9 ⟨rfl, hJ9⟩; obtain ⟨PN9, CN9, y9⟩ := hJ9.run.seen; have lS9 := World.block_lt_of_cell? _ _ y9; have HJ9 := Lib.hid (hJ9.alloc (.cells #[.string t] 9)); clear hJ9)
                  | (at_builtin; refine wpList_app_at rfl _ _ rfl (.slice none 0 0) base ([] : List ByteArray) rfl HJ9.out.p HJ9.out.wb.2 _ 1 rfl t ((World.cell?_alloc_at _ _ _ _ (by simp)).trans rfl) (by first | omega | simp) ?_; intro g cg w10 hL10 hg10 hat10 hlt10; have hJ10 := HJ9.out.app hL10 hg10 hat10 hlt10 hsz (by first | omega | (simp; omega)); have hle := hJ10.run.len.1; rw [HT8.out, HYS.out] at hle; simp at hle; have hqq : ¬ (Q : Int) < (ys.length : Int) + 1 := (by omega); have hyy : ((ys.length : Int) + 1 == 0) = false := (by simp; omega); have HTK9 := Lib.hid (hJ10.tokens_short ys t (HT8.out.trans HYS.out)); clear hL10 hg10 hat10 hlt10 hJ10)
                  | (go_at_call 10; with_reducible refine HTK9.out.mono ?_; rintro e w11 ⟨b11, o11, c11, rfl, l11, x11, hJ11⟩; have HJ11 := Lib.hid hJ11; clear hJ11))
                refine ⟨⟨j + 1, some ⟨g, 0, none⟩, cg, ([] : List ByteArray) ++ [t], st', ver, _, by omega, by omega, by simp, by rw [HV8.out], by go_num, (HJ11.out).cast (by simp) (by simp), by rw [HT8.out, HKT.out]; exact lru_one HQ1.out hsz⟩, ?_⟩
                simp [intOf]; omega
              · have gz : ¬ (t.size : Int) ≤ 2048 := by omega
                have gz2 : (2048 : Int) < (t.size : Int) := by omega
                go_wp2_with (first
                  | (refine wpList_load_mid rfl 52 _ rfl bb (off + j * 29) rfl cs _ HR.out.1 Try.underlying52 rfl (by rw [HR.out.2]; exact size52) ?_)
                  | (go_at_call 15; with_reducible refine HST.out.mono ?_; rintro e w5 ⟨rfl, hJ5, _⟩; have x5 := HD.out _ hJ5.run.kp; obtain ⟨x5, l5⟩ := x5; have p25 := hJ5.row.cell 2; have lP5 := hJ5.row.lt; have v5 := hJ5.run.vcell; have lS5 := hJ5.run.ltS; have HNR := Lib.hid (hJ5.nil.near_no (by omega) t HKT.out hin); clear hJ5; simp at p25)
                  | (go_at_call 16; with_reducible refine HNR.out.mono ?_; rintro e w6 ⟨rfl, hJ6⟩; obtain ⟨PN6, CN6, y6⟩ := hJ6.run.seen; have lS6 := World.block_lt_of_cell? _ _ y6; have HA6 := Lib.hid hJ6.asked; clear hJ6)
                  | (go_at_call 17; with_reducible refine HA6.out.mono ?_; rintro e w7 ⟨rfl, hJ7⟩; have HR7 := Lib.hid (hJ7.right_no (by omega) t hts hin); clear hJ7)
                  | (go_at_call 11; with_reducible refine HR7.out.mono ?_; rintro e w8 ⟨rfl, st', hJ8, hh8, hm8, hv8, ht8⟩; have hA8 := hJ8.asked; rw [hh8, hm8] at hA8; have HA8 := Lib.hid hA8; have HV8 := Lib.hid hv8; have HT8 := Lib.hid ht8; clear hJ8 hA8 hh8 hm8 hv8 ht8)
                  | (go_at_call 17; with_reducible refine HA8.out.mono ?_; rintro e w9 ⟨rfl, hJ9⟩; obtain ⟨PN9, CN9, y9⟩ := hJ9.run.seen; have lS9 := World.block_lt_of_cell? _ _ y9; have hle := hJ9.run.len.1; obtain ⟨TL, hTL⟩ : ∃ TL, (toks st').length = TL := ⟨_, rfl⟩; have HTK9 := Lib.hid (hJ9.tokens_long TL hTL); rw [hTL] at hle; have hqq : ¬ (Q : Int) < (TL : Int) := (by omega); clear hJ9 hTL))
                refine HTK9.out.mono ?_
                rintro e w11 ⟨p11, c11, rfl, hs11, hJ11⟩
                have HAM := Lib.hid (hJ11.among0 hs11 t (by rw [HT8.out, nextL_long hin hsz]; exact hin))
                have HX := Lib.hid (And.intro hin hsz)
                clear hJ11 hs11 hin hsz x5 l5 p25 lP5 v5 lS5 y6 lS6 y9 lS9 hts
                go_wp2_with fail
                refine HAM.out.mono ?_
                rintro e w12 ⟨rfl, hJ12⟩
                have HJ12 := Lib.hid hJ12
                clear hJ12
                go_wp2_with fail
                refine ⟨⟨j + 1, none, 0, ([] : List ByteArray), st', ver, _, by omega, by omega, by simp, by rw [HV8.out], by go_num, (HJ12.out).cast (by simp) (by simp), by rw [HT8.out, nextL_long HX.out.1 HX.out.2]; exact HKT.out⟩, ?_⟩
                simp [intOf]; omega
    · have gg : ¬ j < m ∨ (j < m ∧ ¬ j < 300) := by omega
      clear c1
      rcases gg with g1 | ⟨g1, g2⟩
      all_goals
        first | (have g1' : ¬ (j : Int) < (m : Int) := (by omega)) | (have g1' : (j : Int) < (m : Int) := (by omega); have g2' : ¬ (j : Int) < 300 := (by omega))
        go_wp2_with (go_at_call 7; refine (lives_ok _).mono ?_; rintro e w5 ⟨rfl, hb5⟩; have HB5 := Lib.hid hb5; clear hb5)
        go_ret
        exact ⟨rfl, (HJ.out.run.kp.then_below HB5.out HJ.out.run.kp.size).below (Nat.le_refl _) (fun b hb e => by omega)⟩
end Go.Proofs.Ytkbbaokllgmhiaa
