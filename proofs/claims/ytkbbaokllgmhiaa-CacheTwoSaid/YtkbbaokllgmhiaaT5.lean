/- CacheTwo: the walk. -/
import Derived.Test.YtkbbaokllgmhiaaT4
namespace Go.Proofs.Ytkbbaokllgmhiaa
open Go.RowKit Go.Maps Go.MuLone Go.Sort Go.Shelf

set_option maxRecDepth 100000 in
set_option maxHeartbeats 30000000 in
theorem two_ok {w : World} (mo : Int) (a0 : Option Addr) (n ca : Nat) (b0 : Option Addr) (m cb : Nat) (hi : Inp w a0 n) (hn : n ≤ maxLen) (hs : Stp2 w b0 m) (hm : m ≤ maxLen) :
    Calls Try.prog 6 #[.agg #[.int .i64 mo, .slice a0 n ca, .slice b0 m cb]] w fun e w' => e = .returned (.bool true) ∧ Below w.heap.size w w' := by
  have HN := Lib.hid hn
  unfold maxLen at hm
  have HI := Lib.hid hi
  have HS := Lib.hid hs
  have HSZ : Hid (∀ (x : Int) (W : World), Calls Try.prog 13 #[.int .i64 x] W fun e w' => e = .returned (.int .i64 (1 + x % 1024)) ∧ w' = W) := fun x W => size_any x W
  have HNEW := Lib.hid (fun (x : Int) (W : World) (S : Nat) => new_ok 28 (.pointer (some ⟨S, 0, none⟩)) (1 + x % 1024) W (by omega) (by omega))
  clear hi hs hn
  go_enter Try.func6, Try.ntmps6
  go_wp2_with (first | (go_at_call 13; refine (HSZ.out _ _).mono ?_; rintro e w' ⟨rfl, hww⟩; rw [hww]; clear hww w'))
  refine (HNEW.out _ _ _).mono ?_
  rintro e w2 ⟨rfl, hC2, hb2⟩
  simp only [World.size_alloc] at hC2 hb2
  have lp2 := (((((hasRow_new w #[.int .i64 mo, .slice a0 n ca, .slice b0 m cb] 41).alloc (.cells #[.int .u64 0, .slice none 0 0] 32)).alloc (.cells #[.int .u64 0, .slice none 0 0] 32)).alloc (.cells #[.int .u64 0, .slice none 0 0] 32)).below hb2 (by omega))
  have pA := lp2.cell 0
  have lA := lp2.lt
  have HC2 := Lib.hid (And.intro hC2 (And.intro hb2 lp2))
  clear hC2 hb2 lp2
  simp at pA
  go_wp2_with (first | (go_at_call 13; refine (HSZ.out _ _).mono ?_; rintro e w' ⟨rfl, hww⟩; rw [hww]; clear hww w'))
  refine (HNEW.out _ _ _).mono ?_
  rintro e w3 ⟨rfl, hC3, hb3⟩
  have lp3 := HC2.out.2.2.below hb3 HC2.out.2.2.lt
  have pB := lp3.cell 0
  have lB := lp3.lt
  have HC3 := Lib.hid (And.intro hC3 (And.intro hb3 lp3))
  clear hC3 hb3 lp3
  simp at pB
  go_wp2_with (first | (go_at_call 13; refine (HSZ.out _ _).mono ?_; rintro e w' ⟨rfl, hww⟩; rw [hww]; clear hww w'))
  refine (HNEW.out _ _ _).mono ?_
  rintro e w4 ⟨rfl, hC4, hb4⟩
  have lp4 := HC3.out.2.2.below hb4 HC3.out.2.2.lt
  have pC := lp4.cell 0
  have lC := lp4.lt
  have HC4 := Lib.hid (And.intro hC4 (And.intro hb4 lp4))
  clear hC4 hb4 lp4
  simp at pC
  go_wp2_with (first | (go_at_call 13; refine (HSZ.out _ _).mono ?_; rintro e w' ⟨rfl, hww⟩; rw [hww]; clear hww w'))
  refine (HNEW.out _ _ _).mono ?_
  rintro e w5 ⟨rfl, hC5, hb5⟩
  have hst := two_start (w := w) _ HC2.out.1 HC2.out.2.1 HC3.out.1 HC3.out.2.1 HC4.out.1 HC4.out.2.1 hC5 hb5
  have HST := Lib.hid hst
  clear hst hC5 hb5
  go_wp2_with (first | (go_at_call 9; refine (num_any _ _).mono ?_; rintro e w' ⟨rfl, hww⟩; rw [hww]; clear hww w') | (go_at_call 7; refine (lives_ok _).mono ?_; rintro e w6 ⟨rfl, hb6⟩; have HB6 := Lib.hid hb6; clear hb6; obtain ⟨tag, hT⟩ := HST.out; have hT6 := hT.below HB6.out; have hP := hT6.row.1; have p0 := hP.cell 0; have p1 := hP.cell 1; have p2 := hP.cell 2; have lP := hP.lt; have HT6 := Lib.hid hT6; clear hT hT6 hP; simp [adf] at p0 p1 p2 lP))
  refine (tokens_of (.int .i64 mo) a0 n ca (.slice b0 m cb) ?h1 HN.out).mono ?_
  case h1 => exact HI.out.kp HT6.out.kp (fun b hb => by omega)
  rintro e w7 ⟨p, cap, ls, rfl, hL, hl0, hl1, hlsz, hb7⟩
  have hls := hL.strs
  obtain ⟨pa, pcap, hpe, hpx⟩ := hls
  cases hpe
  obtain ⟨bl, ol, rfl, _⟩ := hpx (fun e => by simp [e] at hl0)
  obtain ⟨tag7, hT7⟩ := HT6.out.setList hL hb7
  have hP7 : TwP w w7 (adf (w.heap.size + 1 + 1 + 1 + 1 + 1) (w2.heap.size + 1) (w3.heap.size + 1) (w4.heap.size + 1) (w.heap.size + 1) (w.heap.size + 1 + 1) (w.heap.size + 1 + 1 + 1) w.heap.size) _ 0 0 #[.int .i64 mo, .slice a0 n ca, .slice b0 m cb] (.slice (some ⟨bl, ol, none⟩) ls.length cap) ls 1 st0 st0 0 := ⟨⟨_, _, _, _, hT7, (fun _ _ _ => rfl), rfl, rfl, rfl, rfl⟩, ⟨rfl, rfl⟩, .inl rfl⟩
  have HP7 := Lib.hid hP7
  have HLS := Lib.hid hlsz
  clear hL hpx hlsz hb7 hT7 hP7 HST HT6 HC2 HC3 HC4 HB6 HI HNEW HSZ
  go_wp2_with fail
  generalize qf _ _ = Q at HP7
  generalize hga : w.heap.size + 1 + 1 + 1 + 1 + 1 = A at *
  generalize hgv : w.heap.size + 1 + 1 + 1 = vv at *
  generalize hgr : w.heap.size + 1 + 1 = rr at *
  generalize hgs : w.heap.size + 1 = ss at *
  generalize hgP : w.heap.size = P at *
  generalize hgb : w2.heap.size + 1 = B at *
  generalize hgx : w3.heap.size + 1 = X at *
  generalize hgy : w4.heap.size + 1 = Y at *
  have HGP := Lib.hid hgP
  clear hga hgv hgr hgs hgP hgb hgx hgy p0 p1 p2 lP pA lA pB lB pC lC
  go_loopw [15] (fun i wx => ∃ (j : Nat) (V : Int) (S : CSt), j ≤ 300 ∧ j ≤ m ∧ i = .int .i64 (j : Int) ∧ TwP w wx (adf A B X Y ss rr vv P) Q V (2 * (j : Int)) #[.int .i64 mo, .slice a0 n ca, .slice b0 m cb] (.slice (some ⟨bl, ol, none⟩) ls.length cap) ls 1 S S 0) (fun i _ => 300 - (intOf i).toNat)
  case atStart => exact ⟨0, 0, st0, by omega, by omega, rfl, HP7.out⟩
  case round =>
    obtain ⟨j, V, S, hj1, hj2, rfl, hP⟩ := hrel
    have p2 : wr.cell? ⟨P, 2, none⟩ = some (.slice b0 m cb) := hP.row8.cell 2
    have lP : P < wr.heap.size := hP.row8.lt
    have HP := Lib.hid hP
    clear hP
    by_cases c1 : j < m ∧ j < 300
    · have g1 : (j : Int) < (m : Int) := by omega
      have g2 : (j : Int) < 300 := by omega
      have g0 : (0 : Int) ≤ (j : Int) := by omega
      obtain ⟨bb, off, cs, d, wh, N, rfl, hbb, hr, hcl, q0, q1, q2, q3, q4, q5⟩ := HS.out.at_ c1.1
      have HR := Lib.hid (And.intro (rangeAt_same hr (HP.out.kp.block bb hbb (by omega))) (And.intro hcl q5))
      have HQ := Lib.hid (And.intro q0 (And.intro q1 (And.intro q2 (And.intro q3 q4))))
      have lbb : bb < wr.heap.size := by have := HP.out.kp.size; omega
      clear q0 q1 q2 q3 q4 q5 hr hcl hbb c1
      by_cases d3 : d = 3
      · subst d3
        go_wp2_with (first | (refine wpList_load_mid rfl 52 _ rfl bb (off + j * 29) rfl cs _ HR.out.1 Try.underlying52 rfl (by rw [HR.out.2.1]; exact size52) ?_) | (refine wpList_store52 rfl _ _ rfl wr.heap.size rfl cs.toArray rfl size52 (by simp [HR.out.2.1]) HR.out.2.2 (hasRow_new wr _ 52).is ?_; intro w5 hr5 hk5; have hb5 := ((Below.refl _ wr).alloc (Nat.le_refl _) _).trans (hk5.below (B := wr.heap.size) (by simp) (fun b hb e => by omega)); have x0 := (hr5.cell 0).trans HQ.out.1; have x1 := (hr5.cell 1).trans HQ.out.2.1; have x2 := (hr5.cell 2).trans HQ.out.2.2.1; have l5 := hr5.lt; have hP5 := HP.out.below hb5; have v5 := hP5.srcs (s := ss) 5 (by omega) (by omega) rfl; have v6 := hP5.srcs (s := rr) 6 (by omega) (by omega) rfl; have v7 := hP5.srcs (s := vv) 7 (by omega) (by omega) rfl; obtain ⟨v5a, v5b, v5c, _⟩ := v5; obtain ⟨v6a, v6b, v6c, _⟩ := v6; obtain ⟨v7a, v7b, v7c, _⟩ := v7; have hap := hP5.apart; obtain ⟨ap1, ap2, ap3⟩ := hap; simp only [adf] at ap1 ap2 ap3; have o1 := HP.out.srcs (s := ss) 5 (by omega) (by omega) rfl; have o2 := HP.out.srcs (s := rr) 6 (by omega) (by omega) rfl; have o3 := HP.out.srcs (s := vv) 7 (by omega) (by omega) rfl; have oo1 : ¬ ss = wr.heap.size := (by have := o1.2.2.1; omega); have oo2 : ¬ rr = wr.heap.size := (by have := o2.2.2.1; omega); have oo3 : ¬ vv = wr.heap.size := (by have := o3.2.2.1; omega); have op1 : ¬ wr.heap.size = ss := (by omega); have op2 : ¬ wr.heap.size = rr := (by omega); have op3 : ¬ wr.heap.size = vv := (by omega); have HP5 := Lib.hid hP5; clear hr5 hk5 hb5 hP5 o1 o2 o3))
        go_roundw
        case rel => exact ⟨j + 1, N, S, by omega, by omega, by go_num, (HP5.out.vers (s := ss) (r := rr) (v := vv) rfl rfl rfl N HQ.out.2.2.2.1 HQ.out.2.2.2.2).le (by omega)⟩
        case measure => simp [intOf]; omega
      · have e1 := Int.emod_nonneg wh (b := (ls.length : Int)) (by omega)
        have e2 := Int.emod_lt_of_pos wh (b := (ls.length : Int)) (by omega)
        obtain ⟨kk, hkk, hkw⟩ : ∃ kk : Nat, kk < ls.length ∧ wh % ls.length = (kk : Int) := ⟨(wh % ls.length).toNat, by omega, by omega⟩
        have HW : Hid (∀ W : World, Calls Try.prog 19 #[.int .i64 wh, .int .i64 ls.length] W fun e w' => e = .returned (.int .i64 (kk : Int)) ∧ w' = W) := fun W => by rw [← hkw]; exact within_any wh ls.length (by omega) (by omega) W
        clear e1 e2 hkw
        have hts := HLS.out _ (List.getElem_mem hkk)
        obtain ⟨t, htt⟩ : ∃ t, ls[kk] = t := ⟨_, rfl⟩
        rw [htt] at hts
        have HTT := Lib.hid htt
        clear htt
        have k1 : (0 : Int) ≤ (kk : Int) := by omega
        have k2 : (kk : Int) < (ls.length : Int) := by omega
        have g3 : (d == 3) = false := by simpa using d3
        by_cases par : j % 2 = 1
        · have gp : ((j : Int) % 2 == 1) = true := by simp; omega
          obtain ⟨Si, hPi⟩ := HP.out.swap 2 (.inr rfl)
          have HPi := Lib.hid hPi
          clear hPi par
          by_cases d6 : d = 6
          · subst d6
            go_wp2_with (first
              | (refine wpList_load_mid rfl 52 _ rfl bb (off + j * 29) rfl cs _ HR.out.1 Try.underlying52 rfl (by rw [HR.out.2.1]; exact size52) ?_)
              | (refine wpList_store52 rfl _ _ rfl wr.heap.size rfl cs.toArray rfl size52 (by simp [HR.out.2.1]) HR.out.2.2 (hasRow_new wr _ 52).is ?_; intro w5 hr5 hk5; have hb5 := ((Below.refl _ wr).alloc (Nat.le_refl _) _).trans (hk5.below (B := wr.heap.size) (by simp) (fun b hb e => by omega)); have x0 := (hr5.cell 0).trans HQ.out.1; have x1 := (hr5.cell 1).trans HQ.out.2.1; have x2 := (hr5.cell 2).trans HQ.out.2.2.1; have l5 := hr5.lt; have hP5 := HPi.out.below hb5; have HR5 := Lib.hid hr5; have hC5 := HPi.out.bound.below hb5; have HCL1 := Lib.hid (hC5.clear1 (a := B) rfl); clear hr5 hk5 hb5 hP5 hC5)
              | (go_at_call 18; with_reducible refine HCL1.out.mono ?_; rintro e w6 ⟨rfl, hC6, hk6⟩; have hr6 := HR5.out.kp hk6 (Nat.lt_irrefl _); have HR6 := Lib.hid hr6; have HCL3 := Lib.hid (hC6.clear3 (a := Y) rfl); clear hr6 hC6 hk6)
              | (go_at_call 18; with_reducible refine HCL3.out.mono ?_; rintro e w7' ⟨rfl, hC7, hk7⟩; have hr7 := HR6.out.kp hk7 (Nat.lt_irrefl _); have x17 := (hr7.cell 1).trans HQ.out.2.1; have l7 := hr7.lt; have hP5 := hC7.toP; have hl5 := hP5.lst.at_ hkk; rw [HTT.out] at hl5; obtain ⟨lb5, lc5⟩ := hl5; have HR1 := Lib.hid (hP5.right1 (a := B) (s := ss) rfl rfl (by omega) t hts); clear hr7 hC7 hk7 hP5)
              | (go_at_call 19; with_reducible refine (HW.out _).mono ?_; rintro e w' ⟨rfl, hww⟩; rw [hww]; clear hww w')
              | (go_at_call 11; with_reducible refine HR1.out.mono ?_; rintro e w8 ⟨rfl, hP8⟩; rw [Nat.zero_add] at hP8; have HR3 := Lib.hid (hP8.right3 (a := Y) (s := vv) rfl rfl (by omega) hts); clear hP8)
              | (go_at_call 11; with_reducible refine HR3.out.mono ?_; rintro e w9 ⟨rfl, hP9⟩; generalize fnd (Q 2) V t (stepSt 6 Si) = Sn at hP9; obtain ⟨TL, hTL⟩ : ∃ TL, (toks Sn).length = TL := ⟨_, rfl⟩; have HTL := Lib.hid hTL; clear hTL; have HL9 : Hid (Y < w9.heap.size) := Lib.hid (hP9.lt3n (a := Y) rfl); have HT1 := Lib.hid (hP9.tokens1n (a := B) rfl TL HTL.out); clear hP9)
              | (go_at_call 10; with_reducible refine HT1.out.mono ?_; rintro e w10 ⟨p10, c10, rfl, hs10, hP10⟩; have HT3 := Lib.hid (hP10.tokens3n (a := Y) rfl TL HTL.out); have HS10 := Lib.hid hs10; clear hP10 hs10)
              | (go_at_call 10; with_reducible refine HT3.out.mono ?_; rintro e w11 ⟨p11, c11, rfl, hs11, hP11, hk11⟩; have HEQ := Lib.hid (hP11.same (HS10.out.keep hk11 (fun b hb e => absurd HL9.out (by omega))) hs11); clear hs11 hP11 hk11)
              | (go_at_call 20; with_reducible refine HEQ.out.mono ?_; rintro e w12 ⟨rfl, hP12⟩; have HA1 := Lib.hid (hP12.asked1 (a := B) rfl); clear hP12)
              | (go_at_call 17; with_reducible refine HA1.out.mono ?_; rintro e w13 ⟨rfl, hP13⟩; have HA3 := Lib.hid (hP13.asked3 (a := Y) rfl); clear hP13)
              | (go_at_call 17; with_reducible refine HA3.out.mono ?_; rintro e w14 ⟨rfl, hP14⟩; have HP14 := Lib.hid hP14; clear hP14))
            go_roundw
            case rel =>
              obtain ⟨Sz, hz⟩ := HP14.out.swap 1 (.inl rfl)
              exact ⟨j + 1, V, Sz, by omega, by omega, by go_num, hz.le (by omega)⟩
            case measure => simp [intOf]; omega
          · have g6 : (d == 6) = false := by simpa using d6
            go_wp2_with (first
              | (refine wpList_load_mid rfl 52 _ rfl bb (off + j * 29) rfl cs _ HR.out.1 Try.underlying52 rfl (by rw [HR.out.2.1]; exact size52) ?_)
              | (refine wpList_store52 rfl _ _ rfl wr.heap.size rfl cs.toArray rfl size52 (by simp [HR.out.2.1]) HR.out.2.2 (hasRow_new wr _ 52).is ?_; intro w5 hr5 hk5; have hb5 := ((Below.refl _ wr).alloc (Nat.le_refl _) _).trans (hk5.below (B := wr.heap.size) (by simp) (fun b hb e => by omega)); have x0 := (hr5.cell 0).trans HQ.out.1; have x1 := (hr5.cell 1).trans HQ.out.2.1; have x2 := (hr5.cell 2).trans HQ.out.2.2.1; have l5 := hr5.lt; have hP5 := HPi.out.below hb5; have hl5 := hP5.lst.at_ hkk; rw [HTT.out] at hl5; obtain ⟨lb5, lc5⟩ := hl5; have HR1 := Lib.hid (hP5.right1 (a := B) (s := ss) rfl rfl (by omega) t hts); clear hr5 hk5 hb5 hP5)
              | (go_at_call 19; with_reducible refine (HW.out _).mono ?_; rintro e w' ⟨rfl, hww⟩; rw [hww]; clear hww w')
              | (go_at_call 11; with_reducible refine HR1.out.mono ?_; rintro e w8 ⟨rfl, hP8⟩; rw [Nat.zero_add] at hP8; have HR3 := Lib.hid (hP8.right3 (a := Y) (s := vv) rfl rfl (by omega) hts); clear hP8)
              | (go_at_call 11; with_reducible refine HR3.out.mono ?_; rintro e w9 ⟨rfl, hP9⟩; generalize fnd (Q 2) V t Si = Sn at hP9; obtain ⟨TL, hTL⟩ : ∃ TL, (toks Sn).length = TL := ⟨_, rfl⟩; have HTL := Lib.hid hTL; clear hTL; have HL9 : Hid (Y < w9.heap.size) := Lib.hid (hP9.lt3n (a := Y) rfl); have HT1 := Lib.hid (hP9.tokens1n (a := B) rfl TL HTL.out); clear hP9)
              | (go_at_call 10; with_reducible refine HT1.out.mono ?_; rintro e w10 ⟨p10, c10, rfl, hs10, hP10⟩; have HT3 := Lib.hid (hP10.tokens3n (a := Y) rfl TL HTL.out); have HS10 := Lib.hid hs10; clear hP10 hs10)
              | (go_at_call 10; with_reducible refine HT3.out.mono ?_; rintro e w11 ⟨p11, c11, rfl, hs11, hP11, hk11⟩; have HEQ := Lib.hid (hP11.same (HS10.out.keep hk11 (fun b hb e => absurd HL9.out (by omega))) hs11); clear hs11 hP11 hk11)
              | (go_at_call 20; with_reducible refine HEQ.out.mono ?_; rintro e w12 ⟨rfl, hP12⟩; have HA1 := Lib.hid (hP12.asked1 (a := B) rfl); clear hP12)
              | (go_at_call 17; with_reducible refine HA1.out.mono ?_; rintro e w13 ⟨rfl, hP13⟩; have HA3 := Lib.hid (hP13.asked3 (a := Y) rfl); clear hP13)
              | (go_at_call 17; with_reducible refine HA3.out.mono ?_; rintro e w14 ⟨rfl, hP14⟩; have HP14 := Lib.hid hP14; clear hP14))
            go_roundw
            case rel =>
              obtain ⟨Sz, hz⟩ := HP14.out.swap 1 (.inl rfl)
              exact ⟨j + 1, V, Sz, by omega, by omega, by go_num, hz.le (by omega)⟩
            case measure => simp [intOf]; omega
        · have gp : ((j : Int) % 2 == 1) = false := by simp; omega
          obtain ⟨Si, hPi⟩ := HP.out.swap 1 (.inl rfl)
          have HPi := Lib.hid hPi
          clear hPi par
          by_cases d6 : d = 6
          · subst d6
            go_wp2_with (first
              | (refine wpList_load_mid rfl 52 _ rfl bb (off + j * 29) rfl cs _ HR.out.1 Try.underlying52 rfl (by rw [HR.out.2.1]; exact size52) ?_)
              | (refine wpList_store52 rfl _ _ rfl wr.heap.size rfl cs.toArray rfl size52 (by simp [HR.out.2.1]) HR.out.2.2 (hasRow_new wr _ 52).is ?_; intro w5 hr5 hk5; have hb5 := ((Below.refl _ wr).alloc (Nat.le_refl _) _).trans (hk5.below (B := wr.heap.size) (by simp) (fun b hb e => by omega)); have x0 := (hr5.cell 0).trans HQ.out.1; have x1 := (hr5.cell 1).trans HQ.out.2.1; have x2 := (hr5.cell 2).trans HQ.out.2.2.1; have l5 := hr5.lt; have hP5 := HPi.out.below hb5; have HR5 := Lib.hid hr5; have hC5 := HPi.out.bound.below hb5; have HCL1 := Lib.hid (hC5.clear1 (a := A) rfl); clear hr5 hk5 hb5 hP5 hC5)
              | (go_at_call 18; with_reducible refine HCL1.out.mono ?_; rintro e w6 ⟨rfl, hC6, hk6⟩; have hr6 := HR5.out.kp hk6 (Nat.lt_irrefl _); have HR6 := Lib.hid hr6; have HCL3 := Lib.hid (hC6.clear3 (a := X) rfl); clear hr6 hC6 hk6)
              | (go_at_call 18; with_reducible refine HCL3.out.mono ?_; rintro e w7' ⟨rfl, hC7, hk7⟩; have hr7 := HR6.out.kp hk7 (Nat.lt_irrefl _); have x17 := (hr7.cell 1).trans HQ.out.2.1; have l7 := hr7.lt; have hP5 := hC7.toP; have hl5 := hP5.lst.at_ hkk; rw [HTT.out] at hl5; obtain ⟨lb5, lc5⟩ := hl5; have HR1 := Lib.hid (hP5.right1 (a := A) (s := ss) rfl rfl (by omega) t hts); clear hr7 hC7 hk7 hP5)
              | (go_at_call 19; with_reducible refine (HW.out _).mono ?_; rintro e w' ⟨rfl, hww⟩; rw [hww]; clear hww w')
              | (go_at_call 11; with_reducible refine HR1.out.mono ?_; rintro e w8 ⟨rfl, hP8⟩; rw [Nat.zero_add] at hP8; have HR3 := Lib.hid (hP8.right3 (a := X) (s := rr) rfl rfl (by omega) hts); clear hP8)
              | (go_at_call 11; with_reducible refine HR3.out.mono ?_; rintro e w9 ⟨rfl, hP9⟩; generalize fnd (Q 1) V t (stepSt 6 Si) = Sn at hP9; obtain ⟨TL, hTL⟩ : ∃ TL, (toks Sn).length = TL := ⟨_, rfl⟩; have HTL := Lib.hid hTL; clear hTL; have HL9 : Hid (X < w9.heap.size) := Lib.hid (hP9.lt3n (a := X) rfl); have HT1 := Lib.hid (hP9.tokens1n (a := A) rfl TL HTL.out); clear hP9)
              | (go_at_call 10; with_reducible refine HT1.out.mono ?_; rintro e w10 ⟨p10, c10, rfl, hs10, hP10⟩; have HT3 := Lib.hid (hP10.tokens3n (a := X) rfl TL HTL.out); have HS10 := Lib.hid hs10; clear hP10 hs10)
              | (go_at_call 10; with_reducible refine HT3.out.mono ?_; rintro e w11 ⟨p11, c11, rfl, hs11, hP11, hk11⟩; have HEQ := Lib.hid (hP11.same (HS10.out.keep hk11 (fun b hb e => absurd HL9.out (by omega))) hs11); clear hs11 hP11 hk11)
              | (go_at_call 20; with_reducible refine HEQ.out.mono ?_; rintro e w12 ⟨rfl, hP12⟩; have HA1 := Lib.hid (hP12.asked1 (a := A) rfl); clear hP12)
              | (go_at_call 17; with_reducible refine HA1.out.mono ?_; rintro e w13 ⟨rfl, hP13⟩; have HA3 := Lib.hid (hP13.asked3 (a := X) rfl); clear hP13)
              | (go_at_call 17; with_reducible refine HA3.out.mono ?_; rintro e w14 ⟨rfl, hP14⟩; have HP14 := Lib.hid hP14; clear hP14))
            go_roundw
            case rel =>
              obtain ⟨Sz, hz⟩ := HP14.out.swap 1 (.inl rfl)
              exact ⟨j + 1, V, Sz, by omega, by omega, by go_num, hz.le (by omega)⟩
            case measure => simp [intOf]; omega
          · have g6 : (d == 6) = false := by simpa using d6
            go_wp2_with (first
              | (refine wpList_load_mid rfl 52 _ rfl bb (off + j * 29) rfl cs _ HR.out.1 Try.underlying52 rfl (by rw [HR.out.2.1]; exact size52) ?_)
              | (refine wpList_store52 rfl _ _ rfl wr.heap.size rfl cs.toArray rfl size52 (by simp [HR.out.2.1]) HR.out.2.2 (hasRow_new wr _ 52).is ?_; intro w5 hr5 hk5; have hb5 := ((Below.refl _ wr).alloc (Nat.le_refl _) _).trans (hk5.below (B := wr.heap.size) (by simp) (fun b hb e => by omega)); have x0 := (hr5.cell 0).trans HQ.out.1; have x1 := (hr5.cell 1).trans HQ.out.2.1; have x2 := (hr5.cell 2).trans HQ.out.2.2.1; have l5 := hr5.lt; have hP5 := HPi.out.below hb5; have hl5 := hP5.lst.at_ hkk; rw [HTT.out] at hl5; obtain ⟨lb5, lc5⟩ := hl5; have HR1 := Lib.hid (hP5.right1 (a := A) (s := ss) rfl rfl (by omega) t hts); clear hr5 hk5 hb5 hP5)
              | (go_at_call 19; with_reducible refine (HW.out _).mono ?_; rintro e w' ⟨rfl, hww⟩; rw [hww]; clear hww w')
              | (go_at_call 11; with_reducible refine HR1.out.mono ?_; rintro e w8 ⟨rfl, hP8⟩; rw [Nat.zero_add] at hP8; have HR3 := Lib.hid (hP8.right3 (a := X) (s := rr) rfl rfl (by omega) hts); clear hP8)
              | (go_at_call 11; with_reducible refine HR3.out.mono ?_; rintro e w9 ⟨rfl, hP9⟩; generalize fnd (Q 1) V t Si = Sn at hP9; obtain ⟨TL, hTL⟩ : ∃ TL, (toks Sn).length = TL := ⟨_, rfl⟩; have HTL := Lib.hid hTL; clear hTL; have HL9 : Hid (X < w9.heap.size) := Lib.hid (hP9.lt3n (a := X) rfl); have HT1 := Lib.hid (hP9.tokens1n (a := A) rfl TL HTL.out); clear hP9)
              | (go_at_call 10; with_reducible refine HT1.out.mono ?_; rintro e w10 ⟨p10, c10, rfl, hs10, hP10⟩; have HT3 := Lib.hid (hP10.tokens3n (a := X) rfl TL HTL.out); have HS10 := Lib.hid hs10; clear hP10 hs10)
              | (go_at_call 10; with_reducible refine HT3.out.mono ?_; rintro e w11 ⟨p11, c11, rfl, hs11, hP11, hk11⟩; have HEQ := Lib.hid (hP11.same (HS10.out.keep hk11 (fun b hb e => absurd HL9.out (by omega))) hs11); clear hs11 hP11 hk11)
              | (go_at_call 20; with_reducible refine HEQ.out.mono ?_; rintro e w12 ⟨rfl, hP12⟩; have HA1 := Lib.hid (hP12.asked1 (a := A) rfl); clear hP12)
              | (go_at_call 17; with_reducible refine HA1.out.mono ?_; rintro e w13 ⟨rfl, hP13⟩; have HA3 := Lib.hid (hP13.asked3 (a := X) rfl); clear hP13)
              | (go_at_call 17; with_reducible refine HA3.out.mono ?_; rintro e w14 ⟨rfl, hP14⟩; have HP14 := Lib.hid hP14; clear hP14))
            go_roundw
            case rel =>
              obtain ⟨Sz, hz⟩ := HP14.out.swap 1 (.inl rfl)
              exact ⟨j + 1, V, Sz, by omega, by omega, by go_num, hz.le (by omega)⟩
            case measure => simp [intOf]; omega

    · have gg : ¬ j < m ∨ (j < m ∧ ¬ j < 300) := by omega
      clear c1
      have hap := HP.out.apart
      obtain ⟨p1, c1, p2', c2, p3, c3, n2, n3, y1, y2, y3, hn2, hn3⟩ := HP.out.counts (s := ss) (r := rr) (v := vv) rfl rfl rfl
      have l1 := World.block_lt_of_cell? _ _ y1
      have l2 := World.block_lt_of_cell? _ _ y2
      have l3 := World.block_lt_of_cell? _ _ y3
      have hw1 : IntKind.i64.wrap ((n2 : Int) + (n3 : Int)) = (n2 : Int) + (n3 : Int) := IntWalk.i64_in _ (by omega)
      have hw2 : ((n2 + n3 : Nat) : Int) = (n2 : Int) + (n3 : Int) := by omega
      rw [show ((n2 + n3 : Nat)) = n2 + n3 from rfl] at y1
      clear hap hn2 hn3
      rcases gg with g1 | ⟨g1, g2⟩
      all_goals
        first | (have g1' : ¬ (j : Int) < (m : Int) := (by omega)) | (have g1' : (j : Int) < (m : Int) := (by omega); have g2' : ¬ (j : Int) < 300 := (by omega))
        go_wp2
        go_still_tail 18, (by kernel_rfl)
        change wpList _ _ _ _ _ wr.drew
        go_wp2_with (go_at_call 7; refine (lives_ok _).mono ?_; rintro e w9 ⟨rfl, hb9⟩; have HB9 := Lib.hid hb9; clear hb9)
        go_ret
        exact ⟨rfl, ((HP.out.drewN 1).kp.then_below HB9.out (HP.out.drewN 1).kp.size).below (Nat.le_refl _) (fun b hb e => by omega)⟩
end Go.Proofs.Ytkbbaokllgmhiaa
