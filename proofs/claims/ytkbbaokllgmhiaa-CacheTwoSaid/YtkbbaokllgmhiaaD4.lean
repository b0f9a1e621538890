/- (*Cache).Find of a token that is not remembered. -/
import Derived.Test.YtkbbaokllgmhiaaD2
import Derived.Deep.DeepCutAuto
namespace Go.Proofs.Ytkbbaokllgmhiaa
open Go.RowKit Go.Maps Go.MuLone Go.Sort Go.Shelf

/-- What is remembered at version v. -/
def known (v : Int) (st : CSt) : List Ent := if v = st.ver then st.L else []
/-- What is remembered behind a question of a token that was not known. -/
def laid (most : Int) (L : List Ent) (e : Ent) : List Ent := if e.tok.size ≤ 2048 then (if most ≤ (L.length : Int) then L.tail else L) ++ [e] else L

def AfterVer (w1 wx : World) (F : Nat → Prop) (c M : Nat) (src : Value) (most v turn hits misses : Int) (L0 : List Ent) : Prop :=
  Kp (fun b => b = c ∨ b = M) w1 wx ∧ hasRow wx c (crow 1 src most M v turn hits misses) ∧ ∃ D0, wx.ownsMap Try.prog 9 RV M (Maps.size D0) D0 ∧ DOK wx (fun b => F b ∧ b ≠ c ∧ b ≠ M) D0 L0

def AfterDel (W wx : World) (F : Nat → Prop) (c M : Nat) (Lx : List Ent) : Prop :=
  Kp (fun b => b = M) W wx ∧ ∃ D1, wx.ownsMap Try.prog 9 RV M (Maps.size D1) D1 ∧ DOK wx (fun b => F b ∧ b ≠ c ∧ b ≠ M) D1 Lx

def AfterLay (W wx : World) (F : Nat → Prop) (c M : Nat) (L1 : List Ent) : Prop :=
  Kp (fun b => b = M) W wx ∧ ∃ D1, wx.ownsMap Try.prog 9 RV M (Maps.size D1) D1 ∧ DOK wx (fun b => (F b ∨ (W.heap.size ≤ b ∧ b < wx.heap.size)) ∧ b ≠ c ∧ b ≠ M) D1 L1

set_option maxRecDepth 100000 in
set_option maxHeartbeats 4000000 in
theorem find_miss {t fV fF S : Nat} {v : Int} {tok : ByteArray} {te : Tell} {I I1 I2 : World → (Nat → Prop) → Prop} (hS : Src t fV fF S v tok te I I1 I2) {w : World} {F G : Nat → Prop} {c : Nat} {most : Int} {st : CSt}
    (hC : CacheI w F c (.iface t (.pointer (some ⟨S, 0, none⟩))) most st) (hI : I w G) (hFG : ∀ b, F b → ¬ G b) (hno : ∀ e ∈ known v st, e.tok ≠ tok) (hsz : tok.size ≤ maxLen) (hsl : te.scopes.length ≤ 1000000) (hb1 : st.turn ≤ 1000000000) (hb2 : 0 ≤ st.misses) (hb3 : st.misses ≤ 1000000000) :
    Calls Try.prog 22 #[.pointer (some ⟨c, 0, none⟩), .string tok] w (FindPost w F G c (.iface t (.pointer (some ⟨S, 0, none⟩))) most ⟨v, st.turn + 1, st.hits, st.misses + 1, laid most (known v st) ⟨tok, st.turn + 1, te⟩⟩ I2 te) := by
  obtain ⟨⟨M, D, hr, hown, hMc, hFM, hD⟩, hFc, hlt, htop, ht0, hlen, hm1, hm2⟩ := hC
  obtain ⟨ver, turn, hits, misses, L⟩ := st
  simp only at hr hD htop ht0 hlen hb1 hb2 hb3 hno
  have hcl := hr.lt
  have c0 : w.cell? ⟨c, 0, none⟩ = some (.int .i32 0) := hr.cell 0
  have f0 := hr.frozen 0
  have mV := hS.mV
  have cV := hS.cV
  -- the world in which the source is asked for its version
  have kA : Kp (fun b => b = c) w ((w.setCell ⟨c, 0, none⟩ (.int .i32 1)).alloc z48) := ((Kp.refl (fun b => b = c) w).setCell (a := ⟨c, 0, none⟩) (.inl rfl) _).alloc _
  have rA : hasRow ((w.setCell ⟨c, 0, none⟩ (.int .i32 1)).alloc z48) c (crow 1 (.iface t (.pointer (some ⟨S, 0, none⟩))) most M ver turn hits misses) := (hr.setCell (i := 0) (.int .i32 1)).alloc _
  have zA : isRow ((w.setCell ⟨c, 0, none⟩ (.int .i32 1)).alloc z48) w.heap.size 24 := by
    have := (hasRow_new (w.setCell ⟨c, 0, none⟩ (.int .i32 1)) (#[.string ⟨#[]⟩, .string ⟨#[]⟩, .string ⟨#[]⟩, .string ⟨#[]⟩, .slice none 0 0, .int .u64 0, .int .i64 0, .int .i64 0, .int .u8 0, .int .u8 0, .int .u8 0, .int .u8 0, .int .u8 0, .int .u8 0, .int .u8 0, .int .u8 0, .int .u8 0, .int .u8 0, .int .u8 0, .int .u8 0, .int .u8 0, .int .u8 0, .int .u8 0, .int .u8 0]) 48).is
    have e : (w.setCell ⟨c, 0, none⟩ (.int .i32 1)).heap.size = w.heap.size := by simp [World.setCell]
    rw [e] at this; exact this
  have sA : ((w.setCell ⟨c, 0, none⟩ (.int .i32 1)).alloc z48).heap.size = w.heap.size + 1 := by simp [World.setCell]
  have iA : I ((w.setCell ⟨c, 0, none⟩ (.int .i32 1)).alloc z48) G := hS.kI _ _ _ _ hI kA (fun b hb e => hFG b (e ▸ hFc) hb)
  have cA2 : ((w.setCell ⟨c, 0, none⟩ (.int .i32 1)).alloc z48).cell? ⟨c, 2, none⟩ = _ := rA.cell 2
  have hRunV := hS.runV _ _ iA
  have HRV := Lib.hid hRunV
  have HR := Lib.hid hr
  have HA := Lib.hid rA
  have HK := Lib.hid kA
  have HZ := Lib.hid zA
  have HSA := Lib.hid sA
  clear rA hRunV kA zA sA iA hr
  simp at cA2
  go_enter_defers Try.func22, Try.ntmps22
  go_wp2_with (go_at_call 23; refine (lock_free Try.muLib ⟨c, 0, none⟩ _ (cell_old c0) (frozen_old hcl f0)).mono ?_; rintro e w' ⟨rfl, rfl⟩)
  refine HRV.out.mono ?_
  rintro r w1 ⟨rfl, G1, hI1, hk1, hG1⟩
  have hG0 := hS.lI _ _ hI
  have r1 : hasRow w1 c (crow 1 (.iface t (.pointer (some ⟨S, 0, none⟩))) most M ver turn hits misses) := HA.out.kp hk1 (hFG c hFc)
  have z1 : isRow w1 w.heap.size 24 := by
    obtain ⟨cs, t, h, hc⟩ := HZ.out
    exact ⟨cs, t, (hk1.block _ (Array.getElem?_eq_some_iff.1 h).1 (fun hg => Nat.lt_irrefl _ (hG0 _ hg))).trans h, hc⟩
  have o1 : w1.ownsMap Try.prog 9 RV M (Maps.size D) D := ownsMap_kp (ownsMap_kp hown HK.out hMc) hk1 (hFG M hFM)
  have d1 : DOK w1 (fun b => F b ∧ b ≠ c ∧ b ≠ M) D L := (hD.keep HK.out (fun b hb e => hb.2.1 e)).keep hk1 (fun b hb => hFG b hb.1)
  have HR1 := Lib.hid r1
  have HO1 := Lib.hid o1
  have HD1 := Lib.hid d1
  have HK1 := Lib.hid hk1
  have HHD := Lib.hid hD
  have HOW := Lib.hid hown
  have HTOP := Lib.hid htop
  have HFG := Lib.hid hFG
  have HLT := Lib.hid hlt
  have HG1 := Lib.hid hG1
  have HSRC := Lib.hid hS
  have HMC := Lib.hid hMc
  have HG0 := Lib.hid hG0
  have HNO := Lib.hid hno
  have hc1 := r1.lt
  have x4 := r1.cell 4
  have x5 := r1.cell 5
  have y1 := r1.frozen
  have lz := z1.lt
  clear r1 o1 d1 hk1 hD hown htop hFG hlt hG1 hS hG0 hno
  simp at x4 x5
  have hL0 : ∃ L0, known v ⟨ver, turn, hits, misses, L⟩ = L0 := ⟨_, rfl⟩
  obtain ⟨L0, hL0⟩ := hL0
  have HL0 := Lib.hid hL0
  clear hL0
  go_upto_if 41 with (fail)
  go_cut [41] from 42 to 49 (fun _ wx => AfterVer w1 wx F c M (.iface t (.pointer (some ⟨S, 0, none⟩))) most v turn hits misses L0)
  case first =>
    by_cases hv : v = ver
    · subst hv
      go_wp2
      go_meet
      refine ⟨Kp.refl _ _, HR1.out, D, HO1.out, ?_⟩
      have e : L = L0 := by rw [← HL0.out]; simp [known]
      rw [← e]; exact HD1.out
    · have hv' : (v != ver) = true := by simpa using hv
      go_wp2_with (refine wpList_clear rfl _ rfl rfl HO1.out ?_; intro w2 o2 g2; have r2 := HR1.out.of_same (g2.block c hc1 (fun e => HMC.out (Option.some.inj e).symm)); have HR2 := Lib.hid r2; have f2 := r2.frozen 4; have q2 := r2.cell 4; have l2 := r2.lt; have HO2 := Lib.hid o2; have HG2 := Lib.hid g2; clear r2 o2 g2; simp at q2)
      go_meet
      refine ⟨((Kp.refl (fun b => b = c ∨ b = M) w1).grown HG2.out (fun b hb => by cases hb; exact .inl (.inr rfl))).setCell (a := ⟨c, 4, none⟩) (.inl (.inl rfl)) _, HR2.out.setCell (i := 4) _, .map [], HO2.out.setCell (a := ⟨c, 4, none⟩) HMC.out _, ?_⟩
      have e : [] = L0 := by rw [← HL0.out]; simp [known, hv]
      rw [← e]; exact DOK.empty _ _
  case rest =>
    obtain ⟨kc, rc, D0, oc, dc⟩ := hcut
    have u5 := rc.cell 5
    have u6 := rc.cell 6
    have u8 := rc.cell 8
    have u2 := rc.cell 2
    have yc := rc.frozen
    have cl := rc.lt
    have hMW : M ≠ w.heap.size := by have := HLT.out M hFM; omega
    have zc : isRow wc w.heap.size 24 := z1.kp kc (fun e => by rcases e with e | e <;> omega)
    have zl := zc.lt
    have hno : Maps.has D0 (key tok) = false := by
      cases hh : Maps.has D0 (key tok) with
      | false => rfl
      | true =>
        obtain ⟨e, he, h1⟩ := (dc.has _).1 hh
        have h2 := HL0.out
        exact absurd (bytes_inj h1) (HNO.out e (by rw [h2]; exact he))
    have hL : ∀ W : World, W.heap[M]? = wc.heap[M]? → (Instr.lookup 69 (.map (some M)) (.string tok) true).run Try.prog W = .ok (.tuple #[ansv ⟨#[]⟩ ⟨#[]⟩ none 0 0 0 0 false 0, .bool false]) W := fun W hW => look_ok (ownsMap_same oc hW) tok hsz (atKey_of_not_has hno _) hno
    simp only [ansv] at hL
    have HHL := Lib.hid hL
    have HKC := Lib.hid kc
    have HRC := Lib.hid rc
    have HOC := Lib.hid oc
    have HDC := Lib.hid dc
    have mF := HSRC.out.mF
    have cF := HSRC.out.cF
    clear kc rc oc dc hL hno y1 x4 x5
    simp at u2 u5 u6 u8
    go_wp2_with (at_lookup; refine wpList_look rfl _ _ rfl rfl rfl (HHL.out _ (Below.heap_setCell _ ⟨c, 6, none⟩ _ M HMC.out)) ?_)
    obtain ⟨W, hW⟩ : ∃ W, W = ((wc.setCell ⟨c, 6, none⟩ (.int .u64 (turn + 1))).setCell ⟨c, 8, none⟩ (.int .i64 (misses + 1))).alloc (.cells #[.string ⟨#[]⟩, .string ⟨#[]⟩, .string ⟨#[]⟩, .string ⟨#[]⟩, .slice none 0 0, .int .u64 0, .int .i64 0, .int .i64 0, .int .u8 0, .int .u8 0, .int .u8 0, .int .u8 0, .int .u8 0, .int .u8 0, .int .u8 0, .int .u8 0, .int .u8 0, .int .u8 0, .int .u8 0, .int .u8 0, .int .u8 0, .int .u8 0, .int .u8 0, .int .u8 0, .bool false, .int .u64 0] 85) := ⟨_, rfl⟩
    rw [← hW]
    have kW : Kp (fun b => b = c) wc W := by rw [hW]; exact (((Kp.refl (fun b => b = c) wc).setCell (a := ⟨c, 6, none⟩) (.inl rfl) _).setCell (a := ⟨c, 8, none⟩) (.inl rfl) _).alloc _
    have rW : hasRow W c (crow 1 (.iface t (.pointer (some ⟨S, 0, none⟩))) most M v (turn + 1) hits (misses + 1)) := by rw [hW]; exact ((HRC.out.setCell _).setCell _).alloc _
    have sW : W.heap.size = wc.heap.size + 1 := by rw [hW]; simp [World.setCell]
    clear hW
    have hlt := HLT.out
    have hG0 := HG0.out
    have hs1 : w.heap.size + 1 ≤ w1.heap.size := by have := HK1.out.size; have := HSA.out; omega
    have hG1c : ∀ b, G1 b → b ≠ c ∧ b ≠ M ∧ b ≠ w.heap.size := by
      intro b hb
      have hcl' := hlt c hFc
      have hMl := hlt M hFM
      rcases HG1.out b hb with h | h
      · refine ⟨?_, ?_, ?_⟩
        · intro e; exact HFG.out c hFc (e ▸ h)
        · intro e; exact HFG.out M hFM (e ▸ h)
        · intro e; have := hG0 b h; omega
      · have := HSA.out; omega
    have iW : I1 W G1 := HSRC.out.kI1 _ _ _ _ (HSRC.out.kI1 _ _ _ _ hI1 HKC.out (fun b hb e => by rcases e with e | e; exact (hG1c b hb).1 e; exact (hG1c b hb).2.1 e)) kW (fun b hb => (hG1c b hb).1)
    refine (HSRC.out.runF W G1 iW).mono ?_
    rintro r w5 ⟨p5, n5, rfl, G2, hI2, k5, hG2, hs5⟩
    have r5 := rW.kp k5 (fun h => (hG1c c h).1 rfl)
    have zW := zc.kp kW (fun e => by have := hlt c hFc; omega)
    have z5 := zW.kp k5 (fun h => (hG1c _ h).2.2 rfl)
    have oW := ownsMap_kp HOC.out kW HMC.out
    have o5 := ownsMap_kp oW k5 (fun h => (hG1c M h).2.1 rfl)
    have hlI1 := HSRC.out.lI1 _ _ hI1
    have d5 := (HDC.out.keep kW (fun b hb e => hb.2.1 e)).keep k5 (fun b hb hg => by
      rcases HG1.out b hg with h | h
      · exact HFG.out b hb.1 h
      · have := hlt b hb.1; have := HSA.out; omega)
    have u5 := r5.cell 5
    have u3 := r5.cell 3
    have u6 := r5.cell 6
    have y5 := r5.frozen
    have l5 := r5.lt
    have lz5 := z5.lt
    have hw5 : W.heap.size ≤ w5.heap.size := k5.size
    have HG1C := Lib.hid hG1c
    have HKW := Lib.hid kW
    have HSW := Lib.hid sW
    have HK5 := Lib.hid k5
    have HG2 := Lib.hid hG2
    have HS5 := Lib.hid hs5
    have HR5 := Lib.hid r5
    have HO5 := Lib.hid o5
    have HD5 := Lib.hid d5
    have HI2 := Lib.hid hI2
    have HS1 := Lib.hid hs1
    clear hG1c kW rW sW iW k5 hG2 hs5 r5 oW o5 d5 hI2 hlt hG0 hlI1 zW hs1 yc
    simp at u3 u5 u6
    go_upto_if 113 with (fail)
    obtain ⟨W6, hW6⟩ : ∃ W6, W6 = w5.alloc (.cells #[.string te.iss, .string te.sub, .string ⟨#[]⟩, .string ⟨#[]⟩, .slice p5 te.scopes.length n5, .int .u64 te.grant, .int .i64 0, .int .i64 te.exp, .int .u8 0, .int .u8 0, .int .u8 0, .int .u8 0, .int .u8 0, .int .u8 0, .int .u8 0, .int .u8 0, .int .u8 0, .int .u8 0, .int .u8 0, .int .u8 0, .int .u8 0, .int .u8 0, .int .u8 0, .int .u8 0] 48) := ⟨_, rfl⟩
    rw [← hW6]
    have k6 : Kp (fun _ => False) w5 W6 := by rw [hW6]; exact (Kp.refl _ _).alloc _
    have s6 : W6.heap.size = w5.heap.size + 1 := by rw [hW6]; simp
    have b6 : hasRow W6 w5.heap.size #[.string te.iss, .string te.sub, .string ⟨#[]⟩, .string ⟨#[]⟩, .slice p5 te.scopes.length n5, .int .u64 te.grant, .int .i64 0, .int .i64 te.exp, .int .u8 0, .int .u8 0, .int .u8 0, .int .u8 0, .int .u8 0, .int .u8 0, .int .u8 0, .int .u8 0, .int .u8 0, .int .u8 0, .int .u8 0, .int .u8 0, .int .u8 0, .int .u8 0, .int .u8 0, .int .u8 0] := by rw [hW6]; exact hasRow_new _ _ _
    clear hW6
    have r6 := HR5.out.kp k6 (fun h => h)
    have o6 := ownsMap_kp HO5.out k6 (fun h => h)
    have d6 := HD5.out.keep k6 (fun _ _ h => h)
    have z6 := z5.kp k6 (fun h => h)
    have st6 := HS5.out.keep k6 (fun _ _ h => h)
    have hsz6 : Maps.size D0 = L0.length := d6.size o6
    have hlL0 : (L0.length : Int) ≤ most := by
      rw [← HL0.out]; unfold known; split
      · exact hlen
      · simp; omega
    have u3 : W6.cell? ⟨c, 3, none⟩ = some (.int .i64 most) := r6.cell 3
    have u5 : W6.cell? ⟨c, 5, none⟩ = some (.map (some M)) := r6.cell 5
    have u6 : W6.cell? ⟨c, 6, none⟩ = some (.int .u64 (turn + 1)) := r6.cell 6
    have y6 := r6.frozen
    have l6 := r6.lt
    have lz6 := z6.lt
    have i6 := b6.is
    have e6 := b6.rowAt
    have hlen6 : ∀ (ty : TypeId) (q : Nat), (Builtin.len_ #[69] ty #[.map (some M)]).run Try.prog (W6.drewN q) = .ok (.int .i64 (L0.length : Int)) (W6.drewN q) := fun ty q => by
      have := World.ownsMap.len (w := W6.drewN q) (show (W6.drewN q).ownsMap Try.prog 9 RV M (Maps.size D0) D0 from o6) Try.underlying69 ty
      rw [this, hsz6]
    have HR6 := Lib.hid r6
    have HO6 := Lib.hid o6
    have HD6 := Lib.hid d6
    have HK6 := Lib.hid k6
    have HS6 := Lib.hid s6
    have HB6 := Lib.hid b6
    have HST6 := Lib.hid st6
    have HZ6 := Lib.hid hsz6
    clear k6 s6 b6 r6 o6 d6 st6 hsz6
    go_cut [113] from 114 to 144 (fun _ wx => AfterLay W6 wx F c M (laid most L0 ⟨tok, turn + 1, te⟩))
    case first =>
      by_cases hsh : (tok.size : Int) ≤ 2048
      · go_wp2
        go_quiet (fail)
        obtain ⟨Wd, hWd⟩ : ∃ Wd, Wd = W6.drewN nq := ⟨_, rfl⟩
        rw [← hWd]
        have kd : Kp (fun _ => False) W6 Wd := by rw [hWd]; exact (Kp.refl _ _).drewN _
        have sd : Wd.heap.size = W6.heap.size := by rw [hWd]; rfl
        clear hWd hlen6 u3 u5 u6 y6 i6 e6
        have rd0 := HR6.out.kp kd (fun h => h)
        have rd : hasRow Wd.drew c (crow 1 (.iface t (.pointer (some ⟨S, 0, none⟩))) most M v (turn + 1) hits (misses + 1)) := rd0
        clear rd0
        have od := ownsMap_kp HO6.out kd (fun h => h)
        have dd := HD6.out.keep kd (fun _ _ h => h)
        have u5 : Wd.cell? ⟨c, 5, none⟩ = some (.map (some M)) := rd.cell 5
        have ld := rd.lt
        have HRD := Lib.hid rd
        have HOD := Lib.hid od
        have HDD := Lib.hid dd
        have HKD := Lib.hid kd
        have HSD := Lib.hid sd
        clear kd rd od dd sd
        go_upto_if 123 with (fail)
        go_cut [113, 123] from 124 to 131 (fun _ _ wx => AfterDel Wd wx F c M (if most ≤ (L0.length : Int) then L0.tail else L0))
        case first =>
          by_cases hfull : most ≤ (L0.length : Int)
          · obtain ⟨e0, L', hL'⟩ : ∃ e0 L', L0 = e0 :: L' := by
              cases L0 with
              | nil => simp at hfull; omega
              | cons e0 L' => exact ⟨e0, L', rfl⟩
            have hdd := HDD.out
            rw [hL'] at hdd
            have hlm : (e0 :: L').length ≤ 1000000 := by rw [← hL']; omega
            have hpos : (0 : Int) < ((L'.length + 1 : Nat) : Int) := by omega
            have hpos2 : (0 : Int) < (L'.length : Int) + 1 := by omega
            have hord := order_head (w := Wd.drew) u5 (show Wd.drew.ownsMap Try.prog 9 RV M _ D0 from HOD.out) hdd hlm
            have ht0 : e0.tok.size ≤ maxLen := by
              have h1 := (hdd.has e0.tok.data.toList).2 ⟨e0, by simp, rfl⟩
              have h2 := strKeys_le HOD.out Try.underlying9 e0.tok.data.toList ((hdd.perm HOD.out).mem_iff.1 (List.mem_map.2 ⟨e0, List.mem_cons_self, rfl⟩))
              exact h2
            have HORD := Lib.hid hord
            have HE := Lib.hid hL'
            have HHDD := Lib.hid hdd
            clear hord hL' hdd hlm
            go_wp2
            refine wp_region_noPanic ?_
            go_region_law (first
                | (go_simp; go_at_call 25; refine HORD.out.mono ?_; rintro r w7 ⟨bq, oq, capq, rfl, hq, hb7⟩; have v7 : w7.cell? ⟨c, 5, none⟩ = some (.map (some M)) := (HRD.out.below hb7 ld).cell 5)
                | (refine step_delete rfl _ _ rfl rfl rfl (ownsMap_same (w := Wd) HOD.out (hb7.block M HOD.out.lt)) ht0 ?_; intro w8 o8 g8))
            all_goals
              refine NoPanic.normal ?_
              go_wp2
              go_meet
              refine ⟨(Kp.of_below (w := Wd) (F := fun b => b = M) (below_undrew hb7)).grown g8 (fun b hb => by cases hb; exact .inl rfl), _, o8, ?_⟩
              have e : (if most ≤ (L0.length : Int) then L0.tail else L0) = L' := by rw [if_pos hfull, HE.out]; rfl
              rw [e]
              exact (HHDD.out.tail.keep (Kp.of_below (w := Wd) (F := fun _ => False) (below_undrew hb7)) (fun _ _ h => h)).keep ((Kp.refl (fun b => b = M) w7).grown g8 (fun b hb => by cases hb; exact .inl rfl)) (fun b hb e => hb.2.2 e)
          · go_wp2
            go_meet
            refine ⟨Kp.refl _ _, D0, HOD.out, ?_⟩
            rw [if_neg (by omega)]; exact HDD.out
        case rest =>
          obtain ⟨kx, D1, ox, dx⟩ := hcut
          have hMlt := HLT.out M hFM
          have hw65 : w5.heap.size < W6.heap.size := HB6.out.lt
          have hwd : w.heap.size ≤ w5.heap.size := by omega
          have rx0 := HRD.out
          have rx : hasRow wc c (crow 1 (.iface t (.pointer (some ⟨S, 0, none⟩))) most M v (turn + 1) hits (misses + 1)) := (show hasRow Wd c _ from rx0).kp kx (fun e => HMC.out e.symm)
          have bx : hasRow wc w5.heap.size #[.string te.iss, .string te.sub, .string ⟨#[]⟩, .string ⟨#[]⟩, .slice p5 te.scopes.length n5, .int .u64 te.grant, .int .i64 0, .int .i64 te.exp, .int .u8 0, .int .u8 0, .int .u8 0, .int .u8 0, .int .u8 0, .int .u8 0, .int .u8 0, .int .u8 0, .int .u8 0, .int .u8 0, .int .u8 0, .int .u8 0, .int .u8 0, .int .u8 0, .int .u8 0, .int .u8 0] := (HB6.out.kp HKD.out (fun h => h)).kp kx (fun e => by omega)
          have sx : Strs wc (fun b => W.heap.size ≤ b ∧ ¬ G2 b) (.slice p5 te.scopes.length n5) te.scopes := (HST6.out.keep HKD.out (fun _ _ h => h)).keep kx (fun b hb e => by subst e; have := hb.1; have := HSW.out; have := HS1.out; have := HKC.out.size; omega)
          have hDs1 : Maps.size D1 ≤ 1000000 := by
            rw [dx.size ox]; split
            · rw [List.length_tail]; omega
            · omega
          have rxd : hasRow wc.drew c _ := rx
          have bxd : hasRow wc.drew w5.heap.size _ := bx
          have lx := rx.lt
          have lb := bx.lt
          have HRX := Lib.hid rxd
          have HBX := Lib.hid bxd
          have HOX := Lib.hid ox
          have HDX := Lib.hid dx
          have HKX := Lib.hid kx
          have HSX := Lib.hid sx
          have HDS1 := Lib.hid hDs1
          have hne : w5.heap.size ≠ M := by omega
          clear rx0 rx bx rxd bxd ox dx kx sx hDs1
          go_wp2
          go_region_held3 (fun w' => w'.cell? ⟨c, 5, none⟩ = some (.map (some M)) ∧ w'.cell? ⟨c, 6, none⟩ = some (.int .u64 (turn + 1)) ∧ isRow w' w5.heap.size 24 ∧ rowAt w' w5.heap.size = #[.string te.iss, .string te.sub, .string ⟨#[]⟩, .string ⟨#[]⟩, .slice p5 te.scopes.length n5, .int .u64 te.grant, .int .i64 0, .int .i64 te.exp, .int .u8 0, .int .u8 0, .int .u8 0, .int .u8 0, .int .u8 0, .int .u8 0, .int .u8 0, .int .u8 0, .int .u8 0, .int .u8 0, .int .u8 0, .int .u8 0, .int .u8 0, .int .u8 0, .int .u8 0, .int .u8 0])
            (first
              | (exact s24 ((HBX.out.below hb8 lb).of_same (g9.block _ (Nat.lt_of_lt_of_le lb hb8.size) (fun e => hne (Option.some.inj e)))) rfl ((HRX.out.below hb8 lx).of_same (g9.block _ (Nat.lt_of_lt_of_le lx hb8.size) (fun e => HMC.out (Option.some.inj e).symm))) rfl rfl)
              | (exact s24 (HBX.out.below hb8 lb) rfl (HRX.out.below hb8 lx) rfl rfl)
              | (exact s24 HBX.out rfl HRX.out rfl rfl))
            (first
              | (go_at_call 28; refine (copied_any (w := wc.drew) te.iss te.sub te.grant te.exp (show Strs wc.drew _ _ _ from HSX.out) hsl).mono ?_; rintro r w8 ⟨p8, n8, rfl, hs8, hb8⟩; obtain ⟨w9, hu, o9, g9⟩ := upd_run (ownsMap_same (w := wc) HOX.out (hb8.block M HOX.out.lt)) tok (eans ⟨tok, turn + 1, te⟩ p8 n8) hsz HDS1.out; dsimp only [eans, ansv] at hu))
          go_wp2
          go_meet
          have hb8' := below_undrew hb8
          have hg9 := g9.size
          have hz8 : wc.heap.size ≤ w8.heap.size := hb8'.size
          have hzx : W6.heap.size ≤ wc.heap.size := by have := HKX.out.size; have := HSD.out; omega
          have hLx : ∀ a ∈ (if most ≤ (L0.length : Int) then L0.tail else L0), a ∈ L0 := by
            intro a ha
            split at ha
            · exact List.mem_of_mem_tail ha
            · exact ha
          have hL0L : ∀ a ∈ L0, a ∈ L := by
            intro a ha
            have h1 := HL0.out
            unfold known at h1
            split at h1
            · rw [← h1] at ha; exact ha
            · rw [← h1] at ha; cases ha
          have hclt : c < wc.heap.size := lx
          have hMwc : M < wc.heap.size := by omega
          have d8 := (HDX.out.keep (Kp.of_below (w := wc) (F := fun _ => False) hb8') (fun _ _ h => h)).mono (K' := fun b => (F b ∨ (W6.heap.size ≤ b ∧ b < w9.heap.size)) ∧ b ≠ c ∧ b ≠ M) (fun b hb => ⟨.inl hb.1, hb.2⟩)
          have s8 : Strs w8 (fun b => (F b ∨ (W6.heap.size ≤ b ∧ b < w9.heap.size)) ∧ b ≠ c ∧ b ≠ M) (.slice p8 te.scopes.length n8) te.scopes := hs8.bound.mono (fun b hb => by have h1 : wc.heap.size ≤ b := hb.1; have h2 := hb.2; exact ⟨.inr ⟨by omega, by omega⟩, by omega, by omega⟩)
          have dp := d8.put (World.ownsMap.isMap HOX.out) ⟨tok, turn + 1, te⟩ p8 n8 s8 (fun a ha => by have := HTOP.out a (hL0L a (hLx a ha)); simp only; omega) (by simp only; omega)
          have hfil : (if most ≤ (L0.length : Int) then L0.tail else L0).filter (fun a => !decide (a.tok = tok)) = (if most ≤ (L0.length : Int) then L0.tail else L0) := by
            rw [List.filter_eq_self]
            intro a ha
            have h1 := HL0.out
            have := HNO.out a (by rw [h1]; exact hLx a ha)
            simpa using this
          have e : laid most L0 ⟨tok, turn + 1, te⟩ = (if most ≤ (L0.length : Int) then L0.tail else L0) ++ [⟨tok, turn + 1, te⟩] := by unfold laid; rw [if_pos (by simp only; omega)]
          refine ⟨?_, _, o9, ?_⟩
          · exact (((HKD.out.mono (G := fun b => b = M) (fun b _ h => absurd h id)).trans HKX.out (fun _ _ h => h)).trans (Kp.of_below (w := wc) (F := fun b => b = M) hb8') (fun _ _ h => h)).grown g9 (fun b hb => by cases hb; exact .inl rfl)
          · rw [e]
            have dq := dp.keep ((Kp.refl (fun b => b = M) w8).grown g9 (fun b hb => by cases hb; exact .inl rfl)) (fun b hb h => hb.2.2 h)
            simp only at dq hfil
            rw [hfil] at dq
            exact dq
      · go_wp2
        go_meet
        refine ⟨Kp.refl _ _, D0, HO6.out, ?_⟩
        have e : laid most L0 ⟨tok, turn + 1, te⟩ = L0 := by unfold laid; rw [if_neg (by simp only; omega)]
        rw [e]
        exact HD6.out.mono (fun b hb => ⟨.inl hb.1, hb.2⟩)
    case rest =>
      obtain ⟨ky, D2, oy, dy⟩ := hcut
      have hMlt := HLT.out M hFM
      have hw65 : w5.heap.size < W6.heap.size := HB6.out.lt
      have by5 : hasRow wc w5.heap.size #[.string te.iss, .string te.sub, .string ⟨#[]⟩, .string ⟨#[]⟩, .slice p5 te.scopes.length n5, .int .u64 te.grant, .int .i64 0, .int .i64 te.exp, .int .u8 0, .int .u8 0, .int .u8 0, .int .u8 0, .int .u8 0, .int .u8 0, .int .u8 0, .int .u8 0, .int .u8 0, .int .u8 0, .int .u8 0, .int .u8 0, .int .u8 0, .int .u8 0, .int .u8 0, .int .u8 0] := HB6.out.kp ky (fun e => by omega)
      have ry : hasRow wc c (crow 1 (.iface t (.pointer (some ⟨S, 0, none⟩))) most M v (turn + 1) hits (misses + 1)) := HR6.out.kp ky (fun e => HMC.out e.symm)
      have zy : isRow wc w.heap.size 24 := z6.kp ky (fun e => by omega)
      have sy : Strs wc (fun b => W.heap.size ≤ b ∧ ¬ G2 b) (.slice p5 te.scopes.length n5) te.scopes := HST6.out.keep ky (fun b hb e => by subst e; have := hb.1; have := HSW.out; have := HS1.out; have := HKC.out.size; omega)
      have iy : isRow wc w5.heap.size 24 := by5.is
      have ey := by5.rowAt
      have HBY := Lib.hid by5
      have HRY := Lib.hid ry
      have HOY := Lib.hid oy
      have HDY := Lib.hid dy
      have HKY := Lib.hid ky
      have HSY := Lib.hid sy
      clear by5 ry oy dy ky sy u3 u5 u6 y6 i6 e6 hlen6
      go_wp2_with (go_at_call 28; refine (copied_any (w := wc) te.iss te.sub te.grant te.exp HSY.out hsl).mono ?_; rintro r w8 ⟨p8, n8, rfl, hs8, hb8⟩; have hi8 := zy.below hb8 zy.lt)
      have hz8 : wc.heap.size ≤ w8.heap.size := hb8.size
      have r8 : hasRow w8 c _ := HRY.out.below hb8 HRY.out.lt
      have hlt := HLT.out
      have hcl' : c < w.heap.size := hlt c hFc
      have hMl : M < w.heap.size := hMlt
      have hcg : c ≠ w.heap.size := by omega
      have HR8 := Lib.hid r8
      have HB8 := Lib.hid hb8
      have HS8 := Lib.hid hs8
      clear r8 hb8 hs8
      go_wp2
      refine leaves_cons (f := 24) (args := #[.pointer (some ⟨c, 0, none⟩)]) (by simp) (by simp [go_sem]) ?_
      refine (unlock_deferred Try.muLib ⟨c, 0, none⟩ .returning _ ((HR8.out.setRow_other hcg _).cell 0) ((HR8.out.setRow_other hcg _).frozen 0)).mono ?_
      rintro e u' w9 ⟨rfl, rfl, rfl⟩
      have kf : ∀ cs : Array Value, Kp (fun b => b = c ∨ b = w.heap.size) wc ((w8.setRow w.heap.size cs).setCell ⟨c, 0, none⟩ (.int .i32 0)) := fun cs => (((Kp.refl (fun b => b = c ∨ b = w.heap.size) wc).then_below HB8.out (Nat.le_refl _)).setRow (.inl (.inr rfl)) _).setCell (a := ⟨c, 0, none⟩) (.inl (.inl rfl)) _
      have sA := HSA.out
      have hs1 := HS1.out
      have hsW := HSW.out
      have hs6 := HS6.out
      have hkc := HKC.out.size
      have hk5 := HK5.out.size
      have hky := HKY.out.size
      have hzW : w.heap.size + 1 < W.heap.size := by omega
      have hG1 := HG1.out
      have hG1C := HG1C.out
      have hFG2 : ∀ b, F b → ¬ G2 b := by
        intro b hb hg
        rcases HG2.out b hg with h | h
        · rcases hG1 b h with h | h
          · exact HFG.out b hb h
          · have := hlt b hb; omega
        · have := hlt b hb; omega
      have hl2 := HSRC.out.lI2 _ _ HI2.out
      have hG2n : ∀ b, G2 b → b ≠ c ∧ b ≠ M ∧ b ≠ w.heap.size := by
        intro b hb
        rcases HG2.out b hb with h | h
        · exact hG1C b h
        · omega
      refine ⟨_, results_row_slots (p := 4) (q := 5) (r := 6) (ty := 48) rfl _ rfl ((hi8.setRow _).setCell_other (Ne.symm hcg) _) Try.underlying48 rfl (by kernel_rfl), p8, n8, rfl, ?_, fun b => F b ∨ (W6.heap.size ≤ b ∧ b < wc.heap.size), G2, ?_, ?_, ?_, ?_, ?_, ?_⟩
      · refine (HS8.out.keep (((Kp.refl (fun b => b = c ∨ b = w.heap.size) w8).setRow (.inl (.inr rfl)) _).setCell (a := ⟨c, 0, none⟩) (.inl (.inl rfl)) _) ?_).mono ?_
        · intro b hb e; have : wc.heap.size ≤ b := hb; omega
        · intro b hb; have : wc.heap.size ≤ b := hb; omega
      · refine ⟨⟨M, D2, (HR8.out.setRow_other hcg _).setCell _, ownsMap_kp HOY.out (kf _) (by omega), HMC.out, .inl hFM, ?_⟩, .inl hFc, ?_, ?_, ?_, ?_, hm1, hm2⟩
        · simp only
          rw [HL0.out]
          refine HDY.out.keep (kf _) ?_
          intro b hb e
          rcases e with e | e
          · exact hb.2.1 e
          · rcases hb.1 with h | h
            · have := hlt b h; omega
            · omega
        · intro b hb
          simp only [World.setCell, Array.size_modify, setRow_size]
          rcases hb with h | h
          · have := hlt b h; omega
          · omega
        · simp only
          rw [HL0.out]
          intro a ha
          have hL0L : ∀ a ∈ L0, a ∈ L := by
            intro a ha
            have h1 := HL0.out
            unfold known at h1
            split at h1
            · rw [← h1] at ha; exact ha
            · rw [← h1] at ha; cases ha
          unfold laid at ha
          split at ha
          · rcases List.mem_append.1 ha with ha | ha
            · have : a ∈ L0 := by
                split at ha
                · exact List.mem_of_mem_tail ha
                · exact ha
              have := HTOP.out a (hL0L a this); omega
            · obtain rfl : a = _ := by simpa using ha
              simp
          · have := HTOP.out a (hL0L a ha); omega
        · simp only; omega
        · simp only
          rw [HL0.out]
          unfold laid
          split
          · rw [List.length_append]
            split
            · rw [List.length_tail, List.length_singleton]; omega
            · rw [List.length_singleton]; omega
          · omega
      · have i5 := HSRC.out.kI2 _ _ _ _ (HSRC.out.kI2 _ _ _ _ HI2.out HK6.out (fun _ _ h => h)) HKY.out (fun b hb => (hG2n b hb).2.1)
        exact HSRC.out.kI2 _ _ _ _ i5 (kf _) (fun b hb e => by rcases e with e | e; exact (hG2n b hb).1 e; exact (hG2n b hb).2.2 e)
      · intro b hb hg
        rcases hb with h | h
        · exact hFG2 b h hg
        · have := hl2 b hg; omega
      · intro b hb
        rcases hb with h | h
        · exact .inl h
        · exact .inr (by omega)
      · intro b hb
        rcases HG2.out b hb with h | h
        · rcases hG1 b h with h | h
          · exact .inl h
          · exact .inr (by omega)
        · exact .inr (by omega)
      · have kk : Kp (fun b => F b ∨ G b) w w1 := (HK.out.mono (G := fun b => F b ∨ G b) (fun b _ e => .inl (e ▸ hFc))).trans HK1.out (fun b _ h => .inr h)
        have k1 := kk.trans HKC.out (fun b _ e => by rcases e with e | e; exact .inl (e ▸ hFc); exact .inl (e ▸ hFM))
        have k2 := k1.trans HKW.out (fun b _ e => .inl (e ▸ hFc))
        have k3 := k2.trans HK5.out (fun b hb h => by rcases hG1 b h with h | h; exact .inr h; omega)
        have k4 := k3.trans HK6.out (fun b _ h => absurd h id)
        have k5 := k4.trans HKY.out (fun b _ e => .inl (e ▸ hFM))
        exact k5.trans (kf _) (fun b hb e => by rcases e with e | e; exact .inl (e ▸ hFc); omega)
end Go.Proofs.Ytkbbaokllgmhiaa
