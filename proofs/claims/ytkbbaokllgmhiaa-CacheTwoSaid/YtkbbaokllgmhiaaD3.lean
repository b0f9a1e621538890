/- (*Cache).Find of a token that is remembered at the version that the source has. -/
import Derived.Test.YtkbbaokllgmhiaaD2
namespace Go.Proofs.Ytkbbaokllgmhiaa
open Go.RowKit Go.Maps Go.MuLone Go.Sort Go.Shelf

set_option maxRecDepth 100000 in
set_option maxHeartbeats 4000000 in
theorem find_hit {t fV fF S : Nat} {v : Int} {tok : ByteArray} {te : Tell} {I I1 I2 : World → (Nat → Prop) → Prop} (hS : Src t fV fF S v tok te I I1 I2) {w : World} {F G : Nat → Prop} {c : Nat} {most : Int} {st : CSt}
    (hC : CacheI w F c (.iface t (.pointer (some ⟨S, 0, none⟩))) most st) (hI : I w G) (hFG : ∀ b, F b → ¬ G b) (hv : st.ver = v) (e : Ent) (he : e ∈ st.L) (het : e.tok = tok) (hsz : tok.size ≤ maxLen) (hsl : e.te.scopes.length ≤ 1000000) (hb1 : st.turn ≤ 1000000000) (hb2 : 0 ≤ st.hits) (hb3 : st.hits ≤ 1000000000) :
    Calls Try.prog 22 #[.pointer (some ⟨c, 0, none⟩), .string tok] w (FindPost w F G c (.iface t (.pointer (some ⟨S, 0, none⟩))) most ⟨v, st.turn + 1, st.hits + 1, st.misses, st.L.filter (fun a => !decide (a.tok = tok)) ++ [⟨tok, st.turn + 1, e.te⟩]⟩ I1 e.te) := by
  obtain ⟨⟨M, D, hr, hown, hMc, hFM, hD⟩, hFc, hlt, htop, ht0, hlen, hm1, hm2⟩ := hC
  obtain ⟨ver, turn, hits, misses, L⟩ := st
  simp only at hv hr hD he htop ht0 hlen hb1 hb2 hb3
  subst hv
  have hcl := hr.lt
  have c0 : w.cell? ⟨c, 0, none⟩ = some (.int .i32 0) := hr.cell 0
  have f0 := hr.frozen 0
  have mV := hS.mV
  have cV := hS.cV
  -- the world in which the source is asked for its version
  have kA : Kp (fun b => b = c) w ((w.setCell ⟨c, 0, none⟩ (.int .i32 1)).alloc z48) := ((Kp.refl (fun b => b = c) w).setCell (a := ⟨c, 0, none⟩) (.inl rfl) _).alloc _
  have rA : hasRow ((w.setCell ⟨c, 0, none⟩ (.int .i32 1)).alloc z48) c (crow 1 (.iface t (.pointer (some ⟨S, 0, none⟩))) most M ver turn hits misses) := (hr.setCell (i := 0) (.int .i32 1)).alloc _
  have zA : isRow ((w.setCell ⟨c, 0, none⟩ (.int .i32 1)).alloc z48) w.heap.size 24 := by
    have := (hasRow_new (w.setCell ⟨c, 0, none⟩ (.int .i32 1)) (#[.string ⟨#[]⟩, .string ⟨#[]⟩, .string ⟨#[]⟩, .string ⟨#[]⟩, .slice none 0 0, .int .u64 0, .int .i64 0, .int .i64 0, .int .u8 0, .int .u8 0, .int .u8 0, .int .u8 0, .int .u8 0, .int .u8 0, .int .u8 0, .int .u8 0, .int .u8 0, .int .u8 0, .int .u8 0, .int .u8 0, .int .u8 0, .int .u8 0, .int .u8 0, .int .u8 0]) 48).is
    have e : (w.setCell ⟨c, 0, none⟩ (.int .i32 1)).heap.size = w.heap.size := by simp [World.setCell]
    rw [e] at this; exact this
  have sA : ((w.setCell ⟨c, 0, none⟩ (.int .i32 1)).alloc z48).heap.size = w.heap.size + 1 := by simp [World.setCell]
  have iA : I ((w.setCell ⟨c, 0, none⟩ (.int .i32 1)).alloc z48) G := hS.kI _ _ _ _ hI kA (fun b hb e => hFG b (e ▸ hFc) hb)
  have cA2 : ((w.setCell ⟨c, 0, none⟩ (.int .i32 1)).alloc z48).cell? ⟨c, 2, none⟩ = _ := rA.cell 2
  have hRunV := hS.runV _ _ iA
  have HRV := Lib.hid hRunV
  have HR := Lib.hid hr
  have HA := Lib.hid rA
  have HK := Lib.hid kA
  have HZ := Lib.hid zA
  have HSA := Lib.hid sA
  clear rA hRunV kA zA sA iA hr
  simp at cA2
  go_enter_defers Try.func22, Try.ntmps22
  go_wp2_with (go_at_call 23; refine (lock_free Try.muLib ⟨c, 0, none⟩ _ (cell_old c0) (frozen_old hcl f0)).mono ?_; rintro e w' ⟨rfl, rfl⟩)
  refine HRV.out.mono ?_
  rintro r w1 ⟨rfl, G1, hI1, hk1, hG1⟩
  have hG0 := hS.lI _ _ hI
  have r1 : hasRow w1 c (crow 1 (.iface t (.pointer (some ⟨S, 0, none⟩))) most M ver turn hits misses) := HA.out.kp hk1 (hFG c hFc)
  have z1 : isRow w1 w.heap.size 24 := by
    obtain ⟨cs, t, h, hc⟩ := HZ.out
    exact ⟨cs, t, (hk1.block _ (Array.getElem?_eq_some_iff.1 h).1 (fun hg => Nat.lt_irrefl _ (hG0 _ hg))).trans h, hc⟩
  have o1 : w1.ownsMap Try.prog 9 RV M (Maps.size D) D := ownsMap_kp (ownsMap_kp hown HK.out hMc) hk1 (hFG M hFM)
  have d1 : DOK w1 (fun b => F b ∧ b ≠ c ∧ b ≠ M) D L := (hD.keep HK.out (fun b hb e => hb.2.1 e)).keep hk1 (fun b hb => hFG b hb.1)
  obtain ⟨p, n, hat, hst⟩ := d1.mem e he
  have hhas : Maps.has D (key tok) = true := (d1.has _).2 ⟨e, he, by rw [het]⟩
  rw [het] at hat
  have hL : ∀ W : World, W.heap[M]? = w1.heap[M]? → (Instr.lookup 69 (.map (some M)) (.string tok) true).run Try.prog W = .ok (.tuple #[eans e p n, .bool true]) W := fun W hW => look_ok (ownsMap_same o1 hW) tok hsz hat hhas
  have hc1 := r1.lt
  have x3 := r1.cell 3
  have x4 := r1.cell 4
  have x5 := r1.cell 5
  have x6 := r1.cell 6
  have x7 := r1.cell 7
  have y1 := r1.frozen
  have lz := z1.lt
  obtain ⟨tok', turn', te'⟩ := e
  simp only at het hsl
  subst het
  simp only [eans] at hL
  have HHL := Lib.hid hL
  have HR1 := Lib.hid r1
  have HO1 := Lib.hid o1
  have HD1 := Lib.hid d1
  have HK1 := Lib.hid hk1
  have HST := Lib.hid hst
  have HHD := Lib.hid hD
  have HOW := Lib.hid hown
  have HTOP := Lib.hid htop
  have HFG := Lib.hid hFG
  have HLT := Lib.hid hlt
  have HG1 := Lib.hid hG1
  have HSRC := Lib.hid hS
  have HMC := Lib.hid hMc
  have HHE := Lib.hid he
  have HAT := Lib.hid hat
  have HHH := Lib.hid hhas
  have HG0 := Lib.hid hG0
  clear hL r1 o1 d1 hk1 hst hD hown htop hFG hlt hG1 hS he hat hhas hG0
  simp at x3 x4 x5 x6 x7
  go_wp2_with (at_lookup; refine wpList_look rfl _ _ rfl rfl rfl (HHL.out _ (Below.heap_setCell _ ⟨c, 6, none⟩ _ M HMC.out)) ?_)
  obtain ⟨W, hW⟩ : ∃ W, W = ((w1.setCell ⟨c, 6, none⟩ (.int .u64 (turn + 1))).setCell ⟨c, 7, none⟩ (.int .i64 (hits + 1))).alloc (.cells #[.string te'.iss, .string te'.sub, .string ⟨#[]⟩, .string ⟨#[]⟩, .slice p te'.scopes.length n, .int .u64 te'.grant, .int .i64 0, .int .i64 te'.exp, .int .u8 0, .int .u8 0, .int .u8 0, .int .u8 0, .int .u8 0, .int .u8 0, .int .u8 0, .int .u8 0, .int .u8 0, .int .u8 0, .int .u8 0, .int .u8 0, .int .u8 0, .int .u8 0, .int .u8 0, .int .u8 0, .bool te'.ok, .int .u64 (turn + 1)] 85) := ⟨_, rfl⟩
  have kW : Kp (fun b => b = c) w1 W := by rw [hW]; exact (((Kp.refl (fun b => b = c) w1).setCell (a := ⟨c, 6, none⟩) (.inl rfl) _).setCell (a := ⟨c, 7, none⟩) (.inl rfl) _).alloc _
  have rW : hasRow W c (crow 1 (.iface t (.pointer (some ⟨S, 0, none⟩))) most M ver (turn + 1) (hits + 1) misses) := by rw [hW]; exact ((HR1.out.setCell _).setCell _).alloc _
  have bW : hasRow W w1.heap.size #[.string te'.iss, .string te'.sub, .string ⟨#[]⟩, .string ⟨#[]⟩, .slice p te'.scopes.length n, .int .u64 te'.grant, .int .i64 0, .int .i64 te'.exp, .int .u8 0, .int .u8 0, .int .u8 0, .int .u8 0, .int .u8 0, .int .u8 0, .int .u8 0, .int .u8 0, .int .u8 0, .int .u8 0, .int .u8 0, .int .u8 0, .int .u8 0, .int .u8 0, .int .u8 0, .int .u8 0, .bool te'.ok, .int .u64 (turn + 1)] := by
    have e : ((w1.setCell ⟨c, 6, none⟩ (.int .u64 (turn + 1))).setCell ⟨c, 7, none⟩ (.int .i64 (hits + 1))).heap.size = w1.heap.size := by simp [World.setCell]
    rw [hW, ← e]; exact hasRow_new _ _ _
  have sW : W.heap.size = w1.heap.size + 1 := by rw [hW]; simp [World.setCell]
  rw [← hW]
  clear hW
  have oW := ownsMap_kp HO1.out kW HMC.out
  have dW := HD1.out.keep kW (fun b hb e => hb.2.1 e)
  have zW : isRow W w.heap.size 24 := by
    obtain ⟨cs, t, h, hc⟩ := z1
    exact ⟨cs, t, (kW.block _ (Array.getElem?_eq_some_iff.1 h).1 (fun e => by omega)).trans h, hc⟩
  have u5 := rW.cell 5
  simp at u5
  have cW := rW.lt
  have biW : isRow W w1.heap.size 26 := bW.is
  have brW := bW.rowAt
  have HKW := Lib.hid kW
  have HRW := Lib.hid rW
  have HBW := Lib.hid bW
  have HSW := Lib.hid sW
  have HOWW := Lib.hid oW
  have HDW := Lib.hid dW
  clear kW rW bW sW oW dW
  have hDs : Maps.size D ≤ 1000000 := by rw [HHD.out.size HOW.out]; omega
  go_still_tail 6, (by kernel_rfl)
  change wpList _ _ _ _ _ W.drew
  refine wpList_upd (val := eans ⟨tok', turn + 1, te'⟩ p n) rfl _ _ _ rfl rfl rfl rfl (show W.drew.ownsMap Try.prog 9 RV M (Maps.size D) D from HOWW.out) hDs hsz ?_
  intro w3 o3 g3
  have k3 : Kp (fun b => b = M) W w3 := (Kp.refl (fun b => b = M) W).drew.grown g3 (fun b hb => by cases hb; exact .inl rfl)
  have r3 := HRW.out.kp k3 (fun e => HMC.out e.symm)
  have hM1 : M < w1.heap.size := HO1.out.lt
  have b3 := HBW.out.kp k3 (fun e => by omega)
  have hgM : w.heap.size ≠ M := by have := HOW.out.lt; omega
  have z3 := zW.kp k3 hgM
  have d3 := (HDW.out.put (World.ownsMap.isMap HOWW.out) ⟨tok', turn + 1, te'⟩ p n (HST.out.keep HKW.out (fun b hb e => hb.2.1 e)) (fun a ha => by have := HTOP.out a ha; simp only; omega) (by simp only; omega)).keep k3 (fun b hb e => hb.2.2 e)
  have hst3 := (HST.out.keep HKW.out (fun b hb e => hb.2.1 e)).keep k3 (fun b hb e => hb.2.2 e)
  have l9 := b3.lt
  have lg := z3.lt
  have hne9 : w.heap.size ≠ w1.heap.size := by omega
  have b3d : hasRow w3.drew w1.heap.size _ := b3
  have z3d : isRow w3.drew w.heap.size 24 := z3
  have HBD := Lib.hid b3d
  clear b3d
  have HR3 := Lib.hid r3
  have HB3 := Lib.hid b3
  have HD3 := Lib.hid d3
  have HK3 := Lib.hid k3
  have HO3 := Lib.hid o3
  have HST3 := Lib.hid hst3
  clear r3 b3 d3 k3 o3 g3 hst3
  have HDS := Lib.hid hDs
  clear hDs biW brW u5
  go_wp2
  go_region_held3 (fun w' => w'.cell? ⟨w1.heap.size, 24, none⟩ = some (.bool te'.ok) ∧ isRow w' w1.heap.size 26 ∧ rowAt w' w1.heap.size = #[.string te'.iss, .string te'.sub, .string ⟨#[]⟩, .string ⟨#[]⟩, .slice p te'.scopes.length n, .int .u64 te'.grant, .int .i64 0, .int .i64 te'.exp, .int .u8 0, .int .u8 0, .int .u8 0, .int .u8 0, .int .u8 0, .int .u8 0, .int .u8 0, .int .u8 0, .int .u8 0, .int .u8 0, .int .u8 0, .int .u8 0, .int .u8 0, .int .u8 0, .int .u8 0, .int .u8 0, .bool te'.ok, .int .u64 (turn + 1)] ∧ isRow w' w.heap.size 24)
    (first
      | (exact s16 (HBD.out.below hb4 l9) rfl rfl (z3d.below hb4 lg))
      | (exact s16 ((HBD.out.below hb4 l9).setRow_other (Ne.symm hne9) _) rfl rfl (isRow_setRow _ _ _ _ _ (z3d.below hb4 lg) (fun _ => rfl)))
      | (exact s16 HBD.out rfl rfl z3d))
    (first | (go_at_call 28; refine (copied_any (w := w3.drew) te'.iss te'.sub te'.grant te'.exp (show Strs w3.drew _ _ _ from HST3.out) hsl).mono ?_; rintro r w4 ⟨p4, c4, rfl, hs4, hb4⟩))
  have hz4 := hb4.size
  have r4 : hasRow w4 c (crow 1 (.iface t (.pointer (some ⟨S, 0, none⟩))) most M ver (turn + 1) (hits + 1) misses) := (show hasRow w3.drew _ _ from HR3.out).below hb4 HR3.out.lt
  have hcg : c ≠ w.heap.size := by omega
  have HR4 := Lib.hid r4
  have HB4 := Lib.hid hb4
  have HS4 := Lib.hid hs4
  clear r4 hb4 hs4
  go_wp2
  refine leaves_cons (f := 24) (args := #[.pointer (some ⟨c, 0, none⟩)]) (by simp) (by simp [go_sem]) ?_
  refine (unlock_deferred Try.muLib ⟨c, 0, none⟩ .returning _ ((HR4.out.setRow_other hcg _).cell 0) ((HR4.out.setRow_other hcg _).frozen 0)).mono ?_
  rintro e u' w5 ⟨rfl, rfl, rfl⟩
  have kf : ∀ cs : Array Value, Kp (fun b => b = c ∨ b = w.heap.size) w3 ((w4.setRow w.heap.size cs).setCell ⟨c, 0, none⟩ (.int .i32 0)) := fun cs => (((Kp.refl (fun b => b = c ∨ b = w.heap.size) w3).drew.then_below HB4.out (Nat.le_refl _)).setRow (.inl (.inr rfl)) _).setCell (a := ⟨c, 0, none⟩) (.inl (.inl rfl)) _
  have hlt := HLT.out
  have hG0 := HG0.out
  have sA := HSA.out
  have hcl' : c < w.heap.size := hlt c hFc
  have hMl : M < w.heap.size := hlt M hFM
  have hs1 : w.heap.size + 1 ≤ w1.heap.size := by have := HK1.out.size; omega
  have hG1c : ∀ b, G1 b → b ≠ c ∧ b ≠ M ∧ b ≠ w.heap.size := by
    intro b hb
    rcases HG1.out b hb with h | h
    · refine ⟨?_, ?_, ?_⟩
      · intro e; exact HFG.out c hFc (e ▸ h)
      · intro e; exact HFG.out M hFM (e ▸ h)
      · intro e; have := hG0 b h; omega
    · omega
  refine ⟨_, results_row_slots (p := 4) (q := 5) (r := 6) (ty := 48) rfl _ rfl (((isRow.setRow (HB4.out |> fun h => z3d.below h lg) _)).setCell_other (Ne.symm hcg) _) Try.underlying48 rfl (by kernel_rfl), p4, c4, rfl, ?_, F, G1, ?_, ?_, ?_, fun b hb => .inl hb, ?_, ?_⟩
  · refine (HS4.out.keep (((Kp.refl (fun b => b = c ∨ b = w.heap.size) w4).setRow (.inl (.inr rfl)) _).setCell (a := ⟨c, 0, none⟩) (.inl (.inl rfl)) _) ?_).mono ?_
    · intro b hb e; have : w3.heap.size ≤ b := hb; omega
    · intro b hb; have : w3.heap.size ≤ b := hb; omega
  · refine ⟨⟨M, _, (HR4.out.setRow_other hcg _).setCell _, ownsMap_kp HO3.out (kf _) (by omega), HMC.out, hFM, HD3.out.keep (kf _) ?_⟩, hFc, ?_, ?_, ?_, ?_, hm1, hm2⟩
    · intro b hb e
      rcases e with e | e
      · exact hb.2.1 e
      · have := hlt b hb.1; omega
    · intro b hb; have := hlt b hb; have h3 : w3.heap.size ≤ w4.heap.size := hz4; simp [World.setCell]; omega
    · intro a ha
      rcases List.mem_append.1 ha with ha | ha
      · have := HTOP.out a (List.mem_filter.1 ha).1; simp only; omega
      · obtain rfl : a = _ := by simpa using ha
        simp
    · simp only; omega
    · simp only
      have h1 : (L.filter (fun a => !decide (a.tok = tok'))).length < L.length := List.length_filter_lt_length_iff_exists.2 ⟨_, HHE.out, by simp⟩
      simp only [List.length_append, List.length_cons, List.length_nil]
      omega
  · exact HSRC.out.kI1 _ _ _ _ (HSRC.out.kI1 _ _ _ _ (HSRC.out.kI1 _ _ _ _ hI1 HKW.out (fun b hb => (hG1c b hb).1)) HK3.out (fun b hb => (hG1c b hb).2.1)) (kf _) (fun b hb e => by rcases e with e | e; exact (hG1c b hb).1 e; exact (hG1c b hb).2.2 e)
  · intro b hb hg
    rcases HG1.out b hg with h | h
    · exact HFG.out b hb h
    · have := hlt b hb; omega
  · intro b hb
    rcases HG1.out b hb with h | h
    · exact .inl h
    · exact .inr (by omega)
  · have kk : Kp (fun b => F b ∨ G b) w w1 := (HK.out.mono (G := fun b => F b ∨ G b) (fun b _ e => .inl (e ▸ hFc))).trans HK1.out (fun b _ h => .inr h)
    exact ((kk.trans HKW.out (fun b _ e => .inl (e ▸ hFc))).trans HK3.out (fun b _ e => .inl (e ▸ hFM))).trans (kf _) (fun b hb e => by rcases e with e | e; exact .inl (e ▸ hFc); omega)
end Go.Proofs.Ytkbbaokllgmhiaa
