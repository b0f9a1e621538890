/- The cache's other methods: New, Tokens, Clear, Asked. -/
import Derived.Test.YtkbbaokllgmhiaaD4
namespace Go.Proofs.Ytkbbaokllgmhiaa
open Go.RowKit Go.Maps Go.MuLone Go.Sort Go.Shelf

theorem Kp.eq {F : Nat → Prop} {w w1 w2 : World} (h : Kp F w w1) (e : w1 = w2) : Kp F w w2 := e ▸ h

set_option maxHeartbeats 400000 in
theorem new_ok (t : Nat) (x : Value) (most : Int) (w : World) (h1 : 1 ≤ most) (h2 : most ≤ 1024) :
    Calls Try.prog 8 #[.iface t x, .int .i64 most] w fun e w' => e = .returned (.tuple #[.pointer (some ⟨w.heap.size + 1, 0, none⟩), .int .i64 0]) ∧
      CacheI w' (fun b => b = w.heap.size ∨ b = w.heap.size + 1) (w.heap.size + 1) (.iface t x) most ⟨0, 0, 0, 0, []⟩ ∧ Below w.heap.size w w' := by
  have g1 : decide (most < 1) = false := by simp; omega
  have g2 : decide (1024 < most) = false := by simp; omega
  have hmm := @run_makeMap Try.prog
  go_enter Try.func8, Try.ntmps8
  go_wp2
  go_ret2
  refine ⟨rfl, ⟨⟨w.heap.size, .map [], ⟨78, block_new2 _ _ _⟩, ?_, by omega, .inl rfl, DOK.empty _ _⟩, .inr rfl, ?_, ?_, by simp, by simp; omega, h1, h2⟩, ((Below.refl _ _).alloc (Nat.le_refl _) _).alloc (by simp) _⟩
  · exact (World.ownsMap_made w Try.prog 9 RV).alloc _
  · intro b hb; simp; omega
  · intro e he; cases he

set_option maxRecDepth 100000 in
set_option maxHeartbeats 800000 in
theorem asked_any {w : World} {F : Nat → Prop} {c : Nat} {src : Value} {most : Int} {st : CSt} (h : CacheI w F c src most st) :
    Calls Try.prog 17 #[.pointer (some ⟨c, 0, none⟩)] w fun e w' => e = .returned (.tuple #[.int .i64 st.hits, .int .i64 st.misses]) ∧ CacheI w' F c src most st ∧ Kp (fun b => b = c) w w' := by
  obtain ⟨⟨M, D, hr, hown, hMc, hFM, hD⟩, q1, q2, q3, q4, q5, q6, q7⟩ := h
  have c0 : w.cell? ⟨c, 0, none⟩ = some (.int .i32 0) := hr.cell 0
  have c7 : w.cell? ⟨c, 7, none⟩ = some (.int .i64 st.hits) := hr.cell 7
  have c8 : w.cell? ⟨c, 8, none⟩ = some (.int .i64 st.misses) := hr.cell 8
  have f0 := hr.frozen 0
  have HR := Lib.hid hr
  have HO := Lib.hid hown
  have HD := Lib.hid hD
  clear hr hown hD
  go_enter_defers Try.func17, Try.ntmps17
  go_wp2_with (go_at_call 23; refine (lock_free Try.muLib ⟨c, 0, none⟩ _ c0 f0).mono ?_; rintro e w' ⟨rfl, rfl⟩)
  go_quiet (fail)
  go_wp2
  have r1 : hasRow ((w.setCell ⟨c, 0, none⟩ (.int .i32 1)).drewN nq) c (crow 1 src most M st.ver st.turn st.hits st.misses) := HR.out.setCell (i := 0) _
  have k1 : Kp (fun b => b = c) w ((w.setCell ⟨c, 0, none⟩ (.int .i32 1)).drewN nq) := ((Kp.refl (fun b => b = c) w).setCell (a := ⟨c, 0, none⟩) (.inl rfl) _).drewN _
  refine leaves_cons (f := 24) (args := #[.pointer (some ⟨c, 0, none⟩)]) (by simp) (by simp [go_sem]) ?_
  refine (unlock_deferred Try.muLib ⟨c, 0, none⟩ .returning _ (r1.cell 0) (r1.frozen 0)).mono ?_
  rintro e u' w'' ⟨rfl, rfl, rfl⟩
  have k2 := k1.setCell (a := ⟨c, 0, none⟩) (.inl rfl) (.int .i32 0)
  refine ⟨_, results_tmp2 rfl _ _ _, rfl, ⟨⟨M, D, r1.setCell (i := 0) _, ownsMap_kp HO.out k2 hMc, hMc, hFM, HD.out.keep k2 (fun b hb e => hb.2.1 e)⟩, q1, fun b hb => Nat.lt_of_lt_of_le (q2 b hb) k2.size, q3, q4, q5, q6, q7⟩, k2⟩

set_option maxRecDepth 100000 in
set_option maxHeartbeats 800000 in
theorem tokens_any {w : World} {F : Nat → Prop} {c : Nat} {src : Value} {most : Int} {st : CSt} (h : CacheI w F c src most st) :
    Calls Try.prog 10 #[.pointer (some ⟨c, 0, none⟩)] w fun e w' => ∃ p cap, e = .returned (.slice p (st.L.map (·.tok)).length cap) ∧ Strs w' (fun b => w.heap.size ≤ b) (.slice p (st.L.map (·.tok)).length cap) (st.L.map (·.tok)) ∧ CacheI w' F c src most st ∧ Kp (fun b => b = c) w w' := by
  obtain ⟨⟨M, D, hr, hown, hMc, hFM, hD⟩, q1, q2, q3, q4, q5, q6, q7⟩ := h
  have c0 : w.cell? ⟨c, 0, none⟩ = some (.int .i32 0) := hr.cell 0
  have f0 := hr.frozen 0
  have kA : Kp (fun b => b = c) w (w.setCell ⟨c, 0, none⟩ (.int .i32 1)) := (Kp.refl (fun b => b = c) w).setCell (a := ⟨c, 0, none⟩) (.inl rfl) _
  have rA : hasRow (w.setCell ⟨c, 0, none⟩ (.int .i32 1)) c (crow 1 src most M st.ver st.turn st.hits st.misses) := hr.setCell (i := 0) _
  have oA := ownsMap_kp hown kA hMc
  have dA := hD.keep kA (fun b hb e => hb.2.1 e)
  have hord := order_any c M _ D (turnOf st.L) (st.L.map (·.tok)) _ (rA.cell 5) oA dA.turns (dA.ordered oA) (by rw [hD.size hown]; omega)
  have zA : (w.setCell ⟨c, 0, none⟩ (.int .i32 1)).heap.size = w.heap.size := by simp [World.setCell]
  have HORD := Lib.hid hord
  have HR := Lib.hid rA
  have HO := Lib.hid oA
  have HD := Lib.hid dA
  have HK := Lib.hid kA
  have HZ := Lib.hid zA
  clear hr hown hD rA oA dA kA hord zA
  go_enter_defers Try.func10, Try.ntmps10
  go_wp2_with (go_at_call 23; refine (lock_free Try.muLib ⟨c, 0, none⟩ _ c0 f0).mono ?_; rintro e w' ⟨rfl, rfl⟩)
  refine HORD.out.mono ?_
  rintro e w1 ⟨p, cap, rfl, hs, hb⟩
  have r1 := HR.out.below hb HR.out.lt
  have HS := Lib.hid hs
  have HB := Lib.hid hb
  have HR1 := Lib.hid r1
  clear hs hb r1
  go_wp2
  refine leaves_cons (f := 24) (args := #[.pointer (some ⟨c, 0, none⟩)]) (by simp) (by simp [go_sem]) ?_
  refine (unlock_deferred Try.muLib ⟨c, 0, none⟩ .returning _ (HR1.out.cell 0) (HR1.out.frozen 0)).mono ?_
  rintro e u' w'' ⟨rfl, rfl, rfl⟩
  have k2 := ((Kp.refl (fun b => b = c) (w.setCell ⟨c, 0, none⟩ (.int .i32 1))).then_below HB.out (Nat.le_refl _)).setCell (a := ⟨c, 0, none⟩) (.inl rfl) (.int .i32 0)
  have hcl := q2 c q1
  refine ⟨_, results_tmp rfl _ _ _, p, cap, (by rw [List.length_map]; rfl), ?_, ⟨⟨M, D, HR1.out.setCell (i := 0) _, ownsMap_kp HO.out k2 hMc, hMc, hFM, HD.out.keep k2 (fun b hb e => hb.2.1 e)⟩, q1, fun b hb => ?_, q3, q4, q5, q6, q7⟩, HK.out.trans k2 (fun _ _ h => h)⟩
  · refine (HS.out.keep ((Kp.refl (fun b => b = c) w1).setCell (a := ⟨c, 0, none⟩) (.inl rfl) _) ?_).mono ?_
    · intro b hb e; rw [HZ.out] at hb; omega
    · intro b hb; rw [HZ.out] at hb; exact hb
  · have := q2 b hb; have := k2.size; rw [HZ.out] at this; omega

set_option maxRecDepth 100000 in
set_option maxHeartbeats 800000 in
theorem clear_any {w : World} {F : Nat → Prop} {c : Nat} {src : Value} {most : Int} {st : CSt} (h : CacheI w F c src most st) :
    Calls Try.prog 18 #[.pointer (some ⟨c, 0, none⟩)] w fun e w' => e = .returned (.tuple #[]) ∧ CacheI w' F c src most ⟨st.ver, st.turn, st.hits, st.misses, []⟩ ∧ Kp F w w' := by
  obtain ⟨⟨M, D, hr, hown, hMc, hFM, hD⟩, q1, q2, q3, q4, q5, q6, q7⟩ := h
  have c0 : w.cell? ⟨c, 0, none⟩ = some (.int .i32 0) := hr.cell 0
  have c5 : w.cell? ⟨c, 5, none⟩ = some (.map (some M)) := hr.cell 5
  have f0 := hr.frozen 0
  have HR := Lib.hid hr
  have HO := Lib.hid hown
  clear hr hown hD
  go_enter_defers Try.func18, Try.ntmps18
  go_wp2_with (first | (go_at_call 23; refine (lock_free Try.muLib ⟨c, 0, none⟩ _ c0 f0).mono ?_; rintro e w' ⟨rfl, rfl⟩) | (refine wpList_clear rfl _ rfl rfl (ownsMap_same (w := w) HO.out (Below.heap_setCell _ ⟨c, 0, none⟩ _ M hMc)) ?_; intro w1 o1 g1))
  have kA : Kp (fun b => b = c) w (w.setCell ⟨c, 0, none⟩ (.int .i32 1)) := (Kp.refl (fun b => b = c) w).setCell (a := ⟨c, 0, none⟩) (.inl rfl) _
  have hcl := q2 c q1
  have r1 := (HR.out.setCell (i := 0) (.int .i32 1)).of_same (g1.block c (by simp [World.setCell]; omega) (fun e => hMc (Option.some.inj e).symm))
  refine leaves_cons (f := 24) (args := #[.pointer (some ⟨c, 0, none⟩)]) (by simp) (by simp [go_sem]) ?_
  refine (unlock_deferred Try.muLib ⟨c, 0, none⟩ .returning _ (r1.cell 0) (r1.frozen 0)).mono ?_
  rintro e u' w'' ⟨rfl, rfl, rfl⟩
  have k1 : Kp F w w1 := (kA.mono (G := F) (fun b _ e => e ▸ q1)).grown g1 (fun b hb => by cases hb; exact .inl hFM)
  have k2 := k1.setCell (a := ⟨c, 0, none⟩) (.inl q1) (.int .i32 0)
  exact ⟨_, results_none rfl _ _ _, rfl, ⟨⟨M, .map [], r1.setCell (i := 0) _, o1.setCell (a := ⟨c, 0, none⟩) hMc _, hMc, hFM, DOK.empty _ _⟩, q1, fun b hb => Nat.lt_of_lt_of_le (q2 b hb) k2.size, (fun a ha => by cases ha), q4, by simp; omega, q6, q7⟩, k2⟩
end Go.Proofs.Ytkbbaokllgmhiaa
