/- step: one thing that is done to a cache of an honest source. -/
import Derived.Test.YtkbbaokllgmhiaaE3
namespace Go.Proofs.Ytkbbaokllgmhiaa
open Go.RowKit Go.Maps Go.MuLone Go.Sort Go.Shelf

theorem HonI.setVer {w : World} {G : Nat → Prop} {S : Nat} {ver : Int} {n : Nat} (h : HonI w G S ver n) (v : Int) (h0 : 0 ≤ v) (h1 : v < 18446744073709551616) : HonI (w.setCell ⟨S, 0, none⟩ (.int .u64 v)) G S v n := by
  obtain ⟨⟨u, xs, a1, a2, a3⟩, a4, a5, a6, a7⟩ := h
  exact ⟨⟨u, xs, a1.setCell (i := 0) _, ownsRow_kp a2 ((Kp.refl (fun b => b = S) w).setCell (.inl rfl) _) (fun b hb e => (a3 b hb).2 e), a3⟩, a4, fun b hb => by have := a5 b hb; simpa [World.setCell] using this, h0, h1⟩

/-- What a step leaves in the cache, and as the source's version; whether it asks. -/
def stepSt (d : Int) (st : CSt) : CSt := if d = 6 then ⟨st.ver, st.turn, st.hits, st.misses, []⟩ else st
def stepVer (d N ver : Int) : Int := if d = 3 ∨ d = 4 then N else ver
def asks (d : Int) : Bool := decide (d = 1 ∨ d = 2)
def stepTok (d wh : Int) (l : List ByteArray) : ByteArray := if d = 1 ∨ d = 2 then l.getD (wh % l.length).toNat ByteArray.empty else ⟨#[]⟩

def StepPost (w : World) (F G : Nat → Prop) (c S : Nat) (most : Int) (st : CSt) (ver : Int) (n : Nat) (l : List ByteArray) (d wh N : Int) (e : Ending) (w' : World) : Prop :=
  e = .returned (.tuple #[.string (stepTok d wh l), .bool (asks d)]) ∧ CacheI w' F c (hon S) most (stepSt d st) ∧ HonI w' G S (stepVer d N ver) n ∧ Kp (fun b => F b ∨ G b) w w'

set_option maxHeartbeats 1600000 in
theorem step_any {w : World} {F G K : Nat → Prop} {c S n : Nat} {ver most : Int} {st : CSt} {lv : Value} {l : List ByteArray} (cs : Array Value) (d wh N : Int) (hC : CacheI w F c (hon S) most st) (hI : HonI w G S ver n) (hFG : ∀ b, F b → ¬ G b)
    (hl : Strs w K lv l) (hne : 0 < l.length) (hm : l.length ≤ 1000000) (c0 : cs[0]? = some (.int .i64 d)) (c1 : cs[1]? = some (.int .i64 wh)) (c2 : cs[2]? = some (.int .u64 N)) (hN0 : 0 ≤ N) (hN1 : N < 18446744073709551616) :
    Calls Try.prog 15 #[.pointer (some ⟨c, 0, none⟩), .pointer (some ⟨S, 0, none⟩), .agg cs, lv] w (StepPost w F G c S most st ver n l d wh N) := by
  obtain ⟨a, ca, rfl, ha⟩ := hl
  obtain ⟨b, off, rfl, _, hb, hcell⟩ := ha (fun e => by simp [e] at hne)
  have HC := Lib.hid hC
  have HI := Lib.hid hI
  have HFG := Lib.hid hFG
  have hcl := hC.lt c hC.self
  have hSl := hI.lt S hI.self
  obtain ⟨v1, xs1, hr1, _, _⟩ := hI.ex
  have fS := hr1.frozen 0
  have kS := hI.ver
  have e1 := Int.emod_nonneg wh (b := (l.length : Int)) (by omega)
  have e2 := Int.emod_lt_of_pos wh (b := (l.length : Int)) (by omega)
  have HW : Hid (∀ W : World, Calls Try.prog 19 #[.int .i64 wh, .int .i64 l.length] W fun e w' => e = .returned (.int .i64 (wh % l.length)) ∧ w' = W) := fun W => within_any wh l.length (by omega) (by omega) W
  have htok : ∃ k : Nat, ∃ h : k < l.length, wh % l.length = (k : Int) := ⟨(wh % l.length).toNat, by omega, by omega⟩
  obtain ⟨k, hk, hkw⟩ := htok
  have hx := hcell k hk
  have hgd : l.getD (wh % l.length).toNat ByteArray.empty = l[k] := by rw [hkw, Int.toNat_natCast, ← bset_getD l k hk]
  rw [hkw] at HW
  clear hC hI hFG hcell ha hr1 e1 e2
  have q1 : (0 : Int) ≤ (k : Int) := by omega
  have q2 : (k : Int) < (l.length : Int) := by omega
  have kn : ∀ o : Obj, Kp (fun b => F b ∨ G b) w (w.alloc o) := fun o => (Kp.refl _ w).alloc o
  have HKN := Lib.hid kn
  clear kn
  by_cases d1 : d = 1 ∨ d = 2
  · have hp : StepPost w F G c S most st ver n l d wh N (.returned (.tuple #[.string l[k], .bool true])) (w.alloc (.cells cs 52)) := by
      have nd : ¬ d = 6 := by omega
      have nd2 : ¬ (d = 3 ∨ d = 4) := by omega
      have hz : Kp (fun b => w.heap.size ≤ b) w (w.alloc (.cells cs 52)) := (Kp.refl _ w).alloc _
      refine ⟨by simp [stepTok, asks, d1, ← hgd], ?_, ?_, HKN.out _⟩
      · rw [stepSt, if_neg nd]; exact HC.out.keep hz (fun b hb e => absurd (HC.out.lt b hb) (by omega))
      · rw [stepVer, if_neg nd2]; exact HI.out.keep hz (fun b hb e => absurd (HI.out.lt b hb) (by omega))
    have HP := Lib.hid hp
    clear hp
    generalize l[k] = t at *
    rcases d1 with rfl | rfl
    · go_enter Try.func15, Try.ntmps15
      go_wp2_with (go_at_call 19; refine (HW.out _).mono ?_; rintro e w' ⟨rfl, rfl⟩)
      go_ret2
      exact HP.out
    · go_enter Try.func15, Try.ntmps15
      go_wp2_with (go_at_call 19; refine (HW.out _).mono ?_; rintro e w' ⟨rfl, rfl⟩)
      go_ret2
      exact HP.out
  · have hz : Kp (fun b => w.heap.size ≤ b) w (w.alloc (.cells cs 52)) := (Kp.refl _ w).alloc _
    have hC1 : CacheI (w.alloc (.cells cs 52)) F c (hon S) most st := HC.out.keep hz (fun b hb e => absurd (HC.out.lt b hb) (by omega))
    have hI1 : HonI (w.alloc (.cells cs 52)) G S ver n := HI.out.keep hz (fun b hb e => absurd (HI.out.lt b hb) (by omega))
    have g1 : ¬ d = 1 := fun e => d1 (.inl e)
    have g2 : ¬ d = 2 := fun e => d1 (.inr e)
    have gt : stepTok d wh l = ⟨#[]⟩ := by rw [stepTok, if_neg d1]
    have ga : asks d = false := by simp [asks, d1]
    by_cases d3 : d = 3 ∨ d = 4
    · have nd : ¬ d = 6 := by omega
      have hks : Kp (fun b => b = S) w (w.setCell ⟨S, 0, none⟩ (.int .u64 N)) := (Kp.refl (fun b => b = S) w).setCell (.inl rfl) _
      have hsz : (w.setCell ⟨S, 0, none⟩ (.int .u64 N)).heap.size = w.heap.size := by simp [World.setCell]
      have hz2 : Kp (fun b => w.heap.size ≤ b) (w.setCell ⟨S, 0, none⟩ (.int .u64 N)) ((w.setCell ⟨S, 0, none⟩ (.int .u64 N)).alloc (.cells cs 52)) := (Kp.refl _ _).alloc _
      have hC2 : CacheI ((w.setCell ⟨S, 0, none⟩ (.int .u64 N)).alloc (.cells cs 52)) F c (hon S) most st := (HC.out.keep hks (fun b hb e => HFG.out b hb (e ▸ HI.out.self))).keep hz2 (fun b hb e => absurd (HC.out.lt b hb) (by omega))
      have hI2 : HonI ((w.setCell ⟨S, 0, none⟩ (.int .u64 N)).alloc (.cells cs 52)) G S N n := (HI.out.setVer N hN0 hN1).keep hz2 (fun b hb e => absurd (HI.out.lt b hb) (by omega))
      have hp : StepPost w F G c S most st ver n l d wh N (.returned (.tuple #[.string ⟨#[]⟩, .bool false])) ((w.setCell ⟨S, 0, none⟩ (.int .u64 N)).alloc (.cells cs 52)) :=
        ⟨by rw [gt, ga], by rw [stepSt, if_neg nd]; exact hC2, by rw [stepVer, if_pos d3]; exact hI2, ((Kp.refl (fun b => F b ∨ G b) w).setCell (a := ⟨S, 0, none⟩) (.inl (.inr HI.out.self)) _).alloc _⟩
      have HP := Lib.hid hp
      clear hp hC1 hI1 hz gt ga d1 hks hsz hz2 hC2 hI2
      rcases d3 with rfl | rfl
      · go_enter Try.func15, Try.ntmps15
        go_wp2
        go_ret2
        exact HP.out
      · go_enter Try.func15, Try.ntmps15
        go_wp2
        go_ret2
        exact HP.out
    · have gv : stepVer d N ver = ver := by rw [stepVer, if_neg d3]
      have g3 : ¬ d = 3 := fun e => d3 (.inl e)
      have g4 : ¬ d = 4 := fun e => d3 (.inr e)
      by_cases d6 : d = 6
      · have hcl1 := clear_any hC1
        have HCl := Lib.hid hcl1
        have HI1 := Lib.hid hI1
        have GT := Lib.hid gt
        have GA := Lib.hid ga
        have GV := Lib.hid gv
        clear hcl1 hC1 hI1 hz gt ga gv d1 d3
        subst d6
        go_enter Try.func15, Try.ntmps15
        go_wp2_with (go_at_call 18; refine HCl.out.mono ?_; rintro e w' ⟨rfl, hC2, hk2⟩; have HC2 := Lib.hid hC2; have HK2 := Lib.hid hk2; clear hC2 hk2)
        go_ret2
        refine ⟨by rw [GT.out, GA.out]; rfl, by rw [stepSt, if_pos rfl]; exact HC2.out, by rw [GV.out]; exact HI1.out.keep HK2.out (fun b hb e => HFG.out b e hb), (HKN.out (.cells cs 52)).trans HK2.out (fun b _ e => .inl e)⟩
      · have hp : StepPost w F G c S most st ver n l d wh N (.returned (.tuple #[.string ⟨#[]⟩, .bool false])) (w.alloc (.cells cs 52)) :=
          ⟨by rw [gt, ga], by rw [stepSt, if_neg d6]; exact hC1, by rw [gv]; exact hI1, HKN.out _⟩
        have HP := Lib.hid hp
        clear hp hC1 hI1 hz gt ga d1 d3 gv
        go_enter Try.func15, Try.ntmps15
        go_wp2
        go_ret2
        exact HP.out
end Go.Proofs.Ytkbbaokllgmhiaa
