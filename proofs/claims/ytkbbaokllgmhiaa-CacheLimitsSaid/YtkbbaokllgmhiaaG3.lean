/- CacheLimits: the walk. -/
import Derived.Test.YtkbbaokllgmhiaaG5
import Derived.Test.YtkbbaokllgmhiaaF6
import Derived.Laws.BytesArg
import Derived.Deep.RegionLaw
import Derived.OrdersHeld
namespace Go.Proofs.Ytkbbaokllgmhiaa
open Go.RowKit Go.Maps Go.MuLone Go.Sort Go.Shelf

set_option maxHeartbeats 400000 in
theorem new_bad (t : Nat) (x : Value) (most : Int) (w : World) (h : most < 1 ∨ 1024 < most) :
    Calls Try.prog 8 #[.iface t x, .int .i64 most] w fun e w' => e = .returned (.tuple #[.pointer none, .int .i64 240]) ∧ w' = w := by
  by_cases h1 : most < 1
  · go_enter Try.func8, Try.ntmps8
    go_wp2
    go_ret2
    exact ⟨rfl, rfl⟩
  · have h2 : 1024 < most := h.elim (fun e => absurd e h1) id
    go_enter Try.func8, Try.ntmps8
    go_wp2
    go_ret2
    exact ⟨rfl, rfl⟩

theorem conv2 (w : World) (x y : Int) : (convert 37 9 (.slice (some ⟨w.heap.size, 0, none⟩) 2 2)).run Try.prog (w.alloc (.cells #[.int .u8 x, .int .u8 y] 5)) = .ok (.string (strOfNums [x, y])) (w.alloc (.cells #[.int .u8 x, .int .u8 y] 5)) := by
  refine run_convert_bytes_arg _ 37 5 Try.underlying37 Try.underlying5 w.heap.size 0 2 2 [x, y] rfl (fun i hi => ?_) 9 Try.underlying9
  have := (hasRow_new w #[.int .u8 x, .int .u8 y] 5).cell i
  rw [Nat.zero_add, this]
  match i, hi with
  | 0, _ => rfl
  | 1, _ => rfl

theorem strOf_tk (k : Nat) (h : k < 65536) : strOfNums [(k : Int) % 256, (k : Int) / 256] = tk k := by
  have h1 : UInt8.ofNat ((k : Int) % 256).toNat = UInt8.ofNat k := by
    apply UInt8.toNat_inj.1
    simp
    omega
  have h2 : ((k : Int) / 256).toNat = k / 256 := by omega
  show (⟨#[UInt8.ofNat ((k : Int) % 256).toNat, UInt8.ofNat ((k : Int) / 256).toNat]⟩ : ByteArray) = ⟨#[UInt8.ofNat k, UInt8.ofNat (k / 256)]⟩
  rw [h1, h2]

theorem RunI.asked {w wx : World} {c S n : Nat} {most ver k : Int} {L : List ByteArray} {X : Nat → Prop} (h : RunI w wx c S most ver L n k X) : ∃ p cap, wx.cell? ⟨S, 1, none⟩ = some (.slice p n cap) := by
  obtain ⟨F, G, st, hC, hI, _⟩ := h.ex
  obtain ⟨v, xs, h1, h2, _⟩ := hI.ex
  rcases h2.2 with ⟨rfl, h0⟩ | ⟨g, cap, cur, rfl, _⟩
  · exact ⟨none, 0, by rw [h0]; exact h1.cell 1⟩
  · exact ⟨_, _, h1.cell 1⟩

/-- CacheLimits' two long tokens: what is known behind each question, and whether the source is asked. -/
theorem lim3_first {j : Nat} (hj : j < 2) : nextL 1024 (if j = 0 then limT else limU) (zb (2048 + j)) = limU ∧ zb (2048 + j) ∉ (if j = 0 then limT else limU) := by
  rcases (by omega : j = 0 ∨ j = 1) with rfl | rfl
  · exact ⟨limT_next, limT_no⟩
  · exact ⟨limU_long, limU_no⟩
theorem lim3_second {j : Nat} (hj : j < 2) : nextL 1024 limU (zb (2048 + j)) = limU ∧ (if zb (2048 + j) ∈ limU then 0 else 1) = j := by
  rcases (by omega : j = 0 ∨ j = 1) with rfl | rfl
  · exact ⟨limU_next, if_pos limU_yes⟩
  · exact ⟨limU_long, if_neg limU_no⟩

/-- CacheLimits' last line: the cache, and the block of zero bytes. -/
structure FinI (w wx : World) (c S B : Nat) : Prop where
  ex : ∃ n k, RunI w wx c S 1024 1 limU n k (fun b => b = B)
  zb : ZB wx B 2049
theorem FinI.drewN {w wx : World} {c S B : Nat} (h : FinI w wx c S B) (q : Nat) : FinI w (wx.drewN q) c S B := by
  obtain ⟨⟨n, k, hR⟩, hz⟩ := h
  exact ⟨⟨n, k, hR.keep ((Kp.refl _ wx).drewN q)⟩, hz.kp ((Kp.refl (fun _ => False) wx).drewN q) (fun e => e)⟩
theorem FinI.drew {w wx : World} {c S B : Nat} (h : FinI w wx c S B) : FinI w wx.drew c S B := h.drewN 1
theorem FinI.toks {w wx : World} {c S B : Nat} (h : FinI w wx c S B) :
    Calls Try.prog 10 #[.pointer (some ⟨c, 0, none⟩)] wx fun e w' => ∃ p cap, e = .returned (.slice p limU.length cap) ∧ Strs w' (fun b => wx.heap.size ≤ b) (.slice p limU.length cap) limU ∧ FinI w w' c S B := by
  obtain ⟨⟨n, k, hR⟩, hz⟩ := h
  obtain ⟨⟨F, G, st, hC, hI, hd, hh, hf, ht, hF, hG⟩, hkp, hl⟩ := hR
  refine (tokens_any hC).mono ?_
  rintro e w' ⟨p, cap, rfl, hs, hC', hk'⟩
  have hv : (1 : Int) = st.ver := by
    rcases Classical.em ((1 : Int) = st.ver) with h | h
    · exact h
    · rw [ktoks_other h] at ht; have := congrArg List.length ht; rw [limU_length] at this; simp at this
  have hL : st.L.map (·.tok) = limU := by rw [← ht, hv, ktoks_same]; rfl
  rw [hL] at hs
  exact ⟨p, cap, by rw [hL], hs, ⟨n, k, ⟨⟨F, G, st, hC', hI.keep hk' (fun b hb e => hd c hC.self (e ▸ hb)), hd, hh, hf, ht, hF, hG⟩, hkp.trans hk' (fun b _ e => e ▸ (hF c hC.self).1), fun b hb => Nat.lt_of_lt_of_le (hl b hb) hk'.size⟩⟩, hz.kp hk' (fun e => (hF c hC.self).2 e.symm)⟩
section
variable {ops : Array Oper} {o : Oper} {a : Act} {w wx : World} {K : Act → World → Prop} {Q : Exit → Act → World → Prop} {E : Prop} {c S B : Nat}
/-- Steps of a region that draws its order: a call of a Go function; a conversion of bytes to a text. -/
theorem step_call (f : FuncId) (xs : Array Operand) (ts : Array TypeId) (hop : o.op = Op.call { callee := Callee.value (Operand.func f), args := xs, argTypes := ts })
    (args : Array Value) (hx : xs.map a.eval = args) (hf : ∀ args w, (callFunc f args).run Try.prog w = .ok (.enter f args) w)
    (hw : Region.wanted o (yielded ops a.tmps) = true) (h : Calls Try.prog f args wx fun e w' => ∃ v, e = .returned v ∧ K (a.put o.dst v) w') :
    if Region.wanted o (yielded ops a.tmps) = true then Oper.wp Try.prog o a wx K Q else E := by
  rw [if_pos hw]
  have hrun : (execOp a.eval o).run Try.prog wx = .ok (.enter f args) wx := by
    have h1 := hf args wx
    go_simp
  unfold Oper.wp
  rw [hrun, Oper.upon_enter]
  refine h.mono ?_
  rintro e w' ⟨v, rfl, hv⟩
  exact hv
theorem step_conv (x : Operand) (hop : o.op = Op.convert 37 9 x) (n k : Nat) (hx : a.eval x = .slice (some ⟨B, 0, none⟩) n k) (hn : n ≤ 2049) (hf : FinI w wx c S B)
    (hw : Region.wanted o (yielded ops a.tmps) = true) (h : K (a.put o.dst (.string (zb n))) wx) :
    if Region.wanted o (yielded ops a.tmps) = true then Oper.wp Try.prog o a wx K Q else E := by
  rw [if_pos hw]
  have hrun := convB hf.zb hn k
  unfold Oper.wp
  simp [execOp, hop, hx, hrun]
  exact h
theorem yields_conv {x : Operand} (hf : FinI w wx c S B) (hop : o.op = Op.convert 37 9 x) {n k : Nat} (hx : a.eval x = .slice (some ⟨B, 0, none⟩) n k) (hn : n ≤ 2049) : (execOp a.eval o).run Try.prog wx = .ok (.value (.string (zb n))) wx := by
  have hrun := convB hf.zb hn k
  simp [execOp, hop, hx, hrun]
theorem held_one {md : Region.Mode} {S' : World → Prop} {fuel i : Nat} {listed : Array Bool} (hr : Region.ready md ops listed = [i]) (hi : ops[i]? = some o)
    (h : ∀ K' : Act → World → Prop, (∀ a w, (S' w ∧ wpAnyH Try.prog md ops Q S' fuel (listed.setIfInBounds i true) a w) → K' a w) → if Region.wanted o (yielded ops a.tmps) = true then Oper.wp Try.prog o a w K' Q else K' (a.put o.dst undef) w) :
    wpAnyH Try.prog md ops Q S' (fuel + 1) listed a w :=
  wpAnyH_all hr (by simp) (fun j hj => by rw [List.mem_singleton] at hj; subst hj; exact wpOp_step hi h)
theorem step_toks (x : Operand) (hop : o.op = Op.call { callee := Callee.value (Operand.func 10), args := #[x], argTypes := #[24] }) (hx : a.eval x = .pointer (some ⟨c, 0, none⟩)) (hf : FinI w wx c S B)
    (hw : Region.wanted o (yielded ops a.tmps) = true) (h : ∀ p cap w', Strs w' (fun b => wx.heap.size ≤ b) (.slice p limU.length cap) limU → FinI w w' c S B → K (a.put o.dst (.slice p limU.length cap)) w') :
    if Region.wanted o (yielded ops a.tmps) = true then Oper.wp Try.prog o a wx K Q else E :=
  step_call 10 _ _ hop #[.pointer (some ⟨c, 0, none⟩)] (by simp [hx]) (fun args w => enters_of Try.func10 (by kernel_rfl) rfl args w) hw (hf.toks.mono fun e w' ⟨p, cap, he, hs, hf'⟩ => ⟨_, he, h p cap w' hs hf'⟩)
theorem step_among (x y : Operand) (hop : o.op = Op.call { callee := Callee.value (Operand.func 12), args := #[x, y], argTypes := #[30, 9] }) (v u : Value) (hx : a.eval x = v) (hy : a.eval y = u) (n : Int)
    (hc : Calls Try.prog 12 #[v, u] wx fun e w' => e = .returned (.int .i64 n) ∧ ∃ q, w' = wx.drewN q) (hf : FinI w wx c S B)
    (hw : Region.wanted o (yielded ops a.tmps) = true) (h : ∀ w', FinI w w' c S B → K (a.put o.dst (.int .i64 n)) w') :
    if Region.wanted o (yielded ops a.tmps) = true then Oper.wp Try.prog o a wx K Q else E :=
  step_call 12 _ _ hop #[v, u] (by simp [hx, hy]) (fun args w => enters_of Try.func12 (by kernel_rfl) rfl args w) hw (hc.mono fun e w' ⟨he, q, hq⟩ => ⟨_, he, h w' (hq ▸ hf.drewN q)⟩)
end

theorem sliceB (B : Nat) (w : World) : (Instr.sliceAt 37 (.slice (some ⟨B, 0, none⟩) 2049 2049) none (some (.int .i64 2048)) none).run Try.prog w = .ok (.slice (some ⟨B, 0, none⟩) 2048 2049) w := by
  go_simp

theorem FinI.below {w wx : World} {c S B : Nat} (h : FinI w wx c S B) : Below w.heap.size w wx := by
  obtain ⟨⟨n, k, hR⟩, hz⟩ := h
  exact hR.kp.below (Nat.le_refl _) (fun b hb e => by omega)

theorem among_none {w : World} {F : Nat → Prop} {v : Value} (h : Strs w F v limU) : Calls Try.prog 12 #[v, .string (zb 2049)] w fun e w' => e = .returned (.int .i64 0) ∧ ∃ q, w' = w.drewN q :=
  (among_any limU (zb 2049) h (by rw [limU_length]; decide)).mono fun e w' ⟨he, hw⟩ => ⟨by rw [he, limU_none]; rfl, hw⟩
theorem among_one {w : World} {F : Nat → Prop} {v : Value} (h : Strs w F v limU) : Calls Try.prog 12 #[v, .string (zb 2048)] w fun e w' => e = .returned (.int .i64 1) ∧ ∃ q, w' = w.drewN q :=
  (among_any limU (zb 2048) h (by rw [limU_length]; decide)).mono fun e w' ⟨he, hw⟩ => ⟨by rw [he, limU_one]; rfl, hw⟩

/-- Behind k questions of CacheLimits. -/
structure LimI (w wr : World) (c S k : Nat) : Prop where
  ex : ∃ F G st, CacheI wr F c (hon S) 1024 st ∧ HonI wr G S 1 k ∧ (∀ b, F b → ¬ G b) ∧ Hon st ∧ Fits st k ∧ (k ≤ 1024 → ktoks 1 st = (List.range k).map tk) ∧ (k = 1025 → toks st = ((List.range 1024).map tk).tail ++ [tk 1024] ∧ ktoks 1 st = ((List.range 1024).map tk).tail ++ [tk 1024]) ∧ (∀ b, F b → w.heap.size ≤ b) ∧ (∀ b, G b → w.heap.size ≤ b)
  kp : Kp (fun b => w.heap.size ≤ b) w wr

theorem LimI.next {w wr : World} {c S k : Nat} (hk : k ≤ 1024) (h : LimI w wr c S k) (o : Obj) : Calls Try.prog 11 #[.pointer (some ⟨c, 0, none⟩), .pointer (some ⟨S, 0, none⟩), .string (tk k)] (wr.alloc o) fun e w' => e = .returned (.bool true) ∧ LimI w w' c S (k + 1) := by
  obtain ⟨⟨F, G, st, hC, hI, hd, hh, hf, ht, _, hF, hG⟩, hkp⟩ := h
  have ka : Kp (fun b => wr.heap.size ≤ b) wr (wr.alloc o) := (Kp.refl _ wr).alloc o
  have hls := lim_step hk (ht hk)
  refine (right_any (ver := 1) (tk k) (hC.keep ka (fun b hb e => absurd (hC.lt b hb) (by omega))) (hI.keep ka (fun b hb e => absurd (hI.lt b hb) (by omega))) hd hh hf (by omega) (by rw [tk_size]; decide) (by omega)).mono ?_
  rintro e w' ⟨rfl, F', G', A⟩
  have hsz := hkp.size
  have kt : ktoks 1 (fnd 1024 1 (tk k) st) = toks (fnd 1024 1 (tk k) st) := by
    have h := ktoks_same (fnd 1024 1 (tk k) st)
    rwa [fnd_ver] at h
  refine ⟨rfl, ⟨F', G', _, A.cache, (by rw [← (hits_miss (most := 1024) hls.1).2.2]; exact A.source), A.apart, hh.fnd, (by have := hf.fnd (most := 1024) (v := 1) (tok := tk k); simpa using this), (fun hk1 => ?_), (fun hk1 => ?_), (fun b hb => (A.mine b hb).elim (hF b) (fun e => by simp at e; omega)), (fun b hb => (A.its b hb).elim (hG b) (fun e => by simp at e; omega))⟩, (hkp.alloc o).trans A.kp (fun b _ e => e.elim (hF b) (hG b))⟩
  · rw [kt, hls.2, if_neg (by omega)]
  · rw [kt, hls.2, if_pos (by omega)]; exact ⟨rfl, rfl⟩

theorem lim_get (i : Nat) (h : i < 1024) : (((List.range 1024).map tk).tail ++ [tk 1024])[i]? = some (tk (i + 1)) := by
  by_cases h2 : i < 1023
  · rw [List.getElem?_append_left (by simp; omega), List.getElem?_tail, List.getElem?_map, List.getElem?_range (by omega)]
    rfl
  · have : i = 1023 := by omega
    subst this
    rw [List.getElem?_append_right (by simp)]
    simp
theorem lim_cells {w : World} {F : Nat → Prop} {p : Option Addr} {n c : Nat} {xs : List ByteArray} (h : Strs w F (.slice p n c) xs) (hx : xs = ((List.range 1024).map tk).tail ++ [tk 1024]) :
    ∃ b off, p = some ⟨b, off, none⟩ ∧ b < w.heap.size ∧ w.cell? ⟨b, off, none⟩ = some (.string ⟨#[1, 0]⟩) ∧ w.cell? ⟨b, off + 1023, none⟩ = some (.string ⟨#[0, 4]⟩) := by
  have hl : xs.length = 1024 := by rw [hx]; simp
  obtain ⟨a, cap, e, hc⟩ := h
  cases e
  obtain ⟨b, off, ha, _, hb, hcell⟩ := hc (fun e => by rw [e] at hl; simp at hl)
  refine ⟨b, off, ha, hb, ?_, ?_⟩
  · have h1 := hcell 0 (by omega)
    have h2 := lim_get 0 (by omega)
    rw [← hx, List.getElem?_eq_getElem (by omega)] at h2
    rw [Option.some.inj h2] at h1
    exact h1
  · have h1 := hcell 1023 (by omega)
    have h2 := lim_get 1023 (by omega)
    rw [← hx, List.getElem?_eq_getElem (by omega)] at h2
    rw [Option.some.inj h2] at h1
    exact h1

set_option maxRecDepth 100000 in
set_option maxHeartbeats 10000000 in
theorem limits_ok (w : World) : Calls Try.prog 3 #[] w fun e w' => e = .returned (.bool true) ∧ Below w.heap.size w w' := by
  go_enter Try.func3, Try.ntmps3
  go_wp2_with (go_at_call 7; refine (lives_ok w).mono ?_; rintro e w1 ⟨rfl, hb1⟩; have HB1 := Lib.hid hb1; clear hb1)
  go_loopw [2] (fun i wr => ∃ k : Nat, k ≤ 5 ∧ i = .int .i64 (k : Int) ∧ Kp (fun b => w.heap.size ≤ b) w wr ∧ hasRow wr w1.heap.size #[.int .i64 (-9223372036854775808), .int .i64 (-1), .int .i64 0, .int .i64 1025, .int .i64 9223372036854775807]) (fun i _ => 5 - (intOf i).toNat)
  case atStart => exact ⟨0, by omega, rfl, (Kp.of_below HB1.out).alloc _, hasRow_new w1 _ _⟩
  case round =>
    obtain ⟨k, hk, rfl, hK, hR⟩ := hrel
    by_cases hlt : k < 5
    · obtain ⟨m, hm, hbad⟩ : ∃ m, wr.cell? ⟨w1.heap.size, k, none⟩ = some (.int .i64 m) ∧ (m < 1 ∨ 1024 < m) := by
        rw [hR.cell k]
        match k, hlt with
        | 0, _ => exact ⟨_, rfl, by omega⟩
        | 1, _ => exact ⟨_, rfl, by omega⟩
        | 2, _ => exact ⟨_, rfl, by omega⟩
        | 3, _ => exact ⟨_, rfl, by omega⟩
        | 4, _ => exact ⟨_, rfl, by omega⟩
      have g1 : (k : Int) < 5 := by omega
      have l1 := hR.lt
      have HK := Lib.hid (And.intro hK hR)
      have HBAD := Lib.hid hbad
      clear hK hR hbad
      go_wp2_with (first | (go_at_call 9; refine (num_any _ _).mono ?_; rintro e w' ⟨rfl, hww⟩; rw [hww]; clear hww w') | (go_at_call 8; refine (new_bad 28 _ m _ HBAD.out).mono ?_; rintro e w' ⟨rfl, hww⟩; rw [hww]; clear hww w'))
      go_roundw
      case rel => exact ⟨k + 1, by omega, by go_num, HK.out.1.alloc _, HK.out.2.alloc _⟩
      case measure => simp [intOf]; omega
    · have hk5 : k = 5 := by omega
      subst hk5
      have HK := Lib.hid (And.intro hK hR)
      clear hK hR
      have hnew := fun (W : World) S => new_ok 28 (.pointer (some ⟨S, 0, none⟩)) 1024 W (by decide) (by decide)
      go_wp2_with (first | (go_at_call 9; refine (num_any _ _).mono ?_; rintro e w' ⟨rfl, hww⟩; rw [hww]; clear hww w') | (go_at_call 8; refine (hnew _ _).mono ?_; rintro e w2 ⟨rfl, hC2, hb2⟩; simp only [World.size_alloc] at hC2 hb2; have HC2 := Lib.hid (And.intro hC2 hb2); clear hC2 hb2))
      have hS2 : hasRow w2 wr.heap.size #[.int .u64 1, .slice none 0 0] := (hasRow_new wr _ 32).below HC2.out.2 (by simp)
      have hI2 : HonI w2 (fun b => b = wr.heap.size) wr.heap.size 1 0 := ⟨⟨_, [], hS2, World.ownsRow_nil _ _ _ _, fun b hb => by cases hb⟩, rfl, fun b hb => hb ▸ hS2.lt, by decide, by decide⟩
      refine (tokens_any HC2.out.1).mono ?_
      rintro r w3 ⟨p3, c3, rfl, _, hC3, k3⟩
      have hI3 := hI2.keep k3 (fun b hb e => by omega)
      obtain ⟨v3, xs3, r3, o3, _⟩ := hI3.ex
      have hS3 := hS2.kp k3 (by omega)
      have t1 := hS3.cell 1
      have lS3 := hS3.lt
      simp at t1
      have hb2 := HC2.out.2.size
      have hlw := HK.out.1.size
      have hL0 : LimI w w3 (wr.heap.size + 1 + 1) wr.heap.size 0 := ⟨⟨_, _, _, by simpa using hC3, hI3, (fun b hb e => by omega), (fun e he => by cases he), ⟨by simp, by simp, by simp, by simp, by simp⟩, (fun _ => rfl), (fun e => by omega), (fun b hb => by omega), (fun b hb => by omega)⟩, ((HK.out.1.alloc _).then_below HC2.out.2 (by omega)).trans k3 (fun b hb e => by omega)⟩
      have HL0 := Lib.hid hL0
      clear hS2 hI2 hC3 k3 hI3 r3 o3 hS3 hL0 hnew
      go_wp2_with (first | (go_at_call 9; refine (num_any _ _).mono ?_; rintro e w' ⟨rfl, hww⟩; rw [hww]; clear hww w'))
      generalize hcc : wr.heap.size + 1 + 1 = c at *
      generalize hSS : wr.heap.size = S at *
      go_loopw [8] (fun i wx => ∃ k : Nat, k ≤ 1025 ∧ i = .int .i64 (k : Int) ∧ LimI w wx c S k) (fun i _ => 1025 - (intOf i).toNat)
      case atStart => exact ⟨0, by omega, rfl, HL0.out⟩
      case round =>
        obtain ⟨k, hk, rfl, hL⟩ := hrel
        have HL := Lib.hid hL
        clear hL
        by_cases hlt : k ≤ 1024
        · have g1 : (k : Int) ≤ 1024 := by omega
          have hconv := conv2 wr ((k : Int) % 256) ((k : Int) / 256)
          rw [strOf_tk k (by omega)] at hconv
          have HNX := Lib.hid (HL.out.next hlt (.cells #[.int .u8 ((k : Int) % 256), .int .u8 ((k : Int) / 256)] 5))
          go_wp2_with (go_at_call 11; refine HNX.out.mono ?_; rintro e w5 ⟨rfl, hl5⟩; have HL5 := Lib.hid hl5; clear hl5)
          go_roundw
          case rel => exact ⟨k + 1, by omega, by go_num, HL5.out⟩
          case measure => simp [intOf]; omega
        · have hk5 : k = 1025 := by omega
          subst hk5
          obtain ⟨⟨F, G, st, hC, hI, hd, hh, hf, _, ht, hF, hG⟩, hkp⟩ := HL.out
          have htk := ht rfl
          have hlt : st.L.length = 1024 := by have := congrArg List.length htk.1; simpa [toks] using this
          have H2 := Lib.hid (And.intro hC (And.intro hI (And.intro hd (And.intro hh (And.intro hf (And.intro htk (And.intro hF (And.intro hG hkp))))))))
          have htok := tokens_any hC
          have HTO := Lib.hid htok
          clear hC hI hd hh hf ht hF hG hkp htok htk
          go_wp2_with (go_at_call 10; refine HTO.out.mono ?_; rintro e w6 ⟨p6, c6, rfl, hs6, hC6, hk6⟩; obtain ⟨b6, o6, rfl, lb6, x60, x61⟩ := lim_cells hs6 H2.out.2.2.2.2.2.1.1; have hI6 := H2.out.2.1.keep hk6 (fun b hb e => H2.out.2.2.1 _ H2.out.1.self (e ▸ hb)); have H6 := Lib.hid (And.intro hC6 (And.intro hI6 hk6)); clear hs6 hC6 hI6 hk6; obtain ⟨ob, hmk, hzb⟩ := makeB w6; have HZB := Lib.hid hzb; clear hzb)
          have hsz6 := H6.out.2.2.size
          have hR0 : RunI w (w6.alloc ob) c S 1024 1 limT 1025 1025 (fun b => b = w6.heap.size) := by
            obtain ⟨hC, hI, hd, hh, hf, htk, hF, hG, hkp⟩ := H2.out
            have ka : Kp (fun b => w6.heap.size ≤ b) w6 (w6.alloc ob) := (Kp.refl _ w6).alloc ob
            refine ⟨⟨F, G, st, H6.out.1.keep ka (fun b hb e => absurd (H6.out.1.lt b hb) (by omega)), H6.out.2.1.keep ka (fun b hb e => absurd (H6.out.2.1.lt b hb) (by omega)), hd, hh, hf, htk.2, fun b hb => ⟨hF b hb, fun e => absurd (H6.out.1.lt b hb) (by omega)⟩, fun b hb => ⟨hG b hb, fun e => absurd (H6.out.2.1.lt b hb) (by omega)⟩⟩, (hkp.trans H6.out.2.2 (fun b _ e => e ▸ hF c hC.self)).alloc ob, fun b hb => by simp; omega⟩
          have HR0 := Lib.hid (And.intro hR0 HZB.out)
          clear hR0
          generalize hBB : w6.heap.size = B at *
          go_loopw [11] (fun i wx => ∃ (j n : Nat), j ≤ 2 ∧ i = .int .i64 (2048 + (j : Int)) ∧ n ≤ 1025 + 2 * j ∧ RunI w wx c S 1024 1 (if j = 0 then limT else limU) n (1025 + 2 * (j : Int)) (fun b => b = B) ∧ ZB wx B 2049) (fun i _ => (2050 - intOf i).toNat)
          case atStart => exact ⟨0, 1025, by omega, rfl, by omega, HR0.out.1, HR0.out.2⟩
          case round =>
            obtain ⟨j, n, hj, rfl, hn, hR, hZ⟩ := hrel
            obtain ⟨pn, cn, y1⟩ := hR.asked
            have lS9 := World.block_lt_of_cell? _ _ y1
            have HRR := Lib.hid hR
            have HZ := Lib.hid hZ
            clear hR hZ
            by_cases hlt : j < 2
            · have l1 := lim3_first hlt
              have l2 := lim3_second hlt
              have hcv := convB HZ.out (n := 2048 + j) (by omega) 2049
              have h1 := HRR.out.right (by omega) (zb (2048 + j)) (by rw [zb_size]; unfold maxLen; omega) (by omega)
              rw [l1.1, if_neg l1.2] at h1
              have H1 := Lib.hid h1
              have L2 := Lib.hid l2
              have g1 : (2048 + (j : Int)) ≤ 2049 := by omega
              have g2 : (0 : Int) ≤ 2048 + (j : Int) := by omega
              clear h1 l1 l2
              go_wp2_with (first
                | (go_at_call 11; refine H1.out.mono ?_; rintro e wA ⟨rfl, hRA, hkA⟩; have hcv2 := convB (HZ.out.kp hkA (fun e => e.2 rfl)) (n := 2048 + j) (by omega) 2049; have h2 := hRA.right (by omega) (zb (2048 + j)) (by rw [zb_size]; unfold maxLen; omega) (by omega); rw [L2.out.1, L2.out.2] at h2; have H2 := Lib.hid (And.intro h2 (HZ.out.kp hkA (fun e => e.2 rfl))); clear h2 hRA hkA)
                | (go_at_call 11; refine H2.out.1.mono ?_; rintro e wB ⟨rfl, hRB, hkB⟩; obtain ⟨pB, cB, yB⟩ := hRB.asked; have lSB := World.block_lt_of_cell? _ _ yB; have HB := Lib.hid (And.intro hRB (H2.out.2.kp hkB (fun e => e.2 rfl))); clear hRB hkB))
              go_roundw
              case rel => exact ⟨j + 1, _, by omega, by go_num, by omega, HB.out.1, HB.out.2⟩
              case measure => simp [intOf]; omega
            · have hj2 : j = 2 := by omega
              subst hj2
              have hfin : FinI w wr.drew c S B := FinI.drew ⟨⟨_, _, HRR.out⟩, HZ.out⟩
              have HF0 := Lib.hid hfin
              have HEND := Lib.hid (fun (W : World) (h : FinI w W c S B) => h.below)
              clear hfin HRR HZ HR0 HZB H6 H2 HTO HL HL0 HK HC2 HB1 hsz6 hlw hb2
              go_wp2_with fail
              refine wp_region_held (S := fun W => FinI w W c S B) (by kernel_rfl) ?_
              change wpAnyH _ _ _ _ _ _ _ _ (World.drew _)
              refine wpAnyH_take (i := 0) (v := .pointer (some ⟨c, 0, none⟩)) rfl (by kernel_rfl) (by kernel_rfl) (by kernel_rfl) (fun _ _ _ h => h) (Or.inl ⟨by kernel_rfl, fun _ _ => by kernel_rfl⟩) HF0.out ?_
              refine wpAnyH_take (i := 2) (v := .slice (some ⟨B, 0, none⟩) 2049 2049) rfl (by kernel_rfl) (by kernel_rfl) (by kernel_rfl) (fun _ _ _ h => h) (Or.inl ⟨by kernel_rfl, fun _ _ => by kernel_rfl⟩) HF0.out ?_
              refine wpAnyH_take (i := 3) (v := .string (zb 2049)) rfl (by kernel_rfl) (by kernel_rfl) (by kernel_rfl) (fun _ _ _ h => h) (Or.inl ⟨by kernel_rfl, fun W hW => yields_conv hW rfl (by kernel_rfl) (n := 2049) (k := 2049) (x := .tmp 144) (by decide)⟩) HF0.out ?_
              refine held_one (i := 1) (by kernel_rfl) rfl (fun K hK => ?_)
              refine step_toks (.tmp 142) (by kernel_rfl) (by kernel_rfl) HF0.out (by kernel_rfl) ?_; intro pT cT wT hsT hfT; (try go_simp); refine hK _ _ ⟨hfT, ?_⟩; clear hK K
              refine held_one (i := 4) (by kernel_rfl) rfl (fun K hK => ?_)
              refine step_among (.tmp 143) (.tmp 145) (by kernel_rfl) _ _ (by kernel_rfl) (by kernel_rfl) 0 (among_none hsT) hfT (by kernel_rfl) ?_; intro wU hfU; (try go_simp); refine hK _ _ ⟨hfU, ?_⟩; clear hK K
              refine wpAnyH_take (i := 5) (v := .bool true) rfl (by kernel_rfl) (by kernel_rfl) (by kernel_rfl) (fun _ _ _ h => h) (Or.inl ⟨by kernel_rfl, fun _ _ => by kernel_rfl⟩) hfU ?_
              refine wpAnyH_take (i := 6) (v := .bool true) rfl (by kernel_rfl) (by kernel_rfl) (by kernel_rfl) (fun _ _ _ h => h) (Or.inl ⟨by kernel_rfl, fun _ _ => by kernel_rfl⟩) hfU ?_
              refine wpAnyH_take (i := 7) (v := .pointer (some ⟨c, 0, none⟩)) rfl (by kernel_rfl) (by kernel_rfl) (by kernel_rfl) (fun _ _ _ h => h) (Or.inl ⟨by kernel_rfl, fun _ _ => by kernel_rfl⟩) hfU ?_
              refine wpAnyH_take (i := 9) (v := .slice (some ⟨B, 0, none⟩) 2049 2049) rfl (by kernel_rfl) (by kernel_rfl) (by kernel_rfl) (fun _ _ _ h => h) (Or.inl ⟨by kernel_rfl, fun _ _ => by kernel_rfl⟩) hfU ?_
              refine wpAnyH_take (i := 10) (v := .slice (some ⟨B, 0, none⟩) 2048 2049) rfl (by kernel_rfl) (by kernel_rfl) (by kernel_rfl) (fun _ _ _ h => h) (Or.inl ⟨by kernel_rfl, fun _ _ => by go_simp⟩) hfU ?_
              refine wpAnyH_take (i := 11) (v := .string (zb 2048)) rfl (by kernel_rfl) (by kernel_rfl) (by kernel_rfl) (fun _ _ _ h => h) (Or.inl ⟨by kernel_rfl, fun W hW => yields_conv hW rfl (by kernel_rfl) (n := 2048) (k := 2049) (x := .tmp 152) (by decide)⟩) hfU ?_
              refine held_one (i := 8) (by kernel_rfl) rfl (fun K hK => ?_)
              refine step_toks (.tmp 149) (by kernel_rfl) (by kernel_rfl) hfU (by kernel_rfl) ?_; intro pV cV wV hsV hfV; (try go_simp); refine hK _ _ ⟨hfV, ?_⟩; clear hK K
              refine held_one (i := 12) (by kernel_rfl) rfl (fun K hK => ?_)
              refine step_among (.tmp 150) (.tmp 153) (by kernel_rfl) _ _ (by kernel_rfl) (by kernel_rfl) 1 (among_one hsV) hfV (by kernel_rfl) ?_; intro wX hfX; (try go_simp); refine hK _ _ ⟨hfX, ?_⟩; clear hK K
              refine wpAnyH_take (i := 13) (v := .bool true) rfl (by kernel_rfl) (by kernel_rfl) (by kernel_rfl) (fun _ _ _ h => h) (Or.inl ⟨by kernel_rfl, fun _ _ => by kernel_rfl⟩) hfX ?_
              refine wpAnyH_take (i := 14) (v := .bool true) rfl (by kernel_rfl) (by kernel_rfl) (by kernel_rfl) (fun _ _ _ h => h) (Or.inl ⟨by kernel_rfl, fun _ _ => by kernel_rfl⟩) hfX ?_
              refine wpAnyH_take (i := 15) (v := .bool true) rfl (by kernel_rfl) (by kernel_rfl) (by kernel_rfl) (fun _ _ _ h => h) (Or.inl ⟨by kernel_rfl, fun _ _ => by kernel_rfl⟩) hfX ?_
              refine wpAnyH_done (by kernel_rfl) ?_ _
              go_wp2
              go_ret
              exact ⟨rfl, HEND.out _ hfX⟩
end Go.Proofs.Ytkbbaokllgmhiaa
