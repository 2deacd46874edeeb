/- The law of names and of work; the law of what is made compact and expanded. -/
import Derived.Test.YthmaijmjhfngpaaTgH
namespace Go.Proofs.Ythmaijmjhfngpaa
open Go.RowKit

set_option maxRecDepth 100000 in
set_option maxHeartbeats 8000000 in
theorem tmeets_case (c l X : Nat) (m : Int) (ch : Array Value) (hch : ch.size = 32) (w : World)
    (K1 : Hid (∀ w, Calls Try.prog 15 #[.agg ch, .int .u32 c, .int .u32 l] w (BRet (.int .i64 m) w)))
    (K2 : Hid (∀ w, Calls Try.prog 16 #[.agg ch, .int .u32 c, .int .u32 l] w (BRet (.int .i64 m) w)))
    (K3 : Hid (∀ w, Calls Try.prog 17 #[.int .u32 c] w (BRet (.agg #[.int .u64 (wd X 0 : Nat), .int .u64 (wd X 1 : Nat), .int .u64 (wd X 2 : Nat), .int .u64 (wd X 3 : Nat)]) w)))
    (K4 : Hid (∀ w, Calls Try.prog 18 #[.int .u32 c] w (BRet (.agg #[.int .u64 (wd X 0 : Nat), .int .u64 (wd X 1 : Nat), .int .u64 (wd X 2 : Nat), .int .u64 (wd X 3 : Nat)]) w)))
    (AW : Hid (∀ w, Calls Try.prog 14 #[] w (BRet (.bool true) w))) :
    Calls Try.prog 4 #[.agg ch, .int .u32 c, .int .u32 l] w (BRet (.bool true) w) := by
  have HCH := Lib.hid hch
  clear hch
  have E1 := eqW_same (wd X 0 : Nat) (wd X 1 : Nat) (wd X 2 : Nat) (wd X 3 : Nat)
  go_enter Try.func4, Try.ntmps4
  go_wp2_with fail
  have HLD := Lib.hid (fun w' (h : IsBlk w' w.heap.size 35 ch) => hash_load HCH.out h)
  refine wp_region_seq (S := fun w' => IsBlk w' w.heap.size 35 ch ∧ Below w.heap.size w w') (by kernel_rfl) (by kernel_rfl) ⟨(IsBlk.newAt _ _ rfl).drew, by repeat' (first | exact Below.refl _ _ | refine bel_drewN ?_ _ | refine Below.drew ?_ | refine Below.alloc ?_ ?_ _ | refine Below.setCell ?_ ?_ _ | exact Nat.le_refl _ | (simp; done) | (simp; omega) | assumption)⟩ ?_
  have HST := Lib.hid (show ∀ w1' w2', (IsBlk w1' w.heap.size 35 ch ∧ Below w.heap.size w w1') → Below w1'.heap.size w1' w2' → (IsBlk w2' w.heap.size 35 ch ∧ Below w.heap.size w w2') from fun _ _ h hb => ⟨h.1.after hb, bel_on h.2 hb⟩)
  generalize hgw : w.heap.size = gw at *
  have HGW := Lib.hid hgw
  clear hgw
  repeat (first
    | (refine SeqS.skip ?_ ?_; rfl; (try simp only [Act.put, List.setIfInBounds_toArray, List.set_cons_zero, List.set_cons_succ]))
    | (refine SeqS.long 35 (.agg ch) ?_ rfl rfl (fun w hS => HLD.out w hS.1) ?_; rfl; (try simp only [Act.put, List.setIfInBounds_toArray, List.set_cons_zero, List.set_cons_succ]))
    | (refine SeqS.take (v := ?_) ?_ ?_ ?_; rotate_left; rfl; (intro w hS; skip; go_simp; with_reducible rfl); (try simp only [Act.put, List.setIfInBounds_toArray, List.set_cons_zero, List.set_cons_succ]))
    | (refine SeqS.call (v := ?_) (f := ?_) (args := ?_) ?_ ?_ ?_ ?_; rotate_left 3; rfl; (intro w hS; skip; go_simp; (first | with_reducible rfl | (refine ⟨?_, ?_⟩ <;> with_reducible rfl))); (intro w hS; first | ((with_reducible refine (K1.out _).mono ?_); rintro e w' ⟨rfl, hb⟩; refine ⟨?_, HST.out _ _ hS hb⟩; with_reducible rfl) | ((with_reducible refine (K2.out _).mono ?_); rintro e w' ⟨rfl, hb⟩; refine ⟨?_, HST.out _ _ hS hb⟩; with_reducible rfl) | ((with_reducible refine (K3.out _).mono ?_); rintro e w' ⟨rfl, hb⟩; refine ⟨?_, HST.out _ _ hS hb⟩; with_reducible rfl) | ((with_reducible refine (K4.out _).mono ?_); rintro e w' ⟨rfl, hb⟩; refine ⟨?_, HST.out _ _ hS hb⟩; with_reducible rfl) | ((with_reducible refine (AW.out _).mono ?_); rintro e w' ⟨rfl, hb⟩; refine ⟨?_, HST.out _ _ hS hb⟩; with_reducible rfl)); (try simp only [Act.put, List.setIfInBounds_toArray, List.set_cons_zero, List.set_cons_succ])))
  refine SeqS.done ?_
  rintro wz ⟨_, hbz⟩
  go_wp2_with fail
  go_ret
  exact ⟨rfl, by rw [HGW.out]; exact hbz⟩
theorem law_TargetMeets {H : Type} {enc : TypeId × Value → H} (W : World) (base : Nat) (v0 v1 v2 : Value) (d0 d1 d2 : DataW H) (p0 p1 p2 : List MemPlace)
    (h0 : DataW.Trod enc Try.prog W 0 (fun _ => true) true 35 v0 d0 p0) (h1 : DataW.Trod enc Try.prog W 0 (fun _ => true) true 22 v1 d1 p1) (h2 : DataW.Trod enc Try.prog W 0 (fun _ => true) true 22 v2 d2 p2)
    (o0 : Value.okWide Try.prog W .any base 35 v0) (o1 : Value.okWide Try.prog W .any base 22 v1) (o2 : Value.okWide Try.prog W .any base 22 v2) :
    Calls Try.prog 4 #[v0, v1, v2] W fun e w' => e = .returned (.bool true) ∧ Below W.heap.size W w' := by
  obtain ⟨f, ch, rfl, hs, hfc, hf, _⟩ := in_bytes32 h0 o0
  obtain ⟨z, rfl, hz⟩ := in_int Try.underlying22 h1 o1
  obtain ⟨c, rfl, hc⟩ := u32_nat hz
  obtain ⟨y, rfl, hy⟩ := in_int Try.underlying22 h2 o2
  obtain ⟨l, rfl, hl⟩ := u32_nat hy
  exact tmeets_case c l (workN c) _ ch hs W (Lib.hid fun w => meets_any f hf ch hs hfc c l w hc hl) (Lib.hid fun w => refMeets_any f hf ch hs hfc c l w hc hl) (Lib.hid fun w => work_any c w hc) (Lib.hid fun w => refWork_any c w hc) (Lib.hid works_any)

/-! ### Made compact, and expanded -/
def keepB (w : Nat) : Nat := 8 * (sizB w - 3)
/-- What is left of a number that is made compact and expanded. -/
def truncN (w : Nat) : Nat := w / 2 ^ keepB w * 2 ^ keepB w
theorem siz_pos {w : Nat} (h0 : w ≠ 0) : sizB w = bitsN w / 8 + 1 := by unfold sizB; rw [if_neg h0]
theorem keep_lt {w : Nat} (h0 : w ≠ 0) : keepB w < bitsN w := by
  obtain ⟨b, hb, _, _⟩ := bitsN_spec h0
  unfold keepB; rw [siz_pos h0]; omega
theorem trunc_le (w : Nat) : truncN w ≤ w := Nat.div_mul_le_self _ _
theorem trunc_top {w : Nat} (hw : w < w256) (h0 : w ≠ 0) : (3 ≤ sizB w → topB w = w / 2 ^ keepB w) ∧ (sizB w < 3 → topB w = w * 2 ^ (8 * (3 - sizB w)) ∧ truncN w = w) := by
  have hb := bits_le hw
  refine ⟨fun h => ?_, fun h => ⟨?_, ?_⟩⟩
  · unfold topB keepB
    rw [show 8 * (3 - (sizB w : Int)) = -((8 * (sizB w - 3) : Nat) : Int) from by omega, shift_down hw]
  · unfold topB
    have hs := siz_pos h0
    rw [show 8 * (3 - (sizB w : Int)) = ((8 * (3 - sizB w) : Nat) : Int) from by omega, shift_up (by omega)]
  · unfold truncN keepB
    rw [show sizB w - 3 = 0 from by omega]
    simp
theorem cN_parts {w : Nat} (hw : w < w256) : expB (cN w) = sizB w ∧ manB (cN w) = topB w ∧ sgnB (cN w) = false := by
  have ht := topB_lt hw
  unfold expB manB sgnB cN
  clear hw
  generalize topB w = t at *
  generalize sizB w = s at *
  have h1 : (s * 16777216 + t) / 16777216 = s := by omega
  have h2 : (s * 16777216 + t) % 8388608 = t := by omega
  have h3 : (s * 16777216 + t) / 8388608 = 2 * s := by omega
  exact ⟨h1, h2, decide_eq_false (by rw [h3]; omega)⟩
theorem trunc_x {w : Nat} (hw : w < w256) (h0 : w ≠ 0) : badB (cN w) = false ∧ xN (cN w) = truncN w := by
  obtain ⟨e1, e2, e3⟩ := cN_parts hw
  obtain ⟨t1, t2⟩ := trunc_top hw h0
  have hk := keep_lt h0
  have hle := trunc_le w
  have hpos : 0 < truncN w := by
    unfold truncN
    have : 1 ≤ w / 2 ^ keepB w := by
      rw [Nat.le_div_iff_mul_le (Nat.two_pow_pos _), Nat.one_mul]
      obtain ⟨b, hb, h1, _⟩ := bitsN_spec h0
      exact Nat.le_trans (Nat.pow_le_pow_right (by omega) (by omega)) h1
    exact Nat.mul_pos this (Nat.two_pow_pos _)
  have hval : 3 ≤ sizB w → grow (topB w) (sizB w - 3) = truncN w := fun h => by
    have ht1 := t1 h
    unfold keepB at ht1
    unfold grow truncN keepB
    rw [ht1, pow256]
  have hraw : rawB (cN w) = truncN w := by
    by_cases h3 : 3 ≤ sizB w
    · rw [raw_up (by omega), e1, e2, hval h3]; exact Nat.mod_eq_of_lt (by omega)
    · rw [raw_down (by omega), e1, e2, (t2 (by omega)).1, (t2 (by omega)).2, pow256, Nat.mul_div_cancel _ (Nat.two_pow_pos _)]
  have htop : topB w ≠ 0 := by
    intro h
    by_cases h3 : 3 ≤ sizB w
    · have := hval h3; rw [h] at this; simp [grow] at this; omega
    · have := (t2 (by omega)).1
      rw [h] at this
      have hp := Nat.two_pow_pos (8 * (3 - sizB w))
      have := Nat.mul_pos (Nat.pos_of_ne_zero h0) hp
      omega
  have hgood : badB (cN w) = false := by
    refine (good_iff _).2 ⟨?_, ?_, ?_, ?_⟩
    · rintro ⟨_, h⟩; rw [e3] at h; cases h
    · rw [e2]; exact htop
    · rw [hraw]; omega
    · intro h; rw [e1] at h ⊢; rw [e2, hval h]; omega
  refine ⟨hgood, ?_⟩
  unfold xN
  rw [hgood, if_neg Bool.false_ne_true]
  exact hraw
theorem trunc_c {w : Nat} (hw : w < w256) (h0 : w ≠ 0) : cN (truncN w) = cN w ∧ truncN w ≠ 0 ∧ truncN w < w256 := by
  have hx := trunc_x hw h0
  have hne : truncN w ≠ 0 := by rw [← hx.2]; exact (good_val hx.1).2
  have hlt : truncN w < w256 := Nat.lt_of_le_of_lt (trunc_le w) hw
  refine ⟨?_, hne, hlt⟩
  have hk := keep_lt h0
  have hb : bitsN (truncN w) = bitsN w := by
    unfold truncN
    rw [bits_mul (by intro h; apply hne; unfold truncN; rw [h, Nat.zero_mul]), bits_div (by omega)]
    omega
  have hs : sizB (truncN w) = sizB w := by rw [siz_pos hne, siz_pos h0, hb]
  have hkk : keepB (truncN w) = keepB w := by unfold keepB; rw [hs]
  have ht : topB (truncN w) = topB w := by
    obtain ⟨t1, t2⟩ := trunc_top hw h0
    by_cases h3 : 3 ≤ sizB w
    · rw [(trunc_top hlt hne).1 (by omega), hkk, t1 h3]
      unfold truncN
      exact Nat.mul_div_cancel _ (Nat.two_pow_pos _)
    · rw [(t2 (by omega)).2]
  unfold cN
  rw [hs, ht]
theorem trunc_lost {w : Nat} (hw : w < w256) (h0 : w ≠ 0) : subN w (truncN w) = w % 2 ^ keepB w ∧ subLess w (truncN w) = false ∧ bitsN (w % 2 ^ keepB w) ≤ keepB w ∧ keepB w ≤ 8 * ((bitsN w + 7) / 8 - 2) := by
  have hle := trunc_le w
  have hd := Nat.div_add_mod w (2 ^ keepB w)
  rw [Nat.mul_comm] at hd
  refine ⟨?_, ?_, ?_, ?_⟩
  · unfold subN
    have : w + w256 - truncN w = w % 2 ^ keepB w + w256 := by unfold truncN at hle ⊢; omega
    rw [this, Nat.add_mod_right]
    exact Nat.mod_eq_of_lt (Nat.lt_of_le_of_lt (Nat.mod_le _ _) hw)
  · unfold subLess; exact decide_eq_false (by omega)
  · exact bitsN_le (Nat.mod_lt _ (Nat.two_pow_pos _))
  · unfold keepB; rw [siz_pos h0]; omega

set_option maxRecDepth 100000 in
set_option maxHeartbeats 8000000 in
theorem back_zero (w : World)
    (K1 : Hid (∀ w, Calls Try.prog 12 #[.agg #[.int .u64 0, .int .u64 0, .int .u64 0, .int .u64 0]] w (BRet (.int .u32 0) w)))
    (K2 : Hid (∀ w, Calls Try.prog 10 #[.int .u32 0] w (BRet (.tuple #[.agg #[.int .u64 0, .int .u64 0, .int .u64 0, .int .u64 0], .int .i64 11]) w)))
    (AW : Hid (∀ w, Calls Try.prog 14 #[] w (BRet (.bool true) w))) :
    Calls Try.prog 5 #[.agg #[.int .u64 0, .int .u64 0, .int .u64 0, .int .u64 0]] w (BRet (.bool true) w) := by
  have E := eqW_same 0 0 0 0
  go_enter Try.func5, Try.ntmps5
  go_wp2_with fail
  refine (K1.out _).mono ?_
  rintro e w1 ⟨rfl, hb1⟩
  have Hv1 := Lib.hid ((show IsBlk _ (w.heap.size) 25 #[.int .u64 0, .int .u64 0, .int .u64 0, .int .u64 0] from (IsBlk.newAt _ _ rfl)).after hb1)
  have HB1 := Lib.hid ((show Below w.heap.size w _ from by repeat' (first | exact Below.refl _ _ | refine bel_drewN ?_ _ | refine Below.drew ?_ | refine Below.alloc ?_ ?_ _ | refine Below.setCell ?_ ?_ _ | exact Nat.le_refl _ | (simp; done) | (simp; omega) | assumption)).trans (hb1.mono (by simp <;> omega)))
  clear hb1
  go_wp2_with fail
  refine (K2.out _).mono ?_
  rintro e w2 ⟨rfl, hb2⟩
  have Hv2 := Lib.hid (Hv1.out.after hb2)
  have HB2 := Lib.hid (bel_on HB1.out hb2)
  clear hb2
  clear Hv1 HB1
  have hv := Hv2.out
  have vv0 := hv.cell 0
  have vv1 := hv.cell 1
  have vv2 := hv.cell 2
  have vv3 := hv.cell 3
  simp at vv0 vv1 vv2 vv3
  have frvv := hv.free
  have lvv := hv.lt
  clear hv
  go_wp2_with fail
  refine (AW.out _).mono ?_
  rintro e w3 ⟨rfl, hb3⟩
  have Hv3 := Lib.hid ((Hv2.out.alloc _).after hb3)
  have Ha3 := Lib.hid ((show IsBlk _ (w2.heap.size) 25 #[.int .u64 0, .int .u64 0, .int .u64 0, .int .u64 0] from (IsBlk.newAt _ _ rfl)).after hb3)
  have HB3 := Lib.hid (bel_on (bel_al HB2.out _) hb3)
  clear vv0 vv1 vv2 vv3 frvv lvv
  clear hb3
  clear Hv2 HB2
  go_wp2_with fail
  go_ret
  exact ⟨rfl, HB3.out⟩

set_option maxRecDepth 100000 in
set_option maxHeartbeats 16000000 in
theorem back_case (v a D c B sz L : Nat) (M k : Int) (w : World) (hM : ¬ 0 < M) (hk0 : 0 ≤ k) (hk : (L : Int) ≤ k) (hB : B ≤ 256) (hL : L ≤ 256) (hsz : sz ≤ 32) (hmax : max (0 : Int) (8 * ((sz : Int) - 2)) = k)
    (E0 : ∀ w, (binOp .eql 25 (.agg #[.int .u64 (wd v 0 : Nat), .int .u64 (wd v 1 : Nat), .int .u64 (wd v 2 : Nat), .int .u64 (wd v 3 : Nat)]) (.agg #[.int .u64 0, .int .u64 0, .int .u64 0, .int .u64 0])).run Try.prog w = .ok (.bool false) w)
    (K1 : Hid (∀ w, Calls Try.prog 12 #[.agg #[.int .u64 (wd v 0 : Nat), .int .u64 (wd v 1 : Nat), .int .u64 (wd v 2 : Nat), .int .u64 (wd v 3 : Nat)]] w (BRet (.int .u32 c) w)))
    (K2 : Hid (∀ w, Calls Try.prog 10 #[.int .u32 c] w (BRet (.tuple #[.agg #[.int .u64 (wd a 0 : Nat), .int .u64 (wd a 1 : Nat), .int .u64 (wd a 2 : Nat), .int .u64 (wd a 3 : Nat)], .int .i64 0]) w)))
    (K3 : Hid (∀ w, Calls Try.prog 19 #[.agg #[.int .u64 (wd a 0 : Nat), .int .u64 (wd a 1 : Nat), .int .u64 (wd a 2 : Nat), .int .u64 (wd a 3 : Nat)], .agg #[.int .u64 (wd v 0 : Nat), .int .u64 (wd v 1 : Nat), .int .u64 (wd v 2 : Nat), .int .u64 (wd v 3 : Nat)]] w (BRet (.int .i64 M) w)))
    (K4 : Hid (∀ w, Calls Try.prog 12 #[.agg #[.int .u64 (wd a 0 : Nat), .int .u64 (wd a 1 : Nat), .int .u64 (wd a 2 : Nat), .int .u64 (wd a 3 : Nat)]] w (BRet (.int .u32 c) w)))
    (K5 : Hid (∀ w, Calls Try.prog 20 #[.agg #[.int .u64 (wd v 0 : Nat), .int .u64 (wd v 1 : Nat), .int .u64 (wd v 2 : Nat), .int .u64 (wd v 3 : Nat)]] w (BRet (.int .i64 B) w)))
    (e5 : ((B : Int) + 7) / 8 = (sz : Nat))
    (K6 : Hid (∀ w, Calls Try.prog 21 #[.agg #[.int .u64 (wd v 0 : Nat), .int .u64 (wd v 1 : Nat), .int .u64 (wd v 2 : Nat), .int .u64 (wd v 3 : Nat)], .agg #[.int .u64 (wd a 0 : Nat), .int .u64 (wd a 1 : Nat), .int .u64 (wd a 2 : Nat), .int .u64 (wd a 3 : Nat)]] w (BRet (.tuple #[.agg #[.int .u64 (wd D 0 : Nat), .int .u64 (wd D 1 : Nat), .int .u64 (wd D 2 : Nat), .int .u64 (wd D 3 : Nat)], .bool false]) w)))
    (K7 : Hid (∀ w, Calls Try.prog 20 #[.agg #[.int .u64 (wd D 0 : Nat), .int .u64 (wd D 1 : Nat), .int .u64 (wd D 2 : Nat), .int .u64 (wd D 3 : Nat)]] w (BRet (.int .i64 L) w)))
    (AW : Hid (∀ w, Calls Try.prog 14 #[] w (BRet (.bool true) w))) :
    Calls Try.prog 5 #[.agg #[.int .u64 (wd v 0 : Nat), .int .u64 (wd v 1 : Nat), .int .u64 (wd v 2 : Nat), .int .u64 (wd v 3 : Nat)]] w (BRet (.bool true) w) := by
  go_enter Try.func5, Try.ntmps5
  go_wp2_with fail
  refine (K1.out _).mono ?_
  rintro e w1 ⟨rfl, hb1⟩
  have Hv1 := Lib.hid ((show IsBlk _ (w.heap.size) 25 #[.int .u64 (wd v 0 : Nat), .int .u64 (wd v 1 : Nat), .int .u64 (wd v 2 : Nat), .int .u64 (wd v 3 : Nat)] from (IsBlk.newAt _ _ rfl)).after hb1)
  have HB1 := Lib.hid ((show Below w.heap.size w _ from by repeat' (first | exact Below.refl _ _ | refine bel_drewN ?_ _ | refine Below.drew ?_ | refine Below.alloc ?_ ?_ _ | refine Below.setCell ?_ ?_ _ | exact Nat.le_refl _ | (simp; done) | (simp; omega) | assumption)).trans (hb1.mono (by simp <;> omega)))
  clear hb1
  go_wp2_with fail
  refine (K2.out _).mono ?_
  rintro e w2 ⟨rfl, hb2⟩
  have Hv2 := Lib.hid (Hv1.out.after hb2)
  have HB2 := Lib.hid (bel_on HB1.out hb2)
  clear hb2
  clear Hv1 HB1
  have hv := Hv2.out
  have vv0 := hv.cell 0
  have vv1 := hv.cell 1
  have vv2 := hv.cell 2
  have vv3 := hv.cell 3
  simp at vv0 vv1 vv2 vv3
  have frvv := hv.free
  have lvv := hv.lt
  clear hv
  go_wp2_with fail
  refine (K3.out _).mono ?_
  rintro e w3 ⟨rfl, hb3⟩
  have Hv3 := Lib.hid ((Hv2.out.alloc _).after hb3)
  have Ha3 := Lib.hid ((show IsBlk _ (w2.heap.size) 25 #[.int .u64 (wd a 0 : Nat), .int .u64 (wd a 1 : Nat), .int .u64 (wd a 2 : Nat), .int .u64 (wd a 3 : Nat)] from (IsBlk.newAt _ _ rfl)).after hb3)
  have HB3 := Lib.hid (bel_on (bel_al HB2.out _) hb3)
  clear vv0 vv1 vv2 vv3 frvv lvv
  clear hb3
  clear Hv2 HB2
  have ha := Ha3.out
  have va0 := ha.cell 0
  have va1 := ha.cell 1
  have va2 := ha.cell 2
  have va3 := ha.cell 3
  simp at va0 va1 va2 va3
  have frva := ha.free
  have lva := ha.lt
  clear ha
  go_wp2_with fail
  refine (K4.out _).mono ?_
  rintro e w4 ⟨rfl, hb4⟩
  have Hv4 := Lib.hid (Hv3.out.after hb4)
  have Ha4 := Lib.hid (Ha3.out.after hb4)
  have HB4 := Lib.hid (bel_on HB3.out hb4)
  clear va0 va1 va2 va3 frva lva
  clear hb4
  clear Hv3 Ha3 HB3
  have hv := Hv4.out
  have vv0 := hv.cell 0
  have vv1 := hv.cell 1
  have vv2 := hv.cell 2
  have vv3 := hv.cell 3
  simp at vv0 vv1 vv2 vv3
  have frvv := hv.free
  have lvv := hv.lt
  clear hv
  go_wp2_with fail
  refine (K5.out _).mono ?_
  rintro e w5 ⟨rfl, hb5⟩
  have Hv5 := Lib.hid (Hv4.out.after hb5)
  have Ha5 := Lib.hid (Ha4.out.after hb5)
  have HB5 := Lib.hid (bel_on HB4.out hb5)
  clear vv0 vv1 vv2 vv3 frvv lvv
  clear hb5
  clear Hv4 Ha4 HB4
  have hv := Hv5.out
  have vv0 := hv.cell 0
  have vv1 := hv.cell 1
  have vv2 := hv.cell 2
  have vv3 := hv.cell 3
  simp at vv0 vv1 vv2 vv3
  have frvv := hv.free
  have lvv := hv.lt
  clear hv
  have ha := Ha5.out
  have va0 := ha.cell 0
  have va1 := ha.cell 1
  have va2 := ha.cell 2
  have va3 := ha.cell 3
  simp at va0 va1 va2 va3
  have frva := ha.free
  have lva := ha.lt
  clear ha
  go_wp2_with fail
  refine (K6.out _).mono ?_
  rintro e w6 ⟨rfl, hb6⟩
  have Hv6 := Lib.hid (Hv5.out.after hb6)
  have Ha6 := Lib.hid (Ha5.out.after hb6)
  have HB6 := Lib.hid (bel_on HB5.out hb6)
  clear vv0 vv1 vv2 vv3 frvv lvv
  clear va0 va1 va2 va3 frva lva
  clear hb6
  clear Hv5 Ha5 HB5
  go_wp2_with fail
  refine (K7.out _).mono ?_
  rintro e w7 ⟨rfl, hb7⟩
  have Hv7 := Lib.hid ((Hv6.out.alloc _).after hb7)
  have Ha7 := Lib.hid ((Ha6.out.alloc _).after hb7)
  have Hd7 := Lib.hid ((show IsBlk _ (w6.heap.size) 25 #[.int .u64 (wd D 0 : Nat), .int .u64 (wd D 1 : Nat), .int .u64 (wd D 2 : Nat), .int .u64 (wd D 3 : Nat)] from (IsBlk.newAt _ _ rfl)).after hb7)
  have HB7 := Lib.hid (bel_on (bel_al HB6.out _) hb7)
  clear hb7
  clear Hv6 Ha6 HB6
  go_wp2_with fail
  refine (AW.out _).mono ?_
  rintro e w8 ⟨rfl, hb8⟩
  have Hv8 := Lib.hid (Hv7.out.after hb8)
  have Ha8 := Lib.hid (Ha7.out.after hb8)
  have Hd8 := Lib.hid (Hd7.out.after hb8)
  have HB8 := Lib.hid (bel_on HB7.out hb8)
  clear hb8
  clear Hv7 Ha7 Hd7 HB7
  go_wp2_with fail
  go_ret
  exact ⟨rfl, HB8.out⟩
theorem back_walk (v : Nat) (w : World) (hv : v < w256) : Calls Try.prog 5 #[.agg #[.int .u64 (wd v 0 : Nat), .int .u64 (wd v 1 : Nat), .int .u64 (wd v 2 : Nat), .int .u64 (wd v 3 : Nat)]] w (BRet (.bool true) w) := by
  by_cases h0 : v = 0
  · subst h0
    rw [lit_zero]
    refine back_zero w (Lib.hid fun w => ?_) (Lib.hid fun w => ?_) (Lib.hid works_any)
    · have := compact_any 0 w hv
      rw [lit_zero, show cN 0 = 0 from by simp [cN, sizB, topB, shiftN_of_zero]] at this
      exact this
    · have hb : badB 0 = true := by decide +kernel
      have := expand_any 0 w (by decide)
      rw [(xN_zero 0).2 hb, lit_zero, show xE 0 = 11 from by unfold xE; rw [hb]; rfl] at this
      exact this
  · obtain ⟨hg, hx⟩ := trunc_x hv h0
    obtain ⟨hc, hn0, ha⟩ := trunc_c hv h0
    obtain ⟨l1, l2, l3, l4⟩ := trunc_lost hv h0
    have hb := bits_le hv
    have hle := trunc_le v
    have hM : ¬ 0 < cmpN (truncN v) v := by
      have := cmp_pos (truncN v) v
      rw [decide_eq_decide] at this
      rw [this]; omega
    have hD : v % 2 ^ keepB v < w256 := Nat.lt_of_le_of_lt (Nat.mod_le _ _) hv
    refine back_case v (truncN v) (v % 2 ^ keepB v) (cN v) (bitsN v) ((bitsN v + 7) / 8) (bitsN (v % 2 ^ keepB v)) (cmpN (truncN v) v) (max 0 (8 * ((((bitsN v + 7) / 8 : Nat) : Int) - 2))) w hM (by omega) (by omega) hb (bits_le hD) (by omega) rfl ?_
      (Lib.hid fun w => compact_any v w hv) (Lib.hid fun w => ?_) (Lib.hid fun w => cmp_any _ _ w ha hv) (Lib.hid fun w => ?_) (Lib.hid fun w => bits_any v w hv) (by omega) (Lib.hid fun w => ?_) (Lib.hid fun w => bits_any _ w hD) (Lib.hid works_any)
    · intro w
      have := eqW_zero hv w
      rwa [decide_eq_false h0] at this
    · have := expand_any (cN v) w (cN_lt hv)
      rwa [hx, (xE_ok _).2 hg] at this
    · have := compact_any (truncN v) w ha
      rwa [hc] at this
    · have := sub_any v (truncN v) w hv ha
      rwa [l1, l2] at this
theorem law_TargetBack {H : Type} {enc : TypeId × Value → H} (W : World) (base : Nat) (v0 : Value) (d0 : DataW H) (p0 : List MemPlace)
    (h0 : DataW.Trod enc Try.prog W 0 (fun _ => true) true 25 v0 d0 p0) (o0 : Value.okWide Try.prog W .any base 25 v0) :
    Calls Try.prog 5 #[v0] W fun e w' => e = .returned (.bool true) ∧ Below W.heap.size W w' := by
  obtain ⟨v, hv, rfl⟩ := in_wide h0 o0
  exact back_walk v W hv
end Go.Proofs.Ythmaijmjhfngpaa
