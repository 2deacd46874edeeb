/- What bits expand to: the reference's walk. -/
import Derived.Test.YthmaijmjhfngpaaTgA
namespace Go.Proofs.Ythmaijmjhfngpaa
open Go.RowKit

theorem grow_next (m k : Nat) : grow m (k + 1) = grow m k * 256 := by unfold grow; rw [Nat.pow_succ, Nat.mul_assoc]
theorem grow_zero (m : Nat) : grow m 0 = m := by simp [grow]
theorem grow_mono {m k l : Nat} (h : k ≤ l) : grow m k ≤ grow m l := Nat.mul_le_mul_left _ (Nat.pow_le_pow_right (by decide) h)
theorem refZero_any (a : Nat) (w : World) (ha : a < w256) : Calls Try.prog 33 #[.agg #[.int .u64 (wd a 0 : Nat), .int .u64 (wd a 1 : Nat), .int .u64 (wd a 2 : Nat), .int .u64 (wd a 3 : Nat)]] w (BRet (.bool (decide (a = 0))) w) := by
  have E := eqW_zero ha
  generalize decide (a = 0) = z at *
  go_enter Try.func33, Try.ntmps33
  go_wp2_with fail
  go_ret
  exact ⟨rfl, by repeat' (first | exact Below.refl _ _ | refine bel_drewN ?_ _ | refine Below.drew ?_ | refine Below.alloc ?_ ?_ _ | refine Below.setCell ?_ ?_ _ | exact Nat.le_refl _ | (simp; done) | (simp; omega) | assumption)⟩

set_option maxRecDepth 100000 in
set_option maxHeartbeats 8000000 in
theorem refExpand_case (c m e : Nat) (sg : Bool) (w : World) (he : e ≤ 255) (hm7 : m < 8388608)
    (em : (c : Int) % 8388608 = (m : Nat)) (ee : (c : Int) / 16777216 = (e : Nat)) (es : ((c : Int) / 8388608 % 2 == 1) = sg)
    (v : Value) (hv1 : sg = true → m ≠ 0 → v = .tuple #[.agg #[.int .u64 0, .int .u64 0, .int .u64 0, .int .u64 0], .int .i64 11])
    (hv2 : ∀ k, (sg = false ∨ m = 0) → k + 3 < e → w256 ≤ grow m (k + 1) → v = .tuple #[.agg #[.int .u64 0, .int .u64 0, .int .u64 0, .int .u64 0], .int .i64 11])
    (hv3 : (sg = false ∨ m = 0) → grow m (e - 3) < w256 → grow m (e - 3) / 256 ^ (3 - e) = 0 → v = .tuple #[.agg #[.int .u64 0, .int .u64 0, .int .u64 0, .int .u64 0], .int .i64 11])
    (hv4 : (sg = false ∨ m = 0) → grow m (e - 3) < w256 → grow m (e - 3) / 256 ^ (3 - e) ≠ 0 → v = .tuple #[.agg #[.int .u64 (wd (grow m (e - 3) / 256 ^ (3 - e)) 0 : Nat), .int .u64 (wd (grow m (e - 3) / 256 ^ (3 - e)) 1 : Nat), .int .u64 (wd (grow m (e - 3) / 256 ^ (3 - e)) 2 : Nat), .int .u64 (wd (grow m (e - 3) / 256 ^ (3 - e)) 3 : Nat)], .int .i64 0]) :
    Calls Try.prog 11 #[.int .u32 c] w (BRet v w) := by
  have E5 : ∀ X, X < w256 → ∀ w, Calls Try.prog 33 #[.agg #[.int .u64 (wd X 0 : Nat), .int .u64 (wd X 1 : Nat), .int .u64 (wd X 2 : Nat), .int .u64 (wd X 3 : Nat)]] w (BRet (.bool (decide (X = 0))) w) := fun X hX w => refZero_any X w hX
  have KM := Lib.hid (show ∀ X, X < w256 → ∀ w, Calls Try.prog 32 #[.agg #[.int .u64 (wd X 0 : Nat), .int .u64 (wd X 1 : Nat), .int .u64 (wd X 2 : Nat), .int .u64 (wd X 3 : Nat)], .int .u64 256] w (BRet (.tuple #[.agg #[.int .u64 (wd (mulN X 256) 0 : Nat), .int .u64 (wd (mulN X 256) 1 : Nat), .int .u64 (wd (mulN X 256) 2 : Nat), .int .u64 (wd (mulN X 256) 3 : Nat)], .int .u64 (mulOv X 256 : Nat)]) w) from fun X hX w => refMul_any X 256 w hX (by decide))
  have KZ := Lib.hid E5
  have HE := Lib.hid he
  clear E5
  by_cases hs : sg = true ∧ m ≠ 0
  · obtain ⟨rfl, hm0⟩ := hs
    rw [hv1 rfl hm0]
    have t1 : ((m : Int) != 0) = true := by simp; omega
    clear hv1 hv2 hv3 hv4
    go_enter Try.func11, Try.ntmps11
    go_wp2_with fail
    exact bodyPost_ret (v := .tuple #[.agg #[.int .u64 0, .int .u64 0, .int .u64 0, .int .u64 0], .int .i64 11]) (by simp [results, Try.results11, go_sem]) rfl ⟨rfl, by repeat' (first | exact Below.refl _ _ | refine bel_drewN ?_ _ | refine Below.drew ?_ | refine Below.alloc ?_ ?_ _ | refine Below.setCell ?_ ?_ _ | exact Nat.le_refl _ | (simp; done) | (simp; omega) | assumption)⟩
  have hso : sg = false ∨ m = 0 := by
    cases sg
    · exact .inl rfl
    · right; rcases Nat.eq_zero_or_pos m with h | h
      · exact h
      · exact absurd ⟨rfl, by omega⟩ hs
  have HV2 := Lib.hid (fun k => hv2 k hso)
  have HV3 := Lib.hid (hv3 hso)
  have HV4 := Lib.hid (hv4 hso)
  have hsm := small_words (n := m) (by omega)
  have ht : sg = false ∨ (sg = true ∧ ((m : Int) != 0) = false) := by
    rcases hso with h | h
    · exact .inl h
    · cases sg
      · exact .inl rfl
      · exact .inr ⟨rfl, by simp [h]⟩
  have HSM := Lib.hid hsm
  have HM7 := Lib.hid hm7
  clear hv1 hv2 hv3 hv4 hs hso hsm
  rcases ht with rfl | ⟨rfl, tm⟩
  all_goals
    go_enter Try.func11, Try.ntmps11
    go_wp2_with fail
    clear em ee es
    go_loopw [7] (fun i wr => ∃ n : Nat, 3 ≤ n ∧ (n = 3 ∨ n ≤ e) ∧ i = .int .i64 n ∧ grow m (n - 3) < w256 ∧ IsBlk wr w.heap.size 25 #[.int .u64 0, .int .u64 0, .int .u64 0, .int .u64 0] ∧ IsBlk wr (w.heap.size + 1) 25 #[.int .u64 (wd (grow m (n - 3)) 0 : Nat), .int .u64 (wd (grow m (n - 3)) 1 : Nat), .int .u64 (wd (grow m (n - 3)) 2 : Nat), .int .u64 (wd (grow m (n - 3)) 3 : Nat)] ∧ Below w.heap.size w wr) (fun i _ => e - (intOf i).toNat)
    case atStart =>
      refine ⟨3, by omega, .inl rfl, rfl, by rw [show 3 - 3 = 0 from rfl, grow_zero, w256_eq]; omega, (IsBlk.newAt _ _ rfl).alloc _, ?_, by repeat' (first | exact Below.refl _ _ | refine bel_drewN ?_ _ | refine Below.drew ?_ | refine Below.alloc ?_ ?_ _ | refine Below.setCell ?_ ?_ _ | exact Nat.le_refl _ | (simp; done) | (simp; omega) | assumption)⟩
      rw [show 3 - 3 = 0 from rfl, grow_zero]
      refine cast ?_ (IsBlk.newAt (w := w.alloc (.cells #[.int .u64 0, .int .u64 0, .int .u64 0, .int .u64 0] 25)) 25 #[.int .u64 (m : Nat), .int .u64 0, .int .u64 0, .int .u64 0] (g := w.heap.size + 1) (by simp))
      have := HSM.out
      injection this with this
      rw [this]
    case round =>
      obtain ⟨n, hn3, hn, rfl, hgr, hZ, hX, hB⟩ := hrel
      by_cases hlt : n < e
      · have KM2 := Lib.hid (KM.out (grow m (n - 3)) hgr)
        have hov : mulOv (grow m (n - 3)) 256 = grow m (n - 3) * 256 / w256 := rfl
        have hml : mulN (grow m (n - 3)) 256 = grow m (n - 3) * 256 % w256 := rfl
        have hnx : grow m (n - 3) * 256 = grow m (n + 1 - 3) := by rw [← grow_next]; congr 1; omega
        have hv := HV2.out (n - 3) (by omega)
        rw [show n - 3 + 1 = n + 1 - 3 from by omega] at hv
        rw [hnx] at hov hml
        have HZ := Lib.hid hZ
        have HX := Lib.hid hX
        have HB := Lib.hid hB
        have x0 := hX.cell 0
        have x1 := hX.cell 1
        have x2 := hX.cell 2
        have x3 := hX.cell 3
        simp at x0 x1 x2 x3
        have frx := hX.free
        have lx := hX.lt
        clear hZ hX hB hnx
        by_cases hbig : w256 ≤ grow m (n + 1 - 3)
        · rw [hv hbig]
          have hne : mulOv (grow m (n - 3)) 256 ≠ 0 := by
            rw [hov]; have := Nat.div_le_div_right (c := w256) hbig; rw [Nat.div_self (by rw [w256_eq]; decide)] at this; omega
          have tn : (((mulOv (grow m (n - 3)) 256 : Nat) : Int) != 0) = true := by simp; omega
          clear hv hov hml hne hbig hgr
          generalize mulOv (grow m (n - 3)) 256 = V at *
          generalize mulN (grow m (n - 3)) 256 = P at *
          generalize grow m (n - 3) = X at *
          go_wp2_with fail
          refine (KM2.out _).mono ?_
          rintro e1 w2 ⟨rfl, hb2⟩
          have hZ2 := HZ.out.after hb2
          have hB2 := bel_on HB.out hb2
          have lz := hZ2.lt
          have z0 := hZ2.cell 0
          have z1 := hZ2.cell 1
          have z2 := hZ2.cell 2
          have z3 := hZ2.cell 3
          simp at z0 z1 z2 z3
          have frz := hZ2.free
          have HZ2 := Lib.hid hZ2
          have HB2 := Lib.hid hB2
          clear hZ2 hB2 hb2 x0 x1 x2 x3 frx lx
          go_wp2_with fail
          have zz := ((((HZ2.out.put 0 (.int .u64 0)).put 1 (.int .u64 0)).put 2 (.int .u64 0)).put 3 (.int .u64 0)).alloc (.cells #[.int .u64 (wd P 0 : Nat), .int .u64 (wd P 1 : Nat), .int .u64 (wd P 2 : Nat), .int .u64 (wd P 3 : Nat)] 25)
          have q0 := zz.cell 0
          have q1 := zz.cell 1
          have q2 := zz.cell 2
          have q3 := zz.cell 3
          simp at q0 q1 q2 q3
          refine bodyPost_ret (v := .tuple #[.agg #[.int .u64 0, .int .u64 0, .int .u64 0, .int .u64 0], .int .i64 11]) ?_ rfl ⟨rfl, ?_⟩
          · simp [results, Try.results11, go_sem, q0, q1, q2, q3]
          · exact bel_al (bel4 HB2.out (by omega)) _
        · have h0 : mulOv (grow m (n - 3)) 256 = 0 := by rw [hov]; exact Nat.div_eq_of_lt (by omega)
          have hP : mulN (grow m (n - 3)) 256 = grow m (n + 1 - 3) := by rw [hml]; exact Nat.mod_eq_of_lt (by omega)
          have hgr2 : grow m (n + 1 - 3) < w256 := by omega
          rw [h0, hP, show ((0 : Nat) : Int) = 0 from rfl] at KM2
          have HG2 := Lib.hid hgr2
          clear hv hov hml hbig hgr h0 hP hgr2
          obtain ⟨P, hPP⟩ : ∃ P, grow m (n + 1 - 3) = P := ⟨_, rfl⟩
          rw [hPP] at KM2 HG2
          have HPP := Lib.hid hPP
          clear hPP
          generalize grow m (n - 3) = X at *
          go_wp2_with fail
          refine (KM2.out _).mono ?_
          rintro e1 w2 ⟨rfl, hb2⟩
          have hZ2 := HZ.out.after hb2
          have hX2 := HX.out.after hb2
          have hB2 := bel_on HB.out hb2
          have lz := hX2.lt
          have z0 := hX2.cell 0
          have z1 := hX2.cell 1
          have z2 := hX2.cell 2
          have z3 := hX2.cell 3
          simp at z0 z1 z2 z3
          have frz := hX2.free
          have HZ2 := Lib.hid hZ2
          have HX2 := Lib.hid hX2
          have HB2 := Lib.hid hB2
          clear hZ2 hX2 hB2 hb2 x0 x1 x2 x3 frx lx
          go_wp2_with fail
          exact ⟨⟨n + 1, by omega, .inr (by omega), by go_num, by rw [HPP.out]; exact HG2.out, (far4 HZ2.out (by omega)).alloc _, by rw [HPP.out]; exact (stored4 HX2.out).alloc _, bel_al (bel4 HB2.out (by omega)) _⟩, by simp [intOf]; omega⟩
      · have hne : n - 3 = e - 3 := by omega
        rw [hne] at hgr hX
        have HGR := Lib.hid hgr
        have HZ := Lib.hid hZ
        have HX := Lib.hid hX
        have HB := Lib.hid hB
        have hlt' : ¬ n < e := hlt
        clear hZ hX hB hgr hne hn hlt
        obtain ⟨wo, hwo⟩ : ∃ wo : World, wo = wr := ⟨_, rfl⟩
        go_wp2_with fail
        go_loopw [10] (fun i wy => ∃ p : Nat, e ≤ p ∧ (p = e ∨ p ≤ 3) ∧ i = .int .i64 p ∧ IsBlk wy w.heap.size 25 #[.int .u64 0, .int .u64 0, .int .u64 0, .int .u64 0] ∧ IsBlk wy (w.heap.size + 1) 25 #[.int .u64 (wd (grow m (e - 3) / 256 ^ (p - e)) 0 : Nat), .int .u64 (wd (grow m (e - 3) / 256 ^ (p - e)) 1 : Nat), .int .u64 (wd (grow m (e - 3) / 256 ^ (p - e)) 2 : Nat), .int .u64 (wd (grow m (e - 3) / 256 ^ (p - e)) 3 : Nat)] ∧ Below w.heap.size w wy) (fun i _ => 3 - (intOf i).toNat)
        case atStart => exact ⟨e, by omega, .inl rfl, rfl, HZ.out, by rw [Nat.sub_self, Nat.pow_zero, Nat.div_one]; exact HX.out, HB.out⟩
        case round =>
          clear HZ HX HB hwo
          obtain ⟨p, hp1, hp2, rfl, hZ, hX, hB⟩ := hrel
          by_cases hl3 : p < 3
          · have hsmall : grow m (e - 3) / 256 ^ (p - e) < 18446744073709551616 := by
              refine Nat.lt_of_le_of_lt (Nat.div_le_self _ _) ?_
              rw [show e - 3 = 0 from by omega, grow_zero]
              have := HM7.out; omega
            have hstep : grow m (e - 3) / 256 ^ (p + 1 - e) = grow m (e - 3) / 256 ^ (p - e) / 256 := by
              rw [Nat.div_div_eq_div_mul, ← Nat.pow_succ]; congr 2; omega
            have hw1 := small_words hsmall
            have hw2 := small_words (n := grow m (e - 3) / 256 ^ (p - e) / 256) (by omega)
            have hlt3 : (p : Int) < 3 := by omega
            have hc0 := hX.cell 0
            simp at hc0
            have hfr := hX.free 0
            have HS := Lib.hid hstep
            have HX := Lib.hid hX
            have HZ := Lib.hid hZ
            have HB := Lib.hid hB
            have HW1 := Lib.hid hw1
            have HW2 := Lib.hid hw2
            have lx := hX.lt
            clear hX hZ hB hstep hw1 hw2
            generalize grow m (e - 3) / 256 ^ (p - e) = Y at *
            have hv0 : ((wd Y 0 : Nat) : Int) / 256 = ((Y / 256 : Nat) : Int) := by
              have := HW1.out
              injection this with this
              have := congrArg (fun a : Array Value => a[0]?) this
              simp at this
              rw [this]; rfl
            have hyb : ((Y / 256 : Nat) : Int) ≤ 18446744073709551615 := by omega
            clear hsmall
            generalize Y / 256 = Y2 at *
            go_wp2_with fail
            refine ⟨⟨p + 1, by omega, .inr (by omega), by go_num, HZ.out.far (by simp) _, ?_, HB.out.setCell (by simp) _⟩, by simp [intOf]; omega⟩
            have h1 := HW1.out
            have h2 := HW2.out
            injection h1 with h1
            injection h2 with h2
            rw [HS.out, h2]
            have hx := HX.out
            rw [h1] at hx
            exact hx.put 0 _
          · have hpe : p - e = 3 - e := by omega
            rw [hpe] at hX
            have hXl : grow m (e - 3) / 256 ^ (3 - e) < w256 := Nat.lt_of_le_of_lt (Nat.div_le_self _ _) HGR.out
            have KZ2 := Lib.hid (KZ.out _ hXl)
            have h3 := HV3.out HGR.out
            have h4 := HV4.out HGR.out
            have HZ := Lib.hid hZ
            have HB := Lib.hid hB
            have HX := Lib.hid hX
            have x0 := hX.cell 0
            have x1 := hX.cell 1
            have x2 := hX.cell 2
            have x3 := hX.cell 3
            simp at x0 x1 x2 x3
            have frx := hX.free
            have lx := hX.lt
            clear hZ hB hX hpe hp2 hXl
            generalize grow m (e - 3) / 256 ^ (3 - e) = Y at *
            by_cases hY0 : Y = 0
            · have HVv := Lib.hid (h3 hY0)
              rw [decide_eq_true hY0] at KZ2
              clear h3 h4 hY0
              go_wp2_with fail
              refine (KZ2.out _).mono ?_
              rintro e1 w2 ⟨rfl, hb2⟩
              have hZ2 := HZ.out.after hb2
              have hB2 := bel_on HB.out hb2
              have lz := hZ2.lt
              have z0 := hZ2.cell 0
              have z1 := hZ2.cell 1
              have z2 := hZ2.cell 2
              have z3 := hZ2.cell 3
              simp at z0 z1 z2 z3
              have frz := hZ2.free
              have HZ2 := Lib.hid hZ2
              have HB2 := Lib.hid hB2
              clear hZ2 hB2 hb2 x0 x1 x2 x3 frx lx
              go_wp2_with fail
              have zz := (((HZ2.out.put 0 (.int .u64 0)).put 1 (.int .u64 0)).put 2 (.int .u64 0)).put 3 (.int .u64 0)
              have q0 := zz.cell 0
              have q1 := zz.cell 1
              have q2 := zz.cell 2
              have q3 := zz.cell 3
              simp at q0 q1 q2 q3
              refine bodyPost_ret (v := .tuple #[.agg #[.int .u64 0, .int .u64 0, .int .u64 0, .int .u64 0], .int .i64 11]) ?_ rfl ⟨by rw [HVv.out], ?_⟩
              · simp [results, Try.results11, go_sem, q0, q1, q2, q3]
              · exact bel4 HB2.out (by omega)
            · have HVv := Lib.hid (h4 hY0)
              rw [decide_eq_false hY0] at KZ2
              clear h3 h4 hY0
              go_wp2_with fail
              refine (KZ2.out _).mono ?_
              rintro e1 w2 ⟨rfl, hb2⟩
              have hZ2 := HZ.out.after hb2
              have hX2 := HX.out.after hb2
              have hB2 := bel_on HB.out hb2
              have lz := hX2.lt
              have lz' : w.heap.size < w2.heap.size := by omega
              have z0 := hZ2.cell 0
              have z1 := hZ2.cell 1
              have z2 := hZ2.cell 2
              have z3 := hZ2.cell 3
              simp at z0 z1 z2 z3
              have frz := hZ2.free
              have y0 := hX2.cell 0
              have y1 := hX2.cell 1
              have y2 := hX2.cell 2
              have y3 := hX2.cell 3
              simp at y0 y1 y2 y3
              have fry := hX2.free
              have HZ2 := Lib.hid hZ2
              have HB2 := Lib.hid hB2
              clear hZ2 hX2 hB2 hb2 x0 x1 x2 x3 frx lx
              go_wp2_with fail
              have zz := (((HZ2.out.put 0 (.int .u64 (wd Y 0 : Nat))).put 1 (.int .u64 (wd Y 1 : Nat))).put 2 (.int .u64 (wd Y 2 : Nat))).put 3 (.int .u64 (wd Y 3 : Nat))
              have q0 := zz.cell 0
              have q1 := zz.cell 1
              have q2 := zz.cell 2
              have q3 := zz.cell 3
              simp at q0 q1 q2 q3
              refine bodyPost_ret (v := .tuple #[.agg #[.int .u64 (wd Y 0 : Nat), .int .u64 (wd Y 1 : Nat), .int .u64 (wd Y 2 : Nat), .int .u64 (wd Y 3 : Nat)], .int .i64 0]) ?_ rfl ⟨by rw [HVv.out], ?_⟩
              · simp [results, Try.results11, go_sem, q0, q1, q2, q3]
              · exact bel4 HB2.out (by omega)

theorem refExpand_any (c : Nat) (w : World) (hc : c < 4294967296) : Calls Try.prog 11 #[.int .u32 c] w (BRet (.tuple #[.agg #[.int .u64 (wd (xN c) 0 : Nat), .int .u64 (wd (xN c) 1 : Nat), .int .u64 (wd (xN c) 2 : Nat), .int .u64 (wd (xN c) 3 : Nat)], .int .i64 (xE c)]) w) := by
  have hm := manB_lt c
  have hg := good_iff c
  have hbad : badB c = true → (.tuple #[.agg #[.int .u64 (wd (xN c) 0 : Nat), .int .u64 (wd (xN c) 1 : Nat), .int .u64 (wd (xN c) 2 : Nat), .int .u64 (wd (xN c) 3 : Nat)], .int .i64 (xE c)] : Value) = .tuple #[.agg #[.int .u64 0, .int .u64 0, .int .u64 0, .int .u64 0], .int .i64 11] := fun h => by
    unfold xN xE
    rw [if_pos h, if_pos h, lit_zero]
  have hzero : ∀ x, ¬ badB c = true ∨ x → (¬ badB c = false → False) ∨ x := fun x h => by
    rcases h with h | h
    · exact .inl fun h2 => h2 (by simpa using h)
    · exact .inr h
  clear hzero
  have hb : (badB c = false → False) → badB c = true := fun h => by
    cases hh : badB c
    · exact absurd hh h
    · rfl
  refine refExpand_case c (manB c) (expB c) (sgnB c) w (by have := expB_lt hc; omega) hm (by unfold manB; omega) (by unfold expB; omega) ?_ _ ?_ ?_ ?_ ?_
  · unfold sgnB; apply Bool.eq_iff_iff.2; simp; omega
  · intro h1 h2
    exact hbad (hb fun h => (hg.1 h).1 ⟨h2, h1⟩)
  · intro k _ h2 h3
    refine hbad (hb fun h => ?_)
    have h4 := (hg.1 h).2.2.2 (by omega)
    have := grow_mono (m := manB c) (show k + 1 ≤ expB c - 3 by omega)
    omega
  · intro h1 h2 h3
    refine hbad (hb fun h => ?_)
    have h4 := (hg.1 h).2.2.1
    by_cases h5 : 3 ≤ expB c
    · rw [raw_up h5, Nat.mod_eq_of_lt h2] at h4
      rw [show 3 - expB c = 0 from by omega, Nat.pow_zero, Nat.div_one] at h3
      exact h4 h3
    · rw [raw_down (by omega)] at h4
      rw [show expB c - 3 = 0 from by omega, grow_zero] at h3
      exact h4 h3
  · intro h1 h2 h3
    have hgood : badB c = false := by
      refine hg.2 ⟨?_, ?_, ?_, fun _ => h2⟩
      · rintro ⟨h4, h5⟩
        rcases h1 with h1 | h1
        · rw [h1] at h5; cases h5
        · exact h4 h1
      · intro h4
        rw [h4] at h3
        simp [grow] at h3
      · by_cases h5 : 3 ≤ expB c
        · rw [raw_up h5, Nat.mod_eq_of_lt h2]
          rwa [show 3 - expB c = 0 from by omega, Nat.pow_zero, Nat.div_one] at h3
        · rw [raw_down (by omega)]
          rwa [show expB c - 3 = 0 from by omega, grow_zero] at h3
    have hx := (good_val hgood).1
    have he : xE c = 0 := (xE_ok c).2 hgood
    rw [he, hx]
    by_cases h5 : 3 ≤ expB c
    · rw [if_pos h5, show 3 - expB c = 0 from by omega, Nat.pow_zero, Nat.div_one]
    · rw [if_neg h5, show expB c - 3 = 0 from by omega, grow_zero]
end Go.Proofs.Ythmaijmjhfngpaa
