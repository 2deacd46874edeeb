/- Bits that are set anew: the program's Next. -/
import Derived.Test.YthmaijmjhfngpaaTgJ
namespace Go.Proofs.Ythmaijmjhfngpaa
open Go.RowKit

/-- The span that is reckoned with. -/
def spanN (s : Int) (n : Nat) : Nat := (min (max s ((n / 4 : Nat) : Int)) ((n * 4 : Nat) : Int)).toNat
theorem spanN_le (s : Int) (n : Nat) : spanN s n ≤ n * 4 := by unfold spanN; omega
theorem spanN_ge (s : Int) (n : Nat) : n / 4 ≤ spanN s n := by unfold spanN; omega
theorem spanN_eq (s : Int) (n : Nat) : min (max s ((n : Int) / 4)) ((n : Int) * 4) = (spanN s n : Nat) := by unfold spanN; omega
/-- What bits are set anew. -/
def nextN (c l : Nat) (s W : Int) : Nat := if badB c || badB l || decide (W < 1) || decide (1152921504606846976 < W) then c else cN (min (xN c * spanN s W.toNat / W.toNat) (xN l))

set_option maxRecDepth 100000 in
set_option maxHeartbeats 8000000 in
theorem next_bad (c l X Y : Nat) (ok : Bool) (S W : Int) (w : World) (hbad : ok = false ∨ W < 1 ∨ 1152921504606846976 < W)
    (K1 : Hid (∀ w, Calls Try.prog 35 #[.int .u32 c, .int .u32 l] w (BRet (.tuple #[.agg #[.int .u64 (wd X 0 : Nat), .int .u64 (wd X 1 : Nat), .int .u64 (wd X 2 : Nat), .int .u64 (wd X 3 : Nat)], .agg #[.int .u64 (wd Y 0 : Nat), .int .u64 (wd Y 1 : Nat), .int .u64 (wd Y 2 : Nat), .int .u64 (wd Y 3 : Nat)], .bool ok]) w)))
 :
    Calls Try.prog 26 #[.int .u32 c, .int .u32 l, .int .i64 S, .int .i64 W] w (BRet (.int .u32 c) w) := by
  cases ok
  · clear hbad
    go_enter Try.func26, Try.ntmps26
    go_wp2_with fail
    refine (K1.out _).mono ?_
    rintro e w1 ⟨rfl, hb1⟩
    have HB1 := Lib.hid ((show Below w.heap.size w _ from by repeat' (first | exact Below.refl _ _ | refine bel_drewN ?_ _ | refine Below.drew ?_ | refine Below.alloc ?_ ?_ _ | refine Below.setCell ?_ ?_ _ | exact Nat.le_refl _ | (simp; done) | (simp; omega) | assumption)).trans (hb1.mono (by simp <;> omega)))
    clear hb1
    go_wp2_with fail
    go_ret
    exact ⟨rfl, (bel_al (bel_al HB1.out _) _)⟩
  · by_cases h1 : W < 1
    · clear hbad
      go_enter Try.func26, Try.ntmps26
      go_wp2_with fail
      refine (K1.out _).mono ?_
      rintro e w1 ⟨rfl, hb1⟩
      have HB1 := Lib.hid ((show Below w.heap.size w _ from by repeat' (first | exact Below.refl _ _ | refine bel_drewN ?_ _ | refine Below.drew ?_ | refine Below.alloc ?_ ?_ _ | refine Below.setCell ?_ ?_ _ | exact Nat.le_refl _ | (simp; done) | (simp; omega) | assumption)).trans (hb1.mono (by simp <;> omega)))
      clear hb1
      go_wp2_with fail
      go_ret
      exact ⟨rfl, (bel_al (bel_al HB1.out _) _)⟩
    · have h2 : 1152921504606846976 < W := by rcases hbad with h | h | h <;> first | cases h | omega
      clear hbad
      go_enter Try.func26, Try.ntmps26
      go_wp2_with fail
      refine (K1.out _).mono ?_
      rintro e w1 ⟨rfl, hb1⟩
      have HB1 := Lib.hid ((show Below w.heap.size w _ from by repeat' (first | exact Below.refl _ _ | refine bel_drewN ?_ _ | refine Below.drew ?_ | refine Below.alloc ?_ ?_ _ | refine Below.setCell ?_ ?_ _ | exact Nat.le_refl _ | (simp; done) | (simp; omega) | assumption)).trans (hb1.mono (by simp <;> omega)))
      clear hb1
      go_wp2_with fail
      go_ret
      exact ⟨rfl, (bel_al (bel_al HB1.out _) _)⟩

set_option maxRecDepth 100000 in
set_option maxHeartbeats 16000000 in
theorem next_good (c l X Y Z n t v1 v2 : Nat) (fits : Bool) (S M : Int) (w : World) (hn1 : (1 : Int) ≤ (n : Int)) (hn2 : (n : Int) ≤ 1152921504606846976) (ht : (t : Int) ≤ 4611686018427387904) (hS1 : -9223372036854775808 ≤ S) (hS2 : S ≤ 9223372036854775807)
    (es : min (max S ((n : Int) / 4)) ((n : Int) * 4) = (t : Nat))
    (K1 : Hid (∀ w, Calls Try.prog 35 #[.int .u32 c, .int .u32 l] w (BRet (.tuple #[.agg #[.int .u64 (wd X 0 : Nat), .int .u64 (wd X 1 : Nat), .int .u64 (wd X 2 : Nat), .int .u64 (wd X 3 : Nat)], .agg #[.int .u64 (wd Y 0 : Nat), .int .u64 (wd Y 1 : Nat), .int .u64 (wd Y 2 : Nat), .int .u64 (wd Y 3 : Nat)], .bool true]) w)))
    (K3 : Hid (∀ w, Calls Try.prog 46 #[.agg #[.int .u64 (wd X 0 : Nat), .int .u64 (wd X 1 : Nat), .int .u64 (wd X 2 : Nat), .int .u64 (wd X 3 : Nat)], .int .u64 t, .int .u64 n] w (BRet (.tuple #[.agg #[.int .u64 (wd Z 0 : Nat), .int .u64 (wd Z 1 : Nat), .int .u64 (wd Z 2 : Nat), .int .u64 (wd Z 3 : Nat)], .bool fits]) w)))
    (K4 : Hid (∀ w, Calls Try.prog 19 #[.agg #[.int .u64 (wd Z 0 : Nat), .int .u64 (wd Z 1 : Nat), .int .u64 (wd Z 2 : Nat), .int .u64 (wd Z 3 : Nat)], .agg #[.int .u64 (wd Y 0 : Nat), .int .u64 (wd Y 1 : Nat), .int .u64 (wd Y 2 : Nat), .int .u64 (wd Y 3 : Nat)]] w (BRet (.int .i64 M) w)))
    (K5 : Hid (∀ w, Calls Try.prog 12 #[.agg #[.int .u64 (wd Y 0 : Nat), .int .u64 (wd Y 1 : Nat), .int .u64 (wd Y 2 : Nat), .int .u64 (wd Y 3 : Nat)]] w (BRet (.int .u32 v1) w)))
    (K6 : Hid (∀ w, Calls Try.prog 12 #[.agg #[.int .u64 (wd Z 0 : Nat), .int .u64 (wd Z 1 : Nat), .int .u64 (wd Z 2 : Nat), .int .u64 (wd Z 3 : Nat)]] w (BRet (.int .u32 v2) w)))
    (v : Nat) (hv : v = if fits = true ∧ ¬ 0 < M then v2 else v1) :
    Calls Try.prog 26 #[.int .u32 c, .int .u32 l, .int .i64 S, .int .i64 n] w (BRet (.int .u32 v) w) := by
  cases fits
  · obtain rfl : v = v1 := by rw [hv]; simp
    clear hv
    go_enter Try.func26, Try.ntmps26
    go_wp2_with fail
    refine (K1.out _).mono ?_
    rintro e w1 ⟨rfl, hb1⟩
    have HB1 := Lib.hid ((show Below w.heap.size w _ from by repeat' (first | exact Below.refl _ _ | refine bel_drewN ?_ _ | refine Below.drew ?_ | refine Below.alloc ?_ ?_ _ | refine Below.setCell ?_ ?_ _ | exact Nat.le_refl _ | (simp; done) | (simp; omega) | assumption)).trans (hb1.mono (by simp <;> omega)))
    clear hb1
    go_wp2_with fail
    refine (K3.out _).mono ?_
    rintro e w2 ⟨rfl, hb2⟩
    have Hy2 := Lib.hid ((show IsBlk _ (w1.heap.size + 1) 25 #[.int .u64 (wd Y 0 : Nat), .int .u64 (wd Y 1 : Nat), .int .u64 (wd Y 2 : Nat), .int .u64 (wd Y 3 : Nat)] from (IsBlk.newAt _ _ (by simp))).after hb2)
    have HB2 := Lib.hid (bel_on (bel_al (bel_al HB1.out _) _) hb2)
    clear hb2
    clear HB1
    have hy := Hy2.out
    have vy0 := hy.cell 0
    have vy1 := hy.cell 1
    have vy2 := hy.cell 2
    have vy3 := hy.cell 3
    simp at vy0 vy1 vy2 vy3
    have frvy := hy.free
    have lvy := hy.lt
    have lvy' : w1.heap.size < w2.heap.size := by have := hy.lt; omega
    clear hy
    go_wp2_with fail
    refine (K5.out _).mono ?_
    rintro e w3 ⟨rfl, hb3⟩
    have Hy3 := Lib.hid ((Hy2.out.alloc _).after hb3)
    have Hz3 := Lib.hid ((show IsBlk _ (w2.heap.size) 25 #[.int .u64 (wd Y 0 : Nat), .int .u64 (wd Y 1 : Nat), .int .u64 (wd Y 2 : Nat), .int .u64 (wd Y 3 : Nat)] from (IsBlk.newAt _ _ rfl)).after hb3)
    have HB3 := Lib.hid (bel_on (bel_al HB2.out _) hb3)
    clear vy0 vy1 vy2 vy3 frvy lvy lvy'
    clear hb3
    clear Hy2 HB2
    go_wp2_with fail
    go_ret
    exact ⟨rfl, HB3.out⟩
  · by_cases hM : 0 < M
    · obtain rfl : v = v1 := by rw [hv]; simp [hM]
      clear hv
      go_enter Try.func26, Try.ntmps26
      go_wp2_with fail
      refine (K1.out _).mono ?_
      rintro e w1 ⟨rfl, hb1⟩
      have HB1 := Lib.hid ((show Below w.heap.size w _ from by repeat' (first | exact Below.refl _ _ | refine bel_drewN ?_ _ | refine Below.drew ?_ | refine Below.alloc ?_ ?_ _ | refine Below.setCell ?_ ?_ _ | exact Nat.le_refl _ | (simp; done) | (simp; omega) | assumption)).trans (hb1.mono (by simp <;> omega)))
      clear hb1
      go_wp2_with fail
      refine (K3.out _).mono ?_
      rintro e w2 ⟨rfl, hb2⟩
      have Hy2 := Lib.hid ((show IsBlk _ (w1.heap.size + 1) 25 #[.int .u64 (wd Y 0 : Nat), .int .u64 (wd Y 1 : Nat), .int .u64 (wd Y 2 : Nat), .int .u64 (wd Y 3 : Nat)] from (IsBlk.newAt _ _ (by simp))).after hb2)
      have HB2 := Lib.hid (bel_on (bel_al (bel_al HB1.out _) _) hb2)
      clear hb2
      clear HB1
      have HSZ := Lib.hid HB2.out.size
      have HNE := Lib.hid Hy2.out.lt
      have hy := Hy2.out
      have vy0 := hy.cell 0
      have vy1 := hy.cell 1
      have vy2 := hy.cell 2
      have vy3 := hy.cell 3
      simp at vy0 vy1 vy2 vy3
      have frvy := hy.free
      have lvy := hy.lt
      have lvy' : w1.heap.size < w2.heap.size := by have := hy.lt; omega
      clear hy
      go_wp2_with fail
      refine (K4.out _).mono ?_
      rintro e w3 ⟨rfl, hb3⟩
      have Hy3 := Lib.hid ((Hy2.out.alloc _).after hb3)
      have Hz3 := Lib.hid ((show IsBlk _ (w2.heap.size) 25 #[.int .u64 (wd Z 0 : Nat), .int .u64 (wd Z 1 : Nat), .int .u64 (wd Z 2 : Nat), .int .u64 (wd Z 3 : Nat)] from (IsBlk.newAt _ _ rfl)).after hb3)
      have HB3 := Lib.hid (bel_on (bel_al HB2.out _) hb3)
      clear vy0 vy1 vy2 vy3 frvy lvy lvy'
      clear hb3
      clear Hy2 HB2
      have hz := Hz3.out
      have vz0 := hz.cell 0
      have vz1 := hz.cell 1
      have vz2 := hz.cell 2
      have vz3 := hz.cell 3
      simp at vz0 vz1 vz2 vz3
      have frvz := hz.free
      have lvz := hz.lt
      clear hz
      have hy := Hy3.out
      have vy0 := hy.cell 0
      have vy1 := hy.cell 1
      have vy2 := hy.cell 2
      have vy3 := hy.cell 3
      simp at vy0 vy1 vy2 vy3
      have frvy := hy.free
      have lvy := hy.lt
      have lvy' : w1.heap.size < w3.heap.size := by have := hy.lt; omega
      clear hy
      have hne : w1.heap.size + 1 ≠ w2.heap.size := by have := HNE.out; omega
      go_wp2_with fail
      refine (K5.out _).mono ?_
      rintro e w4 ⟨rfl, hb4⟩
      have HB4 := Lib.hid (bel_on (bel4 (g' := w2.heap.size) (v0 := .int .u64 (wd Y 0 : Nat)) (v1 := .int .u64 (wd Y 1 : Nat)) (v2 := .int .u64 (wd Y 2 : Nat)) (v3 := .int .u64 (wd Y 3 : Nat)) HB3.out HSZ.out) hb4)
      clear hb4
      go_wp2_with fail
      go_ret
      exact ⟨rfl, HB4.out⟩
    · obtain rfl : v = v2 := by rw [hv]; simp [hM]
      clear hv
      go_enter Try.func26, Try.ntmps26
      go_wp2_with fail
      refine (K1.out _).mono ?_
      rintro e w1 ⟨rfl, hb1⟩
      have HB1 := Lib.hid ((show Below w.heap.size w _ from by repeat' (first | exact Below.refl _ _ | refine bel_drewN ?_ _ | refine Below.drew ?_ | refine Below.alloc ?_ ?_ _ | refine Below.setCell ?_ ?_ _ | exact Nat.le_refl _ | (simp; done) | (simp; omega) | assumption)).trans (hb1.mono (by simp <;> omega)))
      clear hb1
      go_wp2_with fail
      refine (K3.out _).mono ?_
      rintro e w2 ⟨rfl, hb2⟩
      have Hy2 := Lib.hid ((show IsBlk _ (w1.heap.size + 1) 25 #[.int .u64 (wd Y 0 : Nat), .int .u64 (wd Y 1 : Nat), .int .u64 (wd Y 2 : Nat), .int .u64 (wd Y 3 : Nat)] from (IsBlk.newAt _ _ (by simp))).after hb2)
      have HB2 := Lib.hid (bel_on (bel_al (bel_al HB1.out _) _) hb2)
      clear hb2
      clear HB1
      have hy := Hy2.out
      have vy0 := hy.cell 0
      have vy1 := hy.cell 1
      have vy2 := hy.cell 2
      have vy3 := hy.cell 3
      simp at vy0 vy1 vy2 vy3
      have frvy := hy.free
      have lvy := hy.lt
      have lvy' : w1.heap.size < w2.heap.size := by have := hy.lt; omega
      clear hy
      go_wp2_with fail
      refine (K4.out _).mono ?_
      rintro e w3 ⟨rfl, hb3⟩
      have Hy3 := Lib.hid ((Hy2.out.alloc _).after hb3)
      have Hz3 := Lib.hid ((show IsBlk _ (w2.heap.size) 25 #[.int .u64 (wd Z 0 : Nat), .int .u64 (wd Z 1 : Nat), .int .u64 (wd Z 2 : Nat), .int .u64 (wd Z 3 : Nat)] from (IsBlk.newAt _ _ rfl)).after hb3)
      have HB3 := Lib.hid (bel_on (bel_al HB2.out _) hb3)
      clear vy0 vy1 vy2 vy3 frvy lvy lvy'
      clear hb3
      clear Hy2 HB2
      have hz := Hz3.out
      have vz0 := hz.cell 0
      have vz1 := hz.cell 1
      have vz2 := hz.cell 2
      have vz3 := hz.cell 3
      simp at vz0 vz1 vz2 vz3
      have frvz := hz.free
      have lvz := hz.lt
      clear hz
      go_wp2_with fail
      refine (K6.out _).mono ?_
      rintro e w4 ⟨rfl, hb4⟩
      have Hy4 := Lib.hid (Hy3.out.after hb4)
      have Hz4 := Lib.hid (Hz3.out.after hb4)
      have HB4 := Lib.hid (bel_on HB3.out hb4)
      clear vz0 vz1 vz2 vz3 frvz lvz
      clear hb4
      clear Hy3 Hz3 HB3
      go_wp2_with fail
      go_ret
      exact ⟨rfl, HB4.out⟩

theorem next_any (c l : Nat) (S W : Int) (w : World) (hc : c < 4294967296) (hl : l < 4294967296) (hS1 : -9223372036854775808 ≤ S) (hS2 : S ≤ 9223372036854775807) :
    Calls Try.prog 26 #[.int .u32 c, .int .u32 l, .int .i64 S, .int .i64 W] w (BRet (.int .u32 (nextN c l S W : Nat)) w) := by
  by_cases hb : (badB c || badB l || decide (W < 1) || decide (1152921504606846976 < W)) = true
  · have e : nextN c l S W = c := by unfold nextN; rw [if_pos hb]
    rw [e]
    refine next_bad c l (xN c) (xN l) (!badB c && !badB l) S W w ?_ (Lib.hid fun w => pair_any c l w hc hl)
    simp only [Bool.or_eq_true, decide_eq_true_eq] at hb
    rcases hb with ((h | h) | h) | h
    · exact .inl (by rw [h]; rfl)
    · exact .inl (by rw [h]; simp)
    · exact .inr (.inl h)
    · exact .inr (.inr h)
  · have e : nextN c l S W = cN (min (xN c * spanN S W.toNat / W.toNat) (xN l)) := by unfold nextN; rw [if_neg hb]
    rw [e]
    simp only [Bool.or_eq_true, decide_eq_true_eq, not_or] at hb
    obtain ⟨⟨⟨h1, h2⟩, h3⟩, h4⟩ := hb
    have h1' : badB c = false := by simpa using h1
    have h2' : badB l = false := by simpa using h2
    obtain ⟨n, rfl⟩ := Int.eq_ofNat_of_zero_le (show 0 ≤ W by omega)
    rw [Int.toNat_natCast]
    have hsp := spanN_le S n
    have hX := xN_lt c
    have hY := xN_lt l
    have hp : ∀ w, Calls Try.prog 35 #[.int .u32 c, .int .u32 l] w (BRet (.tuple #[.agg #[.int .u64 (wd (xN c) 0 : Nat), .int .u64 (wd (xN c) 1 : Nat), .int .u64 (wd (xN c) 2 : Nat), .int .u64 (wd (xN c) 3 : Nat)], .agg #[.int .u64 (wd (xN l) 0 : Nat), .int .u64 (wd (xN l) 1 : Nat), .int .u64 (wd (xN l) 2 : Nat), .int .u64 (wd (xN l) 3 : Nat)], .bool true]) w) := fun w => by
      have := pair_any c l w hc hl
      rwa [h1', h2'] at this
    have hsc := fun w => scaled_any (xN c) (spanN S n) n w hX (by omega) (by omega) (by omega)
    by_cases hfit : xN c * spanN S n / n < w256
    · have hM := cmp_pos (xN c * spanN S n / n) (xN l)
      rw [decide_eq_decide] at hM
      refine next_good c l (xN c) (xN l) (xN c * spanN S n / n) n (spanN S n) (cN (xN l)) (cN (xN c * spanN S n / n)) true S (cmpN (xN c * spanN S n / n) (xN l)) w (by omega) (by omega) (by omega) hS1 hS2 (spanN_eq S n) (Lib.hid hp)
        (Lib.hid fun w => by have := hsc w; rwa [if_pos hfit] at this) (Lib.hid fun w => cmp_any _ _ w hfit hY) (Lib.hid fun w => compact_any _ w hY) (Lib.hid fun w => compact_any _ w hfit) _ ?_
      by_cases h5 : xN l < xN c * spanN S n / n
      · rw [if_neg (by rw [hM]; omega), Nat.min_eq_right (by omega)]
      · rw [if_pos (by rw [hM]; exact ⟨rfl, h5⟩), Nat.min_eq_left (by omega)]
    · refine next_good c l (xN c) (xN l) 0 n (spanN S n) (cN (xN l)) (cN 0) false S (cmpN 0 (xN l)) w (by omega) (by omega) (by omega) hS1 hS2 (spanN_eq S n) (Lib.hid hp)
        (Lib.hid fun w => by have := hsc w; rwa [if_neg hfit, ← lit_zero] at this) (Lib.hid fun w => cmp_any _ _ w (by rw [w256_eq]; decide) hY) (Lib.hid fun w => compact_any _ w hY) (Lib.hid fun w => compact_any _ w (by rw [w256_eq]; decide)) _ ?_
      rw [if_neg (by simp), Nat.min_eq_right (by omega)]
end Go.Proofs.Ythmaijmjhfngpaa
