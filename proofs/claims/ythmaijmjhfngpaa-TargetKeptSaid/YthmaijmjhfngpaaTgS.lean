/- The law of what is kept, joined. -/
import Derived.Test.YthmaijmjhfngpaaTgR
namespace Go.Proofs.Ythmaijmjhfngpaa
open Go.RowKit

theorem cmp_leq (a b : Nat) : cmpN a b ≤ 0 ↔ a ≤ b := by
  have := cmp_pos a b
  rw [decide_eq_decide] at this
  omega
theorem cmp_lss (a b : Nat) (h : b ≤ a) : ¬ cmpN a b < 0 := by
  unfold cmpN
  rw [if_neg (by omega)]
  split <;> omega
theorem int_bne {a b : Nat} (h : a ≠ b) : (((a : Nat) : Int) == ((b : Nat) : Int)) = false := by
  rw [beq_eq_false_iff_ne]; omega
theorem kept_walk (c l : Nat) (S W : Int) (w : World) (hc : c < 4294967296) (hl : l < 4294967296) (hS1 : -9223372036854775808 ≤ S) (hS2 : S ≤ 9223372036854775807) :
    Calls Try.prog 9 #[.agg #[.int .u32 (c : Nat), .int .u32 (l : Nat)], .int .i64 S, .int .i64 W] w (BRet (.bool true) w) := by
  by_cases hb : (badB c || badB l || decide (W < 1) || decide (1152921504606846976 < W)) = true
  · have e : nextN c l S W = c := by unfold nextN; rw [if_pos hb]
    simp only [Bool.or_eq_true, decide_eq_true_eq] at hb
    refine kept_bad c l (xN c) (xN l) (xE c) (xE l) (badB c) (badB l) S W w ?_ (xE_ne c) (xE_ne l) (Lib.hid fun w => expand_any c w hc) (Lib.hid fun w => expand_any l w hl) (Lib.hid fun w => by have := next_any c l S W w hc hl hS1 hS2; rwa [e] at this) (Lib.hid works_any)
    rcases hb with ((h | h) | h) | h
    · exact .inl h
    · exact .inr (.inl h)
    · exact .inr (.inr (.inl h))
    · exact .inr (.inr (.inr h))
  · simp only [Bool.or_eq_true, decide_eq_true_eq, not_or] at hb
    obtain ⟨⟨⟨h1, h2⟩, h3⟩, h4⟩ := hb
    have gc : badB c = false := by simpa using h1
    have gl : badB l = false := by simpa using h2
    clear h1 h2
    obtain ⟨n, rfl⟩ := Int.eq_ofNat_of_zero_le (show 0 ≤ W by omega)
    have hn1 : 1 ≤ n := by omega
    have hn2 : n ≤ 1152921504606846976 := by omega
    clear h3 h4
    have e0 := (xE_ok c).2 gc
    have e1 := (xE_ok l).2 gl
    have X1 : ∀ w, Calls Try.prog 10 #[.int .u32 c] w (BRet (.tuple #[.agg #[.int .u64 (wd (xN c) 0 : Nat), .int .u64 (wd (xN c) 1 : Nat), .int .u64 (wd (xN c) 2 : Nat), .int .u64 (wd (xN c) 3 : Nat)], .int .i64 0]) w) := fun w => by
      have := expand_any c w hc; rwa [e0] at this
    have X2 : ∀ w, Calls Try.prog 10 #[.int .u32 l] w (BRet (.tuple #[.agg #[.int .u64 (wd (xN l) 0 : Nat), .int .u64 (wd (xN l) 1 : Nat), .int .u64 (wd (xN l) 2 : Nat), .int .u64 (wd (xN l) 3 : Nat)], .int .i64 0]) w) := fun w => by
      have := expand_any l w hl; rwa [e1] at this
    have hX := xN_lt c
    have hY := xN_lt l
    have hl0 : xN l ≠ 0 := fun h => by rw [xN_zero, gl] at h; cases h
    obtain ⟨m, em, m1, m2, m3, m4, m5⟩ := kept_facts (s := S) gc gl hn1 hn2
    have X3 : ∀ w, Calls Try.prog 26 #[.int .u32 c, .int .u32 l, .int .i64 S, .int .i64 n] w (BRet (.int .u32 (cN m : Nat)) w) := fun w => by
      have := next_any c l S n w hc hl hS1 hS2; rwa [em] at this
    by_cases hm : m = 0
    · subst hm
      rw [cN_zero] at X3
      have hb0 : badB 0 = true := by decide +kernel
      have hz := xE_ne 0
      rw [hb0] at hz
      refine kept_zero c l (xN c) (xN l) (xN 0) (bitsN (xN c)) S n (xE 0) w (by omega) (by omega) hz ?_ (Lib.hid X1) (Lib.hid X2) (Lib.hid X3) (Lib.hid fun w => expand_any 0 w (by decide)) (Lib.hid fun w => bits_any (xN c) w hX) (Lib.hid works_any)
      rcases m4 rfl with h | h
      · exact .inl (by omega)
      · exact .inr (by omega)
    · obtain ⟨gm, xm⟩ := trunc_x m1 hm
      have em0 := (xE_ok (cN m)).2 gm
      have X4 : ∀ w, Calls Try.prog 10 #[.int .u32 (cN m : Nat)] w (BRet (.tuple #[.agg #[.int .u64 (wd (truncN m) 0 : Nat), .int .u64 (wd (truncN m) 1 : Nat), .int .u64 (wd (truncN m) 2 : Nat), .int .u64 (wd (truncN m) 3 : Nat)], .int .i64 0]) w) := fun w => by
        have := expand_any (cN m) w (cN_lt m1); rwa [em0, xm] at this
      have ht := trunc_le m
      have hbw : truncN m < w256 := by omega
      obtain ⟨Q, eQ⟩ : ∃ Q, Q = min (xN c / 4) (xN l) := ⟨_, rfl⟩
      have hQw : Q < w256 := by omega
      have hq : xN c / 4 < w256 := by omega
      have hM3 := cmp_pos (xN c / 4) (xN l)
      rw [decide_eq_decide] at hM3
      have hM1 := cmp_pos (truncN m) (xN l)
      rw [decide_eq_decide] at hM1
      have hM2 := cmp_pos (truncN m) (mulN (xN c) 4)
      rw [decide_eq_decide] at hM2
      refine kept_case c l (xN c) (xN l) (cN m) (truncN m) (mulN (xN c) 4) (xN c / 4) (xN c % 4) Q (cN Q) (xN (cN Q)) S n (mulOv (xN c) 4 : Nat) (xE (cN Q)) (cN (xN c) : Nat) (nextN c l n n : Nat) (cmpN (truncN m) (xN l)) (cmpN (truncN m) (mulN (xN c) 4)) (cmpN (xN c / 4) (xN l)) (cmpN (truncN m) (xN (cN Q))) (cmpN (xN c) (xN l)) w (by omega) (by omega)
        (by rw [hM1]; omega) ?_ ?_ ?_ ?_ (Lib.hid X1) (Lib.hid X2) (Lib.hid X3) (Lib.hid X4) (Lib.hid fun w => cmp_any _ _ w hbw hY) (Lib.hid fun w => mul_any (xN c) 4 w hX (by decide)) (Lib.hid fun w => cmp_any _ _ w hbw (mulN_lt _ _)) (Lib.hid fun w => div_any (xN c) 4 w hX (by decide) (by decide)) (Lib.hid fun w => cmp_any _ _ w hq hY)
        (Lib.hid fun w => compact_any Q w hQw) (Lib.hid fun w => expand_any (cN Q) w (cN_lt hQw)) (Lib.hid fun w => cmp_any _ _ w hbw (xN_lt _)) (Lib.hid fun w => compact_any (xN c) w hX) (Lib.hid fun w => cmp_any _ _ w hX hY) (Lib.hid fun w => next_any c l n n w hc hl (by omega) (by omega)) (Lib.hid works_any)
      · by_cases hov : mulOv (xN c) 4 = 0
        · right
          have hlt : xN c * 4 < w256 := by
            rcases Nat.lt_or_ge (xN c * 4) w256 with h | h
            · exact h
            · have := Nat.div_le_div_right (c := w256) h
              rw [Nat.div_self (by rw [w256_eq]; decide)] at this
              have h9 : xN c * 4 / w256 = 0 := hov
              omega
          have hF : mulN (xN c) 4 = xN c * 4 := Nat.mod_eq_of_lt hlt
          refine ⟨by rw [hov]; rfl, ?_⟩
          rw [hM2, hF]; omega
        · left
          rw [beq_eq_false_iff_ne]; omega
      · by_cases h : xN l < xN c / 4
        · rw [if_pos (hM3.2 h), eQ]; omega
        · rw [if_neg (fun h' => h (hM3.1 h')), eQ]; omega
      · by_cases h4 : n % 4 = 0
        · have h4' : ((n : Nat) : Int) % 4 = 0 := by omega
          right
          have hQm : Q ≤ m := by rw [eQ]; exact m5 h4
          by_cases hQ0 : Q = 0
          · left
            refine ⟨h4', ?_⟩
            rw [hQ0, cN_zero]; decide +kernel
          · right
            obtain ⟨gq, xq⟩ := trunc_x hQw hQ0
            refine ⟨h4', by rw [(xE_ok (cN Q)).2 gq]; rfl, ?_⟩
            rw [xq]
            exact cmp_lss _ _ (trunc_mono hQm)
        · left
          rw [beq_eq_false_iff_ne]; omega
      · by_cases h6 : cN (xN c) = c
        · right
          by_cases h7 : xN c ≤ xN l
          · right
            refine ⟨by rw [h6], (cmp_leq _ _).2 h7, ?_⟩
            rw [kept_same gc gl hn1 hn2 h7 h6]
          · left
            exact ⟨by rw [h6], fun h => h7 ((cmp_leq _ _).1 h)⟩
        · left
          exact int_bne h6
theorem law_TargetKept {H : Type} {enc : TypeId × Value → H} (W : World) (base : Nat) (v0 v1 v2 : Value) (d0 d1 d2 : DataW H) (p0 p1 p2 : List MemPlace)
    (h0 : DataW.Trod enc Try.prog W 0 (fun _ => true) true 51 v0 d0 p0) (h1 : DataW.Trod enc Try.prog W 0 (fun _ => true) true 2 v1 d1 p1) (h2 : DataW.Trod enc Try.prog W 0 (fun _ => true) true 2 v2 d2 p2)
    (o0 : Value.okWide Try.prog W .any base 51 v0) (o1 : Value.okWide Try.prog W .any base 2 v1) (o2 : Value.okWide Try.prog W .any base 2 v2) :
    Calls Try.prog 9 #[v0, v1, v2] W fun e w' => e = .returned (.bool true) ∧ Below W.heap.size W w' := by
  obtain ⟨c, l, hc, hl, rfl⟩ := in_two h0 o0
  obtain ⟨S, rfl, hS⟩ := in_int Try.underlying2 h1 o1
  obtain ⟨X, rfl, hX⟩ := in_int Try.underlying2 h2 o2
  have hs := wf_i64 hS
  exact kept_walk c l S X W hc hl hs.1 hs.2
end Go.Proofs.Ythmaijmjhfngpaa
