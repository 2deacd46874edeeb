/- Bits that are set anew: the reference's walk. -/
import Derived.Test.YthmaijmjhfngpaaTgK
namespace Go.Proofs.Ythmaijmjhfngpaa
open Go.RowKit

set_option maxRecDepth 100000 in
set_option maxHeartbeats 8000000 in
theorem refNext_bad (c l X Y : Nat) (e f : Int) (t1 t2 : Bool) (S W : Int) (w : World) (hbad : t1 = true ∨ t2 = true ∨ W < 1 ∨ 1152921504606846976 < W) (h1 : (e != 0) = t1) (h2 : (f != 0) = t2)
    (K1 : Hid (∀ w, Calls Try.prog 11 #[.int .u32 c] w (BRet (.tuple #[.agg #[.int .u64 (wd X 0 : Nat), .int .u64 (wd X 1 : Nat), .int .u64 (wd X 2 : Nat), .int .u64 (wd X 3 : Nat)], .int .i64 e]) w)))
    (K2 : Hid (∀ w, Calls Try.prog 11 #[.int .u32 l] w (BRet (.tuple #[.agg #[.int .u64 (wd Y 0 : Nat), .int .u64 (wd Y 1 : Nat), .int .u64 (wd Y 2 : Nat), .int .u64 (wd Y 3 : Nat)], .int .i64 f]) w))) :
    Calls Try.prog 27 #[.int .u32 c, .int .u32 l, .int .i64 S, .int .i64 W] w (BRet (.int .u32 c) w) := by
  cases t1
  · cases t2
    · by_cases h3 : W < 1
      · clear hbad
        go_enter Try.func27, Try.ntmps27
        go_wp2_with fail
        refine (K1.out _).mono ?_
        rintro e w1 ⟨rfl, hb1⟩
        have HB1 := Lib.hid ((show Below w.heap.size w _ from by repeat' (first | exact Below.refl _ _ | refine bel_drewN ?_ _ | refine Below.drew ?_ | refine Below.alloc ?_ ?_ _ | refine Below.setCell ?_ ?_ _ | exact Nat.le_refl _ | (simp; done) | (simp; omega) | assumption)).trans (hb1.mono (by simp <;> omega)))
        clear hb1
        go_wp2_with fail
        refine (K2.out _).mono ?_
        rintro e w2 ⟨rfl, hb2⟩
        have Hx2 := Lib.hid ((show IsBlk _ (w1.heap.size) 25 #[.int .u64 (wd X 0 : Nat), .int .u64 (wd X 1 : Nat), .int .u64 (wd X 2 : Nat), .int .u64 (wd X 3 : Nat)] from (IsBlk.newAt _ _ rfl)).after hb2)
        have HB2 := Lib.hid (bel_on (bel_al HB1.out _) hb2)
        clear hb2
        clear HB1
        go_wp2_with fail
        go_ret
        exact ⟨rfl, (bel_al HB2.out _)⟩
      · have h4 : 1152921504606846976 < W := by rcases hbad with h | h | h | h <;> first | cases h | omega
        clear hbad
        go_enter Try.func27, Try.ntmps27
        go_wp2_with fail
        refine (K1.out _).mono ?_
        rintro e w1 ⟨rfl, hb1⟩
        have HB1 := Lib.hid ((show Below w.heap.size w _ from by repeat' (first | exact Below.refl _ _ | refine bel_drewN ?_ _ | refine Below.drew ?_ | refine Below.alloc ?_ ?_ _ | refine Below.setCell ?_ ?_ _ | exact Nat.le_refl _ | (simp; done) | (simp; omega) | assumption)).trans (hb1.mono (by simp <;> omega)))
        clear hb1
        go_wp2_with fail
        refine (K2.out _).mono ?_
        rintro e w2 ⟨rfl, hb2⟩
        have Hx2 := Lib.hid ((show IsBlk _ (w1.heap.size) 25 #[.int .u64 (wd X 0 : Nat), .int .u64 (wd X 1 : Nat), .int .u64 (wd X 2 : Nat), .int .u64 (wd X 3 : Nat)] from (IsBlk.newAt _ _ rfl)).after hb2)
        have HB2 := Lib.hid (bel_on (bel_al HB1.out _) hb2)
        clear hb2
        clear HB1
        go_wp2_with fail
        go_ret
        exact ⟨rfl, (bel_al HB2.out _)⟩
    · clear hbad
      go_enter Try.func27, Try.ntmps27
      go_wp2_with fail
      refine (K1.out _).mono ?_
      rintro e w1 ⟨rfl, hb1⟩
      have HB1 := Lib.hid ((show Below w.heap.size w _ from by repeat' (first | exact Below.refl _ _ | refine bel_drewN ?_ _ | refine Below.drew ?_ | refine Below.alloc ?_ ?_ _ | refine Below.setCell ?_ ?_ _ | exact Nat.le_refl _ | (simp; done) | (simp; omega) | assumption)).trans (hb1.mono (by simp <;> omega)))
      clear hb1
      go_wp2_with fail
      refine (K2.out _).mono ?_
      rintro e w2 ⟨rfl, hb2⟩
      have Hx2 := Lib.hid ((show IsBlk _ (w1.heap.size) 25 #[.int .u64 (wd X 0 : Nat), .int .u64 (wd X 1 : Nat), .int .u64 (wd X 2 : Nat), .int .u64 (wd X 3 : Nat)] from (IsBlk.newAt _ _ rfl)).after hb2)
      have HB2 := Lib.hid (bel_on (bel_al HB1.out _) hb2)
      clear hb2
      clear HB1
      go_wp2_with fail
      go_ret
      exact ⟨rfl, (bel_al HB2.out _)⟩
  · clear hbad
    go_enter Try.func27, Try.ntmps27
    go_wp2_with fail
    refine (K1.out _).mono ?_
    rintro e w1 ⟨rfl, hb1⟩
    have HB1 := Lib.hid ((show Below w.heap.size w _ from by repeat' (first | exact Below.refl _ _ | refine bel_drewN ?_ _ | refine Below.drew ?_ | refine Below.alloc ?_ ?_ _ | refine Below.setCell ?_ ?_ _ | exact Nat.le_refl _ | (simp; done) | (simp; omega) | assumption)).trans (hb1.mono (by simp <;> omega)))
    clear hb1
    go_wp2_with fail
    refine (K2.out _).mono ?_
    rintro e w2 ⟨rfl, hb2⟩
    have Hx2 := Lib.hid ((show IsBlk _ (w1.heap.size) 25 #[.int .u64 (wd X 0 : Nat), .int .u64 (wd X 1 : Nat), .int .u64 (wd X 2 : Nat), .int .u64 (wd X 3 : Nat)] from (IsBlk.newAt _ _ rfl)).after hb2)
    have HB2 := Lib.hid (bel_on (bel_al HB1.out _) hb2)
    clear hb2
    clear HB1
    go_wp2_with fail
    go_ret
    exact ⟨rfl, (bel_al HB2.out _)⟩

set_option maxRecDepth 100000 in
set_option maxHeartbeats 32000000 in
theorem refNext_good (c l X Y Q r A V B V2 C r2 Su n t v1 v2 : Nat) (ovb more : Bool) (S M : Int) (w : World) (hn1 : (1 : Int) ≤ (n : Int)) (hn2 : (n : Int) ≤ 1152921504606846976) (ht0 : (0 : Int) ≤ (t : Int)) (ht : (t : Int) ≤ 4611686018427387904)
    (hs : (S < (n : Int) / 4 ∧ (n : Int) / 4 = (t : Nat) ∧ ¬ (n : Int) * 4 < (t : Nat)) ∨ (¬ S < (n : Int) / 4 ∧ (n : Int) * 4 < S ∧ (n : Int) * 4 = (t : Nat)) ∨ (S = (t : Nat) ∧ ¬ ((t : Nat) : Int) < (n : Int) / 4 ∧ ¬ (n : Int) * 4 < (t : Nat)))
    (K1 : Hid (∀ w, Calls Try.prog 11 #[.int .u32 c] w (BRet (.tuple #[.agg #[.int .u64 (wd X 0 : Nat), .int .u64 (wd X 1 : Nat), .int .u64 (wd X 2 : Nat), .int .u64 (wd X 3 : Nat)], .int .i64 0]) w)))
    (K2 : Hid (∀ w, Calls Try.prog 11 #[.int .u32 l] w (BRet (.tuple #[.agg #[.int .u64 (wd Y 0 : Nat), .int .u64 (wd Y 1 : Nat), .int .u64 (wd Y 2 : Nat), .int .u64 (wd Y 3 : Nat)], .int .i64 0]) w)))
    (K3 : Hid (∀ w, Calls Try.prog 47 #[.agg #[.int .u64 (wd X 0 : Nat), .int .u64 (wd X 1 : Nat), .int .u64 (wd X 2 : Nat), .int .u64 (wd X 3 : Nat)], .int .u64 n] w (BRet (.tuple #[.agg #[.int .u64 (wd Q 0 : Nat), .int .u64 (wd Q 1 : Nat), .int .u64 (wd Q 2 : Nat), .int .u64 (wd Q 3 : Nat)], .int .u64 r, .int .i64 0]) w)))
    (K4 : Hid (∀ w, Calls Try.prog 32 #[.agg #[.int .u64 (wd Q 0 : Nat), .int .u64 (wd Q 1 : Nat), .int .u64 (wd Q 2 : Nat), .int .u64 (wd Q 3 : Nat)], .int .u64 t] w (BRet (.tuple #[.agg #[.int .u64 (wd A 0 : Nat), .int .u64 (wd A 1 : Nat), .int .u64 (wd A 2 : Nat), .int .u64 (wd A 3 : Nat)], .int .u64 V]) w)))
    (K5 : Hid (∀ w, Calls Try.prog 32 #[.agg #[.int .u64 r, .int .u64 0, .int .u64 0, .int .u64 0], .int .u64 t] w (BRet (.tuple #[.agg #[.int .u64 (wd B 0 : Nat), .int .u64 (wd B 1 : Nat), .int .u64 (wd B 2 : Nat), .int .u64 (wd B 3 : Nat)], .int .u64 V2]) w)))
    (K6 : Hid (∀ w, Calls Try.prog 47 #[.agg #[.int .u64 (wd B 0 : Nat), .int .u64 (wd B 1 : Nat), .int .u64 (wd B 2 : Nat), .int .u64 (wd B 3 : Nat)], .int .u64 n] w (BRet (.tuple #[.agg #[.int .u64 (wd C 0 : Nat), .int .u64 (wd C 1 : Nat), .int .u64 (wd C 2 : Nat), .int .u64 (wd C 3 : Nat)], .int .u64 r2, .int .i64 0]) w)))
    (K7 : Hid (∀ w, Calls Try.prog 39 #[.agg #[.int .u64 (wd A 0 : Nat), .int .u64 (wd A 1 : Nat), .int .u64 (wd A 2 : Nat), .int .u64 (wd A 3 : Nat)], .agg #[.int .u64 (wd C 0 : Nat), .int .u64 (wd C 1 : Nat), .int .u64 (wd C 2 : Nat), .int .u64 (wd C 3 : Nat)]] w (BRet (.tuple #[.agg #[.int .u64 (wd Su 0 : Nat), .int .u64 (wd Su 1 : Nat), .int .u64 (wd Su 2 : Nat), .int .u64 (wd Su 3 : Nat)], .bool more]) w)))
    (K8 : Hid (∀ w, Calls Try.prog 37 #[.agg #[.int .u64 (wd Su 0 : Nat), .int .u64 (wd Su 1 : Nat), .int .u64 (wd Su 2 : Nat), .int .u64 (wd Su 3 : Nat)], .agg #[.int .u64 (wd Y 0 : Nat), .int .u64 (wd Y 1 : Nat), .int .u64 (wd Y 2 : Nat), .int .u64 (wd Y 3 : Nat)]] w (BRet (.int .i64 M) w)))
    (K9 : Hid (∀ w, Calls Try.prog 13 #[.agg #[.int .u64 (wd Y 0 : Nat), .int .u64 (wd Y 1 : Nat), .int .u64 (wd Y 2 : Nat), .int .u64 (wd Y 3 : Nat)]] w (BRet (.int .u32 v1) w)))
    (K10 : Hid (∀ w, Calls Try.prog 13 #[.agg #[.int .u64 (wd Su 0 : Nat), .int .u64 (wd Su 1 : Nat), .int .u64 (wd Su 2 : Nat), .int .u64 (wd Su 3 : Nat)]] w (BRet (.int .u32 v2) w)))
    (ho : (((V : Nat) : Int) != 0) = ovb)
    (v : Nat) (hv : v = if ovb = false ∧ more = false ∧ ¬ 0 < M then v2 else v1) :
    Calls Try.prog 27 #[.int .u32 c, .int .u32 l, .int .i64 S, .int .i64 n] w (BRet (.int .u32 v) w) := by
  have HV := Lib.hid hv
  clear hv
  rcases hs with ⟨a1, a2, a3⟩ | ⟨a1, a2, a3⟩ | ⟨rfl, a2, a3⟩
  all_goals
    go_enter Try.func27, Try.ntmps27
    go_wp2_with fail
    refine (K1.out _).mono ?_
    rintro e w1 ⟨rfl, hb1⟩
    have HB1 := Lib.hid ((show Below w.heap.size w _ from by repeat' (first | exact Below.refl _ _ | refine bel_drewN ?_ _ | refine Below.drew ?_ | refine Below.alloc ?_ ?_ _ | refine Below.setCell ?_ ?_ _ | exact Nat.le_refl _ | (simp; done) | (simp; omega) | assumption)).trans (hb1.mono (by simp <;> omega)))
    clear hb1
    go_wp2_with fail
    refine (K2.out _).mono ?_
    rintro e w2 ⟨rfl, hb2⟩
    have Hx2 := Lib.hid ((show IsBlk _ (w1.heap.size) 25 #[.int .u64 (wd X 0 : Nat), .int .u64 (wd X 1 : Nat), .int .u64 (wd X 2 : Nat), .int .u64 (wd X 3 : Nat)] from (IsBlk.newAt _ _ rfl)).after hb2)
    have HB2 := Lib.hid (bel_on (bel_al HB1.out _) hb2)
    clear hb2
    clear HB1
    have hx := Hx2.out
    have vx0 := hx.cell 0
    have vx1 := hx.cell 1
    have vx2 := hx.cell 2
    have vx3 := hx.cell 3
    simp at vx0 vx1 vx2 vx3
    have frvx := hx.free
    have lvx := hx.lt
    clear hx
    go_wp2_with fail
    refine (K3.out _).mono ?_
    rintro e w3 ⟨rfl, hb3⟩
    have Hy3 := Lib.hid ((show IsBlk _ (w2.heap.size) 25 #[.int .u64 (wd Y 0 : Nat), .int .u64 (wd Y 1 : Nat), .int .u64 (wd Y 2 : Nat), .int .u64 (wd Y 3 : Nat)] from (IsBlk.newAt _ _ rfl)).after hb3)
    have HB3 := Lib.hid (bel_on (bel_al HB2.out _) hb3)
    clear vx0 vx1 vx2 vx3 frvx lvx
    clear hb3
    clear Hx2 HB2
    go_wp2_with fail
    refine (K4.out _).mono ?_
    rintro e w4 ⟨rfl, hb4⟩
    have Hy4 := Lib.hid ((Hy3.out.alloc _).after hb4)
    have HB4 := Lib.hid (bel_on (bel_al HB3.out _) hb4)
    clear hb4
    clear Hy3 HB3
    go_wp2_with fail
    refine (K5.out _).mono ?_
    rintro e w5 ⟨rfl, hb5⟩
    have Hy5 := Lib.hid ((Hy4.out.alloc _).after hb5)
    have Ha5 := Lib.hid ((show IsBlk _ (w4.heap.size) 25 #[.int .u64 (wd A 0 : Nat), .int .u64 (wd A 1 : Nat), .int .u64 (wd A 2 : Nat), .int .u64 (wd A 3 : Nat)] from (IsBlk.newAt _ _ rfl)).after hb5)
    have HB5 := Lib.hid (bel_on (bel_al HB4.out _) hb5)
    clear hb5
    clear Hy4 HB4
    go_wp2_with fail
    refine (K6.out _).mono ?_
    rintro e w6 ⟨rfl, hb6⟩
    have Hy6 := Lib.hid ((Hy5.out.alloc _).after hb6)
    have Ha6 := Lib.hid ((Ha5.out.alloc _).after hb6)
    have HB6 := Lib.hid (bel_on (bel_al HB5.out _) hb6)
    clear hb6
    clear Hy5 Ha5 HB5
    have ha := Ha6.out
    have va0 := ha.cell 0
    have va1 := ha.cell 1
    have va2 := ha.cell 2
    have va3 := ha.cell 3
    simp at va0 va1 va2 va3
    have frva := ha.free
    have lva := ha.lt
    clear ha
    go_wp2_with fail
    refine (K7.out _).mono ?_
    rintro e w7 ⟨rfl, hb7⟩
    have Hy7 := Lib.hid ((Hy6.out.alloc _).after hb7)
    have HB7 := Lib.hid (bel_on (bel_al HB6.out _) hb7)
    clear va0 va1 va2 va3 frva lva
    clear hb7
    clear Hy6 Ha6 HB6
    have hv := HV.out
    clear HV
    cases ovb
    · cases more
      · by_cases hM : 0 < M
        · obtain rfl : v = v1 := by rw [hv]; first | exact if_neg (fun h => absurd h.2.2 (by omega)) | simp [hM]
          clear hv
          have HSZ := Lib.hid HB7.out.size
          have HNE := Lib.hid Hy7.out.lt
          have hy := Hy7.out
          have vy0 := hy.cell 0
          have vy1 := hy.cell 1
          have vy2 := hy.cell 2
          have vy3 := hy.cell 3
          simp at vy0 vy1 vy2 vy3
          have frvy := hy.free
          have lvy := hy.lt
          clear hy
          go_wp2_with fail
          refine (K8.out _).mono ?_
          rintro e w8 ⟨rfl, hb8⟩
          have Hy8 := Lib.hid ((Hy7.out.alloc _).after hb8)
          have Hz8 := Lib.hid ((show IsBlk _ (w7.heap.size) 25 #[.int .u64 (wd Su 0 : Nat), .int .u64 (wd Su 1 : Nat), .int .u64 (wd Su 2 : Nat), .int .u64 (wd Su 3 : Nat)] from (IsBlk.newAt _ _ rfl)).after hb8)
          have HB8 := Lib.hid (bel_on (bel_al HB7.out _) hb8)
          clear vy0 vy1 vy2 vy3 frvy lvy
          clear hb8
          clear Hy7 HB7
          have hz := Hz8.out
          have vz0 := hz.cell 0
          have vz1 := hz.cell 1
          have vz2 := hz.cell 2
          have vz3 := hz.cell 3
          simp at vz0 vz1 vz2 vz3
          have frvz := hz.free
          have lvz := hz.lt
          clear hz
          have hy := Hy8.out
          have vy0 := hy.cell 0
          have vy1 := hy.cell 1
          have vy2 := hy.cell 2
          have vy3 := hy.cell 3
          simp at vy0 vy1 vy2 vy3
          have frvy := hy.free
          have lvy := hy.lt
          clear hy
          have hne : w2.heap.size ≠ w7.heap.size := by have := HNE.out; omega
          go_wp2_with fail
          refine (K9.out _).mono ?_
          rintro e w9 ⟨rfl, hb9⟩
          have HB9 := Lib.hid (bel_on (bel4 (g' := w7.heap.size) (v0 := .int .u64 (wd Y 0 : Nat)) (v1 := .int .u64 (wd Y 1 : Nat)) (v2 := .int .u64 (wd Y 2 : Nat)) (v3 := .int .u64 (wd Y 3 : Nat)) HB8.out HSZ.out) hb9)
          clear hb9
          go_wp2_with fail
          go_ret
          exact ⟨rfl, HB9.out⟩
        · obtain rfl : v = v2 := by rw [hv]; simp [hM]
          clear hv
          have hy := Hy7.out
          have vy0 := hy.cell 0
          have vy1 := hy.cell 1
          have vy2 := hy.cell 2
          have vy3 := hy.cell 3
          simp at vy0 vy1 vy2 vy3
          have frvy := hy.free
          have lvy := hy.lt
          clear hy
          go_wp2_with fail
          refine (K8.out _).mono ?_
          rintro e w8 ⟨rfl, hb8⟩
          have Hy8 := Lib.hid ((Hy7.out.alloc _).after hb8)
          have Hz8 := Lib.hid ((show IsBlk _ (w7.heap.size) 25 #[.int .u64 (wd Su 0 : Nat), .int .u64 (wd Su 1 : Nat), .int .u64 (wd Su 2 : Nat), .int .u64 (wd Su 3 : Nat)] from (IsBlk.newAt _ _ rfl)).after hb8)
          have HB8 := Lib.hid (bel_on (bel_al HB7.out _) hb8)
          clear vy0 vy1 vy2 vy3 frvy lvy
          clear hb8
          clear Hy7 HB7
          have hz := Hz8.out
          have vz0 := hz.cell 0
          have vz1 := hz.cell 1
          have vz2 := hz.cell 2
          have vz3 := hz.cell 3
          simp at vz0 vz1 vz2 vz3
          have frvz := hz.free
          have lvz := hz.lt
          clear hz
          go_wp2_with fail
          refine (K10.out _).mono ?_
          rintro e w9 ⟨rfl, hb9⟩
          have Hy9 := Lib.hid (Hy8.out.after hb9)
          have Hz9 := Lib.hid (Hz8.out.after hb9)
          have HB9 := Lib.hid (bel_on HB8.out hb9)
          clear vz0 vz1 vz2 vz3 frvz lvz
          clear hb9
          clear Hy8 Hz8 HB8
          go_wp2_with fail
          go_ret
          exact ⟨rfl, HB9.out⟩
      · obtain rfl : v = v1 := by rw [hv]; simp
        clear hv
        have hy := Hy7.out
        have vy0 := hy.cell 0
        have vy1 := hy.cell 1
        have vy2 := hy.cell 2
        have vy3 := hy.cell 3
        simp at vy0 vy1 vy2 vy3
        have frvy := hy.free
        have lvy := hy.lt
        clear hy
        go_wp2_with fail
        refine (K9.out _).mono ?_
        rintro e w8 ⟨rfl, hb8⟩
        have Hy8 := Lib.hid ((Hy7.out.alloc _).after hb8)
        have Hz8 := Lib.hid ((show IsBlk _ (w7.heap.size) 25 #[.int .u64 (wd Y 0 : Nat), .int .u64 (wd Y 1 : Nat), .int .u64 (wd Y 2 : Nat), .int .u64 (wd Y 3 : Nat)] from (IsBlk.newAt _ _ rfl)).after hb8)
        have HB8 := Lib.hid (bel_on (bel_al HB7.out _) hb8)
        clear vy0 vy1 vy2 vy3 frvy lvy
        clear hb8
        clear Hy7 HB7
        go_wp2_with fail
        go_ret
        exact ⟨rfl, HB8.out⟩
    · obtain rfl : v = v1 := by rw [hv]; simp
      clear hv
      have hy := Hy7.out
      have vy0 := hy.cell 0
      have vy1 := hy.cell 1
      have vy2 := hy.cell 2
      have vy3 := hy.cell 3
      simp at vy0 vy1 vy2 vy3
      have frvy := hy.free
      have lvy := hy.lt
      clear hy
      go_wp2_with fail
      refine (K9.out _).mono ?_
      rintro e w8 ⟨rfl, hb8⟩
      have Hy8 := Lib.hid ((Hy7.out.alloc _).after hb8)
      have Hz8 := Lib.hid ((show IsBlk _ (w7.heap.size) 25 #[.int .u64 (wd Y 0 : Nat), .int .u64 (wd Y 1 : Nat), .int .u64 (wd Y 2 : Nat), .int .u64 (wd Y 3 : Nat)] from (IsBlk.newAt _ _ rfl)).after hb8)
      have HB8 := Lib.hid (bel_on (bel_al HB7.out _) hb8)
      clear vy0 vy1 vy2 vy3 frvy lvy
      clear hb8
      clear Hy7 HB7
      go_wp2_with fail
      go_ret
      exact ⟨rfl, HB8.out⟩

theorem parts_next {T t n : Nat} (hn : 0 < n) : T * t / n = T / n * t + T % n * t / n := by
  have h := Nat.div_add_mod T n
  have e : T * t = T % n * t + n * (T / n * t) := by
    conv => lhs; rw [← h]
    rw [Nat.add_mul, Nat.add_comm, Nat.mul_assoc]
  rw [e, Nat.add_mul_div_left _ _ hn, Nat.add_comm]
theorem refNext_any (c l : Nat) (S W : Int) (w : World) (hc : c < 4294967296) (hl : l < 4294967296) :
    Calls Try.prog 27 #[.int .u32 c, .int .u32 l, .int .i64 S, .int .i64 W] w (BRet (.int .u32 (nextN c l S W : Nat)) w) := by
  by_cases hb : (badB c || badB l || decide (W < 1) || decide (1152921504606846976 < W)) = true
  · have e : nextN c l S W = c := by unfold nextN; rw [if_pos hb]
    rw [e]
    refine refNext_bad c l (xN c) (xN l) (xE c) (xE l) _ _ S W w ?_ (xE_ne c) (xE_ne l) (Lib.hid fun w => refExpand_any c w hc) (Lib.hid fun w => refExpand_any l w hl)
    simp only [Bool.or_eq_true, decide_eq_true_eq] at hb
    rcases hb with ((h | h) | h) | h
    · exact .inl h
    · exact .inr (.inl h)
    · exact .inr (.inr (.inl h))
    · exact .inr (.inr (.inr h))
  · have e : nextN c l S W = cN (min (xN c * spanN S W.toNat / W.toNat) (xN l)) := by unfold nextN; rw [if_neg hb]
    rw [e]
    simp only [Bool.or_eq_true, decide_eq_true_eq, not_or] at hb
    obtain ⟨⟨⟨h1, h2⟩, h3⟩, h4⟩ := hb
    have h1' : badB c = false := by simpa using h1
    have h2' : badB l = false := by simpa using h2
    obtain ⟨n, rfl⟩ := Int.eq_ofNat_of_zero_le (show 0 ≤ W by omega)
    rw [Int.toNat_natCast]
    have hsp := spanN_le S n
    have hsg := spanN_ge S n
    have hX := xN_lt c
    have hY := xN_lt l
    have hx1 : ∀ w, Calls Try.prog 11 #[.int .u32 c] w (BRet (.tuple #[.agg #[.int .u64 (wd (xN c) 0 : Nat), .int .u64 (wd (xN c) 1 : Nat), .int .u64 (wd (xN c) 2 : Nat), .int .u64 (wd (xN c) 3 : Nat)], .int .i64 0]) w) := fun w => by
      have := refExpand_any c w hc
      rwa [(xE_ok c).2 h1'] at this
    have hx2 : ∀ w, Calls Try.prog 11 #[.int .u32 l] w (BRet (.tuple #[.agg #[.int .u64 (wd (xN l) 0 : Nat), .int .u64 (wd (xN l) 1 : Nat), .int .u64 (wd (xN l) 2 : Nat), .int .u64 (wd (xN l) 3 : Nat)], .int .i64 0]) w) := fun w => by
      have := refExpand_any l w hl
      rwa [(xE_ok l).2 h2'] at this
    have hscase : (S < (n : Int) / 4 ∧ (n : Int) / 4 = ((spanN S n : Nat) : Int) ∧ ¬ (n : Int) * 4 < ((spanN S n : Nat) : Int)) ∨ (¬ S < (n : Int) / 4 ∧ (n : Int) * 4 < S ∧ (n : Int) * 4 = ((spanN S n : Nat) : Int)) ∨ (S = ((spanN S n : Nat) : Int) ∧ ¬ ((spanN S n : Nat) : Int) < (n : Int) / 4 ∧ ¬ (n : Int) * 4 < ((spanN S n : Nat) : Int)) := by
      unfold spanN
      omega
    have hnp : 0 < n := by omega
    have hparts := parts_next (T := xN c) (t := spanN S n) hnp
    generalize xN c = T at *
    generalize xN l = L at *
    generalize spanN S n = t at *
    have hr : T % n < n := Nat.mod_lt _ hnp
    have hQ : T / n < w256 := Nat.lt_of_le_of_lt (Nat.div_le_self _ _) hX
    have hrt : T % n * t < 1152921504606846976 * 18446744073709551616 := by
      refine Nat.lt_of_le_of_lt (Nat.mul_le_mul (Nat.le_of_lt hr) (Nat.le_refl t)) ?_
      exact Nat.mul_lt_mul_of_le_of_lt (by omega) (by omega) (by omega)
    have hB : T % n * t < w256 := by rw [w256_eq]; omega
    have hBm : mulN (T % n) t = T % n * t := Nat.mod_eq_of_lt hB
    have hC : T % n * t / n < w256 := Nat.lt_of_le_of_lt (Nat.div_le_self _ _) hB
    have hA := mulN_lt (T / n) t
    have hSl := addN_lt (mulN (T / n) t) (T % n * t / n)
    have hM := cmp_pos (addN (mulN (T / n) t) (T % n * t / n)) L
    rw [decide_eq_decide] at hM
    refine refNext_good c l T L (T / n) (T % n) (mulN (T / n) t) (mulOv (T / n) t) (T % n * t) (mulOv (T % n) t) (T % n * t / n) (T % n * t % n) (addN (mulN (T / n) t) (T % n * t / n)) n t (cN L) (cN (addN (mulN (T / n) t) (T % n * t / n)))
      (decide (mulOv (T / n) t ≠ 0)) (addOv (mulN (T / n) t) (T % n * t / n)) S (cmpN (addN (mulN (T / n) t) (T % n * t / n)) L) w (by omega) (by omega) (by omega) (by omega) hscase (Lib.hid hx1) (Lib.hid hx2)
      (Lib.hid fun w => refDiv_any T n w hX (by omega) hnp) (Lib.hid fun w => refMul_any _ t w hQ (by omega)) (Lib.hid fun w => ?_) (Lib.hid fun w => refDiv_any _ n w hB (by omega) hnp) (Lib.hid fun w => refAdd_any _ _ w hA hC) (Lib.hid fun w => refCmp_any _ _ w hSl hY)
      (Lib.hid fun w => refCompact_any _ w hY) (Lib.hid fun w => refCompact_any _ w hSl) (by apply Bool.eq_iff_iff.2; simp) _ ?_
    · have := refMul_any (T % n) t w (small_lt (by omega)) (by omega)
      rwa [hBm, small_words (n := T % n) (by omega)] at this
    · rw [hparts]
      by_cases ho : mulOv (T / n) t = 0
      · have hAe : mulN (T / n) t = T / n * t := by
          have h5 : T / n * t / w256 = 0 := ho
          have h6 : T / n * t < w256 := by
            rcases Nat.lt_or_ge (T / n * t) w256 with h | h
            · exact h
            · have := Nat.div_le_div_right (c := w256) h
              rw [Nat.div_self (by rw [w256_eq]; decide)] at this; omega
          exact Nat.mod_eq_of_lt h6
        rw [hAe] at hM ⊢
        by_cases hov : w256 ≤ T / n * t + T % n * t / n
        · rw [if_neg (by unfold addOv; simp [hov]), Nat.min_eq_right (by omega)]
        · have hS : addN (T / n * t) (T % n * t / n) = T / n * t + T % n * t / n := Nat.mod_eq_of_lt (by omega)
          rw [hS] at hM ⊢
          have hovf : addOv (T / n * t) (T % n * t / n) = false := by unfold addOv; exact decide_eq_false hov
          by_cases h5 : L < T / n * t + T % n * t / n
          · rw [if_neg (by rw [hM]; omega), Nat.min_eq_right (by omega)]
          · rw [if_pos ⟨by simp [ho], hovf, by rw [hM]; exact h5⟩, Nat.min_eq_left (by omega)]
      · rw [if_neg (by simp [ho]), Nat.min_eq_right ?_]
        have h6 : w256 ≤ T / n * t := by
          rcases Nat.lt_or_ge (T / n * t) w256 with h | h
          · exact absurd (Nat.div_eq_of_lt h) ho
          · exact h
        exact Nat.le_trans (Nat.le_of_lt (Nat.lt_of_lt_of_le hY h6)) (Nat.le_add_right _ _)

/-! ### The law -/
theorem wf_i64' {x : Int} (h : (Lit.int .i64 x).wf = true) : -9223372036854775808 ≤ x ∧ x ≤ 9223372036854775807 := wf_i64 h
set_option maxRecDepth 100000 in
set_option maxHeartbeats 8000000 in
theorem tnext_case (c l v : Nat) (S W : Int) (w : World)
    (K1 : Hid (∀ w, Calls Try.prog 26 #[.int .u32 c, .int .u32 l, .int .i64 S, .int .i64 W] w (BRet (.int .u32 v) w)))
    (K2 : Hid (∀ w, Calls Try.prog 27 #[.int .u32 c, .int .u32 l, .int .i64 S, .int .i64 W] w (BRet (.int .u32 v) w)))
    (AW : Hid (∀ w, Calls Try.prog 14 #[] w (BRet (.bool true) w))) :
    Calls Try.prog 7 #[.agg #[.int .u32 c, .int .u32 l], .int .i64 S, .int .i64 W] w (BRet (.bool true) w) := by
  go_enter Try.func7, Try.ntmps7
  go_wp2_with fail
  refine wp_region_seq (S := fun w' => (w'.cell? ⟨w.heap.size, 0, none⟩ = some (.int .u32 c) ∧ w'.cell? ⟨w.heap.size, 1, none⟩ = some (.int .u32 l)) ∧ Below w.heap.size w w') (by kernel_rfl) (by kernel_rfl)
    ⟨by have hx := (show IsBlk _ w.heap.size 51 #[.int .u32 (c : Nat), .int .u32 (l : Nat)] from (IsBlk.newAt (w := w) _ _ rfl).drew); exact ⟨hx.cell 0, hx.cell 1⟩, by repeat' (first | exact Below.refl _ _ | refine bel_drewN ?_ _ | refine Below.drew ?_ | refine Below.alloc ?_ ?_ _ | refine Below.setCell ?_ ?_ _ | exact Nat.le_refl _ | (simp; done) | (simp; omega) | assumption)⟩ ?_
  have HST := Lib.hid (show ∀ w1' w2', ((w1'.cell? ⟨w.heap.size, 0, none⟩ = some (.int .u32 c) ∧ w1'.cell? ⟨w.heap.size, 1, none⟩ = some (.int .u32 l)) ∧ Below w.heap.size w w1') → Below w1'.heap.size w1' w2' → ((w2'.cell? ⟨w.heap.size, 0, none⟩ = some (.int .u32 c) ∧ w2'.cell? ⟨w.heap.size, 1, none⟩ = some (.int .u32 l)) ∧ Below w.heap.size w w2') from fun _ _ h hb => ⟨⟨cell_later hb h.1.1, cell_later hb h.1.2⟩, bel_on h.2 hb⟩)
  generalize hgw : w.heap.size = gw at *
  have HGW := Lib.hid hgw
  clear hgw
  repeat (first
    | (refine SeqS.skip ?_ ?_; rfl; (try simp only [Act.put, List.setIfInBounds_toArray, List.set_cons_zero, List.set_cons_succ]))
    | (fail; (try simp only [Act.put, List.setIfInBounds_toArray, List.set_cons_zero, List.set_cons_succ]))
    | (refine SeqS.take (v := ?_) ?_ ?_ ?_; rotate_left; rfl; (intro w hS; skip; go_simp; with_reducible rfl); (try simp only [Act.put, List.setIfInBounds_toArray, List.set_cons_zero, List.set_cons_succ]))
    | (refine SeqS.call (v := ?_) (f := ?_) (args := ?_) ?_ ?_ ?_ ?_; rotate_left 3; rfl; (intro w hS; skip; go_simp; (first | with_reducible rfl | (refine ⟨?_, ?_⟩ <;> with_reducible rfl))); (intro w hS; first | ((with_reducible refine (K1.out _).mono ?_); rintro e w' ⟨rfl, hb⟩; refine ⟨?_, HST.out _ _ hS hb⟩; with_reducible rfl) | ((with_reducible refine (K2.out _).mono ?_); rintro e w' ⟨rfl, hb⟩; refine ⟨?_, HST.out _ _ hS hb⟩; with_reducible rfl) | ((with_reducible refine (AW.out _).mono ?_); rintro e w' ⟨rfl, hb⟩; refine ⟨?_, HST.out _ _ hS hb⟩; with_reducible rfl)); (try simp only [Act.put, List.setIfInBounds_toArray, List.set_cons_zero, List.set_cons_succ])))
  refine SeqS.done ?_
  rintro wz ⟨_, hbz⟩
  go_wp2_with fail
  go_ret
  exact ⟨rfl, by rw [HGW.out]; exact hbz⟩
theorem in_two {H : Type} {enc : TypeId × Value → H} {W : World} {v : Value} {d : DataW H} {p : List MemPlace} {base : Nat} (h : DataW.Trod enc Try.prog W 0 (fun _ => true) true 51 v d p) (o : Value.okWide Try.prog W .any base 51 v) :
    ∃ a b : Nat, a < 4294967296 ∧ b < 4294967296 ∧ v = .agg #[.int .u32 a, .int .u32 b] := by
  obtain ⟨zs, hl, rfl, hz⟩ := in_array Try.underlying51 Try.underlying22 (by kernel_rfl) (by kernel_rfl) h o
  match zs, hl with
  | [z0, z1], _ =>
    obtain ⟨a, rfl, ha⟩ := u32_nat (hz z0 (by simp))
    obtain ⟨b, rfl, hb⟩ := u32_nat (hz z1 (by simp))
    exact ⟨a, b, ha, hb, rfl⟩
theorem law_TargetNext {H : Type} {enc : TypeId × Value → H} (W : World) (base : Nat) (v0 v1 v2 : Value) (d0 d1 d2 : DataW H) (p0 p1 p2 : List MemPlace)
    (h0 : DataW.Trod enc Try.prog W 0 (fun _ => true) true 51 v0 d0 p0) (h1 : DataW.Trod enc Try.prog W 0 (fun _ => true) true 2 v1 d1 p1) (h2 : DataW.Trod enc Try.prog W 0 (fun _ => true) true 2 v2 d2 p2)
    (o0 : Value.okWide Try.prog W .any base 51 v0) (o1 : Value.okWide Try.prog W .any base 2 v1) (o2 : Value.okWide Try.prog W .any base 2 v2) :
    Calls Try.prog 7 #[v0, v1, v2] W fun e w' => e = .returned (.bool true) ∧ Below W.heap.size W w' := by
  obtain ⟨c, l, hc, hl, rfl⟩ := in_two h0 o0
  obtain ⟨S, rfl, hS⟩ := in_int Try.underlying2 h1 o1
  obtain ⟨X, rfl, hX⟩ := in_int Try.underlying2 h2 o2
  have hs := wf_i64 hS
  exact tnext_case c l _ S X W (Lib.hid fun w => next_any c l S X w hc hl hs.1 hs.2) (Lib.hid fun w => refNext_any c l S X w hc hl) (Lib.hid works_any)
end Go.Proofs.Ythmaijmjhfngpaa
