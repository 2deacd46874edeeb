/- Two words divided by one: bits.Div64, walked. -/
import Derived.Test.YthmaijmjhfngpaaWideB
import Derived.Test.YthmaijmjhfngpaaWideDq
namespace Go.Proofs.Ythmaijmjhfngpaa
open Go.RowKit

set_option maxRecDepth 100000 in
set_option maxHeartbeats 2000000 in
theorem div64_low (lo y : Nat) (w : World) (hy : 0 < y) (hy2 : y < 18446744073709551616) (hl : lo < 18446744073709551616) :
    Calls Try.prog 49 #[.int .u64 0, .int .u64 lo, .int .u64 y] w fun e w' => e = .returned (.tuple #[.int .u64 ((lo / y : Nat) : Int), .int .u64 ((lo % y : Nat) : Int)]) ∧ ∃ n, w' = w.drewN n := by
  have t0 : ((y : Int) == 0) = false := by simp; omega
  have t1 : decide ((y : Int) ≤ 0) = false := by simp; omega
  have t2 : (y : Int) ≠ 0 := by omega
  have e1 : IntKind.u64.wrap ((lo : Int) / (y : Int)) = ((lo / y : Nat) : Int) := by
    rw [← Int.natCast_ediv]
    have h := Nat.div_le_self lo y
    generalize lo / y = q at h ⊢
    exact IntWalk.u64_in _ (by omega)
  have e2 : ((lo : Int) % (y : Int)) = ((lo % y : Nat) : Int) := (Int.natCast_emod lo y).symm
  generalize lo / y = q at *
  generalize lo % y = r at *
  go_enter Try.func49, Try.ntmps49
  go_wp2_with fail
  go_quiet (fail)
  go_wp2_with fail
  go_ret2
  refine ⟨?_, _, rfl⟩
  show Ending.returned (.tuple #[.int .u64 (q : Nat), .int .u64 ((lo : Int) % (y : Int))]) = _
  rw [e2]

set_option maxRecDepth 100000 in
set_option maxHeartbeats 4000000 in
theorem div64_walk (hi lo y s D d e u L c1 c0 q0 M0 r0 Q1 U1 U2 U3 R1 q2 M2 r2 Q0 V1 V2 V3 V4 R0 Q R : Nat) (w : World) (hs : s < 64) (hh : 0 < hi) (hhy : hi < y)
    (LZ : Hid (∀ w, Calls Try.prog 58 #[.int .u64 y] w fun e w' => e = .returned (.int .i64 (s : Nat)) ∧ w = w'))
    (eD : IntKind.u64.wrap ((y : Int) * 2 ^ s) = (D : Nat)) (e1 : (D : Int) / 4294967296 = (d : Nat)) (e2 : bits .and .u64 (D : Nat) 4294967295 = (e : Nat)) (td : (d : Int) ≠ 0)
    (e3 : bits .or .u64 (IntKind.u64.wrap ((hi : Int) * 2 ^ s)) ((lo : Int) / 2 ^ (64 - s)) = (u : Nat)) (e4 : IntKind.u64.wrap ((lo : Int) * 2 ^ s) = (L : Nat))
    (e5 : (L : Int) / 4294967296 = (c1 : Nat)) (e6 : bits .and .u64 (L : Nat) 4294967295 = (c0 : Nat))
    (e7 : IntKind.u64.wrap ((u : Int) / (d : Int)) = (q0 : Nat)) (e8 : IntKind.u64.wrap ((q0 : Int) * (d : Int)) = (M0 : Nat)) (e9 : IntKind.u64.wrap ((u : Int) - (M0 : Int)) = (r0 : Nat))
    (H : Hid (Halves D d e)) (HU : Hid (u < D ∧ c1 < 4294967296)) (G1 : Hid (Guess D d u c1 q0 r0 ∧ r0 < 4294967296)) (HQ1 : Hid ((u * 4294967296 + c1) / D = Q1))
    (f1 : IntKind.u64.wrap ((u : Int) * 4294967296) = (U1 : Nat)) (f2 : IntKind.u64.wrap ((U1 : Int) + c1) = (U2 : Nat)) (f3 : IntKind.u64.wrap ((Q1 : Int) * (D : Int)) = (U3 : Nat)) (f4 : IntKind.u64.wrap ((U2 : Int) - U3) = (R1 : Nat))
    (f5 : IntKind.u64.wrap ((R1 : Int) / (d : Int)) = (q2 : Nat)) (f6 : IntKind.u64.wrap ((q2 : Int) * (d : Int)) = (M2 : Nat)) (f7 : IntKind.u64.wrap ((R1 : Int) - (M2 : Int)) = (r2 : Nat))
    (HV : Hid (R1 < D ∧ c0 < 4294967296)) (G2 : Hid (Guess D d R1 c0 q2 r2 ∧ r2 < 4294967296)) (HQ0 : Hid ((R1 * 4294967296 + c0) / D = Q0))
    (g1 : IntKind.u64.wrap ((Q1 : Int) * 4294967296) = (V1 : Nat)) (g2 : IntKind.u64.wrap ((V1 : Int) + Q0) = (Q : Nat)) (g3 : IntKind.u64.wrap ((R1 : Int) * 4294967296) = (V2 : Nat)) (g4 : IntKind.u64.wrap ((V2 : Int) + c0) = (V3 : Nat))
    (g5 : IntKind.u64.wrap ((Q0 : Int) * (D : Int)) = (V4 : Nat)) (g6 : IntKind.u64.wrap ((V3 : Int) - V4) = (R0 : Nat)) (g7 : (R0 : Int) / 2 ^ s = (R : Nat)) :
    Calls Try.prog 49 #[.int .u64 hi, .int .u64 lo, .int .u64 y] w fun e w' => e = .returned (.tuple #[.int .u64 Q, .int .u64 R]) ∧ ∃ n, w' = w.drewN n := by
  go_enter Try.func49, Try.ntmps49
  go_wp2_with fail
  refine (LZ.out _).mono ?_
  rintro e w' ⟨rfl, rfl⟩
  go_wp2_with fail
  go_loop [15, 16] (fun a b => ∃ q r : Nat, Hid (Guess D d u c1 q r ∧ r < 4294967296) ∧ a = .int .u64 q ∧ b = .int .u64 r) (fun _ b => 4294967296 - (intOf b).toNat)
  case atStart => exact ⟨_, _, G1, rfl, rfl⟩
  case round =>
    obtain ⟨q, r, G, rfl, rfl⟩ := hrel
    have hH := H.out
    have hg := G.out
    have hx := HU.out
    have hr64 : r < 4294967296 := hg.2
    obtain ⟨Z, hZ, hZ2⟩ : ∃ Z : Nat, (4294967296 : Int) * (r : Int) = (Z : Nat) ∧ Z = r * 4294967296 := ⟨r * 4294967296, by omega, rfl⟩
    have hd1 := hH.2.2.1
    have hd2 := hH.2.2.2
    by_cases ht : 4294967296 ≤ q ∨ r * 4294967296 + c1 < q * e
    · have hm := guess_more hH hx.1 hx.2 hg.1 ht
      obtain ⟨hq1, hG⟩ := hm
      obtain ⟨p, hp⟩ : ∃ p, q - 1 = p := ⟨_, rfl⟩
      obtain ⟨t, hT⟩ : ∃ t, r + d = t := ⟨_, rfl⟩
      rw [hp, hT] at hG
      have k1 : (q : Int) - 1 = (p : Nat) := by omega
      have k2 : (r : Int) + d = (t : Nat) := by omega
      have b0 := hg.1.2.1
      have b1 : (p : Int) ≤ 18446744073709551615 := by omega
      have b2 : (t : Int) ≤ 18446744073709551615 := by omega
      have b3 : p ≤ 4294967296 := by omega
      have HG := Lib.hid hG
      have HM : Hid (4294967296 - t < 4294967296 - r ∨ 4294967296 ≤ t) := Lib.hid (by omega)
      by_cases hq : 4294967296 ≤ q
      · have hq' : (4294967296 : Int) ≤ (q : Int) := by omega
        clear hq hZ
        by_cases hr : 4294967296 ≤ t
        · have hr' : (4294967296 : Int) ≤ (t : Int) := by omega
          obtain rfl : p = Q1 := (guess_break hH HG.out b3 hr).trans HQ1.out
          clear hH hx HG HM ht hp hT hq1 b0 hg b3 hr hd1 hd2 hr64 hZ2
          go_wp2_with fail
          go_loop [18, 16] (fun a b => ∃ q r : Nat, Hid (Guess D d R1 c0 q r ∧ r < 4294967296) ∧ a = .int .u64 q ∧ b = .int .u64 r) (fun _ b => 4294967296 - (intOf b).toNat)
          case atStart => exact ⟨_, _, G2, rfl, rfl⟩
          case round =>
            obtain ⟨q, r, G, rfl, rfl⟩ := hrel
            have hH := H.out
            have hg := G.out
            have hx := HV.out
            have hr64 : r < 4294967296 := hg.2
            obtain ⟨Z, hZ, hZ2⟩ : ∃ Z : Nat, (4294967296 : Int) * (r : Int) = (Z : Nat) ∧ Z = r * 4294967296 := ⟨r * 4294967296, by omega, rfl⟩
            have hd1 := hH.2.2.1
            have hd2 := hH.2.2.2
            by_cases ht : 4294967296 ≤ q ∨ r * 4294967296 + c0 < q * e
            · have hm := guess_more hH hx.1 hx.2 hg.1 ht
              obtain ⟨hq1, hG⟩ := hm
              obtain ⟨p, hp⟩ : ∃ p, q - 1 = p := ⟨_, rfl⟩
              obtain ⟨t, hT⟩ : ∃ t, r + d = t := ⟨_, rfl⟩
              rw [hp, hT] at hG
              have k1 : (q : Int) - 1 = (p : Nat) := by omega
              have k2 : (r : Int) + d = (t : Nat) := by omega
              have b0 := hg.1.2.1
              have b1 : (p : Int) ≤ 18446744073709551615 := by omega
              have b2 : (t : Int) ≤ 18446744073709551615 := by omega
              have b3 : p ≤ 4294967296 := by omega
              have HG := Lib.hid hG
              have HM : Hid (4294967296 - t < 4294967296 - r ∨ 4294967296 ≤ t) := Lib.hid (by omega)
              by_cases hq : 4294967296 ≤ q
              · have hq' : (4294967296 : Int) ≤ (q : Int) := by omega
                clear hq hZ
                by_cases hr : 4294967296 ≤ t
                · have hr' : (4294967296 : Int) ≤ (t : Int) := by omega
                  obtain rfl : p = Q0 := (guess_break hH HG.out b3 hr).trans HQ0.out
                  clear hH hx HG HM ht hp hT hq1 b0 hg b3 hr hd1 hd2 hr64 hZ2
                  go_wp2_with fail
                  go_ret2
                  exact ⟨rfl, 0, rfl⟩
                · have hr' : ¬ (4294967296 : Int) ≤ (t : Int) := by omega
                  have hlt : t < 4294967296 := by omega
                  have HK := Lib.hid (show _ ∧ _ from ⟨HG.out, hlt⟩)
                  clear hH hx HG ht hp hT hq1 b0 hg b3 hr hd1 hd2 hr64 hZ2 hlt
                  go_wp2_with fail
                  go_round
                  case rel => exact ⟨p, t, HK, rfl, rfl⟩
                  case measure => have hm := HM.out; have hl := HK.out.2; simp [intOf]; omega
              · have hlt : r * 4294967296 + c0 < q * e := by omega
                obtain ⟨Y, hY, hY2⟩ : ∃ Y : Nat, (q : Int) * (e : Int) = (Y : Nat) ∧ Y = q * e := ⟨q * e, (Int.natCast_mul q e).symm, rfl⟩
                have hYb := guess_mul hH (show q < 4294967296 by omega)
                rw [← hY2] at hYb
                rw [← hY2, ← hZ2] at hlt
                have y1 : (Y : Int) ≤ 18446744073709551615 := by omega
                have y2 : (Z : Int) + c0 ≤ 18446744073709551615 := by omega
                have y3 : (Z : Int) + c0 < Y := by omega
                have hq' : ¬ (4294967296 : Int) ≤ (q : Int) := by omega
                have y4 : Z + c0 < Y := hlt
                clear hq hlt hYb hY2
                by_cases hr : 4294967296 ≤ t
                · have hr' : (4294967296 : Int) ≤ (t : Int) := by omega
                  obtain rfl : p = Q0 := (guess_break hH HG.out b3 hr).trans HQ0.out
                  clear hH hx HG HM ht hp hT hq1 b0 hg b3 hr hd1 hd2 hr64 hZ2
                  go_wp2_with fail
                  go_ret2
                  exact ⟨rfl, 0, rfl⟩
                · have hr' : ¬ (4294967296 : Int) ≤ (t : Int) := by omega
                  have hlt : t < 4294967296 := by omega
                  have HK := Lib.hid (show _ ∧ _ from ⟨HG.out, hlt⟩)
                  clear hH hx HG ht hp hT hq1 b0 hg b3 hr hd1 hd2 hr64 hZ2 hlt
                  go_wp2_with fail
                  go_round
                  case rel => exact ⟨p, t, HK, rfl, rfl⟩
                  case measure => have hm := HM.out; have hl := HK.out.2; simp [intOf]; omega
            · have hq : ¬ 4294967296 ≤ q := fun h => ht (.inl h)
              have hle : q * e ≤ r * 4294967296 + c0 := Nat.le_of_not_lt fun h => ht (.inr h)
              have hfin := (guess_done hH hg.1 hle).trans HQ0.out
              obtain ⟨Y, hY, hY2⟩ : ∃ Y : Nat, (q : Int) * (e : Int) = (Y : Nat) ∧ Y = q * e := ⟨q * e, (Int.natCast_mul q e).symm, rfl⟩
              have hYb := guess_mul hH (show q < 4294967296 by omega)
              rw [← hY2] at hYb
              rw [← hY2, ← hZ2] at hle
              have y1 : (Y : Int) ≤ 18446744073709551615 := by omega
              have y2 : (Z : Int) + c0 ≤ 18446744073709551615 := by omega
              have y3 : ¬ ((Z : Int) + c0 < Y) := by omega
              have hq' : ¬ (4294967296 : Int) ≤ (q : Int) := by omega
              have y4 : ¬ Z + c0 < Y := by omega
              obtain rfl := hfin
              clear hH hg hx ht hq hle hYb hY2 hd1 hd2 hr64 hZ2
              go_wp2_with fail
              go_ret2
              exact ⟨rfl, 0, rfl⟩
        · have hr' : ¬ (4294967296 : Int) ≤ (t : Int) := by omega
          have hlt : t < 4294967296 := by omega
          have HK := Lib.hid (show _ ∧ _ from ⟨HG.out, hlt⟩)
          clear hH hx HG ht hp hT hq1 b0 hg b3 hr hd1 hd2 hr64 hZ2 hlt
          go_wp2_with fail
          go_round
          case rel => exact ⟨p, t, HK, rfl, rfl⟩
          case measure => have hm := HM.out; have hl := HK.out.2; simp [intOf]; omega
      · have hlt : r * 4294967296 + c1 < q * e := by omega
        obtain ⟨Y, hY, hY2⟩ : ∃ Y : Nat, (q : Int) * (e : Int) = (Y : Nat) ∧ Y = q * e := ⟨q * e, (Int.natCast_mul q e).symm, rfl⟩
        have hYb := guess_mul hH (show q < 4294967296 by omega)
        rw [← hY2] at hYb
        rw [← hY2, ← hZ2] at hlt
        have y1 : (Y : Int) ≤ 18446744073709551615 := by omega
        have y2 : (Z : Int) + c1 ≤ 18446744073709551615 := by omega
        have y3 : (Z : Int) + c1 < Y := by omega
        have hq' : ¬ (4294967296 : Int) ≤ (q : Int) := by omega
        have y4 : Z + c1 < Y := hlt
        clear hq hlt hYb hY2
        by_cases hr : 4294967296 ≤ t
        · have hr' : (4294967296 : Int) ≤ (t : Int) := by omega
          obtain rfl : p = Q1 := (guess_break hH HG.out b3 hr).trans HQ1.out
          clear hH hx HG HM ht hp hT hq1 b0 hg b3 hr hd1 hd2 hr64 hZ2
          go_wp2_with fail
          go_loop [18, 16] (fun a b => ∃ q r : Nat, Hid (Guess D d R1 c0 q r ∧ r < 4294967296) ∧ a = .int .u64 q ∧ b = .int .u64 r) (fun _ b => 4294967296 - (intOf b).toNat)
          case atStart => exact ⟨_, _, G2, rfl, rfl⟩
          case round =>
            obtain ⟨q, r, G, rfl, rfl⟩ := hrel
            have hH := H.out
            have hg := G.out
            have hx := HV.out
            have hr64 : r < 4294967296 := hg.2
            obtain ⟨Z, hZ, hZ2⟩ : ∃ Z : Nat, (4294967296 : Int) * (r : Int) = (Z : Nat) ∧ Z = r * 4294967296 := ⟨r * 4294967296, by omega, rfl⟩
            have hd1 := hH.2.2.1
            have hd2 := hH.2.2.2
            by_cases ht : 4294967296 ≤ q ∨ r * 4294967296 + c0 < q * e
            · have hm := guess_more hH hx.1 hx.2 hg.1 ht
              obtain ⟨hq1, hG⟩ := hm
              obtain ⟨p, hp⟩ : ∃ p, q - 1 = p := ⟨_, rfl⟩
              obtain ⟨t, hT⟩ : ∃ t, r + d = t := ⟨_, rfl⟩
              rw [hp, hT] at hG
              have k1 : (q : Int) - 1 = (p : Nat) := by omega
              have k2 : (r : Int) + d = (t : Nat) := by omega
              have b0 := hg.1.2.1
              have b1 : (p : Int) ≤ 18446744073709551615 := by omega
              have b2 : (t : Int) ≤ 18446744073709551615 := by omega
              have b3 : p ≤ 4294967296 := by omega
              have HG := Lib.hid hG
              have HM : Hid (4294967296 - t < 4294967296 - r ∨ 4294967296 ≤ t) := Lib.hid (by omega)
              by_cases hq : 4294967296 ≤ q
              · have hq' : (4294967296 : Int) ≤ (q : Int) := by omega
                clear hq hZ
                by_cases hr : 4294967296 ≤ t
                · have hr' : (4294967296 : Int) ≤ (t : Int) := by omega
                  obtain rfl : p = Q0 := (guess_break hH HG.out b3 hr).trans HQ0.out
                  clear hH hx HG HM ht hp hT hq1 b0 hg b3 hr hd1 hd2 hr64 hZ2
                  go_wp2_with fail
                  go_ret2
                  exact ⟨rfl, 0, rfl⟩
                · have hr' : ¬ (4294967296 : Int) ≤ (t : Int) := by omega
                  have hlt : t < 4294967296 := by omega
                  have HK := Lib.hid (show _ ∧ _ from ⟨HG.out, hlt⟩)
                  clear hH hx HG ht hp hT hq1 b0 hg b3 hr hd1 hd2 hr64 hZ2 hlt
                  go_wp2_with fail
                  go_round
                  case rel => exact ⟨p, t, HK, rfl, rfl⟩
                  case measure => have hm := HM.out; have hl := HK.out.2; simp [intOf]; omega
              · have hlt : r * 4294967296 + c0 < q * e := by omega
                obtain ⟨Y, hY, hY2⟩ : ∃ Y : Nat, (q : Int) * (e : Int) = (Y : Nat) ∧ Y = q * e := ⟨q * e, (Int.natCast_mul q e).symm, rfl⟩
                have hYb := guess_mul hH (show q < 4294967296 by omega)
                rw [← hY2] at hYb
                rw [← hY2, ← hZ2] at hlt
                have y1 : (Y : Int) ≤ 18446744073709551615 := by omega
                have y2 : (Z : Int) + c0 ≤ 18446744073709551615 := by omega
                have y3 : (Z : Int) + c0 < Y := by omega
                have hq' : ¬ (4294967296 : Int) ≤ (q : Int) := by omega
                have y4 : Z + c0 < Y := hlt
                clear hq hlt hYb hY2
                by_cases hr : 4294967296 ≤ t
                · have hr' : (4294967296 : Int) ≤ (t : Int) := by omega
                  obtain rfl : p = Q0 := (guess_break hH HG.out b3 hr).trans HQ0.out
                  clear hH hx HG HM ht hp hT hq1 b0 hg b3 hr hd1 hd2 hr64 hZ2
                  go_wp2_with fail
                  go_ret2
                  exact ⟨rfl, 0, rfl⟩
                · have hr' : ¬ (4294967296 : Int) ≤ (t : Int) := by omega
                  have hlt : t < 4294967296 := by omega
                  have HK := Lib.hid (show _ ∧ _ from ⟨HG.out, hlt⟩)
                  clear hH hx HG ht hp hT hq1 b0 hg b3 hr hd1 hd2 hr64 hZ2 hlt
                  go_wp2_with fail
                  go_round
                  case rel => exact ⟨p, t, HK, rfl, rfl⟩
                  case measure => have hm := HM.out; have hl := HK.out.2; simp [intOf]; omega
            · have hq : ¬ 4294967296 ≤ q := fun h => ht (.inl h)
              have hle : q * e ≤ r * 4294967296 + c0 := Nat.le_of_not_lt fun h => ht (.inr h)
              have hfin := (guess_done hH hg.1 hle).trans HQ0.out
              obtain ⟨Y, hY, hY2⟩ : ∃ Y : Nat, (q : Int) * (e : Int) = (Y : Nat) ∧ Y = q * e := ⟨q * e, (Int.natCast_mul q e).symm, rfl⟩
              have hYb := guess_mul hH (show q < 4294967296 by omega)
              rw [← hY2] at hYb
              rw [← hY2, ← hZ2] at hle
              have y1 : (Y : Int) ≤ 18446744073709551615 := by omega
              have y2 : (Z : Int) + c0 ≤ 18446744073709551615 := by omega
              have y3 : ¬ ((Z : Int) + c0 < Y) := by omega
              have hq' : ¬ (4294967296 : Int) ≤ (q : Int) := by omega
              have y4 : ¬ Z + c0 < Y := by omega
              obtain rfl := hfin
              clear hH hg hx ht hq hle hYb hY2 hd1 hd2 hr64 hZ2
              go_wp2_with fail
              go_ret2
              exact ⟨rfl, 0, rfl⟩
        · have hr' : ¬ (4294967296 : Int) ≤ (t : Int) := by omega
          have hlt : t < 4294967296 := by omega
          have HK := Lib.hid (show _ ∧ _ from ⟨HG.out, hlt⟩)
          clear hH hx HG ht hp hT hq1 b0 hg b3 hr hd1 hd2 hr64 hZ2 hlt
          go_wp2_with fail
          go_round
          case rel => exact ⟨p, t, HK, rfl, rfl⟩
          case measure => have hm := HM.out; have hl := HK.out.2; simp [intOf]; omega
    · have hq : ¬ 4294967296 ≤ q := fun h => ht (.inl h)
      have hle : q * e ≤ r * 4294967296 + c1 := Nat.le_of_not_lt fun h => ht (.inr h)
      have hfin := (guess_done hH hg.1 hle).trans HQ1.out
      obtain ⟨Y, hY, hY2⟩ : ∃ Y : Nat, (q : Int) * (e : Int) = (Y : Nat) ∧ Y = q * e := ⟨q * e, (Int.natCast_mul q e).symm, rfl⟩
      have hYb := guess_mul hH (show q < 4294967296 by omega)
      rw [← hY2] at hYb
      rw [← hY2, ← hZ2] at hle
      have y1 : (Y : Int) ≤ 18446744073709551615 := by omega
      have y2 : (Z : Int) + c1 ≤ 18446744073709551615 := by omega
      have y3 : ¬ ((Z : Int) + c1 < Y) := by omega
      have hq' : ¬ (4294967296 : Int) ≤ (q : Int) := by omega
      have y4 : ¬ Z + c1 < Y := by omega
      obtain rfl := hfin
      clear hH hg hx ht hq hle hYb hY2 hd1 hd2 hr64 hZ2
      go_wp2_with fail
      go_loop [18, 16] (fun a b => ∃ q r : Nat, Hid (Guess D d R1 c0 q r ∧ r < 4294967296) ∧ a = .int .u64 q ∧ b = .int .u64 r) (fun _ b => 4294967296 - (intOf b).toNat)
      case atStart => exact ⟨_, _, G2, rfl, rfl⟩
      case round =>
        obtain ⟨q, r, G, rfl, rfl⟩ := hrel
        have hH := H.out
        have hg := G.out
        have hx := HV.out
        have hr64 : r < 4294967296 := hg.2
        obtain ⟨Z, hZ, hZ2⟩ : ∃ Z : Nat, (4294967296 : Int) * (r : Int) = (Z : Nat) ∧ Z = r * 4294967296 := ⟨r * 4294967296, by omega, rfl⟩
        have hd1 := hH.2.2.1
        have hd2 := hH.2.2.2
        by_cases ht : 4294967296 ≤ q ∨ r * 4294967296 + c0 < q * e
        · have hm := guess_more hH hx.1 hx.2 hg.1 ht
          obtain ⟨hq1, hG⟩ := hm
          obtain ⟨p, hp⟩ : ∃ p, q - 1 = p := ⟨_, rfl⟩
          obtain ⟨t, hT⟩ : ∃ t, r + d = t := ⟨_, rfl⟩
          rw [hp, hT] at hG
          have k1 : (q : Int) - 1 = (p : Nat) := by omega
          have k2 : (r : Int) + d = (t : Nat) := by omega
          have b0 := hg.1.2.1
          have b1 : (p : Int) ≤ 18446744073709551615 := by omega
          have b2 : (t : Int) ≤ 18446744073709551615 := by omega
          have b3 : p ≤ 4294967296 := by omega
          have HG := Lib.hid hG
          have HM : Hid (4294967296 - t < 4294967296 - r ∨ 4294967296 ≤ t) := Lib.hid (by omega)
          by_cases hq : 4294967296 ≤ q
          · have hq' : (4294967296 : Int) ≤ (q : Int) := by omega
            clear hq hZ
            by_cases hr : 4294967296 ≤ t
            · have hr' : (4294967296 : Int) ≤ (t : Int) := by omega
              obtain rfl : p = Q0 := (guess_break hH HG.out b3 hr).trans HQ0.out
              clear hH hx HG HM ht hp hT hq1 b0 hg b3 hr hd1 hd2 hr64 hZ2
              go_wp2_with fail
              go_ret2
              exact ⟨rfl, 0, rfl⟩
            · have hr' : ¬ (4294967296 : Int) ≤ (t : Int) := by omega
              have hlt : t < 4294967296 := by omega
              have HK := Lib.hid (show _ ∧ _ from ⟨HG.out, hlt⟩)
              clear hH hx HG ht hp hT hq1 b0 hg b3 hr hd1 hd2 hr64 hZ2 hlt
              go_wp2_with fail
              go_round
              case rel => exact ⟨p, t, HK, rfl, rfl⟩
              case measure => have hm := HM.out; have hl := HK.out.2; simp [intOf]; omega
          · have hlt : r * 4294967296 + c0 < q * e := by omega
            obtain ⟨Y, hY, hY2⟩ : ∃ Y : Nat, (q : Int) * (e : Int) = (Y : Nat) ∧ Y = q * e := ⟨q * e, (Int.natCast_mul q e).symm, rfl⟩
            have hYb := guess_mul hH (show q < 4294967296 by omega)
            rw [← hY2] at hYb
            rw [← hY2, ← hZ2] at hlt
            have y1 : (Y : Int) ≤ 18446744073709551615 := by omega
            have y2 : (Z : Int) + c0 ≤ 18446744073709551615 := by omega
            have y3 : (Z : Int) + c0 < Y := by omega
            have hq' : ¬ (4294967296 : Int) ≤ (q : Int) := by omega
            have y4 : Z + c0 < Y := hlt
            clear hq hlt hYb hY2
            by_cases hr : 4294967296 ≤ t
            · have hr' : (4294967296 : Int) ≤ (t : Int) := by omega
              obtain rfl : p = Q0 := (guess_break hH HG.out b3 hr).trans HQ0.out
              clear hH hx HG HM ht hp hT hq1 b0 hg b3 hr hd1 hd2 hr64 hZ2
              go_wp2_with fail
              go_ret2
              exact ⟨rfl, 0, rfl⟩
            · have hr' : ¬ (4294967296 : Int) ≤ (t : Int) := by omega
              have hlt : t < 4294967296 := by omega
              have HK := Lib.hid (show _ ∧ _ from ⟨HG.out, hlt⟩)
              clear hH hx HG ht hp hT hq1 b0 hg b3 hr hd1 hd2 hr64 hZ2 hlt
              go_wp2_with fail
              go_round
              case rel => exact ⟨p, t, HK, rfl, rfl⟩
              case measure => have hm := HM.out; have hl := HK.out.2; simp [intOf]; omega
        · have hq : ¬ 4294967296 ≤ q := fun h => ht (.inl h)
          have hle : q * e ≤ r * 4294967296 + c0 := Nat.le_of_not_lt fun h => ht (.inr h)
          have hfin := (guess_done hH hg.1 hle).trans HQ0.out
          obtain ⟨Y, hY, hY2⟩ : ∃ Y : Nat, (q : Int) * (e : Int) = (Y : Nat) ∧ Y = q * e := ⟨q * e, (Int.natCast_mul q e).symm, rfl⟩
          have hYb := guess_mul hH (show q < 4294967296 by omega)
          rw [← hY2] at hYb
          rw [← hY2, ← hZ2] at hle
          have y1 : (Y : Int) ≤ 18446744073709551615 := by omega
          have y2 : (Z : Int) + c0 ≤ 18446744073709551615 := by omega
          have y3 : ¬ ((Z : Int) + c0 < Y) := by omega
          have hq' : ¬ (4294967296 : Int) ≤ (q : Int) := by omega
          have y4 : ¬ Z + c0 < Y := by omega
          obtain rfl := hfin
          clear hH hg hx ht hq hle hYb hY2 hd1 hd2 hr64 hZ2
          go_wp2_with fail
          go_ret2
          exact ⟨rfl, 0, rfl⟩
end Go.Proofs.Ythmaijmjhfngpaa
