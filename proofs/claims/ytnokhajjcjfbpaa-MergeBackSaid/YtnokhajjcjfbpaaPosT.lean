/- The reference's functions on positions, continued: rows, roots, one below another. -/
import Derived.Test.YtnokhajjcjfbpaaPosS
import Derived.Test.YtnokhajjcjfbpaaPosC
namespace Go.Proofs.Ytnokhajjcjfbpaa
open Go.RowKit

/-- Is a below b? -/
def WithinB (a b : Nat) (R : Int) : Bool := decide (PosOk a R ∧ PosOk b R ∧ Below_ a b R.toNat)

set_option maxHeartbeats 400000 in
theorem refWithin_any (a b : Nat) (R : Int) (w : World) (ha : (a : Int) ≤ 18446744073709551615) (_hb : (b : Int) ≤ 18446744073709551615) :
    Calls Try.prog 56 #[.int .u64 a, .int .u64 b, .int .i64 R] w (QRet (.bool (WithinB a b R)) w) := by
  by_cases ho : PosOk a R
  · obtain ⟨R, rfl, hR, ha'⟩ := ho.nat
    have hf : WithinB a b R = decide (b + 1 < 2 ^ (R + 1) ∧ Below_ a b R) := by
      unfold WithinB
      congr 1
      rw [Int.toNat_natCast]
      apply propext
      constructor
      · rintro ⟨_, h, h'⟩
        obtain ⟨_, _, h3⟩ := h
        rw [Int.toNat_natCast] at h3
        exact ⟨h3, h'⟩
      · rintro ⟨h, h'⟩
        exact ⟨ho, PosOk.of_nat hR h, h'⟩
    rw [hf]
    clear ho hf
    go_enter Try.func56, Try.ntmps56
    go_wp2_with fail
    refine (place_yes _ _ _ hR (by omega)).mono ?_
    rintro e w' ⟨rfl, rfl⟩
    go_wp2_with fail
    go_loopw [0, 6, 9] (fun x _ ok wr => (∃ n, wr = w.drewN n) ∧ ((∃ c : Nat, c + 1 < 2 ^ (R + 1) ∧ x = .int .u64 c ∧ ok = .bool true ∧ ((b + 1 < 2 ^ (R + 1) ∧ Below_ a b R) ↔ (b + 1 < 2 ^ (R + 1) ∧ Below_ c b R))) ∨ (ok = .bool false ∧ ¬ (b + 1 < 2 ^ (R + 1) ∧ Below_ a b R))))
      (fun x _ ok _ => match ok with | .bool true => 2 + R - rowOf (intOf x).toNat R | _ => 0)
    case atStart => exact ⟨⟨0, rfl⟩, .inl ⟨a, ha', rfl, rfl, Iff.rfl⟩⟩
    case round =>
      obtain ⟨⟨n, rfl⟩, hrel⟩ := hrel
      rcases hrel with ⟨c, hc, rfl, rfl, hiff⟩ | ⟨rfl, hno⟩
      · by_cases hc2 : c + 2 < 2 ^ (R + 1)
        · obtain ⟨p1, p2, p3⟩ := par_spec hc2
          have hrt := rowOf_top hc2
          have P2 := Lib.hid p2
          have HI := Lib.hid hiff
          clear hiff p2 p3
          by_cases hcb : parOf c R = b
          · have ht : (((parOf c R : Nat) : Int) == (b : Int)) = true := by rw [hcb]; simp
            have hfin : decide (b + 1 < 2 ^ (R + 1) ∧ Below_ a b R) = true := by
              have hb1 : b + 1 < 2 ^ (R + 1) := by rw [← hcb]; exact p1
              exact decide_eq_true (HI.out.2 ⟨hb1, (below_step hc2 hb1).2 (.inl hcb)⟩)
            have HF := Lib.hid hfin
            clear hcb hfin
            go_wp2_with fail
            refine (refParent_yes _ _ _ hR hc2).mono ?_
            rintro e w' ⟨rfl, n1, rfl⟩
            go_wp2_with fail
            go_ret
            exact QRet.mk (by rw [HF.out]; rfl)
          · have ht : (((parOf c R : Nat) : Int) == (b : Int)) = false := by simp; omega
            have HC := Lib.hid hcb
            clear hcb
            go_wp2_with fail
            refine (refParent_yes _ _ _ hR hc2).mono ?_
            rintro e w' ⟨rfl, n1, rfl⟩
            go_wp2_with fail
            go_roundw
            case rel =>
              refine ⟨⟨n + n1, by simp⟩, .inl ⟨parOf c R, p1, rfl, rfl, HI.out.trans ?_⟩⟩
              constructor
              · rintro ⟨h1, h2⟩
                rcases (below_step hc2 h1).1 h2 with h3 | h3
                · exact absurd h3 HC.out
                · exact ⟨h1, h3⟩
              · rintro ⟨h1, h2⟩
                exact ⟨h1, (below_step hc2 h1).2 (.inr h2)⟩
            case measure =>
              have := P2.out
              simp [intOf, this]
              omega
        · have hc3 : c + 2 = 2 ^ (R + 1) := by omega
          have hno : ¬ (b + 1 < 2 ^ (R + 1) ∧ Below_ a b R) := by
            rw [hiff]
            rintro ⟨h1, h2⟩
            exact below_top hc3 h1 h2
          have HN := Lib.hid hno
          have HP := Lib.hid (show ¬ (PosOk c R ∧ c + 2 < 2 ^ ((R : Int).toNat + 1)) from fun h => hc2 (by have := h.2; rwa [Int.toNat_natCast] at this))
          have hcu := p_u64 hR hc
          clear hiff hno hc3 hc2
          go_wp2_with fail
          refine (refParent_no _ _ _ (by omega) HP.out).mono ?_
          rintro e w' ⟨rfl, n1, rfl⟩
          go_wp2_with fail
          go_roundw
          case rel => exact ⟨⟨n + n1, by simp⟩, .inr ⟨rfl, HN.out⟩⟩
          case measure =>
            have := (rowOf_spec hc).1
            simp [intOf]
            omega
      · have hfin : decide (b + 1 < 2 ^ (R + 1) ∧ Below_ a b R) = false := decide_eq_false hno
        have HF := Lib.hid hfin
        clear hno hfin
        go_wp2_with fail
        go_ret
        exact QRet.mk (by rw [HF.out]; rfl)
  · have hf : WithinB a b R = false := by unfold WithinB; simp [ho]
    rw [hf]
    go_enter Try.func56, Try.ntmps56
    go_wp2_with fail
    refine (place_no _ _ _ ha ho).mono ?_
    rintro e w' ⟨rfl, rfl⟩
    go_wp2_with fail
    refine wp_loop_rounds 1 ?_
    rw [rounds_succ]
    go_wp2_with fail
    go_ret
    exact QRet.mk0 rfl
set_option maxHeartbeats 400000 in
theorem refRows_yes (n : Nat) (w : World) (h : (n : Int) ≤ 9223372036854775807) :
    Calls Try.prog 46 #[.int .u64 n] w fun e w' => e = .returned (.tuple #[.int .i64 (rowsOf n : Nat), .bool true]) ∧ w = w' := by
  have hr := rows_le (n := n) (by omega)
  have d1 : decide ((9223372036854775807 : Int) < n) = false := by simp; omega
  go_enter Try.func46, Try.ntmps46
  go_wp2_with fail
  go_loop [4] (fun i => ∃ k : Nat, k ≤ rowsOf n ∧ i = .int .i64 k) (fun i => rowsOf n - (intOf i).toNat)
  case atStart => exact ⟨0, by omega, rfl⟩
  case round =>
    obtain ⟨k, hk, rfl⟩ := hrel
    by_cases hlt : k < rowsOf n
    · have hl : (pw k : Int) < n := by
        have : ¬ n ≤ 2 ^ k := fun e => by have := rows_least (n := n) (by omega) e; omega
        unfold pw
        omega
      go_wp2_with fail
      refine (power_any _ _ (by omega)).mono ?_
      rintro e w' ⟨rfl, rfl⟩
      go_wp2_with fail
      go_round
      case rel => exact ⟨k + 1, by omega, by go_num⟩
      case measure => simp [intOf]; omega
    · have hl : (n : Int) ≤ (pw (rowsOf n) : Nat) := by
        have := rows_ge (n := n) (by omega)
        unfold pw
        omega
      have hk2 : k = rowsOf n := by omega
      have HK := Lib.hid hk2
      rw [← hk2] at hl
      clear hlt hk2
      go_wp2_with fail
      refine (power_any _ _ (by omega)).mono ?_
      rintro e w' ⟨rfl, rfl⟩
      go_wp2_with fail
      go_ret2
      exact ⟨by rw [← HK.out]; rfl, rfl⟩

set_option maxHeartbeats 400000 in
theorem refRows_no (n : Nat) (w : World) (h : ¬ (n : Int) ≤ 9223372036854775807) :
    Calls Try.prog 46 #[.int .u64 n] w fun e w' => e = .returned (.tuple #[.int .i64 0, .bool false]) ∧ w = w' := by
  have h' : (9223372036854775807 : Int) < n := by omega
  clear h
  go_enter Try.func46, Try.ntmps46
  go_wp2_with fail
  go_ret2
  exact ⟨rfl, rfl⟩

set_option maxHeartbeats 400000 in
theorem refRoot_yes (n h : Nat) (w : World) (hn : (n : Int) ≤ 9223372036854775807) (hb : n / 2 ^ h % 2 = 1) :
    Calls Try.prog 57 #[.int .u64 n, .int .i64 h] w (QRet (.tuple #[.int .u64 (rootOf n h : Nat), .bool true]) w) := by
  obtain ⟨h1, h2⟩ := bit_row (by omega) hb
  have hr := rows_le (n := n) (by omega)
  have hh : h < 63 := by
    rcases Nat.lt_or_ge h 63 with h3 | h3
    · exact h3
    · exfalso
      have := pw_le (a := 63) (b := h) h3
      have e : (2 : Nat) ^ 63 = 9223372036854775808 := by decide
      rw [Nat.div_eq_of_lt (by omega)] at hb
      omega
  have hp := pw_bd (n := h) (by omega)
  have hq : (n : Int) / (pw h : Int) = ((n / 2 ^ h : Nat) : Int) := rfl
  have hq0 : (0 : Int) ≤ (n : Int) / (pw h : Int) := by rw [hq]; omega
  have hq1 : (n : Int) / (pw h : Int) ≤ 9223372036854775807 := by
    have := Nat.div_le_self n (2 ^ h)
    rw [hq]
    omega
  have HQ := Lib.hid (show (n : Int) / (pw h : Int) / 2 * 2 = ((n / 2 ^ h / 2 * 2 : Nat) : Int) from by rw [hq]; omega)
  have H2 := Lib.hid h2
  have HD := Lib.hid (decide_eq_true hb)
  clear hq hb h2
  go_enter Try.func57, Try.ntmps57
  go_wp2_with fail
  refine (refRows_yes _ _ hn).mono ?_
  rintro e w' ⟨rfl, rfl⟩
  go_wp2_with fail
  refine (has_any _ _ _ hh (by omega)).mono ?_
  rintro e w' ⟨rfl, rfl⟩
  rw [HD.out]
  go_wp2_with fail
  refine (power_any _ _ (by omega)).mono ?_
  rintro e w' ⟨rfl, rfl⟩
  go_wp2_with fail
  rw [HQ.out]
  refine (at_yes _ _ _ _ h1 hr H2.out).mono ?_
  rintro e w' ⟨rfl, n1, rfl⟩
  go_wp2_with fail
  go_ret2
  exact QRet.mk rfl

set_option maxHeartbeats 400000 in
theorem refRoot_no (n : Nat) (h : Int) (w : World) (hu : (n : Int) ≤ 18446744073709551615) (hb : ¬ HasTree n h) :
    Calls Try.prog 57 #[.int .u64 n, .int .i64 h] w (QRet (.tuple #[.int .u64 0, .bool false]) w) := by
  by_cases hn : (n : Int) ≤ 9223372036854775807
  · by_cases hh : 0 ≤ h ∧ h < 63
    · obtain ⟨h, rfl⟩ := Int.eq_ofNat_of_zero_le hh.1
      have HD := Lib.hid (show decide (n / 2 ^ h % 2 = 1) = false from decide_eq_false fun e => hb ⟨by omega, hh.1, by rw [Int.toNat_natCast]; exact e⟩)
      have hh2 : h < 63 := by omega
      clear hb hh
      go_enter Try.func57, Try.ntmps57
      go_wp2_with fail
      refine (refRows_yes _ _ hn).mono ?_
      rintro e w' ⟨rfl, rfl⟩
      go_wp2_with fail
      refine (has_any _ _ _ hh2 (by omega)).mono ?_
      rintro e w' ⟨rfl, rfl⟩
      rw [HD.out]
      go_wp2_with fail
      go_ret2
      exact QRet.mk0 rfl
    · clear hb
      go_enter Try.func57, Try.ntmps57
      go_wp2_with fail
      refine (refRows_yes _ _ hn).mono ?_
      rintro e w' ⟨rfl, rfl⟩
      go_wp2_with fail
      refine (has_no _ _ _ hh).mono ?_
      rintro e w' ⟨rfl, rfl⟩
      go_wp2_with fail
      go_ret2
      exact QRet.mk0 rfl
  · have hn' := Lib.hid hn
    clear hb hn
    go_enter Try.func57, Try.ntmps57
    go_wp2_with fail
    refine (refRows_no _ _ (by have := hn'.out; omega)).mono ?_
    rintro e w' ⟨rfl, rfl⟩
    go_wp2_with fail
    go_ret2
    exact QRet.mk0 rfl
end Go.Proofs.Ytnokhajjcjfbpaa
