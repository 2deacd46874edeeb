/- The laws on positions: what each comes to. -/
import Derived.Test.YtpicfccgfkemlaaPosT
namespace Go.Proofs.Ytpicfccgfkemlaa
open Go.RowKit

theorem grown_drewN (w : World) (n : Nat) : Grown w (w.drewN n) := ⟨(World.keptBut_refl _ _).alike (World.drewN_alike _ _), fun _ => rfl, Nat.le_refl _⟩
theorem QRet.grown {v : Value} {w : World} {e : Ending} {w' : World} (h : QRet v w e w') : e = .returned v ∧ Grown w w' := by
  obtain ⟨h1, n, rfl⟩ := h
  exact ⟨h1, grown_drewN _ _⟩
theorem u64_nat {a : Int} (h : (Lit.int .u64 a).wf = true) : ∃ n : Nat, a = n ∧ (n : Int) ≤ 18446744073709551615 := by
  have h2 : 0 ≤ a ∧ a ≤ 18446744073709551615 := by simpa [Lit.wf, IntKind.wrap, IntKind.bits, IntKind.signed, IntKind.min, IntKind.max] using h
  exact ⟨a.toNat, by omega, by omega⟩
theorem to_q {P : Program} {f : FuncId} {args : Array Value} {v : Value} {w : World} (h : Calls P f args w fun e w' => e = .returned v ∧ w = w') : Calls P f args w (QRet v w) :=
  h.mono fun _ _ ⟨h1, h2⟩ => ⟨h1, 0, h2.symm⟩

/-! ### Both of a pair return the same -/
def Both2 (f g : FuncId) (k : IntKind) (args : Array Value) : Prop := ∃ (r : Int) (b : Bool), (∀ w, Calls Try.prog f args w (QRet (.tuple #[.int k r, .bool b]) w)) ∧ (∀ w, Calls Try.prog g args w (QRet (.tuple #[.int k r, .bool b]) w))

theorem begin_both (r R : Int) : Both2 20 21 .u64 #[.int .i64 r, .int .i64 R] := by
  by_cases h : 0 ≤ R ∧ R ≤ 63 ∧ 0 ≤ r ∧ r ≤ R
  · obtain ⟨r, rfl⟩ := Int.eq_ofNat_of_zero_le h.2.2.1
    obtain ⟨R, rfl⟩ := Int.eq_ofNat_of_zero_le h.1
    exact ⟨_, _, fun w => Begin_yes r R w (by omega) (by omega), fun w => refBegin_yes r R w (by omega) (by omega)⟩
  · exact ⟨_, _, fun w => Begin_no r R w h, fun w => to_q (refBegin_no r R w h)⟩
theorem row_both (p : Nat) (R : Int) (hp : (p : Int) ≤ 18446744073709551615) : Both2 18 23 .i64 #[.int .u64 p, .int .i64 R] := by
  by_cases h : PosOk p R
  · obtain ⟨R, rfl, hR, h2⟩ := h.nat
    exact ⟨_, _, fun w => to_q (row_yes p R w hR h2), fun w => to_q (refRow_yes p R w hR h2)⟩
  · exact ⟨_, _, fun w => to_q (row_no p R w hp h), fun w => to_q (refRow_no p R w hp h)⟩
theorem parent_both (p : Nat) (R : Int) (hp : (p : Int) ≤ 18446744073709551615) : Both2 19 24 .u64 #[.int .u64 p, .int .i64 R] := by
  by_cases h : PosOk p R ∧ p + 2 < 2 ^ (R.toNat + 1)
  · obtain ⟨R, rfl, hR, _⟩ := h.1.nat
    have h2 := h.2
    rw [Int.toNat_natCast] at h2
    exact ⟨_, _, fun w => to_q (parent_yes p R w hR h2), fun w => refParent_yes p R w hR h2⟩
  · exact ⟨_, _, fun w => to_q (parent_no p R w hp h), fun w => refParent_no p R w hp h⟩
theorem left_both (p : Nat) (R : Int) (hp : (p : Int) ≤ 18446744073709551615) : Both2 25 26 .u64 #[.int .u64 p, .int .i64 R] := by
  by_cases h : PosOk p R ∧ 2 ^ R.toNat ≤ p
  · obtain ⟨R, rfl, hR, h1⟩ := h.1.nat
    have h2 := h.2
    rw [Int.toNat_natCast] at h2
    exact ⟨_, _, fun w => to_q (left_yes p R w hR h1 h2), fun w => refLeft_yes p R w hR h1 h2⟩
  · exact ⟨_, _, fun w => to_q (left_no p R w hp h), fun w => refLeft_no p R w hp h⟩
theorem sib_both (p : Nat) (R : Int) (hp : (p : Int) ≤ 18446744073709551615) : Both2 27 28 .u64 #[.int .u64 p, .int .i64 R] := by
  by_cases h : PosOk p R ∧ p + 2 < 2 ^ (R.toNat + 1)
  · obtain ⟨R, rfl, hR, _⟩ := h.1.nat
    have h2 := h.2
    rw [Int.toNat_natCast] at h2
    exact ⟨_, _, fun w => to_q (sib_yes p R w hR h2), fun w => refSib_yes p R w hR h2⟩
  · exact ⟨_, _, fun w => to_q (sib_no p R w hp h), fun w => refSib_no p R w hp h⟩
theorem remap_both (p : Nat) (R T : Int) (hp : (p : Int) ≤ 18446744073709551615) : Both2 17 29 .u64 #[.int .u64 p, .int .i64 R, .int .i64 T] := by
  by_cases h : PosOk p R ∧ 0 ≤ T ∧ T ≤ 63 ∧ CanRemap p R.toNat T.toNat
  · obtain ⟨R, rfl, hR, h1⟩ := h.1.nat
    obtain ⟨T, rfl⟩ := Int.eq_ofNat_of_zero_le h.2.1
    have h2 := h.2.2.2
    rw [Int.toNat_natCast, Int.toNat_natCast] at h2
    exact ⟨_, _, fun w => remap_yes p R T w hR (by omega) h1 h2, fun w => refRemap_yes p R T w hR (by omega) h1 h2⟩
  · exact ⟨_, _, fun w => remap_no p R T w hp h, fun w => refRemap_no p R T w hp h⟩
theorem rows_both (n : Nat) : Both2 10 11 .i64 #[.int .u64 n] := by
  by_cases h : (n : Int) ≤ 9223372036854775807
  · exact ⟨_, _, fun w => to_q (rows_yes n w h), fun w => to_q (refRows_yes n w h)⟩
  · exact ⟨_, _, fun w => to_q (rows_no n w h), fun w => to_q (refRows_no n w h)⟩
theorem root_both (n : Nat) (h : Int) (hn : (n : Int) ≤ 18446744073709551615) : Both2 12 13 .u64 #[.int .u64 n, .int .i64 h] := by
  by_cases hb : HasTree n h
  · obtain ⟨h1, h2, h3⟩ := hb
    obtain ⟨h, rfl⟩ := Int.eq_ofNat_of_zero_le h2
    rw [Int.toNat_natCast] at h3
    exact ⟨_, _, fun w => root_yes n h w (by omega) h3, fun w => refRoot_yes n h w (by omega) h3⟩
  · exact ⟨_, _, fun w => root_no n h w hn hb, fun w => refRoot_no n h w hn hb⟩

/-! ### The chapter's answers -/
set_option maxHeartbeats 400000 in
theorem is_any (p : Int) (b : Bool) (q : Int) (w : World) : Calls Try.prog 32 #[.int .u64 p, .bool b, .int .u64 q] w (QRet (.bool (b && (p == q))) w) := by
  cases b
  · go_enter Try.func32, Try.ntmps32
    go_wp2_with fail
    go_ret
    exact QRet.mk0 rfl
  · go_enter Try.func32, Try.ntmps32
    go_wp2_with fail
    go_ret
    exact QRet.mk0 (by simp)

set_option maxHeartbeats 400000 in
theorem awake_any (w : World) : Calls Try.prog 16 #[] w (QRet (.bool true) w) := by
  have r7 : ∀ w, Calls Try.prog 10 #[.int .u64 7] w (QRet (.tuple #[.int .i64 3, .bool true]) w) := fun w => to_q (rows_yes 7 w (by omega))
  have p6 : ∀ w, Calls Try.prog 19 #[.int .u64 6, .int .i64 3] w (QRet (.tuple #[.int .u64 11, .bool true]) w) := fun w => to_q (parent_yes 6 3 w (by omega) (by omega))
  have o7 : ∀ w, Calls Try.prog 12 #[.int .u64 7, .int .i64 2] w (QRet (.tuple #[.int .u64 12, .bool true]) w) := fun w => root_yes 7 2 w (by omega) (by decide)
  have i1 : ∀ w, Calls Try.prog 32 #[.int .u64 11, .bool true, .int .u64 11] w (QRet (.bool true) w) := fun w => is_any 11 true 11 w
  have i2 : ∀ w, Calls Try.prog 32 #[.int .u64 12, .bool true, .int .u64 12] w (QRet (.bool true) w) := fun w => is_any 12 true 12 w
  have R7 := Lib.hid r7
  have P6 := Lib.hid p6
  have O7 := Lib.hid o7
  have I1 := Lib.hid i1
  have I2 := Lib.hid i2
  clear r7 p6 o7 i1 i2
  go_enter Try.func16, Try.ntmps16
  go_wp2_with fail
  refine (R7.out _).mono ?_
  rintro e w' ⟨rfl, n1, rfl⟩
  go_wp2_with fail
  refine (P6.out _).mono ?_
  rintro e w' ⟨rfl, n2, rfl⟩
  go_wp2_with fail
  refine (O7.out _).mono ?_
  rintro e w' ⟨rfl, n3, rfl⟩
  go_wp2_with fail
  refine (I1.out _).mono ?_
  rintro e w' ⟨rfl, n4, rfl⟩
  go_wp2_with fail
  refine (I2.out _).mono ?_
  rintro e w' ⟨rfl, n5, rfl⟩
  go_wp2_with fail
  go_ret
  exact QRet.mk rfl

set_option maxHeartbeats 400000 in
theorem law_PosRows (a0 a1 a2 : Int) (w0 : (Lit.int .u64 a0).wf = true) (_w1 : (Lit.int .i64 a1).wf = true) (_w2 : (Lit.int .i64 a2).wf = true) (w : World) :
    Calls Try.prog 5 #[.int .u64 a0, .int .i64 a1, .int .i64 a2] w fun e w' => e = .returned (.bool true) ∧ Grown w w' := by
  obtain ⟨p, rfl, hp⟩ := u64_nat w0
  clear w0 _w1 _w2
  obtain ⟨v1, b1, c1, d1⟩ := begin_both a1 a2
  obtain ⟨v2, b2, c2, d2⟩ := row_both p a2 hp
  obtain ⟨v3, b3, c3, d3⟩ := parent_both p a2 hp
  obtain ⟨v4, b4, c4, d4⟩ := left_both p a2 hp
  obtain ⟨v5, b5, c5, d5⟩ := sib_both p a2 hp
  have hl : ∃ b : Bool, (∀ w, Calls Try.prog 22 #[.int .u64 p] w (QRet (.bool b) w)) ∧ ((p : Int) % 2 == 0) = b := by
    refine ⟨_, fun w => to_q (isLeft_any p w hp), ?_⟩
    by_cases h : p % 2 = 0
    · have : (p : Int) % 2 = 0 := by omega
      simp [h, this]
    · have : ¬ (p : Int) % 2 = 0 := by omega
      simp only [h, decide_false, beq_eq_false_iff_ne, ne_eq]
      exact this
  obtain ⟨b6, c6, ht⟩ := hl
  have C1 := Lib.hid c1; have D1 := Lib.hid d1; have C2 := Lib.hid c2; have D2 := Lib.hid d2; have C3 := Lib.hid c3; have D3 := Lib.hid d3
  have C4 := Lib.hid c4; have D4 := Lib.hid d4; have C5 := Lib.hid c5; have D5 := Lib.hid d5; have C6 := Lib.hid c6
  clear c1 d1 c2 d2 c3 d3 c4 d4 c5 d5 c6
  refine Calls.mono (R := QRet (.bool true) w) ?_ fun _ _ => QRet.grown
  go_enter Try.func5, Try.ntmps5
  go_wp2_with fail
  refine (C1.out _).mono ?_
  rintro e w' ⟨rfl, n1, rfl⟩
  go_wp2_with fail
  refine (D1.out _).mono ?_
  rintro e w' ⟨rfl, n2, rfl⟩
  go_wp2_with fail
  refine (C6.out _).mono ?_
  rintro e w' ⟨rfl, n3, rfl⟩
  go_wp2_with fail
  refine (C2.out _).mono ?_
  rintro e w' ⟨rfl, n4, rfl⟩
  go_wp2_with fail
  refine (D2.out _).mono ?_
  rintro e w' ⟨rfl, n5, rfl⟩
  go_wp2_with fail
  refine (C3.out _).mono ?_
  rintro e w' ⟨rfl, n6, rfl⟩
  go_wp2_with fail
  refine (D3.out _).mono ?_
  rintro e w' ⟨rfl, n7, rfl⟩
  go_wp2_with fail
  refine (C4.out _).mono ?_
  rintro e w' ⟨rfl, n8, rfl⟩
  go_wp2_with fail
  refine (D4.out _).mono ?_
  rintro e w' ⟨rfl, n9, rfl⟩
  go_wp2_with fail
  refine (C5.out _).mono ?_
  rintro e w' ⟨rfl, n10, rfl⟩
  go_wp2_with fail
  refine (D5.out _).mono ?_
  rintro e w' ⟨rfl, n11, rfl⟩
  go_wp2_with fail
  refine (awake_any _).mono ?_
  rintro e w' ⟨rfl, n12, rfl⟩
  go_wp2_with fail
  go_ret
  exact QRet.mk rfl
end Go.Proofs.Ytpicfccgfkemlaa
