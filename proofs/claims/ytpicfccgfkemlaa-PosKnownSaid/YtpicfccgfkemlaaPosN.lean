/- The law PosBack. -/
import Derived.Test.YtpicfccgfkemlaaPosM
namespace Go.Proofs.Ytpicfccgfkemlaa
open Go.RowKit

theorem left_back {p n : Nat} (h : p + 1 < 2 ^ (n + 1)) (h0 : 2 ^ n ≤ p) :
    leftOf p n % 2 = 0 ∧ parOf (leftOf p n) n = p ∧ parOf (leftOf p n + 1) n = p ∧ sibOf (leftOf p n) = leftOf p n + 1 ∧ Below_ (leftOf p n) p n ∧ ¬ Below_ p (leftOf p n) n := by
  obtain ⟨h1, h2, h3, h4, h5⟩ := left_spec h h0
  obtain ⟨g1, g2, g3⟩ := left_eq h h0
  have e := (sib_eq (p := leftOf p n) (R := n) (by omega)).1
  have hev : leftOf p n % 2 = 0 := by omega
  obtain ⟨a1, a2, a3⟩ := par_spec (p := leftOf p n) (R := n) (by omega)
  obtain ⟨b1, b2, b3⟩ := par_spec (p := leftOf p n + 1) (R := n) (by omega)
  refine ⟨hev, pos_ext a1 h (by omega) (by omega), pos_ext b1 h (by omega) (by omega), ?_, ?_, ?_⟩
  · unfold sibOf
    rw [if_pos hev]
  · unfold Below_
    refine ⟨by omega, ?_⟩
    rw [h2, h3, show rowOf p n - (rowOf p n - 1) = 1 from by omega]
    omega
  · unfold Below_
    omega
theorem sib_par {p n : Nat} (h : p + 2 < 2 ^ (n + 1)) : parOf (sibOf p) n = parOf p n := by
  obtain ⟨h1, h2, h3, h4⟩ := sib_spec h
  unfold parOf
  have : sibOf p / 2 = p / 2 := by
    unfold sibOf
    split <;> omega
  rw [this]
theorem withinB_nat {a b R : Nat} (hR : R ≤ 63) (ha : a + 1 < 2 ^ (R + 1)) (hb : b + 1 < 2 ^ (R + 1)) : WithinB a b R = decide (Below_ a b R) := by
  unfold WithinB
  rw [Int.toNat_natCast]
  simp [PosOk.of_nat hR ha, PosOk.of_nat hR hb]

set_option maxRecDepth 100000 in
set_option maxHeartbeats 2000000 in
theorem law_PosBack (a0 a1 : Int) (w0 : (Lit.int .u64 a0).wf = true) (w1 : (Lit.int .u8 a1).wf = true) (w : World) :
    Calls Try.prog 7 #[.int .u64 a0, .int .u8 a1] w fun e w' => e = .returned (.bool true) ∧ Grown w w' := by
  obtain ⟨p, rfl, hp⟩ := u64_nat w0
  have h1 := u8_nat w1
  clear w0 w1
  obtain ⟨n, hn⟩ := Int.eq_ofNat_of_zero_le (a := a1 % 64) (by omega)
  have hn63 : n ≤ 63 := by omega
  refine Calls.mono (R := QRet (.bool true) w) ?_ fun _ _ => QRet.grown
  by_cases ho : p + 1 < 2 ^ (n + 1)
  · have R1 := Lib.hid (show ∀ w, Calls Try.prog 18 #[.int .u64 p, .int .i64 n] w (QRet (.tuple #[.int .i64 (rowOf p n : Nat), .bool true]) w) from fun w => to_q (row_yes p n w hn63 ho))
    by_cases hl : 2 ^ n ≤ p
    · obtain ⟨e1, e2, e3, e4, e5, e6⟩ := left_back ho hl
      obtain ⟨s1, s2, s3, s4, s5⟩ := left_spec ho hl
      have hr : decide (0 < rowOf p n) = true := decide_eq_true (by have := (left_eq ho hl).1; omega)
      have hlu : ((leftOf p n : Nat) : Int) ≤ 18446744073709551613 := by have := p_u64 hn63 (p := leftOf p n + 2) s1; omega
      have L1 := Lib.hid (show ∀ w, Calls Try.prog 25 #[.int .u64 p, .int .i64 n] w (QRet (.tuple #[.int .u64 (leftOf p n : Nat), .bool true]) w) from fun w => to_q (left_yes p n w hn63 ho hl))
      have L2 := Lib.hid (show ∀ w, Calls Try.prog 19 #[.int .u64 (leftOf p n : Nat), .int .i64 n] w (QRet (.tuple #[.int .u64 p, .bool true]) w) from fun w => by have := to_q (parent_yes (leftOf p n) n w hn63 (by omega)); rwa [e2] at this)
      have L3 := Lib.hid (show ∀ w, Calls Try.prog 19 #[.int .u64 ((leftOf p n : Nat) + 1 : Int), .int .i64 n] w (QRet (.tuple #[.int .u64 p, .bool true]) w) from fun w => by have := to_q (parent_yes (leftOf p n + 1) n w hn63 (by omega)); rwa [e3] at this)
      have L4 := Lib.hid (show ∀ w, Calls Try.prog 27 #[.int .u64 (leftOf p n : Nat), .int .i64 n] w (QRet (.tuple #[.int .u64 ((leftOf p n : Nat) + 1 : Int), .bool true]) w) from fun w => by have := to_q (sib_yes (leftOf p n) n w hn63 (by omega)); rwa [e4] at this)
      have L5 := Lib.hid (show ∀ w, Calls Try.prog 32 #[.int .u64 p, .bool true, .int .u64 p] w (QRet (.bool true) w) from fun w => by have := is_any p true p w; rwa [show (true && (p : Int) == p) = true from by simp] at this)
      have L6 := Lib.hid (show ∀ w, Calls Try.prog 32 #[.int .u64 ((leftOf p n : Nat) + 1 : Int), .bool true, .int .u64 ((leftOf p n : Nat) + 1 : Int)] w (QRet (.bool true) w) from fun w => by have := is_any ((leftOf p n : Nat) + 1 : Int) true ((leftOf p n : Nat) + 1 : Int) w; rwa [show (true && ((leftOf p n : Nat) + 1 : Int) == ((leftOf p n : Nat) + 1 : Int)) = true from by simp] at this)
      have L7 := Lib.hid (show ∀ w, Calls Try.prog 22 #[.int .u64 (leftOf p n : Nat)] w (QRet (.bool true) w) from fun w => by have := to_q (isLeft_any (leftOf p n) w (by omega)); rwa [show decide (leftOf p n % 2 = 0) = true from decide_eq_true e1] at this)
      have L8 := Lib.hid (show ∀ w, Calls Try.prog 22 #[.int .u64 ((leftOf p n : Nat) + 1 : Int)] w (QRet (.bool false) w) from fun w => by have := to_q (isLeft_any (leftOf p n + 1) w (by omega)); rwa [show decide ((leftOf p n + 1) % 2 = 0) = false from decide_eq_false (by omega)] at this)
      have L9 := Lib.hid (show ∀ w, Calls Try.prog 30 #[.int .u64 (leftOf p n : Nat), .int .u64 p, .int .i64 n] w (QRet (.bool true) w) from fun w => by have := within_ok (leftOf p n) p n w hn63 (by omega) ho; rwa [decide_eq_true e5] at this)
      have LA := Lib.hid (show ∀ w, Calls Try.prog 30 #[.int .u64 p, .int .u64 (leftOf p n : Nat), .int .i64 n] w (QRet (.bool false) w) from fun w => by have := within_ok p (leftOf p n) n w hn63 ho (by omega); rwa [decide_eq_false e6] at this)
      clear e1 e2 e3 e4 e5 e6 s1 s2 s3 s4 s5 hl
      by_cases hs : p + 2 < 2 ^ (n + 1)
      · obtain ⟨t1, t2, t3, t4⟩ := sib_spec hs
        have t5 := sib_par hs
        have hrn : decide (rowOf p n < n) = true := decide_eq_true (rowOf_top hs)
        have hne : (((sibOf p : Nat) : Int) == (p : Int)) = false := by simp; omega
        have S1 := Lib.hid (show ∀ w, Calls Try.prog 27 #[.int .u64 p, .int .i64 n] w (QRet (.tuple #[.int .u64 (sibOf p : Nat), .bool true]) w) from fun w => to_q (sib_yes p n w hn63 hs))
        have S2 := Lib.hid (show ∀ w, Calls Try.prog 27 #[.int .u64 (sibOf p : Nat), .int .i64 n] w (QRet (.tuple #[.int .u64 p, .bool true]) w) from fun w => by have := to_q (sib_yes (sibOf p) n w hn63 t1); rwa [t3] at this)
        have S3 := Lib.hid (show ∀ w, Calls Try.prog 19 #[.int .u64 p, .int .i64 n] w (QRet (.tuple #[.int .u64 (parOf p n : Nat), .bool true]) w) from fun w => to_q (parent_yes p n w hn63 hs))
        have S4 := Lib.hid (show ∀ w, Calls Try.prog 19 #[.int .u64 (sibOf p : Nat), .int .i64 n] w (QRet (.tuple #[.int .u64 (parOf p n : Nat), .bool true]) w) from fun w => by have := to_q (parent_yes (sibOf p) n w hn63 t1); rwa [t5] at this)
        have S5 := Lib.hid (show ∀ w, Calls Try.prog 18 #[.int .u64 (sibOf p : Nat), .int .i64 n] w (QRet (.tuple #[.int .i64 (rowOf p n : Nat), .bool true]) w) from fun w => by have := to_q (row_yes (sibOf p) n w hn63 (by omega)); rwa [t2] at this)
        clear t1 t2 t3 t4 t5 hs ho
        go_enter Try.func7, Try.ntmps7
        go_wp2_with fail
        refine (R1.out _).mono ?_
        rintro e w' ⟨rfl, n101, rfl⟩
        go_wp2_with fail
        refine (L1.out _).mono ?_
        rintro e w' ⟨rfl, n102, rfl⟩
        go_wp2_with fail
        refine (L2.out _).mono ?_
        rintro e w' ⟨rfl, n103, rfl⟩
        go_wp2_with fail
        refine (L3.out _).mono ?_
        rintro e w' ⟨rfl, n104, rfl⟩
        go_wp2_with fail
        refine (L4.out _).mono ?_
        rintro e w' ⟨rfl, n105, rfl⟩
        go_wp2_with fail
        refine (L5.out _).mono ?_
        rintro e w' ⟨rfl, n106, rfl⟩
        go_wp2_with fail
        refine (L5.out _).mono ?_
        rintro e w' ⟨rfl, n107, rfl⟩
        go_wp2_with fail
        refine (L6.out _).mono ?_
        rintro e w' ⟨rfl, n108, rfl⟩
        go_wp2_with fail
        refine (L7.out _).mono ?_
        rintro e w' ⟨rfl, n109, rfl⟩
        go_wp2_with fail
        refine (L8.out _).mono ?_
        rintro e w' ⟨rfl, n110, rfl⟩
        go_wp2_with fail
        refine (L9.out _).mono ?_
        rintro e w' ⟨rfl, n111, rfl⟩
        go_wp2_with fail
        refine (LA.out _).mono ?_
        rintro e w' ⟨rfl, n112, rfl⟩
        go_wp2_with fail
        refine (S1.out _).mono ?_
        rintro e w' ⟨rfl, n113, rfl⟩
        go_wp2_with fail
        refine (S2.out _).mono ?_
        rintro e w' ⟨rfl, n114, rfl⟩
        go_wp2_with fail
        refine (S3.out _).mono ?_
        rintro e w' ⟨rfl, n115, rfl⟩
        go_wp2_with fail
        refine (S4.out _).mono ?_
        rintro e w' ⟨rfl, n116, rfl⟩
        go_wp2_with fail
        refine (S5.out _).mono ?_
        rintro e w' ⟨rfl, n117, rfl⟩
        go_wp2_with fail
        refine (L5.out _).mono ?_
        rintro e w' ⟨rfl, n118, rfl⟩
        go_wp2_with fail
        refine (awake_any _).mono ?_
        rintro e w' ⟨rfl, n119, rfl⟩
        go_wp2_with fail
        go_ret
        exact QRet.mk rfl
      · have hrn : decide (rowOf p n < n) = false := decide_eq_false (by have := rowOf_last (p := p) (R := n) (by omega); omega)
        have S1 := Lib.hid (show ∀ w, Calls Try.prog 27 #[.int .u64 p, .int .i64 n] w (QRet (.tuple #[.int .u64 0, .bool false]) w) from fun w => to_q (sib_no p n w hp (fun h => hs (by have := h.2; rwa [Int.toNat_natCast] at this))))
        clear hs ho
        go_enter Try.func7, Try.ntmps7
        go_wp2_with fail
        refine (R1.out _).mono ?_
        rintro e w' ⟨rfl, n120, rfl⟩
        go_wp2_with fail
        refine (L1.out _).mono ?_
        rintro e w' ⟨rfl, n121, rfl⟩
        go_wp2_with fail
        refine (L2.out _).mono ?_
        rintro e w' ⟨rfl, n122, rfl⟩
        go_wp2_with fail
        refine (L3.out _).mono ?_
        rintro e w' ⟨rfl, n123, rfl⟩
        go_wp2_with fail
        refine (L4.out _).mono ?_
        rintro e w' ⟨rfl, n124, rfl⟩
        go_wp2_with fail
        refine (L5.out _).mono ?_
        rintro e w' ⟨rfl, n125, rfl⟩
        go_wp2_with fail
        refine (L5.out _).mono ?_
        rintro e w' ⟨rfl, n126, rfl⟩
        go_wp2_with fail
        refine (L6.out _).mono ?_
        rintro e w' ⟨rfl, n127, rfl⟩
        go_wp2_with fail
        refine (L7.out _).mono ?_
        rintro e w' ⟨rfl, n128, rfl⟩
        go_wp2_with fail
        refine (L8.out _).mono ?_
        rintro e w' ⟨rfl, n129, rfl⟩
        go_wp2_with fail
        refine (L9.out _).mono ?_
        rintro e w' ⟨rfl, n130, rfl⟩
        go_wp2_with fail
        refine (LA.out _).mono ?_
        rintro e w' ⟨rfl, n131, rfl⟩
        go_wp2_with fail
        refine (S1.out _).mono ?_
        rintro e w' ⟨rfl, n132, rfl⟩
        go_wp2_with fail
        refine (awake_any _).mono ?_
        rintro e w' ⟨rfl, n133, rfl⟩
        go_wp2_with fail
        go_ret
        exact QRet.mk rfl
    · have hr : decide (0 < rowOf p n) = false := decide_eq_false (by have := (rowOf_low ho).2 (by omega); omega)
      have L1 := Lib.hid (show ∀ w, Calls Try.prog 25 #[.int .u64 p, .int .i64 n] w (QRet (.tuple #[.int .u64 0, .bool false]) w) from fun w => to_q (left_no p n w hp (fun h => hl (by have := h.2; rwa [Int.toNat_natCast] at this))))
      clear hl
      have L5 := Lib.hid (show ∀ w, Calls Try.prog 32 #[.int .u64 p, .bool true, .int .u64 p] w (QRet (.bool true) w) from fun w => by have := is_any p true p w; rwa [show (true && (p : Int) == p) = true from by simp] at this)
      by_cases hs : p + 2 < 2 ^ (n + 1)
      · obtain ⟨t1, t2, t3, t4⟩ := sib_spec hs
        have t5 := sib_par hs
        have hrn : decide (rowOf p n < n) = true := decide_eq_true (rowOf_top hs)
        have hne : (((sibOf p : Nat) : Int) == (p : Int)) = false := by simp; omega
        have S1 := Lib.hid (show ∀ w, Calls Try.prog 27 #[.int .u64 p, .int .i64 n] w (QRet (.tuple #[.int .u64 (sibOf p : Nat), .bool true]) w) from fun w => to_q (sib_yes p n w hn63 hs))
        have S2 := Lib.hid (show ∀ w, Calls Try.prog 27 #[.int .u64 (sibOf p : Nat), .int .i64 n] w (QRet (.tuple #[.int .u64 p, .bool true]) w) from fun w => by have := to_q (sib_yes (sibOf p) n w hn63 t1); rwa [t3] at this)
        have S3 := Lib.hid (show ∀ w, Calls Try.prog 19 #[.int .u64 p, .int .i64 n] w (QRet (.tuple #[.int .u64 (parOf p n : Nat), .bool true]) w) from fun w => to_q (parent_yes p n w hn63 hs))
        have S4 := Lib.hid (show ∀ w, Calls Try.prog 19 #[.int .u64 (sibOf p : Nat), .int .i64 n] w (QRet (.tuple #[.int .u64 (parOf p n : Nat), .bool true]) w) from fun w => by have := to_q (parent_yes (sibOf p) n w hn63 t1); rwa [t5] at this)
        have S5 := Lib.hid (show ∀ w, Calls Try.prog 18 #[.int .u64 (sibOf p : Nat), .int .i64 n] w (QRet (.tuple #[.int .i64 (rowOf p n : Nat), .bool true]) w) from fun w => by have := to_q (row_yes (sibOf p) n w hn63 (by omega)); rwa [t2] at this)
        clear t1 t2 t3 t4 t5 hs ho
        go_enter Try.func7, Try.ntmps7
        go_wp2_with fail
        refine (R1.out _).mono ?_
        rintro e w' ⟨rfl, n134, rfl⟩
        go_wp2_with fail
        refine (L1.out _).mono ?_
        rintro e w' ⟨rfl, n135, rfl⟩
        go_wp2_with fail
        refine (S1.out _).mono ?_
        rintro e w' ⟨rfl, n136, rfl⟩
        go_wp2_with fail
        refine (S2.out _).mono ?_
        rintro e w' ⟨rfl, n137, rfl⟩
        go_wp2_with fail
        refine (S3.out _).mono ?_
        rintro e w' ⟨rfl, n138, rfl⟩
        go_wp2_with fail
        refine (S4.out _).mono ?_
        rintro e w' ⟨rfl, n139, rfl⟩
        go_wp2_with fail
        refine (S5.out _).mono ?_
        rintro e w' ⟨rfl, n140, rfl⟩
        go_wp2_with fail
        refine (L5.out _).mono ?_
        rintro e w' ⟨rfl, n141, rfl⟩
        go_wp2_with fail
        refine (awake_any _).mono ?_
        rintro e w' ⟨rfl, n142, rfl⟩
        go_wp2_with fail
        go_ret
        exact QRet.mk rfl
      · have hrn : decide (rowOf p n < n) = false := decide_eq_false (by have := rowOf_last (p := p) (R := n) (by omega); omega)
        have S1 := Lib.hid (show ∀ w, Calls Try.prog 27 #[.int .u64 p, .int .i64 n] w (QRet (.tuple #[.int .u64 0, .bool false]) w) from fun w => to_q (sib_no p n w hp (fun h => hs (by have := h.2; rwa [Int.toNat_natCast] at this))))
        clear hs ho
        go_enter Try.func7, Try.ntmps7
        go_wp2_with fail
        refine (R1.out _).mono ?_
        rintro e w' ⟨rfl, n143, rfl⟩
        go_wp2_with fail
        refine (L1.out _).mono ?_
        rintro e w' ⟨rfl, n144, rfl⟩
        go_wp2_with fail
        refine (S1.out _).mono ?_
        rintro e w' ⟨rfl, n145, rfl⟩
        go_wp2_with fail
        refine (awake_any _).mono ?_
        rintro e w' ⟨rfl, n146, rfl⟩
        go_wp2_with fail
        go_ret
        exact QRet.mk rfl
  · have hno : ¬ PosOk p n := fun h => ho (by have := h.2.2; rwa [Int.toNat_natCast] at this)
    have R1 := Lib.hid (show ∀ w, Calls Try.prog 18 #[.int .u64 p, .int .i64 n] w (QRet (.tuple #[.int .i64 0, .bool false]) w) from fun w => to_q (row_no p n w hp hno))
    clear hno ho
    go_enter Try.func7, Try.ntmps7
    go_wp2_with fail
    refine (R1.out _).mono ?_
    rintro e w' ⟨rfl, n147, rfl⟩
    go_wp2_with fail
    refine (awake_any _).mono ?_
    rintro e w' ⟨rfl, n148, rfl⟩
    go_wp2_with fail
    go_ret
    exact QRet.mk rfl
end Go.Proofs.Ytpicfccgfkemlaa
