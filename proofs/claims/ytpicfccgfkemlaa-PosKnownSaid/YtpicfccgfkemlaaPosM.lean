/- The law PosRemaps. -/
import Derived.Test.YtpicfccgfkemlaaPosL
namespace Go.Proofs.Ytpicfccgfkemlaa
open Go.RowKit

theorem u8_nat {a : Int} (h : (Lit.int .u8 a).wf = true) : 0 ≤ a ∧ a ≤ 255 := by
  simpa [Lit.wf, IntKind.wrap, IntKind.bits, IntKind.signed, IntKind.min, IntKind.max] using h

theorem can_remap {p n m : Nat} (h : p + 1 < 2 ^ (n + 1)) (hm : n ≤ m) : CanRemap p n m := by
  have h1 := (rowOf_spec h).1
  have h2 := offOf_lt h
  have h3 := pw_le (a := n - rowOf p n) (b := m - rowOf p n) (by omega)
  exact ⟨by omega, by omega⟩
theorem remap_spec {p n m : Nat} (hc : CanRemap p n m) : remapOf p n m + 1 < 2 ^ (m + 1) ∧ rowOf (remapOf p n m) m = rowOf p n ∧ offOf (remapOf p n m) m = offOf p n := by
  obtain ⟨h1, h2⟩ := hc
  unfold remapOf
  exact ⟨beg_lt h1 h2, rowOf_beg h1 h2, offOf_beg h1 h2⟩
theorem remap_back {p n m : Nat} (h : p + 1 < 2 ^ (n + 1)) (hm : n ≤ m) : CanRemap (remapOf p n m) m n ∧ remapOf (remapOf p n m) m n = p := by
  obtain ⟨h1, h2, h3⟩ := remap_spec (can_remap h hm)
  have h4 := (rowOf_spec h).1
  have h5 := offOf_lt h
  refine ⟨⟨by omega, by rw [h3, h2]; exact h5⟩, ?_⟩
  show beg (rowOf (remapOf p n m) m) n + offOf (remapOf p n m) m = p
  rw [h2, h3]
  exact beg_off h
theorem remap_par {p n m : Nat} (h : p + 2 < 2 ^ (n + 1)) (hm : n ≤ m) : remapOf p n m + 2 < 2 ^ (m + 1) ∧ remapOf (parOf p n) n m = parOf (remapOf p n m) m := by
  obtain ⟨h1, h2, h3⟩ := remap_spec (can_remap (p := p) (by omega) hm)
  obtain ⟨p1, p2, p3⟩ := par_spec h
  have hr := rowOf_top h
  have ho := offOf_lt (p := p) (R := n) (by omega)
  have h4 : remapOf p n m + 2 < 2 ^ (m + 1) := by
    rcases Nat.lt_or_ge (remapOf p n m + 2) (2 ^ (m + 1)) with h5 | h5
    · exact h5
    · have := rowOf_last (p := remapOf p n m) (R := m) (by omega)
      omega
  refine ⟨h4, ?_⟩
  rw [par_eq h4, h2, h3]
  show beg (rowOf (parOf p n) n) m + offOf (parOf p n) n = _
  rw [p2, p3]

set_option maxHeartbeats 400000 in
theorem law_PosRemaps (a0 a1 a2 : Int) (w0 : (Lit.int .u64 a0).wf = true) (w1 : (Lit.int .u8 a1).wf = true) (w2 : (Lit.int .u8 a2).wf = true) (w : World) :
    Calls Try.prog 4 #[.int .u64 a0, .int .u8 a1, .int .u8 a2] w fun e w' => e = .returned (.bool true) ∧ Grown w w' := by
  obtain ⟨p, rfl, hp⟩ := u64_nat w0
  have h1 := u8_nat w1
  have h2 := u8_nat w2
  clear w0 w1 w2
  obtain ⟨n, hn⟩ := Int.eq_ofNat_of_zero_le (a := a1 % 64) (by omega)
  have hn63 : n ≤ 63 := by omega
  obtain ⟨k, hk⟩ := Int.eq_ofNat_of_zero_le (a := a2 % (64 - n)) (Int.emod_nonneg _ (by omega))
  have hk63 : n + k ≤ 63 := by
    have := Int.emod_lt_of_pos a2 (b := 64 - n) (by omega)
    omega
  refine Calls.mono (R := QRet (.bool true) w) ?_ fun _ _ => QRet.grown
  by_cases ho : p + 1 < 2 ^ (n + 1)
  · have r1 := can_remap (m := n + k) ho (by omega)
    obtain ⟨s1, s2, s3⟩ := remap_spec r1
    obtain ⟨b1, b2⟩ := remap_back (m := n + k) ho (by omega)
    have C1 := Lib.hid (show ∀ w, Calls Try.prog 17 #[.int .u64 p, .int .i64 n, .int .i64 ((n : Int) + k)] w (QRet (.tuple #[.int .u64 (remapOf p n (n + k) : Nat), .bool true]) w) from fun w => remap_yes p n (n + k) w hn63 hk63 ho r1)
    have C2 := Lib.hid (show ∀ w, Calls Try.prog 18 #[.int .u64 p, .int .i64 n] w (QRet (.tuple #[.int .i64 (rowOf p n : Nat), .bool true]) w) from fun w => to_q (row_yes p n w hn63 ho))
    have C3 := Lib.hid (show ∀ w, Calls Try.prog 17 #[.int .u64 (remapOf p n (n + k) : Nat), .int .i64 ((n : Int) + k), .int .i64 n] w (QRet (.tuple #[.int .u64 p, .bool true]) w) from fun w => by
      have := remap_yes (remapOf p n (n + k)) (n + k) n w hk63 hn63 s1 b1
      rwa [b2] at this)
    have C4 := Lib.hid (show ∀ w, Calls Try.prog 18 #[.int .u64 (remapOf p n (n + k) : Nat), .int .i64 ((n : Int) + k)] w (QRet (.tuple #[.int .i64 (rowOf p n : Nat), .bool true]) w) from fun w => by
      have := to_q (row_yes (remapOf p n (n + k)) (n + k) w hk63 s1)
      rwa [s2] at this)
    clear s1 s2 s3 b1 b2 r1
    by_cases hp2 : p + 2 < 2 ^ (n + 1)
    · obtain ⟨p1, p2⟩ := remap_par (m := n + k) hp2 (by omega)
      obtain ⟨q1, q2, q3⟩ := par_spec hp2
      have C5 := Lib.hid (show ∀ w, Calls Try.prog 19 #[.int .u64 p, .int .i64 n] w (QRet (.tuple #[.int .u64 (parOf p n : Nat), .bool true]) w) from fun w => to_q (parent_yes p n w hn63 hp2))
      have C6 := Lib.hid (show ∀ w, Calls Try.prog 17 #[.int .u64 (parOf p n : Nat), .int .i64 n, .int .i64 ((n : Int) + k)] w (QRet (.tuple #[.int .u64 (remapOf (parOf p n) n (n + k) : Nat), .bool true]) w) from fun w => remap_yes (parOf p n) n (n + k) w hn63 hk63 q1 (can_remap q1 (by omega)))
      have C7 := Lib.hid (show ∀ w, Calls Try.prog 19 #[.int .u64 (remapOf p n (n + k) : Nat), .int .i64 ((n : Int) + k)] w (QRet (.tuple #[.int .u64 (remapOf (parOf p n) n (n + k) : Nat), .bool true]) w) from fun w => by
        have := to_q (parent_yes (remapOf p n (n + k)) (n + k) w hk63 p1)
        rwa [← p2] at this)
      clear p1 p2 q1 q2 q3 hp2 ho
      go_enter Try.func4, Try.ntmps4
      go_wp2_with fail
      refine (C1.out _).mono ?_
      rintro e w' ⟨rfl, n1, rfl⟩
      go_wp2_with fail
      refine (C2.out _).mono ?_
      rintro e w' ⟨rfl, n2, rfl⟩
      go_wp2_with fail
      refine (C3.out _).mono ?_
      rintro e w' ⟨rfl, n3, rfl⟩
      go_wp2_with fail
      refine (C4.out _).mono ?_
      rintro e w' ⟨rfl, n4, rfl⟩
      go_wp2_with fail
      refine (C5.out _).mono ?_
      rintro e w' ⟨rfl, n5, rfl⟩
      go_wp2_with fail
      refine (C6.out _).mono ?_
      rintro e w' ⟨rfl, n6, rfl⟩
      go_wp2_with fail
      refine (C7.out _).mono ?_
      rintro e w' ⟨rfl, n7, rfl⟩
      go_wp2_with fail
      refine (awake_any _).mono ?_
      rintro e w' ⟨rfl, n8, rfl⟩
      go_wp2_with fail
      go_ret
      exact QRet.mk rfl
    · have C5 := Lib.hid (show ∀ w, Calls Try.prog 19 #[.int .u64 p, .int .i64 n] w (QRet (.tuple #[.int .u64 0, .bool false]) w) from fun w => to_q (parent_no p n w hp (fun h => hp2 (by have := h.2; rwa [Int.toNat_natCast] at this))))
      clear hp2 ho
      go_enter Try.func4, Try.ntmps4
      go_wp2_with fail
      refine (C1.out _).mono ?_
      rintro e w' ⟨rfl, n1, rfl⟩
      go_wp2_with fail
      refine (C2.out _).mono ?_
      rintro e w' ⟨rfl, n2, rfl⟩
      go_wp2_with fail
      refine (C3.out _).mono ?_
      rintro e w' ⟨rfl, n3, rfl⟩
      go_wp2_with fail
      refine (C4.out _).mono ?_
      rintro e w' ⟨rfl, n4, rfl⟩
      go_wp2_with fail
      refine (C5.out _).mono ?_
      rintro e w' ⟨rfl, n5, rfl⟩
      go_wp2_with fail
      refine (awake_any _).mono ?_
      rintro e w' ⟨rfl, n8, rfl⟩
      go_wp2_with fail
      go_ret
      exact QRet.mk rfl
  · have hno : ¬ PosOk p n := fun h => ho (by have := h.2.2; rwa [Int.toNat_natCast] at this)
    have C1 := Lib.hid (show ∀ w, Calls Try.prog 17 #[.int .u64 p, .int .i64 n, .int .i64 ((n : Int) + k)] w (QRet (.tuple #[.int .u64 0, .bool false]) w) from fun w => remap_no p n _ w hp (fun h => hno h.1))
    have C2 := Lib.hid (show ∀ w, Calls Try.prog 18 #[.int .u64 p, .int .i64 n] w (QRet (.tuple #[.int .i64 0, .bool false]) w) from fun w => to_q (row_no p n w hp hno))
    clear hno ho
    go_enter Try.func4, Try.ntmps4
    go_wp2_with fail
    refine (C1.out _).mono ?_
    rintro e w' ⟨rfl, n1, rfl⟩
    go_wp2_with fail
    refine (C2.out _).mono ?_
    rintro e w' ⟨rfl, n2, rfl⟩
    go_wp2_with fail
    refine (awake_any _).mono ?_
    rintro e w' ⟨rfl, n8, rfl⟩
    go_wp2_with fail
    go_ret
    exact QRet.mk rfl
end Go.Proofs.Ytpicfccgfkemlaa
