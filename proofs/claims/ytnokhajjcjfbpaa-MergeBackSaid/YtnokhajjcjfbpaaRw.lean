/- The document's Way, Tree, Is. -/
import Derived.Test.YtnokhajjcjfbpaaPosWc
import Derived.Test.YtnokhajjcjfbpaaPosL
import Derived.Test.YtnokhajjcjfbpaaPosTr
namespace Go.Proofs.Ytnokhajjcjfbpaa
open Go.RowKit Go.Shelf

/-- Root's answer beside a position of the way: is it the root? -/
theorem ref_at {n p k : Nat} (hn : n ≤ 9223372036854775807) (hp : p + 1 < 2 ^ (rowsOf n + 1)) (hk : rowOf p (rowsOf n) + k ≤ rowsOf n) : ∃ (q : Nat) (t : Bool), (∀ W, Calls Try.prog 57 #[.int .u64 n, .int .i64 (rowOf (anc p (rowsOf n) k) (rowsOf n) : Nat)] W (QRet (.tuple #[.int .u64 q, .bool t]) W)) ∧ ((t = true ∧ q = anc p (rowsOf n) k) ↔ WayAt n p k) := by
  have hR := rows_le (n := n) (by omega)
  have a1 := anc_spec hp k (by omega)
  rw [a1.2.1]
  by_cases hbit : n / 2 ^ (rowOf p (rowsOf n) + k) % 2 = 1
  · refine ⟨rootOf n (rowOf p (rowsOf n) + k), true, fun W => refRoot_yes n (rowOf p (rowsOf n) + k) W (by omega) hbit, by simpa using wayAt_iff hn hp (by omega) hbit⟩
  · refine ⟨0, false, fun W => refRoot_no n _ W (by omega) ?_, ⟨fun h => (by cases h.1), fun h => absurd h.1 hbit⟩⟩
    rintro ⟨_, _, h3⟩
    rw [Int.toNat_natCast] at h3
    exact hbit h3

theorem p_u64' {p R : Nat} (hR : R ≤ 63) (h : p + 1 < 2 ^ (R + 1)) : (p : Int) ≤ 18446744073709551615 := by
  have := p_u64 hR h
  omega
theorem top_no {p R : Nat} (_ : p + 1 < 2 ^ (R + 1)) (hr : R ≤ rowOf p R) : ¬ (PosOk p R ∧ p + 2 < 2 ^ (((R : Nat) : Int).toNat + 1)) := fun hc => by
  have h1 := hc.2
  rw [Int.toNat_natCast] at h1
  have := rowOf_top h1
  omega
def sliceN : Value → Nat
  | .slice _ n _ => n
  | _ => 0
set_option maxHeartbeats 2000000 in
theorem refWay_case (n p : Nat) (w : World) (hn : n ≤ 9223372036854775807) (hp : p + 1 < 2 ^ (rowsOf n + 1)) : Calls Try.prog 43 #[.int .u64 n, .int .u64 p] w (ListRet .u64 22 (ints (wayOf n p)) w) := by
  obtain ⟨i0, hi, hz0, hz1, hz2⟩ := info_parts u64_info
  have hR := rows_le (n := n) (by omega)
  go_enter Try.func43, Try.ntmps43
  go_wp2_with (go_at_call 46; refine (refRows_yes n _ (by omega)).mono ?_; rintro e w' ⟨rfl, rfl⟩)
  have hr0 := (rowOf_spec hp).1
  go_loopw [1, 7, 8, 9, 10, 11, 12, 13, 14] (fun v1 v7 _ _ _ _ _ _ _ wr => ∃ k : Nat, rowOf p (rowsOf n) + k ≤ rowsOf n ∧ v1 = .int .u64 (anc p (rowsOf n) k : Nat) ∧ (∀ j, j < k → ¬ WayAt n p j) ∧ ∃ A c, v7 = .slice A k c ∧ wr.ownsRow w.heap.size 22 1 (.slice A k c) k ((ints (ups p (rowsOf n) k)).map (Value.int .u64)) ∧ Below w.heap.size w wr)
    (fun _ v7 _ _ _ _ _ _ _ _ => 70 - sliceN v7)
  case atStart => exact ⟨0, by omega, rfl, fun j hj => by omega, none, 0, rfl, ⟨rfl, .inl ⟨rfl, rfl⟩⟩, Below.refl _ _⟩
  case round =>
    obtain ⟨k, hk, rfl, hno, A, c, rfl, hown, hbel⟩ := hrel
    have a1 := anc_spec hp k hk
    have hsz := hbel.size
    obtain ⟨q, t, RT, hqt⟩ := ref_at hn hp hk
    have PL := Lib.hid fun w => place_yes (anc p (rowsOf n) k) (rowsOf n) w hR a1.1
    have ex : (ints (ups p (rowsOf n) k)).map (Value.int .u64) ++ [.int .u64 (anc p (rowsOf n) k : Nat)] = (ints (ups p (rowsOf n) (k + 1))).map (Value.int .u64) := by
      rw [ups_succ]; simp [ints]
    have EX := Lib.hid ex
    have RT' := Lib.hid RT
    have hk64 : k ≤ 63 := by omega
    clear ex RT
    by_cases hw : WayAt n p k
    · obtain ⟨rfl, rfl⟩ := hqt.2 hw
      have WY := Lib.hid (show wayOf n p = ups p (rowsOf n) (k + 1) from by
        have hin := (inF_iff hn hp).2 ⟨k, hw⟩
        rw [way_in hin, topK_eq hn hw]
        rfl)
      have A1 := Lib.hid a1
      clear hqt hw hno a1
      generalize anc p (rowsOf n) k = y at *
      go_wp2_with (first
        | (go_at_call 44; refine (PL.out _).mono ?_; rintro e w' ⟨rfl, rfl⟩)
        | (go_at_call 57; refine (RT'.out _).mono ?_; rintro e w' ⟨rfl, d1, rfl⟩)
        | (at_builtin; refine wpList_append_lies _ rfl _ _ 24 rfl w.heap.size 22 i0 (.int .u64 0) 1 8 Try.underlying24 hi hz0 hz1 hz2 rfl (by decide) (.slice A k c) k _ rfl (hown.alloc _) ⟨wr.heap.size, 0, none⟩ 1 1 [.int .u64 (y : Nat)] rfl rfl (cell_one_new _ _ _) (by simp [Value.oneCell']) (by decide) (by simp only [maxLen]; omega) (by omega) (by simp; omega) (wr.heap.size + 1) (by simp) ?_; intro g cap w1 hown1 hgrow hat hlt1))
      go_ret
      rw [WY.out]
      have hl : (ints (ups p (rowsOf n) (k + 1))).length = k + 1 := by rw [ints_len, ups_len]
      refine ⟨some ⟨g, 0, none⟩, cap, by rw [hl]; rfl, ?_, bel_drewN (bel_append hbel hsz hown hgrow) _⟩
      rw [hl, ← EX.out]
      exact hown1
    · have hq : (t && ((q : Int) == (anc p (rowsOf n) k : Nat))) = false := by
        cases t
        · rfl
        · simp only [Bool.true_and]
          rw [beq_eq_false_iff_ne]
          exact fun e => hw (hqt.1 ⟨rfl, by omega⟩)
      have NO := Lib.hid (show ∀ j, j < k + 1 → ¬ WayAt n p j from fun j hj => by
        rcases Nat.lt_or_ge j k with h | h
        · exact hno j h
        · rw [show j = k from by omega]; exact hw)
      clear hqt hno
      by_cases hlt : rowOf p (rowsOf n) + k < rowsOf n
      · have PR := Lib.hid fun w => refParent_yes (anc p (rowsOf n) k) (rowsOf n) w hR (below_last a1.1 (by omega))
        have PY := Lib.hid (show anc p (rowsOf n) (k + 1) = parOf (anc p (rowsOf n) k) (rowsOf n) from rfl)
        clear hw a1
        generalize anc p (rowsOf n) k = y at *
        generalize parOf y (rowsOf n) = z at *
        cases t
        · clear hq
          go_wp2_with (first
            | (go_at_call 44; refine (PL.out _).mono ?_; rintro e w' ⟨rfl, rfl⟩)
            | (go_at_call 57; refine (RT'.out _).mono ?_; rintro e w' ⟨rfl, d1, rfl⟩)
            | (go_at_call 58; refine (PR.out _).mono ?_; rintro e w' ⟨rfl, d2, rfl⟩)
            | (at_builtin; refine wpList_append_lies _ rfl _ _ 24 rfl w.heap.size 22 i0 (.int .u64 0) 1 8 Try.underlying24 hi hz0 hz1 hz2 rfl (by decide) (.slice A k c) k _ rfl (hown.alloc _) ⟨wr.heap.size, 0, none⟩ 1 1 [.int .u64 (y : Nat)] rfl rfl (cell_one_new _ _ _) (by simp [Value.oneCell']) (by decide) (by simp only [maxLen]; omega) (by omega) (by simp; omega) (wr.heap.size + 1) (by simp) ?_; intro g cap w1 hown1 hgrow hat hlt1))
          refine ⟨⟨k + 1, by omega, by rw [PY.out], NO.out, some ⟨g, 0, none⟩, cap, rfl, ?_, bel_drewN (bel_append hbel hsz hown hgrow) _⟩, by simp [sliceN]; omega⟩
          rw [← EX.out]
          exact hown1
        · simp only [Bool.true_and] at hq
          go_wp2_with (first
            | (go_at_call 44; refine (PL.out _).mono ?_; rintro e w' ⟨rfl, rfl⟩)
            | (go_at_call 57; refine (RT'.out _).mono ?_; rintro e w' ⟨rfl, d1, rfl⟩)
            | (go_at_call 58; refine (PR.out _).mono ?_; rintro e w' ⟨rfl, d2, rfl⟩)
            | (at_builtin; refine wpList_append_lies _ rfl _ _ 24 rfl w.heap.size 22 i0 (.int .u64 0) 1 8 Try.underlying24 hi hz0 hz1 hz2 rfl (by decide) (.slice A k c) k _ rfl (hown.alloc _) ⟨wr.heap.size, 0, none⟩ 1 1 [.int .u64 (y : Nat)] rfl rfl (cell_one_new _ _ _) (by simp [Value.oneCell']) (by decide) (by simp only [maxLen]; omega) (by omega) (by simp; omega) (wr.heap.size + 1) (by simp) ?_; intro g cap w1 hown1 hgrow hat hlt1))
          refine ⟨⟨k + 1, by omega, by rw [PY.out], NO.out, some ⟨g, 0, none⟩, cap, rfl, ?_, bel_drewN (bel_append hbel hsz hown hgrow) _⟩, by simp [sliceN]; omega⟩
          rw [← EX.out]
          exact hown1
      · have PR := Lib.hid fun w => refParent_no (anc p (rowsOf n) k) (rowsOf n) w (p_u64' hR a1.1) (top_no a1.1 (by omega))
        have WY := Lib.hid (show wayOf n p = [] from way_out fun hin => by
          obtain ⟨j, hj⟩ := (inF_iff hn hp).1 hin
          have := wayAt_le hn hj
          exact NO.out j (by omega) hj)
        clear hw a1
        generalize anc p (rowsOf n) k = y at *
        rw [WY.out]
        cases t
        · clear hq
          go_wp2_with (first
            | (go_at_call 44; refine (PL.out _).mono ?_; rintro e w' ⟨rfl, rfl⟩)
            | (go_at_call 57; refine (RT'.out _).mono ?_; rintro e w' ⟨rfl, d1, rfl⟩)
            | (go_at_call 58; refine (PR.out _).mono ?_; rintro e w' ⟨rfl, d2, rfl⟩)
            | (at_builtin; refine wpList_append_lies _ rfl _ _ 24 rfl w.heap.size 22 i0 (.int .u64 0) 1 8 Try.underlying24 hi hz0 hz1 hz2 rfl (by decide) (.slice A k c) k _ rfl (hown.alloc _) ⟨wr.heap.size, 0, none⟩ 1 1 [.int .u64 (y : Nat)] rfl rfl (cell_one_new _ _ _) (by simp [Value.oneCell']) (by decide) (by simp only [maxLen]; omega) (by omega) (by simp; omega) (wr.heap.size + 1) (by simp) ?_; intro g cap w1 hown1 hgrow hat hlt1))
          go_ret
          exact ⟨none, 0, rfl, ⟨rfl, .inl ⟨rfl, rfl⟩⟩, bel_drewN (bel_append hbel hsz hown hgrow) _⟩
        · simp only [Bool.true_and] at hq
          go_wp2_with (first
            | (go_at_call 44; refine (PL.out _).mono ?_; rintro e w' ⟨rfl, rfl⟩)
            | (go_at_call 57; refine (RT'.out _).mono ?_; rintro e w' ⟨rfl, d1, rfl⟩)
            | (go_at_call 58; refine (PR.out _).mono ?_; rintro e w' ⟨rfl, d2, rfl⟩)
            | (at_builtin; refine wpList_append_lies _ rfl _ _ 24 rfl w.heap.size 22 i0 (.int .u64 0) 1 8 Try.underlying24 hi hz0 hz1 hz2 rfl (by decide) (.slice A k c) k _ rfl (hown.alloc _) ⟨wr.heap.size, 0, none⟩ 1 1 [.int .u64 (y : Nat)] rfl rfl (cell_one_new _ _ _) (by simp [Value.oneCell']) (by decide) (by simp only [maxLen]; omega) (by omega) (by simp; omega) (wr.heap.size + 1) (by simp) ?_; intro g cap w1 hown1 hgrow hat hlt1))
          go_ret
          exact ⟨none, 0, rfl, ⟨rfl, .inl ⟨rfl, rfl⟩⟩, bel_drewN (bel_append hbel hsz hown hgrow) _⟩

theorem refWay_else (n p : Nat) (w : World) (hpu : (p : Int) ≤ 18446744073709551615) (h : ¬ (n ≤ 9223372036854775807 ∧ p + 1 < 2 ^ (rowsOf n + 1))) : Calls Try.prog 43 #[.int .u64 n, .int .u64 p] w (ListRet .u64 22 [] w) := by
  by_cases hn : n ≤ 9223372036854775807
  · have hp : ¬ PosOk p (rowsOf n : Nat) := fun hc => h ⟨hn, by
      have := hc.2.2
      rwa [Int.toNat_natCast] at this⟩
    go_enter Try.func43, Try.ntmps43
    go_wp2_with (go_at_call 46; refine (refRows_yes n _ (by omega)).mono ?_; rintro e w' ⟨rfl, rfl⟩)
    go_loopw [1, 7, 8, 9, 10, 11, 12, 13, 14] (fun v1 v7 _ _ _ _ _ _ _ wr => v1 = .int .u64 p ∧ v7 = .slice none 0 0 ∧ wr = w) (fun _ _ _ _ _ _ _ _ _ _ => 0)
    case atStart => exact ⟨rfl, rfl, rfl⟩
    case round =>
      obtain ⟨rfl, rfl, rfl⟩ := hrel
      go_wp2_with (go_at_call 44; refine (place_no p (rowsOf n : Nat) _ hpu hp).mono ?_; rintro e w' ⟨rfl, rfl⟩)
      go_ret
      exact ⟨none, 0, rfl, ⟨rfl, .inl ⟨rfl, rfl⟩⟩, Below.refl _ _⟩
  · have hr0 : ¬ (n : Int) ≤ 9223372036854775807 := by omega
    go_enter Try.func43, Try.ntmps43
    go_wp2_with (go_at_call 46; refine (refRows_no n _ hr0).mono ?_; rintro e w' ⟨rfl, rfl⟩)
    go_ret
    exact ⟨none, 0, rfl, ⟨rfl, .inl ⟨rfl, rfl⟩⟩, Below.refl _ _⟩
/-- The document's Way, of any numbers. -/
theorem refWay_any (n p : Nat) (w : World) (hpu : (p : Int) ≤ 18446744073709551615) : Calls Try.prog 43 #[.int .u64 n, .int .u64 p] w (ListRet .u64 22 (ints (wayOf n p)) w) := by
  by_cases h : n ≤ 9223372036854775807 ∧ p + 1 < 2 ^ (rowsOf n + 1)
  · exact refWay_case n p w h.1 h.2
  · rw [way_out (fun hc => h ⟨hc.1, hc.2.1⟩)]
    exact refWay_else n p w hpu h

set_option maxHeartbeats 1000000 in
theorem refTree_yes (n p : Nat) (w : World) (h : InF n p) : Calls Try.prog 68 #[.int .u64 n, .int .u64 p] w (NRet (.tuple #[.int .i64 (treeOf n p : Nat), .bool true]) w) := by
  have hR := rows_le (n := n) (by have := h.1; omega)
  have hpu := p_u64 hR h.2.1
  have hw := refWay_any n p w (by omega)
  have hl := way_len h
  have ha := anc_spec h.2.1 (topK n p) (tree_le h)
  have hx := way_last h
  have hn := h.1
  go_enter Try.func68, Try.ntmps68
  go_wp2_with fail
  refine hw.mono ?_
  rintro e w1 ⟨A, c, rfl, hown, hbel⟩
  obtain ⟨g, rfl, _, hlt, hc⟩ := own_at hown (k := topK n p) (by rw [ints_len]; omega)
  rw [List.getElem?_map, ints, List.getElem?_map, hx] at hc
  simp only [Option.map_some] at hc
  have hb : (1 : Int) ≤ (ints (wayOf n p)).length := by rw [ints_len]; omega
  have he : ((ints (wayOf n p)).length : Int) - 1 = (topK n p : Nat) := by rw [ints_len]; omega
  have ry := fun w => refRow_yes (anc p (rowsOf n) (topK n p)) (rowsOf n) w hR ha.1
  rw [ha.2.1] at ry
  have HB := Lib.hid hbel
  have HT := Lib.hid (show treeOf n p = rowOf p (rowsOf n) + topK n p from rfl)
  have hk63 : topK n p ≤ 63 := by have := tree_le h; unfold treeOf at this; omega
  clear hw hx ha hown hbel hl h hpu
  generalize (ints (wayOf n p)).length = L at *
  generalize anc p (rowsOf n) (topK n p) = X at *
  generalize topK n p = K at *
  obtain rfl : L = K + 1 := by omega
  clear he
  go_wp2_with (first
    | (go_at_call 46; refine (refRows_yes n _ (by omega)).mono ?_; rintro e w' ⟨rfl, rfl⟩)
    | (go_at_call 81; refine (ry _).mono ?_; rintro e w' ⟨rfl, rfl⟩))
  go_ret2
  refine ⟨?_, HB.out⟩
  rw [HT.out, Int.natCast_add]
  rfl
set_option maxHeartbeats 1000000 in
theorem refTree_no (n p : Nat) (w : World) (hpu : (p : Int) ≤ 18446744073709551615) (h : ¬ InF n p) : Calls Try.prog 68 #[.int .u64 n, .int .u64 p] w (NRet (.tuple #[.int .i64 0, .bool false]) w) := by
  have hw := refWay_any n p w hpu
  rw [way_out h] at hw
  go_enter Try.func68, Try.ntmps68
  go_wp2_with fail
  refine hw.mono ?_
  rintro e w1 ⟨A, c, rfl, hown, hbel⟩
  have HB := Lib.hid hbel
  clear hw hown hbel
  go_wp2_with fail
  go_ret2
  exact ⟨rfl, HB.out⟩
/-- Is: of any numbers. -/
theorem refIs_any (n p : Nat) (w : World) (hpu : (p : Int) ≤ 18446744073709551615) : Calls Try.prog 55 #[.int .u64 n, .int .u64 p] w (NRet (.bool (decide (InF n p))) w) := by
  obtain ⟨v, b, hb, hc⟩ : ∃ (v : Nat) (b : Bool), decide (InF n p) = b ∧ ∀ w, Calls Try.prog 68 #[.int .u64 n, .int .u64 p] w (NRet (.tuple #[.int .i64 v, .bool b]) w) := by
    by_cases h : InF n p
    · exact ⟨_, true, decide_eq_true h, fun w => refTree_yes n p w h⟩
    · exact ⟨0, false, decide_eq_false h, fun w => refTree_no n p w hpu h⟩
  rw [hb]
  clear hb
  go_enter Try.func55, Try.ntmps55
  go_wp2_with fail
  refine (hc _).mono ?_
  rintro e w1 ⟨rfl, hbel⟩
  have HB := Lib.hid hbel
  clear hbel hc
  go_wp2_with fail
  go_ret
  exact ⟨rfl, HB.out⟩
theorem refRows12 (n : Nat) (w : World) (h : n ≤ 9223372036854775807) : Calls Try.prog 32 #[.int .u64 n] w (QRet (.int .i64 (rowsOf n : Nat)) w) := by
  go_enter Try.func32, Try.ntmps32
  go_wp2_with (go_at_call 46; refine (refRows_yes n _ (by omega)).mono ?_; rintro e w' ⟨rfl, rfl⟩)
  go_ret
  exact QRet.mk0 rfl
end Go.Proofs.Ytnokhajjcjfbpaa
