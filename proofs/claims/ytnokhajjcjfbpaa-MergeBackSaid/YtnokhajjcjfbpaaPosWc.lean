/- pos.Tree. -/
import Derived.Test.YtnokhajjcjfbpaaPosWb
import Derived.Test.YtnokhajjcjfbpaaPosU
namespace Go.Proofs.Ytnokhajjcjfbpaa
open Go.RowKit Go.Shelf

def NRet (v : Value) (w : World) (e : Ending) (w' : World) : Prop := e = .returned v ∧ Below w.heap.size w w'

theorem way_last {n p : Nat} (h : InF n p) : (wayOf n p)[topK n p]? = some (anc p (rowsOf n) (topK n p)) := by
  rw [way_in h, List.getElem?_map, List.getElem?_range (by omega)]
  rfl
theorem way_len {n p : Nat} (h : InF n p) : (wayOf n p).length = topK n p + 1 := by rw [way_in h]; simp

set_option maxHeartbeats 1000000 in
theorem tree_yes (n p : Nat) (w : World) (h : InF n p) : Calls Try.prog 36 #[.int .u64 n, .int .u64 p] w (NRet (.tuple #[.int .i64 (treeOf n p : Nat), .bool true]) w) := by
  have hR := rows_le (n := n) (by have := h.1; omega)
  have hpu := p_u64 hR h.2.1
  have hw := way_any n p w (by have := h.1; omega) (by omega)
  have hl := way_len h
  have ha := anc_spec h.2.1 (topK n p) (tree_le h)
  have hx := way_last h
  have hn := h.1
  go_enter Try.func36, Try.ntmps36
  go_wp2_with fail
  refine hw.mono ?_
  rintro e w1 ⟨A, c, rfl, hown, hbel⟩
  obtain ⟨g, rfl, _, hlt, hc⟩ := own_at hown (k := topK n p) (by rw [ints_len]; omega)
  rw [List.getElem?_map, ints, List.getElem?_map, hx] at hc
  simp only [Option.map_some] at hc
  have hb : (1 : Int) ≤ (ints (wayOf n p)).length := by rw [ints_len]; omega
  have he : ((ints (wayOf n p)).length : Int) - 1 = (topK n p : Nat) := by rw [ints_len]; omega
  have ry := fun w => row_yes (anc p (rowsOf n) (topK n p)) (rowsOf n) w hR ha.1
  rw [ha.2.1] at ry
  have HB := Lib.hid hbel
  have HT := Lib.hid (show treeOf n p = rowOf p (rowsOf n) + topK n p from rfl)
  have hk63 : topK n p ≤ 63 := by have := tree_le h; unfold treeOf at this; omega
  clear hw hx ha hown hbel hl h hpu
  generalize (ints (wayOf n p)).length = L at *
  generalize anc p (rowsOf n) (topK n p) = X at *
  generalize topK n p = K at *
  obtain rfl : L = K + 1 := by omega
  clear he
  go_wp2_with (first
    | (go_at_call 35; refine (rows_yes n _ (by omega)).mono ?_; rintro e w' ⟨rfl, d1, rfl⟩)
    | (go_at_call 49; refine (ry _).mono ?_; rintro e w' ⟨rfl, d2, rfl⟩))
  go_ret2
  refine ⟨?_, HB.out⟩
  rw [HT.out, Int.natCast_add]
  rfl
set_option maxHeartbeats 1000000 in
theorem tree_no (n p : Nat) (w : World) (hnu : (n : Int) ≤ 18446744073709551615) (hpu : (p : Int) ≤ 18446744073709551615) (h : ¬ InF n p) : Calls Try.prog 36 #[.int .u64 n, .int .u64 p] w (NRet (.tuple #[.int .i64 0, .bool false]) w) := by
  have hw := way_any n p w hnu hpu
  rw [way_out h] at hw
  go_enter Try.func36, Try.ntmps36
  go_wp2_with fail
  refine hw.mono ?_
  rintro e w1 ⟨A, c, rfl, hown, hbel⟩
  have HB := Lib.hid hbel
  clear hw hown hbel
  go_wp2_with fail
  go_ret2
  exact ⟨rfl, HB.out⟩
end Go.Proofs.Ytnokhajjcjfbpaa
