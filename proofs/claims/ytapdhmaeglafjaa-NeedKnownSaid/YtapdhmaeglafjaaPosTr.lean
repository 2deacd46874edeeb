/- Trees of both sides: the list of heights. -/
import Derived.Test.YtapdhmaeglafjaaPosT
import Derived.Test.YtapdhmaeglafjaaBase
import Derived.Deep.AppendLies
namespace Go.Proofs.Ytapdhmaeglafjaa
open Go.RowKit

/-- The heights from 62 down that the first k looks have found. -/
def trk (n : Nat) : Nat → List Int
  | 0 => []
  | k + 1 => if n / 2 ^ (62 - k) % 2 = 1 then trk n k ++ [((62 - k : Nat) : Int)] else trk n k
theorem trk_len (n k : Nat) : (trk n k).length ≤ k := by
  induction k with
  | zero => simp [trk]
  | succ k ih =>
    unfold trk
    split
    · simp; omega
    · omega
def trees (n : Nat) : List Int := trk n 63

theorem int_info : (Try.prog.info? 3).map (fun i => (i.zero, i.size, i.bytes)) = some (some (.int .i64 0), 1, 8) := by kernel_rfl

/-- It returns a slice of the call's own with these numbers. -/
def ListRet (k : IntKind) (t : TypeId) (zs : List Int) (w : World) (e : Ending) (w' : World) : Prop :=
  ∃ A c, e = .returned (.slice A zs.length c) ∧ w'.ownsRow w.heap.size t 1 (.slice A zs.length c) zs.length (zs.map (Value.int k)) ∧ Below w.heap.size w w'

theorem trk_yes {n k : Nat} (h : n / 2 ^ (62 - k) % 2 = 1) : trk n (k + 1) = trk n k ++ [((62 - k : Nat) : Int)] := by
  show (if _ then _ else _) = _
  rw [if_pos h]
theorem trk_no {n k : Nat} (h : ¬ n / 2 ^ (62 - k) % 2 = 1) : trk n (k + 1) = trk n k := by
  show (if _ then _ else _) = _
  rw [if_neg h]

set_option maxHeartbeats 1000000 in
theorem refTrees_yes (n : Nat) (w : World) (hn : (n : Int) ≤ 9223372036854775807) : Calls Try.prog 60 #[.int .u64 n] w (ListRet .i64 3 (trees n) w) := by
  obtain ⟨i0, hi, hz0, hz1, hz2⟩ := info_parts int_info
  go_enter Try.func60, Try.ntmps60
  go_wp2_with fail
  go_loopw [3, 4] (fun v i wr => ∃ k : Nat, k ≤ 63 ∧ i = .int .i64 (62 - (k : Int)) ∧ ∃ A c, v = .slice A (trk n k).length c ∧ wr.ownsRow w.heap.size 3 1 (.slice A (trk n k).length c) (trk n k).length ((trk n k).map (Value.int .i64)) ∧ Below w.heap.size w wr)
    (fun _ i _ => (intOf i + 1).toNat)
  case atStart => exact ⟨0, by omega, rfl, none, 0, rfl, ⟨rfl, .inl ⟨rfl, rfl⟩⟩, Below.refl _ _⟩
  case round =>
    obtain ⟨k, hk, rfl, A, c, rfl, hown, hbel⟩ := hrel
    have hlen := trk_len n k
    by_cases hlt : k < 63
    · have e1 : (62 : Int) - k = ((62 - k : Nat) : Int) := by omega
      have E1 := Lib.hid e1
      rw [e1]
      have h62 : 62 - k ≤ 62 := by omega
      by_cases hbit : n / 2 ^ (62 - k) % 2 = 1
      · have HD := Lib.hid (decide_eq_true hbit)
        have T := Lib.hid (trk_yes hbit)
        clear hbit e1
        generalize hL : trk n k = L at *
        have HL := Lib.hid hL
        clear hL
        have hsz := hbel.size
        go_wp2_with fail
        refine (has_any _ _ _ (by omega) (by omega)).mono ?_
        rintro e w' ⟨rfl, rfl⟩
        rw [HD.out]
        go_wp2_with (at_builtin; refine wpList_append_lies _ rfl _ _ 90 rfl w.heap.size 3 i0 (.int .i64 0) 1 8 Try.underlying90 hi hz0 hz1 hz2 rfl (by decide) (.slice A L.length c) L.length _ rfl (hown.alloc _) ⟨wr.heap.size, 0, none⟩ 1 1 [.int .i64 ((62 - k : Nat) : Int)] rfl rfl (cell_one_new _ _ _) (by simp [Value.oneCell']) (by decide) (by simp only [maxLen]; omega) (by omega) (by simp; omega) (wr.heap.size + 1) (by simp) ?_; intro g cap w1 hown1 hgrow hat hlt1)
        refine ⟨⟨k + 1, by omega, by go_num, some ⟨g, 0, none⟩, cap, ?_, ?_, bel_append hbel hsz hown hgrow⟩, by simp [intOf]⟩
        · rw [T.out]; simp
        · rw [T.out]; simpa using hown1
      · have HD := Lib.hid (decide_eq_false hbit)
        have T := Lib.hid (trk_no hbit)
        clear hbit e1
        go_wp2_with fail
        refine (has_any _ _ _ (by omega) (by omega)).mono ?_
        rintro e w' ⟨rfl, rfl⟩
        rw [HD.out]
        go_wp2_with fail
        refine ⟨⟨k + 1, by omega, by go_num, A, c, ?_, ?_, hbel⟩, by simp [intOf]⟩
        · rw [T.out]
        · rw [T.out]; exact hown
    · obtain rfl : k = 63 := by omega
      go_wp2_with fail
      go_ret
      exact ⟨A, c, rfl, hown, hbel⟩

set_option maxHeartbeats 1000000 in
theorem refTrees_no (n : Nat) (w : World) (hn : ¬ (n : Int) ≤ 9223372036854775807) : Calls Try.prog 60 #[.int .u64 n] w (ListRet .i64 3 [] w) := by
  have h' : (9223372036854775807 : Int) < n := by omega
  clear hn
  go_enter Try.func60, Try.ntmps60
  go_wp2_with fail
  refine wp_loop_rounds 1 ?_
  rw [rounds_succ]
  go_wp2_with fail
  go_ret
  exact ⟨none, 0, rfl, ⟨rfl, .inl ⟨rfl, rfl⟩⟩, Below.refl _ _⟩
end Go.Proofs.Ytapdhmaeglafjaa
