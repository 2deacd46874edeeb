/- need.made's contracts; Check, Ways, isRoot. -/
import Derived.Test.YtnokhajjcjfbpaaMb
import Derived.Test.YtnokhajjcjfbpaaRis
namespace Go.Proofs.Ytnokhajjcjfbpaa
open Go.RowKit Go.Shelf

theorem valid_u64 {n : Nat} {ts : List Nat} (h : Valid n ts) : ∀ t ∈ ts, (t : Int) ≤ 18446744073709551615 := fun t ht => by
  have := inF_u64 (h.2.1 t ht)
  omega
theorem made_yes (n : Nat) (ts : List Nat) (A : Option Addr) (c : Nat) (w : World) (hlen : ts.length ≤ 1000) (hs : SliceG w A ts) (hv : Valid n ts) : Calls Try.prog 24 #[.int .u64 n, .slice A ts.length c] w (MadeYes n ts w) :=
  (made_walk n ts A c w hv.1 hlen (valid_u64 hv) hs).mono fun e w' h => by
    rcases h with h | h
    · exact h.2
    · exact absurd hv h.1
set_option maxHeartbeats 1000000 in
theorem made_no (n : Nat) (ts : List Nat) (A : Option Addr) (c : Nat) (w : World) (hnu : (n : Int) ≤ 18446744073709551615) (hlen : ts.length ≤ 1000) (hu : ∀ t ∈ ts, (t : Int) ≤ 18446744073709551615) (hs : SliceG w A ts) (hv : ¬ Valid n ts) : Calls Try.prog 24 #[.int .u64 n, .slice A ts.length c] w (MadeNo w) := by
  by_cases hn : n ≤ 9223372036854775807
  · exact (made_walk n ts A c w hn hlen hu hs).mono fun e w' h => by
      rcases h with h | h
      · exact absurd h.1 hv
      · exact h.2
  · have hr : ¬ (n : Int) ≤ 9223372036854775807 := by omega
    clear hu hs hv hn
    go_enter Try.func24, Try.ntmps24
    go_wp2_with (go_at_call 35; refine (rows_no n _ hr).mono ?_; rintro e w' ⟨rfl, d1, rfl⟩)
    refine bodyPost_ret (results_cell_two rfl Try.isAgg66 Try.isAgg40 _ _ w.heap.size (w.heap.size + 1) (.pointer none) (.int .i64 2) rfl rfl ?_ ?_) rfl ?_
    · exact ((IsBlk.new w 66 #[.pointer none]).alloc _).cell 0
    · exact (IsBlk.newAt (w := w.alloc (.cells #[.pointer none] 66)) 40 #[.int .i64 2] (by simp)).cell 0
    · exact ⟨rfl, ((Below.refl _ w).alloc (by simp) _).alloc (by simp) _⟩

/-- A list and no error; none and the error. -/
def ListOK (l : List Nat) (w : World) (e : Ending) (w' : World) : Prop :=
  ∃ A c, e = .returned (.tuple #[.slice A l.length c, .int .i64 0]) ∧ w'.ownsRow w.heap.size 22 1 (.slice A l.length c) l.length ((ints l).map (Value.int .u64)) ∧ Below w.heap.size w w'
def ListErr (w : World) (e : Ending) (w' : World) : Prop := e = .returned (.tuple #[.slice none 0 0, .int .i64 2]) ∧ Below w.heap.size w w'
/-- The rising list of all that is on ways. -/
def IsWays (n : Nat) (ts : List Nat) (l : List Nat) : Prop := l.Pairwise (fun a b => a < b) ∧ ∀ x, x ∈ l ↔ OnWay n ts x

theorem onway_u64 {n : Nat} {ts : List Nat} (hv : Valid n ts) {x : Nat} (h : OnWay n ts x) : InF n x := by
  obtain ⟨t, h1, h2⟩ := h
  exact in_way (hv.2.1 t h1) h2
set_option maxHeartbeats 1000000 in
theorem isRoot_any (n p P m1 m2 : Nat) (w : World) (hP : PlanB w P m1 m2 n (rowsOf n)) (h : InF n p) : Calls Try.prog 25 #[.pointer (some ⟨P, 0, none⟩), .int .u64 p] w (NRet (.bool (decide (topK n p = 0))) w) := by
  have te := fun w => tree_yes n p w h
  have rt := fun w => root_yes n (treeOf n p) w (by have := h.1; omega) (tree_bit h)
  have hrt := tree_root h
  have hE : (((rootOf n (treeOf n p) : Nat) : Int) == (p : Int)) = decide (topK n p = 0) := by
    have key : rootOf n (treeOf n p) = p ↔ topK n p = 0 := by
      rw [← hrt]
      constructor
      · intro e
        have h1 := tree_le h
        unfold treeOf at h1
        have h2 := (anc_spec h.2.1 (topK n p) h1).2.1
        rw [e] at h2
        omega
      · intro e
        rw [e]
        rfl
    rw [Bool.eq_iff_iff]
    simp only [beq_iff_eq, decide_eq_true_eq]
    rw [← key]
    omega
  have TE := Lib.hid te; have RT := Lib.hid rt; have HE := Lib.hid hE
  clear te rt hrt hE
  generalize rootOf n (treeOf n p) = X at *
  have c0 := IsBlk.cell hP 0
  simp at c0
  go_enter Try.func25, Try.ntmps25
  go_wp2_with (first
    | (go_at_call 36; refine (TE.out _).mono ?_; rintro e w3 ⟨rfl, hb3⟩; have c1 := IsBlk.cell (IsBlk.after hP hb3) 0; simp at c1; have HB := Lib.hid hb3; clear hb3)
    | (go_at_call 38; refine (RT.out _).mono ?_; rintro e w' ⟨rfl, d1, rfl⟩))
  go_ret
  refine ⟨?_, bel_drewN HB.out _⟩
  rw [← HE.out]
  rfl
end Go.Proofs.Ytnokhajjcjfbpaa
