/- The program's functions on numbers of four words: what each call returns. -/
import Derived.Test.YthmaijmjhfngpaaRows
import Derived.Test.YthmaijmjhfngpaaWidePl
import Derived.Test.YthmaijmjhfngpaaShelf
import Derived.Test.YthmaijmjhfngpaaBase
import Derived.WalkSpells
import Derived.WalkLawsBesides
import Derived.Lib.Hide
import Derived.Deep.RegionHeld3
import Derived.Deep.DrawnRows
import Derived.Laws.Externs
import Derived.Shelf.Spec.BitsCarry
namespace Go.Proofs.Ythmaijmjhfngpaa
open Go.RowKit

/-- It returns v; nothing that was there has turned. -/
def BRet (v : Value) (w : World) (e : Ending) (w' : World) : Prop := e = .returned v ∧ Below w.heap.size w w'

theorem run_add (x y c : Nat) (hc : c ≤ 1) (w : World) :
    (callFunc 45 #[.int .u64 x, .int .u64 y, .int .u64 c]).run Try.prog w =
      .ok (.value (.tuple #[.int .u64 (((x + y + c) % 18446744073709551616 : Nat) : Int), .int .u64 (((x + y + c) / 18446744073709551616 : Nat) : Int)])) w := by
  rw [run_callFunc_extern Try.func45 (by kernel_rfl) (by kernel_rfl) (by kernel_rfl) (e := add64Entry) (by kernel_rfl), run_add64 x y c (by omega) (by omega) (by omega) (by omega)]
  simp only [Result.andThen]
  congr 5 <;> omega

set_option maxRecDepth 100000 in
set_option maxHeartbeats 1000000 in
theorem add_any (a b : Nat) (w : World) (ha : a < w256) (hb : b < w256) :
    Calls Try.prog 22 #[.agg #[.int .u64 (wd a 0 : Nat), .int .u64 (wd a 1 : Nat), .int .u64 (wd a 2 : Nat), .int .u64 (wd a 3 : Nat)], .agg #[.int .u64 (wd b 0 : Nat), .int .u64 (wd b 1 : Nat), .int .u64 (wd b 2 : Nat), .int .u64 (wd b 3 : Nat)]] w (BRet (.tuple #[.agg #[.int .u64 (wd (addN a b) 0 : Nat), .int .u64 (wd (addN a b) 1 : Nat), .int .u64 (wd (addN a b) 2 : Nat), .int .u64 (wd (addN a b) 3 : Nat)], .bool (addOv a b)]) w) := by
  have r0 : ∀ w, (callFunc 45 #[.int .u64 (wd a 0 : Nat), .int .u64 (wd b 0 : Nat), .int .u64 0]).run Try.prog w = .ok (.value (.tuple #[.int .u64 (wd (addN a b) 0 : Nat), .int .u64 (cy a b 1 : Nat)])) w := fun w => by
    rw [add_wd a b 0 (by omega), cy_next, cy_zero]; exact run_add _ _ 0 (by omega) w
  have r1 : ∀ w, (callFunc 45 #[.int .u64 (wd a 1 : Nat), .int .u64 (wd b 1 : Nat), .int .u64 (cy a b 1 : Nat)]).run Try.prog w = .ok (.value (.tuple #[.int .u64 (wd (addN a b) 1 : Nat), .int .u64 (cy a b 2 : Nat)])) w := fun w => by
    rw [add_wd a b 1 (by omega), cy_next a b 1]; exact run_add _ _ _ (cy_le _ _ _) w
  have r2 : ∀ w, (callFunc 45 #[.int .u64 (wd a 2 : Nat), .int .u64 (wd b 2 : Nat), .int .u64 (cy a b 2 : Nat)]).run Try.prog w = .ok (.value (.tuple #[.int .u64 (wd (addN a b) 2 : Nat), .int .u64 (cy a b 3 : Nat)])) w := fun w => by
    rw [add_wd a b 2 (by omega), cy_next a b 2]; exact run_add _ _ _ (cy_le _ _ _) w
  have r3 : ∀ w, (callFunc 45 #[.int .u64 (wd a 3 : Nat), .int .u64 (wd b 3 : Nat), .int .u64 (cy a b 3 : Nat)]).run Try.prog w = .ok (.value (.tuple #[.int .u64 (wd (addN a b) 3 : Nat), .int .u64 (cy a b 4 : Nat)])) w := fun w => by
    rw [add_wd a b 3 (by omega), cy_next a b 3]; exact run_add _ _ _ (cy_le _ _ _) w
  have hov := cy_four ha hb
  go_enter Try.func22, Try.ntmps22
  go_wp2_with fail
  refine wp_loop_rounds 5 ?_
  rw [rounds_succ]
  go_wp2_with fail
  go_region
  go_wp2_with fail
  rw [rounds_succ]
  go_wp2_with fail
  go_region
  go_wp2_with fail
  rw [rounds_succ]
  go_wp2_with fail
  go_region
  go_wp2_with fail
  rw [rounds_succ]
  go_wp2_with fail
  go_region
  go_wp2_with fail
  rw [rounds_succ]
  go_wp2_with fail
  exact bodyPost_ret (v := .tuple #[.agg #[.int .u64 (wd (addN a b) 0 : Nat), .int .u64 (wd (addN a b) 1 : Nat), .int .u64 (wd (addN a b) 2 : Nat), .int .u64 (wd (addN a b) 3 : Nat)], .bool (addOv a b)]) (by simp [results, Try.results22, go_sem]) rfl ⟨rfl, by repeat' (first | exact Below.refl _ _ | refine bel_drewN ?_ _ | refine Below.drew ?_ | refine Below.alloc ?_ ?_ _ | refine Below.setCell ?_ ?_ _ | exact Nat.le_refl _ | (simp; done) | (simp; omega) | assumption)⟩
end Go.Proofs.Ythmaijmjhfngpaa
