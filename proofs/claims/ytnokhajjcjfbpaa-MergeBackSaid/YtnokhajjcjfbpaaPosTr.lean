/- Trees of both sides: the list of heights. -/
import Derived.Test.YtnokhajjcjfbpaaPosT
import Derived.Test.YtnokhajjcjfbpaaBase
import Derived.Deep.AppendLies
namespace Go.Proofs.Ytnokhajjcjfbpaa
open Go.RowKit

/-- The heights from 62 down that the first k looks have found. -/
def trk (n : Nat) : Nat → List Int
  | 0 => []
  | k + 1 => if n / 2 ^ (62 - k) % 2 = 1 then trk n k ++ [((62 - k : Nat) : Int)] else trk n k
theorem trk_len (n k : Nat) : (trk n k).length ≤ k := by
  induction k with
  | zero => simp [trk]
  | succ k ih =>
    unfold trk
    split
    · simp; omega
    · omega
def trees (n : Nat) : List Int := trk n 63

theorem int_info : (Try.prog.info? 3).map (fun i => (i.zero, i.size, i.bytes)) = some (some (.int .i64 0), 1, 8) := by kernel_rfl

/-- It returns a slice of the call's own with these numbers. -/
def ListRet (k : IntKind) (t : TypeId) (zs : List Int) (w : World) (e : Ending) (w' : World) : Prop :=
  ∃ A c, e = .returned (.slice A zs.length c) ∧ w'.ownsRow w.heap.size t 1 (.slice A zs.length c) zs.length (zs.map (Value.int k)) ∧ Below w.heap.size w w'

theorem trk_yes {n k : Nat} (h : n / 2 ^ (62 - k) % 2 = 1) : trk n (k + 1) = trk n k ++ [((62 - k : Nat) : Int)] := by
  show (if _ then _ else _) = _
  rw [if_pos h]
theorem trk_no {n k : Nat} (h : ¬ n / 2 ^ (62 - k) % 2 = 1) : trk n (k + 1) = trk n k := by
  show (if _ then _ else _) = _
  rw [if_neg h]

end Go.Proofs.Ytnokhajjcjfbpaa
