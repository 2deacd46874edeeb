/- Emptied: plain; the plan's method, walked. -/
import Derived.Test.YtnokhajjcjfbpaaMc
namespace Go.Proofs.Ytnokhajjcjfbpaa
open Go.RowKit Go.Shelf

def onB (n : Nat) (ts : List Nat) (p : Nat) : Bool := ts.any fun t => decide (p ∈ wayOf n t)
theorem onB_iff (n : Nat) (ts : List Nat) (p : Nat) : onB n ts p = true ↔ OnWay n ts p := by
  unfold onB OnWay
  rw [List.any_eq_true]
  simp
/-- Emptied, of one that is below no target: so many rows down. -/
def empF (n : Nat) (ts : List Nat) : Nat → Nat → Bool
  | 0, p => decide (p ∈ ts)
  | r + 1, p => if p ∈ ts then true else if onB n ts p then empF n ts r (leftOf p (rowsOf n)) && empF n ts r (leftOf p (rowsOf n) + 1) else false
def emp (n : Nat) (ts : List Nat) (p : Nat) : Bool := empF n ts (rowOf p (rowsOf n)) p
/-- Emptied. -/
def goneB (n : Nat) (ts : List Nat) (p : Nat) : Bool := (wayOf n p).any (fun a => decide (a ∈ ts)) || emp n ts p

/-- Children of the forest's positions are the forest's. -/
theorem child_in {n p : Nat} (h : InF n p) (h0 : 1 ≤ rowOf p (rowsOf n)) : 2 ^ rowsOf n ≤ p ∧ InF n (leftOf p (rowsOf n)) ∧ InF n (leftOf p (rowsOf n) + 1) ∧ rowOf (leftOf p (rowsOf n)) (rowsOf n) = rowOf p (rowsOf n) - 1 ∧ rowOf (leftOf p (rowsOf n) + 1) (rowsOf n) = rowOf p (rowsOf n) - 1 ∧
    leftOf p (rowsOf n) + 3 < 2 ^ (rowsOf n + 1) ∧ sibOf (leftOf p (rowsOf n)) = leftOf p (rowsOf n) + 1 := by
  have hb : 2 ^ rowsOf n ≤ p := by
    rcases Nat.lt_or_ge p (2 ^ rowsOf n) with h1 | h1
    · have := (rowOf_low h.2.1).2 h1
      omega
    · exact h1
  obtain ⟨l1, l2, l3, l4, l5⟩ := left_spec h.2.1 hb
  have h3 := h.2.2
  have hp : 2 ^ rowOf p (rowsOf n) = 2 * 2 ^ (rowOf p (rowsOf n) - 1) := by
    rw [← pw_succ]
    congr 1
    omega
  have e1 : ∀ a b : Nat, (a + 1) * (2 * b) = (2 * a + 1 + 1) * b := fun a b => by rw [← Nat.mul_assoc]; congr 1; omega
  rw [hp, e1] at h3
  refine ⟨hb, ⟨h.1, by omega, ?_⟩, ⟨h.1, by omega, ?_⟩, l2, l4, l1, ?_⟩
  · rw [l2, l3]
    refine Nat.le_trans (Nat.mul_le_mul_right _ ?_) h3
    omega
  · rw [l4, l5]
    exact h3
  · have hs := pw_succ (rowsOf n)
    unfold sibOf
    rw [if_pos (by unfold leftOf; omega)]
theorem target_leaf {n : Nat} {ts : List Nat} {p : Nat} (hv : Valid n ts) (ho : OnWay n ts p) (hp : p ∉ ts) : 1 ≤ rowOf p (rowsOf n) := by
  obtain ⟨t, h1, h2⟩ := ho
  obtain ⟨r1, r2⟩ := way_row (hv.2.1 t h1) h2
  rcases Nat.eq_zero_or_pos (rowOf p (rowsOf n)) with h0 | h0
  · have := r2 (by omega)
    rw [this] at hp
    exact absurd h1 hp
  · exact h0

/-- A plan of targets lies at P. -/
def PA (n : Nat) (ts : List Nat) (P : Nat) (W : World) : Prop := ∃ m1 m2 q1 q2 wy, PlanB W P m1 m2 n (rowsOf n) ∧ NMap W m1 q1 (tgOf ts) ∧ NMap W m2 q2 wy ∧ q2 ≤ 70000 ∧ ∀ x, 0 < wy x ↔ OnWay n ts x
theorem PA.after {n P : Nat} {ts : List Nat} {W W' : World} (h : PA n ts P W) (hb : Below W.heap.size W W') : PA n ts P W' := by
  obtain ⟨m1, m2, q1, q2, wy, h1, h2, h3, h4, h5⟩ := h
  exact ⟨m1, m2, q1, q2, wy, IsBlk.after h1 hb, h2.after hb h2.lt, h3.after hb h3.lt, h4, h5⟩
theorem PA.drewN {n P : Nat} {ts : List Nat} {W : World} (h : PA n ts P W) (q : Nat) : PA n ts P (W.drewN q) := h.after (bel_drewN (Below.refl _ _) q)
theorem MadeYes.pa {n : Nat} {ts : List Nat} {w w' : World} {e : Ending} (h : MadeYes n ts w e w') : ∃ P, e = .returned (.tuple #[.pointer (some ⟨P, 0, none⟩), .int .i64 0]) ∧ PA n ts P w' ∧ w.heap.size ≤ P ∧ P < w'.heap.size ∧ Below w.heap.size w w' := by
  obtain ⟨p, m1, m2, q1, q2, wy, rfl, h1, h2, h3, _, h5, h6, h7, _, _, h8⟩ := h
  exact ⟨p, rfl, ⟨m1, m2, q1, q2, wy, h1, h2, h3, h5, h6⟩, h7, IsBlk.lt h1, h8⟩

end Go.Proofs.Ytnokhajjcjfbpaa
