/- Emptied: plain; the plan's method, walked. -/
import Derived.Test.YtapdhmaeglafjaaMc
namespace Go.Proofs.Ytapdhmaeglafjaa
open Go.RowKit Go.Shelf

def onB (n : Nat) (ts : List Nat) (p : Nat) : Bool := ts.any fun t => decide (p ∈ wayOf n t)
theorem onB_iff (n : Nat) (ts : List Nat) (p : Nat) : onB n ts p = true ↔ OnWay n ts p := by
  unfold onB OnWay
  rw [List.any_eq_true]
  simp
/-- Emptied, of one that is below no target: so many rows down. -/
def empF (n : Nat) (ts : List Nat) : Nat → Nat → Bool
  | 0, p => decide (p ∈ ts)
  | r + 1, p => if p ∈ ts then true else if onB n ts p then empF n ts r (leftOf p (rowsOf n)) && empF n ts r (leftOf p (rowsOf n) + 1) else false
def emp (n : Nat) (ts : List Nat) (p : Nat) : Bool := empF n ts (rowOf p (rowsOf n)) p
/-- Emptied. -/
def goneB (n : Nat) (ts : List Nat) (p : Nat) : Bool := (wayOf n p).any (fun a => decide (a ∈ ts)) || emp n ts p

/-- Children of the forest's positions are the forest's. -/
theorem child_in {n p : Nat} (h : InF n p) (h0 : 1 ≤ rowOf p (rowsOf n)) : 2 ^ rowsOf n ≤ p ∧ InF n (leftOf p (rowsOf n)) ∧ InF n (leftOf p (rowsOf n) + 1) ∧ rowOf (leftOf p (rowsOf n)) (rowsOf n) = rowOf p (rowsOf n) - 1 ∧ rowOf (leftOf p (rowsOf n) + 1) (rowsOf n) = rowOf p (rowsOf n) - 1 ∧
    leftOf p (rowsOf n) + 3 < 2 ^ (rowsOf n + 1) ∧ sibOf (leftOf p (rowsOf n)) = leftOf p (rowsOf n) + 1 := by
  have hb : 2 ^ rowsOf n ≤ p := by
    rcases Nat.lt_or_ge p (2 ^ rowsOf n) with h1 | h1
    · have := (rowOf_low h.2.1).2 h1
      omega
    · exact h1
  obtain ⟨l1, l2, l3, l4, l5⟩ := left_spec h.2.1 hb
  have h3 := h.2.2
  have hp : 2 ^ rowOf p (rowsOf n) = 2 * 2 ^ (rowOf p (rowsOf n) - 1) := by
    rw [← pw_succ]
    congr 1
    omega
  have e1 : ∀ a b : Nat, (a + 1) * (2 * b) = (2 * a + 1 + 1) * b := fun a b => by rw [← Nat.mul_assoc]; congr 1; omega
  rw [hp, e1] at h3
  refine ⟨hb, ⟨h.1, by omega, ?_⟩, ⟨h.1, by omega, ?_⟩, l2, l4, l1, ?_⟩
  · rw [l2, l3]
    refine Nat.le_trans (Nat.mul_le_mul_right _ ?_) h3
    omega
  · rw [l4, l5]
    exact h3
  · have hs := pw_succ (rowsOf n)
    unfold sibOf
    rw [if_pos (by unfold leftOf; omega)]
theorem target_leaf {n : Nat} {ts : List Nat} {p : Nat} (hv : Valid n ts) (ho : OnWay n ts p) (hp : p ∉ ts) : 1 ≤ rowOf p (rowsOf n) := by
  obtain ⟨t, h1, h2⟩ := ho
  obtain ⟨r1, r2⟩ := way_row (hv.2.1 t h1) h2
  rcases Nat.eq_zero_or_pos (rowOf p (rowsOf n)) with h0 | h0
  · have := r2 (by omega)
    rw [this] at hp
    exact absurd h1 hp
  · exact h0

/-- A plan of targets lies at P. -/
def PA (n : Nat) (ts : List Nat) (P : Nat) (W : World) : Prop := ∃ m1 m2 q1 q2 wy, PlanB W P m1 m2 n (rowsOf n) ∧ NMap W m1 q1 (tgOf ts) ∧ NMap W m2 q2 wy ∧ q2 ≤ 70000 ∧ ∀ x, 0 < wy x ↔ OnWay n ts x
theorem PA.after {n P : Nat} {ts : List Nat} {W W' : World} (h : PA n ts P W) (hb : Below W.heap.size W W') : PA n ts P W' := by
  obtain ⟨m1, m2, q1, q2, wy, h1, h2, h3, h4, h5⟩ := h
  exact ⟨m1, m2, q1, q2, wy, IsBlk.after h1 hb, h2.after hb h2.lt, h3.after hb h3.lt, h4, h5⟩
theorem PA.drewN {n P : Nat} {ts : List Nat} {W : World} (h : PA n ts P W) (q : Nat) : PA n ts P (W.drewN q) := h.after (bel_drewN (Below.refl _ _) q)
theorem MadeYes.pa {n : Nat} {ts : List Nat} {w w' : World} {e : Ending} (h : MadeYes n ts w e w') : ∃ P, e = .returned (.tuple #[.pointer (some ⟨P, 0, none⟩), .int .i64 0]) ∧ PA n ts P w' ∧ w.heap.size ≤ P ∧ P < w'.heap.size ∧ Below w.heap.size w w' := by
  obtain ⟨p, m1, m2, q1, q2, wy, rfl, h1, h2, h3, _, h5, h6, h7, _, _, h8⟩ := h
  exact ⟨p, rfl, ⟨m1, m2, q1, q2, wy, h1, h2, h3, h5, h6⟩, h7, IsBlk.lt h1, h8⟩

set_option maxRecDepth 100000 in
set_option maxHeartbeats 2000000 in
theorem emptied_any {n : Nat} {ts : List Nat} (hv : Valid n ts) (P : Nat) : ∀ (r p : Nat) (w : World), InF n p → rowOf p (rowsOf n) = r → PA n ts P w → Calls Try.prog 47 #[.pointer (some ⟨P, 0, none⟩), .int .u64 p] w (QRet (.bool (empF n ts r p)) w) := by
  intro r
  induction r with
  | zero =>
    intro p w hin hr hP
    obtain ⟨m1, m2, q1, q2, wy, h1, h2, h3, _, h5⟩ := hP
    have hpu := inF_u64 hin
    have c2 := IsBlk.cell h1 2
    have c3 := IsBlk.cell h1 3
    simp at c2 c3
    have look1 := h2.look Try.underlying70 (x := p) (by omega)
    have look2 := h3.look Try.underlying70 (x := p) (by omega)
    by_cases hm : p ∈ ts
    · have e1 : tgOf ts p = 1 := by unfold tgOf; rw [if_pos hm]
      rw [e1] at look1
      have E := Lib.hid (show empF n ts 0 p = true from decide_eq_true hm)
      clear h1 h2 h3 h5
      go_enter Try.func47, Try.ntmps47
      go_wp2_with fail
      go_ret
      exact QRet.mk0 (by rw [E.out]; rfl)
    · have e1 : tgOf ts p = 0 := by unfold tgOf; rw [if_neg hm]
      have e2 : wy p = 0 := by
        rcases Nat.eq_zero_or_pos (wy p) with h | h
        · exact h
        · have := target_leaf hv ((h5 p).1 h) hm
          omega
      rw [e1] at look1
      rw [e2] at look2
      have E := Lib.hid (show empF n ts 0 p = false from decide_eq_false hm)
      clear h1 h2 h3 h5
      go_enter Try.func47, Try.ntmps47
      go_wp2_with fail
      go_ret
      exact QRet.mk0 (by rw [E.out]; rfl)
  | succ r ih =>
    intro p w hin hr hP
    have hPA := Lib.hid hP
    obtain ⟨m1, m2, q1, q2, wy, h1, h2, h3, _, h5⟩ := hP
    have hpu := inF_u64 hin
    have c1 := IsBlk.cell h1 1
    have c2 := IsBlk.cell h1 2
    have c3 := IsBlk.cell h1 3
    simp at c1 c2 c3
    have look1 := h2.look Try.underlying70 (x := p) (by omega)
    have look2 := h3.look Try.underlying70 (x := p) (by omega)
    by_cases hm : p ∈ ts
    · have e1 : tgOf ts p = 1 := by unfold tgOf; rw [if_pos hm]
      rw [e1] at look1
      have E := Lib.hid (show empF n ts (r + 1) p = true from if_pos hm)
      clear h1 h2 h3 h5 ih
      go_enter Try.func47, Try.ntmps47
      go_wp2_with fail
      go_ret
      exact QRet.mk0 (by rw [E.out]; rfl)
    · have e1 : tgOf ts p = 0 := by unfold tgOf; rw [if_neg hm]
      rw [e1] at look1
      rcases Nat.eq_zero_or_pos (wy p) with h0 | h0
      · rw [h0] at look2
        have E := Lib.hid (show empF n ts (r + 1) p = false from by
          unfold empF
          rw [if_neg hm, if_neg]
          rw [onB_iff, ← h5 p]
          omega)
        clear h1 h2 h3 h5 ih
        go_enter Try.func47, Try.ntmps47
        go_wp2_with fail
        go_ret
        exact QRet.mk0 (by rw [E.out]; rfl)
      · obtain ⟨m, hm1⟩ : ∃ m, wy p = m + 1 := ⟨wy p - 1, by omega⟩
        rw [hm1] at look2
        obtain ⟨k1, k2, k3, k4, k5, k6, k7⟩ := child_in hin (by omega)
        have hR := rows_le (n := n) (by have := hin.1; omega)
        have lf := fun w => left_yes p (rowsOf n) w hR hin.2.1 k1
        have sb := fun w => sib_yes (leftOf p (rowsOf n)) (rowsOf n) w hR (by omega)
        rw [k7] at sb
        have E := Lib.hid (show empF n ts (r + 1) p = (empF n ts r (leftOf p (rowsOf n)) && empF n ts r (leftOf p (rowsOf n) + 1)) from by
          show (if _ then _ else _) = _
          rw [if_neg hm, if_pos ((onB_iff n ts p).2 ((h5 p).1 (by omega)))])
        have il := ih (leftOf p (rowsOf n)) w k2 (by omega) hPA.out
        have ir := fun q => ih (leftOf p (rowsOf n) + 1) (w.drewN q) k3 (by omega) (hPA.out.drewN q)
        obtain ⟨L, hL⟩ : ∃ L, L = leftOf p (rowsOf n) := ⟨_, rfl⟩
        rewrite [← hL] at lf sb il ir E
        obtain ⟨b1, hb1⟩ : ∃ b, b = empF n ts r L := ⟨_, rfl⟩
        obtain ⟨b2, hb2⟩ : ∃ b, b = empF n ts r (L + 1) := ⟨_, rfl⟩
        rewrite [← hb1] at il E
        rewrite [← hb2] at ir E
        have LF := Lib.hid lf; have SB := Lib.hid sb; have IL := Lib.hid il; have IR := Lib.hid ir
        clear h1 h2 h3 h5 ih lf sb il ir hm1 k1 k2 k3 k4 k5 k6 k7 hL hb1 hb2
        have hm0 : (0 : Int) ≤ m := by omega
        go_enter Try.func47, Try.ntmps47
        go_wp2_with (first
          | (go_at_call 29; refine (LF.out _).mono ?_; rintro e w' ⟨rfl, d1, rfl⟩)
          | (go_at_call 33; refine (SB.out _).mono ?_; rintro e w' ⟨rfl, d1, rfl⟩))
        refine IL.out.mono ?_
        rintro e w' ⟨rfl, q1', rfl⟩
        cases b1
        · go_wp2_with fail
          go_ret
          exact QRet.mk (by rw [E.out]; rfl)
        · go_wp2_with (go_at_call 47; refine (IR.out _).mono ?_; rintro e w' ⟨rfl, q2', rfl⟩)
          go_ret
          rw [E.out, Bool.true_and]
          exact QRet.mk rfl
theorem emp_any {n : Nat} {ts : List Nat} (hv : Valid n ts) (P p : Nat) (w : World) (hin : InF n p) (hP : PA n ts P w) : Calls Try.prog 47 #[.pointer (some ⟨P, 0, none⟩), .int .u64 p] w (QRet (.bool (emp n ts p)) w) :=
  emptied_any hv P _ p w hin rfl hP
end Go.Proofs.Ytapdhmaeglafjaa
