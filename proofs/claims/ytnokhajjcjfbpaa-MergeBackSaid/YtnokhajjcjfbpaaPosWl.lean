/- Ways upwards, and trees: plain facts of numbers. -/
import Derived.Test.YtnokhajjcjfbpaaPosPl
namespace Go.Proofs.Ytnokhajjcjfbpaa

/-- The position k rows above p. -/
def anc (p R : Nat) : Nat → Nat
  | 0 => p
  | k + 1 => parOf (anc p R k) R

theorem below_last {p R : Nat} (h : p + 1 < 2 ^ (R + 1)) (hr : rowOf p R < R) : p + 2 < 2 ^ (R + 1) := by
  rcases Nat.lt_or_ge (p + 2) (2 ^ (R + 1)) with h1 | h1
  · exact h1
  · have := rowOf_last (p := p) (R := R) (by omega)
    omega
theorem anc_spec {p R : Nat} (h : p + 1 < 2 ^ (R + 1)) : ∀ k, rowOf p R + k ≤ R → anc p R k + 1 < 2 ^ (R + 1) ∧ rowOf (anc p R k) R = rowOf p R + k ∧ offOf (anc p R k) R = offOf p R / 2 ^ k
  | 0, _ => ⟨h, rfl, by simp [anc]⟩
  | k + 1, hk => by
    obtain ⟨h1, h2, h3⟩ := anc_spec h k (by omega)
    obtain ⟨p1, p2, p3⟩ := par_spec (below_last h1 (by omega))
    refine ⟨p1, by show rowOf (parOf _ _) _ = _; rw [p2, h2]; omega, ?_⟩
    show offOf (parOf _ _) _ = _
    rw [p3, h3, Nat.pow_succ, Nat.div_div_eq_div_mul]
theorem anc_more {p R : Nat} (h : p + 1 < 2 ^ (R + 1)) {k : Nat} (hk : rowOf p R + k < R) : anc p R k + 2 < 2 ^ (R + 1) := by
  obtain ⟨h1, h2, h3⟩ := anc_spec h k (by omega)
  exact below_last h1 (by omega)
theorem anc_top {p R : Nat} (h : p + 1 < 2 ^ (R + 1)) {k : Nat} (hk : rowOf p R + k = R) : anc p R k + 2 = 2 ^ (R + 1) := by
  obtain ⟨h1, h2, h3⟩ := anc_spec h k (by omega)
  rcases Nat.lt_or_ge (anc p R k + 2) (2 ^ (R + 1)) with h4 | h4
  · have := rowOf_top h4
    omega
  · omega

/-- k rows above p there is a root. -/
def WayAt (n p k : Nat) : Prop := n / 2 ^ (rowOf p (rowsOf n) + k) % 2 = 1 ∧ offOf p (rowsOf n) / 2 ^ k + 1 = n / 2 ^ (rowOf p (rowsOf n) + k)
instance (n p k : Nat) : Decidable (WayAt n p k) := by unfold WayAt; infer_instance

theorem wayAt_le {n p k : Nat} (hn : n ≤ 9223372036854775807) (h : WayAt n p k) : rowOf p (rowsOf n) + k ≤ rowsOf n := (bit_row hn h.1).1
theorem root_row {n h : Nat} (hn : n ≤ 9223372036854775807) (hb : n / 2 ^ h % 2 = 1) :
    rootOf n h + 1 < 2 ^ (rowsOf n + 1) ∧ rowOf (rootOf n h) (rowsOf n) = h ∧ offOf (rootOf n h) (rowsOf n) + 1 = n / 2 ^ h := by
  obtain ⟨h1, h2⟩ := bit_row hn hb
  refine ⟨beg_lt h1 h2, rowOf_beg h1 h2, ?_⟩
  show offOf (beg _ _ + _) _ + 1 = _
  rw [offOf_beg h1 h2]
  generalize n / 2 ^ h = x at *
  omega
/-- What the code asks: is there a root in this row, and is it the position? -/
theorem wayAt_iff {n p k : Nat} (hn : n ≤ 9223372036854775807) (h : p + 1 < 2 ^ (rowsOf n + 1)) (hk : rowOf p (rowsOf n) + k ≤ rowsOf n) (hb : n / 2 ^ (rowOf p (rowsOf n) + k) % 2 = 1) :
    rootOf n (rowOf p (rowsOf n) + k) = anc p (rowsOf n) k ↔ WayAt n p k := by
  obtain ⟨a1, a2, a3⟩ := anc_spec h k hk
  obtain ⟨r1, r2, r3⟩ := root_row hn hb
  constructor
  · intro e
    rw [e, a3] at r3
    exact ⟨hb, r3⟩
  · intro e
    have e2 := e.2
    exact pos_ext r1 a1 (by rw [r2, a2]) (by rw [a3]; omega)
theorem wayAt_one {n p j k : Nat} (hj : WayAt n p j) (hk : WayAt n p k) : j = k := by
  have gen : ∀ {j k : Nat}, WayAt n p j → WayAt n p k → ¬ j < k := by
    intro j k ⟨j1, j2⟩ ⟨k1, k2⟩ hlt
    obtain ⟨d, rfl⟩ : ∃ d, k = j + 1 + d := ⟨k - j - 1, by omega⟩
    rw [show rowOf p (rowsOf n) + (j + 1 + d) = (rowOf p (rowsOf n) + j) + 1 + d from by omega, Nat.pow_add, Nat.pow_succ, ← Nat.div_div_eq_div_mul, ← Nat.div_div_eq_div_mul, Nat.pow_add, Nat.pow_succ, ← Nat.div_div_eq_div_mul, ← Nat.div_div_eq_div_mul] at k2
    generalize n / 2 ^ (rowOf p (rowsOf n) + j) = x at *
    generalize offOf p (rowsOf n) / 2 ^ j = y at *
    have : x / 2 = y / 2 := by omega
    rw [this] at k2
    omega
  have := gen hj hk
  have := gen hk hj
  omega
theorem way_ex : ∀ (y x : Nat), x < y → ∃ k, y / 2 ^ k % 2 = 1 ∧ x / 2 ^ k + 1 = y / 2 ^ k := by
  intro y
  induction y using Nat.strongRecOn with
  | _ y ih =>
    intro x hx
    by_cases h : y % 2 = 1 ∧ x + 1 = y
    · exact ⟨0, by simpa using h.1, by simpa using h.2⟩
    · obtain ⟨k, h1, h2⟩ := ih (y / 2) (by omega) (x / 2) (by omega)
      refine ⟨k + 1, ?_, ?_⟩
      · rw [Nat.pow_succ, Nat.mul_comm, ← Nat.div_div_eq_div_mul]; exact h1
      · rw [Nat.pow_succ, Nat.mul_comm, ← Nat.div_div_eq_div_mul, ← Nat.div_div_eq_div_mul]; exact h2

/-- A position of the forest of n leaves. -/
def InF (n p : Nat) : Prop := n ≤ 9223372036854775807 ∧ p + 1 < 2 ^ (rowsOf n + 1) ∧ (offOf p (rowsOf n) + 1) * 2 ^ rowOf p (rowsOf n) ≤ n
instance (n p : Nat) : Decidable (InF n p) := by unfold InF; infer_instance
theorem inF_iff {n p : Nat} (hn : n ≤ 9223372036854775807) (h : p + 1 < 2 ^ (rowsOf n + 1)) : InF n p ↔ ∃ k, WayAt n p k := by
  constructor
  · rintro ⟨_, _, h3⟩
    have h4 : offOf p (rowsOf n) < n / 2 ^ rowOf p (rowsOf n) := (Nat.le_div_iff_mul_le (pw_pos _)).2 h3
    obtain ⟨k, h5, h6⟩ := way_ex _ _ h4
    rw [Nat.div_div_eq_div_mul, ← Nat.pow_add] at h5 h6
    exact ⟨k, h5, h6⟩
  · rintro ⟨k, h1, h2⟩
    refine ⟨hn, h, ?_⟩
    refine (Nat.le_div_iff_mul_le (pw_pos _)).1 ?_
    rw [Nat.pow_add, ← Nat.div_div_eq_div_mul] at h2
    generalize n / 2 ^ rowOf p (rowsOf n) = y at *
    have h3 : offOf p (rowsOf n) / 2 ^ k < y / 2 ^ k := by omega
    rcases Nat.lt_or_ge (offOf p (rowsOf n)) y with h4 | h4
    · omega
    · have := Nat.div_le_div_right (c := 2 ^ k) h4
      omega
/-- How far above p its root is. -/
def topK (n p : Nat) : Nat := ((List.range 64).find? (fun k => decide (WayAt n p k))).getD 0
theorem topK_eq {n p k : Nat} (hn : n ≤ 9223372036854775807) (h : WayAt n p k) : topK n p = k := by
  have h1 := wayAt_le hn h
  have h2 := rows_le (n := n) (by omega)
  unfold topK
  cases hf : (List.range 64).find? (fun k => decide (WayAt n p k)) with
  | none =>
    have := List.find?_eq_none.1 hf k (by rw [List.mem_range]; omega)
    simp [h] at this
  | some j =>
    have := List.find?_some hf
    exact wayAt_one (by simpa using this) h
theorem topK_at {n p : Nat} (h : InF n p) : WayAt n p (topK n p) := by
  obtain ⟨k, hk⟩ := (inF_iff h.1 h.2.1).1 h
  rw [topK_eq h.1 hk]
  exact hk
/-- The height of its tree. -/
def treeOf (n p : Nat) : Nat := rowOf p (rowsOf n) + topK n p
theorem tree_le {n p : Nat} (h : InF n p) : treeOf n p ≤ rowsOf n := wayAt_le h.1 (topK_at h)
theorem tree_bit {n p : Nat} (h : InF n p) : n / 2 ^ treeOf n p % 2 = 1 := (topK_at h).1
theorem tree_root {n p : Nat} (h : InF n p) : anc p (rowsOf n) (topK n p) = rootOf n (treeOf n p) := ((wayAt_iff h.1 h.2.1 (tree_le h) (tree_bit h)).2 (topK_at h)).symm
/-- Its way. -/
def wayOf (n p : Nat) : List Nat := if InF n p then (List.range (topK n p + 1)).map (anc p (rowsOf n)) else []
theorem way_in {n p : Nat} (h : InF n p) : wayOf n p = (List.range (topK n p + 1)).map (anc p (rowsOf n)) := if_pos h
theorem way_out {n p : Nat} (h : ¬ InF n p) : wayOf n p = [] := if_neg h
/-- The first k of the way. -/
def ups (p R k : Nat) : List Nat := (List.range k).map (anc p R)
theorem ups_succ (p R k : Nat) : ups p R (k + 1) = ups p R k ++ [anc p R k] := by simp [ups, List.range_succ]
theorem ups_len (p R k : Nat) : (ups p R k).length = k := by simp [ups]

/-- A root's way is itself. -/
theorem root_in {n h : Nat} (hn : n ≤ 9223372036854775807) (hb : n / 2 ^ h % 2 = 1) : InF n (rootOf n h) ∧ topK n (rootOf n h) = 0 ∧ treeOf n (rootOf n h) = h := by
  obtain ⟨r1, r2, r3⟩ := root_row hn hb
  have hw : WayAt n (rootOf n h) 0 := by
    refine ⟨?_, ?_⟩
    · rw [r2]; simpa using hb
    · rw [r2]; simpa using r3
  refine ⟨(inF_iff hn r1).2 ⟨0, hw⟩, topK_eq hn hw, ?_⟩
  unfold treeOf
  rw [topK_eq hn hw, r2]
  rfl
/-- Each leaf is in the forest. -/
theorem leaf_in {n l : Nat} (hn : n ≤ 9223372036854775807) (hl : l < n) : InF n l ∧ rowOf l (rowsOf n) = 0 ∧ offOf l (rowsOf n) = l := by
  have g := rows_ge (n := n) (by omega)
  have hs := pw_succ (rowsOf n)
  have h1 : l + 1 < 2 ^ (rowsOf n + 1) := by omega
  have h2 := (rowOf_low h1).2 (by omega)
  have h3 : offOf l (rowsOf n) = l := by
    have := beg_off h1
    rw [h2, beg_zero] at this
    omega
  exact ⟨⟨hn, h1, by rw [h2, h3]; simp; omega⟩, h2, h3⟩
end Go.Proofs.Ytnokhajjcjfbpaa
