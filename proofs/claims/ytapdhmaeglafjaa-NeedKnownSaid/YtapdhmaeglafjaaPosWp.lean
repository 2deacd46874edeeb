/- The heights of a number's trees, and its roots: plain facts. -/
import Derived.Test.YtapdhmaeglafjaaPosWl
import Derived.Test.YtapdhmaeglafjaaPosTr
namespace Go.Proofs.Ytapdhmaeglafjaa

theorem trk_mem {n : Nat} : ∀ (k : Nat), k ≤ 63 → ∀ z, z ∈ trk n k → ∃ h : Nat, z = h ∧ 63 - k ≤ h ∧ h ≤ 62 ∧ n / 2 ^ h % 2 = 1
  | 0, _, z, hz => by simp [trk] at hz
  | k + 1, hk, z, hz => by
    by_cases hb : n / 2 ^ (62 - k) % 2 = 1
    · rw [trk_yes hb, List.mem_append] at hz
      rcases hz with hz | hz
      · obtain ⟨h, h1, h2, h3, h4⟩ := trk_mem k (by omega) z hz
        exact ⟨h, h1, by omega, h3, h4⟩
      · rw [List.mem_singleton] at hz
        exact ⟨62 - k, hz, by omega, by omega, hb⟩
    · rw [trk_no hb] at hz
      obtain ⟨h, h1, h2, h3, h4⟩ := trk_mem k (by omega) z hz
      exact ⟨h, h1, by omega, h3, h4⟩
theorem trk_fall {n : Nat} : ∀ (k : Nat), k ≤ 63 → (trk n k).Pairwise (fun a b => b < a)
  | 0, _ => by simp [trk]
  | k + 1, hk => by
    have ih := trk_fall (n := n) k (by omega)
    by_cases hb : n / 2 ^ (62 - k) % 2 = 1
    · rw [trk_yes hb, List.pairwise_append]
      refine ⟨ih, by simp, fun a ha b hb => ?_⟩
      rw [List.mem_singleton] at hb
      obtain ⟨h, h1, h2, h3, h4⟩ := trk_mem k (by omega) a ha
      omega
    · rw [trk_no hb]
      exact ih
def sum2 (l : List Int) : Nat := (l.map fun z => 2 ^ z.toNat).sum
theorem sum2_append (a b : List Int) : sum2 (a ++ b) = sum2 a + sum2 b := by simp [sum2]
theorem trk_sum {n : Nat} (hn : n ≤ 9223372036854775807) : ∀ (k : Nat), k ≤ 63 → sum2 (trk n k) = n / 2 ^ (63 - k) * 2 ^ (63 - k)
  | 0, _ => by
    have : n / 2 ^ 63 = 0 := by omega
    simp [trk, sum2, this]
  | k + 1, hk => by
    have ih := trk_sum hn k (by omega)
    rw [show 63 - k = (62 - k) + 1 from by omega, Nat.pow_succ, ← Nat.div_div_eq_div_mul] at ih
    rw [show 63 - (k + 1) = 62 - k from by omega]
    have e1 : ∀ a b : Nat, a / 2 * (b * 2) = 2 * (a / 2) * b := fun a b => by rw [Nat.mul_comm b 2, ← Nat.mul_assoc, Nat.mul_comm (a / 2) 2]
    rw [e1] at ih
    by_cases hb : n / 2 ^ (62 - k) % 2 = 1
    · rw [trk_yes hb, sum2_append, ih]
      have : sum2 [((62 - k : Nat) : Int)] = 1 * 2 ^ (62 - k) := by simp [sum2]
      rw [this, ← Nat.add_mul]
      congr 1
      omega
    · rw [trk_no hb, ih]
      congr 1
      omega
def psum (n i : Nat) : Nat := sum2 ((trees n).take i)
theorem psum_all {n : Nat} (hn : n ≤ 9223372036854775807) : psum n (trees n).length = n := by
  unfold psum
  rw [List.take_length]
  have := trk_sum hn 63 (by omega)
  show sum2 (trk n 63) = n
  simpa using this
theorem psum_le {n : Nat} (hn : n ≤ 9223372036854775807) (i : Nat) : psum n i ≤ n := by
  have h1 := psum_all hn
  have h2 : sum2 ((trees n).take i ++ (trees n).drop i) = sum2 (trees n) := by rw [List.take_append_drop]
  rw [sum2_append] at h2
  unfold psum at *
  rw [List.take_length] at h1
  omega
theorem psum_next {n i h : Nat} (hi : (trees n)[i]? = some (h : Int)) : psum n (i + 1) = psum n i + 2 ^ h := by
  unfold psum
  rw [List.take_add_one, hi, sum2_append]
  simp [sum2]
theorem trees_at {n i : Nat} (hi : i < (trees n).length) : ∃ h : Nat, (trees n)[i]? = some (h : Int) ∧ h ≤ 62 ∧ n / 2 ^ h % 2 = 1 := by
  have hm : (trees n)[i] ∈ trk n 63 := List.getElem_mem hi
  obtain ⟨h, h1, _, h3, h4⟩ := trk_mem 63 (by omega) _ hm
  exact ⟨h, by rw [List.getElem?_eq_getElem hi, h1], h3, h4⟩
theorem trees_fall {n i j a b : Nat} (hij : i < j) (ha : (trees n)[i]? = some (a : Int)) (hb : (trees n)[j]? = some (b : Int)) : b < a := by
  have h := List.pairwise_iff_getElem.1 (trk_fall (n := n) 63 (by omega))
  obtain ⟨i1, i2⟩ := List.getElem?_eq_some_iff.1 ha
  obtain ⟨j1, j2⟩ := List.getElem?_eq_some_iff.1 hb
  have := h i j i1 j1 hij
  unfold trees at i2 j2
  omega
/-- No root lies below another one. -/
theorem roots_apart {n a b : Nat} (hn : n ≤ 9223372036854775807) (ha : n / 2 ^ a % 2 = 1) (hb : n / 2 ^ b % 2 = 1) (h : b < a) :
    rootOf n a ≠ rootOf n b ∧ ¬ Below_ (rootOf n b) (rootOf n a) (rowsOf n) ∧ ¬ Below_ (rootOf n a) (rootOf n b) (rowsOf n) := by
  obtain ⟨a1, a2, a3⟩ := root_row hn ha
  obtain ⟨b1, b2, b3⟩ := root_row hn hb
  refine ⟨fun e => by rw [e, b2] at a2; omega, ?_, ?_⟩
  · rintro ⟨_, h2⟩
    rw [a2, b2] at h2
    obtain ⟨d, rfl⟩ : ∃ d, a = b + 1 + d := ⟨a - b - 1, by omega⟩
    rw [show b + 1 + d - b = 1 + d from by omega, Nat.pow_add, ← Nat.div_div_eq_div_mul] at h2
    rw [Nat.pow_add, Nat.pow_succ, ← Nat.div_div_eq_div_mul, ← Nat.div_div_eq_div_mul] at a3
    generalize n / 2 ^ b = x at *
    have : offOf (rootOf n b) (rowsOf n) / 2 ^ 1 = x / 2 := by omega
    rw [this] at h2
    omega
  · rintro ⟨h1, _⟩
    omega
/-- A leaf lies below its root. -/
theorem leaf_root {n l : Nat} (hn : n ≤ 9223372036854775807) (hl : l < n) (h0 : treeOf n l ≠ 0) : Below_ l (rootOf n (treeOf n l)) (rowsOf n) := by
  obtain ⟨hin, h1, h2⟩ := leaf_in hn hl
  have hb := tree_bit hin
  obtain ⟨r1, r2, r3⟩ := root_row hn hb
  have hw := (topK_at hin).2
  unfold treeOf at *
  unfold Below_
  rw [r2]
  refine ⟨by omega, ?_⟩
  rw [h1, h2] at *
  simp at *
  omega
theorem no_leaf {p : Nat} : ¬ InF 0 p := by
  rintro ⟨_, _, h⟩
  have := pw_pos (rowOf p (rowsOf 0))
  have : 0 < (offOf p (rowsOf 0) + 1) * 2 ^ rowOf p (rowsOf 0) := Nat.mul_pos (by omega) this
  omega
end Go.Proofs.Ytapdhmaeglafjaa
