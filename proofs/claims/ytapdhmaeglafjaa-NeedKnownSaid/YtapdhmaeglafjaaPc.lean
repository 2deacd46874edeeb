/- Plain: targets tree by tree. -/
import Derived.Test.YtapdhmaeglafjaaPosWp
import Derived.Test.YtapdhmaeglafjaaNd
namespace Go.Proofs.Ytapdhmaeglafjaa

theorem nd_len : ∀ (l m : List Nat), l.Nodup → (∀ x ∈ l, x ∈ m) → l.length ≤ m.length
  | [], _, _, _ => Nat.zero_le _
  | x :: l, m, h, hs => by
    rw [List.nodup_cons] at h
    have h1 := nd_len l (m.erase x) h.2 (fun y hy => (List.mem_erase_of_ne (fun e => h.1 (by rw [← e]; exact hy))).2 (hs y (List.mem_cons_of_mem _ hy)))
    have h2 := List.length_erase_of_mem (hs x (List.mem_cons_self))
    have h3 := List.length_pos_of_mem (hs x (List.mem_cons_self))
    rw [List.length_cons]
    omega
/-- The heights of the trees, falling. -/
def treesN (n : Nat) : List Nat := (trees n).map Int.toNat
theorem treesN_ints (n : Nat) : ints (treesN n) = trees n := by
  unfold treesN ints trees
  rw [List.map_map]
  conv => rhs; rw [← List.map_id (trk n 63)]
  refine List.map_congr_left fun a ha => ?_
  obtain ⟨h, rfl, _⟩ := trk_mem 63 (Nat.le_refl _) a ha
  simp
theorem trk_has {n : Nat} : ∀ (k : Nat), k ≤ 63 → ∀ h : Nat, 63 - k ≤ h → h ≤ 62 → n / 2 ^ h % 2 = 1 → (h : Int) ∈ trk n k
  | 0, _, h, h1, h2, _ => by omega
  | k + 1, hk, h, h1, h2, h3 => by
    by_cases e : h = 62 - k
    · subst e
      rw [trk_yes h3]
      simp
    · have ih := trk_has (n := n) k (by omega) h (by omega) h2 h3
      by_cases hb : n / 2 ^ (62 - k) % 2 = 1
      · rw [trk_yes hb]
        exact List.mem_append_left _ ih
      · rw [trk_no hb]
        exact ih
theorem treesN_mem {n h : Nat} (hn : n ≤ 9223372036854775807) : h ∈ treesN n ↔ n / 2 ^ h % 2 = 1 := by
  unfold treesN trees
  rw [List.mem_map]
  constructor
  · rintro ⟨a, ha, rfl⟩
    obtain ⟨h, rfl, _, _, h3⟩ := trk_mem 63 (Nat.le_refl _) a ha
    simpa using h3
  · intro hb
    refine ⟨(h : Int), trk_has 63 (Nat.le_refl _) h (by omega) ?_ hb, Int.toNat_natCast h⟩
    rcases Nat.lt_or_ge h 63 with h1 | h1
    · omega
    · have : n / 2 ^ h = 0 := Nat.div_eq_of_lt (Nat.lt_of_lt_of_le (by omega : n < 2 ^ 63) (Nat.pow_le_pow_right (by omega) h1))
      rw [this] at hb
      cases hb
theorem treesN_fall (n : Nat) : (treesN n).Pairwise (fun a b => b < a) := by
  unfold treesN trees
  refine List.pairwise_map.2 ((trk_fall 63 (Nat.le_refl _)).imp_of_mem fun {a b} ha hb h => ?_)
  obtain ⟨x, rfl, _⟩ := trk_mem 63 (Nat.le_refl _) a ha
  obtain ⟨y, rfl, _⟩ := trk_mem 63 (Nat.le_refl _) b hb
  simp only [Int.toNat_natCast]
  omega
theorem treesN_len (n : Nat) : (treesN n).length ≤ 63 := by
  unfold treesN trees
  rw [List.length_map]
  exact trk_len n 63

/-- Rising, and just these. -/
def IsRise (n : Nat) (ts : List Nat) (h : Nat) (l : List Nat) : Prop := l.Pairwise (fun a b => a < b) ∧ ∀ x, x ∈ l ↔ x ∈ ts ∧ treeOf n x = h
theorem fall_one {a b : List Nat} (ha : a.Pairwise (fun a b => b < a)) (hb : b.Pairwise (fun a b => b < a)) (h : ∀ x, x ∈ a ↔ x ∈ b) : a = b := by
  refine List.Perm.eq_of_pairwise (le := fun a b => b < a) (fun x y _ _ h1 h2 => by omega) ha hb ?_
  refine (List.perm_ext_iff_of_nodup ?_ ?_).2 h
  · exact ha.imp fun h => by omega
  · exact hb.imp fun h => by omega
theorem rise_one {a b : List Nat} (ha : a.Pairwise (fun a b => a < b)) (hb : b.Pairwise (fun a b => a < b)) (h : ∀ x, x ∈ a ↔ x ∈ b) : a = b := by
  refine List.Perm.eq_of_pairwise (le := fun a b => a < b) (fun x y _ _ h1 h2 => by omega) ha hb ?_
  refine (List.perm_ext_iff_of_nodup ?_ ?_).2 h
  · exact ha.imp fun h => by omega
  · exact hb.imp fun h => by omega
theorem isRise_one {n h : Nat} {ts a b : List Nat} (ha : IsRise n ts h a) (hb : IsRise n ts h b) : a = b := rise_one ha.1 hb.1 fun x => by rw [ha.2, hb.2]

/-- The targets, rising. -/
def sorted (ts : List Nat) : List Nat := ts.mergeSort (fun a b => decide (a ≤ b))
theorem sorted_up {ts : List Nat} (h : ts.Nodup) : (sorted ts).Pairwise (fun a b => a < b) := by
  have hp := List.mergeSort_perm ts (fun x y => decide (x ≤ y))
  have hs := List.pairwise_mergeSort (le := fun x y : Nat => decide (x ≤ y)) (fun a b c h1 h2 => by simp only [decide_eq_true_eq] at *; omega) (fun a b => by simp only [Bool.or_eq_true, decide_eq_true_eq]; omega) ts
  refine (hs.and (hp.nodup_iff.2 h)).imp fun {a b} h => ?_
  obtain ⟨h1, h2⟩ := h
  simp only [decide_eq_true_eq] at h1
  omega
theorem sorted_mem (ts : List Nat) (x : Nat) : x ∈ sorted ts ↔ x ∈ ts := (List.mergeSort_perm ts _).mem_iff
/-- The rising targets of a tree. -/
def riseF (n : Nat) (ts : List Nat) (h : Nat) : List Nat := (sorted ts).filter fun t => treeOf n t == h
theorem riseF_is {n h : Nat} {ts : List Nat} (hd : ts.Nodup) : IsRise n ts h (riseF n ts h) := by
  unfold riseF
  refine ⟨(sorted_up hd).filter _, fun x => ?_⟩
  rw [List.mem_filter, sorted_mem, beq_iff_eq]
/-- Tree by tree. -/
def splitF (n : Nat) (ts : List Nat) : List (Nat × List Nat) := ((treesN n).filter fun h => riseF n ts h != []).map fun h => (h, riseF n ts h)
/-- Falling heights at which something lies are the trees that have targets. -/
theorem heights_one {n : Nat} {ts hs : List Nat} (hv : Valid n ts) (h1 : hs.Pairwise (fun a b => b < a)) (h2 : ∀ h, h ∈ hs ↔ riseF n ts h ≠ []) : hs = (treesN n).filter fun h => riseF n ts h != [] := by
  refine fall_one h1 ((treesN_fall n).filter _) fun x => ?_
  rw [h2, List.mem_filter, bne_iff_ne, treesN_mem hv.1]
  constructor
  · intro hne
    refine ⟨?_, hne⟩
    obtain ⟨t, l, e⟩ := List.exists_cons_of_ne_nil hne
    have hm := ((riseF_is (n := n) (h := x) hv.2.2.1).2 t).1 (by rw [e]; exact List.mem_cons_self)
    rw [← hm.2]
    exact tree_bit (hv.2.1 t hm.1)
  · exact fun h => h.2
end Go.Proofs.Ytapdhmaeglafjaa
