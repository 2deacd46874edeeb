/- Ways of a forest, targets: plain facts. -/
import Derived.Test.YtnokhajjcjfbpaaPosWc
namespace Go.Proofs.Ytnokhajjcjfbpaa

theorem anc_add (p R i j : Nat) : anc (anc p R i) R j = anc p R (i + j) := by
  induction j with
  | zero => rfl
  | succ j ih =>
    show parOf (anc (anc p R i) R j) R = parOf (anc p R (i + j)) R
    rw [ih]
/-- Whoever is i rows above a position of the forest, up to its root, is one too, and has what is left of the way. -/
theorem way_above {n t i : Nat} (h : InF n t) (hi : i ≤ topK n t) : InF n (anc t (rowsOf n) i) ∧ topK n (anc t (rowsOf n) i) = topK n t - i ∧ wayOf n (anc t (rowsOf n) i) = (wayOf n t).drop i := by
  have hl := tree_le h
  unfold treeOf at hl
  obtain ⟨a1, a2, a3⟩ := anc_spec h.2.1 i (by omega)
  have hw := topK_at h
  have hw' : WayAt n (anc t (rowsOf n) i) (topK n t - i) := by
    unfold WayAt at *
    rw [a2, a3, show rowOf t (rowsOf n) + i + (topK n t - i) = rowOf t (rowsOf n) + topK n t from by omega, Nat.div_div_eq_div_mul, ← Nat.pow_add, show i + (topK n t - i) = topK n t from by omega]
    exact hw
  have hin : InF n (anc t (rowsOf n) i) := (inF_iff h.1 a1).2 ⟨_, hw'⟩
  have hk := topK_eq h.1 hw'
  refine ⟨hin, hk, ?_⟩
  rw [way_in hin, way_in h, hk]
  refine List.ext_getElem? fun k => ?_
  rw [List.getElem?_drop, List.getElem?_map, List.getElem?_map]
  by_cases hk' : k < topK n t - i + 1
  · rw [List.getElem?_range hk', List.getElem?_range (by omega)]
    simp only [Option.map_some, anc_add]
  · rw [List.getElem?_eq_none (by simp; omega), List.getElem?_eq_none (by simp; omega)]
    rfl
theorem way_get {n t i : Nat} (h : InF n t) (hi : i ≤ topK n t) : (wayOf n t)[i]? = some (anc t (rowsOf n) i) := by
  rw [way_in h, List.getElem?_map, List.getElem?_range (by omega)]
  rfl
theorem mem_way {n t p : Nat} (h : InF n t) : p ∈ wayOf n t ↔ ∃ i, i ≤ topK n t ∧ p = anc t (rowsOf n) i := by
  rw [way_in h, List.mem_map]
  constructor
  · rintro ⟨i, hi, rfl⟩
    exact ⟨i, by rw [List.mem_range] at hi; omega, rfl⟩
  · rintro ⟨i, hi, rfl⟩
    exact ⟨i, by rw [List.mem_range]; omega, rfl⟩
theorem way_self {n t : Nat} (h : InF n t) : t ∈ wayOf n t := (mem_way h).2 ⟨0, by omega, rfl⟩
theorem in_way {n t p : Nat} (h : InF n t) (hp : p ∈ wayOf n t) : InF n p := by
  obtain ⟨i, hi, rfl⟩ := (mem_way h).1 hp
  exact (way_above h hi).1
/-- Above one of a way: on that way. -/
theorem way_trans {n t p q : Nat} (h : InF n t) (hp : p ∈ wayOf n t) (hq : q ∈ wayOf n p) : q ∈ wayOf n t := by
  obtain ⟨i, hi, rfl⟩ := (mem_way h).1 hp
  rw [(way_above h hi).2.2] at hq
  exact List.mem_of_mem_drop hq
theorem way_row {n t p : Nat} (h : InF n t) (hp : p ∈ wayOf n t) : rowOf t (rowsOf n) ≤ rowOf p (rowsOf n) ∧ (rowOf t (rowsOf n) = rowOf p (rowsOf n) → p = t) := by
  obtain ⟨i, hi, rfl⟩ := (mem_way h).1 hp
  have hl := tree_le h
  unfold treeOf at hl
  rw [(anc_spec h.2.1 i (by omega)).2.1]
  refine ⟨by omega, fun e => ?_⟩
  obtain rfl : i = 0 := by omega
  rfl
/-- Two on each other's ways are one. -/
theorem way_anti {n t p : Nat} (h : InF n t) (hp : p ∈ wayOf n t) (ht : t ∈ wayOf n p) : p = t := by
  have h1 := way_row h hp
  have h2 := way_row (in_way h hp) ht
  exact h1.2 (by omega)
theorem inF_u64 {n p : Nat} (h : InF n p) : (p : Int) ≤ 18446744073709551614 := p_u64 (rows_le (n := n) (by have := h.1; omega)) h.2.1

/-- Targets that may be. -/
def Valid (n : Nat) (ts : List Nat) : Prop := n ≤ 9223372036854775807 ∧ (∀ t ∈ ts, InF n t) ∧ ts.Nodup ∧ ∀ t ∈ ts, ∀ p ∈ wayOf n t, p ≠ t → p ∉ ts
/-- On a way of one of them. -/
def OnWay (n : Nat) (ts : List Nat) (p : Nat) : Prop := ∃ t ∈ ts, p ∈ wayOf n t
def tgOf (ts : List Nat) (x : Nat) : Nat := if x ∈ ts then 1 else 0
theorem tg_pos (ts : List Nat) (x : Nat) : 0 < tgOf ts x ↔ x ∈ ts := by unfold tgOf; split <;> simp_all
theorem tg_nil : tgOf [] = fun _ => 0 := by funext x; simp [tgOf]
end Go.Proofs.Ytnokhajjcjfbpaa
