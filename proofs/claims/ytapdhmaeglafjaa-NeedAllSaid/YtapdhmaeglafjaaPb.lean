/- Plain: without targets all stand where they stand; all of one row below a root (NeedAll). -/
import Derived.Test.YtapdhmaeglafjaaRe
namespace Go.Proofs.Ytapdhmaeglafjaa

theorem onway_nil (n p : Nat) : ¬ OnWay n [] p := fun ⟨_, h, _⟩ => by cases h
theorem emp_nil (n p : Nat) : emp n [] p = false := emp_off (by simp) (onway_nil n p)
theorem gone_nil (n p : Nat) : goneB n [] p = false := by
  unfold goneB
  rw [emp_nil, Bool.or_false, List.any_eq_false]
  intro a _
  simp
theorem moved_nil {n p : Nat} (h : InF n p) : movedF n [] p = p := by
  have key : ∀ k, k ≤ topK n p → mvAt n [] p k = atD n p k := by
    intro k
    induction k with
    | zero => intro _; rfl
    | succ k ih =>
      intro hk
      rw [mv_next, ih (by omega)]
      unfold mvStep
      rw [if_neg (by rw [emp_nil]; simp)]
      obtain ⟨c1, c2⟩ := mv_child [] h (k := k) (by omega)
      rw [ih (by omega)] at c1 c2
      have h2 := (child_top c1 c2).2.2.2.2
      rcases child_of (atD_par (n := n) (p := p) (k := k) (by omega)) with e | e <;> omega
  unfold movedF
  rw [key _ (Nat.le_refl _), atD_last]
theorem valid_nil {n : Nat} (h : n ≤ 9223372036854775807) : Valid n [] := ⟨h, fun t ht => (by cases ht), List.nodup_nil, fun t ht => (by cases ht)⟩
theorem need_none {n : Nat} {ts l : List Nat} (h : IsNeed n ts l) (hno : ∀ s, ¬ Needed n ts s) : l = [] := by
  cases l with
  | nil => rfl
  | cons a l => exact absurd ((h.2 a).1 (List.mem_cons_self)) (hno a)
theorem needed_nil (n s : Nat) : ¬ Needed n [] s := fun ⟨_, h, _⟩ => onway_nil _ _ h

/-- All so many rows below a root. -/
def allL (n root : Nat) : Nat → List Nat
  | 0 => [root]
  | d + 1 => (allL n root d).flatMap fun c => [leftOf c (rowsOf n), leftOf c (rowsOf n) + 1]
theorem mem_all {n root : Nat} (hr : InF n root) : ∀ d, d ≤ rowOf root (rowsOf n) → ∀ x, x ∈ allL n root d ↔ InF n x ∧ root ∈ wayOf n x ∧ rowOf x (rowsOf n) + d = rowOf root (rowsOf n) := by
  intro d
  induction d with
  | zero =>
    intro _ x
    unfold allL
    rw [List.mem_singleton]
    constructor
    · rintro rfl
      exact ⟨hr, way_self hr, rfl⟩
    · rintro ⟨h1, h2, h3⟩
      exact ((way_row h1 h2).2 (by omega)).symm
  | succ d ih =>
    intro hd x
    unfold allL
    rw [List.mem_flatMap]
    constructor
    · rintro ⟨c, hc, hx⟩
      obtain ⟨c1, c2, c3⟩ := (ih (by omega) c).1 hc
      obtain ⟨k1, k2, k3, k4, k5, k6, k7⟩ := child_in c1 (by omega)
      obtain ⟨w1, w2⟩ := child_way c1 (by omega)
      simp only [List.mem_cons, List.not_mem_nil, or_false] at hx
      rcases hx with rfl | rfl
      · exact ⟨k2, by rw [w1]; exact List.mem_cons_of_mem _ c2, by omega⟩
      · exact ⟨k3, by rw [w2]; exact List.mem_cons_of_mem _ c2, by omega⟩
    · rintro ⟨h1, h2, h3⟩
      obtain ⟨h4, h5⟩ := way_par h1 h2 (fun e => by rw [e] at h3; omega)
      obtain ⟨p1, p2, p3, p4, p5⟩ := par_in h1 h4
      refine ⟨parOf x (rowsOf n), (ih (by omega) _).2 ⟨p2, h5, by omega⟩, ?_⟩
      simp only [List.mem_cons, List.not_mem_nil, or_false]
      exact child_of rfl
theorem all_up {n root : Nat} (hr : InF n root) : ∀ d, d ≤ rowOf root (rowsOf n) → (allL n root d).Pairwise (fun a b => a < b) := by
  intro d
  induction d with
  | zero => intro _; exact List.pairwise_singleton _ _
  | succ d ih =>
    intro hd
    unfold allL
    rw [List.pairwise_flatMap]
    refine ⟨fun a _ => by simp, (ih (by omega)).imp_of_mem fun {a b} ha hb hab x hx y hy => ?_⟩
    obtain ⟨a1, a2, a3⟩ := (mem_all hr d (by omega) a).1 ha
    obtain ⟨b1, b2, b3⟩ := (mem_all hr d (by omega) b).1 hb
    have ka := (child_in a1 (by omega)).1
    have kb := (child_in b1 (by omega)).1
    have hs := pw_succ (rowsOf n)
    simp only [List.mem_cons, List.not_mem_nil, or_false] at hx hy
    unfold leftOf at hx hy
    rcases hx with rfl | rfl <;> rcases hy with rfl | rfl <;> omega
theorem all_len (n root : Nat) : ∀ d, (allL n root d).length = 2 ^ d
  | 0 => rfl
  | d + 1 => by
    have key : ∀ l : List Nat, (l.flatMap fun c => [leftOf c (rowsOf n), leftOf c (rowsOf n) + 1]).length = 2 * l.length := fun l => by
      induction l with
      | nil => rfl
      | cons a l ih => rw [List.flatMap_cons, List.length_append, ih, List.length_cons]; simp; omega
    unfold allL
    rw [key, all_len n root d, pw_succ]
theorem all_valid {n root d : Nat} (hr : InF n root) (hd : d ≤ rowOf root (rowsOf n)) : Valid n (allL n root d) := by
  refine ⟨hr.1, fun t ht => ((mem_all hr d hd t).1 ht).1, (all_up hr d hd).imp fun h => by omega, fun t ht p hp hne hm => ?_⟩
  obtain ⟨t1, t2, t3⟩ := (mem_all hr d hd t).1 ht
  obtain ⟨p1, p2, p3⟩ := (mem_all hr d hd p).1 hm
  exact hne ((way_row t1 hp).2 (by omega))
/-- Something lies so many rows below. -/
theorem desc {n : Nat} : ∀ k x, InF n x → k ≤ rowOf x (rowsOf n) → ∃ y, InF n y ∧ x ∈ wayOf n y ∧ rowOf y (rowsOf n) + k = rowOf x (rowsOf n)
  | 0, x, h, _ => ⟨x, h, way_self h, rfl⟩
  | k + 1, x, h, hk => by
    obtain ⟨k1, k2, k3, k4, k5, k6, k7⟩ := child_in h (by omega)
    obtain ⟨y, y1, y2, y3⟩ := desc k (leftOf x (rowsOf n)) k2 (by omega)
    refine ⟨y, y1, way_trans y1 y2 ?_, by omega⟩
    rw [(child_way h (by omega)).1]
    exact List.mem_cons_of_mem _ (way_self h)
theorem onway_all {n root d x : Nat} (hr : InF n root) (hd : d ≤ rowOf root (rowsOf n)) (hx : InF n x) (hrx : root ∈ wayOf n x) (hrow : rowOf root (rowsOf n) ≤ rowOf x (rowsOf n) + d) : OnWay n (allL n root d) x := by
  have h1 := (way_row hx hrx).1
  obtain ⟨y, y1, y2, y3⟩ := desc (rowOf x (rowsOf n) + d - rowOf root (rowsOf n)) x hx (by omega)
  exact ⟨y, (mem_all hr d hd y).2 ⟨y1, way_trans y1 y2 hrx, by omega⟩, y2⟩
theorem all_need {n root d : Nat} (hr : InF n root) (h0 : topK n root = 0) (hd : d ≤ rowOf root (rowsOf n)) (s : Nat) : ¬ Needed n (allL n root d) s := by
  rintro ⟨p, ⟨t, ht, hp⟩, h2, rfl, h3⟩
  obtain ⟨t1, t2, t3⟩ := (mem_all hr d hd t).1 ht
  have hpi := in_way t1 hp
  have hrp : root ∈ wayOf n p := by
    refine way_chain t1 hp t2 ?_
    have e1 := way_tree t1 hp
    have e2 := way_tree t1 t2
    unfold treeOf at e1 e2
    omega
  have hne : root ≠ p := fun e => h2 (by rw [← e]; exact h0)
  obtain ⟨s1, s2, s3, s4, s5, s6⟩ := top_sib hpi h2
  have hm := (way_par hpi hrp hne).2
  have w1 := (par_in s1 (by omega)).2.2.2.1
  rw [s3] at w1
  have := (way_row t1 hp).1
  exact h3 (onway_all hr hd s1 (by rw [w1]; exact List.mem_cons_of_mem _ hm) (by omega))
theorem emp_all {n root d : Nat} (hr : InF n root) (hd : d ≤ rowOf root (rowsOf n)) : ∀ k x, InF n x → root ∈ wayOf n x → rowOf x (rowsOf n) + d = rowOf root (rowsOf n) + k → emp n (allL n root d) x = true
  | 0, x, h1, h2, h3 => emp_target ((mem_all hr d hd x).2 ⟨h1, h2, h3⟩)
  | k + 1, x, h1, h2, h3 => by
    have h4 := (way_row h1 h2).1
    by_cases hm : x ∈ allL n root d
    · exact emp_target hm
    · obtain ⟨k1, k2, k3, k4, k5, k6, k7⟩ := child_in h1 (by omega)
      obtain ⟨w1, w2⟩ := child_way h1 (by omega)
      rw [emp_on h1 hm (onway_all hr hd h1 h2 (by omega)) (by omega), emp_all hr hd k _ k2 (by rw [w1]; exact List.mem_cons_of_mem _ h2) (by omega), emp_all hr hd k _ k3 (by rw [w2]; exact List.mem_cons_of_mem _ h2) (by omega)]
      rfl
theorem all_gone {n root d x : Nat} (hr : InF n root) (hd : d ≤ rowOf root (rowsOf n)) (hx : InF n x) (hrx : root ∈ wayOf n x) : goneB n (allL n root d) x = true := by
  unfold goneB
  rw [Bool.or_eq_true, List.any_eq_true]
  rcases Nat.lt_or_ge (rowOf x (rowsOf n) + d) (rowOf root (rowsOf n)) with hl | hl
  · left
    have ht := tree_le hx
    have e2 := way_tree hx hrx
    unfold treeOf at ht e2
    have hi : rowOf root (rowsOf n) - d - rowOf x (rowsOf n) ≤ topK n x := by omega
    have hm : anc x (rowsOf n) (rowOf root (rowsOf n) - d - rowOf x (rowsOf n)) ∈ wayOf n x := (mem_way hx).2 ⟨_, hi, rfl⟩
    have hrow := (anc_spec hx.2.1 (rowOf root (rowsOf n) - d - rowOf x (rowsOf n)) (by omega)).2.1
    exact ⟨_, hm, decide_eq_true ((mem_all hr d hd _).2 ⟨in_way hx hm, way_chain hx hm hrx (by omega), by omega⟩)⟩
  · exact .inr (emp_all hr hd (rowOf x (rowsOf n) + d - rowOf root (rowsOf n)) x hx hrx (by omega))
end Go.Proofs.Ytapdhmaeglafjaa
