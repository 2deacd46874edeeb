/- Targets, needed ones, where nodes stand then: plain facts (NeedEnough, NeedApart). -/
import Derived.Test.YtapdhmaeglafjaaNh
namespace Go.Proofs.Ytapdhmaeglafjaa

theorem par_in {n p : Nat} (h : InF n p) (h0 : topK n p ≠ 0) : p + 2 < 2 ^ (rowsOf n + 1) ∧ InF n (parOf p (rowsOf n)) ∧ topK n (parOf p (rowsOf n)) = topK n p - 1 ∧ wayOf n p = p :: wayOf n (parOf p (rowsOf n)) ∧ rowOf (parOf p (rowsOf n)) (rowsOf n) = rowOf p (rowsOf n) + 1 := by
  have h2 := (sib_in h h0).1
  obtain ⟨a1, a2, a3⟩ := way_above h (i := 1) (by omega)
  have pr : anc p (rowsOf n) 1 = parOf p (rowsOf n) := rfl
  rw [pr] at a1 a2 a3
  refine ⟨h2, a1, a2, ?_, (par_spec h2).2.1⟩
  rw [a3]
  have e0 := way_get h (i := 0) (by omega)
  refine List.ext_getElem? fun k => ?_
  cases k with
  | zero => rw [e0]; rfl
  | succ k => simp
theorem root_way {n p : Nat} (h : InF n p) (h0 : topK n p = 0) : wayOf n p = [p] := by
  rw [way_in h, h0]
  rfl
theorem top_sib {n p : Nat} (h : InF n p) (h0 : topK n p ≠ 0) : InF n (sibOf p) ∧ topK n (sibOf p) = topK n p ∧ parOf (sibOf p) (rowsOf n) = parOf p (rowsOf n) ∧ sibOf (sibOf p) = p ∧ sibOf p ≠ p ∧ rowOf (sibOf p) (rowsOf n) = rowOf p (rowsOf n) := by
  obtain ⟨h2, hs⟩ := sib_in h h0
  obtain ⟨s1, s2, s3, s4⟩ := sib_spec h2
  have e1 := sib_par h2
  have ho : offOf (sibOf p) (rowsOf n) / 2 = offOf p (rowsOf n) / 2 := by
    have e2 := (par_spec s1).2.2
    rw [e1, (par_spec h2).2.2] at e2
    exact e2.symm
  refine ⟨hs, topK_eq h.1 ?_, e1, s3, s4, s2⟩
  have hw := topK_at h
  unfold WayAt at *
  rw [s2]
  obtain ⟨k, hk⟩ : ∃ k, topK n p = k + 1 := ⟨topK n p - 1, by omega⟩
  rw [hk] at hw ⊢
  rw [Nat.pow_succ, Nat.mul_comm, ← Nat.div_div_eq_div_mul] at hw ⊢
  rw [ho]
  exact hw
theorem child_top {n p : Nat} (h : InF n p) (h0 : 1 ≤ rowOf p (rowsOf n)) : topK n (leftOf p (rowsOf n)) = topK n p + 1 ∧ topK n (leftOf p (rowsOf n) + 1) = topK n p + 1 ∧ parOf (leftOf p (rowsOf n)) (rowsOf n) = p ∧ parOf (leftOf p (rowsOf n) + 1) (rowsOf n) = p ∧ leftOf p (rowsOf n) % 2 = 0 := by
  obtain ⟨k1, k2, k3, k4, k5, k6, k7⟩ := child_in h h0
  obtain ⟨b1, b2, b3, _⟩ := left_back h.2.1 k1
  obtain ⟨_, _, l3, _, l5⟩ := left_spec h.2.1 k1
  have hw := topK_at h
  have key : ∀ c, rowOf c (rowsOf n) = rowOf p (rowsOf n) - 1 → offOf c (rowsOf n) / 2 = offOf p (rowsOf n) → WayAt n c (topK n p + 1) := fun c e1 e2 => by
    unfold WayAt at *
    rw [e1, show rowOf p (rowsOf n) - 1 + (topK n p + 1) = rowOf p (rowsOf n) + topK n p from by omega, Nat.pow_succ, Nat.mul_comm, ← Nat.div_div_eq_div_mul, e2]
    exact hw
  exact ⟨topK_eq h.1 (key _ k4 (by rw [l3]; omega)), topK_eq h.1 (key _ k5 (by rw [l5]; omega)), b2, b3, b1⟩
/-- Whoever has this parent is one of its two children. -/
theorem child_of {q p R : Nat} (h : parOf q R = p) : q = leftOf p R ∨ q = leftOf p R + 1 := by
  have hs := pw_succ R
  subst h
  unfold parOf leftOf
  omega
theorem child_way {n p : Nat} (h : InF n p) (h0 : 1 ≤ rowOf p (rowsOf n)) : wayOf n (leftOf p (rowsOf n)) = leftOf p (rowsOf n) :: wayOf n p ∧ wayOf n (leftOf p (rowsOf n) + 1) = (leftOf p (rowsOf n) + 1) :: wayOf n p := by
  obtain ⟨k1, k2, k3, k4, k5, k6, k7⟩ := child_in h h0
  obtain ⟨t1, t2, t3, t4, _⟩ := child_top h h0
  have a := (par_in k2 (by omega)).2.2.2.1
  have b := (par_in k3 (by omega)).2.2.2.1
  rw [t3] at a
  rw [t4] at b
  exact ⟨a, b⟩
theorem way_one {n p x y : Nat} (h : InF n p) (hx : x ∈ wayOf n p) (hy : y ∈ wayOf n p) (he : rowOf x (rowsOf n) = rowOf y (rowsOf n)) : x = y := by
  have hl := tree_le h
  unfold treeOf at hl
  obtain ⟨i, hi, rfl⟩ := (mem_way h).1 hx
  obtain ⟨j, hj, rfl⟩ := (mem_way h).1 hy
  rw [(anc_spec h.2.1 i (by omega)).2.1, (anc_spec h.2.1 j (by omega)).2.1] at he
  rw [show i = j from by omega]
/-- Of two on one way, the higher one is on the other's. -/
theorem way_chain {n p x y : Nat} (h : InF n p) (hx : x ∈ wayOf n p) (hy : y ∈ wayOf n p) (he : rowOf x (rowsOf n) ≤ rowOf y (rowsOf n)) : y ∈ wayOf n x := by
  have hl := tree_le h
  unfold treeOf at hl
  obtain ⟨i, hi, rfl⟩ := (mem_way h).1 hx
  obtain ⟨j, hj, rfl⟩ := (mem_way h).1 hy
  rw [(anc_spec h.2.1 i (by omega)).2.1, (anc_spec h.2.1 j (by omega)).2.1] at he
  obtain ⟨a1, a2, _⟩ := way_above h hi
  exact (mem_way a1).2 ⟨j - i, by omega, by rw [anc_add]; congr 1; omega⟩
theorem way_tree {n p x : Nat} (h : InF n p) (hx : x ∈ wayOf n p) : treeOf n x = treeOf n p := by
  have hl := tree_le h
  unfold treeOf at hl
  obtain ⟨i, hi, rfl⟩ := (mem_way h).1 hx
  unfold treeOf
  rw [(anc_spec h.2.1 i (by omega)).2.1, (way_above h hi).2.1]
  omega
/-- Above it on its way: on the parent's. -/
theorem way_par {n p x : Nat} (h : InF n p) (hx : x ∈ wayOf n p) (hne : x ≠ p) : topK n p ≠ 0 ∧ x ∈ wayOf n (parOf p (rowsOf n)) := by
  by_cases h0 : topK n p = 0
  · rw [root_way h h0] at hx
    simp at hx
    exact absurd hx hne
  · rw [(par_in h h0).2.2.2.1] at hx
    rcases List.mem_cons.1 hx with e | e
    · exact absurd e hne
    · exact ⟨h0, e⟩
theorem par_mem {n p : Nat} (h : InF n p) (h0 : topK n p ≠ 0) : parOf p (rowsOf n) ∈ wayOf n p := by
  obtain ⟨_, a1, _, a2, _⟩ := par_in h h0
  rw [a2]
  exact List.mem_cons_of_mem _ (way_self a1)

/-! ### What is on ways -/
theorem onway_in {n p : Nat} {ts : List Nat} (hv : Valid n ts) (ho : OnWay n ts p) : InF n p := onway_u64 hv ho
theorem onway_up {n p x : Nat} {ts : List Nat} (hv : Valid n ts) (ho : OnWay n ts p) (hx : x ∈ wayOf n p) : OnWay n ts x := by
  obtain ⟨t, h1, h2⟩ := ho
  exact ⟨t, h1, way_trans (hv.2.1 t h1) h2 hx⟩
theorem onway_down {n p : Nat} {ts : List Nat} (hv : Valid n ts) (ho : OnWay n ts p) (hp : p ∉ ts) : 1 ≤ rowOf p (rowsOf n) ∧ (OnWay n ts (leftOf p (rowsOf n)) ∨ OnWay n ts (leftOf p (rowsOf n) + 1)) := by
  refine ⟨target_leaf hv ho hp, ?_⟩
  obtain ⟨t, h1, h2⟩ := ho
  have hi := hv.2.1 t h1
  obtain ⟨i, hi1, rfl⟩ := (mem_way hi).1 h2
  cases i with
  | zero => exact absurd h1 hp
  | succ i =>
    have hq : OnWay n ts (anc t (rowsOf n) i) := ⟨t, h1, (mem_way hi).2 ⟨i, by omega, rfl⟩⟩
    rcases child_of (show parOf (anc t (rowsOf n) i) (rowsOf n) = anc t (rowsOf n) (i + 1) from rfl) with e | e
    · exact .inl (e ▸ hq)
    · exact .inr (e ▸ hq)
/-- One on a way that is no target: its children are on ways, or needed. -/
theorem enough_child {n p : Nat} {ts : List Nat} (hv : Valid n ts) (ho : OnWay n ts p) (hp : p ∉ ts) :
    1 ≤ rowOf p (rowsOf n) ∧ (OnWay n ts (leftOf p (rowsOf n)) ∨ Needed n ts (leftOf p (rowsOf n))) ∧ (OnWay n ts (leftOf p (rowsOf n) + 1) ∨ Needed n ts (leftOf p (rowsOf n) + 1)) := by
  obtain ⟨h0, hd⟩ := onway_down hv ho hp
  have hin := onway_in hv ho
  obtain ⟨k1, k2, k3, k4, k5, k6, k7⟩ := child_in hin h0
  obtain ⟨t1, t2, t3, t4, t5⟩ := child_top hin h0
  have k8 : sibOf (leftOf p (rowsOf n) + 1) = leftOf p (rowsOf n) := by
    unfold sibOf
    rw [if_neg (by omega)]
    omega
  refine ⟨h0, ?_, ?_⟩
  · by_cases hl : OnWay n ts (leftOf p (rowsOf n))
    · exact .inl hl
    · rcases hd with hd | hd
      · exact absurd hd hl
      · exact .inr ⟨_, hd, by omega, k8.symm, hl⟩
  · by_cases hl : OnWay n ts (leftOf p (rowsOf n) + 1)
    · exact .inl hl
    · rcases hd with hd | hd
      · exact .inr ⟨_, hd, by omega, k7.symm, hl⟩
      · exact absurd hd hl
theorem need_facts {n s : Nat} {ts : List Nat} (hv : Valid n ts) (h : Needed n ts s) :
    InF n s ∧ topK n s ≠ 0 ∧ OnWay n ts (sibOf s) ∧ ¬ OnWay n ts s ∧ OnWay n ts (parOf s (rowsOf n)) ∧ ∀ t ∈ ts, t ∉ wayOf n s := by
  obtain ⟨p, h1, h2, rfl, h3⟩ := h
  have hp := onway_in hv h1
  obtain ⟨s1, s2, s3, s4, s5, s6⟩ := top_sib hp h2
  obtain ⟨q1, q2, q3, q4, q5⟩ := par_in hp h2
  have ho := onway_up hv h1 (par_mem hp h2)
  refine ⟨s1, by omega, by rw [s4]; exact h1, h3, by rw [s3]; exact ho, fun t ht hm => ?_⟩
  by_cases e : t = sibOf p
  · exact h3 ⟨t, ht, by rw [← e]; exact way_self (hv.2.1 t ht)⟩
  · have hm2 := (way_par s1 hm e).2
    rw [s3] at hm2
    obtain ⟨u, hu, hpu⟩ := h1
    have huin := hv.2.1 u hu
    have hm3 : t ∈ wayOf n p := by rw [q4]; exact List.mem_cons_of_mem _ hm2
    have hm4 := way_trans huin hpu hm3
    by_cases e2 : t = u
    · subst e2
      have r1 := (way_row q2 hm2).1
      have r2 := (way_row huin hpu).1
      omega
    · exact hv.2.2.2 u hu t hm4 e2 ht

/-! ### Where nodes stand -/
/-- The node k steps below its root, of a way. -/
def atD (n p k : Nat) : Nat := anc p (rowsOf n) (topK n p - k)
theorem atD_mem {n p k : Nat} (h : InF n p) : atD n p k ∈ wayOf n p := (mem_way h).2 ⟨topK n p - k, by omega, rfl⟩
theorem atD_row {n p k : Nat} (h : InF n p) (hk : k ≤ topK n p) : rowOf (atD n p k) (rowsOf n) + k = treeOf n p ∧ topK n (atD n p k) = k := by
  have hl := tree_le h
  unfold treeOf at *
  unfold atD
  rw [(anc_spec h.2.1 _ (by omega)).2.1, (way_above h (i := topK n p - k) (by omega)).2.1]
  omega
theorem atD_par {n p k : Nat} (hk : k < topK n p) : parOf (atD n p (k + 1)) (rowsOf n) = atD n p k := by
  unfold atD
  rw [show topK n p - k = topK n p - (k + 1) + 1 from by omega]
  rfl
theorem atD_last (n p : Nat) : atD n p (topK n p) = p := by
  unfold atD
  rw [Nat.sub_self]
  rfl
theorem mv_next (n : Nat) (ts : List Nat) (p k : Nat) : mvAt n ts p (k + 1) = mvStep n ts (mvAt n ts p k) (atD n p (k + 1)) := by
  show mvStep n ts _ _ = _
  unfold atD
  rw [Nat.sub_sub, Nat.add_comm 1 k]
theorem mv_zero (n : Nat) (ts : List Nat) (p : Nat) : mvAt n ts p 0 = atD n p 0 := rfl
/-- Ways that run together so far have come to one place. -/
theorem mv_same {n a b : Nat} (ts : List Nat) : ∀ k, k ≤ topK n a → k ≤ topK n b → atD n a k = atD n b k → mvAt n ts a k = mvAt n ts b k
  | 0, _, _, e => e
  | k + 1, ha, hb, e => by
    have e2 : atD n a k = atD n b k := by rw [← atD_par (by omega), e, atD_par (by omega)]
    rw [mv_next, mv_next, e, mv_same ts k (by omega) (by omega) e2]
theorem mv_child {n p k : Nat} (ts : List Nat) (h : InF n p) (hk : k < topK n p) : InF n (mvAt n ts p k) ∧ 1 ≤ rowOf (mvAt n ts p k) (rowsOf n) := by
  obtain ⟨h1, h2⟩ := mv_in ts h k (by omega)
  exact ⟨h1, by omega⟩
theorem mv_step {n p k : Nat} (ts : List Nat) (h : InF n p) (hk : k < topK n p) : mvAt n ts p k ∈ wayOf n (mvAt n ts p (k + 1)) := by
  obtain ⟨h1, h2⟩ := mv_child ts h hk
  rw [mv_next]
  unfold mvStep
  split
  · exact way_self h1
  · obtain ⟨w1, w2⟩ := child_way h1 h2
    rcases Nat.mod_two_eq_zero_or_one (atD n p (k + 1)) with e | e
    · rw [e, Nat.add_zero, w1]
      exact List.mem_cons_of_mem _ (way_self h1)
    · rw [e, w2]
      exact List.mem_cons_of_mem _ (way_self h1)
theorem mv_mono {n p k : Nat} (ts : List Nat) (h : InF n p) : ∀ j, k + j ≤ topK n p → mvAt n ts p k ∈ wayOf n (mvAt n ts p (k + j))
  | 0, hk => way_self (mv_in ts h k (by omega)).1
  | j + 1, hk => way_trans (mv_in ts h (k + (j + 1)) hk).1 (mv_step ts h (k := k + j) (by omega)) (mv_mono ts h j (by omega))
theorem mv_way {n p k : Nat} (ts : List Nat) (h : InF n p) (hk : k ≤ topK n p) : mvAt n ts p k ∈ wayOf n (movedF n ts p) := by
  have := mv_mono ts h (k := k) (topK n p - k) (by omega)
  rwa [show k + (topK n p - k) = topK n p from by omega] at this
theorem moved_in {n p : Nat} (ts : List Nat) (h : InF n p) : InF n (movedF n ts p) ∧ treeOf n (movedF n ts p) = treeOf n p := by
  have h1 : InF n (movedF n ts p) := (mv_in ts h _ (Nat.le_refl _)).1
  refine ⟨h1, ?_⟩
  have h2 := mv_way ts h (k := 0) (by omega)
  rw [← way_tree h1 h2, mv_zero, way_tree h (atD_mem h)]
/-- Above it: it stands above its place, or there. -/
theorem moved_below {n a b : Nat} (ts : List Nat) (ha : InF n a) (hb : b ∈ wayOf n a) : movedF n ts b ∈ wayOf n (movedF n ts a) := by
  have hbi := in_way ha hb
  obtain ⟨i, hi, rfl⟩ := (mem_way ha).1 hb
  obtain ⟨a1, a2, a3⟩ := way_above ha hi
  have key : mvAt n ts (anc a (rowsOf n) i) (topK n (anc a (rowsOf n) i)) = mvAt n ts a (topK n (anc a (rowsOf n) i)) := by
    refine mv_same ts _ (Nat.le_refl _) (by omega) ?_
    rw [atD_last]
    unfold atD
    congr 1
    omega
  unfold movedF
  rw [key]
  exact mv_way ts ha (by omega)
/-- Below one that is emptied all is gone. -/
theorem emp_gone {n : Nat} {ts : List Nat} : ∀ (r p a : Nat), InF n a → p ∈ wayOf n a → rowOf p (rowsOf n) = r → empF n ts r p = true → goneB n ts a = true := by
  intro r
  induction r with
  | zero =>
    intro p a ha hp _ he
    unfold empF at he
    unfold goneB
    rw [Bool.or_eq_true, List.any_eq_true]
    exact .inl ⟨p, hp, he⟩
  | succ r ih =>
    intro p a ha hp hr he
    by_cases hm : p ∈ ts
    · unfold goneB
      rw [Bool.or_eq_true, List.any_eq_true]
      exact .inl ⟨p, hp, decide_eq_true hm⟩
    · have he0 := he
      unfold empF at he
      rw [if_neg hm] at he
      by_cases ho : onB n ts p = true
      · rw [if_pos ho, Bool.and_eq_true] at he
        have hpi := in_way ha hp
        obtain ⟨k1, k2, k3, k4, k5, k6, k7⟩ := child_in hpi (by omega)
        by_cases e : p = a
        · subst e
          unfold goneB
          rw [Bool.or_eq_true]
          right
          unfold emp
          rw [hr]
          exact he0
        · obtain ⟨i, hi, rfl⟩ := (mem_way ha).1 hp
          cases i with
          | zero => exact absurd rfl e
          | succ i =>
            have hq : anc a (rowsOf n) i ∈ wayOf n a := (mem_way ha).2 ⟨i, by omega, rfl⟩
            rcases child_of (show parOf (anc a (rowsOf n) i) (rowsOf n) = anc a (rowsOf n) (i + 1) from rfl) with e | e
            · exact ih _ a ha (e ▸ hq) (by omega) he.1
            · exact ih _ a ha (e ▸ hq) (by omega) he.2
      · rw [if_neg ho] at he
        cases he
theorem not_emp {n p a : Nat} {ts : List Nat} (ha : InF n a) (hp : p ∈ wayOf n a) (hg : goneB n ts a = false) : emp n ts p = false := by
  cases h : emp n ts p
  · rfl
  · rw [emp_gone _ p a ha hp rfl h] at hg
    cases hg
theorem fork {n a b : Nat} : ∀ m, m ≤ topK n a → m ≤ topK n b → atD n a 0 = atD n b 0 → atD n a m ≠ atD n b m → ∃ k, k < m ∧ atD n a k = atD n b k ∧ atD n a (k + 1) ≠ atD n b (k + 1)
  | 0, _, _, e, h => absurd e h
  | m + 1, ha, hb, e, h => by
    by_cases hm : atD n a m = atD n b m
    · exact ⟨m, by omega, hm, h⟩
    · obtain ⟨k, h1, h2⟩ := fork m (by omega) (by omega) e hm
      exact ⟨k, by omega, h2⟩
theorem sib_pair {x y c : Nat} (ca : x = c ∨ x = c + 1) (cb : y = c ∨ y = c + 1) (hev : c % 2 = 0) (h : x ≠ y) : sibOf x = y ∧ sibOf y = x ∧ x % 2 ≠ y % 2 := by
  unfold sibOf
  split <;> split <;> omega
/-- Neither above the other: their places neither. -/
theorem moved_apart {n a b : Nat} {ts : List Nat} (ha : InF n a) (hb : InF n b) (ga : goneB n ts a = false) (gb : goneB n ts b = false) (h1 : b ∉ wayOf n a) (h2 : a ∉ wayOf n b) :
    movedF n ts b ∉ wayOf n (movedF n ts a) := by
  intro hc
  obtain ⟨ma, ta⟩ := moved_in ts ha
  obtain ⟨mb, tb⟩ := moved_in ts hb
  have et : treeOf n a = treeOf n b := by rw [← ta, ← tb]; exact (way_tree ma hc).symm
  have e0 : atD n a 0 = atD n b 0 := by
    show anc a (rowsOf n) (topK n a) = anc b (rowsOf n) (topK n b)
    rw [tree_root ha, tree_root hb, et]
  have ne : ∃ m, m ≤ topK n a ∧ m ≤ topK n b ∧ atD n a m ≠ atD n b m := by
    rcases Nat.le_total (topK n a) (topK n b) with hl | hl
    · exact ⟨_, Nat.le_refl _, hl, fun e => h2 (by rw [atD_last] at e; rw [e]; exact atD_mem hb)⟩
    · exact ⟨_, hl, Nat.le_refl _, fun e => h1 (by rw [atD_last n b] at e; rw [← e]; exact atD_mem ha)⟩
  obtain ⟨m, m1, m2, m3⟩ := ne
  obtain ⟨k, k1, k2, k3⟩ := fork m m1 m2 e0 m3
  obtain ⟨pi, pr⟩ := mv_child ts ha (k := k) (by omega)
  have es := mv_same ts k (by omega) (by omega) k2
  have wa := mv_way ts ha (k := k + 1) (by omega)
  have wb := way_trans ma hc (mv_way ts hb (k := k + 1) (by omega))
  rw [mv_next] at wa wb
  rw [← es] at wb
  -- the two nodes are siblings
  have pa := atD_par (n := n) (p := a) (k := k) (by omega)
  have pb := atD_par (n := n) (p := b) (k := k) (by omega)
  have xa : InF n (atD n a (k + 1)) := in_way ha (atD_mem ha)
  have xb : InF n (atD n b (k + 1)) := in_way hb (atD_mem hb)
  have ka := (atD_row ha (k := k + 1) (by omega)).2
  have kb := (atD_row hb (k := k + 1) (by omega)).2
  have ha1 := top_sib xa (by omega)
  have hb1 := top_sib xb (by omega)
  rw [k2] at pa
  have ca := child_of pa
  have cb := child_of pb
  obtain ⟨_, cp1, cp2, cp3, cp4⟩ := par_in xb (by omega)
  rw [pb] at cp1 cp4
  have hev := (child_top cp1 (by omega)).2.2.2.2
  generalize leftOf (atD n b k) (rowsOf n) = c at *
  have sa := sib_pair ca cb hev k3
  have na := not_emp (p := sibOf (atD n a (k + 1))) hb (by rw [sa.1]; exact atD_mem hb) gb
  have nb := not_emp (p := sibOf (atD n b (k + 1))) ha (by rw [sa.2.1]; exact atD_mem ha) ga
  unfold mvStep at wa wb
  rw [if_neg (by rw [na]; simp)] at wa
  rw [if_neg (by rw [nb]; simp)] at wb
  obtain ⟨d1, d2, d3, d4, d5, d6, d7⟩ := child_in pi pr
  have eq := way_one ma wa wb (by
    rcases Nat.mod_two_eq_zero_or_one (atD n a (k + 1)) with e | e <;> rcases Nat.mod_two_eq_zero_or_one (atD n b (k + 1)) with e' | e' <;> rw [e, e'] <;> simp only [Nat.add_zero] <;> omega)
  omega
end Go.Proofs.Ytapdhmaeglafjaa
