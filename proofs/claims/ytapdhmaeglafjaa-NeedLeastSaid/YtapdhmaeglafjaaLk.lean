/- NeedLeast: what can be told. -/
import Derived.Test.YtapdhmaeglafjaaCu
import Derived.Test.YtapdhmaeglafjaaPa
import Derived.Test.YtapdhmaeglafjaaLe
namespace Go.Proofs.Ytapdhmaeglafjaa
open Go.RowKit Go.Shelf

/-- Can the hash at a position be told, so many rows down? -/
def knw (n : Nat) (ts os : List Nat) : Nat → Nat → Bool
  | 0, p => decide (p ∈ ts ∨ p ∈ os)
  | r + 1, p => if p ∈ ts ∨ p ∈ os then true else knw n ts os r (leftOf p (rowsOf n)) && knw n ts os r (leftOf p (rowsOf n) + 1)
theorem knw_yes {n : Nat} {ts os : List Nat} (r p : Nat) (h : p ∈ ts ∨ p ∈ os) : knw n ts os r p = true := by
  cases r with
  | zero => exact decide_eq_true h
  | succ r => exact if_pos h
theorem knw_step {n : Nat} {ts os : List Nat} (r p : Nat) (h : ¬ (p ∈ ts ∨ p ∈ os)) : knw n ts os (r + 1) p = (knw n ts os r (leftOf p (rowsOf n)) && knw n ts os r (leftOf p (rowsOf n) + 1)) := if_neg h
/-- All on ways can be told, of targets and needed ones. -/
theorem knw_way {n : Nat} {ts os : List Nat} (hv : Valid n ts) (hos : ∀ x, Needed n ts x → x ∈ os) : ∀ r p, OnWay n ts p → rowOf p (rowsOf n) = r → knw n ts os r p = true := by
  intro r
  induction r with
  | zero =>
    intro p ho hr
    by_cases hm : p ∈ ts
    · exact knw_yes _ _ (.inl hm)
    · have := target_leaf hv ho hm
      omega
  | succ r ih =>
    intro p ho hr
    by_cases hm : p ∈ ts ∨ p ∈ os
    · exact knw_yes _ _ hm
    · obtain ⟨h0, h1, h2⟩ := enough_child hv ho (fun h => hm (.inl h))
      obtain ⟨k1, k2, k3, k4, k5, k6, k7⟩ := child_in (onway_in hv ho) h0
      have key : ∀ x, (OnWay n ts x ∨ Needed n ts x) → rowOf x (rowsOf n) = r → knw n ts os r x = true := fun x h hx => by
        rcases h with h | h
        · exact ih x h hx
        · exact knw_yes _ _ (.inr (hos x h))
      rw [knw_step _ _ hm, key _ h1 (by omega), key _ h2 (by omega)]
      rfl
/-- Whoever holds none of the targets and of the others below, can't be told. -/
theorem knw_none {n : Nat} {ts os : List Nat} : ∀ r p, InF n p → rowOf p (rowsOf n) = r → (∀ x, InF n x → p ∈ wayOf n x → x ∉ ts ∧ x ∉ os) → knw n ts os r p = false := by
  intro r
  induction r with
  | zero =>
    intro p hin _ h
    have := h p hin (way_self hin)
    exact decide_eq_false (fun e => by rcases e with e | e; exact this.1 e; exact this.2 e)
  | succ r ih =>
    intro p hin hr h
    have h0 := h p hin (way_self hin)
    obtain ⟨k1, k2, k3, k4, k5, k6, k7⟩ := child_in hin (by omega)
    obtain ⟨w1, w2⟩ := child_way hin (by omega)
    rw [knw_step _ _ (fun e => by rcases e with e | e; exact h0.1 e; exact h0.2 e), ih _ k2 (by omega) (fun x hx hp => h x hx (way_trans hx hp (by rw [w1]; exact List.mem_cons_of_mem _ (way_self hin))))]
    rfl
/-- And none above it, unless it is one of them. -/
theorem knw_up {n s : Nat} {ts os : List Nat} (hin : InF n s) (h : knw n ts os (rowOf s (rowsOf n)) s = false) (hno : ∀ a ∈ wayOf n s, a ≠ s → a ∉ ts ∧ a ∉ os) : ∀ i, i ≤ topK n s → knw n ts os (rowOf s (rowsOf n) + i) (anc s (rowsOf n) i) = false := by
  have ht := tree_le hin
  unfold treeOf at ht
  intro i
  induction i with
  | zero => intro _; exact h
  | succ i ih =>
    intro hi
    have h1 := ih (by omega)
    have hm : anc s (rowsOf n) (i + 1) ∈ wayOf n s := (mem_way hin).2 ⟨i + 1, hi, rfl⟩
    have h2 := hno _ hm (fun e => by
      have h3 := (anc_spec hin.2.1 (i + 1) (by omega)).2.1
      rw [e] at h3
      omega)
    show knw n ts os (rowOf s (rowsOf n) + i + 1) _ = false
    rw [knw_step _ _ (fun e => by rcases e with e | e; exact h2.1 e; exact h2.2 e)]
    rcases child_of (show parOf (anc s (rowsOf n) i) (rowsOf n) = anc s (rowsOf n) (i + 1) from rfl) with e | e
    · rw [← e, h1]
      rfl
    · rw [← e, h1, Bool.and_false]

/-- Of the needed ones all but one: its tree's root can't be told. -/
theorem least {n k s : Nat} {ts l : List Nat} (hv : Valid n ts) (hl : IsNeed n ts l) (hs : l[k]? = some s) :
    InF n s ∧ InF n (rootOf n (treeOf n s)) ∧ rowOf (rootOf n (treeOf n s)) (rowsOf n) = treeOf n s ∧ knw n ts l (treeOf n s) (rootOf n (treeOf n s)) = true ∧ knw n ts (l.take k ++ l.drop (k + 1)) (treeOf n s) (rootOf n (treeOf n s)) = false := by
  have hne := (hl.2 s).1 (List.mem_of_getElem? hs)
  obtain ⟨f1, f2, f3, f4, f5, f6⟩ := need_facts hv hne
  have ht := tree_le f1
  have er := tree_root f1
  unfold treeOf at ht
  have hrow : rowOf (rootOf n (treeOf n s)) (rowsOf n) = treeOf n s := by
    rw [← er, (anc_spec f1.2.1 _ ht).2.1]
    rfl
  have hrm : rootOf n (treeOf n s) ∈ wayOf n s := by
    rw [← er]
    exact (mem_way f1).2 ⟨_, Nat.le_refl _, rfl⟩
  have hon : OnWay n ts (rootOf n (treeOf n s)) := by
    refine onway_up hv f5 ?_
    have h1 := (way_par f1 hrm (fun e => f4 ?_)).2
    · exact h1
    · exfalso
      have := hrow
      rw [e] at this
      unfold treeOf at this
      omega
  refine ⟨f1, in_way f1 hrm, hrow, knw_way hv (fun x hx => (hl.2 x).2 hx) _ _ hon hrow, ?_⟩
  have hmem : ∀ x, x ∈ l.take k ++ l.drop (k + 1) → x ∈ l ∧ x ≠ s := by
    intro x hx
    obtain ⟨k1, k2⟩ := List.getElem?_eq_some_iff.1 hs
    have pw := List.pairwise_iff_getElem.1 hl.1
    rcases List.mem_append.1 hx with hx | hx
    · obtain ⟨j, hj⟩ := List.mem_iff_getElem?.1 hx
      rw [List.getElem?_take] at hj
      split at hj
      · obtain ⟨j1, j2⟩ := List.getElem?_eq_some_iff.1 hj
        have := pw j k j1 k1 (by assumption)
        exact ⟨List.mem_of_getElem? hj, by omega⟩
      · cases hj
    · obtain ⟨j, hj⟩ := List.mem_iff_getElem?.1 hx
      rw [List.getElem?_drop] at hj
      obtain ⟨j1, j2⟩ := List.getElem?_eq_some_iff.1 hj
      have := pw k (k + 1 + j) k1 j1 (by omega)
      exact ⟨List.mem_of_getElem? hj, by omega⟩
  have hself : knw n ts (l.take k ++ l.drop (k + 1)) (rowOf s (rowsOf n)) s = false := by
    refine knw_none _ _ f1 rfl fun x hx hsx => ⟨fun hm => f4 ⟨x, hm, hsx⟩, fun hm => ?_⟩
    obtain ⟨m1, m2⟩ := hmem x hm
    obtain ⟨g1, g2, _, _, g5, _⟩ := need_facts hv ((hl.2 x).1 m1)
    exact f4 (onway_up hv g5 (way_par hx hsx (fun e => m2 e.symm)).2)
  have hup := knw_up f1 hself (fun a ha hne => ?_) (topK n s) (Nat.le_refl _)
  · rw [er] at hup
    exact hup
  · refine ⟨fun hm => f6 a hm ha, fun hm => ?_⟩
    obtain ⟨m1, _⟩ := hmem a hm
    exact (need_facts hv ((hl.2 a).1 m1)).2.2.2.1 (onway_up hv f5 (way_par f1 ha hne).2)

set_option maxHeartbeats 2000000 in
theorem known_any {n : Nat} {ts os : List Nat} (A B : Option Addr) (c d : Nat) (hn : n ≤ 9223372036854775807) (ht : ts.length ≤ 1000000) (ho : os.length ≤ 1000000) : ∀ (r p : Nat) (w : World), InF n p → rowOf p (rowsOf n) = r → SliceG w A ts → SliceG w B os →
    Calls Try.prog 16 #[.int .u64 p, .int .i64 (rowsOf n : Nat), .slice A ts.length c, .slice B os.length d] w fun e w' => e = .returned (.bool (knw n ts os r p)) ∧ w = w' := by
  have hR := rows_le (n := n) (by omega)
  intro r
  induction r with
  | zero =>
    intro p w hin hr hA hB
    have H1 := Lib.hid (lhas_list ts A c p w ht hA)
    have H2 := Lib.hid (lhas_list os B d p w ho hB)
    have hpu := inF_u64 hin
    by_cases h1 : p ∈ ts
    · rw [decide_eq_true h1] at H1
      have E := Lib.hid (knw_yes (n := n) (ts := ts) (os := os) 0 p (.inl h1))
      go_enter Try.func16, Try.ntmps16
      go_wp2_with fail
      refine H1.out.mono ?_
      rintro e _ ⟨rfl, rfl⟩
      go_wp2_with fail
      go_ret
      exact ⟨by rw [E.out]; rfl, rfl⟩
    · rw [decide_eq_false h1] at H1
      by_cases h2 : p ∈ os
      · rw [decide_eq_true h2] at H2
        have E := Lib.hid (knw_yes (n := n) (ts := ts) (os := os) 0 p (.inr h2))
        go_enter Try.func16, Try.ntmps16
        go_wp2_with fail
        refine H1.out.mono ?_
        rintro e _ ⟨rfl, rfl⟩
        go_wp2_with fail
        refine H2.out.mono ?_
        rintro e _ ⟨rfl, rfl⟩
        go_wp2_with fail
        go_ret
        exact ⟨by rw [E.out]; rfl, rfl⟩
      · rw [decide_eq_false h2] at H2
        have E := Lib.hid (show knw n ts os 0 p = false from decide_eq_false (fun e => by rcases e with e | e; exact h1 e; exact h2 e))
        have LF := Lib.hid fun w => left_no p (rowsOf n : Nat) w (by omega) (fun h => by have := (rowOf_low hin.2.1).1 hr; have h3 := h.2; simp at h3; omega)
        go_enter Try.func16, Try.ntmps16
        go_wp2_with fail
        refine H1.out.mono ?_
        rintro e _ ⟨rfl, rfl⟩
        go_wp2_with fail
        refine H2.out.mono ?_
        rintro e _ ⟨rfl, rfl⟩
        go_wp2_with (go_at_call 29; refine (LF.out _).mono ?_; rintro e w' ⟨rfl, rfl⟩)
        go_ret
        exact ⟨by rw [E.out]; rfl, rfl⟩
  | succ r ih =>
    intro p w hin hr hA hB
    have H1 := Lib.hid (lhas_list ts A c p w ht hA)
    have H2 := Lib.hid (lhas_list os B d p w ho hB)
    have hpu := inF_u64 hin
    by_cases h1 : p ∈ ts
    · rw [decide_eq_true h1] at H1
      have E := Lib.hid (knw_yes (n := n) (ts := ts) (os := os) (r + 1) p (.inl h1))
      go_enter Try.func16, Try.ntmps16
      go_wp2_with fail
      refine H1.out.mono ?_
      rintro e _ ⟨rfl, rfl⟩
      go_wp2_with fail
      go_ret
      exact ⟨by rw [E.out]; rfl, rfl⟩
    · rw [decide_eq_false h1] at H1
      by_cases h2 : p ∈ os
      · rw [decide_eq_true h2] at H2
        have E := Lib.hid (knw_yes (n := n) (ts := ts) (os := os) (r + 1) p (.inr h2))
        go_enter Try.func16, Try.ntmps16
        go_wp2_with fail
        refine H1.out.mono ?_
        rintro e _ ⟨rfl, rfl⟩
        go_wp2_with fail
        refine H2.out.mono ?_
        rintro e _ ⟨rfl, rfl⟩
        go_wp2_with fail
        go_ret
        exact ⟨by rw [E.out]; rfl, rfl⟩
      · rw [decide_eq_false h2] at H2
        have E := Lib.hid (knw_step (n := n) (ts := ts) (os := os) r p (fun e => by rcases e with e | e; exact h1 e; exact h2 e))
        obtain ⟨k1, k2, k3, k4, k5, k6, k7⟩ := child_in hin (by omega)
        have LF := Lib.hid fun w => left_yes p (rowsOf n) w hR hin.2.1 k1
        have il := Lib.hid (ih (leftOf p (rowsOf n)) w k2 (by omega) hA hB)
        have ir := Lib.hid (ih (leftOf p (rowsOf n) + 1) w k3 (by omega) hA hB)
        have hlu := inF_u64 k3
        clear ih k1 k2 k3 k4 k5 k6 k7 h1 h2 hA hB
        generalize leftOf p (rowsOf n) = L at *
        generalize knw n ts os r L = b1 at *
        generalize knw n ts os r (L + 1) = b2 at *
        rewrite [show ((L + 1 : Nat) : Int) = (L : Int) + 1 from by omega] at ir hlu
        go_enter Try.func16, Try.ntmps16
        go_wp2_with fail
        refine H1.out.mono ?_
        rintro e _ ⟨rfl, rfl⟩
        go_wp2_with fail
        refine H2.out.mono ?_
        rintro e _ ⟨rfl, rfl⟩
        go_wp2_with (go_at_call 29; refine (LF.out _).mono ?_; rintro e w' ⟨rfl, rfl⟩)
        refine il.out.mono ?_
        rintro e _ ⟨rfl, rfl⟩
        cases b1
        · go_wp2_with fail
          go_ret
          exact ⟨by rw [E.out]; rfl, rfl⟩
        · go_wp2_with fail
          refine ir.out.mono ?_
          rintro e _ ⟨rfl, rfl⟩
          go_wp2_with fail
          go_ret
          exact ⟨by rw [E.out, Bool.true_and]; rfl, rfl⟩
end Go.Proofs.Ytapdhmaeglafjaa
