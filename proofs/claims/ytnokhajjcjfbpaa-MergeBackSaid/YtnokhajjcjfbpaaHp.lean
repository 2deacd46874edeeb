/- MergeBack: plain words; two tables that grow side by side. -/
import Derived.Test.YtnokhajjcjfbpaaJe
import Derived.Laws.Tables
namespace Go.Proofs.Ytnokhajjcjfbpaa
open Go.RowKit Go.Shelf

theorem gap_mem {kn nl : List Nat} {m i : Nat} : (i : Int) ∈ gapsOf kn nl m ↔ i < m ∧ nl.getD i 0 ∈ kn := by
  unfold gapsOf
  constructor
  · intro h
    obtain ⟨j, hj, e⟩ := List.mem_map.1 h
    have : j = i := by omega
    subst this
    obtain ⟨h1, h2⟩ := List.mem_filter.1 hj
    exact ⟨List.mem_range.1 h1, of_decide_eq_true h2⟩
  · rintro ⟨h1, h2⟩
    exact List.mem_map.2 ⟨i, List.mem_filter.2 ⟨List.mem_range.2 h1, decide_eq_true h2⟩, rfl⟩
theorem gaps_up (kn nl : List Nat) (m : Nat) : (gapsOf kn nl m).Pairwise (fun a b => a < b) := by
  unfold gapsOf
  rw [List.pairwise_map]
  exact (List.Pairwise.filter _ List.pairwise_lt_range).imp fun h => by omega
theorem gaps_in {kn nl : List Nat} {m : Nat} {g : Int} (h : g ∈ gapsOf kn nl m) : 0 ≤ g ∧ g < m := by
  unfold gapsOf at h
  obtain ⟨j, hj, rfl⟩ := List.mem_map.1 h
  have := List.mem_range.1 (List.mem_filter.1 hj).1
  omega
theorem gaps_ok (kn nl : List Nat) (m : Nat) : Gaps (gapsOf kn nl m) m := by
  intro i hi
  have e : (gapsOf kn nl m).getD i 0 = (gapsOf kn nl m)[i] := by simp [List.getD, List.getElem?_eq_getElem hi]
  have hg := gaps_in (List.getElem_mem hi)
  refine ⟨by rw [e]; exact hg.1, by rw [e]; exact hg.2, fun h0 => ?_⟩
  have hi1 : i - 1 < (gapsOf kn nl m).length := by omega
  have e1 : (gapsOf kn nl m).getD (i - 1) 0 = (gapsOf kn nl m)[i - 1] := by simp [List.getD, List.getElem?_eq_getElem hi1]
  rw [e, e1]
  exact List.pairwise_iff_getElem.1 (gaps_up kn nl m) (i - 1) i hi1 hi (by omega)
theorem part_len {kn nl : List Nat} {hs : List (List Int)} (hh : nl.length = hs.length) : ∀ m, m ≤ nl.length → (gapsOf kn nl m).length + (restOf kn nl hs m).length = m
  | 0, _ => rfl
  | m + 1, h => by
    have ih := part_len (kn := kn) hh m (by omega)
    have hx : nl[m]? = some (nl[m]'(by omega)) := List.getElem?_eq_getElem (by omega)
    have hz : hs[m]? = some (hs[m]'(by omega)) := List.getElem?_eq_getElem (by omega)
    by_cases hk : nl[m]'(by omega) ∈ kn
    · rw [gaps_yes hx hk, rest_yes hx hk, List.length_append, List.length_singleton]
      omega
    · rw [gaps_no hx hk, rest_no hx hk hz, List.length_append, List.length_singleton]
      omega
theorem cnt_gaps {kn nl : List Nat} {m : Nat} (hm : m ≤ nl.length) : ∀ i, i ≤ m → cnt (gapsOf kn nl m) i = (gapsOf kn nl i).length
  | 0, _ => by
    rw [cnt_none (fun g hg => by have := (gaps_in hg).1; omega)]
    rfl
  | i + 1, h => by
    have hx : nl[i]? = some (nl[i]'(by omega)) := List.getElem?_eq_getElem (by omega)
    have hd : nl.getD i 0 = nl[i]'(by omega) := by simp [List.getD, hx]
    rw [cnt_succ i (gaps_up kn nl m), cnt_gaps hm i (by omega)]
    by_cases hk : nl[i]'(by omega) ∈ kn
    · rw [if_pos (gap_mem.2 ⟨by omega, by rw [hd]; exact hk⟩), gaps_yes hx hk, List.length_append]
      rfl
    · rw [if_neg (fun hg => hk (by rw [← hd]; exact (gap_mem.1 hg).2)), gaps_no hx hk]
      rfl
theorem rest_more (kn nl : List Nat) (hs : List (List Int)) (i : Nat) : ∀ d, ∃ t, restOf kn nl hs (i + d) = restOf kn nl hs i ++ t
  | 0 => ⟨[], by simp⟩
  | d + 1 => by
    obtain ⟨t, ht⟩ := rest_more kn nl hs i d
    have : ∃ u, restOf kn nl hs (i + d + 1) = restOf kn nl hs (i + d) ++ u := by
      unfold restOf
      rw [List.range_succ, List.filter_append, List.map_append]
      exact ⟨_, rfl⟩
    obtain ⟨u, hu⟩ := this
    exact ⟨t ++ u, by rw [← Nat.add_assoc, hu, ht, List.append_assoc]⟩
theorem rest_at {kn nl : List Nat} {hs : List (List Int)} (hh : nl.length = hs.length) {m i x : Nat} {z : List Int} (hm : m ≤ nl.length) (hi : i < m) (hx : nl[i]? = some x) (hk : x ∉ kn) (hz : hs[i]? = some z) : (restOf kn nl hs m)[i - cnt (gapsOf kn nl m) i]? = some z := by
  have h1 := cnt_gaps hm i (by omega) (kn := kn)
  have h2 := part_len (kn := kn) hh i (by omega)
  obtain ⟨t, ht⟩ := rest_more kn nl hs (i + 1) (m - (i + 1))
  rw [show i + 1 + (m - (i + 1)) = m by omega, rest_no hx hk hz] at ht
  rw [ht, h1, show i - (gapsOf kn nl i).length = (restOf kn nl hs i).length by omega, List.append_assoc, List.getElem?_append_right (Nat.le_refl _), Nat.sub_self]
  rfl
/-- The hashes of a proof, those at the gaps turned. -/
def mixOf (kn nl : List Nat) (hs : List (List Int)) (f : Nat → List Int) (i : Nat) : List (List Int) := (List.range i).map fun j => if nl.getD j 0 ∈ kn then f j else hs.getD j []
theorem fill_back {kn nl : List Nat} {hs : List (List Int)} {lk : Nat → Option (List Int)} {f : Nat → List Int} (hh : nl.length = hs.length) (hlk : ∀ j x, nl[j]? = some x → x ∈ kn → lk x = some (f j)) :
    ∀ i, i ≤ nl.length → fillOf (gapsOf kn nl nl.length) (restOf kn nl hs nl.length) lk nl i = some (mixOf kn nl hs f i)
  | 0, _ => rfl
  | i + 1, h => by
    have ih := fill_back hh hlk i (by omega)
    have hx : nl[i]? = some (nl[i]'(by omega)) := List.getElem?_eq_getElem (by omega)
    have hz : hs[i]? = some (hs[i]'(by omega)) := List.getElem?_eq_getElem (by omega)
    have hd : nl.getD i 0 = nl[i]'(by omega) := by simp [List.getD, hx]
    have hd2 : hs.getD i [] = hs[i]'(by omega) := by simp [List.getD, hz]
    have e : ∀ y, mixOf kn nl hs f i ++ [y] = mixOf kn nl hs f (i + 1) ↔ (if nl.getD i 0 ∈ kn then f i else hs.getD i []) = y := by
      intro y
      unfold mixOf
      rw [List.range_succ, List.map_append, List.append_cancel_left_eq]
      simp
      exact eq_comm
    by_cases hk : nl[i]'(by omega) ∈ kn
    · rw [fill_gap ih hx (gap_mem.2 ⟨by omega, by rw [hd]; exact hk⟩) (hlk i _ hx hk), (e (f i)).2 (by rw [hd, if_pos hk])]
    · rw [fill_rest ih (fun hg => hk (by rw [← hd]; exact (gap_mem.1 hg).2)) (rest_at hh (Nat.le_refl _) (by omega) hx hk hz), (e _).2 (by rw [hd, if_neg hk, hd2])]
theorem mix_same {kn nl : List Nat} {hs : List (List Int)} (hh : nl.length = hs.length) : mixOf kn nl hs (fun j => hs.getD j []) nl.length = hs := by
  unfold mixOf
  apply List.ext_getElem?
  intro k
  rw [List.getElem?_map]
  rcases Nat.lt_or_ge k nl.length with h | h
  · have hz : hs[k]? = some (hs[k]'(by omega)) := List.getElem?_eq_getElem (by omega)
    rw [List.getElem?_range h, Option.map_some, hz]
    simp [List.getD, hz]
  · rw [List.getElem?_eq_none (by simpa using h), List.getElem?_eq_none (by omega)]
    rfl
theorem mix_len (kn nl : List Nat) (hs : List (List Int)) (f : Nat → List Int) (i : Nat) : (mixOf kn nl hs f i).length = i := by simp [mixOf]
theorem mix_at {kn nl : List Nat} {hs : List (List Int)} {f : Nat → List Int} {m i : Nat} (h : i < m) : (mixOf kn nl hs f m)[i]? = some (if nl.getD i 0 ∈ kn then f i else hs.getD i []) := by
  unfold mixOf
  rw [List.getElem?_map, List.getElem?_range h]
  rfl
theorem fill_nothing {kn nl : List Nat} {hs : List (List Int)} {lk : Nat → Option (List Int)} (hlk : ∀ p, lk p = none) (h : gapsOf kn nl nl.length ≠ []) : fillOf (gapsOf kn nl nl.length) (restOf kn nl hs nl.length) lk nl nl.length = none := by
  obtain ⟨g, hg⟩ := List.exists_mem_of_ne_nil _ h
  have hb := gaps_in hg
  obtain ⟨j, rfl⟩ := Int.eq_ofNat_of_zero_le hb.1
  have hj : j < nl.length := by omega
  have hx : nl[j]? = some nl[j] := List.getElem?_eq_getElem hj
  cases hf : fillOf (gapsOf kn nl nl.length) (restOf kn nl hs nl.length) lk nl j with
  | none =>
    have := fill_none hf (nl.length - j)
    rwa [show j + (nl.length - j) = nl.length by omega] at this
  | some out => exact fill_stop hf hx hg (hlk _)
theorem fill_free {kn nl : List Nat} {hs : List (List Int)} {lk : Nat → Option (List Int)} (hh : nl.length = hs.length) (h : gapsOf kn nl nl.length = []) : fillOf (gapsOf kn nl nl.length) (restOf kn nl hs nl.length) lk nl nl.length = some (mixOf kn nl hs (fun _ => []) nl.length) := by
  refine fill_back hh (fun j x hx hk => ?_) _ (Nat.le_refl _)
  have hj := (List.getElem?_eq_some_iff.1 hx).1
  have hd : nl.getD j 0 = x := by simp [List.getD, hx]
  have : (j : Int) ∈ gapsOf kn nl nl.length := gap_mem.2 ⟨hj, by rw [hd]; exact hk⟩
  rw [h] at this
  cases this
/-- A hash, its eighth byte one more. -/
def bump (z : List Int) : List Int := z.set 7 (IntKind.u8.wrap (z.getD 7 0 + 1))
theorem bump_len (z : List Int) : (bump z).length = z.length := by simp [bump]
theorem wrap_u8 (x : Int) : IntKind.u8.wrap x = x % 256 := by
  simp [IntKind.wrap, IntKind.bits, IntKind.signed]
theorem bump_ne (z : List Int) (h : z.length = 32) : bump z ≠ z := by
  intro e
  have h1 : (bump z)[7]? = some (IntKind.u8.wrap (z.getD 7 0 + 1)) := by
    unfold bump
    rw [List.getElem?_set_self (by omega)]
  have h2 : z[7]? = some (z[7]'(by omega)) := List.getElem?_eq_getElem (by omega)
  have h3 : z.getD 7 0 = z[7]'(by omega) := by simp [List.getD, h2]
  rw [e, h2, h3, wrap_u8] at h1
  injection h1 with h1
  omega
theorem hc_bump (z : List Int) : (hc z).toArray.setIfInBounds 7 (.int .u8 (IntKind.u8.wrap (z.getD 7 0 + 1))) = (hc (bump z)).toArray := by
  unfold hc bump
  rw [List.setIfInBounds_toArray, List.map_set]
theorem hc_seven (z : List Int) (h : z.length = 32) : (hc z).toArray[7]? = some (.int .u8 (z.getD 7 0)) := by
  have h2 : z[7]? = some (z[7]'(by omega)) := List.getElem?_eq_getElem (by omega)
  simp [hc, List.getD, h2]
/-- The table of the needed positions, up to m. -/
def tabOf (nl : List Nat) (f : Nat → List Int) (m : Nat) : List (Nat × List Int) := (List.range m).map fun j => (nl.getD j 0, f j)
theorem tab_succ (nl : List Nat) (f : Nat → List Int) {m x : Nat} {z : List Int} (hx : nl[m]? = some x) (hz : f m = z) : tabOf nl f (m + 1) = tabOf nl f m ++ [(x, z)] := by
  unfold tabOf
  rw [List.range_succ, List.map_append]
  simp [List.getD, hx, hz]
theorem tab_len (nl : List Nat) (f : Nat → List Int) (m : Nat) : (tabOf nl f m).length = m := by simp [tabOf]
theorem look_tab {nl : List Nat} (hp : nl.Pairwise (fun a b => a < b)) (f : Nat → List Int) {j x : Nat} (hx : nl[j]? = some x) : look (tabOf nl f nl.length) x = some (f j) := by
  have hj := (List.getElem?_eq_some_iff.1 hx).1
  have hd : nl.getD j 0 = x := by simp [List.getD, hx]
  have := look_hit (kn := tabOf nl f nl.length) (k := j) (p := x) (x := (x, f j)) (by
    unfold tabOf
    rw [List.getElem?_map, List.getElem?_range hj, Option.map_some, hd]) rfl (by
    intro y hy
    unfold tabOf at hy
    rw [← List.map_take] at hy
    obtain ⟨t, ht, rfl⟩ := List.mem_map.1 hy
    have htj : t < j := by
      rw [List.take_range] at ht
      have := List.mem_range.1 ht
      omega
    have ht2 : t < nl.length := by omega
    have e : nl.getD t 0 = nl[t] := by simp [List.getD, List.getElem?_eq_getElem ht2]
    have ej : nl[j] = x := (List.getElem?_eq_some_iff.1 hx).2
    have h := List.pairwise_iff_getElem.1 hp t j ht2 hj htj
    show nl.getD t 0 ≠ x
    omega)
  exact this

/-- A row of known ones that the call has made. -/
def OwnK (W : World) (base : Nat) (v : Value) (l : List (Nat × List Int)) : Prop := W.ownsRow base 39 33 v l.length (l.map kc).flatten ∧ ∀ x ∈ l, x.2.length = 32
theorem OwnK.nil (W : World) (base : Nat) : OwnK W base (.slice none 0 0) [] := ⟨World.ownsRow_nil _ _ _ _, by simp⟩
theorem KnownG.own {W : World} {base n c : Nat} {A : Option Addr} {l : List (Nat × List Int)} (h : OwnK W base (.slice A n c) l) (hn : n = l.length) : KnownG W A l := by
  subst hn
  refine ⟨RowG.of_own h.1 (by simp) fun x hx => ?_, h.2⟩
  obtain ⟨y, hy, rfl⟩ := List.mem_map.1 hx
  simp [kc, hc_len, h.2 y hy]
theorem known_info : (Try.prog.info? 39).map (fun i => (i.zero, i.size, i.bytes)) = some (some (.agg (.int .u64 0 :: List.replicate 32 (.int .u8 0)).toArray), 33, 40) := by kernel_rfl
theorem kc_one (x : Nat × List Int) : ∀ u ∈ kc x, u.oneCell' = true := fun u hu => by
  rcases List.mem_cons.1 hu with rfl | hu
  · rfl
  · exact hc_one _ u hu
theorem kc_len (x : Nat × List Int) (h : x.2.length = 32) : (kc x).length = 33 := by simp [kc, hc_len, h]
theorem grow_known {W : World} {base : Nat} {v : Value} {l : List (Nat × List Int)} (h : OwnK W base v l) (hbase : base ≤ W.heap.size) (x : Nat × List Int) (hx : x.2.length = 32) (hn : l.length ≤ 1000000) :
    ∃ A c W', (Builtin.append_ #[32, 32] 32 #[v, .slice (some ⟨W.heap.size, 0, none⟩) 1 1]).run Try.prog (W.alloc (.cells (kc x).toArray 39)) = .ok (.slice A (l.length + 1) c) W' ∧ OwnK W' base (.slice A (l.length + 1) c) (l ++ [x]) ∧ W.grownBy W' v.ownBlock ∧
      ((Value.slice A (l.length + 1) c).ownBlock = v.ownBlock ∨ (Value.slice A (l.length + 1) c).ownBlock = some (W.heap.size + 1)) := by
  obtain ⟨i, hi, hz0, hz1, hz2⟩ := info_parts known_info
  obtain ⟨v', W', hrun, h2, h3, _, h5⟩ := run_append_own_at (P := Try.prog) (W.alloc (.cells (kc x).toArray 39)) base 32 32 39 i _ 33 40 Try.underlying32 hi hz0 hz1 hz2 (by decide) (by decide) v l.length _ (h.1.alloc _) ⟨W.heap.size, 0, none⟩ 1 1 (kc x) (by rw [kc_len x hx]) (list_cell_at W _ (kc x)) (kc_one x) (by simp only [maxLen]; omega) (by omega) (by simp; omega)
  have hsh : ∃ A c, v' = .slice A (l.length + 1) c := by
    rcases h2.2 with ⟨_, h0⟩ | ⟨g, cap, cur, hv, _⟩
    · omega
    · exact ⟨_, _, hv⟩
  obtain ⟨A, c, rfl⟩ := hsh
  refine ⟨A, c, W', hrun, ⟨?_, fun y hy => ?_⟩, (World.grownBy_alloc _ _ _).trans h3, by simpa using h5⟩
  · simpa using h2
  · rcases List.mem_append.1 hy with hy | hy
    · exact h.2 y hy
    · simp at hy
      rw [hy, hx]
/-- Two tables of the call's own, the rows of each under a header. -/
structure TwoK (W : World) (X : Nat) (l1 l2 : List (Nat × List Int)) (v1 v2 : Value) : Prop where
  b1 : IsBlk W X 35 #[v1]
  b2 : IsBlk W (X + 1) 35 #[v2]
  o1 : OwnK W (X + 2) v1 l1
  o2 : OwnK W (X + 2) v2 l2
  ap : v1.ownBlock = none ∨ v1.ownBlock ≠ v2.ownBlock
theorem TwoK.grown {W W' : World} {X : Nat} {l1 l2 : List (Nat × List Int)} {v1 v2 : Value} (h : TwoK W X l1 l2 v1 v2) (hb : Below W.heap.size W W') : TwoK W' X l1 l2 v1 v2 :=
  ⟨h.b1.after hb, h.b2.after hb, ⟨row_after18 h.o1.1 hb, h.o1.2⟩, ⟨row_after18 h.o2.1 hb, h.o2.2⟩, h.ap⟩
theorem TwoK.poke {W : World} {X : Nat} {l1 l2 : List (Nat × List Int)} {v1 v2 : Value} (h : TwoK W X l1 l2 v1 v2) {Y : Nat} (hY : X + 2 ≤ Y) (h1 : v1.ownBlock ≠ some Y) (h2 : v2.ownBlock ≠ some Y) (o : Nat) (u : Value) : TwoK (W.setCell ⟨Y, o, none⟩ u) X l1 l2 v1 v2 :=
  ⟨h.b1.far (by simp; omega) _, h.b2.far (by simp; omega) _, ⟨h.o1.1.kept (grown_put W Y o u) (.inr h1), h.o1.2⟩, ⟨h.o2.1.kept (grown_put W Y o u) (.inr h2), h.o2.2⟩, h.ap⟩
theorem TwoK.one {W W' : World} {X : Nat} {l1 l2 l1' : List (Nat × List Int)} {v1 v2 v1' : Value} (h : TwoK W X l1 l2 v1 v2) (hg : W.grownBy W' v1.ownBlock) (ho : OwnK W' (X + 2) v1' l1') (hat : v1'.ownBlock = v1.ownBlock ∨ v1'.ownBlock = some (W.heap.size + 1)) :
    TwoK (W'.setCell ⟨X, 0, none⟩ v1') X l1' l2 v1' v2 ∧ Below X W (W'.setCell ⟨X, 0, none⟩ v1') := by
  have lX := h.b2.lt
  have n1 := row_low h.o1.1 (show X < X + 2 by omega)
  have n2 := row_low h.o1.1 (show X + 1 < X + 2 by omega)
  have hap : v2.ownBlock = none ∨ v2.ownBlock ≠ v1.ownBlock := by
    rcases h.ap with h0 | h0
    · rw [h0]
      cases v2.ownBlock
      · exact .inl rfl
      · exact .inr (by simp)
    · exact .inr fun e => h0 e.symm
  refine ⟨⟨(h.b1.low hg n1).put 0 v1', (h.b2.low hg n2).far (by simp) _, ⟨row_far ho.1 (by omega) _ _, ho.2⟩, ⟨row_far (h.o2.1.kept hg hap) (by omega) _ _, h.o2.2⟩, ?_⟩, ?_⟩
  · rcases hat with e | e
    · rw [e]
      exact h.ap
    · refine .inr fun e2 => ?_
      have := (h.o2.1.lt _ (e2.symm.trans e)).2
      omega
  · exact (Below.grown (Below.refl X W) hg (by omega) (fun k e => by have := (h.o1.1.lt k e).1; omega)).setCell (Nat.le_refl _) _
theorem TwoK.two {W W' : World} {X : Nat} {l1 l2 l2' : List (Nat × List Int)} {v1 v2 v2' : Value} (h : TwoK W X l1 l2 v1 v2) (hg : W.grownBy W' v2.ownBlock) (ho : OwnK W' (X + 2) v2' l2') (hat : v2'.ownBlock = v2.ownBlock ∨ v2'.ownBlock = some (W.heap.size + 1)) :
    TwoK (W'.setCell ⟨X + 1, 0, none⟩ v2') X l1 l2' v1 v2' ∧ Below X W (W'.setCell ⟨X + 1, 0, none⟩ v2') := by
  have lX := h.b2.lt
  have n1 := row_low h.o2.1 (show X < X + 2 by omega)
  have n2 := row_low h.o2.1 (show X + 1 < X + 2 by omega)
  refine ⟨⟨(h.b1.low hg n1).far (by simp) _, (h.b2.low hg n2).put 0 v2', ⟨row_far (h.o1.1.kept hg h.ap) (by omega) _ _, h.o1.2⟩, ⟨row_far ho.1 (by omega) _ _, ho.2⟩, ?_⟩, ?_⟩
  · rcases hat with e | e
    · rw [e]
      exact h.ap
    · cases hv : v1.ownBlock with
      | none => exact .inl rfl
      | some k =>
        refine .inr fun e2 => ?_
        rw [e] at e2
        have := (h.o1.1.lt k hv).2
        cases e2
        omega
  · exact (Below.grown (Below.refl X W) hg (by omega) (fun k e => by have := (h.o2.1.lt k e).1; omega)).setCell (by simp) _
theorem fill_shift : ∀ (l : List Value) (off k : Nat) (A : Array Value), (l.zipIdx k).foldl (fun cs x => cs.setIfInBounds (off + x.2) x.1) A = (l.zipIdx (off + k)).foldl (fun cs x => cs.setIfInBounds x.2 x.1) A
  | [], _, _, _ => rfl
  | v :: l, off, k, A => by
    rw [List.zipIdx_cons, List.zipIdx_cons, List.foldl_cons, List.foldl_cons]
    exact fill_shift l off (k + 1) _
theorem known_built (x : Nat) (z : List Int) (hz : z.length = 32) : Try.prog.built 39 [(0, .int .u64 x), (1, .agg (hc z).toArray)] = some (kc (x, z)).toArray := by
  have hB : ∀ parts, Try.prog.built 39 parts = Instr.fill (fun i => #[(0, 1), (1, 32)][i]?) (.int .u64 0 :: List.replicate 32 (.int .u8 0)).toArray parts := fun _ => by kernel_rfl
  rw [hB]
  have hl : (hc z).length = 32 := by rw [hc_len, hz]
  have e := fill_eq (hc z) ((Value.int .u64 x) :: List.replicate 32 (.int .u8 0)).toArray 1 (by simp [hl])
  have e2 := fill_shift (hc z) 1 0 ((Value.int .u64 x) :: List.replicate 32 (.int .u8 0)).toArray
  simp only [Instr.fill, Value.cells]
  simp [hl]
  refine Eq.trans e2 (Array.toList_inj.1 (e.trans ?_))
  simp [kc]
theorem run_build_known {o : Oper} {ev : Operand → Value} (x : Nat) (z : List Int) (hz : z.length = 32) (a b : Operand) (ho : o.op = .build 39 #[(0, a), (1, b)]) (ha : ev a = .int .u64 x) (hb : ev b = .agg (hc z).toArray) (w : World) :
    (execOp ev o).run Try.prog w = .ok (.value (.agg (kc (x, z)).toArray)) w := by
  have h := run_build (P := Try.prog) w 39 #[(0, .int .u64 x), (1, .agg (hc z).toArray)] _ (known_built x z hz)
  unfold execOp
  rw [ho]
  simp [ha, hb, h]
theorem run_slice_known {o : Oper} {ev : Operand → Value} (y : Nat × List Int) (hy : y.2.length = 32) (x : Operand) (ho : o.op = .buildSlice 32 1 #[(0, x)]) (hx : ev x = .agg (kc y).toArray) (w : World) :
    (execOp ev o).run Try.prog w = .ok (.value (.slice (some ⟨w.heap.size, 0, none⟩) 1 1)) (w.alloc (.cells (kc y).toArray 39)) := by
  have hl : (kc y).length = 33 := kc_len y hy
  unfold execOp
  rw [ho]
  go_simp
  rw [fill_all _ _ (by rw [hl]; rfl)]
end Go.Proofs.Ytnokhajjcjfbpaa
