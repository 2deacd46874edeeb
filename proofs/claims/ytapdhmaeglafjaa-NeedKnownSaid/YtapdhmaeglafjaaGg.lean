/- Gr, Ri in one (merge.py): a claim holds at most 60 files. -/
import Derived.Test.YtapdhmaeglafjaaNm
import Derived.Test.YtapdhmaeglafjaaPosWc
import Derived.Maps.OwnRows
import Derived.Test.YtapdhmaeglafjaaKeI
import Derived.Test.YtapdhmaeglafjaaShelfB
/- Maps from heights to lists of positions. -/
namespace Go.Proofs.Ytapdhmaeglafjaa
open Go.RowKit Go.Shelf Go.Maps Go.ChangeMaps Go.MapKept Go.ChangeShapes
open Go.WideElems (Fit rd rg pl rd_val elemAt)

theorem row_after {w w' : World} {base : Nat} {e : TypeId} {size : Nat} {v : Value} {n : Nat} {xs : List Value} (h : w.ownsRow base e size v n xs) (hb : Below w.heap.size w w') : w'.ownsRow base e size v n xs := by
  refine ⟨h.1, ?_⟩
  rcases h.2 with h0 | ⟨g, cap, cur, e, h1, h2, h3⟩
  · exact .inl h0
  · exact .inr ⟨g, cap, cur, e, h1, (hb.block g (Array.getElem?_eq_some_iff.1 h2).1).trans h2, h3⟩
theorem groups_after {P : Program} {W W' : World} {k : TypeId} {base : Nat} {e : TypeId} {q : IntKind} {b n : Nat} {D : DataW Unit} (h : W.ownsGroups P k base e q b n D) (hb : Below W.heap.size W W') : W'.ownsGroups P k base e q b n D := by
  obtain ⟨es, clock, hbk, F, hs, hD, hbb, hlen, hap⟩ := h
  have hlt : b < W.heap.size := (Array.getElem?_eq_some_iff.1 hbk).1
  have key : ∀ v zs, W.ownsInts base e q v zs → W'.ownsInts base e q v zs := fun v zs h => ⟨row_after h.1 hb, h.2⟩
  obtain ⟨F2, hmap, _⟩ := F.stay (R' := rowElem W' base e q) (fun x _ z hz => by obtain ⟨zs, ho, rfl⟩ := rowElem_inv hz; exact rowElem_mk (key _ _ ho))
  refine ⟨es, clock, (hb.block b hlt).trans hbk, F2, hs, hD.trans (by rw [hmap]), hbb, fun x hx zs ho => ?_, hap⟩
  obtain ⟨y, hy⟩ := F.reads x hx
  obtain ⟨z, hz, _⟩ := rd_val hy
  obtain ⟨zs', ho', _⟩ := rowElem_inv hz
  rw [ho.unique (key _ _ ho')]
  exact hlen x hx _ ho'

theorem ints_far {W W' : World} {base : Nat} {e : TypeId} {q : IntKind} {row : Option Nat} {v : Value} {zs : List Int} (h : W.ownsInts base e q v zs) (hg : W.grownBy W' row) (hr : ∀ r, row = some r → ∀ cs, W.heap[r]? ≠ some (.cells cs e (0, 0))) : W'.ownsInts base e q v zs := by
  refine h.kept hg ?_
  rcases h.1.2 with ⟨hv, _⟩ | ⟨g, cap, cur, hv, _, hh, _⟩
  · exact .inl (by rw [hv]; rfl)
  · refine .inr fun e1 => ?_
    rw [hv] at e1
    exact hr g e1.symm _ hh
theorem groups_far {P : Program} {W W' : World} {k : TypeId} {base : Nat} {e : TypeId} {q : IntKind} {b n : Nat} {D : DataW Unit} {row : Option Nat} (h : W.ownsGroups P k base e q b n D) (hg : W.grownBy W' row) (hr : ∀ r, row = some r → r ≠ b ∧ ∀ cs, W.heap[r]? ≠ some (.cells cs e (0, 0))) : W'.ownsGroups P k base e q b n D := by
  obtain ⟨es, clock, hbk, F, hs, hD, hbb, hlen, hap⟩ := h
  have hlt : b < W.heap.size := (Array.getElem?_eq_some_iff.1 hbk).1
  have key : ∀ v zs, W.ownsInts base e q v zs → W'.ownsInts base e q v zs := fun v zs h => ints_far h hg fun r hr' => (hr r hr').2
  obtain ⟨F2, hmap, _⟩ := F.stay (R' := rowElem W' base e q) (fun x _ z hz => by obtain ⟨zs, ho, rfl⟩ := rowElem_inv hz; exact rowElem_mk (key _ _ ho))
  refine ⟨es, clock, (hg.block b hlt (fun e => (hr b e.symm).1 rfl)).trans hbk, F2, hs, hD.trans (by rw [hmap]), hbb, fun x hx zs ho => ?_, hap⟩
  obtain ⟨y, hy⟩ := F.reads x hx
  obtain ⟨z, hz, _⟩ := rd_val hy
  obtain ⟨zs', ho', _⟩ := rowElem_inv hz
  rw [ho.unique (key _ _ ho')]
  exact hlen x hx _ ho'

/-- A map at block b: at each height the list that f tells; rows of its own from base on. -/
def GMap (W : World) (base b n : Nat) (f : Nat → List Nat) : Prop := ∃ D : DataW Unit, W.ownsGroups Try.prog 3 base 22 .u64 b n D ∧
  (∀ h : Nat, h ≤ 100 → (f h = [] ∧ has D (.int .i64 h) = false ∧ D.atKey (.int .i64 h) .nil = .nil) ∨ (f h ≠ [] ∧ has D (.int .i64 h) = true ∧ D.atKey (.int .i64 h) .nil = .slice (lits .u64 (ints (f h))) [])) ∧
  ∀ x : Int, has D (.int .i64 x) = true → ∃ h : Nat, x = h ∧ h ≤ 100
section
variable {W W' : World} {base b n : Nat} {f : Nat → List Nat}
theorem GMap.lt (h : GMap W base b n f) : b < W.heap.size := by
  obtain ⟨D, ⟨es, clock, hb, _⟩, _⟩ := h
  exact (Array.getElem?_eq_some_iff.1 hb).1
theorem GMap.after (h : GMap W base b n f) (hb : Below W.heap.size W W') : GMap W' base b n f := by
  obtain ⟨D, h1, h2⟩ := h
  exact ⟨D, groups_after h1 hb, h2⟩
theorem GMap.far {row : Option Nat} (h : GMap W base b n f) (hg : W.grownBy W' row) (hr : ∀ r, row = some r → r ≠ b ∧ ∀ cs, W.heap[r]? ≠ some (.cells cs 22 (0, 0))) : GMap W' base b n f := by
  obtain ⟨D, h1, h2⟩ := h
  exact ⟨D, groups_far h1 hg hr, h2⟩
theorem GMap.made (W : World) : GMap (W.alloc (.map #[] 0)) (W.heap.size + 1) W.heap.size 0 (fun _ => []) :=
  ⟨.map [], World.ownsGroups_made _ _ _ _ _, fun h _ => .inl ⟨rfl, by simp [has], rfl⟩, fun x hx => by simp [has] at hx⟩
theorem GMap.lift {base' : Nat} (h : GMap W base b 0 f) (hb : b < base') : GMap W base' b 0 f := by
  obtain ⟨D, ⟨es, clock, hbk, F, hs, hD, _, _, _⟩, h2⟩ := h
  have he : es = #[] := Array.eq_empty_of_size_eq_zero (by omega)
  subst he
  obtain ⟨F2, hmap, _⟩ := F.stay (R' := rowElem W base' 22 .u64) (fun x hx => by simp at hx)
  exact ⟨D, ⟨#[], clock, hbk, F2, hs, hD.trans (by rw [hmap]), hb, fun x hx => by simp at hx, fun x hx => by simp at hx⟩, h2⟩
theorem wfh {h : Nat} (hh : h ≤ 100) : (Lit.int .i64 h).wf = true := wfi (by omega)
theorem keyH {h : Nat} (hh : h ≤ 100) : keyOf Try.prog 3 (.int .i64 h) = some (.int .i64 h) := keyOf_int_mk Try.underlying3 (wfh hh)
theorem keyedH : Keyed Try.prog 3 := int_keyed Try.underlying3
theorem zeroL (w : World) : (zeroValue 23).run Try.prog w = .ok (.slice none 0 0) w := by kernel_rfl
theorem lits_inj {q : IntKind} {a b : List Int} (h : (lits q a : List (DataW Unit)) = lits q b) : a = b := by
  unfold lits at h
  exact (List.map_inj_right (fun x y e => by injection e with e; injection e)).1 h
set_option maxRecDepth 100000 in
/-- A look-up: the list's slice; whatever is done from here on to its own row and to new blocks alone, a store of the list grown by one restores the map. -/
theorem GMap.look (hG : GMap W base b n f) {h : Nat} (hh : h ≤ 100) (hn : n < 1000000) : ∃ v, (Instr.lookup 86 (.map (some b)) (.int .i64 h) false).run Try.prog W = .ok v W ∧ W.ownsInts base 22 .u64 v (ints (f h)) ∧ (f h).length ≤ n ∧
    ∀ (x : Nat) (W1 : World) (v' : Value), (x : Int) ≤ 18446744073709551615 → W.grownBy W1 v.ownBlock → W1.ownsInts base 22 .u64 v' (ints (f h ++ [x])) → (v'.ownBlock = v.ownBlock ∨ ∃ g, v'.ownBlock = some g ∧ W.heap.size ≤ g) →
      ∃ w2, (Instr.mapUpdate 86 (.map (some b)) (.int .i64 h) v').run Try.prog W1 = .ok () w2 ∧ GMap w2 base b (n + 1) (fun y => if y = h then f h ++ [x] else f y) ∧ W1.grownBy w2 (some b) := by
  obtain ⟨D, hown, hD, hK⟩ := hG
  obtain ⟨v, zs, hrun, hat, hoi, hzl, hback⟩ := hown.at keyedH Try.underlying86 (zeroL W) (by unfold maxLen; omega) (keyH hh)
  have e : zs = ints (f h) := by
    rcases hD h hh with ⟨h1, h2, h3⟩ | ⟨h1, h2, h3⟩
    · rw [h3] at hat
      rcases hoi.datum (H := Unit) with ⟨_, h4⟩ | h4
      · rw [h4, h1]; rfl
      · rw [h4] at hat; cases hat
    · rw [h3] at hat
      rcases hoi.datum (H := Unit) with ⟨h4, _⟩ | h4
      · rw [h4] at hat; cases hat
      · rw [h4] at hat
        injection hat with hat
        exact (lits_inj hat).symm
  subst e
  refine ⟨v, hrun, hoi, by rwa [ints_len] at hzl, fun x W1 v' hx hg ho hloc => ?_⟩
  rw [ints_len] at hzl
  obtain ⟨w2, g1, g2, g3⟩ := hback W1 v' (ints (f h ++ [x])) hg ho (by rw [ints_len, List.length_append]; simp; omega) hloc
  have hM : Maps.IsMap D := by
    obtain ⟨es, clock, _, _, _, hD', _⟩ := hown
    exact ⟨_, hD'⟩
  have hk : WideAt.IsKeyLit (.int .i64 (h : Int)) := by simp [WideAt.IsKeyLit]
  refine ⟨w2, g1, ⟨_, g2, fun y hy => ?_, fun y hy => ?_⟩, g3⟩
  · by_cases e : y = h
    · subst e
      simp only [if_pos]
      refine .inr ⟨by simp, has_put_same hM hk _, ?_⟩
      rw [atKey_put_same hM hk, ho.datum_pos (by simp [ints])]
    · have hne : Lit.int .i64 (y : Int) ≠ Lit.int .i64 (h : Int) := fun h' => by injection h' with _ h'; exact e (by omega)
      simp only [if_neg e]
      rw [atKey_put_other hne, has_put_other hne]
      exact hD y hy
  · by_cases e : y = (h : Int)
    · exact ⟨h, e, hh⟩
    · have hne : Lit.int .i64 y ≠ Lit.int .i64 (h : Int) := fun h' => by injection h' with _ h'; exact e h'
      rw [has_put_other hne] at hy
      exact hK y hy
end
end Go.Proofs.Ytapdhmaeglafjaa
/- rising of a map from heights to lists: its heights, rising. -/
namespace Go.Proofs.Ytapdhmaeglafjaa
open Go.RowKit Go.Maps Go.Sort Go.Shelf Go.Proofs

theorem sortsI (m : Nat) : ksI_SortsIn Fence.wide m :=
  ⟨fun blk off cap ss W hH hb hs => callsIn_wide.2 (Try.slices_Sort_int blk off cap ss W hH hb hs), fun p cap W => callsIn_wide.2 (Try.slices_Sort_int_none p cap W)⟩

/-- A rising list of just the heights at which something lies. -/
def RisesH (f : Nat → List Nat) (l : List Nat) : Prop := l.Pairwise (fun a b => a < b) ∧ ∀ x : Nat, x ∈ l ↔ (x ≤ 100 ∧ f x ≠ [])

theorem risesH_of {f : Nat → List Nat} {D : DataW Unit} {ss : List Int}
    (h2 : ∀ h : Nat, h ≤ 100 → (f h = [] ∧ has D (.int .i64 h) = false ∧ D.atKey (.int .i64 h) .nil = .nil) ∨ (f h ≠ [] ∧ has D (.int .i64 h) = true ∧ D.atKey (.int .i64 h) .nil = .slice (ChangeShapes.lits .u64 (ints (f h))) []))
    (h3 : ∀ x : Int, has D (.int .i64 x) = true → ∃ h : Nat, x = h ∧ h ≤ 100)
    (hk : KeysAreI D ss) : ∃ l : List Nat, RisesH f l ∧ l.length = ss.length ∧ ss.mergeSort (fun x y => decide (x ≤ y)) = ints l := by
  have hw : ∀ x ∈ ss, ∃ y : Nat, x = y ∧ y ≤ 100 := fun x hx => h3 x ((hk.2 x).1 hx)
  have tr : ∀ a b c : Int, decide (a ≤ b) = true → decide (b ≤ c) = true → decide (a ≤ c) = true := fun a b c h1 h2 => by simp only [decide_eq_true_eq] at *; omega
  have to : ∀ a b : Int, (decide (a ≤ b) || decide (b ≤ a)) = true := fun a b => by simp only [Bool.or_eq_true, decide_eq_true_eq]; omega
  have hp := List.mergeSort_perm ss (fun x y => decide (x ≤ y))
  have hs := List.pairwise_mergeSort tr to ss
  have hnd := hp.nodup_iff.2 hk.1
  generalize hM : ss.mergeSort (fun x y => decide (x ≤ y)) = M at *
  refine ⟨M.map Int.toNat, ⟨?_, fun x => ?_⟩, ?_, ?_⟩
  · refine List.pairwise_map.2 ((hs.and hnd).imp_of_mem fun {a b} ha hb h => ?_)
    obtain ⟨h1, h3⟩ := h
    simp only [decide_eq_true_eq] at h1
    obtain ⟨x, rfl, _⟩ := hw a (hp.mem_iff.1 ha)
    obtain ⟨y, rfl, _⟩ := hw b (hp.mem_iff.1 hb)
    have : (x : Int) ≠ y := h3
    simp only [Int.toNat_natCast]
    omega
  · rw [List.mem_map]
    constructor
    · rintro ⟨a, ha, rfl⟩
      have hm := hp.mem_iff.1 ha
      obtain ⟨y, rfl, hy⟩ := hw a hm
      simp only [Int.toNat_natCast]
      refine ⟨hy, ?_⟩
      rcases h2 y hy with ⟨h4, h5, _⟩ | ⟨h4, _, _⟩
      · have := (hk.2 _).1 hm
        rw [this] at h5
        cases h5
      · exact h4
    · rintro ⟨h1, h3⟩
      refine ⟨(x : Int), hp.mem_iff.2 ((hk.2 _).2 ?_), Int.toNat_natCast x⟩
      rcases h2 x h1 with ⟨h4, _, _⟩ | ⟨_, h5, _⟩
      · exact absurd h4 h3
      · exact h5
  · rw [List.length_map, hp.length_eq]
  · unfold ints
    rw [List.map_map]
    conv => lhs; rw [← List.map_id M]
    refine List.map_congr_left fun a ha => ?_
    obtain ⟨y, rfl, _⟩ := hw a (hp.mem_iff.1 ha)
    simp

set_option maxHeartbeats 1000000 in
theorem risingH_any (mb nn base : Nat) (f : Nat → List Nat) (w : World) (hN : GMap w base mb nn f) (hnn : nn ≤ 1000000) :
    Calls Try.prog 59 #[.map (some mb)] w fun e w' => ∃ l : List Nat, RisesH f l ∧ ListRet .i64 3 (ints l) w e w' := by
  obtain ⟨D, hgr, h2, h3⟩ := hN
  have hown : w.ownsMap Try.prog 3 (rowElem (H := Unit) w base 22 .u64) mb nn D := by
    obtain ⟨es, clock, hb, F, hs, hD, _⟩ := hgr
    exact ⟨es, clock, hb, F, hs, hD⟩
  clear hgr
  have hsz := hown.size_le
  refine (callsIn_wide (n := 6)).1 ?_
  refine callsIn_of_wp Try.func59 rfl trivial ?_ rfl
  simp only [Try.ntmps59, List.size_toArray, List.length_cons, List.length_nil, Nat.reduceAdd, Nat.reduceSub, Array.replicate_succ, Array.replicate_zero, List.push_toArray, List.append_toArray, List.nil_append, List.cons_append]
  have hF1 : Fence.wide.fn 77 := trivial
  have hF2 : Fence.wide.fn 76 := trivial
  have hown1 : (w.alloc (.cells #[.map (some mb)] 86)).ownsMap Try.prog 3 (rowElem (H := Unit) w base 22 .u64) mb nn D := hown.alloc _
  have cB := (IsBlk.new w 86 #[.map (some mb)]).cell 0
  have cS := ksI_sorted_in Fence.wide 5 trivial trivial trivial trivial rfl (by omega) (sortsI 4) (enters_of Try.func87 (by kernel_rfl) rfl) 88 #[.pointer (some ⟨w.heap.size, 0, none⟩)] trivial
    (enters_of Try.func88 (by kernel_rfl) rfl) (fun ss => KeysAreI D ss) (Maps.size D) (by simp only [maxLen]; omega) (by omega) (w.alloc (.cells #[.map (some mb)] 86))
    (ksI_keys_gives Fence.wide 2 trivial rfl (by omega) w.heap.size mb nn D _ (by simp) cB hown1)
  clear cB
  gi_wp2_with (first
    | (gi_at_call 77; refine (ksI_keys_in Fence.wide 5 trivial rfl (some mb) _).mono ?_; rintro e w' ⟨rfl, rfl⟩)
    | (gi_at_call 76; refine cS.mono ?_; rintro e w' ⟨v, ss, rfl, hS, hrow, hnil, hb⟩))
  go_ret
  obtain ⟨l, hr, hlen, e⟩ := risesH_of h2 h3 hS
  have hbel : Below w.heap.size w w' := ((Below.refl _ w).alloc (by simp) _).trans (hb.mono (by simp))
  have hrow' : w'.ownsRow w.heap.size 3 1 v ss.length ((ints l).map (Value.int .i64)) := by rw [← e]; exact own_low hrow (by simp)
  have hil : (ints l).length = ss.length := by rw [ints_len, hlen]
  refine ⟨l, hr, ?_⟩
  rcases hrow'.2 with ⟨rfl, h0⟩ | ⟨g, cap, cur, rfl, _⟩
  · exact ⟨none, 0, by rw [hil, h0]; rfl, by rw [hil, h0]; rw [h0] at hrow'; exact hrow', hbel⟩
  · exact ⟨some ⟨g, 0, none⟩, cap, by rw [hil]; rfl, by rw [hil]; exact hrow', hbel⟩
end Go.Proofs.Ytapdhmaeglafjaa
