/- need.made: the first loop, and what it ends in. -/
import Derived.Test.YtnokhajjcjfbpaaNm
import Derived.Test.YtnokhajjcjfbpaaNd
import Derived.Test.YtnokhajjcjfbpaaVal
namespace Go.Proofs.Ytnokhajjcjfbpaa
open Go.RowKit Go.Shelf
attribute [local go_sem] Oper.semAt_some

theorem results_cell_two {P : Program} {fn : Func} {p q : Tmp} {t1 t2 : TypeId} (h : fn.results = #[.cell p t1, .cell q t2]) (ha1 : ∀ w, (isAgg t1).run P w = .ok false w) (ha2 : ∀ w, (isAgg t2).run P w = .ok false w) (tmps : Array Value) (w : World) (b c : Nat) (v u : Value)
    (hp : tmps.getD p undef = .pointer (some ⟨b, 0, none⟩)) (hq : tmps.getD q undef = .pointer (some ⟨c, 0, none⟩)) (hv : w.cell? ⟨b, 0, none⟩ = some v) (hu : w.cell? ⟨c, 0, none⟩ = some u) : (results fn tmps).run P w = .ok (.tuple #[v, u]) w := by
  have hp' : tmps[p]?.getD undef = .pointer (some ⟨b, 0, none⟩) := by simpa using hp
  have hq' : tmps[q]?.getD undef = .pointer (some ⟨c, 0, none⟩) := by simpa using hq
  simp [results, h, hp', hq', asAddr, loadVar, ha1, ha2, Sem.run_bind, Result.andThen, go_sem, hv, hu]

/-- What the marks of loops over functions leave when they are shut. -/
structure Shut (Ds : List Nat) (W W' : World) : Prop where
  os : W'.os = W.os
  tape : W'.tape = W.tape
  output : W'.output = W.output
  size : W'.heap.size = W.heap.size
  block : ∀ r, r ∉ Ds → W'.heap[r]? = W.heap[r]?
theorem Shut.below {Ds : List Nat} {W W' w : World} {B : Nat} (h : Shut Ds W W') (hb : Below B w W) (hD : ∀ D ∈ Ds, B ≤ D) : Below B w W' :=
  ⟨h.os.trans hb.os, h.tape.trans hb.tape, h.output.trans hb.output, by rw [h.size]; exact hb.size, fun i hi => (h.block i (fun hm => by have := hD i hm; omega)).trans (hb.block i hi)⟩

theorem leaves_marks {F : Fence} {n : Nat} {P : Program} {fn : Func} {tmps : Array Value} {R : Ending → World → Prop} : ∀ (Ds : List Nat) (w : World), (∀ D ∈ Ds, w.heap[D]? = some (.deferred (some []))) → Ds.Nodup →
    (∀ w', Shut Ds w w' → LeavesInM F n P fn tmps R [] .returning w') → LeavesInM F n P fn tmps R (Ds.map fun D => { target := .collected D, args := #[] }) .returning w
  | [], w, _, _, hfin => hfin w ⟨rfl, rfl, rfl, rfl, fun _ _ => rfl⟩
  | D :: Ds, w, h, hnd, hfin => by
    have hD := h D (by simp)
    rw [List.nodup_cons] at hnd
    refine ⟨by simp, .inl ⟨D, _, rfl, run_takeDeferred hD, ?_⟩⟩
    refine leaves_marks Ds _ (fun E hE => (World.putObj_heap_other (fun e => hnd.1 (by rw [← e]; exact hE))).trans (h E (by simp [hE]))) hnd.2 fun w' hs => hfin w' ?_
    refine ⟨hs.os, hs.tape, hs.output, by rw [hs.size]; simp, fun r hr => ?_⟩
    rw [List.mem_cons, not_or] at hr
    exact (hs.block r hr.2).trans (World.putObj_heap_other hr.1)

/-- The words of a plan at block p. -/
def PlanB (W : World) (p m1 m2 n R : Nat) : Prop := IsBlk W p 72 #[.int .u64 n, .int .i64 R, .map (some m1), .map (some m2)]
/-- Its answer: a plan of its own, with these counts; the world before lies as it lay. -/
def MadeYes (n : Nat) (ts : List Nat) (w : World) (e : Ending) (w' : World) : Prop :=
  ∃ (p m1 m2 q1 q2 : Nat) (wy : Nat → Nat), e = .returned (.tuple #[.pointer (some ⟨p, 0, none⟩), .int .i64 0]) ∧ PlanB w' p m1 m2 n (rowsOf n) ∧ NMap w' m1 q1 (tgOf ts) ∧ NMap w' m2 q2 wy ∧ q1 ≤ 1000 ∧ q2 ≤ 70000 ∧ (∀ x, 0 < wy x ↔ OnWay n ts x) ∧
    w.heap.size ≤ p ∧ w.heap.size ≤ m1 ∧ w.heap.size ≤ m2 ∧ Below w.heap.size w w'
def MadeNo (w : World) (e : Ending) (w' : World) : Prop := e = .returned (.tuple #[.pointer none, .int .i64 2]) ∧ Below w.heap.size w w'

theorem wpIn_gen {F : Fence} {k : Nat} {P : Program} {c : Code} {Q : Exit → Act → World → Prop} {a : Act} {w : World} (S : World → Prop) (h : S w) (g : ∀ w', S w' → c.wpIn F k P Q a w') : c.wpIn F k P Q a w := g w h
theorem wp_gen {P : Program} {c : Code} {Q : Exit → Act → World → Prop} {a : Act} {w : World} (S : World → Prop) (h : S w) (k : ∀ w', S w' → c.wp P Q a w') : c.wp P Q a w := k w h

/-- While it makes its plan: its results' cells, the plan's words, the variable that holds its address. -/
structure MA (w : World) (n r4 r5 m1 m2 p x : Nat) (wr : World) : Prop where
  c4 : IsBlk wr r4 66 #[.pointer none]
  c5 : IsBlk wr r5 40 #[.int .i64 0]
  pl : PlanB wr p m1 m2 n (rowsOf n)
  cx : IsBlk wr x 66 #[.pointer (some ⟨p, 0, none⟩)]
  bel : Below w.heap.size w wr
theorem MA.after {w wr w' : World} {n r4 r5 m1 m2 p x : Nat} (h : MA w n r4 r5 m1 m2 p x wr) (hb : Below wr.heap.size wr w') : MA w n r4 r5 m1 m2 p x w' :=
  ⟨h.c4.after hb, h.c5.after hb, IsBlk.after h.pl hb, h.cx.after hb, h.bel.trans (hb.mono h.bel.size)⟩
theorem MA.turned {w wr w' : World} {n r4 r5 m1 m2 p x m : Nat} (h : MA w n r4 r5 m1 m2 p x wr) (hg : wr.grownBy w' (some m)) (hm : w.heap.size ≤ m) (h4 : r4 ≠ m) (h5 : r5 ≠ m) (hp : p ≠ m) (hx : x ≠ m) : MA w n r4 r5 m1 m2 p x w' := by
  have k : ∀ {g : Nat} {t : TypeId} {cs : Array Value}, IsBlk wr g t cs → g ≠ m → IsBlk w' g t cs := fun h1 h2 => (hg.block _ h1.lt (fun e => h2 (by cases e; rfl))).trans h1
  exact ⟨k h.c4 h4, k h.c5 h5, k h.pl hp, k h.cx hx, h.bel.grown hg h.bel.size (fun r e => by cases e; exact hm)⟩
theorem MA.keptC {w W W' : World} {row : Option Nat} {B n r4 r5 m1 m2 p x : Nat} (h : MA w n r4 r5 m1 m2 p x W) (hg : W.grownBy W' row) (hr : ∀ r, row = some r → False ∨ (B ≤ r ∧ ∃ o : Obj, W.heap[r]? = some o ∧ o.isCells = false)) (hB : w.heap.size ≤ B) : MA w n r4 r5 m1 m2 p x W' :=
  ⟨h.c4.keptC (Ch := fun _ => False) hg hr id, h.c5.keptC (Ch := fun _ => False) hg hr id, IsBlk.keptC (Ch := fun _ => False) h.pl hg hr id, h.cx.keptC (Ch := fun _ => False) hg hr id, bel_keptC (Ch := fun _ => False) h.bel h.bel.size hg hr (fun _ e => e.elim) hB⟩
theorem NMap.keptC {W W' : World} {row : Option Nat} {B b q : Nat} {f : Nat → Nat} (h : NMap W b q f) (hg : W.grownBy W' row) (hr : ∀ r, row = some r → False ∨ (B ≤ r ∧ ∃ o : Obj, W.heap[r]? = some o ∧ o.isCells = false)) (hb : b < B) : NMap W' b q f :=
  h.kept hg fun e => by rcases hr b e.symm with h1 | h1 <;> omega
theorem heap_keptC {W W' : World} {row : Option Nat} {B D : Nat} {o : Obj} (h : W.heap[D]? = some o) (hg : W.grownBy W' row) (hr : ∀ r, row = some r → False ∨ (B ≤ r ∧ ∃ o : Obj, W.heap[r]? = some o ∧ o.isCells = false)) (hD : D < B) : W'.heap[D]? = some o :=
  (hg.block D (Array.getElem?_eq_some_iff.1 h).1 fun e => by rcases hr D e.symm with h1 | h1 <;> omega).trans h
theorem tg_next {ts : List Nat} {k t : Nat} (h : ts[k]? = some t) : upd (tgOf (ts.take k)) t 1 = tgOf (ts.take (k + 1)) := by
  funext y
  unfold upd tgOf
  rw [List.take_add_one, h]
  by_cases e : y = t
  · subst e; simp
  · rw [if_neg e]
    simp [e]

/-- Both results stored, the marks shut: the answer. -/
theorem ma_fin {F : Fence} {k r4 r5 : Nat} {W : World} {R : Ending → World → Prop} {v u : Value} (b4 : IsBlk W r4 66 #[v]) (b5 : IsBlk W r5 40 #[u]) (tmps : Array Value) (h4 : tmps.getD 4 undef = .pointer (some ⟨r4, 0, none⟩)) (h5 : tmps.getD 5 undef = .pointer (some ⟨r5, 0, none⟩)) (Ds : List Nat)
    (hD : ∀ D ∈ Ds, W.heap[D]? = some (.deferred (some []))) (hnd : Ds.Nodup)
    (hR : ∀ w', Shut Ds W w' → R (.returned (.tuple #[v, u])) w') :
    LeavesInM F k Try.prog Try.f24 tmps R (Ds.map fun D => { target := .collected D, args := #[] }) .returning W := by
  have nc : ∀ D ∈ Ds, ∀ {g : Nat} {t : TypeId} {cs : Array Value}, IsBlk W g t cs → D ≠ g := fun D hm g t cs h e => by
    subst e
    unfold IsBlk at h
    rw [hD D hm] at h
    cases h
  refine leaves_marks Ds _ hD hnd fun w' hs => ?_
  have e4 := cell_same (p := ⟨r4, 0, none⟩) (hs.block r4 (fun hm => nc r4 hm b4 rfl))
  have e5 := cell_same (p := ⟨r5, 0, none⟩) (hs.block r5 (fun hm => nc r5 hm b5 rfl))
  exact ⟨_, results_cell_two rfl Try.isAgg66 Try.isAgg40 tmps w' r4 r5 v u h4 h5 (e4.trans (b4.cell 0)) (e5.trans (b5.cell 0)), hR w' hs⟩
theorem MA.stored {w w3 : World} {n r4 r5 m1 m2 p x : Nat} (hM : MA w n r4 r5 m1 m2 p x w3) (h45 : r4 ≠ r5) (v u : Value) :
    IsBlk ((w3.setCell ⟨r4, 0, none⟩ v).setCell ⟨r5, 0, none⟩ u) r4 66 #[v] ∧ IsBlk ((w3.setCell ⟨r4, 0, none⟩ v).setCell ⟨r5, 0, none⟩ u) r5 40 #[u] :=
  ⟨(hM.c4.put 0 v).far h45 _, (hM.c5.far (fun e => h45 e.symm) v).put 0 u⟩
theorem ma_end {F : Fence} {k : Nat} {w w3 : World} {n r4 r5 m1 m2 p x : Nat} {R : Ending → World → Prop} (hM : MA w n r4 r5 m1 m2 p x w3) (h45 : r4 ≠ r5) (v u : Value) (tmps : Array Value) (h4 : tmps.getD 4 undef = .pointer (some ⟨r4, 0, none⟩)) (h5 : tmps.getD 5 undef = .pointer (some ⟨r5, 0, none⟩)) (Ds : List Nat)
    (hD : ∀ D ∈ Ds, w3.heap[D]? = some (.deferred (some []))) (hnd : Ds.Nodup)
    (hR : ∀ w', Shut Ds ((w3.setCell ⟨r4, 0, none⟩ v).setCell ⟨r5, 0, none⟩ u) w' → R (.returned (.tuple #[v, u])) w') :
    LeavesInM F k Try.prog Try.f24 tmps R (Ds.map fun D => { target := .collected D, args := #[] }) .returning ((w3.setCell ⟨r4, 0, none⟩ v).setCell ⟨r5, 0, none⟩ u) := by
  have nc : ∀ D ∈ Ds, ∀ {g : Nat} {t : TypeId} {cs : Array Value}, IsBlk w3 g t cs → D ≠ g := fun D hm g t cs h e => by
    subst e
    unfold IsBlk at h
    rw [hD D hm] at h
    cases h
  exact ma_fin (hM.stored h45 v u).1 (hM.stored h45 v u).2 tmps h4 h5 Ds (fun D hm => (Below.heap_setCell _ ⟨r5, 0, none⟩ _ D (nc D hm hM.c5)).trans ((Below.heap_setCell _ ⟨r4, 0, none⟩ _ D (nc D hm hM.c4)).trans (hD D hm))) hnd hR

/-- Counts of a way that is being gone: those before, and one for each position of it that was come to. -/
def wyi (wy : Nat → Nat) (xs : List Nat) (i y : Nat) : Nat := wy y + if y ∈ xs.take i then 1 else 0
theorem wyi_next {wy : Nat → Nat} {xs : List Nat} {i q : Nat} (hq : xs[i]? = some q) (hnew : q ∉ xs.take i) : upd (wyi wy xs i) q (wy q + 1) = wyi wy xs (i + 1) := by
  funext y
  unfold upd wyi
  rw [List.take_add_one, hq]
  by_cases e : y = q
  · subst e; simp
  · rw [if_neg e]
    simp [e]
theorem wyi_at {wy : Nat → Nat} {xs : List Nat} {i q : Nat} (hnew : q ∉ xs.take i) : wyi wy xs i q = wy q := by unfold wyi; rw [if_neg hnew]; rfl
theorem way_nodup (n t : Nat) : (wayOf n t).Nodup := by
  by_cases h : InF n t
  · rw [List.nodup_iff_pairwise_ne, List.pairwise_iff_getElem]
    intro i j hi hj hij e
    have hl := way_len h
    have gi := way_get h (i := i) (by omega)
    have gj := way_get h (i := j) (by omega)
    rw [List.getElem?_eq_getElem hi] at gi
    rw [List.getElem?_eq_getElem hj] at gj
    injection gi with gi
    injection gj with gj
    have ht := tree_le h
    unfold treeOf at ht
    have r1 := (anc_spec h.2.1 i (by omega)).2.1
    have r2 := (anc_spec h.2.1 j (by omega)).2.1
    rw [← gi, e, gj] at r1
    omega
  · rw [way_out h]; simp
theorem nodup_new {xs : List Nat} (h : xs.Nodup) {i q : Nat} (hq : xs[i]? = some q) : q ∉ xs.take i := by
  intro hm
  have h1 := List.Nodup.sublist (List.take_sublist (i + 1) xs) h
  rw [List.take_add_one, hq, List.nodup_append] at h1
  exact h1.2.2 q hm q (by simp) rfl

theorem onway_next {n : Nat} {ts : List Nat} {k t : Nat} (ht : ts[k]? = some t) (y : Nat) : OnWay n (ts.take (k + 1)) y ↔ OnWay n (ts.take k) y ∨ y ∈ wayOf n t := by
  unfold OnWay
  rw [List.take_add_one, ht]
  constructor
  · rintro ⟨t', h1, h2⟩
    rcases List.mem_append.1 h1 with h | h
    · exact .inl ⟨t', h, h2⟩
    · simp at h
      subst h
      exact .inr h2
  · rintro (⟨t', h1, h2⟩ | h)
    · exact ⟨t', List.mem_append.2 (.inl h1), h2⟩
    · exact ⟨t, by simp, h⟩
/-- Where a way meets one that was gone before, all that stands above was seen to. -/
theorem brk_rest {n : Nat} {ts : List Nat} {k t i q : Nat} (hin : InF n t) (hall : ∀ t ∈ ts, InF n t) (hV : ∀ t ∈ ts.take k, ∀ q ∈ wayOf n t, q ≠ t → q ∉ ts) (hi : 1 ≤ i) (hq : (wayOf n t)[i - 1]? = some q) (ho : OnWay n (ts.take k) q) {y : Nat} (hy : y ∈ wayOf n t) (hy2 : y ∉ (wayOf n t).take i) :
    OnWay n (ts.take k) y ∧ y ∉ ts := by
  have hl := way_len hin
  have hq1 := (List.getElem?_eq_some_iff.1 hq).1
  obtain ⟨j, hj, rfl⟩ := (mem_way hin).1 hy
  have hgj := way_get hin hj
  have hij : i ≤ j := by
    rcases Nat.lt_or_ge j i with h | h
    · exfalso
      refine hy2 (List.mem_of_getElem? (i := j) ?_)
      rw [List.getElem?_take_of_lt h, hgj]
    · exact h
  have hq2 := way_get hin (i := i - 1) (by omega)
  rw [hq2] at hq
  injection hq with hq
  subst hq
  obtain ⟨b1, b2, b3⟩ := way_above hin (i := i - 1) (by omega)
  have hyq : anc t (rowsOf n) j ∈ wayOf n (anc t (rowsOf n) (i - 1)) := by
    rw [b3]
    refine List.mem_of_getElem? (i := j - (i - 1)) ?_
    rw [List.getElem?_drop, show i - 1 + (j - (i - 1)) = j from by omega, hgj]
  obtain ⟨t', h1, h2⟩ := ho
  have hin' := hall t' (List.mem_of_mem_take h1)
  have hyt := way_trans hin' h2 hyq
  refine ⟨⟨t', h1, hyt⟩, hV t' h1 _ hyt fun e => ?_⟩
  have e2 := way_anti b1 hyq (by rw [e]; exact h2)
  have r1 := (anc_spec hin.2.1 j (by have := tree_le hin; unfold treeOf at this; omega)).2.1
  have r2 := (anc_spec hin.2.1 (i - 1) (by have := tree_le hin; unfold treeOf at this; omega)).2.1
  rw [e2, r2] at r1
  omega
theorem NMap.obj {W : World} {b q : Nat} {f : Nat → Nat} (h : NMap W b q f) : ∃ es clock, W.heap[b]? = some (.map es clock) := by
  obtain ⟨D, ⟨es, clock, hb, _⟩, _⟩ := h
  exact ⟨es, clock, hb⟩
theorem NMap.notMark {W : World} {b q D : Nat} {f : Nat → Nat} (h : NMap W b q f) (hD : W.heap[D]? = some (.deferred (some []))) : b ≠ D := fun e => by
  obtain ⟨es, clock, hb⟩ := h.obj
  rw [e, hD] at hb
  cases hb
theorem IsBlk.notMark {W : World} {b D : Nat} {t : TypeId} {cs : Array Value} (h : IsBlk W b t cs) (hD : W.heap[D]? = some (.deferred (some []))) : b ≠ D := fun e => by
  unfold IsBlk at h
  rw [e, hD] at h
  cases h
end Go.Proofs.Ytnokhajjcjfbpaa
