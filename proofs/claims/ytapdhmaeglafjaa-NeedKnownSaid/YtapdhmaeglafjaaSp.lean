/- need.Split. -/
import Derived.Test.YtapdhmaeglafjaaVi
import Derived.Test.YtapdhmaeglafjaaGg
import Derived.Test.YtapdhmaeglafjaaPc
import Derived.Test.YtapdhmaeglafjaaMm
import Derived.Test.YtapdhmaeglafjaaNh
namespace Go.Proofs.Ytapdhmaeglafjaa
open Go.RowKit Go.Shelf
attribute [local go_sem] Oper.semAt_some

/-- The cells of parts: height, slice. -/
def qcells (Q : List (Nat × Option Addr × Nat × List Nat)) : List Value := Q.flatMap fun q => [.int .i64 (q.1 : Nat), .slice q.2.1 q.2.2.2.length q.2.2.1]
def qs (Q : List (Nat × Option Addr × Nat × List Nat)) : List (Nat × List Nat) := Q.map fun q => (q.1, q.2.2.2)
theorem qcells_at : ∀ (Q : List (Nat × Option Addr × Nat × List Nat)) (k : Nat) (q : Nat × Option Addr × Nat × List Nat), Q[k]? = some q → (qcells Q)[k * 2]? = some (.int .i64 (q.1 : Nat)) ∧ (qcells Q)[k * 2 + 1]? = some (.slice q.2.1 q.2.2.2.length q.2.2.1)
  | [], _, _, h => by cases h
  | p :: Q, 0, q, h => by
    cases h
    exact ⟨rfl, rfl⟩
  | p :: Q, k + 1, q, h => by
    have ih := qcells_at Q k q (by simpa using h)
    have e : qcells (p :: Q) = .int .i64 (p.1 : Nat) :: .slice p.2.1 p.2.2.2.length p.2.2.1 :: qcells Q := rfl
    rw [e, show (k + 1) * 2 = k * 2 + 1 + 1 from by omega]
    exact ih
theorem qcells_len (Q : List (Nat × Option Addr × Nat × List Nat)) : (qcells Q).length = Q.length * 2 := by
  induction Q with
  | nil => rfl
  | cons q Q ih =>
    have e : qcells (q :: Q) = .int .i64 (q.1 : Nat) :: .slice q.2.1 q.2.2.2.length q.2.2.1 :: qcells Q := rfl
    rw [e, List.length_cons, List.length_cons, ih, List.length_cons]
    omega
/-- A slice of parts: heights, rising lists. -/
def Parts (w : World) (A : Option Addr) (P : List (Nat × List Nat)) : Prop := ∀ k h l, P[k]? = some (h, l) → ∃ g Al cl, A = some ⟨g, 0, none⟩ ∧ g < w.heap.size ∧ w.cell? ⟨g, k * 2, none⟩ = some (.int .i64 (h : Nat)) ∧ w.cell? ⟨g, k * 2 + 1, none⟩ = some (.slice Al l.length cl) ∧ SliceAt w Al l
theorem Parts.after {w w' : World} {A : Option Addr} {P : List (Nat × List Nat)} (h : Parts w A P) (hb : Below w.heap.size w w') : Parts w' A P := fun k x l hk => by
  obtain ⟨g, Al, cl, h1, h2, h3, h4, h5⟩ := h k x l hk
  exact ⟨g, Al, cl, h1, by have := hb.size; omega, (hb.cell (p := ⟨g, k * 2, none⟩) h2).trans h3, (hb.cell (p := ⟨g, k * 2 + 1, none⟩) h2).trans h4, h5.after hb⟩
theorem Parts.of_own {w : World} {base n c : Nat} {e : TypeId} {A : Option Addr} {Q : List (Nat × Option Addr × Nat × List Nat)} (h : w.ownsRow base e 2 (.slice A n c) n (qcells Q)) (hn : n = Q.length) (hl : ∀ q ∈ Q, SliceAt w q.2.1 q.2.2.2) : Parts w A (qs Q) := fun k x l hk => by
  unfold qs at hk
  rw [List.getElem?_map] at hk
  cases hq : Q[k]? with
  | none => rw [hq] at hk; cases hk
  | some q =>
    rw [hq] at hk
    cases hk
    have hlt := (List.getElem?_eq_some_iff.1 hq).1
    obtain ⟨h1, h2⟩ := qcells_at Q k q hq
    rcases h.2 with ⟨hv, h0⟩ | ⟨g, cap, cur, hv, _, hg, _⟩
    · omega
    · injection hv with hA hb hc
      subst hA
      subst hc
      refine ⟨g, q.2.1, q.2.2.1, rfl, (Array.getElem?_eq_some_iff.1 hg).1, ?_, ?_, hl q (List.mem_of_getElem? hq)⟩
      · rw [h.cellAt _ (by omega)]; exact h1
      · rw [h.cellAt _ (by omega)]; exact h2

theorem row_ne {w : World} {base : Nat} {e t : TypeId} {size n p : Nat} {v : Value} {xs : List Value} {cs : Array Value} (h : w.ownsRow base e size v n xs) (hb : IsBlk w p t cs) (ht : t ≠ e) : v.ownBlock ≠ some p := by
  intro he
  rcases h.2 with ⟨hv, _⟩ | ⟨g, cap, cur, hv, _, hg, _⟩
  · rw [hv] at he; cases he
  · rw [hv] at he
    simp [Value.ownBlock] at he
    subst he
    unfold IsBlk at hb
    rw [hg] at hb
    injection hb with hb
    injection hb with h1 h2
    exact ht h2.symm
theorem own_ge {w : World} {base : Nat} {e : TypeId} {size n m c : Nat} {A : Option Addr} {xs : List Value} (h : w.ownsRow base e size (.slice A n c) m xs) : ∀ g, A = some ⟨g, 0, none⟩ → base ≤ g := fun g e => by
  rcases h.2 with ⟨hv, _⟩ | ⟨g', cap, cur, hv, h2, _⟩
  · injection hv with h1
    rw [h1] at e
    cases e
  · injection hv with h1
    rw [h1] at e
    injection e with e
    injection e with e
    subst e
    exact h2
/-- What stands while the map is filled: all that lay there before, but the map. -/
structure SpI (w w2 : World) (MB : Nat) (W : World) : Prop where
  bel : Below w.heap.size w W
  size : w2.heap.size ≤ W.heap.size
  old : ∀ r, r < w2.heap.size → r ≠ MB → W.heap[r]? = w2.heap[r]?
theorem SpI.after {w w2 W W' : World} {MB : Nat} (h : SpI w w2 MB W) (hb : Below W.heap.size W W') : SpI w w2 MB W' :=
  ⟨h.bel.trans (hb.mono h.bel.size), Nat.le_trans h.size hb.size, fun r hr hne => (hb.block r (Nat.lt_of_lt_of_le hr h.size)).trans (h.old r hr hne)⟩
theorem SpI.grown {w w2 W W' : World} {MB : Nat} {row : Option Nat} (h : SpI w w2 MB W) (hg : W.grownBy W' row) (hw : w.heap.size ≤ w2.heap.size) (hM : w.heap.size ≤ MB) (hr : ∀ r, row = some r → r = MB ∨ w2.heap.size ≤ r) : SpI w w2 MB W' :=
  ⟨h.bel.grown hg h.bel.size (fun r e => by rcases hr r e with h1 | h1 <;> omega), Nat.le_trans h.size hg.size, fun r hlt hne => (hg.block r (Nat.lt_of_lt_of_le hlt h.size) (fun e => by rcases hr r e.symm with h1 | h1 <;> omega)).trans (h.old r hlt hne)⟩
theorem SpI.blk {w w2 W : World} {MB p : Nat} {t : TypeId} {cs : Array Value} (h : SpI w w2 MB W) (hb : IsBlk w2 p t cs) (hne : p ≠ MB) : IsBlk W p t cs := (h.old p hb.lt hne).trans hb
theorem SpI.slice {w w2 W : World} {MB : Nat} {A : Option Addr} {l : List Nat} (h : SpI w w2 MB W) (hs : SliceAt w2 A l) (hne : ∀ g, A = some ⟨g, 0, none⟩ → g ≠ MB) : SliceAt W A l := fun k hk => by
  obtain ⟨g, e, h1, h2⟩ := hs k hk
  exact ⟨g, e, Nat.lt_of_lt_of_le h1 h.size, (cell_same (p := ⟨g, k, none⟩) (h.old g h1 (hne g e))).trans h2⟩

theorem row_type {w : World} {base : Nat} {e : TypeId} {size n r : Nat} {v : Value} {xs : List Value} (h : w.ownsRow base e size v n xs) (he : v.ownBlock = some r) : ∃ cur, w.heap[r]? = some (.cells cur e (0, 0)) := by
  rcases h.2 with ⟨hv, _⟩ | ⟨g, cap, cur, hv, _, hg, _⟩
  · rw [hv] at he; cases he
  · rw [hv] at he
    simp [Value.ownBlock] at he
    subst he
    exact ⟨cur, hg⟩
theorem shape_of {w : World} {base : Nat} {e : TypeId} {size n : Nat} {v : Value} {xs : List Value} (h : w.ownsRow base e size v n xs) : ∃ A c, v = .slice A n c := by
  rcases h.2 with ⟨hv, h0⟩ | ⟨g, cap, cur, hv, _⟩
  · exact ⟨none, 0, by rw [hv, h0]⟩
  · exact ⟨_, _, hv⟩
theorem cell_two_at (w : World) (t : TypeId) (a b : Value) : ∀ (j : Nat) (u : Value), [a, b][j]? = some u → (w.alloc (.cells #[a, b] t)).cell? (Addr.add ⟨w.heap.size, 0, none⟩ j) = some u := fun j u hu => by
  rw [add_zero]
  rcases j with _ | _ | j
  · cases hu
    exact (IsBlk.new w _ _).cell 0
  · cases hu
    exact (IsBlk.new w _ _).cell 1
  · cases hu
theorem grown_set (W : World) (b : Nat) (u : Value) : W.grownBy (W.setCell ⟨b, 0, none⟩ u) (some b) := GrownBy.set ⟨rfl, rfl, rfl, Nat.le_refl _, fun _ _ _ => rfl⟩ u
theorem part_info : (Try.prog.info? 62).map (fun i => (i.zero, i.size, i.bytes)) = some (some (.agg #[.int .i64 0, .slice none 0 0]), 2, 32) := by kernel_rfl
theorem back_mem {hs : List Nat} {i : Nat} {x : Nat × Nat} (h : (backOf hs)[i]? = some x) : i < hs.length ∧ x.2 ∈ hs := by
  have hi := (List.getElem?_eq_some_iff.1 h).1
  rw [backOf_len] at hi
  rw [backOf_at hi] at h
  cases h
  refine ⟨hi, ?_⟩
  have hlt : hs.length - 1 - i < hs.length := by omega
  simp only [List.getD, List.getElem?_eq_getElem hlt, Option.getD_some]
  exact List.getElem_mem hlt
theorem back_rev (hs : List Nat) : (backOf hs).map (·.2) = hs.reverse := by
  refine List.ext_getElem? fun k => ?_
  rw [List.getElem?_map]
  by_cases hk : k < hs.length
  · rw [backOf_at hk, List.getElem?_reverse hk]
    have hlt : hs.length - 1 - k < hs.length := by omega
    simp [List.getD, List.getElem?_eq_getElem hlt]
  · rw [List.getElem?_eq_none (by rw [backOf_len]; omega), List.getElem?_eq_none (by simp; omega)]
    rfl
/-- What stands while the parts are laid. -/
structure SpO (w w4 : World) (bs MB N OB : Nat) (f : Nat → List Nat) (hs : List Nat) (i : Nat) (W : World) : Prop where
  gm : GMap W bs MB N f
  pv : IsBlk W (MB + 1) 86 #[.map (some MB)]
  ob : ∃ A c Q, IsBlk W OB 55 #[.slice A i c] ∧ W.ownsRow w4.heap.size 62 2 (.slice A i c) i (qcells Q) ∧ qs Q = ((backOf hs).take i).map (fun x => (x.2, f x.2)) ∧ ∀ q ∈ Q, W.ownsInts bs 22 .u64 (.slice q.2.1 q.2.2.2.length q.2.2.1) (ints q.2.2.2)
  bel : Below w.heap.size w W
  size : w4.heap.size ≤ W.heap.size

def SplitOK (P : List (Nat × List Nat)) (w : World) (e : Ending) (w' : World) : Prop := ∃ A c, e = .returned (.tuple #[.slice A P.length c, .int .i64 0]) ∧ Parts w' A P ∧ Below w.heap.size w w'

theorem rises_sorted {ts l : List Nat} (hd : ts.Nodup) (hu : ∀ t ∈ ts, (t : Int) ≤ 18446744073709551615) (h : Rises (tgOf ts) l) : l = sorted ts := by
  refine rise_one h.1 (sorted_up hd) fun x => ?_
  rw [h.2, sorted_mem, tg_pos]
  exact ⟨fun h => h.2, fun h => ⟨hu x h, h⟩⟩

set_option maxHeartbeats 4000000 in
set_option maxRecDepth 100000 in
theorem split_yes (n : Nat) (ts : List Nat) (A : Option Addr) (c : Nat) (w : World) (hlen : ts.length ≤ 1000) (hs : SliceG w A ts) (hv : Valid n ts) :
    Calls Try.prog 30 #[.int .u64 n, .slice A ts.length c] w (SplitOK (splitF n ts) w) := by
  have hu := valid_u64 hv
  have hn := hv.1
  have M := Lib.hid fun w hs => made_yes n ts A c w hlen hs hv
  obtain ⟨i0, hi, hz0, hz1, hz2⟩ := info_parts u64_info
  refine (callsIn_wide (n := 5)).1 ?_
  refine callsIn_of_wp_marks Try.func30 rfl trivial ?_ rfl
  simp only [Try.ntmps30, List.size_toArray, List.length_cons, List.length_nil, Nat.reduceAdd, Nat.reduceSub, Array.replicate_succ, Array.replicate_zero, List.push_toArray, List.append_toArray, List.nil_append, List.cons_append]
  have hmm := @run_makeMap Try.prog
  have hF1 : Fence.wide.fn 35 := trivial
  have hF2 : Fence.wide.fn 37 := trivial
  have hF3 : Fence.wide.fn 13 := trivial
  have hF4 : Fence.wide.fn 59 := trivial
  have hF5 : Fence.wide.fn 58 := trivial
  gi_wp2_with (first
    | (gi_at_call 35; refine (callsIn_wide.2 (M.out _ hs)).mono ?_; rintro e w1 ⟨P, m1, m2, q1, q2, wy, rfl, hP, hN1, hN2, hq1, hq2, hW, hp1, hp2, hp3, hb1⟩; have HP := Lib.hid hP; have HN1 := Lib.hid hN1; have HB1 := Lib.hid hb1; have c2 := IsBlk.cell hP 2; simp at c2; have hPl := IsBlk.lt hP; clear hP hN1 hN2 hb1 hs)
    | (gi_at_call 37; refine (callsIn_wide.2 (rising_any m1 q1 (tgOf ts) _ (HN1.out.after (((Below.refl _ w1).alloc (by simp) _).alloc (by simp) _) HN1.out.lt) (by omega))).mono ?_; rintro e w2 ⟨st, hst, A2, c3, rfl, hown, hb2⟩; have HST := Lib.hid (rises_sorted hv.2.2.1 hu hst); have HO := Lib.hid (SliceAt.of_own hown (by rw [ints_len])); have HG := Lib.hid (own_ge hown); have HB2 := Lib.hid hb2; clear hst hown hb2; rw [ints_len])
    | gi_in)
  obtain rfl := HST.out
  have hMB : w.heap.size ≤ w1.heap.size := HB1.out.size
  have hPV : IsBlk ((w1.alloc (.map #[] 0)).alloc (.cells #[.map (some w1.heap.size)] 86)) (w1.heap.size + 1) 86 #[.map (some w1.heap.size)] := IsBlk.newAt _ _ (by simp)
  have hPV2 := Lib.hid (hPV.after HB2.out)
  have hGM := GMap.made w1
  have hGM2 : GMap w2 w2.heap.size w1.heap.size 0 (fun _ => []) := ((hGM.after ((Below.refl _ _).alloc (Nat.le_refl _) _)).after HB2.out).lift (by have := HB2.out.size; simp at this; omega)
  have hsz2 : w1.heap.size + 2 ≤ w2.heap.size := by have := HB2.out.size; simp at this; omega
  have hb02 : Below w.heap.size w w2 := ((HB1.out.alloc hMB _).alloc (by simp; omega) _).trans (HB2.out.mono (by simp; omega))
  have hst : (sorted ts).length ≤ 1000 := by unfold sorted; rw [List.length_mergeSort]; omega
  have hA2 : ∀ g, A2 = some ⟨g, 0, none⟩ → g ≠ w1.heap.size := fun g e hg => by
    have := HG.out g e
    simp at this
    omega
  clear HG
  have hsp0 : SpI w w2 w1.heap.size w2 := ⟨hb02, Nat.le_refl _, fun _ _ _ => rfl⟩
  clear hPV hGM HB2 HST c2 hPl hb02
  generalize hMBe : w1.heap.size = MB at *
  clear hMBe
  gi_loopw [32, 10, 11, 12] (fun v32 _ _ _ wr => ∃ k : Nat, k ≤ (sorted ts).length ∧ v32 = .int .i64 k ∧ GMap wr w2.heap.size MB k (fun h => ((sorted ts).take k).filter fun t => treeOf n t == h) ∧ SpI w w2 MB wr) (fun v32 _ _ _ _ => (sorted ts).length - (intOf v32).toNat)
  case atStart => exact ⟨0, by omega, rfl, by simpa using hGM2, hsp0⟩
  case round =>
    obtain ⟨k, hk, rfl, hGk, hSp⟩ := hrel
    clear hsp0 hGM2
    by_cases hlt : k < (sorted ts).length
    · obtain ⟨g, rfl, hg, hc⟩ := (hSp.slice HO.out hA2) k hlt
      have hx : (sorted ts)[k]? = some (sorted ts)[k] := List.getElem?_eq_getElem hlt
      rw [hx] at hc
      simp only [Option.map_some] at hc
      have hm := (sorted_mem ts _).1 (List.mem_of_getElem? hx)
      have hin := hv.2.1 _ hm
      have hxu := hu _ hm
      have HX := Lib.hid hx
      clear hx hm
      generalize (sorted ts)[k] = x at *
      have TR := Lib.hid fun w => tree_yes n x w hin
      have hh : treeOf n x ≤ 100 := by have := tree_le hin; have := rows_le (n := n) (by omega); omega
      have FN := Lib.hid (show (fun y => if y = treeOf n x then (((sorted ts).take k).filter fun t => treeOf n t == treeOf n x) ++ [x] else (((sorted ts).take k).filter fun t => treeOf n t == y)) = fun h => ((sorted ts).take (k + 1)).filter fun t => treeOf n t == h from by
        funext y
        rw [List.take_add_one, HX.out, List.filter_append]
        by_cases e : y = treeOf n x
        · rw [if_pos e, e]; simp
        · rw [if_neg e]; simp [Ne.symm e])
      have HGk := Lib.hid hGk; have HSp := Lib.hid hSp
      have k0 : (0 : Int) ≤ k := by omega
      have k1 : (k : Int) < (sorted ts).length := by omega
      clear hGk hSp
      generalize hF : (fun h => ((sorted ts).take k).filter fun t => treeOf n t == h) = f at *
      have e1 : (((sorted ts).take k).filter fun t => treeOf n t == treeOf n x) = f (treeOf n x) := by rw [← hF]
      have e2 : ∀ y, (((sorted ts).take k).filter fun t => treeOf n t == y) = f y := fun y => by rw [← hF]
      simp only [e1, e2] at FN
      clear e1 e2 hF
      generalize treeOf n x = h at *
      gi_wp2_with (gi_at_call 13; refine (callsIn_wide.2 (TR.out _)).mono ?_; rintro e w4 ⟨rfl, hb4⟩; have HG4 := Lib.hid (HGk.out.after hb4); have HS4 := Lib.hid (HSp.out.after hb4); clear hb4)
      refine wpIn_calm (wpIn_wide.2 ?_)
      have hP4 := HS4.out.blk hPV2.out (by omega)
      refine AnyH.start 9 (fun W => IsBlk W (MB + 1) 86 #[.map (some MB)]) (by kernel_rfl) rfl ?_
      have hS5 : IsBlk w4.drew (MB + 1) 86 #[.map (some MB)] := hP4
      have HG5 := Lib.hid (HG4.out.after (Below.drew (Below.refl _ w4)))
      have HS5 := Lib.hid (HS4.out.after (Below.drew (Below.refl _ w4)))
      generalize w4.drew = w5 at *
      clear HG4 HS4 hP4 hc hg
      refine AnyH.take (i := 0) (v := ?_) rfl (by kernel_rfl) (fun _ _ _ h => (by cases h.1)) rfl ?_ hS5 ?_
      rotate_left
      (intro w hS; have cp := hS.cell 0; simp at cp; go_simp; with_reducible rfl)
      try simp only [Act.put, List.setIfInBounds_toArray, List.set_cons_zero, List.set_cons_succ]
      refine AnyH.take (i := 1) (v := ?_) rfl (by kernel_rfl) (fun _ _ _ h => (by cases h.1)) rfl ?_ hS5 ?_
      rotate_left
      (intro w hS; have cp := hS.cell 0; simp at cp; go_simp; with_reducible rfl)
      try simp only [Act.put, List.setIfInBounds_toArray, List.set_cons_zero, List.set_cons_succ]
      refine AnyH.take (i := 2) (v := ?_) rfl (by kernel_rfl) (fun _ _ _ h => (by cases h.1)) rfl ?_ hS5 ?_
      rotate_left
      (intro w hS; have cp := hS.cell 0; simp at cp; go_simp; with_reducible rfl)
      try simp only [Act.put, List.setIfInBounds_toArray, List.set_cons_zero, List.set_cons_succ]
      refine AnyH.take (i := 3) (v := ?_) rfl (by kernel_rfl) (fun _ _ _ h => (by cases h.1)) rfl ?_ hS5 ?_
      rotate_left
      (intro w hS; have cp := hS.cell 0; simp at cp; go_simp; with_reducible rfl)
      try simp only [Act.put, List.setIfInBounds_toArray, List.set_cons_zero, List.set_cons_succ]
      refine AnyH.take (i := 5) (v := ?_) rfl (by kernel_rfl) (fun _ _ _ h => (by cases h.1)) rfl ?_ hS5 ?_
      rotate_left
      (intro w hS; have cp := hS.cell 0; simp at cp; go_simp; with_reducible rfl)
      try simp only [Act.put, List.setIfInBounds_toArray, List.set_cons_zero, List.set_cons_succ]
      have hz5 := HS5.out.size
      refine AnyH.two (i := 4) (j := 6) (by kernel_rfl) ?_ ?_
      · obtain ⟨v, hrun, hoi, hll, hback⟩ := HG5.out.look hh (by omega)
        have S0 := Lib.hid (show ∀ W : World, w5.grownBy W v.ownBlock → w5.ownsInts w2.heap.size 22 .u64 v (ints (f h)) → IsBlk W (MB + 1) 86 #[.map (some MB)] from fun W hgr ho => (hgr.block (MB + 1) hS5.lt (fun e => row_ne ho.1 hS5 (show 86 ≠ 22 by decide) e.symm)).trans hS5)
        refine ⟨_, v, w5, rfl, rfl, comes_lookup _ (.tmp 44) (.tmp 45) rfl rfl rfl hrun, hS5, ?_⟩
        try simp only [Act.put, List.setIfInBounds_toArray, List.set_cons_zero, List.set_cons_succ]
        refine AnyH.one (i := 6) (by kernel_rfl) ⟨_, .slice (some ⟨w5.heap.size, 0, none⟩) 1 1, (w5.alloc (.cells #[.int .u64 x] 22)), rfl, rfl, .inl (by clear hi hz0 hz1 hz2; go_simp), hS5.alloc _, ?_⟩
        try simp only [Act.put, List.setIfInBounds_toArray, List.set_cons_zero, List.set_cons_succ]
        obtain ⟨v', w8, hrun8, hown8, hg8, _, hloc8⟩ := run_append_own_at (P := Try.prog) (w5.alloc (.cells #[.int .u64 x] 22)) w2.heap.size 23 23 22 i0 (.int .u64 0) 1 8 Try.underlying23 hi hz0 hz1 hz2 rfl (by decide) v _ _ (hoi.1.alloc _) ⟨w5.heap.size, 0, none⟩ 1 1 [.int .u64 x] rfl (cell_one_new _ _ _) (by simp [Value.oneCell']) (by rw [ints_len]; simp only [maxLen]; omega) (by rw [ints_len]; omega) (by simp; omega)
        have hoi8 : w8.ownsInts w2.heap.size 22 .u64 v' (ints (f h ++ [x])) := by
          have e : ints (f h ++ [x]) = ints (f h) ++ [(x : Int)] := by simp [ints]
          rw [e]
          exact hoi.appended hown8 (wfu hxu)
        have hgA : w5.grownBy w8 v.ownBlock := (World.grownBy_alloc _ _ _).trans hg8
        obtain ⟨w9, hrun9, hG9, hg9⟩ := hback x w8 v' hxu hgA hoi8 (hloc8.imp id fun e => ⟨_, e, by simp⟩)
        have hS8 := S0.out w8 hgA hoi
        have hS9 : IsBlk w9 (MB + 1) 86 #[.map (some MB)] := (hg9.block (MB + 1) hS8.lt (fun e => by injection e with e; omega)).trans hS8
        refine AnyH.one (i := 7) (by kernel_rfl) ⟨_, v', w8, rfl, rfl, comes_append (.tmp 46) (.tmp 48) _ rfl rfl rfl hrun8, hS8, ?_⟩
        try simp only [Act.put, List.setIfInBounds_toArray, List.set_cons_zero, List.set_cons_succ]
        refine AnyH.one (i := 8) (by kernel_rfl) ⟨_, undef, w9, rfl, rfl, comes_update _ (.tmp 42) (.tmp 43) (.tmp 49) rfl rfl rfl rfl hrun9, hS9, ?_⟩
        try simp only [Act.put]
        refine wpAnyH_done (by kernel_rfl) ⟨rfl, ?_⟩ _
        have HG9 := Lib.hid hG9
        rw [FN.out] at HG9
        have HS9 := Lib.hid (((HS5.out).grown hgA (by have := HS5.out.bel.size; omega) hMB (fun r e => .inr (hoi.1.lt r e).1)).grown hg9 (by have := HS5.out.bel.size; omega) hMB (fun r e => by cases e; exact .inl rfl))
        clear hG9 hg9 hS9 hS8 hrun9 hrun8 hloc8 hgA hoi8 hg8 hown8 hback hoi hrun
        gi_wp2
        exact ⟨⟨k + 1, by omega, by go_num, HG9.out, HS9.out⟩, by simp [intOf]; omega⟩
      · refine ⟨_, .slice (some ⟨w5.heap.size, 0, none⟩) 1 1, (w5.alloc (.cells #[.int .u64 x] 22)), rfl, rfl, .inl (by clear hi hz0 hz1 hz2; go_simp), hS5.alloc _, ?_⟩
        try simp only [Act.put, List.setIfInBounds_toArray, List.set_cons_zero, List.set_cons_succ]
        have hS6 := hS5.alloc (.cells #[.int .u64 x] 22)
        have hb6 : Below w5.heap.size w5 (w5.alloc (.cells #[.int .u64 x] 22)) := (Below.refl _ w5).alloc (Nat.le_refl _) _
        have HS6 := Lib.hid (HS5.out.after hb6)
        obtain ⟨v, hrun, hoi, hll, hback⟩ := (HG5.out.after hb6).look hh (by omega)
        have S0 := Lib.hid (show ∀ W : World, (w5.alloc (.cells #[.int .u64 x] 22)).grownBy W v.ownBlock → (w5.alloc (.cells #[.int .u64 x] 22)).ownsInts w2.heap.size 22 .u64 v (ints (f h)) → IsBlk W (MB + 1) 86 #[.map (some MB)] from fun W hgr ho => (hgr.block (MB + 1) hS6.lt (fun e => row_ne ho.1 hS6 (show 86 ≠ 22 by decide) e.symm)).trans hS6)
        refine AnyH.one (i := 4) (by kernel_rfl) ⟨_, v, (w5.alloc (.cells #[.int .u64 x] 22)), rfl, rfl, comes_lookup _ (.tmp 44) (.tmp 45) rfl rfl rfl hrun, hS6, ?_⟩
        try simp only [Act.put, List.setIfInBounds_toArray, List.set_cons_zero, List.set_cons_succ]
        obtain ⟨v', w8, hrun8, hown8, hg8, _, hloc8⟩ := run_append_own_at (P := Try.prog) (w5.alloc (.cells #[.int .u64 x] 22)) w2.heap.size 23 23 22 i0 (.int .u64 0) 1 8 Try.underlying23 hi hz0 hz1 hz2 rfl (by decide) v _ _ hoi.1 ⟨w5.heap.size, 0, none⟩ 1 1 [.int .u64 x] rfl (cell_one_new _ _ _) (by simp [Value.oneCell']) (by rw [ints_len]; simp only [maxLen]; omega) (by rw [ints_len]; omega) (by simp; omega)
        have hoi8 : w8.ownsInts w2.heap.size 22 .u64 v' (ints (f h ++ [x])) := by
          have e : ints (f h ++ [x]) = ints (f h) ++ [(x : Int)] := by simp [ints]
          rw [e]
          exact hoi.appended hown8 (wfu hxu)
        have hgA : (w5.alloc (.cells #[.int .u64 x] 22)).grownBy w8 v.ownBlock := hg8
        obtain ⟨w9, hrun9, hG9, hg9⟩ := hback x w8 v' hxu hgA hoi8 (hloc8.imp id fun e => ⟨_, e, by simp⟩)
        have hS8 := S0.out w8 hgA hoi
        have hS9 : IsBlk w9 (MB + 1) 86 #[.map (some MB)] := (hg9.block (MB + 1) hS8.lt (fun e => by injection e with e; omega)).trans hS8
        refine AnyH.one (i := 7) (by kernel_rfl) ⟨_, v', w8, rfl, rfl, comes_append (.tmp 46) (.tmp 48) _ rfl rfl rfl hrun8, hS8, ?_⟩
        try simp only [Act.put, List.setIfInBounds_toArray, List.set_cons_zero, List.set_cons_succ]
        refine AnyH.one (i := 8) (by kernel_rfl) ⟨_, undef, w9, rfl, rfl, comes_update _ (.tmp 42) (.tmp 43) (.tmp 49) rfl rfl rfl rfl hrun9, hS9, ?_⟩
        try simp only [Act.put]
        refine wpAnyH_done (by kernel_rfl) ⟨rfl, ?_⟩ _
        have HG9 := Lib.hid hG9
        rw [FN.out] at HG9
        have HS9 := Lib.hid (((HS6.out).grown hgA (by have := HS5.out.bel.size; omega) hMB (fun r e => .inr (hoi.1.lt r e).1)).grown hg9 (by have := HS5.out.bel.size; omega) hMB (fun r e => by cases e; exact .inl rfl))
        clear hG9 hg9 hS9 hS8 hrun9 hrun8 hloc8 hgA hoi8 hg8 hown8 hback hoi hrun
        gi_wp2
        exact ⟨⟨k + 1, by omega, by go_num, HG9.out, HS9.out⟩, by simp [intOf]; omega⟩
    · obtain rfl : k = (sorted ts).length := by omega
      rw [List.take_length] at hGk
      have HG := Lib.hid (show GMap wr w2.heap.size MB (sorted ts).length (riseF n ts) from hGk)
      have HSp := Lib.hid hSp
      have hPVr := hSp.blk hPV2.out (by omega)
      have hszr := hSp.size
      have hbr := hSp.bel
      clear hGk hSp HO hA2
      generalize wr = W0 at *
      have cPV := hPVr.cell 0
      have lPV := hPVr.lt
      simp at cPV
      have RI := Lib.hid fun w (h : GMap w w2.heap.size MB (sorted ts).length (riseF n ts)) => risingH_any MB _ _ _ w h (by omega)
      gi_wp2_with (first
        | (gi_at_call 59; refine (callsIn_wide.2 (RI.out _ (HG.out.after ((Below.refl _ W0).alloc (Nat.le_refl _) _)))).mono ?_; rintro e w3 ⟨hs, hrs, A3, c5, rfl, hown, hb3⟩; have HRS := Lib.hid hrs; have HO3 := Lib.hid hown; have HB3 := Lib.hid hb3; clear hrs hown hb3; rw [ints_len])
        | (gi_at_call 58; refine (callsIn_wide.2 (backwardI_any _ _ _ _)).mono ?_; rintro e w4 ⟨rfl, hw4⟩; have HW4 := Lib.hid hw4; clear hw4)
        | gi_in)
      obtain ⟨W1, hW1⟩ : ∃ W1, W1 = W0.alloc (.cells #[.slice none 0 0] 55) := ⟨_, rfl⟩
      have hsz1 : W1.heap.size = W0.heap.size + 1 := by rw [hW1]; simp
      have hob1 : IsBlk W1 W0.heap.size 55 #[.slice none 0 0] := by rw [hW1]; exact IsBlk.new _ _ _
      have hbl1 : Below W0.heap.size W0 W1 := by rw [hW1]; exact (Below.refl _ _).alloc (Nat.le_refl _) _
      rw [← hW1] at HB3 HO3
      clear hW1
      have hA3 : ∀ g, A3 = some ⟨g, 0, none⟩ → W0.heap.size + 1 ≤ g ∧ g < w3.heap.size := fun g e => by
        subst e
        have := HO3.out.lt g rfl
        omega
      have hSI : SliceI w3 A3 hs := SliceI.of_own HO3.out (by rw [ints_len])
      have hb34 : Below w3.heap.size w3 w4 := by rw [HW4.out]; exact (Below.refl _ _).alloc (Nat.le_refl _) _
      have hbb4 : IsBlk w4 w3.heap.size 90 #[.slice A3 hs.length c5] := by rw [HW4.out]; exact IsBlk.new _ _ _
      have hsz4 : w4.heap.size = w3.heap.size + 1 := by rw [HW4.out]; simp
      have hsz3 := HB3.out.size
      have b14 : Below W1.heap.size W1 w4 := HB3.out.trans (hb34.mono hsz3)
      have b04 : Below W0.heap.size W0 w4 := hbl1.trans (b14.mono (by omega))
      have hlen3 : hs.length ≤ 101 := by
        have := nd_len hs (List.range 101) (HRS.out.1.imp fun h => by omega) (fun x hx => by rw [List.mem_range]; have := ((HRS.out.2 x).1 hx).1; omega)
        rwa [List.length_range] at this
      have hst4 : SpO w w4 w2.heap.size MB (sorted ts).length W0.heap.size (riseF n ts) hs 0 w4 :=
        ⟨HG.out.after b04, hPVr.after b04, ⟨none, 0, [], hob1.after b14, ⟨rfl, .inl ⟨rfl, rfl⟩⟩, rfl, fun q hq => by cases hq⟩, hbr.trans (b04.mono hbr.size), Nat.le_refl _⟩
      have hSI4 := hSI.after hb34
      have E := Lib.hid (show splitF n ts = (backOf hs).map fun x => (x.2, riseF n ts x.2) from by
        unfold splitF
        rw [← heights_one (hs := hs.reverse) hv (List.pairwise_reverse.2 HRS.out.1) (fun h => by
          rw [List.mem_reverse, HRS.out.2]
          refine ⟨fun h => h.2, fun h' => ⟨?_, h'⟩⟩
          obtain ⟨t, l, e⟩ := List.exists_cons_of_ne_nil h'
          have hm := ((riseF_is (n := n) (h := h) hv.2.2.1).2 t).1 (by rw [e]; exact List.mem_cons_self)
          have h1 := tree_le (hv.2.1 t hm.1)
          have h2 := rows_le (n := n) (by omega)
          omega), ← back_rev, List.map_map]
        rfl)
      clear hob1 hbl1 HB3 HO3 hSI hb34 b14 cPV lPV RI HG hPVr hi hz0 hz1 hz2 HW4
      generalize hOB : W0.heap.size = OB at *
      obtain ⟨ip, hi, hz0, hz1, hz2⟩ := info_parts part_info
      refine wpIn_range_list (xs := backOf hs) (gf := 75) (lb := #[.pointer (some ⟨w3.heap.size, 0, none⟩)]) rfl (by omega) rfl trivial (enters_of Try.func75 (by kernel_rfl) rfl)
        (backI_list hs A3 c5 _ w3.heap.size w4 (by omega) (by omega) hbb4 hSI4) (fun r e => e.elim) KpB.trans (KpB.put (by omega) (fun g e => by have := hA3 g e; omega)) (Below.refl _ _) (fun _ => rfl)
        (fun i W => SpO w w4 w2.heap.size MB (sorted ts).length OB (riseF n ts) hs i W)
        (fun c i W => False)
        ?own ?ownx ?start ?round ?done ?stop
      case own =>
        rintro i W W' row ⟨h1, h2, ⟨Av, cv, Q, h3, h4, h5, h6⟩, h7, h8⟩ hg hr
        have := hg.size
        have hf : ∀ r, row = some r → r ≠ MB ∧ ∀ cs, W.heap[r]? ≠ some (.cells cs 22 (0, 0)) := fun r e => by
          rcases hr r e with h | ⟨h, o, h9, h10⟩
          · exact h.elim
          · exact ⟨by omega, fun cs e => by rw [e] at h9; injection h9 with h9; rw [← h9] at h10; cases h10⟩
        exact ⟨h1.far hg hf, h2.keptC (Ch := fun _ => False) hg hr id, ⟨Av, cv, Q, h3.keptC (Ch := fun _ => False) hg hr id, own_keptC (Ch := fun _ => False) h4 hg hr (fun _ e => e.elim), h5, fun q hq => ints_far (h6 q hq) hg fun r e => (hf r e).2⟩, bel_keptC (Ch := fun _ => False) h7 h7.size hg hr (fun _ e => e.elim) (by have := hst4.bel.size; omega), by omega⟩
      case ownx =>
        rintro c i W W' row h hg hr
        exact h
      case start => exact hst4
      case stop =>
        rintro D c i W hD hi h hK
        exact h.elim
      case done =>
        rintro D W hD ⟨h1, h2, ⟨Av, cv, Q, h3, h4, h5, h6⟩, h7, h8⟩ hK
        rw [backOf_len] at h3 h4 h5
        rw [List.take_of_length_le (by rw [backOf_len]; omega)] at h5
        have co := h3.cell 0
        have lo := h3.lt
        simp at co
        have hqs : qs Q = splitF n ts := h5.trans E.out.symm
        have hQl : Q.length = hs.length := by
          have := congrArg List.length h5
          unfold qs at this
          rwa [List.length_map, List.length_map, backOf_len] at this
        have hpl : (splitF n ts).length = hs.length := by rw [E.out, List.length_map, backOf_len]
        have hP : Parts (W.putObj D (.deferred none)) Av (splitF n ts) := by
          rw [← hqs]
          refine Parts.of_own (ownsRow_putObj h4 _ hK rfl) hQl.symm fun q hq => ?_
          have h9 := (ints_far (h6 q hq) (grownBy_putObj' W D (.deferred none)) (fun r e cs e2 => by cases e; rw [hK] at e2; cases e2)).1
          rw [ints_len] at h9
          exact SliceAt.of_own h9 rfl
        have hbD : w.heap.size ≤ D := by have := hst4.bel.size; omega
        clear h1 h2 h6 h5 hi hz0 hz1 hz2 hst4 hbb4 hSI4
        gi_wp2
        refine ⟨by simp, .inl ⟨_, _, rfl, run_takeDeferred hK, ?_⟩⟩
        refine ⟨_, results_tmp2 rfl _ _ _, Av, cv, by rw [hpl]; rfl, ?_, ?_⟩
        · exact hP
        · exact h7.grown (grownBy_putObj' _ D _) h7.size (fun k e => by cases e; exact hbD)
      case round =>
        rintro l i x W hx -
        obtain ⟨hil, hxm⟩ := back_mem hx
        have hh := ((HRS.out.2 _).1 hxm).1
        have hne := ((HRS.out.2 _).1 hxm).2
        have TK := Lib.hid (show (backOf hs).take (i + 1) = (backOf hs).take i ++ [x] from by rw [List.take_add_one, hx]; rfl)
        obtain ⟨ix, h⟩ := x
        gi_wp2
        rintro W2 hO
        have HO := Lib.hid hO
        obtain ⟨h1, h2, ⟨Av, cv, Q, h3, h4, h5, h6⟩, h7, h8⟩ := hO
        obtain ⟨v, hrun, hoi, hll, _⟩ := h1.look hh (by omega)
        obtain ⟨Al, cl, rfl⟩ := shape_of hoi.1
        rw [ints_len] at hrun hoi
        have co := h3.cell 0
        have fo := h3.free 0
        have lo := h3.lt
        have cp := h2.cell 0
        have lp := h2.lt
        simp at co cp
        have hOBw : w.heap.size ≤ OB := by have := hbr.size; omega
        have hN : (sorted ts).length ≤ 1000 := hst
        gi_wp2_with (gi_at_builtin; refine wpListIn_append_own_at _ rfl _ _ 55 rfl w4.heap.size 62 ip (.agg #[.int .i64 0, .slice none 0 0]) 2 32 Try.underlying55 hi hz0 hz1 hz2 rfl (by decide) (.slice Av i cv) i (qcells Q) rfl (h4.alloc _) ⟨W2.heap.size, 0, none⟩ 1 1 [.int .i64 h, .slice Al (riseF n ts h).length cl] rfl rfl (cell_two_at W2 _ _ _) (by simp [Value.oneCell']) (by simp only [maxLen]; omega) (by omega) (by simp; omega) ?_; intro v' V1 hown' hgrow hnil hloc; obtain ⟨A', c', rfl⟩ := shape_of hown'; have bel1 : Below w4.heap.size W2 V1 := bel_append (Below.refl _ _) h8 h4 hgrow; have k3 := h3.below bel1 (by omega); have e3 := k3.cell 0; have f3 := k3.free 0; have l3 := k3.lt; simp at e3)
        have kp := (keeps_append h4 hgrow).trans (KeepsOthers.setCell V1 ⟨OB, 0, none⟩ (.slice A' (i + 1) c'))
        have ht : ∀ r, (Value.slice Av i cv).ownBlock = some r → r ≠ MB ∧ ∀ cs, (W2.alloc (.cells #[.int .i64 h, .slice Al (riseF n ts h).length cl] 62)).heap[r]? ≠ some (.cells cs 22 (0, 0)) := fun r e => by
          obtain ⟨cur, hc⟩ := row_type (h4.alloc (.cells #[.int .i64 h, .slice Al (riseF n ts h).length cl] 62)) e
          refine ⟨by have := (h4.lt r e).1; omega, fun cs e2 => ?_⟩
          rw [hc] at e2
          injection e2 with e2
          injection e2 with _ e2
          exact absurd e2 (by decide)
        have ht2 : ∀ r, some OB = some r → r ≠ MB ∧ ∀ cs, V1.heap[r]? ≠ some (.cells cs 22 (0, 0)) := fun r e => by
          cases e
          refine ⟨by omega, fun cs e2 => ?_⟩
          have k4 : V1.heap[OB]? = _ := k3
          rw [k4] at e2
          injection e2 with e2
          injection e2 with _ e2
          exact absurd e2 (by decide)
        have hw42 : w.heap.size ≤ w4.heap.size := hst4.bel.size
        refine ⟨kp.from _, ⟨fun g e => ⟨by have := kp.size; omega, ?_⟩, ?_⟩, ⟨((h1.after ((Below.refl _ W2).alloc (Nat.le_refl _) _)).far hgrow ht).far (grown_set V1 OB _) ht2, (h2.below bel1 (by omega)).far (by simp; omega) _, ⟨A', c', Q ++ [(h, Al, cl, riseF n ts h)], k3.put1 _, ownsRow_setCell_below ?_ (by simp; omega) _, ?_, ?_⟩, (h7.trans (bel1.mono hw42)).setCell (by simp; omega) _, by have := kp.size; omega⟩⟩
        · have := hA3 g e
          exact (Below.heap_setCell V1 ⟨OB, 0, none⟩ _ g (by simp; omega)).trans (bel1.block g (by omega))
        · exact (Below.heap_setCell V1 ⟨OB, 0, none⟩ _ w3.heap.size (by simp; omega)).trans (bel1.block w3.heap.size (by omega))
        · have e : qcells (Q ++ [(h, Al, cl, riseF n ts h)]) = qcells Q ++ [.int .i64 h, .slice Al (riseF n ts h).length cl] := by simp [qcells]
          rw [e]
          exact hown'
        · have e : qs (Q ++ [(h, Al, cl, riseF n ts h)]) = qs Q ++ [(h, riseF n ts h)] := by simp [qs]
          rw [e, h5, TK.out, List.map_append]
          rfl
        · intro q hq
          rcases List.mem_append.1 hq with hq | hq
          · exact ints_far (ints_far ((h6 q hq).alloc _) hgrow fun r e => (ht r e).2) (grown_set V1 OB _) fun r e => (ht2 r e).2
          · simp only [List.mem_singleton] at hq
            subst hq
            exact ints_far (ints_far (hoi.alloc _) hgrow fun r e => (ht r e).2) (grown_set V1 OB _) fun r e => (ht2 r e).2

theorem split_no (n : Nat) (ts : List Nat) (A : Option Addr) (c : Nat) (w : World) (hnu : (n : Int) ≤ 18446744073709551615) (hlen : ts.length ≤ 1000) (hu : ∀ t ∈ ts, (t : Int) ≤ 18446744073709551615) (hs : SliceG w A ts) (hv : ¬ Valid n ts) :
    Calls Try.prog 30 #[.int .u64 n, .slice A ts.length c] w (ListErr w) := by
  have M := Lib.hid fun w hs => made_no n ts A c w hnu hlen hu hs hv
  refine (callsIn_wide (n := 5)).1 ?_
  refine callsIn_of_wp_marks Try.func30 rfl trivial ?_ rfl
  simp only [Try.ntmps30, List.size_toArray, List.length_cons, List.length_nil, Nat.reduceAdd, Nat.reduceSub, Array.replicate_succ, Array.replicate_zero, List.push_toArray, List.append_toArray, List.nil_append, List.cons_append]
  have hF1 : Fence.wide.fn 35 := trivial
  gi_wp2_with (gi_at_call 35; refine (callsIn_wide.2 (M.out _ hs)).mono ?_; rintro e w1 ⟨rfl, hb1⟩)
  refine ⟨_, results_tmp2 rfl _ _ _, rfl, ?_⟩
  exact hb1
end Go.Proofs.Ytapdhmaeglafjaa
