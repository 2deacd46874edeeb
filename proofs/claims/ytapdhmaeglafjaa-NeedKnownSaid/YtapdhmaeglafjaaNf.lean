/- gone, asked, Gone. -/
import Derived.Test.YtapdhmaeglafjaaNe
namespace Go.Proofs.Ytapdhmaeglafjaa
open Go.RowKit Go.Shelf
attribute [local go_sem] Oper.semAt_some

set_option maxHeartbeats 4000000 in
set_option maxRecDepth 100000 in
theorem gone_any {n : Nat} {ts : List Nat} (hv : Valid n ts) (P p : Nat) (w : World) (hin : InF n p) (hPA : PA n ts P w) (hPl : P < w.heap.size) : Calls Try.prog 43 #[.pointer (some ⟨P, 0, none⟩), .int .u64 p] w (NRet (.bool (goneB n ts p)) w) := by
  have hpu := inF_u64 hin
  have hn := hin.1
  have hPA0 := hPA
  obtain ⟨m1, m2, q1, q2, wy, hP, hN1, hN2, hq2, hW⟩ := hPA
  refine (callsIn_wide (n := 5)).1 ?_
  refine callsIn_of_wp_marks Try.func43 rfl trivial ?_ rfl
  simp only [Try.ntmps43, List.size_toArray, List.length_cons, List.length_nil, Nat.reduceAdd, Nat.reduceSub, Array.replicate_succ, Array.replicate_zero, List.push_toArray, List.append_toArray, List.nil_append, List.cons_append]
  have hF1 : Fence.wide.fn 63 := trivial
  have hF2 : Fence.wide.fn 47 := trivial
  have c0 := IsBlk.cell hP 0
  simp at c0
  have HP := Lib.hid hP; have H1 := Lib.hid hN1; have H2 := Lib.hid hN2
  clear hP hN1 hN2
  gi_wp2_with (gi_at_call 63; refine (callsIn_wide.2 (nup_any n p _ (by omega) (by omega))).mono ?_; rintro e w3 ⟨bB, bA, bC, rfl, hB1, hB2, hB3, hB4, hB5⟩)
  have b03 : Below w.heap.size w w3 := (((Below.refl _ w).alloc (by simp) _).alloc (by simp) _).trans (hB5.mono (by simp; omega))
  have bx : IsBlk w3 w.heap.size 66 #[.pointer (some ⟨P, 0, none⟩)] := ((IsBlk.new w _ _).alloc _).after hB5
  have br : IsBlk w3 (w.heap.size + 1) 4 #[.bool false] := (IsBlk.newAt (w := w.alloc (.cells #[.pointer (some ⟨P, 0, none⟩)] 66)) _ _ (by simp)).after hB5
  have hP3 : PlanB w3 P m1 m2 n (rowsOf n) := IsBlk.after HP.out b03
  have hN3 := H1.out.after b03 H1.out.lt
  have hN4 := H2.out.after b03 H2.out.lt
  have hA3 : ∀ g, bA = some ⟨g, 0, none⟩ → w.heap.size + 1 < g ∧ g < w3.heap.size := fun g e => by have := hB4 g e; simp at this; omega
  have hsz3 := b03.size
  have h1lt := H1.out.lt
  have h2lt := H2.out.lt
  clear hB1 hB4 hB5 c0
  refine wpIn_range_list (xs := wayOf n p) (gf := 89) (lb := #[.pointer (some ⟨bB, 0, none⟩)]) rfl (by omega) rfl trivial (enters_of Try.func89 (by kernel_rfl) rfl)
    (vals_list (wayOf n p) bA bC _ bB w3 (by omega) (by have := way_short n p; omega) hB2 hB3) (fun r e => e.elim) KpA.trans (KpA.put (fun g e => (hA3 g e).2)) (Below.refl _ _) (fun _ => rfl)
    (fun i W => PlanB W P m1 m2 n (rowsOf n) ∧ NMap W m1 q1 (tgOf ts) ∧ NMap W m2 q2 wy ∧ IsBlk W w.heap.size 66 #[.pointer (some ⟨P, 0, none⟩)] ∧ IsBlk W (w.heap.size + 1) 4 #[.bool false] ∧ Below w.heap.size w W ∧ w3.heap.size ≤ W.heap.size ∧ ∀ a ∈ (wayOf n p).take i, a ∉ ts)
    (fun c i W => c = .ret ∧ IsBlk W (w.heap.size + 1) 4 #[.bool true] ∧ Below w.heap.size w W ∧ w3.heap.size ≤ W.heap.size ∧ ∃ a ∈ wayOf n p, a ∈ ts)
    ?own ?ownx ?start ?round ?done ?stop
  case own =>
    rintro i W W' row ⟨h1, h2, h3, h4, h5, h6, h7, h8⟩ hg hr
    have := hg.size
    exact ⟨IsBlk.keptC (Ch := fun _ => False) h1 hg hr id, h2.keptC hg hr hN3.lt, h3.keptC hg hr hN4.lt, h4.keptC (Ch := fun _ => False) hg hr id, h5.keptC (Ch := fun _ => False) hg hr id, bel_keptC (Ch := fun _ => False) h6 (by omega) hg hr (fun _ e => e.elim) hsz3, by omega, h8⟩
  case ownx =>
    rintro c i W W' row ⟨e, h5, h6, h7, h8⟩ hg hr
    have := hg.size
    exact ⟨e, h5.keptC (Ch := fun _ => False) hg hr id, bel_keptC (Ch := fun _ => False) h6 (by omega) hg hr (fun _ e => e.elim) hsz3, by omega, h8⟩
  case start => exact ⟨hP3, hN3, hN4, bx, br, b03, Nat.le_refl _, by simp⟩
  case round =>
    rintro l i q W hq -
    gi_wp2
    refine ⟨trivial, ?_⟩
    rintro W2 ⟨h1, h2, h3, h4, h5, h6, h7, h8⟩
    have hqm := List.mem_of_getElem? hq
    have hqu := inF_u64 (in_way hin hqm)
    have c2 := IsBlk.cell h1 2
    have cx := h4.cell 0
    have cr := h5.cell 0
    have fr := h5.free 0
    simp at c2 cx cr
    have look := h2.look Try.underlying70 (x := q) (by omega)
    by_cases hm : q ∈ ts
    · rw [show tgOf ts q = 1 from by unfold tgOf; rw [if_pos hm]] at look
      gi_wp2
      have ko := KeepsOthers.setCell W2 ⟨w.heap.size + 1, 0, none⟩ (.bool true)
      exact ⟨ko.from _, rfl, h5.put 0 _, h6.setCell (by simp) _, by have := ko.size; omega, q, hqm, hm⟩
    · rw [show tgOf ts q = 0 from by unfold tgOf; rw [if_neg hm]] at look
      gi_wp2
      refine ⟨KeepsFrom.refl _ _, fun g e => ⟨Nat.le_refl _, rfl⟩, h1, h2, h3, h4, h5, h6, h7, ?_⟩
      intro a ha
      rw [List.take_add_one, hq] at ha
      rcases List.mem_append.1 ha with h | h
      · exact h8 a h
      · simp at h
        rw [h]
        exact hm
  case done =>
    rintro D W hD ⟨h1, h2, h3, h4, h5, h6, h7, h8⟩ hK
    rw [List.take_length] at h8
    have cx := h4.cell 0
    have cr := h5.cell 0
    have fr := h5.free 0
    simp at cx cr
    have em := emp_any hv P p W hin ⟨m1, m2, q1, q2, wy, h1, h2, h3, hq2, hW⟩
    have E := Lib.hid (show goneB n ts p = emp n ts p from by
      unfold goneB
      rw [show (wayOf n p).any (fun a => decide (a ∈ ts)) = false from by
        rw [List.any_eq_false]
        intro a ha
        simpa using h8 a ha]
      rfl)
    gi_wp2_with (gi_at_call 47; refine (callsIn_wide.2 em).mono ?_; rintro e w' ⟨rfl, q9, rfl⟩)
    have hK1 := (KeepsOthers.setCell (W.drewN q9) ⟨w.heap.size + 1, 0, none⟩ (.bool (emp n ts p))).same D _ hK rfl
    refine ⟨by simp, .inl ⟨_, _, rfl, run_takeDeferred hK1, ?_⟩⟩
    have b1 : IsBlk (((W.drewN q9).setCell ⟨w.heap.size + 1, 0, none⟩ (.bool (emp n ts p))).putObj D (.deferred none)) (w.heap.size + 1) 4 #[.bool (emp n ts p)] := (World.putObj_heap_other (by have := br.lt; omega)).trans ((h5.drewN q9).put 0 _)
    refine ⟨_, results_cell_one rfl Try.isAgg4 _ _ (w.heap.size + 1) _ rfl (b1.cell 0), by rw [E.out]; rfl, ?_⟩
    have hb9 : Below w.heap.size w ((W.drewN q9).setCell ⟨w.heap.size + 1, 0, none⟩ (.bool (emp n ts p))) := (bel_drewN h6 q9).setCell (by simp) _
    exact hb9.grown (grownBy_putObj' _ D _) hb9.size (fun k e => by cases e; omega)
  case stop =>
    rintro D c i W hD hi ⟨rfl, h5, h6, h7, a, ha, hat⟩ hK
    have E := Lib.hid (show goneB n ts p = true from by
      unfold goneB
      rw [show (wayOf n p).any (fun a => decide (a ∈ ts)) = true from List.any_eq_true.2 ⟨a, ha, decide_eq_true hat⟩]
      rfl)
    gi_wp2
    refine ⟨by simp, .inl ⟨_, _, rfl, run_takeDeferred hK, ?_⟩⟩
    have b1 : IsBlk (W.putObj D (.deferred none)) (w.heap.size + 1) 4 #[.bool true] := (World.putObj_heap_other (by have := br.lt; omega)).trans h5
    refine ⟨_, results_cell_one rfl Try.isAgg4 _ _ (w.heap.size + 1) _ rfl (b1.cell 0), by rw [E.out]; rfl, ?_⟩
    exact h6.grown (grownBy_putObj' _ D _) (by omega) (fun k e => by cases e; omega)

/-- A plan and no error; none and the error. -/
def AskNo (w : World) (e : Ending) (w' : World) : Prop := e = .returned (.tuple #[.pointer none, .int .i64 2]) ∧ Below w.heap.size w w'
def AskYes (n : Nat) (ts : List Nat) (w : World) (e : Ending) (w' : World) : Prop := ∃ P, e = .returned (.tuple #[.pointer (some ⟨P, 0, none⟩), .int .i64 0]) ∧ PA n ts P w' ∧ w.heap.size ≤ P ∧ P < w'.heap.size ∧ Below w.heap.size w w'
set_option maxHeartbeats 1000000 in
theorem asked_yes (n : Nat) (ts : List Nat) (A : Option Addr) (c p : Nat) (w : World) (hlen : ts.length ≤ 1000) (hs : SliceG w A ts) (hv : Valid n ts) (hin : InF n p) :
    Calls Try.prog 42 #[.int .u64 n, .slice A ts.length c, .int .u64 p] w (AskYes n ts w) := by
  have M := Lib.hid (made_yes n ts A c w hlen hs hv)
  have T := Lib.hid fun w => tree_yes n p w hin
  clear hs
  go_enter Try.func42, Try.ntmps42
  go_wp2_with fail
  refine M.out.mono ?_
  rintro e w1 hm
  obtain ⟨P, rfl, h1, h2, h3, h4⟩ := hm.pa
  have H1 := Lib.hid h1; have HB := Lib.hid h4
  clear hm h1 h4
  go_wp2_with fail
  refine (T.out _).mono ?_
  rintro e w2 ⟨rfl, hb2⟩
  have HP2 := Lib.hid (H1.out.after hb2); have HB2 := Lib.hid (HB.out.trans (hb2.mono HB.out.size))
  have hl2 : P < w2.heap.size := by have := hb2.size; omega
  clear hb2
  go_wp2_with fail
  go_ret2
  exact ⟨P, rfl, HP2.out, h2, hl2, HB2.out⟩
set_option maxHeartbeats 1000000 in
theorem asked_no (n : Nat) (ts : List Nat) (A : Option Addr) (c p : Nat) (w : World) (hnu : (n : Int) ≤ 18446744073709551615) (hpu : (p : Int) ≤ 18446744073709551615) (hlen : ts.length ≤ 1000) (hu : ∀ t ∈ ts, (t : Int) ≤ 18446744073709551615) (hs : SliceG w A ts) (hno : ¬ (Valid n ts ∧ InF n p)) :
    Calls Try.prog 42 #[.int .u64 n, .slice A ts.length c, .int .u64 p] w (AskNo w) := by
  by_cases hv : Valid n ts
  · have hin : ¬ InF n p := fun h => hno ⟨hv, h⟩
    have M := Lib.hid (made_yes n ts A c w hlen hs hv)
    have T := Lib.hid fun w => tree_no n p w hnu hpu hin
    clear hs hu hno
    go_enter Try.func42, Try.ntmps42
    go_wp2_with fail
    refine M.out.mono ?_
    rintro e w1 hm
    obtain ⟨P, rfl, h1, h2, h3, h4⟩ := hm.pa
    have HB := Lib.hid h4
    clear hm h1 h4
    go_wp2_with fail
    refine (T.out _).mono ?_
    rintro e w2 ⟨rfl, hb2⟩
    have HB2 := Lib.hid (HB.out.trans (hb2.mono HB.out.size))
    clear hb2
    go_wp2_with fail
    go_ret2
    exact ⟨rfl, HB2.out⟩
  · have M := Lib.hid (made_no n ts A c w hnu hlen hu hs hv)
    clear hs hu hno hv
    go_enter Try.func42, Try.ntmps42
    go_wp2_with fail
    refine M.out.mono ?_
    rintro e w1 ⟨rfl, hb⟩
    go_wp2_with fail
    go_ret2
    exact ⟨rfl, hb⟩
set_option maxHeartbeats 1000000 in
theorem Gone_yes (n : Nat) (ts : List Nat) (A : Option Addr) (c p : Nat) (w : World) (hlen : ts.length ≤ 1000) (hs : SliceG w A ts) (hv : Valid n ts) (hin : InF n p) :
    Calls Try.prog 18 #[.int .u64 n, .slice A ts.length c, .int .u64 p] w (NRet (.tuple #[.bool (goneB n ts p), .int .i64 0]) w) := by
  have M := Lib.hid (asked_yes n ts A c p w hlen hs hv hin)
  clear hs
  go_enter Try.func18, Try.ntmps18
  go_wp2_with fail
  refine M.out.mono ?_
  rintro e w1 ⟨P, rfl, h1, h2, h3, h4⟩
  have G := Lib.hid (gone_any hv P p w1 hin h1 h3)
  have HB := Lib.hid h4
  clear h1 h4
  go_wp2_with fail
  refine G.out.mono ?_
  rintro e w2 ⟨rfl, hb2⟩
  have HB2 := Lib.hid (HB.out.trans (hb2.mono HB.out.size))
  clear hb2
  go_wp2_with fail
  go_ret2
  exact ⟨rfl, HB2.out⟩
set_option maxHeartbeats 1000000 in
theorem Gone_no (n : Nat) (ts : List Nat) (A : Option Addr) (c p : Nat) (w : World) (hnu : (n : Int) ≤ 18446744073709551615) (hpu : (p : Int) ≤ 18446744073709551615) (hlen : ts.length ≤ 1000) (hu : ∀ t ∈ ts, (t : Int) ≤ 18446744073709551615) (hs : SliceG w A ts) (hno : ¬ (Valid n ts ∧ InF n p)) :
    Calls Try.prog 18 #[.int .u64 n, .slice A ts.length c, .int .u64 p] w (NRet (.tuple #[.bool false, .int .i64 2]) w) := by
  have M := Lib.hid (asked_no n ts A c p w hnu hpu hlen hu hs hno)
  clear hs hu hno
  go_enter Try.func18, Try.ntmps18
  go_wp2_with fail
  refine M.out.mono ?_
  rintro e w1 ⟨rfl, hb⟩
  go_wp2_with fail
  go_ret2
  exact ⟨rfl, hb⟩
end Go.Proofs.Ytapdhmaeglafjaa
