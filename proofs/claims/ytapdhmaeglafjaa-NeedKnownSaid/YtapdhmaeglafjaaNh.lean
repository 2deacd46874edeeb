/- need.Moved. -/
import Derived.Test.YtapdhmaeglafjaaNg
import Derived.Shelf.RegionOpen
namespace Go.Proofs.Ytapdhmaeglafjaa
open Go.RowKit Go.Shelf
attribute [local go_sem] Oper.semAt_some

/-- One step down: where the sibling was emptied the place stands. -/
def mvStep (n : Nat) (ts : List Nat) (place next : Nat) : Nat := if emp n ts (sibOf next) then place else leftOf place (rowsOf n) + next % 2
/-- The place behind k steps down from the root. -/
def mvAt (n : Nat) (ts : List Nat) (p : Nat) : Nat → Nat
  | 0 => anc p (rowsOf n) (topK n p)
  | k + 1 => mvStep n ts (mvAt n ts p k) (anc p (rowsOf n) (topK n p - 1 - k))
def movedF (n : Nat) (ts : List Nat) (p : Nat) : Nat := mvAt n ts p (topK n p)
theorem mv_in {n p : Nat} (ts : List Nat) (h : InF n p) : ∀ k, k ≤ topK n p → InF n (mvAt n ts p k) ∧ rowOf p (rowsOf n) + (topK n p - k) ≤ rowOf (mvAt n ts p k) (rowsOf n) := by
  have ht := tree_le h
  unfold treeOf at ht
  intro k
  induction k with
  | zero =>
    intro _
    obtain ⟨b1, b2, b3⟩ := way_above h (i := topK n p) (Nat.le_refl _)
    refine ⟨b1, ?_⟩
    have := (anc_spec h.2.1 (topK n p) ht).2.1
    show _ ≤ rowOf (anc p (rowsOf n) (topK n p)) (rowsOf n)
    omega
  | succ k ih =>
    intro hk
    obtain ⟨i1, i2⟩ := ih (by omega)
    show InF n (mvStep n ts (mvAt n ts p k) _) ∧ _ ≤ rowOf (mvStep n ts (mvAt n ts p k) _) (rowsOf n)
    generalize mvAt n ts p k = pl at *
    unfold mvStep
    split
    · exact ⟨i1, by omega⟩
    · obtain ⟨k1, k2, k3, k4, k5, k6, k7⟩ := child_in i1 (by omega)
      rcases Nat.mod_two_eq_zero_or_one (anc p (rowsOf n) (topK n p - 1 - k)) with e | e
      · rw [e]
        exact ⟨k2, by show _ ≤ rowOf (leftOf pl (rowsOf n)) (rowsOf n); omega⟩
      · rw [e]
        exact ⟨k3, by omega⟩

theorem IsBlk.put1 {W : World} {g : Nat} {t : TypeId} {a : Value} (h : IsBlk W g t #[a]) (u : Value) : IsBlk (W.setCell ⟨g, 0, none⟩ u) g t #[u] := h.put 0 u
theorem GrownBy.set {W V : World} {b : Nat} (h : W.grownBy V (some b)) (u : Value) : W.grownBy (V.setCell ⟨b, 0, none⟩ u) (some b) := by
  have hb : Below b V (V.setCell ⟨b, 0, none⟩ u) := (Below.refl b V).setCell (Nat.le_refl _) u
  exact ⟨hb.os.trans h.os, hb.tape.trans h.tape, hb.output.trans h.output, by have := (KeepsOthers.setCell V ⟨b, 0, none⟩ u).size; have := h.size; omega, fun k hk hne => (Below.heap_setCell V ⟨b, 0, none⟩ u k (fun e => hne (by rw [e]))).trans (h.block k hk hne)⟩
/-- What stands while it goes down. -/
def MvI (w w5 : World) (n : Nat) (ts : List Nat) (P m1 m2 q1 q2 : Nat) (wy : Nat → Nat) (x pb pl : Nat) (W : World) : Prop :=
  PlanB W P m1 m2 n (rowsOf n) ∧ NMap W m1 q1 (tgOf ts) ∧ NMap W m2 q2 wy ∧ IsBlk W x 66 #[.pointer (some ⟨P, 0, none⟩)] ∧ IsBlk W pb 22 #[.int .u64 pl] ∧ Below w.heap.size w W ∧ w5.heap.size ≤ W.heap.size
theorem MvI.turned {w w5 W V : World} {n : Nat} {ts : List Nat} {P m1 m2 q1 q2 : Nat} {wy : Nat → Nat} {x pb pl pl' X g3 : Nat} (he : X = pl') (h : MvI w w5 n ts P m1 m2 q1 q2 wy x pb pl W) (hg : W.grownBy V (some pb)) (hb : IsBlk V pb 22 #[.int .u64 pl'])
    (h5 : w5.heap.size = pb + 2) (hw : w.heap.size ≤ pb) (e1 : P < pb) (e2 : m1 < pb) (e3 : m2 < pb) (e4 : x < pb) (e5 : g3 < pb) : KeepsFrom w5.heap.size W V ∧ KpB (pb + 1) (some ⟨g3, 0, none⟩) W V ∧ MvI w w5 n ts P m1 m2 q1 q2 wy x pb X V := by
  subst he
  obtain ⟨h1, h2, h3, h4, _, h6, h7⟩ := h
  have k : ∀ {g : Nat} {t : TypeId} {cs : Array Value}, IsBlk W g t cs → g ≠ pb → IsBlk V g t cs := fun h1 h2 => (hg.block _ h1.lt (fun e => h2 (by cases e; rfl))).trans h1
  have hs := hg.size
  refine ⟨KeepsFrom.of_grownBy hg (fun j e => by cases e; omega), ⟨fun g e => ?_, hg.block (pb + 1) (by omega) (by simp)⟩, k h1 (by omega), h2.kept hg (by simp; omega), h3.kept hg (by simp; omega), k h4 (by omega), hb, h6.grown hg h6.size (fun r e => by cases e; exact hw), by omega⟩
  cases e
  exact ⟨hs, hg.block g3 (by omega) (by simp; omega)⟩
theorem dl_slice {W : World} {A : Option Addr} {xs : List Nat} (h : SliceAt W A xs) : SliceAt W A xs.dropLast := fun k hk => by
  rw [List.length_dropLast] at hk
  obtain ⟨g, e, h1, h2⟩ := h k (by omega)
  refine ⟨g, e, h1, ?_⟩
  rw [h2, List.getElem?_dropLast, if_pos hk]
theorem back_dl {n p i T : Nat} (hin : InF n p) (hT : topK n p = T) {x : Nat × Nat} (h : (backOf (wayOf n p).dropLast)[i]? = some x) : i < T ∧ x = (T - 1 - i, anc p (rowsOf n) (T - 1 - i)) := by
  have hl : (wayOf n p).dropLast.length = T := by rw [List.length_dropLast, way_len hin, hT]; rfl
  have hi := (List.getElem?_eq_some_iff.1 h).1
  rw [backOf_len, hl] at hi
  rw [backOf_at (by omega), hl] at h
  injection h with h
  refine ⟨hi, ?_⟩
  rw [← h]
  congr 1
  rw [List.getD_eq_getElem?_getD, List.getElem?_dropLast, if_pos (by rw [way_len hin]; omega), way_get hin (by omega)]
  rfl
theorem cap_le {W : World} {B n c : Nat} {t : TypeId} {A : Option Addr} {xs : List Value} (h : W.ownsRow B t 1 (.slice A n c) n xs) (h0 : 0 < n) : (n : Int) ≤ c := by
  rcases h.2 with ⟨_, h2⟩ | ⟨g', cap, cur, h1, h2, h3, h4, _⟩
  · omega
  · injection h1 with _ _ h1
    subst h1
    omega
set_option maxHeartbeats 4000000 in
set_option maxRecDepth 100000 in
theorem Moved_yes (n : Nat) (ts : List Nat) (A : Option Addr) (c p : Nat) (w : World) (hlen : ts.length ≤ 1000) (hs : SliceG w A ts) (hv : Valid n ts) (hin : InF n p) (hg : goneB n ts p = false) :
    Calls Try.prog 20 #[.int .u64 n, .slice A ts.length c, .int .u64 p] w (NRet (.tuple #[.int .u64 (movedF n ts p : Nat), .bool true, .int .i64 0]) w) := by
  have M := Lib.hid fun w hs => asked_yes n ts A c p w hlen hs hv hin
  have hpu := inF_u64 hin
  have hn := hin.1
  have W := Lib.hid fun w => way_any n p w (by omega) (by omega)
  refine (callsIn_wide (n := 5)).1 ?_
  refine callsIn_of_wp_marks Try.func20 rfl trivial ?_ rfl
  simp only [Try.ntmps20, List.size_toArray, List.length_cons, List.length_nil, Nat.reduceAdd, Nat.reduceSub, Array.replicate_succ, Array.replicate_zero, List.push_toArray, List.append_toArray, List.nil_append, List.cons_append]
  have hF1 : Fence.wide.fn 42 := trivial
  have hF2 : Fence.wide.fn 47 := trivial
  have hF3 : Fence.wide.fn 43 := trivial
  have hF4 : Fence.wide.fn 38 := trivial
  have hF5 : Fence.wide.fn 46 := trivial
  have hT := way_len hin
  have hTs := way_short n p
  obtain ⟨T, hTe⟩ : ∃ T, topK n p = T := ⟨_, rfl⟩
  have hroot := way_get hin (i := T) (by omega)
  rw [hTe] at hT
  have hT0 : (0 : Int) ≤ T := by omega
  have hT1 : (T : Int) ≤ 63 := by omega
  have HG := Lib.hid hg
  clear hg
  gi_wp2_with (first
    | (gi_at_call 42; refine (callsIn_wide.2 (M.out _ hs)).mono ?_; rintro e w1 ⟨P, rfl, h1, h2, h3, h4⟩; have HPA := Lib.hid h1; have HB1 := Lib.hid h4; clear h1 h4 hs)
    | (gi_at_call 43; refine (callsIn_wide.2 (gone_any hv P p _ hin (HPA.out.after ((Below.refl _ w1).alloc (by simp) _)) (by simp; omega))).mono ?_; rintro e w2 ⟨rfl, hb2⟩; rw [HG.out]; have HB2 := Lib.hid hb2; clear hb2)
    | (gi_at_call 38; refine (callsIn_wide.2 (W.out _)).mono ?_; rintro e w3 ⟨A3, c3, rfl, hown, hb3⟩; have hS := SliceAt.of_own hown (by rw [ints_len]); rw [ints_len, hT]; have HB3 := Lib.hid hb3; have HO := Lib.hid hown; have HS := Lib.hid hS; have hcap := cap_le hown (by rw [ints_len]; omega); rw [ints_len, hT] at hcap; obtain ⟨g3, rfl, hg3, hc3⟩ := hS T (by omega); rw [hroot] at hc3; simp only [Option.map_some] at hc3; clear hb3 hown hS)
    | (gi_at_call 46; refine (callsIn_wide.2 (backward_any _ _ _ _)).mono ?_; rintro e w5 ⟨rfl, hw5⟩; have HW5 := Lib.hid hw5; clear hw5)
    | gi_in)
  have b5 : Below w3.heap.size w3 w5 := by rw [HW5.out]; exact (((Below.refl _ w3).alloc (by simp) _).alloc (by simp) _)
  have bx1 : IsBlk (w1.alloc (.cells #[.pointer (some ⟨P, 0, none⟩)] 66)) w1.heap.size 66 #[.pointer (some ⟨P, 0, none⟩)] := IsBlk.new w1 _ _
  have hs12 := HB2.out.size
  have hs23 := HB3.out.size
  have hs01 := HB1.out.size
  simp at hs12
  have bx5 : IsBlk w5 w1.heap.size 66 #[.pointer (some ⟨P, 0, none⟩)] := ((bx1.after HB2.out).after HB3.out).after b5
  have bp5 : IsBlk w5 w3.heap.size 22 #[.int .u64 (anc p (rowsOf n) T : Nat)] := by rw [HW5.out]; exact (IsBlk.new w3 _ _).alloc _
  have bb5 : IsBlk w5 (w3.heap.size + 1) 23 #[.slice (some ⟨g3, 0, none⟩) T c3] := by rw [HW5.out]; exact IsBlk.newAt _ _ (by simp)
  have hsz5 : w5.heap.size = w3.heap.size + 2 := by rw [HW5.out]; simp
  have hPA5 : PA n ts P w5 := (((HPA.out.after ((Below.refl _ w1).alloc (by simp) _)).after HB2.out).after HB3.out).after b5
  have hdl : (wayOf n p).dropLast.length = T := by rw [List.length_dropLast, hT]; rfl
  have hsl5 : SliceAt w5 (some ⟨g3, 0, none⟩) (wayOf n p).dropLast := dl_slice (HS.out.after b5)
  have b05 : Below w.heap.size w w5 := ((((HB1.out.alloc hs01 _).trans (HB2.out.mono (by simp; omega))).trans (HB3.out.mono (by omega))).trans (b5.mono (by omega)))
  have hlt3 : g3 < w3.heap.size := hg3
  have hlt1 : w1.heap.size < w3.heap.size := by omega
  obtain ⟨m1, m2, q1, q2, wy, hP1, hN11, hN12, hq2, hW⟩ := HPA.out
  have hb15 : Below w1.heap.size w1 w5 := ((((Below.refl _ w1).alloc (by simp) _).trans (HB2.out.mono (by simp))).trans (HB3.out.mono (by omega))).trans (b5.mono (by omega))
  have hP5 : PlanB w5 P m1 m2 n (rowsOf n) := IsBlk.after hP1 hb15
  have hN51 := hN11.after hb15 hN11.lt
  have hN52 := hN12.after hb15 hN12.lt
  have hPlt : P < w3.heap.size := by omega
  have hm1lt : m1 < w3.heap.size := by have := hN11.lt; omega
  have hm2lt : m2 < w3.heap.size := by have := hN12.lt; omega
  clear hPA5 hP1 hN11 hN12 hb15
  obtain ⟨pb, hpb⟩ : ∃ b, b = w3.heap.size := ⟨_, rfl⟩
  rw [← hpb] at bp5 bb5 hlt3 hlt1 hPlt hm1lt hm2lt hsz5 ⊢
  clear hpb
  refine wpIn_range_list (xs := backOf (wayOf n p).dropLast) (gf := 69) (lb := #[.pointer (some ⟨pb + 1, 0, none⟩)]) rfl (by omega) rfl trivial (enters_of Try.func69 (by kernel_rfl) rfl)
    (back_list (wayOf n p).dropLast (some ⟨g3, 0, none⟩) c3 _ (pb + 1) w5 (by omega) (by omega) (by rw [hdl]; exact bb5) hsl5) (fun r e => e.elim) KpB.trans (KpB.put (by omega) (fun g e => by cases e; omega)) (Below.refl _ _) (fun _ => rfl)
    (fun i W => MvI w w5 n ts P m1 m2 q1 q2 wy w1.heap.size pb (mvAt n ts p i) W)
    (fun c i W => False)
    ?own ?ownx ?start ?round ?done ?stop
  case own =>
    rintro i W W' row ⟨h1, h2, h3, h4, h5, h6, h7⟩ hg hr
    have := hg.size
    exact ⟨IsBlk.keptC (Ch := fun _ => False) h1 hg hr id, h2.keptC hg hr hN51.lt, h3.keptC hg hr hN52.lt, h4.keptC (Ch := fun _ => False) hg hr id, h5.keptC (Ch := fun _ => False) hg hr id, bel_keptC (Ch := fun _ => False) h6 (by omega) hg hr (fun _ e => e.elim) b05.size, by omega⟩
  case ownx =>
    rintro c i W W' row h hg hr
    exact h
  case start =>
    refine ⟨hP5, hN51, hN52, bx5, ?_, b05, Nat.le_refl _⟩
    show IsBlk w5 pb 22 #[.int .u64 (anc p (rowsOf n) (topK n p) : Nat)]
    rw [hTe]
    exact bp5
  case stop =>
    rintro D c i W hD hi h hK
    exact h.elim
  case done =>
    rintro D W hD ⟨h1, h2, h3, h4, h5, h6, h7⟩ hK
    rw [backOf_len, hdl] at h5
    have E := Lib.hid (show movedF n ts p = mvAt n ts p T from by unfold movedF; rw [hTe])
    have cp := h5.cell 0
    simp at cp
    gi_wp2
    refine ⟨by simp, .inl ⟨_, _, rfl, run_takeDeferred hK, ?_⟩⟩
    refine ⟨_, results_tmp3 rfl _ _ _, by rw [E.out]; rfl, ?_⟩
    exact h6.grown (grownBy_putObj' _ D _) h6.size (fun k e => by cases e; have := b05.size; omega)
  case round =>
    rintro l i x W hx -
    obtain ⟨hiT, rfl⟩ := back_dl hin hTe hx
    obtain ⟨a1, a2, a3⟩ := way_above hin (i := T - 1 - i) (by omega)
    have a4 := sib_in a1 (by omega)
    have mi := mv_in ts hin i (by omega)
    have mE : mvAt n ts p (i + 1) = mvStep n ts (mvAt n ts p i) (anc p (rowsOf n) (T - 1 - i)) := by rw [← hTe]; rfl
    rw [hTe] at mi
    have hrow : 1 ≤ rowOf (mvAt n ts p i) (rowsOf n) := by omega
    obtain ⟨mi1, _⟩ := mi
    generalize mvAt n ts p i = pl at *
    generalize anc p (rowsOf n) (T - 1 - i) = q at *
    gi_wp2
    refine ⟨trivial, ?_⟩
    rintro W2 hMv
    have HMv := Lib.hid hMv
    obtain ⟨h1, h2, h3, h4, h5, h6, h7⟩ := hMv
    obtain ⟨s1, s2⟩ := a4
    obtain ⟨k1, k2, k3, k4, k5, k6, k7⟩ := child_in mi1 hrow
    have hR := rows_le (n := n) (by omega)
    have hqu := inF_u64 a1
    have hlu := inF_u64 k2
    have hlu3 := inF_u64 k3
    have HS := Lib.hid fun w => sib_yes q (rowsOf n) w hR s1
    have HL := Lib.hid fun w => left_yes pl (rowsOf n) w hR mi1.2.1 k1
    have HI := Lib.hid fun w => isLeft_any q w (by omega)
    have HE := Lib.hid (emp_any hv P (sibOf q) W2 s2 ⟨m1, m2, q1, q2, wy, h1, h2, h3, hq2, hW⟩)
    have hG1 : Fence.wide.fn 33 := trivial
    have hG2 : Fence.wide.fn 47 := trivial
    have hG3 : Fence.wide.fn 29 := trivial
    have hG4 : Fence.wide.fn 48 := trivial
    have c1 := IsBlk.cell h1 1
    have cx := h4.cell 0
    have cp := h5.cell 0
    have fp := h5.free 0
    have lp := h5.lt
    simp at c1 cx cp
    unfold mvStep at mE
    cases hem : emp n ts (sibOf q)
    · rw [hem, if_neg (by simp)] at mE
      rw [hem] at HE
      have k2' : (pb : Int) ≠ pb + 1 := by omega
      rcases Nat.mod_two_eq_zero_or_one q with ev | ev
      · rw [ev] at mE HI
        gi_wp2_with (first
          | (gi_at_call 33; refine (CallsIn.inRound l (callsIn_wide.2 (HS.out _))).mono ?_; rintro e w' ⟨rfl, rfl⟩)
          | (gi_at_call 29; refine (CallsIn.inRound l (callsIn_wide.2 (HL.out _))).mono ?_; rintro e w' ⟨rfl, d2, rfl⟩)
          | (gi_at_call 48; refine (CallsIn.inRound l (callsIn_wide.2 (HI.out _))).mono ?_; rintro e w' ⟨rfl, rfl⟩)
          | (gi_at_call 47; refine (CallsIn.inRound l (callsIn_wide.2 HE.out)).mono ?_; rintro e w' ⟨rfl, d1, rfl⟩))
        have HME := Lib.hid mE
        clear mE
        have hmx : Try.prog.follows .mixedOrders = true := by kernel_rfl
        gi_region_with_o (gi_at_call 29; refine (CallsIn.inRound l (callsIn_wide.2 (HL.out _))).mono ?_; rintro e w' ⟨rfl, d2, rfl⟩)
        all_goals
          gi_wp2_with (gi_at_call 48; refine (CallsIn.inRound l (callsIn_wide.2 (HI.out _))).mono ?_; rintro e w' ⟨rfl, rfl⟩)
          refine MvI.turned (HME.out.trans rfl) HMv.out (GrownBy.set ?_ _) (IsBlk.put1 (a := .int .u64 (pl : Nat)) ?_ _) hsz5 (by omega) hPlt hm1lt hm2lt hlt1 hlt3
          · exact ⟨rfl, rfl, rfl, Nat.le_refl _, fun _ _ _ => rfl⟩
          · exact h5
      · rw [ev] at mE HI
        gi_wp2_with (first
          | (gi_at_call 33; refine (CallsIn.inRound l (callsIn_wide.2 (HS.out _))).mono ?_; rintro e w' ⟨rfl, rfl⟩)
          | (gi_at_call 29; refine (CallsIn.inRound l (callsIn_wide.2 (HL.out _))).mono ?_; rintro e w' ⟨rfl, d2, rfl⟩)
          | (gi_at_call 48; refine (CallsIn.inRound l (callsIn_wide.2 (HI.out _))).mono ?_; rintro e w' ⟨rfl, rfl⟩)
          | (gi_at_call 47; refine (CallsIn.inRound l (callsIn_wide.2 HE.out)).mono ?_; rintro e w' ⟨rfl, d1, rfl⟩))
        have HME := Lib.hid mE
        clear mE
        have hmx : Try.prog.follows .mixedOrders = true := by kernel_rfl
        gi_region_with_o (gi_at_call 29; refine (CallsIn.inRound l (callsIn_wide.2 (HL.out _))).mono ?_; rintro e w' ⟨rfl, d2, rfl⟩)
        all_goals
          gi_wp2_with (gi_at_call 48; refine (CallsIn.inRound l (callsIn_wide.2 (HI.out _))).mono ?_; rintro e w' ⟨rfl, rfl⟩)
          refine MvI.turned (HME.out.trans rfl) HMv.out (GrownBy.set (GrownBy.set ?_ _) _) (IsBlk.put1 (IsBlk.put1 (a := .int .u64 (pl : Nat)) ?_ _) _) hsz5 (by omega) hPlt hm1lt hm2lt hlt1 hlt3
          · exact ⟨rfl, rfl, rfl, Nat.le_refl _, fun _ _ _ => rfl⟩
          · exact h5
    · rw [hem, if_pos rfl] at mE
      rw [hem] at HE
      gi_wp2_with (first
        | (gi_at_call 33; refine (CallsIn.inRound l (callsIn_wide.2 (HS.out _))).mono ?_; rintro e w' ⟨rfl, rfl⟩)
        | (gi_at_call 47; refine (CallsIn.inRound l (callsIn_wide.2 HE.out)).mono ?_; rintro e w' ⟨rfl, d1, rfl⟩))
      exact ⟨⟨Nat.le_refl _, fun _ _ _ h _ => h⟩, ⟨fun g e => ⟨Nat.le_refl _, rfl⟩, rfl⟩, h1, h2, h3, h4, by rw [mE]; exact h5, bel_drewN h6 _, h7⟩

set_option maxHeartbeats 4000000 in
set_option maxRecDepth 100000 in
theorem Moved_gone (n : Nat) (ts : List Nat) (A : Option Addr) (c p : Nat) (w : World) (hlen : ts.length ≤ 1000) (hs : SliceG w A ts) (hv : Valid n ts) (hin : InF n p) (hg : goneB n ts p = true) :
    Calls Try.prog 20 #[.int .u64 n, .slice A ts.length c, .int .u64 p] w (NRet (.tuple #[.int .u64 0, .bool false, .int .i64 0]) w) := by
  have M := Lib.hid fun w hs => asked_yes n ts A c p w hlen hs hv hin
  refine (callsIn_wide (n := 5)).1 ?_
  refine callsIn_of_wp_marks Try.func20 rfl trivial ?_ rfl
  simp only [Try.ntmps20, List.size_toArray, List.length_cons, List.length_nil, Nat.reduceAdd, Nat.reduceSub, Array.replicate_succ, Array.replicate_zero, List.push_toArray, List.append_toArray, List.nil_append, List.cons_append]
  have hF1 : Fence.wide.fn 42 := trivial
  have hF3 : Fence.wide.fn 43 := trivial
  have HG := Lib.hid hg
  clear hg
  gi_wp2_with (first
    | (gi_at_call 42; refine (callsIn_wide.2 (M.out _ hs)).mono ?_; rintro e w1 ⟨P, rfl, h1, h2, h3, h4⟩; have HPA := Lib.hid h1; have HB1 := Lib.hid h4; clear h1 h4 hs)
    | (gi_at_call 43; refine (callsIn_wide.2 (gone_any hv P p _ hin (HPA.out.after ((Below.refl _ w1).alloc (by simp) _)) (by simp; omega))).mono ?_; rintro e w2 ⟨rfl, hb2⟩; rw [HG.out]; have HB2 := Lib.hid hb2; clear hb2)
    | gi_in)
  have hs01 := HB1.out.size
  refine ⟨_, results_tmp3 rfl _ _ _, rfl, ?_⟩
  exact (HB1.out.alloc hs01 _).trans (HB2.out.mono (by simp; omega))

set_option maxHeartbeats 4000000 in
set_option maxRecDepth 100000 in
theorem Moved_no (n : Nat) (ts : List Nat) (A : Option Addr) (c p : Nat) (w : World) (hnu : (n : Int) ≤ 18446744073709551615) (hpu : (p : Int) ≤ 18446744073709551615) (hlen : ts.length ≤ 1000) (hu : ∀ t ∈ ts, (t : Int) ≤ 18446744073709551615) (hs : SliceG w A ts) (hno : ¬ (Valid n ts ∧ InF n p)) :
    Calls Try.prog 20 #[.int .u64 n, .slice A ts.length c, .int .u64 p] w (NRet (.tuple #[.int .u64 0, .bool false, .int .i64 2]) w) := by
  have M := Lib.hid (asked_no n ts A c p w hnu hpu hlen hu hs hno)
  clear hs hu hno
  refine (callsIn_wide (n := 5)).1 ?_
  refine callsIn_of_wp_marks Try.func20 rfl trivial ?_ rfl
  simp only [Try.ntmps20, List.size_toArray, List.length_cons, List.length_nil, Nat.reduceAdd, Nat.reduceSub, Array.replicate_succ, Array.replicate_zero, List.push_toArray, List.append_toArray, List.nil_append, List.cons_append]
  have hF3 : Fence.wide.fn 43 := trivial
  have hF1 : Fence.wide.fn 42 := trivial
  gi_wp2_with (first
    | (gi_at_call 42; refine (callsIn_wide.2 M.out).mono ?_; rintro e w1 ⟨rfl, h4⟩; have HB1 := Lib.hid h4; clear h4)
    | gi_in)
  have hs01 := HB1.out.size
  refine ⟨_, results_tmp3 rfl _ _ _, rfl, ?_⟩
  exact HB1.out.alloc hs01 _
end Go.Proofs.Ytapdhmaeglafjaa
