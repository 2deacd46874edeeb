/- pos.Way. -/
import Derived.Test.YtnokhajjcjfbpaaPosWa
import Derived.Test.YtnokhajjcjfbpaaPosTr
namespace Go.Proofs.Ytnokhajjcjfbpaa
open Go.RowKit Go.Shelf
attribute [local go_sem] Oper.semAt_some

def ints (l : List Nat) : List Int := l.map fun (x : Nat) => (x : Int)
theorem ints_len (l : List Nat) : (ints l).length = l.length := by simp [ints]
theorem u64_info : (Try.prog.info? 22).map (fun i => (i.zero, i.size, i.bytes)) = some (some (.int .u64 0), 1, 8) := by kernel_rfl

set_option maxHeartbeats 2000000 in
set_option maxRecDepth 100000 in
theorem way_case (n p : Nat) (w : World) (hn : n ≤ 9223372036854775807) (hp : p + 1 < 2 ^ (rowsOf n + 1)) : Calls Try.prog 48 #[.int .u64 n, .int .u64 p] w (ListRet .u64 22 (ints (wayOf n p)) w) := by
  obtain ⟨i0, hi, hz0, hz1, hz2⟩ := info_parts u64_info
  have hR := rows_le (n := n) (by omega)
  refine (callsIn_wide (n := 3)).1 ?_
  refine callsIn_of_wp_marks Try.func48 rfl trivial ?_ rfl
  simp only [Try.ntmps48, List.size_toArray, List.length_cons, List.length_nil, Nat.reduceAdd, Nat.reduceSub, Array.replicate_succ, Array.replicate_zero, List.push_toArray, List.append_toArray, List.nil_append, List.cons_append]
  have hF1 : Fence.wide.fn 35 := trivial
  have hF2 : Fence.wide.fn 49 := trivial
  have hF3 : Fence.wide.fn 61 := trivial
  gi_wp2_with (first
    | (gi_at_call 35; refine (callsIn_wide.2 (rows_yes n _ (by omega))).mono ?_; rintro e w' ⟨rfl, d1, rfl⟩)
    | (gi_at_call 49; refine (callsIn_wide.2 (row_yes p (rowsOf n) _ hR hp)).mono ?_; rintro e w' ⟨rfl, d2, rfl⟩)
    | (gi_at_call 61; refine (callsIn_wide.2 (up_any p (rowsOf n) _)).mono ?_; rintro e w' ⟨rfl, rfl⟩))
  obtain ⟨W0, hW0⟩ : ∃ W0, W0 = (((((w.alloc (.cells #[.int .u64 n] 22)).alloc (.cells #[.slice none 0 0] 24)).alloc (.cells #[.int .i64 (rowOf p (rowsOf n) : Nat)] 3)).alloc (.cells #[.int .u64 p] 22)).alloc (.cells #[.int .i64 (rowsOf n : Nat)] 3)) := ⟨_, rfl⟩
  have hsz : W0.heap.size = w.heap.size + 5 := by rw [hW0]; simp
  have b0 : IsBlk W0 w.heap.size 22 #[.int .u64 n] := by rw [hW0]; exact (((((IsBlk.new w _ _).alloc _).alloc _).alloc _).alloc _)
  have b1 : IsBlk W0 (w.heap.size + 1) 24 #[.slice none 0 0] := by rw [hW0]; exact ((((IsBlk.newAt _ _ (by simp)).alloc _).alloc _).alloc _)
  have b2 : IsBlk W0 (w.heap.size + 1 + 1) 3 #[.int .i64 (rowOf p (rowsOf n) : Nat)] := by rw [hW0]; exact (((IsBlk.newAt _ _ (by simp)).alloc _).alloc _)
  have b3 : IsBlk W0 (w.heap.size + 3) 22 #[.int .u64 p] := by rw [hW0]; exact ((IsBlk.newAt _ _ (by simp)).alloc _)
  have b4 : IsBlk W0 (w.heap.size + 3 + 1) 3 #[.int .i64 (rowsOf n : Nat)] := by rw [hW0]; exact (IsBlk.newAt _ _ (by simp))
  have hb0 : Below w.heap.size w W0 := by
    rw [hW0]
    exact (((((Below.refl _ w).alloc (by simp) _).alloc (by simp) _).alloc (by simp; omega) _).alloc (by simp; omega) _).alloc (by simp; omega) _
  rw [← hW0]
  clear hW0
  have hr0 := (rowOf_spec hp).1
  refine wpIn_range_list (xs := ups p (rowsOf n) (rowsOf n - rowOf p (rowsOf n) + 1)) (gf := 70) (lb := #[.pointer (some ⟨w.heap.size + 3, 0, none⟩), .pointer (some ⟨w.heap.size + 3 + 1, 0, none⟩)]) rfl (by omega) rfl trivial (enters_of Try.func70 (by kernel_rfl) rfl)
    (up_list p (rowsOf n) _ (w.heap.size + 3) W0 (by omega) hR hp b3 b4) (fun r e => by subst e; omega) Kp2.trans (Kp2.put (by omega)) (Below.refl _ _) (fun _ => rfl)
    (fun k W => k ≤ rowsOf n - rowOf p (rowsOf n) + 1 ∧ (∀ j, j < k → ¬ WayAt n p j) ∧ ∃ A c, IsBlk W w.heap.size 22 #[.int .u64 n] ∧ IsBlk W (w.heap.size + 1) 24 #[.slice A k c] ∧ IsBlk W (w.heap.size + 1 + 1) 3 #[.int .i64 (rowOf p (rowsOf n) + k : Nat)] ∧ W.ownsRow (w.heap.size + 5) 22 1 (.slice A k c) k ((ints (ups p (rowsOf n) k)).map (Value.int .u64)) ∧ Below w.heap.size w W ∧ w.heap.size + 5 ≤ W.heap.size)
    (fun c k W => c = .ret ∧ 1 ≤ k ∧ k ≤ rowsOf n - rowOf p (rowsOf n) + 1 ∧ WayAt n p (k - 1) ∧ ∃ A c, IsBlk W (w.heap.size + 1) 24 #[.slice A k c] ∧ W.ownsRow (w.heap.size + 5) 22 1 (.slice A k c) k ((ints (ups p (rowsOf n) k)).map (Value.int .u64)) ∧ Below w.heap.size w W ∧ w.heap.size + 5 ≤ W.heap.size)
    ?own ?ownx ?start ?round ?done ?stop
  case own =>
    rintro k W W' row ⟨h1, h2, A, c, h3, h4, h5, h6, h7, h8⟩ hg hr
    have := hg.size
    exact ⟨h1, h2, A, c, h3.keptC hg hr (by omega), h4.keptC hg hr (by omega), h5.keptC hg hr (by omega), own_keptC h6 hg hr (fun r e => by omega), bel_keptC h7 (by omega) hg hr (fun r e => by omega) (by omega), by omega⟩
  case ownx =>
    rintro c k W W' row ⟨e, h1, h2, hw, A, c, h4, h6, h7, h8⟩ hg hr
    have := hg.size
    exact ⟨e, h1, h2, hw, A, c, h4.keptC hg hr (by omega), own_keptC h6 hg hr (fun r e => by omega), bel_keptC h7 (by omega) hg hr (fun r e => by omega) (by omega), by omega⟩
  case start => exact ⟨by omega, fun j hj => by omega, none, 0, b0, b1, b2, ⟨rfl, .inl ⟨rfl, rfl⟩⟩, hb0, by omega⟩
  case round =>
    rintro l k x W hx -
    have hk : k < rowsOf n - rowOf p (rowsOf n) + 1 := by
      have := (List.getElem?_eq_some_iff.1 hx).1
      rwa [ups_len] at this
    obtain rfl : anc p (rowsOf n) k = x := by
      unfold ups at hx
      rw [List.getElem?_map, List.getElem?_range hk] at hx
      simpa using hx
    gi_wp2
    refine ⟨trivial, ?_⟩
    rintro W2 ⟨_, hno, A, c, h0, h1, h2, hown, hbel, hs2⟩
    have c0 := h0.cell 0
    have c1 := h1.cell 0
    have c2 := h2.cell 0
    simp at c0 c1 c2
    have f2 := h2.free 0
    have a1 := anc_spec hp k (by omega)
    have hF4 : Fence.wide.fn 38 := trivial
    have hX := Lib.hid hp
    have hN := Lib.hid hno
    have ex : (ints (ups p (rowsOf n) k)).map (Value.int .u64) ++ [.int .u64 (anc p (rowsOf n) k : Nat)] = (ints (ups p (rowsOf n) (k + 1))).map (Value.int .u64) := by
      rw [ups_succ]; simp [ints]
    have EX := Lib.hid ex
    clear ex hno
    obtain ⟨q, t, hR4, hqt⟩ : ∃ (q : Nat) (t : Bool), (∀ W, CallsIn Fence.wide 0 Try.prog 38 #[.int .u64 n, .int .i64 ((rowOf p (rowsOf n) : Int) + (k : Int))] W (QRet (.tuple #[.int .u64 q, .bool t]) W)) ∧ ((t = true ∧ q = anc p (rowsOf n) k) ↔ WayAt n p k) := by
      by_cases hbit : n / 2 ^ (rowOf p (rowsOf n) + k) % 2 = 1
      · refine ⟨rootOf n (rowOf p (rowsOf n) + k), true, fun W => ?_, by simpa using wayAt_iff hn hp (by omega) hbit⟩
        have := root_yes n (rowOf p (rowsOf n) + k) W (by omega) hbit
        rw [Int.natCast_add] at this
        exact callsIn_wide.2 this
      · refine ⟨0, false, fun W => ?_, ⟨fun h => (by cases h.1), fun h => absurd h.1 hbit⟩⟩
        refine callsIn_wide.2 (root_no n _ W (by omega) ?_)
        rintro ⟨_, _, h3⟩
        rw [← Int.natCast_add, Int.toNat_natCast] at h3
        exact hbit h3
    have hle : (rowOf p (rowsOf n) : Int) + (k : Int) ≤ 63 := by omega
    have HQ := Lib.hid hqt
    have H0 := Lib.hid h0
    have H1 := Lib.hid h1
    have H2 := Lib.hid h2
    have HB := Lib.hid hbel
    have A1 := Lib.hid a1
    have HK := Lib.hid hk
    clear hqt h0 h1 h2 hbel a1 hk b0 b1 b2 b3 b4 hb0 hp hx
    obtain ⟨y, hy⟩ : ∃ y, y = anc p (rowsOf n) k := ⟨_, rfl⟩
    rw [← hy] at EX HQ ⊢
    have HY := Lib.hid hy
    clear hy
    gi_wp2_with (first
      | (gi_at_builtin; refine wpListIn_append_own _ rfl _ _ 24 rfl (w.heap.size + 5) 22 i0 (.int .u64 0) 1 8 Try.underlying24 hi hz0 hz1 hz2 rfl (by decide) _ _ _ rfl (hown.alloc _) ⟨W2.heap.size, 0, none⟩ 1 1 [.int .u64 (y : Nat)] rfl rfl (cell_one_new _ _ _) (by simp [Value.oneCell']) (by simp only [maxLen]; omega) (by omega) (by simp; omega) ?_; intro v' w1 hown' hgrow _; obtain ⟨g', cap', rfl⟩ := ownsRow_succ hown'; have bel1 : Below (w.heap.size + 5) W2 w1 := bel_append (Below.refl _ _) hs2 hown hgrow; have kp1 : KeepsOthers W2 w1 := keeps_append hown hgrow; have k0 := H0.out.below bel1 (by omega); have k1 := H1.out.below bel1 (by omega); have k2 := H2.out.below bel1 (by omega); have e0 := k0.cell 0; have e1 := k1.cell 0; have e2 := k2.cell 0; have e3 := k1.free 0; have e4 := k2.free 0; simp at e0 e1 e2; have HBel := Lib.hid bel1; have HOwn := Lib.hid hown'; clear bel1 hown' hgrow hown)
      | (gi_at_call 38; refine (CallsIn.inRound l (hR4 _)).mono ?_; rintro e w' ⟨rfl, d4, rfl⟩))
    · rename_i ht hqy
      have hqy' : q = y := by
        have : (q : Int) = y := by simpa using hqy
        omega
      have hw := HQ.out.1 ⟨ht, hqy'⟩
      obtain ⟨V, hV⟩ : ∃ V, V = (w1.setCell ⟨w.heap.size + 1, 0, none⟩ (.slice (some ⟨g', 0, none⟩) (k + 1) cap')).drewN d4 := ⟨_, rfl⟩
      rw [← hV]
      have j0 : IsBlk V w.heap.size 22 #[.int .u64 n] := by rw [hV]; exact k0.far (by simp) _
      have j1 : IsBlk V (w.heap.size + 1) 24 #[.slice (some ⟨g', 0, none⟩) (k + 1) cap'] := by rw [hV]; exact k1.put 0 _
      have j2 : IsBlk V (w.heap.size + 1 + 1) 3 #[.int .i64 (rowOf p (rowsOf n) + k : Nat)] := by rw [hV]; exact k2.far (by simp) _
      have o1 : V.ownsRow (w.heap.size + 5) 22 1 (.slice (some ⟨g', 0, none⟩) (k + 1) cap') (k + 1) ((ints (ups p (rowsOf n) (k + 1))).map (Value.int .u64)) := by
        rw [hV, ← EX.out]
        exact ownsRow_setCell_below HOwn.out (by simp) _
      have hs5 := HBel.out.size
      have l1 : Below w.heap.size w V := by rw [hV]; exact bel_drewN ((HB.out.trans (HBel.out.mono (by omega))).setCell (by simp) _) d4
      have m1 : Kp2 (w.heap.size + 3) W2 V := by
        rw [hV]
        intro r hr
        exact (Below.heap_setCell w1 ⟨w.heap.size + 1, 0, none⟩ _ r (by simp; omega)).trans (HBel.out.block r (by omega))
      have n0 := kp1.trans (KeepsOthers.setCell w1 ⟨w.heap.size + 1, 0, none⟩ (.slice (some ⟨g', 0, none⟩) (k + 1) cap'))
      have n1 : KeepsOthers W2 V := by rw [hV]; exact ⟨n0.size, n0.same⟩
      clear n0
      have s1 : w.heap.size + 5 ≤ V.heap.size := by have := n1.size; omega
      clear hV kp1 k0 k1 k2 e0 e1 e2 e3 e4 HBel HOwn
      have hk := HK.out
      refine ⟨(n1.trans (KeepsOthers.setCell _ _ _)).from _, rfl, by omega, by omega, by simpa using hw, _, _, j1.put 0 _, ownsRow_setCell_below o1 (by simp) _, l1.setCell (by simp) _, ?_⟩
      have := (KeepsOthers.setCell V ⟨w.heap.size + 1, 0, none⟩ (.slice (some ⟨g', 0, none⟩) (k + 1) cap')).size
      omega
    · rename_i ht hqy
      have hw : ¬ WayAt n p k := fun h => by
        have := HQ.out.2 h
        simp_all
      obtain ⟨V, hV⟩ : ∃ V, V = (w1.setCell ⟨w.heap.size + 1, 0, none⟩ (.slice (some ⟨g', 0, none⟩) (k + 1) cap')).drewN d4 := ⟨_, rfl⟩
      rw [← hV]
      have j0 : IsBlk V w.heap.size 22 #[.int .u64 n] := by rw [hV]; exact k0.far (by simp) _
      have j1 : IsBlk V (w.heap.size + 1) 24 #[.slice (some ⟨g', 0, none⟩) (k + 1) cap'] := by rw [hV]; exact k1.put 0 _
      have j2 : IsBlk V (w.heap.size + 1 + 1) 3 #[.int .i64 (rowOf p (rowsOf n) + k : Nat)] := by rw [hV]; exact k2.far (by simp) _
      have o1 : V.ownsRow (w.heap.size + 5) 22 1 (.slice (some ⟨g', 0, none⟩) (k + 1) cap') (k + 1) ((ints (ups p (rowsOf n) (k + 1))).map (Value.int .u64)) := by
        rw [hV, ← EX.out]
        exact ownsRow_setCell_below HOwn.out (by simp) _
      have hs5 := HBel.out.size
      have l1 : Below w.heap.size w V := by rw [hV]; exact bel_drewN ((HB.out.trans (HBel.out.mono (by omega))).setCell (by simp) _) d4
      have m1 : Kp2 (w.heap.size + 3) W2 V := by
        rw [hV]
        intro r hr
        exact (Below.heap_setCell w1 ⟨w.heap.size + 1, 0, none⟩ _ r (by simp; omega)).trans (HBel.out.block r (by omega))
      have n0 := kp1.trans (KeepsOthers.setCell w1 ⟨w.heap.size + 1, 0, none⟩ (.slice (some ⟨g', 0, none⟩) (k + 1) cap'))
      have n1 : KeepsOthers W2 V := by rw [hV]; exact ⟨n0.size, n0.same⟩
      clear n0
      have s1 : w.heap.size + 5 ≤ V.heap.size := by have := n1.size; omega
      clear hV kp1 k0 k1 k2 e0 e1 e2 e3 e4 HBel HOwn
      have hk := HK.out
      refine ⟨(n1.trans (KeepsOthers.setCell _ _ _)).from _, fun r hr => (Below.heap_setCell V ⟨w.heap.size + 1 + 1, 0, none⟩ _ r (by simp; omega)).trans (m1 r hr), by omega, ?_, _, _, j0.far (by simp; omega) _, j1.far (by simp) _, ?_, ownsRow_setCell_below o1 (by simp) _, l1.setCell (by simp; omega) _, ?_⟩
      · intro j hj
        by_cases e : j = k
        · rw [e]; exact hw
        · exact hN.out j (by omega)
      · have := j2.put 0 (.int .i64 ((rowOf p (rowsOf n) : Int) + k + 1))
        rw [show (rowOf p (rowsOf n) : Int) + k + 1 = ((rowOf p (rowsOf n) + (k + 1) : Nat) : Int) from by omega] at this ⊢
        exact this
      · have := (KeepsOthers.setCell V ⟨w.heap.size + 1 + 1, 0, none⟩ (.int .i64 ((rowOf p (rowsOf n) : Int) + k + 1))).size
        omega
    · rename_i ht
      have hw : ¬ WayAt n p k := fun h => by
        have := HQ.out.2 h
        simp_all
      obtain ⟨V, hV⟩ : ∃ V, V = (w1.setCell ⟨w.heap.size + 1, 0, none⟩ (.slice (some ⟨g', 0, none⟩) (k + 1) cap')).drewN d4 := ⟨_, rfl⟩
      rw [← hV]
      have j0 : IsBlk V w.heap.size 22 #[.int .u64 n] := by rw [hV]; exact k0.far (by simp) _
      have j1 : IsBlk V (w.heap.size + 1) 24 #[.slice (some ⟨g', 0, none⟩) (k + 1) cap'] := by rw [hV]; exact k1.put 0 _
      have j2 : IsBlk V (w.heap.size + 1 + 1) 3 #[.int .i64 (rowOf p (rowsOf n) + k : Nat)] := by rw [hV]; exact k2.far (by simp) _
      have o1 : V.ownsRow (w.heap.size + 5) 22 1 (.slice (some ⟨g', 0, none⟩) (k + 1) cap') (k + 1) ((ints (ups p (rowsOf n) (k + 1))).map (Value.int .u64)) := by
        rw [hV, ← EX.out]
        exact ownsRow_setCell_below HOwn.out (by simp) _
      have hs5 := HBel.out.size
      have l1 : Below w.heap.size w V := by rw [hV]; exact bel_drewN ((HB.out.trans (HBel.out.mono (by omega))).setCell (by simp) _) d4
      have m1 : Kp2 (w.heap.size + 3) W2 V := by
        rw [hV]
        intro r hr
        exact (Below.heap_setCell w1 ⟨w.heap.size + 1, 0, none⟩ _ r (by simp; omega)).trans (HBel.out.block r (by omega))
      have n0 := kp1.trans (KeepsOthers.setCell w1 ⟨w.heap.size + 1, 0, none⟩ (.slice (some ⟨g', 0, none⟩) (k + 1) cap'))
      have n1 : KeepsOthers W2 V := by rw [hV]; exact ⟨n0.size, n0.same⟩
      clear n0
      have s1 : w.heap.size + 5 ≤ V.heap.size := by have := n1.size; omega
      clear hV kp1 k0 k1 k2 e0 e1 e2 e3 e4 HBel HOwn
      have hk := HK.out
      refine ⟨(n1.trans (KeepsOthers.setCell _ _ _)).from _, fun r hr => (Below.heap_setCell V ⟨w.heap.size + 1 + 1, 0, none⟩ _ r (by simp; omega)).trans (m1 r hr), by omega, ?_, _, _, j0.far (by simp; omega) _, j1.far (by simp) _, ?_, ownsRow_setCell_below o1 (by simp) _, l1.setCell (by simp; omega) _, ?_⟩
      · intro j hj
        by_cases e : j = k
        · rw [e]; exact hw
        · exact hN.out j (by omega)
      · have := j2.put 0 (.int .i64 ((rowOf p (rowsOf n) : Int) + k + 1))
        rw [show (rowOf p (rowsOf n) : Int) + k + 1 = ((rowOf p (rowsOf n) + (k + 1) : Nat) : Int) from by omega] at this ⊢
        exact this
      · have := (KeepsOthers.setCell V ⟨w.heap.size + 1 + 1, 0, none⟩ (.int .i64 ((rowOf p (rowsOf n) : Int) + k + 1))).size
        omega
  case done =>
    rintro D W hD ⟨_, hno, A, c, h0, h1, h2, hown, hbel, hs2⟩ hK
    have c1 := h1.cell 0
    have f1 := h1.free 0
    simp at c1
    have hK1 := (KeepsOthers.setCell W ⟨w.heap.size + 1, 0, none⟩ (.slice none 0 0)).same D _ hK rfl
    gi_wp2
    refine ⟨by simp, .inl ⟨_, _, rfl, run_takeDeferred hK1, ?_⟩⟩
    have hsz1 := (KeepsOthers.setCell W ⟨w.heap.size + 1, 0, none⟩ (.slice none 0 0)).size
    have g1 : IsBlk ((W.setCell ⟨w.heap.size + 1, 0, none⟩ (.slice none 0 0)).putObj D (.deferred none)) (w.heap.size + 1) 24 #[.slice none 0 0] := (World.putObj_heap_other (by omega)).trans (h1.put 0 _)
    have ew : wayOf n p = [] := by
      refine way_out fun h => ?_
      obtain ⟨k, hk⟩ := (inF_iff hn hp).1 h
      have := wayAt_le hn hk
      rw [ups_len] at hno
      exact hno k (by omega) hk
    rw [ew]
    refine ⟨.slice none 0 0, results_cell_one rfl Try.isAgg24 _ _ (w.heap.size + 1) _ rfl (g1.cell 0), none, 0, rfl, ⟨rfl, .inl ⟨rfl, rfl⟩⟩, ?_⟩
    · exact (hbel.setCell (by simp) _).grown (grownBy_putObj' _ D _) (by omega) (fun k e => by cases e; omega)
  case stop =>
    rintro D c k W hD hk ⟨rfl, h1, h2, hw, A, c, h4, h6, h7, h8⟩ hK
    have c1 := h4.cell 0
    have f1 := h4.free 0
    simp at c1
    gi_wp2
    refine ⟨by simp, .inl ⟨_, _, rfl, run_takeDeferred hK, ?_⟩⟩
    have g1 : IsBlk (W.putObj D (.deferred none)) (w.heap.size + 1) 24 #[.slice A k c] := (World.putObj_heap_other (by omega)).trans h4
    have hin := (inF_iff hn hp).2 ⟨_, hw⟩
    have ek : wayOf n p = ups p (rowsOf n) k := by
      rw [way_in hin, topK_eq hn hw, show k - 1 + 1 = k from by omega]
      rfl
    have el : (ints (wayOf n p)).length = k := by rw [ints_len, ek, ups_len]
    refine ⟨.slice A k c, results_cell_one rfl Try.isAgg24 _ _ (w.heap.size + 1) _ rfl (g1.cell 0), A, c, ?_, ?_, ?_⟩
    · rw [el]
    · rw [el, ek]
      exact own_low (ownsRow_putObj h6 _ hK rfl) (by omega)
    · exact h7.grown (grownBy_putObj' _ D _) (by omega) (fun k e => by cases e; omega)

set_option maxHeartbeats 1000000 in
theorem way_else (n p : Nat) (w : World) (hnu : (n : Int) ≤ 18446744073709551615) (hpu : (p : Int) ≤ 18446744073709551615) (h : ¬ (n ≤ 9223372036854775807 ∧ p + 1 < 2 ^ (rowsOf n + 1))) : Calls Try.prog 48 #[.int .u64 n, .int .u64 p] w (ListRet .u64 22 [] w) := by
  by_cases hn : n ≤ 9223372036854775807
  · have hp : ¬ PosOk p (rowsOf n : Nat) := fun hc => h ⟨hn, by
      have := hc.2.2
      rwa [Int.toNat_natCast] at this⟩
    go_enter Try.func48, Try.ntmps48
    go_wp2_with (first
      | (go_at_call 35; refine (rows_yes n _ (by omega)).mono ?_; rintro e w' ⟨rfl, d1, rfl⟩)
      | (go_at_call 49; refine (row_no p (rowsOf n : Nat) _ hpu hp).mono ?_; rintro e w' ⟨rfl, d2, rfl⟩))
    refine bodyPost_ret (results_cell_one rfl Try.isAgg24 _ _ (w.heap.size + 1) (.slice none 0 0) rfl ?_) rfl ?_
    · have b1 : IsBlk ((w.alloc (.cells #[.int .u64 n] 22)).alloc (.cells #[.slice none 0 0] 24)) (w.heap.size + 1) 24 #[.slice none 0 0] := IsBlk.newAt _ _ (by simp)
      exact (b1.alloc _).cell 0
    · exact ⟨none, 0, rfl, ⟨rfl, .inl ⟨rfl, rfl⟩⟩, (((Below.refl _ w).alloc (by simp) _).alloc (by simp) _).alloc (by simp; omega) _⟩
  · have hr0 : ¬ (n : Int) ≤ 9223372036854775807 := by omega
    by_cases hp : p + 1 < 2 ^ (0 + 1)
    · have ry := fun w => row_yes p 0 w (by omega) hp
      simp only [Int.natCast_zero] at ry
      go_enter Try.func48, Try.ntmps48
      go_wp2_with (first
        | (go_at_call 35; refine (rows_no n _ hr0).mono ?_; rintro e w' ⟨rfl, d1, rfl⟩)
        | (go_at_call 49; refine (ry _).mono ?_; rintro e w' ⟨rfl, d2, rfl⟩))
      refine bodyPost_ret (results_cell_one rfl Try.isAgg24 _ _ (w.heap.size + 1) (.slice none 0 0) rfl ?_) rfl ?_
      · have b1 : IsBlk ((w.alloc (.cells #[.int .u64 n] 22)).alloc (.cells #[.slice none 0 0] 24)) (w.heap.size + 1) 24 #[.slice none 0 0] := IsBlk.newAt _ _ (by simp)
        exact (b1.alloc _).cell 0
      · exact ⟨none, 0, rfl, ⟨rfl, .inl ⟨rfl, rfl⟩⟩, (((Below.refl _ w).alloc (by simp) _).alloc (by simp) _).alloc (by simp; omega) _⟩
    · have hq : ¬ PosOk p (0 : Int) := fun hc => hp hc.2.2
      go_enter Try.func48, Try.ntmps48
      go_wp2_with (first
        | (go_at_call 35; refine (rows_no n _ hr0).mono ?_; rintro e w' ⟨rfl, d1, rfl⟩)
        | (go_at_call 49; refine (row_no p 0 _ hpu hq).mono ?_; rintro e w' ⟨rfl, d2, rfl⟩))
      refine bodyPost_ret (results_cell_one rfl Try.isAgg24 _ _ (w.heap.size + 1) (.slice none 0 0) rfl ?_) rfl ?_
      · have b1 : IsBlk ((w.alloc (.cells #[.int .u64 n] 22)).alloc (.cells #[.slice none 0 0] 24)) (w.heap.size + 1) 24 #[.slice none 0 0] := IsBlk.newAt _ _ (by simp)
        exact (b1.alloc _).cell 0
      · exact ⟨none, 0, rfl, ⟨rfl, .inl ⟨rfl, rfl⟩⟩, (((Below.refl _ w).alloc (by simp) _).alloc (by simp) _).alloc (by simp; omega) _⟩

/-- pos.Way, of any numbers. -/
theorem way_any (n p : Nat) (w : World) (hnu : (n : Int) ≤ 18446744073709551615) (hpu : (p : Int) ≤ 18446744073709551615) : Calls Try.prog 48 #[.int .u64 n, .int .u64 p] w (ListRet .u64 22 (ints (wayOf n p)) w) := by
  by_cases h : n ≤ 9223372036854775807 ∧ p + 1 < 2 ^ (rowsOf n + 1)
  · exact way_case n p w h.1 h.2
  · rw [way_out (fun hc => h ⟨hc.1, hc.2.1⟩)]
    exact way_else n p w hnu hpu h
end Go.Proofs.Ytnokhajjcjfbpaa
