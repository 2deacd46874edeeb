/- need.made, walked. -/
import Derived.Test.YtnokhajjcjfbpaaMa
namespace Go.Proofs.Ytnokhajjcjfbpaa
open Go.RowKit Go.Shelf
attribute [local go_sem] Oper.semAt_some

set_option maxHeartbeats 4000000 in
set_option maxRecDepth 100000 in
theorem made_walk (n : Nat) (ts : List Nat) (A : Option Addr) (c : Nat) (w : World) (hn : n ≤ 9223372036854775807) (hlen : ts.length ≤ 1000) (hu : ∀ t ∈ ts, (t : Int) ≤ 18446744073709551615) (hs : SliceG w A ts) :
    Calls Try.prog 24 #[.int .u64 n, .slice A ts.length c] w fun e w' => (Valid n ts ∧ MadeYes n ts w e w') ∨ (¬ Valid n ts ∧ MadeNo w e w') := by
  have hmm := @run_makeMap Try.prog
  refine (callsIn_wide (n := 5)).1 ?_
  refine callsIn_of_wp_marks Try.func24 rfl trivial ?_ rfl
  simp only [Try.ntmps24, List.size_toArray, List.length_cons, List.length_nil, Nat.reduceAdd, Nat.reduceSub, Array.replicate_succ, Array.replicate_zero, List.push_toArray, List.append_toArray, List.nil_append, List.cons_append]
  have hF1 : Fence.wide.fn 35 := trivial
  gi_wp2_with (gi_at_call 35; refine (callsIn_wide.2 (rows_yes n _ (by omega))).mono ?_; rintro e w' ⟨rfl, d1, rfl⟩)
  obtain ⟨x, hx⟩ : ∃ x, x = w.heap.size + 1 + 1 + 1 + 1 + 1 := ⟨_, rfl⟩
  obtain ⟨p, hp⟩ : ∃ p, p = w.heap.size + 1 + 1 + 1 + 1 := ⟨_, rfl⟩
  obtain ⟨m2, hm2⟩ : ∃ m2, m2 = w.heap.size + 1 + 1 + 1 := ⟨_, rfl⟩
  obtain ⟨m1, hm1⟩ : ∃ m1, m1 = w.heap.size + 1 + 1 := ⟨_, rfl⟩
  obtain ⟨r5, hr5⟩ : ∃ r5, r5 = w.heap.size + 1 := ⟨_, rfl⟩
  obtain ⟨r4, hr4⟩ : ∃ r4, r4 = w.heap.size := ⟨_, rfl⟩
  refine wpIn_gen (fun w' => MA w n r4 r5 m1 m2 p x w' ∧ NMap w' m1 0 (tgOf []) ∧ NMap w' m2 0 (fun _ => 0)) ⟨⟨?_, ?_, ?_, ?_, ?_⟩, ?_, ?_⟩ ?_
  · rw [hr4]; exact (((((IsBlk.new w _ _).alloc _).alloc _).alloc _).alloc _).alloc _
  · rw [hr5]; exact ((((IsBlk.newAt _ _ (by simp)).alloc _).alloc _).alloc _).alloc _
  · rw [hp, hm1, hm2]; exact (IsBlk.newAt _ _ (by simp)).alloc _
  · rw [hx, hp]; exact IsBlk.newAt _ _ (by simp)
  · exact ((((((Below.refl _ w).alloc (by simp) _).alloc (by simp) _).alloc (by simp; omega) _).alloc (by simp; omega) _).alloc (by simp; omega) _).alloc (by simp; omega) _
  · rw [hm1, tg_nil]
    have := NMap.made ((w.alloc (.cells #[.pointer none] 66)).alloc (.cells #[.int .i64 0] 40))
    simp only [World.size_alloc] at this
    exact ((this.alloc _).alloc _).alloc _
  · rw [hm2]
    have := NMap.made (((w.alloc (.cells #[.pointer none] 66)).alloc (.cells #[.int .i64 0] 40)).alloc (.map #[] 0))
    simp only [World.size_alloc] at this
    exact (this.alloc _).alloc _
  rintro w0 ⟨hM, hN1, hN2⟩
  rw [← hx, ← hp, ← hm2, ← hm1, ← hr5, ← hr4]
  have HX := Lib.hid (show x = w.heap.size + 5 ∧ p = w.heap.size + 4 ∧ m2 = w.heap.size + 3 ∧ m1 = w.heap.size + 2 ∧ r5 = w.heap.size + 1 ∧ r4 = w.heap.size from ⟨by omega, by omega, by omega, by omega, by omega, by omega⟩)
  have n45 : r4 ≠ r5 := by omega
  have n54 : r5 ≠ r4 := by omega
  clear hx hp hm2 hm1 hr5 hr4 hmm
  gi_loopw [31] (fun v wr => ∃ k : Nat, k ≤ ts.length ∧ v = .int .i64 k ∧ MA w n r4 r5 m1 m2 p x wr ∧ NMap wr m1 k (tgOf (ts.take k)) ∧ NMap wr m2 0 (fun _ => 0) ∧ (∀ t ∈ ts.take k, InF n t) ∧ (ts.take k).Nodup) (fun v _ => ts.length - (intOf v).toNat)
  case atStart => exact ⟨0, by omega, rfl, hM, hN1, hN2, by simp, by simp⟩
  case round =>
    obtain ⟨k, hk, rfl, hM, hN1, hN2, hI, hD⟩ := hrel
    by_cases hlt : k < ts.length
    · obtain ⟨g, rfl, hg, hc⟩ := (hs.after hM.bel) k hlt
      have ht : ts[k]? = some ts[k] := List.getElem?_eq_getElem hlt
      have htu := hu _ (List.getElem_mem hlt)
      rw [ht] at hc
      simp only [Option.map_some] at hc
      have HT := Lib.hid ht
      have k0 : (0 : Int) ≤ k := by omega
      have k1 : (k : Int) < ts.length := by omega
      clear ht
      generalize hts : ts[k] = t at *
      clear hts
      have HM := Lib.hid hM; have H1 := Lib.hid hN1; have H2 := Lib.hid hN2; have HI := Lib.hid hI; have HD := Lib.hid hD
      clear hM hN1 hN2 hI hD
      have hF2 : Fence.wide.fn 36 := trivial
      by_cases hin : InF n t
      · have te := fun w => tree_yes n t w hin
        by_cases hm : t ∈ ts.take k
        · have e1 : tgOf (ts.take k) t = 1 := by unfold tgOf; rw [if_pos hm]
          gi_wp2_with (gi_at_call 36; refine (callsIn_wide.2 (te _)).mono ?_; rintro e w3 ⟨rfl, hb3⟩; have hM3 := HM.out.after hb3; have f4 := hM3.c4.free 0; have f5 := hM3.c5.free 0; have c4 := hM3.c4.cell 0; have c5 := hM3.c5.cell 0; have cx := hM3.cx.cell 0; have cp := IsBlk.cell hM3.pl 2; simp at c4 c5 cx cp; have look := (H1.out.after hb3 H1.out.lt).look Try.underlying70 htu; rw [e1] at look; have HM3 := Lib.hid hM3; clear hM3 hb3)
          refine ma_end HM3.out n45 _ _ _ rfl rfl [] (by simp) (by simp) fun w' hs => .inr ⟨?_, rfl, hs.below ((HM3.out.bel.setCell (by have := HX.out; simp; omega) _).setCell (by have := HX.out; simp; omega) _) (by simp)⟩
          rintro ⟨_, _, hnd, _⟩
          have h1 : ts.take (k + 1) = ts.take k ++ [t] := by rw [List.take_add_one, HT.out]; rfl
          have h2 := List.Nodup.sublist (List.take_sublist (k + 1) ts) hnd
          rw [h1, List.nodup_append] at h2
          exact h2.2.2 t hm t (by simp) rfl
        · have e0 : tgOf (ts.take k) t = 0 := by unfold tgOf; rw [if_neg hm]
          gi_wp2_with (first
            | (gi_at_call 36; refine (callsIn_wide.2 (te _)).mono ?_; rintro e w3 ⟨rfl, hb3⟩; have hM3 := HM.out.after hb3; have cx := hM3.cx.cell 0; have cp := IsBlk.cell hM3.pl 2; simp at cx cp; have hN3 := H1.out.after hb3 H1.out.lt; have hN4 := H2.out.after hb3 H2.out.lt; have look := hN3.look Try.underlying70 htu; rw [e0] at look; have HM3 := Lib.hid hM3; have HN3 := Lib.hid hN3; have HN4 := Lib.hid hN4; clear hM3 hN3 hN4 hb3)
            | (gi_at_mapUpdate; refine wpListIn_put_N rfl _ _ _ _ rfl Try.underlying70 m1 k (tgOf (ts.take k)) HN3.out rfl (by simp only [maxLen]; omega) t _ 1 rfl rfl rfl htu (by omega) (by omega) ?_; intro w4 hN5 hg5))
          have hx := HX.out
          refine ⟨⟨k + 1, by omega, by go_num, HM3.out.turned hg5 (by omega) (by omega) (by omega) (by omega) (by omega), ?_, HN4.out.kept hg5 (by simp; omega), ?_, ?_⟩, by simp [intOf]; omega⟩
          · have := hN5
            rwa [tg_next HT.out] at this
          · intro t' ht'
            rw [List.take_add_one, HT.out] at ht'
            rcases List.mem_append.1 ht' with h1 | h1
            · exact HI.out t' h1
            · simp at h1
              subst h1
              exact hin
          · rw [List.take_add_one, HT.out, List.nodup_append]
            exact ⟨HD.out, by simp, fun a ha b hb e => by simp at hb; subst hb; subst e; exact hm ha⟩
      · have te := fun w => tree_no n t w (by omega) htu hin
        gi_wp2_with (gi_at_call 36; refine (callsIn_wide.2 (te _)).mono ?_; rintro e w3 ⟨rfl, hb3⟩; have hM3 := HM.out.after hb3; have f4 := hM3.c4.free 0; have f5 := hM3.c5.free 0; have c4 := hM3.c4.cell 0; have c5 := hM3.c5.cell 0; simp at c4 c5; have HM3 := Lib.hid hM3; clear hM3 hb3)
        refine ma_end HM3.out n45 _ _ _ rfl rfl [] (by simp) (by simp) fun w' hs => .inr ⟨?_, rfl, hs.below ((HM3.out.bel.setCell (by have := HX.out; simp; omega) _).setCell (by have := HX.out; simp; omega) _) (by simp)⟩
        rintro ⟨_, hall, _, _⟩
        exact hin (hall t (List.mem_of_getElem? HT.out))
    · obtain rfl : k = ts.length := by omega
      rw [List.take_length] at hN1 hI hD
      have HM := Lib.hid hM; have H1 := Lib.hid hN1; have H2 := Lib.hid hN2; have HI := Lib.hid hI; have HD := Lib.hid hD
      clear hM hN1 hN2 hI hD
      gi_wp2
      obtain ⟨mk, hmk⟩ : ∃ mk : List Nat → List Deferred, Hid (mk = fun Ds => Ds.map fun D => { target := .collected D, args := #[] }) := ⟨_, rfl⟩
      obtain ⟨I, hI⟩ : ∃ I : Act → World → Prop, Hid (I = fun a' wr => ∃ (k : Nat) (Ds : List Nat) (wy : Nat → Nat) (v14 v63 v64 v65 v66 v67 v68 v96 : Value), k ≤ ts.length ∧ MA w n r4 r5 m1 m2 p x wr ∧ NMap wr m1 1000 (tgOf ts) ∧ NMap wr m2 (65 * k) wy ∧
        (∀ t ∈ ts.take k, ∀ q ∈ wayOf n t, q ≠ t → q ∉ ts) ∧ (∀ y, 0 < wy y ↔ OnWay n (ts.take k) y) ∧ (∀ y, wy y ≤ k) ∧ Ds.Nodup ∧ (∀ D ∈ Ds, w.heap.size ≤ D ∧ wr.heap[D]? = some (.deferred (some []))) ∧
        a' = { tmps := #[.int .u64 n, .slice A ts.length c, undef, undef, .pointer (some ⟨r4, 0, none⟩), .pointer (some ⟨r5, 0, none⟩), .int .i64 (rowsOf n : Nat), .bool true, .pointer (some ⟨x, 0, none⟩), undef, u10, u11, u12, undef, v14, undef, .tuple #[.int .i64 (rowsOf n : Nat), .bool true], .int .u64 n, .tuple #[.int .i64 (rowsOf n : Nat), .bool true], .int .i64 (rowsOf n : Nat), .bool true, .bool true, .bool false, .int .u64 n, .int .i64 (rowsOf n : Nat), .map (some m1), .map (some m2), .agg #[.int .u64 n, .int .i64 (rowsOf n : Nat), .map (some m1), .map (some m2)], .pointer (some ⟨p, 0, none⟩), .slice A ts.length c, .int .i64 (ts.length : Nat), .int .i64 (ts.length : Nat), .bool false, u33, u34, u35, u36, u37, u38, u39, u40, u41, u42, u43, u44, u45, u46, u47, u48, u49, u50, u51, u52, u53, u54, u55, u56, u57, u58, u59, .slice A ts.length c, .int .i64 (ts.length : Nat), .int .i64 (k : Nat), v63, v64, v65, v66, v67, v68, undef, undef, undef, undef, undef, undef, undef, undef, undef, undef, undef, undef, undef, undef, undef, undef, undef, undef, undef, undef, undef, undef, undef, undef, undef, undef, undef, v96, undef], defers := mk Ds }) := ⟨_, rfl⟩
      obtain ⟨mu, hmu⟩ : ∃ mu : Act → World → Nat, Hid (mu = fun a' _ => ts.length - (intOf (a'.tmps.getD 62 undef)).toNat) := ⟨_, rfl⟩
      refine wpIn_loop I mu ?_ ?_
      · rw [hI.out]
        refine ⟨0, [], fun _ => 0, undef, undef, undef, undef, undef, undef, undef, undef, by omega, HM.out, H1.out.mono (by omega), H2.out, by simp, fun y => by simp [OnWay], fun y => by simp, by simp, by simp, ?_⟩
        rw [hmk.out]
        rfl
      · intro a' wy' hIa
        rw [hI.out] at hIa
        clear HM H1 H2
        obtain ⟨k, Ds, wy, v14, v63, v64, v65, v66, v67, v68, v96, hk, hM, hN1, hN2, hV, hW, hC, hDn, hDs, rfl⟩ := hIa
        by_cases hlt : k < ts.length
        · obtain ⟨g, rfl, hg, hc⟩ := (hs.after hM.bel) k hlt
          have ht : ts[k]? = some ts[k] := List.getElem?_eq_getElem hlt
          have htu := hu _ (List.getElem_mem hlt)
          have hin := HI.out _ (List.getElem_mem hlt)
          rw [ht] at hc
          simp only [Option.map_some] at hc
          have HT := Lib.hid ht
          have k0 : (0 : Int) ≤ k := by omega
          have k1 : (k : Int) < ts.length := by omega
          clear ht
          generalize hts : ts[k] = t at *
          clear hts
          have hF2 : Fence.wide.fn 37 := trivial
          gi_wp2_with (gi_at_call 37; refine (callsIn_wide.2 (nup_any n t _ (by omega) htu)).mono ?_; rintro e w3 ⟨bB, bA, bC, rfl, hB1, hB2, hB3, hB4, hB5⟩)
          have b35 : Below wy'.heap.size wy' w3 := ((Below.refl _ wy').alloc (by simp) _).trans (hB5.mono (by simp))
          have bT : IsBlk w3 wy'.heap.size 22 #[.int .u64 t] := (IsBlk.new wy' _ _).after hB5
          have hM3 := hM.after b35
          have hN3 := hN1.after b35 hN1.lt
          have hN4 := hN2.after b35 hN2.lt
          have hD3 : ∀ D ∈ Ds, w.heap.size ≤ D ∧ D < w3.heap.size ∧ w3.heap[D]? = some (.deferred (some [])) := fun D hd => by
            have h1 := (Array.getElem?_eq_some_iff.1 (hDs D hd).2).1
            exact ⟨(hDs D hd).1, by have := b35.size; omega, (b35.block D h1).trans (hDs D hd).2⟩
          obtain ⟨T0, hT0⟩ : ∃ T0, T0 = wy'.heap.size := ⟨_, rfl⟩
          rw [← hT0] at bT ⊢
          have hT1 : w.heap.size ≤ T0 ∧ T0 < w3.heap.size ∧ m1 < T0 ∧ m2 < T0 ∧ r4 < T0 ∧ r5 < T0 := ⟨by rw [hT0]; exact hM.bel.size, bT.lt, by rw [hT0]; exact hN1.lt, by rw [hT0]; exact hN2.lt, by rw [hT0]; exact hM.c4.lt, by rw [hT0]; exact hM.c5.lt⟩
          have hA3 : ∀ g, bA = some ⟨g, 0, none⟩ → T0 < g ∧ g < w3.heap.size := fun g e => by have := hB4 g e; rw [hT0]; simp at this; omega
          have hBs : bB < w3.heap.size := hB2.lt
          clear hB1 hB4 hB5 b35 hDs hM hN1 hN2 hc hg hT0
          have hsz3 := hM3.bel.size
          refine wpIn_range_list (xs := wayOf n t) (gf := 64) (lb := #[.pointer (some ⟨bB, 0, none⟩)]) rfl (by omega) rfl trivial (enters_of Try.func64 (by kernel_rfl) rfl)
            (vals_list (wayOf n t) bA bC _ bB w3 (by omega) (by have := way_short n t; omega) hB2 hB3) (fun r e => e.elim) KpA.trans (KpA.put (fun g e => (hA3 g e).2)) (Below.refl _ _) (fun _ => rfl)
            (fun i W => MA w n r4 r5 m1 m2 p x W ∧ NMap W m1 1000 (tgOf ts) ∧ NMap W m2 (65 * k + i) (wyi wy (wayOf n t) i) ∧ IsBlk W T0 22 #[.int .u64 t] ∧ (∀ D ∈ Ds, W.heap[D]? = some (.deferred (some []))) ∧ w3.heap.size ≤ W.heap.size ∧ (∀ q ∈ (wayOf n t).take i, q ≠ t → q ∉ ts))
            (fun c i W => (∀ D ∈ Ds, W.heap[D]? = some (.deferred (some []))) ∧ w3.heap.size ≤ W.heap.size ∧
              ((c = .ret ∧ (∃ q ∈ wayOf n t, q ≠ t ∧ q ∈ ts) ∧ IsBlk W r4 66 #[.pointer none] ∧ IsBlk W r5 40 #[.int .i64 2] ∧ Below w.heap.size w W) ∨
               (c = .exit 4 ∧ MA w n r4 r5 m1 m2 p x W ∧ NMap W m1 1000 (tgOf ts) ∧ NMap W m2 (65 * k + i) (wyi wy (wayOf n t) i) ∧ (∀ q ∈ (wayOf n t).take i, q ≠ t → q ∉ ts) ∧ ∃ q, (wayOf n t)[i - 1]? = some q ∧ 1 ≤ i ∧ 0 < wy q)))
            ?own ?ownx ?start ?round ?done ?stop
          case own =>
            rintro i W W' row ⟨h1, h2, h3, h4, h5, h6, h7⟩ hg hr
            have := hg.size
            exact ⟨h1.keptC hg hr hsz3, h2.keptC hg hr hN3.lt, h3.keptC hg hr hN4.lt, h4.keptC (Ch := fun _ => False) hg hr id, fun D hd => heap_keptC (h5 D hd) hg hr (hD3 D hd).2.1, by omega, h7⟩
          case ownx =>
            rintro c i W W' row ⟨h5, h6, h7⟩ hg hr
            have := hg.size
            refine ⟨fun D hd => heap_keptC (h5 D hd) hg hr (hD3 D hd).2.1, by omega, ?_⟩
            rcases h7 with ⟨e, h8, h9, h10, h11⟩ | ⟨e, h8, h9, h10, h11⟩
            · exact .inl ⟨e, h8, h9.keptC (Ch := fun _ => False) hg hr id, h10.keptC (Ch := fun _ => False) hg hr id, bel_keptC (Ch := fun _ => False) h11 (by omega) hg hr (fun _ e => e.elim) hsz3⟩
            · exact .inr ⟨e, h8.keptC hg hr hsz3, h9.keptC hg hr hN3.lt, h10.keptC hg hr hN4.lt, h11⟩
          case start => exact ⟨hM3, hN3, hN4.mono (by omega), bT, fun D hd => (hD3 D hd).2.2, Nat.le_refl _, by simp⟩
          case round =>
            rintro l i q W hq -
            gi_wp2
            refine ⟨trivial, ?_⟩
            rintro W2 ⟨h1, h2, h3, h4, h5, h6, h7⟩
            have hqm := List.mem_of_getElem? hq
            have hqu := inF_u64 (in_way hin hqm)
            have hnew := nodup_new (way_nodup n t) hq
            have hi64 : i < 64 := by have := (List.getElem?_eq_some_iff.1 hq).1; have := way_short n t; omega
            have cx := h1.cx.cell 0
            have cp2 := IsBlk.cell h1.pl 2
            have cp3 := IsBlk.cell h1.pl 3
            have cT := h4.cell 0
            simp at cx cp2 cp3 cT
            have look1 := h2.look Try.underlying70 (x := q) (by omega)
            have look2 := h3.look Try.underlying70 (x := q) (by omega)
            rw [wyi_at hnew] at look2
            have HQ := Lib.hid hq
            have G1 := Lib.hid h1; have G2 := Lib.hid h2; have G3 := Lib.hid h3; have G4 := Lib.hid h4; have G5 := Lib.hid h5; have G7 := Lib.hid h7; have GW := Lib.hid hnew
            clear h1 h2 h3 h4 h5 h7 hq hnew
            by_cases hqt : q = t
            · subst hqt
              clear cT
              have cT := G4.out.cell 0
              simp at cT
              rcases Nat.eq_zero_or_pos (wy q) with hz | hz
              · rw [hz] at look2
                gi_wp2_with (gi_at_mapUpdate; refine wpListIn_put_N rfl _ _ _ _ rfl Try.underlying70 m2 (65 * k + i) (wyi wy (wayOf n q) i) G3.out rfl (by simp only [maxLen]; omega) q _ (wy q + 1) rfl rfl (by rw [hz]; rfl) (by omega) (by omega) (by omega) ?_; intro w5 hN5 hg5; have hM5 := G1.out.turned hg5 (by have := HX.out; omega) (by have := HX.out; omega) (by have := HX.out; omega) (by have := HX.out; omega) (by have := HX.out; omega); have cx5 := hM5.cx.cell 0; have cp5 := IsBlk.cell hM5.pl 3; simp at cx5 cp5; have look3 := hN5.look Try.underlying70 (x := q) (by omega); rw [show upd (wyi wy (wayOf n q) i) q (wy q + 1) q = 1 from by simp [upd]; try omega] at look3; have F5 := Lib.hid hM5; have FN := Lib.hid hN5; have FG := Lib.hid hg5; clear hM5 hN5 hg5)
                have hx := HX.out
                have kf : KeepsFrom w3.heap.size W2 w5 := KeepsFrom.of_grownBy FG.out (fun j e => by cases e; exact hN4.lt)
                have ka : KpA bA W2 w5 := fun g' e => ⟨FG.out.size, FG.out.block g' (by have := (hA3 g' e).2; omega) (by have := (hA3 g' e).1; simp; omega)⟩
                have nn := FN.out
                rw [wyi_next HQ.out GW.out] at nn
                refine ⟨kf, ka, F5.out, G2.out.kept FG.out (by simp; omega), nn, (FG.out.block T0 (G4.out.lt) (by simp; omega)).trans G4.out, fun D hd => (FG.out.block D (by have := (hD3 D hd).2.1; omega) (fun e => by
                  have hd0 := G5.out D hd
                  have hm2 := G3.out
                  obtain ⟨DD, ⟨es, clock, hb, _⟩, _⟩ := hm2
                  injection e with e
                  rw [e, hb] at hd0
                  cases hd0)).trans (G5.out D hd), by have := FG.out.size; omega, ?_⟩
                intro q' hq'
                rw [List.take_add_one, HQ.out] at hq'
                rcases List.mem_append.1 hq' with h | h
                · exact G7.out q' h
                · simp at h
                  rw [h]
                  exact fun hne => absurd rfl hne
              · obtain ⟨m, hm⟩ : ∃ m, wy q = m + 1 := ⟨wy q - 1, by omega⟩
                have hmk : (m : Int) ≤ 1000 := by have := hC q; omega
                rw [hm] at look2
                gi_wp2_with (gi_at_mapUpdate; refine wpListIn_put_N rfl _ _ _ _ rfl Try.underlying70 m2 (65 * k + i) (wyi wy (wayOf n q) i) G3.out rfl (by simp only [maxLen]; omega) q _ (wy q + 1) rfl rfl (by omega) (by omega) (by omega) (by omega) ?_; intro w5 hN5 hg5; have hM5 := G1.out.turned hg5 (by have := HX.out; omega) (by have := HX.out; omega) (by have := HX.out; omega) (by have := HX.out; omega) (by have := HX.out; omega); have cx5 := hM5.cx.cell 0; have cp5 := IsBlk.cell hM5.pl 3; simp at cx5 cp5; have look3 := hN5.look Try.underlying70 (x := q) (by omega); rw [show upd (wyi wy (wayOf n q) i) q (wy q + 1) q = m + 2 from by simp [upd]; try omega] at look3; have F5 := Lib.hid hM5; have FN := Lib.hid hN5; have FG := Lib.hid hg5; clear hM5 hN5 hg5)
                have hx := HX.out
                have kf : KeepsFrom w3.heap.size W2 w5 := KeepsFrom.of_grownBy FG.out (fun j e => by cases e; exact hN4.lt)
                have ka : KpA bA W2 w5 := fun g' e => ⟨FG.out.size, FG.out.block g' (by have := (hA3 g' e).2; omega) (by have := (hA3 g' e).1; simp; omega)⟩
                have nn := FN.out
                rw [wyi_next HQ.out GW.out] at nn
                refine ⟨kf, fun D hd => (FG.out.block D (by have := (hD3 D hd).2.1; omega) (fun e => by
                  have hd0 := G5.out D hd
                  have hm2 := G3.out
                  obtain ⟨DD, ⟨es, clock, hb, _⟩, _⟩ := hm2
                  injection e with e
                  rw [e, hb] at hd0
                  cases hd0)).trans (G5.out D hd), by have := FG.out.size; omega, .inr ⟨rfl, F5.out, G2.out.kept FG.out (by simp; omega), nn, ?_, q, HQ.out, by omega, by omega⟩⟩
                intro q' hq'
                rw [List.take_add_one, HQ.out] at hq'
                rcases List.mem_append.1 hq' with h | h
                · exact G7.out q' h
                · simp at h
                  rw [h]
                  exact fun hne => absurd rfl hne
            · have hqi : ¬ (q : Int) = t := by omega
              by_cases hqs : q ∈ ts
              · rw [show tgOf ts q = 1 from by unfold tgOf; rw [if_pos hqs]] at look1
                have f4 := G1.out.c4.free 0; have f5 := G1.out.c5.free 0; have c4 := G1.out.c4.cell 0; have c5 := G1.out.c5.cell 0
                simp at c4 c5
                gi_wp2
                have st := G1.out.stored n45 (.pointer none) (.int .i64 2)
                have ko := ((KeepsOthers.setCell W2 ⟨r4, 0, none⟩ (.pointer none)).trans (KeepsOthers.setCell _ ⟨r5, 0, none⟩ (.int .i64 2)))
                refine ⟨ko.from _, fun D hd => ko.same D _ (G5.out D hd) rfl, by have := ko.size; omega, .inl ⟨rfl, ⟨q, hqm, hqt, hqs⟩, st.1, st.2, (G1.out.bel.setCell (by have := HX.out; simp; omega) _).setCell (by have := HX.out; simp; omega) _⟩⟩
              · rw [show tgOf ts q = 0 from by unfold tgOf; rw [if_neg hqs]] at look1
                rcases Nat.eq_zero_or_pos (wy q) with hz | hz
                · rw [hz] at look2
                  gi_wp2_with (gi_at_mapUpdate; refine wpListIn_put_N rfl _ _ _ _ rfl Try.underlying70 m2 (65 * k + i) (wyi wy (wayOf n t) i) G3.out rfl (by simp only [maxLen]; omega) q _ (wy q + 1) rfl rfl (by rw [hz]; rfl) (by omega) (by omega) (by omega) ?_; intro w5 hN5 hg5; have hM5 := G1.out.turned hg5 (by have := HX.out; omega) (by have := HX.out; omega) (by have := HX.out; omega) (by have := HX.out; omega) (by have := HX.out; omega); have cx5 := hM5.cx.cell 0; have cp5 := IsBlk.cell hM5.pl 3; simp at cx5 cp5; have look3 := hN5.look Try.underlying70 (x := q) (by omega); rw [show upd (wyi wy (wayOf n t) i) q (wy q + 1) q = 1 from by simp [upd]; try omega] at look3; have F5 := Lib.hid hM5; have FN := Lib.hid hN5; have FG := Lib.hid hg5; clear hM5 hN5 hg5)
                  have hx := HX.out
                  have kf : KeepsFrom w3.heap.size W2 w5 := KeepsFrom.of_grownBy FG.out (fun j e => by cases e; exact hN4.lt)
                  have ka : KpA bA W2 w5 := fun g' e => ⟨FG.out.size, FG.out.block g' (by have := (hA3 g' e).2; omega) (by have := (hA3 g' e).1; simp; omega)⟩
                  have nn := FN.out
                  rw [wyi_next HQ.out GW.out] at nn
                  refine ⟨kf, ka, F5.out, G2.out.kept FG.out (by simp; omega), nn, (FG.out.block T0 (G4.out.lt) (by simp; omega)).trans G4.out, fun D hd => (FG.out.block D (by have := (hD3 D hd).2.1; omega) (fun e => by
                    have hd0 := G5.out D hd
                    have hm2 := G3.out
                    obtain ⟨DD, ⟨es, clock, hb, _⟩, _⟩ := hm2
                    injection e with e
                    rw [e, hb] at hd0
                    cases hd0)).trans (G5.out D hd), by have := FG.out.size; omega, ?_⟩
                  intro q' hq'
                  rw [List.take_add_one, HQ.out] at hq'
                  rcases List.mem_append.1 hq' with h | h
                  · exact G7.out q' h
                  · simp at h
                    rw [h]
                    exact fun _ => hqs
                · obtain ⟨m, hm⟩ : ∃ m, wy q = m + 1 := ⟨wy q - 1, by omega⟩
                  have hmk : (m : Int) ≤ 1000 := by have := hC q; omega
                  rw [hm] at look2
                  gi_wp2_with (gi_at_mapUpdate; refine wpListIn_put_N rfl _ _ _ _ rfl Try.underlying70 m2 (65 * k + i) (wyi wy (wayOf n t) i) G3.out rfl (by simp only [maxLen]; omega) q _ (wy q + 1) rfl rfl (by omega) (by omega) (by omega) (by omega) ?_; intro w5 hN5 hg5; have hM5 := G1.out.turned hg5 (by have := HX.out; omega) (by have := HX.out; omega) (by have := HX.out; omega) (by have := HX.out; omega) (by have := HX.out; omega); have cx5 := hM5.cx.cell 0; have cp5 := IsBlk.cell hM5.pl 3; simp at cx5 cp5; have look3 := hN5.look Try.underlying70 (x := q) (by omega); rw [show upd (wyi wy (wayOf n t) i) q (wy q + 1) q = m + 2 from by simp [upd]; try omega] at look3; have F5 := Lib.hid hM5; have FN := Lib.hid hN5; have FG := Lib.hid hg5; clear hM5 hN5 hg5)
                  have hx := HX.out
                  have kf : KeepsFrom w3.heap.size W2 w5 := KeepsFrom.of_grownBy FG.out (fun j e => by cases e; exact hN4.lt)
                  have ka : KpA bA W2 w5 := fun g' e => ⟨FG.out.size, FG.out.block g' (by have := (hA3 g' e).2; omega) (by have := (hA3 g' e).1; simp; omega)⟩
                  have nn := FN.out
                  rw [wyi_next HQ.out GW.out] at nn
                  refine ⟨kf, fun D hd => (FG.out.block D (by have := (hD3 D hd).2.1; omega) (fun e => by
                    have hd0 := G5.out D hd
                    have hm2 := G3.out
                    obtain ⟨DD, ⟨es, clock, hb, _⟩, _⟩ := hm2
                    injection e with e
                    rw [e, hb] at hd0
                    cases hd0)).trans (G5.out D hd), by have := FG.out.size; omega, .inr ⟨rfl, F5.out, G2.out.kept FG.out (by simp; omega), nn, ?_, q, HQ.out, by omega, by omega⟩⟩
                  intro q' hq'
                  rw [List.take_add_one, HQ.out] at hq'
                  rcases List.mem_append.1 hq' with h | h
                  · exact G7.out q' h
                  · simp at h
                    rw [h]
                    exact fun _ => hqs
          case done =>
            rintro D W hD ⟨h1, h2, h3, h4, h5, h6, h7⟩ hK
            rw [List.take_length] at h7
            gi_wp2
            have hws := way_short n t
            have h63 : (k : Int) + 1 ≤ 1000 := by omega
            have mkc : ({ target := .collected D, args := #[] } :: mk Ds : List Deferred) = mk (D :: Ds) := by rw [hmk.out]; rfl
            rw [mkc]
            refine ⟨?_, ?_⟩
            · rw [hI.out]
              refine ⟨k + 1, D :: Ds, wyi wy (wayOf n t) (wayOf n t).length, _, _, _, _, _, _, _, _, by omega, h1, h2, h3.mono (by omega), ?_, fun y => ?_, fun y => ?_, ?_, ?_, rfl⟩
              · intro t' ht' q hq
                rw [List.take_add_one, HT.out] at ht'
                rcases List.mem_append.1 ht' with h | h
                · exact hV t' h q hq
                · simp at h
                  subst h
                  exact h7 q hq
              · rw [onway_next HT.out, ← hW y]
                unfold wyi
                rw [List.take_length]
                by_cases hy : y ∈ wayOf n t <;> simp [hy]
              · have := hC y
                unfold wyi
                split <;> omega
              · exact List.nodup_cons.2 ⟨fun hm => by have := (hD3 D hm).2.1; omega, hDn⟩
              · intro E hE
                rcases List.mem_cons.1 hE with rfl | h
                · exact ⟨by omega, hK⟩
                · exact ⟨(hD3 E h).1, h5 E h⟩
            · rw [hmu.out]
              simp [intOf]
              omega
          case stop =>
            rintro D c i W hD hi ⟨h5, h6, h7⟩ hK
            rcases h7 with ⟨rfl, h8, h9, h10, h11⟩ | ⟨rfl, h8, h9, h10, h11, q, hq, hi1, hwq⟩
            · gi_wp2
              rw [hmk.out]
              refine ma_fin h9 h10 _ rfl rfl (D :: Ds) ?_ (List.nodup_cons.2 ⟨fun hm => by have := (hD3 D hm).2.1; omega, hDn⟩) fun w' hs => .inr ⟨?_, rfl, hs.below h11 ?_⟩
              · intro E hE
                rcases List.mem_cons.1 hE with rfl | h
                · exact hK
                · exact h5 E h
              · rintro ⟨_, _, _, hv⟩
                obtain ⟨q, q1, q2, q3⟩ := h8
                exact hv t (List.mem_of_getElem? HT.out) q q1 q2 q3
              · intro E hE
                rcases List.mem_cons.1 hE with rfl | h
                · omega
                · exact (hD3 E h).1
            · gi_wp2
              have hws := way_short n t
              have rest := fun y => brk_rest (y := y) hin (fun t ht => HI.out t ht) hV hi1 hq ((hW q).1 hwq)
              have mkc : ({ target := .collected D, args := #[] } :: mk Ds : List Deferred) = mk (D :: Ds) := by rw [hmk.out]; rfl
              rw [mkc]
              refine ⟨?_, ?_⟩
              · rw [hI.out]
                refine ⟨k + 1, D :: Ds, wyi wy (wayOf n t) i, _, _, _, _, _, _, _, _, by omega, h8, h9, h10.mono (by omega), ?_, fun y => ?_, fun y => ?_, ?_, ?_, rfl⟩
                · intro t' ht' q' hq'
                  rw [List.take_add_one, HT.out] at ht'
                  rcases List.mem_append.1 ht' with h | h
                  · exact hV t' h q' hq'
                  · simp at h
                    subst h
                    intro hne
                    by_cases hm : q' ∈ (wayOf n t').take i
                    · exact h11 q' hm hne
                    · exact (rest q' hq' hm).2
                · rw [onway_next HT.out, ← hW y]
                  unfold wyi
                  by_cases hm : y ∈ (wayOf n t).take i
                  · have := List.mem_of_mem_take hm
                    simp [hm, this]
                  · rw [if_neg hm]
                    constructor
                    · intro h; exact .inl (by omega)
                    · rintro (h | h)
                      · omega
                      · have := (hW y).2 (rest y h hm).1
                        omega
                · have := hC y
                  unfold wyi
                  split <;> omega
                · exact List.nodup_cons.2 ⟨fun hm => by have := (hD3 D hm).2.1; omega, hDn⟩
                · intro E hE
                  rcases List.mem_cons.1 hE with rfl | h
                  · exact ⟨by omega, hK⟩
                  · exact ⟨(hD3 E h).1, h5 E h⟩
              · rw [hmu.out]
                simp [intOf]
                omega
        · obtain rfl : k = ts.length := by omega
          have cx := hM.cx.cell 0
          have f4 := hM.c4.free 0; have f5 := hM.c5.free 0; have c4 := hM.c4.cell 0; have c5 := hM.c5.cell 0
          simp at cx c4 c5
          rw [List.take_length] at hV hW
          gi_wp2
          rw [hmk.out]
          have hx := HX.out
          refine ma_end hM n45 _ _ _ rfl rfl Ds (fun D hd => (hDs D hd).2) hDn fun w' hs => .inl ⟨⟨hn, HI.out, HD.out, hV⟩, p, m1, m2, 1000, 65 * ts.length, wy, rfl, ?_, ?_, ?_, by omega, by omega, hW, by omega, by omega, by omega, hs.below ((hM.bel.setCell (by simp; omega) _).setCell (by simp; omega) _) fun D hd => (hDs D hd).1⟩
          · have h1 : IsBlk ((wy'.setCell ⟨r4, 0, none⟩ (.pointer (some ⟨p, 0, none⟩))).setCell ⟨r5, 0, none⟩ (.int .i64 0)) p 72 #[.int .u64 n, .int .i64 (rowsOf n : Nat), .map (some m1), .map (some m2)] := (IsBlk.far hM.pl (by simp; omega) _).far (by simp; omega) _
            exact (hs.block p (fun hm => IsBlk.notMark hM.pl (hDs p hm).2 rfl)).trans h1
          · exact ((hN1.setCell (by simp; omega) _).setCell (by simp; omega) _).same (hs.block m1 (fun hm => hN1.notMark (hDs m1 hm).2 rfl))
          · exact ((hN2.setCell (by simp; omega) _).setCell (by simp; omega) _).same (hs.block m2 (fun hm => hN2.notMark (hDs m2 hm).2 rfl))
end Go.Proofs.Ytnokhajjcjfbpaa
