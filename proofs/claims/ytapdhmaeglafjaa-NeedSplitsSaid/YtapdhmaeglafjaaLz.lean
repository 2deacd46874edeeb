/- Rs, Ls in one (merge.py): a claim holds at most 60 files. -/
import Derived.Test.YtapdhmaeglafjaaSp
import Derived.Test.YtapdhmaeglafjaaRn
import Derived.Test.YtapdhmaeglafjaaIu
import Derived.Test.YtapdhmaeglafjaaNi
/- The document's Split. -/
namespace Go.Proofs.Ytapdhmaeglafjaa
open Go.RowKit Go.Shelf

theorem rpart_info : (Try.prog.info? 63).map (fun i => (i.zero, i.size, i.bytes)) = some (some (.agg #[.int .i64 0, .slice none 0 0]), 2, 32) := by kernel_rfl
/-- A list of numbers lies apart from a row of parts. -/
theorem slice_far {W W' : World} {base c : Nat} {e : TypeId} {A Al : Option Addr} {Q : List (Nat × Option Addr × Nat × List Nat)} {l : List Nat} (hs : SliceAt W Al l) (hl : l ≠ []) (hown : W.ownsRow base e 2 (.slice A Q.length c) Q.length (qcells Q)) (hQ : Q = [] → A = none)
    (hg : W.grownBy W' (Value.slice A Q.length c).ownBlock) : SliceAt W' Al l := fun k hk => by
  have h0 := hs 0 (List.length_pos_iff.2 hl)
  obtain ⟨g, e1, h1, h2⟩ := hs k hk
  obtain ⟨g', e2, _, h3⟩ := h0
  rw [e1] at e2
  cases e2
  have hne : some g ≠ (Value.slice A Q.length c).ownBlock := fun he => by
    cases Q with
    | nil =>
      rw [hQ rfl] at he
      cases he
    | cons q Q =>
      rcases hown.2 with ⟨hv, h4⟩ | ⟨r, cap, cur, hv, _⟩
      · cases h4
      · injection hv with hA hb hc
        subst hA
        have : g = r := by simpa [Value.ownBlock] using he
        subst this
        subst hc
        have h5 := hown.cellAt 0 (by simp)
        rw [h3] at h5
        obtain ⟨x, l', rfl⟩ := List.exists_cons_of_ne_nil hl
        cases h5
  exact ⟨g, e1, by have := hg.size; omega, (cell_same (p := ⟨g, k, none⟩) (hg.block g h1 hne)).trans h2⟩
/-- A slice that came before lies apart from the row. -/
theorem old_far {W W' : World} {base c n : Nat} {size : Nat} {e : TypeId} {A Al : Option Addr} {l : List Nat} {xs : List Value} (hs : SliceG W Al l) (hown : W.ownsRow base e size (.slice A n c) n xs) (hb : ∀ ad, Al = some ad → ad.block < base) (hg : W.grownBy W' (Value.slice A n c).ownBlock) : SliceG W' Al l := fun k hk => by
  obtain ⟨ad, e1, h1, h2⟩ := hs k hk
  have hne : some ad.block ≠ (Value.slice A n c).ownBlock := fun he => by have := (hown.lt _ he.symm).1; have := hb ad e1; omega
  exact ⟨ad, e1, by have := hg.size; omega, (cell_same (p := ad.add k) (by rw [← add_block]; exact hg.block ad.block h1 hne)).trans h2⟩
theorem oldI_far {W W' : World} {base c n : Nat} {size : Nat} {e : TypeId} {A Al : Option Addr} {l : List Nat} {xs : List Value} (hs : SliceI W Al l) (hown : W.ownsRow base e size (.slice A n c) n xs) (hb : ∀ g, Al = some ⟨g, 0, none⟩ → g < base) (hg : W.grownBy W' (Value.slice A n c).ownBlock) : SliceI W' Al l := fun k hk => by
  obtain ⟨g, e1, h1, h2⟩ := hs k hk
  have hne : some g ≠ (Value.slice A n c).ownBlock := fun he => by have := (hown.lt _ he.symm).1; have := hb g e1; omega
  exact ⟨g, e1, by have := hg.size; omega, (cell_same (p := ⟨g, k, none⟩) (hg.block g h1 hne)).trans h2⟩

/-- The parts of the first trees. -/
def splitTo (n : Nat) (ts : List Nat) (i : Nat) : List (Nat × List Nat) := (((treesN n).take i).filter fun h => riseF n ts h != []).map fun h => (h, riseF n ts h)
theorem splitTo_all (n : Nat) (ts : List Nat) : splitTo n ts (treesN n).length = splitF n ts := by unfold splitTo splitF; rw [List.take_length]
theorem splitTo_next {n i h : Nat} {ts : List Nat} (hi : (treesN n)[i]? = some h) : splitTo n ts (i + 1) = splitTo n ts i ++ if riseF n ts h = [] then [] else [(h, riseF n ts h)] := by
  unfold splitTo
  rw [List.take_add_one, hi, List.filter_append, List.map_append]
  congr 1
  by_cases e : riseF n ts h = []
  · rw [if_pos e]; simp [e]
  · rw [if_neg e]; simp [e]

set_option maxHeartbeats 4000000 in
set_option maxRecDepth 100000 in
theorem refSplit_yes (n : Nat) (ts : List Nat) (A : Option Addr) (c : Nat) (w : World) (hlen : ts.length ≤ 1000) (hs : SliceG w A ts) (hv : Valid n ts) :
    Calls Try.prog 31 #[.int .u64 n, .slice A ts.length c] w (SplitOK (splitF n ts) w) := by
  have hu := valid_u64 hv
  have hn := hv.1
  have CK := Lib.hid (refCheck_any n ts A c w hlen hu hs)
  have TS := Lib.hid fun w => refTrees_yes n w (by omega)
  have hA0 : 0 < ts.length → ∀ ad, A = some ad → ad.block < w.heap.size := fun h0 ad e => by
    obtain ⟨ad', e', h1, _⟩ := hs 0 h0
    rw [e] at e'
    cases e'
    exact h1
  go_enter Try.func31, Try.ntmps31
  go_wp2_with fail
  refine CK.out.mono ?_
  rintro e w1 ⟨v, hvv, rfl, hb1⟩
  obtain rfl : v = 0 := by
    rcases hvv with h | h
    · exact h.2
    · exact absurd hv h.1
  have HB1 := Lib.hid hb1
  have HS1 := Lib.hid (SliceG.after hs hb1)
  clear hvv hb1 hs
  go_wp2_with fail
  refine (TS.out _).mono ?_
  rintro e w2 ⟨A8, c8, rfl, hown8, hb2⟩
  rw [← treesN_ints] at hown8 ⊢
  have hT := SliceI.of_own hown8 (by rw [ints_len])
  have hA8 : ∀ g, A8 = some ⟨g, 0, none⟩ → g < w2.heap.size := fun g e => by
    subst e
    exact (hown8.lt g rfl).2
  have HT := Lib.hid hT
  have HB2 := Lib.hid (HB1.out.trans (hb2.mono HB1.out.size))
  have HS2 := Lib.hid (SliceG.after HS1.out hb2)
  have hz2 := HB2.out.size
  rw [ints_len]
  clear hown8 hb2 hT CK TS
  have hT := HT.out
  have hs2 := HS2.out
  have htl := treesN_len n
  go_wp2_with fail
  go_loopw [7, 9, 10, 11, 12, 13] (fun v7 v9 _ _ _ _ wr => ∃ (i : Nat) (Av : Option Addr) (cv : Nat) (Q : List (Nat × Option Addr × Nat × List Nat)), i ≤ (treesN n).length ∧ v9 = .int .i64 i ∧ v7 = .slice Av Q.length cv ∧ wr.ownsRow w2.heap.size 63 2 (.slice Av Q.length cv) Q.length (qcells Q) ∧ (Q = [] → Av = none) ∧ qs Q = splitTo n ts i ∧ Q.length ≤ i ∧ (∀ q ∈ Q, q.2.2.2 ≠ [] ∧ SliceAt wr q.2.1 q.2.2.2) ∧ SliceI wr A8 (treesN n) ∧ SliceG wr A ts ∧ Below w.heap.size w wr ∧ w2.heap.size ≤ wr.heap.size) (fun _ v9 _ _ _ _ _ => (treesN n).length - (intOf v9).toNat)
  case atStart => exact ⟨0, none, 0, [], by omega, rfl, rfl, ⟨rfl, .inl ⟨rfl, rfl⟩⟩, fun _ => rfl, rfl, by simp, fun q hq => (by cases hq), hT, hs2, HB2.out, Nat.le_refl _⟩
  case round =>
    obtain ⟨i, Av, cv, Q, hi, rfl, rfl, hown, hQ, hqs, hQl, hls, hTr, hsr, hbel, hsz⟩ := hrel
    clear hT hs2
    by_cases hlt : i < (treesN n).length
    · obtain ⟨g8, rfl, hg8, hc8⟩ := hTr i hlt
      have hx : (treesN n)[i]? = some (treesN n)[i] := List.getElem?_eq_getElem hlt
      rw [hx] at hc8
      simp only [Option.map_some] at hc8
      have NX := Lib.hid (splitTo_next (ts := ts) hx)
      have hh : (treesN n)[i] ≤ 63 := by
        have := (treesN_mem hn).1 (List.mem_of_getElem? hx)
        rcases Nat.lt_or_ge (treesN n)[i] 64 with h1 | h1
        · omega
        · have e0 : n / 2 ^ (treesN n)[i] = 0 := Nat.div_eq_of_lt (Nat.lt_of_lt_of_le (by omega : n < 2 ^ 64) (Nat.pow_le_pow_right (by omega) h1))
          rw [e0] at this
          cases this
      clear hx
      generalize (treesN n)[i] = h at *
      have i1 : (i : Int) < (treesN n).length := by omega
      have HOW := Lib.hid hown; have HQ := Lib.hid hQ; have HQS := Lib.hid hqs; have HLS := Lib.hid hls; have HTR := Lib.hid hTr; have HSR := Lib.hid hsr; have HBE := Lib.hid hbel
      have CT := Lib.hid (show ∀ W, Below wr.heap.size wr W → g8 < W.heap.size ∧ W.cell? ⟨g8, i, none⟩ = some (.int .i64 (h : Nat)) from fun W hb => ⟨by have := hb.size; omega, (hb.cell (p := ⟨g8, i, none⟩) hg8).trans hc8⟩)
      clear hown hQ hqs hls hTr hsr hbel hc8
      generalize wr = W0 at *
      go_wp2_with fail
      go_loopw [10, 11, 12, 13] (fun v10 v11 _ _ wr => ∃ (k : Nat) (l : List Nat) (Al : Option Addr) (cl : Nat), k ≤ ts.length ∧ v11 = .int .i64 k ∧ v10 = .slice Al l.length cl ∧ l.Pairwise (fun a b => a < b) ∧ (∀ x, x ∈ l ↔ x ∈ ts.take k ∧ treeOf n x = h) ∧ l.length ≤ k ∧ ListV wr Al cl l ∧ Below W0.heap.size W0 wr) (fun _ v11 _ _ _ => ts.length - (intOf v11).toNat)
      case atStart => exact ⟨0, [], none, 0, by omega, rfl, rfl, List.Pairwise.nil, fun x => by simp, by simp, ⟨fun k hk => by simp at hk, by simp, fun _ => rfl, fun ad e => (by cases e)⟩, Below.refl _ _⟩
      case round =>
        obtain ⟨k, l, Al, cl, hk, rfl, rfl, hup, hmem, hll, hL, hbel⟩ := hrel
        by_cases hkl : k < ts.length
        · obtain ⟨ga, rfl, hga, hca⟩ := (SliceG.after HSR.out hbel) k hkl
          have hx : ts[k]? = some ts[k] := List.getElem?_eq_getElem hkl
          rw [hx] at hca
          simp only [Option.map_some] at hca
          have htm := List.mem_of_getElem? hx
          have htu := hu _ htm
          have hin := hv.2.1 _ htm
          have HX := Lib.hid hx
          clear hx htm
          generalize ts[k] = t at *
          have k1 : (k : Int) < ts.length := by omega
          have TR := Lib.hid fun w => refTree_yes n t w hin
          have HL := Lib.hid hL; have HM := Lib.hid hmem; have HU := Lib.hid hup; have HBL := Lib.hid hbel
          have CA := Lib.hid (show ∀ W, Below wr.heap.size wr W → ga.block < W.heap.size ∧ W.cell? (ga.add k) = some (.int .u64 (t : Nat)) from fun W hb => ⟨by have := hb.size; omega, (hb.cell (p := ga.add k) (add_block ga k ▸ hga)).trans hca⟩)
          have hte : (treeOf n t = h) ∨ (treeOf n t ≠ h) := by omega
          have MEM := Lib.hid (show ∀ x, x ∈ ts.take (k + 1) ∧ treeOf n x = h ↔ (x ∈ ts.take k ∧ treeOf n x = h) ∨ (x = t ∧ treeOf n t = h) from fun x => by
            rw [List.take_add_one, HX.out, List.mem_append]
            simp only [Option.toList_some, List.mem_singleton]
            constructor
            · rintro ⟨h1 | h1, h2⟩
              · exact .inl ⟨h1, h2⟩
              · subst h1; exact .inr ⟨rfl, h2⟩
            · rintro (⟨h1, h2⟩ | ⟨rfl, h2⟩)
              · exact ⟨.inl h1, h2⟩
              · exact ⟨.inr rfl, h2⟩)
          clear hL hmem hup hbel
          go_wp2_with fail
          refine (TR.out _).mono ?_
          rintro e w3 ⟨rfl, hb3⟩
          have hb03 := HBL.out.trans (hb3.mono HBL.out.size)
          obtain ⟨q1, q2⟩ := CT.out _ hb03
          obtain ⟨q3, q4⟩ := CA.out _ hb3
          have HL3 := Lib.hid (HL.out.after hb3)
          have HB3 := Lib.hid hb03
          clear hb3 hb03 hca hga
          rcases hte with hte | hte
          · have ht2 : ((treeOf n t : Int) == h) = true := by rw [beq_iff_eq]; omega
            have HTE := Lib.hid hte
            clear hte
            have AD := Lib.hid (add_list l Al cl t w3 (by omega) HL3.out HU.out)
            go_wp2_with fail
            refine AD.out.mono ?_
            rintro e w4 ⟨L, A4, c4, hA, rfl, hL4, hb4⟩
            have HA := Lib.hid hA; have HL4 := Lib.hid hL4; have HB4 := Lib.hid (HB3.out.trans (hb4.mono HB3.out.size))
            clear hA hL4 hb4
            go_wp2_with fail
            refine ⟨⟨k + 1, L, A4, c4, by omega, by go_num, rfl, HA.out.up, fun x => ?_, by have := HA.out.len; omega, HL4.out, HB4.out⟩, by simp [intOf]; omega⟩
            rw [HA.out.mem, HM.out, MEM.out]
            exact ⟨fun h => h.imp id fun e => ⟨e, HTE.out⟩, fun h => h.imp id fun e => e.1⟩
          · have ht2 : ((treeOf n t : Int) == h) = false := by rw [beq_eq_false_iff_ne]; omega
            have HTE := Lib.hid hte
            clear hte
            go_wp2_with fail
            refine ⟨⟨k + 1, l, Al, cl, by omega, by go_num, rfl, HU.out, fun x => ?_, by omega, HL3.out, HB3.out⟩, by simp [intOf]; omega⟩
            rw [HM.out, MEM.out]
            exact ⟨.inl, fun h => h.elim id fun e => absurd e.2 HTE.out⟩
        · obtain rfl : k = ts.length := by omega
          rw [List.take_length] at hmem
          have hr : l = riseF n ts h := isRise_one ⟨hup, hmem⟩ (riseF_is hv.2.2.1)
          subst hr
          have HL := Lib.hid hL; have HBL := Lib.hid hbel
          clear hL hbel hup hmem
          obtain ⟨q1, q2⟩ := CT.out _ HBL.out
          have hbe := HBE.out.trans (HBL.out.mono HBE.out.size)
          have HSRr := Lib.hid (SliceG.after HSR.out HBL.out)
          have HTRr := Lib.hid (HTR.out.after HBL.out)
          have HOWr := Lib.hid (row_after HOW.out HBL.out)
          have HLSr := Lib.hid (show ∀ q ∈ Q, q.2.2.2 ≠ [] ∧ SliceAt wr q.2.1 q.2.2.2 from fun q hq => ⟨(HLS.out q hq).1, (HLS.out q hq).2.after HBL.out⟩)
          have hszr : w2.heap.size ≤ wr.heap.size := by have := HBL.out.size; omega
          have HBEr := Lib.hid hbe
          clear hbe HBE HSR HTR HOW HLS
          by_cases he : riseF n ts h = []
          · have hl0 : (riseF n ts h).length = 0 := by rw [he]; rfl
            have NX2 := Lib.hid NX.out
            rw [if_pos he, List.append_nil] at NX2
            rw [hl0]
            clear he hll hl0
            go_wp2_with fail
            exact ⟨⟨i + 1, Av, cv, Q, by omega, by go_num, rfl, HOWr.out, HQ.out, HQS.out.trans NX2.out.symm, by omega, HLSr.out, HTRr.out, HSRr.out, HBEr.out, hszr⟩, by simp [intOf]; omega⟩
          · have hlp : 0 < (riseF n ts h).length := List.length_pos_iff.2 he
            have hlp2 : (0 : Int) < (riseF n ts h).length := by omega
            have NX2 := Lib.hid NX.out
            rw [if_neg he] at NX2
            have HE := Lib.hid he
            have hts : 0 < ts.length := by
              obtain ⟨t, l, e⟩ := List.exists_cons_of_ne_nil he
              have hm := ((riseF_is (n := n) (h := h) hv.2.2.1).2 t).1 (by rw [e]; exact List.mem_cons_self)
              exact List.length_pos_of_mem hm.1
            have hQl2 : Q.length ≤ 63 := by omega
            clear he
            obtain ⟨ip, hip, hp0, hp1, hp2⟩ := info_parts rpart_info
            go_wp2_with (at_builtin; refine wpList_append_own_at _ rfl _ _ 58 rfl w2.heap.size 63 ip (.agg #[.int .i64 0, .slice none 0 0]) 2 32 Try.underlying58 hip hp0 hp1 hp2 rfl (by decide) (.slice Av Q.length cv) Q.length (qcells Q) rfl (HOWr.out.alloc _) ⟨wr.heap.size, 0, none⟩ 1 1 [.int .i64 h, .slice Al (riseF n ts h).length cl] rfl rfl (cell_two_at wr _ _ _) (by simp [Value.oneCell']) (by simp only [maxLen]; omega) (by omega) (by simp; omega) ?_; intro v' V1 hown' hgrow hnil hloc; obtain ⟨A', c', rfl⟩ := shape_of hown'; have HO' := Lib.hid hown'; have HG' := Lib.hid hgrow; clear hown' hgrow hnil hloc hip hp0 hp1 hp2)
            have hal : Below wr.heap.size wr (wr.alloc (.cells #[.int .i64 h, .slice Al (riseF n ts h).length cl] 63)) := (Below.refl _ wr).alloc (Nat.le_refl _) _
            have hoa := HOWr.out.alloc (.cells #[.int .i64 h, .slice Al (riseF n ts h).length cl] 63)
            have hbV : Below w.heap.size w V1 := (HBEr.out.alloc HBEr.out.size _).grown HG'.out (by have := HBEr.out.size; simp; omega) (fun r e => by have := (hoa.lt r e).1; omega)
            have eq1 : qcells (Q ++ [(h, Al, cl, riseF n ts h)]) = qcells Q ++ [.int .i64 h, .slice Al (riseF n ts h).length cl] := by simp [qcells]
            have eq2 : (Q ++ [(h, Al, cl, riseF n ts h)]).length = Q.length + 1 := by simp
            have eq3 : qs (Q ++ [(h, Al, cl, riseF n ts h)]) = qs Q ++ [(h, riseF n ts h)] := by simp [qs]
            refine ⟨⟨i + 1, A', c', Q ++ [(h, Al, cl, riseF n ts h)], by omega, by go_num, by rw [eq2], by rw [eq1, eq2]; exact HO'.out, fun e => by simp at e, by rw [eq3, HQS.out, NX2.out], by omega, fun q hq => ?_, oldI_far (HTRr.out.after hal) hoa hA8 HG'.out, ?_, hbV, ?_⟩, by simp [intOf]; omega⟩
            · rcases List.mem_append.1 hq with hq | hq
              · exact ⟨(HLSr.out q hq).1, slice_far ((HLSr.out q hq).2.after hal) (HLSr.out q hq).1 hoa HQ.out HG'.out⟩
              · simp only [List.mem_singleton] at hq
                subst hq
                exact ⟨HE.out, slice_far (HL.out.at'.after hal) HE.out hoa HQ.out HG'.out⟩
            · exact old_far (SliceG.after HSRr.out hal) hoa (fun ad e => Nat.lt_of_lt_of_le (hA0 hts ad e) hz2) HG'.out
            · have := HG'.out.size
              simp at this
              omega
    · obtain rfl : i = (treesN n).length := by omega
      have HOW := Lib.hid hown
      have hP : Parts wr Av (splitF n ts) := by
        rw [← splitTo_all, ← hqs]
        exact Parts.of_own hown rfl fun q hq => (hls q hq).2
      have hPl : Q.length = (splitF n ts).length := by
        rw [← splitTo_all, ← hqs]
        simp [qs]
      have HP := Lib.hid hP
      have HBE := Lib.hid hbel
      clear hP hown hQ hqs hls hTr hsr hbel
      rw [hPl]
      go_wp2_with fail
      go_ret2
      exact ⟨Av, cv, rfl, HP.out, HBE.out⟩

theorem refSplit_no (n : Nat) (ts : List Nat) (A : Option Addr) (c : Nat) (w : World) (hlen : ts.length ≤ 1000) (hu : ∀ t ∈ ts, (t : Int) ≤ 18446744073709551615) (hs : SliceG w A ts) (hv : ¬ Valid n ts) :
    Calls Try.prog 31 #[.int .u64 n, .slice A ts.length c] w (RefErr w) := by
  have CK := Lib.hid (refCheck_any n ts A c w hlen hu hs)
  go_enter Try.func31, Try.ntmps31
  go_wp2_with fail
  refine CK.out.mono ?_
  rintro e w1 ⟨v, hvv, rfl, hb1⟩
  obtain rfl : v = 2 := by
    rcases hvv with h | h
    · exact absurd h.1 hv
    · exact h.2
  have HB1 := Lib.hid hb1
  clear hvv hb1
  go_wp2_with fail
  go_ret2
  exact ⟨rfl, HB1.out⟩
end Go.Proofs.Ytapdhmaeglafjaa
/- NeedSplits. -/
namespace Go.Proofs.Ytapdhmaeglafjaa
open Go.RowKit Go.Shelf

theorem split_short {n h k : Nat} {ts l : List Nat} (hd : ts.Nodup) (hk : (splitF n ts)[k]? = some (h, l)) : l.length ≤ ts.length := by
  have hm := List.mem_of_getElem? hk
  unfold splitF at hm
  obtain ⟨x, _, e⟩ := List.mem_map.1 hm
  cases e
  have h1 := riseF_is (n := n) (h := h) hd
  exact nd_len _ _ (h1.1.imp fun h => by omega) fun x hx => ((h1.2 x).1 hx).1

set_option maxHeartbeats 2000000 in
set_option maxRecDepth 100000 in
theorem splits_walk (n : Nat) (A : Option Addr) (c : Nat) (l0 : List Nat) (w : World) (hnu : (n : Int) ≤ 18446744073709551615) (hl : l0.length ≤ c) (hc : c ≤ maxLen) (hs : SliceG w A l0) (hu : ∀ x ∈ l0, (x : Int) ≤ 18446744073709551615) :
    Calls Try.prog 8 #[.int .u64 n, .slice A l0.length c] w (NRet (.bool true) w) := by
  go_enter Try.func8, Try.ntmps8
  go_wp2_with (go_at_call 17; refine (cut_any A c l0 _ hl hc hs).mono ?_; rintro e w' ⟨A1, c1, rfl, hs1, rfl⟩; have hl20 : (l0.take 20).length ≤ 20 := (by rw [List.length_take]; omega); have hut : ∀ x ∈ l0.take 20, (x : Int) ≤ 18446744073709551615 := (fun x hx => hu x (List.mem_of_mem_take hx)); have HS1 := Lib.hid hs1; have HU := Lib.hid hut; clear hs1 hs hu hut hl hc; generalize l0.take 20 = l at *)
  by_cases hv : Valid n l
  · refine (split_yes n l A1 c1 w (by omega) HS1.out hv).mono ?_
    rintro e w2 ⟨A2, c2, rfl, hp2, hb2⟩
    have HP2 := Lib.hid hp2; have HB2 := Lib.hid hb2; have HL2 := Lib.hid (SliceG.after HS1.out hb2)
    clear hp2 hb2
    go_wp2_with fail
    refine (refSplit_yes n l A1 c1 w2 (by omega) HL2.out hv).mono ?_
    rintro e w3 ⟨A3, c3, rfl, hp3, hb3⟩
    have HP3 := Lib.hid hp3; have HB3 := Lib.hid (HB2.out.trans (hb3.mono HB2.out.size)); have HQ3 := Lib.hid (HP2.out.after hb3)
    clear hp3 hb3
    have SH := Lib.hid fun (k h : Nat) (x : List Nat) hk => split_short (n := n) (h := h) (k := k) (l := x) hv.2.2.1 hk
    have hPl : (splitF n l).length ≤ 63 := by
      unfold splitF
      rw [List.length_map]
      have := List.length_filter_le (fun h => riseF n l h != []) (treesN n)
      have := treesN_len n
      omega
    generalize splitF n l = P at *
    go_wp2_with fail
    have hp2 := HQ3.out; have hp3 := HP3.out; have hb3 := HB3.out
    go_loopw [10] (fun v10 wr => ∃ i : Nat, i ≤ P.length ∧ v10 = .int .i64 i ∧ Parts wr A2 P ∧ Parts wr A3 P ∧ Below w.heap.size w wr) (fun v10 _ => P.length - (intOf v10).toNat)
    case atStart => exact ⟨0, by omega, rfl, hp2, hp3, hb3⟩
    case round =>
      obtain ⟨i, hi, rfl, ha, hb, hbel⟩ := hrel
      clear hp2 hp3 hb3
      by_cases hlt : i < P.length
      · obtain ⟨⟨h, x⟩, hx⟩ : ∃ y, P[i]? = some y := ⟨_, List.getElem?_eq_getElem hlt⟩
        have hsh := SH.out i h x hx
        obtain ⟨g2, Al, al, rfl, hg2, u1, u2, u3⟩ := ha i h x hx
        obtain ⟨g3, Bl, bl, rfl, hg3, v1, v2, v3⟩ := hb i h x hx
        have HA := Lib.hid ha; have HB := Lib.hid hb; have HBE := Lib.hid hbel
        have SM := Lib.hid fun w (h1 : SliceAt w Al x ∧ SliceAt w Bl x ∧ Below wr.heap.size wr w) => to_n (same_list x x Al Bl al bl w (by omega) (by omega) h1.1.gen h1.2.1.gen)
        simp only [decide_true] at SM
        have i1 : (i : Int) < P.length := by omega
        go_wp2_with fail
        refine wp_region_seq (S := fun w' => w'.cell? ⟨g2, i * 2, none⟩ = some (.int .i64 (h : Nat)) ∧ w'.cell? ⟨g2, i * 2 + 1, none⟩ = some (.slice Al x.length al) ∧ w'.cell? ⟨g3, i * 2, none⟩ = some (.int .i64 (h : Nat)) ∧ w'.cell? ⟨g3, i * 2 + 1, none⟩ = some (.slice Bl x.length bl) ∧ g2 < w'.heap.size ∧ g3 < w'.heap.size ∧ SliceAt w' Al x ∧ SliceAt w' Bl x ∧ Below wr.heap.size wr w') (by kernel_rfl) (by kernel_rfl) ⟨u1, u2, v1, v2, hg2, hg3, u3.after (Below.drew (Below.refl _ _)), v3.after (Below.drew (Below.refl _ _)), (Below.refl _ wr).drew⟩ ?_
        have HST := Lib.hid (show ∀ w1' w2' : World, (w1'.cell? ⟨g2, i * 2, none⟩ = some (.int .i64 (h : Nat)) ∧ w1'.cell? ⟨g2, i * 2 + 1, none⟩ = some (.slice Al x.length al) ∧ w1'.cell? ⟨g3, i * 2, none⟩ = some (.int .i64 (h : Nat)) ∧ w1'.cell? ⟨g3, i * 2 + 1, none⟩ = some (.slice Bl x.length bl) ∧ g2 < w1'.heap.size ∧ g3 < w1'.heap.size ∧ SliceAt w1' Al x ∧ SliceAt w1' Bl x ∧ Below wr.heap.size wr w1') → Below w1'.heap.size w1' w2' → (w2'.cell? ⟨g2, i * 2, none⟩ = some (.int .i64 (h : Nat)) ∧ w2'.cell? ⟨g2, i * 2 + 1, none⟩ = some (.slice Al x.length al) ∧ w2'.cell? ⟨g3, i * 2, none⟩ = some (.int .i64 (h : Nat)) ∧ w2'.cell? ⟨g3, i * 2 + 1, none⟩ = some (.slice Bl x.length bl) ∧ g2 < w2'.heap.size ∧ g3 < w2'.heap.size ∧ SliceAt w2' Al x ∧ SliceAt w2' Bl x ∧ Below wr.heap.size wr w2') from fun _ _ ⟨a1, a2, a3, a4, a5, a6, a7, a8, a9⟩ hb => ⟨(hb.cell (p := ⟨g2, i * 2, none⟩) a5).trans a1, (hb.cell (p := ⟨g2, i * 2 + 1, none⟩) a5).trans a2, (hb.cell (p := ⟨g3, i * 2, none⟩) a6).trans a3, (hb.cell (p := ⟨g3, i * 2 + 1, none⟩) a6).trans a4, by have := hb.size; omega, by have := hb.size; omega, a7.after hb, a8.after hb, a9.trans (hb.mono a9.size)⟩)
        clear u1 u2 u3 v1 v2 v3 ha hb hbel
        repeat (first
          | (refine SeqS.skip ?_ ?_; rfl; (try simp only [Act.put, List.setIfInBounds_toArray, List.set_cons_zero, List.set_cons_succ]))
          | (refine SeqS.take (v := ?_) ?_ ?_ ?_; rotate_left; rfl; (intro w hS; have a1 := hS.1; have a2 := hS.2.1; have a3 := hS.2.2.1; have a4 := hS.2.2.2.1; have a5 := hS.2.2.2.2.1; have a6 := hS.2.2.2.2.2.1; go_simp; with_reducible rfl); (try simp only [Act.put, List.setIfInBounds_toArray, List.set_cons_zero, List.set_cons_succ]))
          | (refine SeqS.call (v := ?_) (f := ?_) (args := ?_) ?_ ?_ ?_ ?_; rotate_left 3; rfl; (intro w hS; have a1 := hS.1; have a2 := hS.2.1; have a3 := hS.2.2.1; have a4 := hS.2.2.2.1; have a5 := hS.2.2.2.2.1; have a6 := hS.2.2.2.2.2.1; go_simp; (first | with_reducible rfl | (refine ⟨?_, ?_⟩ <;> with_reducible rfl))); (intro w hS; first | ((with_reducible refine (SM.out _ (hS.2.2.2.2.2.2)).mono ?_); rintro e w' ⟨rfl, hb⟩; refine ⟨?_, HST.out _ _ hS hb⟩; with_reducible rfl)); (try simp only [Act.put, List.setIfInBounds_toArray, List.set_cons_zero, List.set_cons_succ])))
        refine SeqS.done ?_
        rintro wz ⟨_, _, _, _, _, _, _, _, hbz⟩
        have HZA := Lib.hid (HA.out.after hbz); have HZB := Lib.hid (HB.out.after hbz); have HZ := Lib.hid (HBE.out.trans (hbz.mono HBE.out.size))
        clear hbz
        go_wp2_with fail
        exact ⟨⟨i + 1, by omega, by go_num, HZA.out, HZB.out, HZ.out⟩, by simp [intOf]; omega⟩
      · obtain rfl : i = P.length := by omega
        have HBE := Lib.hid hbel
        clear ha hb hbel
        go_wp2_with fail
        refine (works_any _).mono ?_
        rintro e w9 ⟨rfl, hb⟩
        have HB9 := Lib.hid (HBE.out.trans (hb.mono HBE.out.size))
        clear hb
        go_wp2_with fail
        go_ret
        exact ⟨rfl, HB9.out⟩
  · refine (split_no n l A1 c1 w hnu (by omega) HU.out HS1.out hv).mono ?_
    rintro e w2 ⟨rfl, hb2⟩
    have HB2 := Lib.hid hb2; have HL2 := Lib.hid (SliceG.after HS1.out hb2)
    clear hb2
    go_wp2_with fail
    refine (refSplit_no n l A1 c1 w2 (by omega) HU.out HL2.out hv).mono ?_
    rintro e w3 ⟨rfl, hb3⟩
    have HB3 := Lib.hid (HB2.out.trans (hb3.mono HB2.out.size))
    clear hb3
    have hb3 := HB3.out
    go_wp2_with fail
    go_loopw [10] (fun v10 wr => v10 = .int .i64 0 ∧ Below w.heap.size w wr) (fun v10 _ => 0 - (intOf v10).toNat)
    case atStart => exact ⟨rfl, hb3⟩
    case round =>
      obtain ⟨rfl, hbel⟩ := hrel
      have HBE := Lib.hid hbel
      clear hb3 hbel
      go_wp2_with fail
      refine (works_any _).mono ?_
      rintro e w9 ⟨rfl, hb⟩
      have HB9 := Lib.hid (HBE.out.trans (hb.mono HBE.out.size))
      clear hb
      go_wp2_with fail
      go_ret
      exact ⟨rfl, HB9.out⟩

set_option maxRecDepth 100000 in
theorem law_NeedSplits {H : Type} {enc : TypeId × Value → H} (W : World) (base : Nat) (v0 v1 : Value) (d0 d1 : DataW H) (p0 p1 : List MemPlace)
    (h0 : DataW.Trod enc Try.prog W 0 (fun _ => true) true 22 v0 d0 p0) (h1 : DataW.Trod enc Try.prog W 0 (fun _ => true) true 23 v1 d1 p1)
    (o0 : Value.okWide Try.prog W .any base 22 v0) (o1 : Value.okWide Try.prog W .any base 23 v1) :
    Calls Try.prog 8 #[v0, v1] W fun e w' => e = .returned (.bool true) ∧ Below W.heap.size W w' := by
  obtain ⟨a, rfl, wa⟩ := in_int Try.underlying22 h0 o0
  obtain ⟨n, rfl, hn⟩ := u64_nat wa
  obtain ⟨A, c, l, rfl, hs, hl, hc, hu⟩ := in_nums h1 o1
  exact splits_walk n A c l W hn hl hc hs hu
end Go.Proofs.Ytapdhmaeglafjaa
