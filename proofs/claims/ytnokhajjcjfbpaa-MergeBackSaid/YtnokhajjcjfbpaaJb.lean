/- Hd, He in one (merge.py): a claim holds at most 60 files. -/
import Derived.Test.YtnokhajjcjfbpaaJa
import Derived.Test.YtnokhajjcjfbpaaNg
import Derived.Test.YtnokhajjcjfbpaaRn
/- merge.Part. -/
namespace Go.Proofs.Ytnokhajjcjfbpaa
open Go.RowKit Go.Shelf

/-- Which of the first k needed ones are known. -/
def gapsOf (kn nl : List Nat) (k : Nat) : List Int := ((List.range k).filter fun i => decide (nl.getD i 0 ∈ kn)).map (fun i : Nat => (i : Int))
/-- The hashes of those that are not. -/
def restOf (kn nl : List Nat) (hs : List (List Int)) (k : Nat) : List (List Int) := ((List.range k).filter fun i => !decide (nl.getD i 0 ∈ kn)).map (fun i => hs.getD i [])
theorem gaps_yes {kn nl : List Nat} {k x : Nat} (hx : nl[k]? = some x) (hk : x ∈ kn) : gapsOf kn nl (k + 1) = gapsOf kn nl k ++ [(k : Int)] := by
  unfold gapsOf
  rw [List.range_succ, List.filter_append, List.map_append]
  simp [List.getD, hx, hk]
theorem gaps_no {kn nl : List Nat} {k x : Nat} (hx : nl[k]? = some x) (hk : x ∉ kn) : gapsOf kn nl (k + 1) = gapsOf kn nl k := by
  unfold gapsOf
  rw [List.range_succ, List.filter_append, List.map_append]
  simp [List.getD, hx, hk]
theorem rest_yes {kn nl : List Nat} {hs : List (List Int)} {k x : Nat} (hx : nl[k]? = some x) (hk : x ∈ kn) : restOf kn nl hs (k + 1) = restOf kn nl hs k := by
  unfold restOf
  rw [List.range_succ, List.filter_append, List.map_append]
  simp [List.getD, hx, hk]
theorem rest_no {kn nl : List Nat} {hs : List (List Int)} {k x : Nat} {h : List Int} (hx : nl[k]? = some x) (hk : x ∉ kn) (hh : hs[k]? = some h) : restOf kn nl hs (k + 1) = restOf kn nl hs k ++ [h] := by
  unfold restOf
  rw [List.range_succ, List.filter_append, List.map_append]
  simp [List.getD, hx, hk, hh]
theorem gaps_len (kn nl : List Nat) (k : Nat) : (gapsOf kn nl k).length ≤ k := by
  unfold gapsOf
  rw [List.length_map]
  exact Nat.le_trans (List.length_filter_le _ _) (by simp)
theorem rest_len (kn nl : List Nat) (hs : List (List Int)) (k : Nat) : (restOf kn nl hs k).length ≤ k := by
  unfold restOf
  rw [List.length_map]
  exact Nat.le_trans (List.length_filter_le _ _) (by simp)
theorem row_cap {W : World} {base : Nat} {e : TypeId} {S n c : Nat} {A : Option Addr} {xs : List Value} (h : W.ownsRow base e S (.slice A n c) n xs) : n ≤ c := by
  rcases h.2 with ⟨hv, h0⟩ | ⟨g, cap, cur, hv, _, _, hn, _⟩
  · omega
  · cases hv
    exact hn
/-- What a Part that does not answer returns. -/
def PartErr (w : World) (e : Ending) (w' : World) : Prop := e = .returned (.tuple #[.agg #[.slice none 0 0, .slice none 0 0, .slice none 0 0], .int .i64 33]) ∧ Below w.heap.size w w'
/-- .. that answers. -/
def PartOK (ts kn nl : List Nat) (hs : List (List Int)) (w : World) (e : Ending) (w' : World) : Prop := ∃ T c G g H h,
  e = .returned (.tuple #[.agg #[.slice T ts.length c, .slice G (gapsOf kn nl nl.length).length g, .slice H (restOf kn nl hs nl.length).length h], .int .i64 0]) ∧
  SliceAt w' T ts ∧ IntG w' G (gapsOf kn nl nl.length) ∧ HashG w' H (restOf kn nl hs nl.length) ∧ ((gapsOf kn nl nl.length).length ≤ g ∧ (restOf kn nl hs nl.length).length ≤ h) ∧ Below w.heap.size w w'
def PartRet (n : Nat) (ts kn : List Nat) (hs : List (List Int)) (w : World) (e : Ending) (w' : World) : Prop :=
  ((¬ Valid n ts ∨ ∃ nl, IsNeed n ts nl ∧ nl.length ≠ hs.length) ∧ PartErr w e w') ∨ ∃ nl, Valid n ts ∧ IsNeed n ts nl ∧ nl.length = hs.length ∧ PartOK ts kn nl hs w e w'

set_option maxHeartbeats 2000000 in
theorem part_no (n : Nat) (ts kn : List Nat) (hs : List (List Int)) (A B K : Option Addr) (c d k : Nat) (w : World) (hnu : (n : Int) ≤ 18446744073709551615) (hlen : ts.length ≤ 1000) (hu : ∀ t ∈ ts, (t : Int) ≤ 18446744073709551615) (hts : SliceG w A ts) (hv : ¬ Valid n ts) :
    Calls Try.prog 7 #[.int .u64 n, .agg #[.slice A ts.length c, .slice B hs.length d], .slice K kn.length k] w (PartErr w) := by
  have ND := Lib.hid fun w h => need_no n ts A c w hnu hlen hu h hv
  have HT := Lib.hid hts
  clear hts hu hv
  go_enter Try.func7, Try.ntmps7
  go_wp2_with fail
  refine (ND.out _ (HT.out.after (by repeat' (first | exact Below.refl _ _ | refine bel_drewN ?_ _ | refine Below.drew ?_ | refine Below.alloc ?_ ?_ _ | refine Below.setCell ?_ ?_ _ | exact Nat.le_refl _ | (simp; done) | (simp; omega) | assumption)))).mono ?_
  rintro e w1 ⟨rfl, hb1⟩
  have HR := Lib.hid ((show IsBlk _ (w.heap.size + 1) 31 #[.slice none 0 0, .slice none 0 0, .slice none 0 0] from by repeat' (first | with_reducible assumption | with_reducible refine IsBlk.drewN ?_ _ | with_reducible refine IsBlk.drew ?_ | with_reducible refine IsBlk.newAt _ _ ?_ | with_reducible refine IsBlk.alloc ?_ _ | with_reducible refine IsBlk.far ?_ ?_ _ | (simp; done) | (simp; omega))).after hb1)
  have HB := Lib.hid (show Below w.heap.size w w1 from Below.trans (by repeat' (first | exact Below.refl _ _ | refine bel_drewN ?_ _ | refine Below.drew ?_ | refine Below.alloc ?_ ?_ _ | refine Below.setCell ?_ ?_ _ | exact Nat.le_refl _ | (simp; done) | (simp; omega) | assumption)) (hb1.mono (by simp; omega)))
  clear hb1
  have r0 := HR.out.cell 0
  have r1 := HR.out.cell 1
  have r2 := HR.out.cell 2
  simp at r0 r1 r2
  have fr := HR.out.free
  have lr := HR.out.lt
  go_wp2_with fail
  refine bodyPost_ret (v := .tuple #[.agg #[.slice none 0 0, .slice none 0 0, .slice none 0 0], .int .i64 33]) ?_ rfl ?_
  · have b0 := (((HR.out.put 0 (.slice none 0 0)).put 1 (.slice none 0 0)).put 2 (.slice none 0 0))
    have z0 := b0.cell 0
    have z1 := b0.cell 1
    have z2 := b0.cell 2
    simp at z0 z1 z2
    simp [results, Try.results7, go_sem, z0, z1, z2]
  exact ⟨rfl, ((HB.out.setCell (by simp) _).setCell (by simp) _).setCell (by simp) _⟩

set_option maxRecDepth 100000 in
set_option maxHeartbeats 4000000 in
theorem part_yes (n : Nat) (ts kn : List Nat) (hs : List (List Int)) (A B K : Option Addr) (c d k : Nat) (w : World) (hlen : ts.length ≤ 1000) (hhl : hs.length ≤ 100000) (hkl : kn.length ≤ 100000) (hts : SliceG w A ts) (hhs : HashG w B hs) (hkn : SliceG w K kn) (hv : Valid n ts) :
    Calls Try.prog 7 #[.int .u64 n, .agg #[.slice A ts.length c, .slice B hs.length d], .slice K kn.length k] w (PartRet n ts kn hs w) := by
  have ND := Lib.hid fun w h => need_yes n ts A c w hlen h hv
  have HT := Lib.hid hts
  have HH := Lib.hid hhs
  have HK := Lib.hid hkn
  clear hts hhs hkn
  go_enter Try.func7, Try.ntmps7
  go_wp2_with fail
  refine (ND.out _ (HT.out.after (by repeat' (first | exact Below.refl _ _ | refine bel_drewN ?_ _ | refine Below.drew ?_ | refine Below.alloc ?_ ?_ _ | refine Below.setCell ?_ ?_ _ | exact Nat.le_refl _ | (simp; done) | (simp; omega) | assumption)))).mono ?_
  rintro e w1 ⟨l, hl, hok⟩
  obtain ⟨A1, c1, rfl, hs1, hb1⟩ := hok.at
  clear hok
  have HS1 := Lib.hid hs1
  clear hs1
  have HP := Lib.hid ((show IsBlk _ w.heap.size 26 #[.slice A ts.length c, .slice B hs.length d] from by repeat' (first | with_reducible assumption | with_reducible refine IsBlk.drewN ?_ _ | with_reducible refine IsBlk.drew ?_ | with_reducible refine IsBlk.newAt _ _ ?_ | with_reducible refine IsBlk.alloc ?_ _ | with_reducible refine IsBlk.far ?_ ?_ _ | (simp; done) | (simp; omega))).after hb1)
  have HR := Lib.hid ((show IsBlk _ (w.heap.size + 1) 31 #[.slice none 0 0, .slice none 0 0, .slice none 0 0] from by repeat' (first | with_reducible assumption | with_reducible refine IsBlk.drewN ?_ _ | with_reducible refine IsBlk.drew ?_ | with_reducible refine IsBlk.newAt _ _ ?_ | with_reducible refine IsBlk.alloc ?_ _ | with_reducible refine IsBlk.far ?_ ?_ _ | (simp; done) | (simp; omega))).after hb1)
  have HB := Lib.hid (show Below w.heap.size w w1 from Below.trans (by repeat' (first | exact Below.refl _ _ | refine bel_drewN ?_ _ | refine Below.drew ?_ | refine Below.alloc ?_ ?_ _ | refine Below.setCell ?_ ?_ _ | exact Nat.le_refl _ | (simp; done) | (simp; omega) | assumption)) (hb1.mono (by simp; omega)))
  clear hb1
  have r0 := HR.out.cell 0
  have r1 := HR.out.cell 1
  have r2 := HR.out.cell 2
  have p0 := HP.out.cell 0
  have p1 := HP.out.cell 1
  simp at r0 r1 r2 p0 p1
  have fr := HR.out.free
  have lr := HR.out.lt
  have lp : w.heap.size < w1.heap.size := by omega
  have hl64 := need_short hl
  by_cases hll : l.length = hs.length
  · have hne : ((l.length : Int) != hs.length) = false := by rw [bne_eq_false_iff_eq]; omega
    have HLL := Lib.hid hll
    clear hll
    go_wp2_with fail
    refine (clone_any ts A c w1 (by omega) (HT.out.after HB.out)).mono ?_
    rintro e w2 ⟨T, cT, rfl, hT, hb2⟩
    have HTT := Lib.hid hT
    have HP2 := Lib.hid (HP.out.after hb2)
    have HR2 := Lib.hid (HR.out.after hb2)
    have HS2 := Lib.hid (HS1.out.after hb2)
    have HB2 := Lib.hid (HB.out.trans (hb2.mono HB.out.size))
    have hz2 := hb2.size
    have lr0 := lr
    clear hb2 hT r0 r1 r2 p0 p1 fr
    go_wp2_with fail
    go_loopw [11, 12, 37] (fun _ _ v wr => ∃ q : Nat, q ≤ l.length ∧ v = .int .i64 q ∧ (∃ G H, PartH wr w2.heap.size (.slice T ts.length cT) (gapsOf kn l q) (restOf kn l hs q) G H) ∧ Below w2.heap.size w2 wr) (fun _ _ v _ => l.length - (intOf v).toNat)
    case atStart => exact ⟨0, by omega, rfl, ⟨.slice none 0 0, .slice none 0 0, IsBlk.new _ _ _, OwnI.nil _ _, OwnH.nil _ _⟩, (Below.refl _ _).alloc (Nat.le_refl _) _⟩
    case round =>
      obtain ⟨q, hq, rfl, ⟨G, H, hph⟩, hbel⟩ := hrel
      have HBR := Lib.hid hbel
      have hzr := hbel.size
      obtain ⟨GA, gc, rfl⟩ := row_shape hph.ga
      obtain ⟨HA, hcp, rfl⟩ := row_shape hph.ha.1
      have HPH := Lib.hid hph
      clear hph hbel
      by_cases hlt : q < l.length
      · obtain ⟨g1, rfl, hg1, hc1⟩ := (HS2.out.after HBR.out) q hlt
        have hx : l[q]? = some l[q] := List.getElem?_eq_getElem hlt
        rw [hx] at hc1
        simp only [Option.map_some] at hc1
        have HX := Lib.hid hx
        clear hx
        generalize l[q] = x at *
        have q1 : (q : Int) < l.length := by omega
        have hqh : q < hs.length := by have := HLL.out; omega
        go_wp2_with fail
        refine (contains_any kn K k x wr (by omega) ((HK.out.after HB2.out).after HBR.out)).mono ?_
        rintro e w' ⟨rfl, rfl⟩
        by_cases hk : x ∈ kn
        · have hkd := Lib.hid (decide_eq_true hk)
          rw [hkd.out]
          have hbx := HPH.out.blk
          have lx := hbx.lt
          have x0 := hbx.cell 0
          have x1 := hbx.cell 1
          have x2 := hbx.cell 2
          simp at x0 x1 x2
          obtain ⟨A', c', W', hrun, hown, hgr⟩ := grow_int HPH.out.ga (by omega) q (by have := gaps_len kn l q; omega)
          have HRUN := Lib.hid hrun
          have HOWN := Lib.hid hown
          have HGR := Lib.hid hgr
          have hb' := hbx.low hgr (row_low HPH.out.ga (Nat.lt_succ_self _))
          have y1 := hb'.cell 1
          simp at y1
          have fy := hb'.free
          have ly := hb'.lt
          obtain ⟨PN, BN⟩ := HPH.out.gap hgr hown
          have HPN := Lib.hid PN
          have HBN := Lib.hid (HBR.out.trans BN)
          have GY := Lib.hid (gaps_yes HX.out hk)
          have RY := Lib.hid (rest_yes (hs := hs) HX.out hk)
          clear hrun hown hgr hb' PN BN
          go_wp2_with (at_builtin; refine wpList_append_run rfl (.tmp 46) (.tmp 48) 29 rfl rfl rfl HRUN.out ?_)
          exact ⟨⟨q + 1, by omega, by go_num, ⟨_, _, by rw [GY.out, RY.out]; exact HPN.out⟩, HBN.out⟩, by simp [intOf]; omega⟩
        · have hkd := Lib.hid (decide_eq_false hk)
          rw [hkd.out]
          have HPD := Lib.hid HPH.out.drew
          have HBD := Lib.hid (HBR.out.drew)
          have lx : w2.heap.size + 1 ≤ wr.drew.heap.size := HPD.out.blk.lt
          have hz : hs[q]? = some (hs[q]'hqh) := List.getElem?_eq_getElem hqh
          obtain ⟨g2, o2, rfl, hg2, ry, hy⟩ := ((HH.out.after HB2.out)).at hz
          have GY := Lib.hid (gaps_no HX.out hk)
          have RY := Lib.hid (rest_no HX.out hk hz)
          clear hz
          generalize hs[q]'hqh = z at *
          have LD := Lib.hid fun (W : World) (hW : Below w2.heap.size w2 W) => hash_var W g2 (o2 + q * 32) z (rng_after ry hg2 hW) hy
          have HPW := Lib.hid fun (W : World) (hW : Below w2.heap.size w2 W) => HP2.out.after hW
          go_wp2_with fail
          refine AnyH.start 11 (fun W => Below w2.heap.size w2 W) (by kernel_rfl) rfl ?_
          have hSD := HBD.out
          refine AnyH.take (i := 0) (v := ?_) rfl (by kernel_rfl) (fun _ _ _ h => h) rfl ?_ hSD ?_
          rotate_left
          (intro w hS; go_simp; with_reducible rfl)
          try simp only [Act.put, List.setIfInBounds_toArray, List.set_cons_zero, List.set_cons_succ]
          refine AnyH.take (i := 2) (v := ?_) rfl (by kernel_rfl) (fun _ _ _ h => h) rfl ?_ hSD ?_
          rotate_left
          (intro w hS; go_simp; with_reducible rfl)
          try simp only [Act.put, List.setIfInBounds_toArray, List.set_cons_zero, List.set_cons_succ]
          refine AnyH.take (i := 3) (v := ?_) rfl (by kernel_rfl) (fun _ _ _ h => h) rfl ?_ hSD ?_
          rotate_left
          (intro w hS; have hp := HPW.out w hS; have p1 := hp.cell 1; simp at p1; go_simp; with_reducible rfl)
          try simp only [Act.put, List.setIfInBounds_toArray, List.set_cons_zero, List.set_cons_succ]
          refine AnyH.take (i := 4) (v := ?_) rfl (by kernel_rfl) (fun _ _ _ h => h) rfl ?_ hSD ?_
          rotate_left
          (intro w hS; go_simp; with_reducible rfl)
          try simp only [Act.put, List.setIfInBounds_toArray, List.set_cons_zero, List.set_cons_succ]
          refine AnyH.take (i := 5) (v := ?_) rfl (by kernel_rfl) (fun _ _ _ h => h) rfl ?_ hSD ?_
          rotate_left
          (intro w hS; go_simp; with_reducible rfl)
          try simp only [Act.put, List.setIfInBounds_toArray, List.set_cons_zero, List.set_cons_succ]
          refine AnyH.long (i := 6) 37 (.agg (hc z).toArray) rfl (by kernel_rfl) (fun _ _ _ h => h) rfl rfl rfl (fun w hS => LD.out w hS) hSD ?_
          try simp only [Act.put, List.setIfInBounds_toArray, List.set_cons_zero, List.set_cons_succ]
          refine AnyH.load_make (i := 1) (j := 7) (v := .slice HA (restOf kn l hs q).length hcp) (b := .slice (some ⟨wr.drew.heap.size, 0, none⟩) 1 1) (w' := wr.drew.alloc (.cells (hc z).toArray 37)) rfl rfl (by kernel_rfl) (by kernel_rfl) (by kernel_rfl) rfl rfl rfl rfl ?_ ?_ ?_ ?_ hSD ?_ (by kernel_rfl) rfl ?_
          · have x0 := HPD.out.blk.cell 2
            simp at x0
            go_simp
          · exact run_build_hash z hy _ rfl rfl _
          · exact run_build_hash z hy _ rfl rfl _
          · have x0 := (HPH.out.blk.alloc (.cells (hc z).toArray 37)).cell 2
            simp at x0
            go_simp
          · exact hSD.alloc (by omega) _
          try simp only [Act.put, List.setIfInBounds_toArray, List.set_cons_zero, List.set_cons_succ]
          obtain ⟨A', c', W', hrun, hown, hgr⟩ := grow_hash HPD.out.ha (by omega) z hy (by have := rest_len kn l hs q; omega)
          obtain ⟨PN, BN⟩ := HPD.out.hash hgr hown
          have hb' := HPD.out.blk.low hgr (row_low HPD.out.ha.1 (Nat.lt_succ_self _))
          have y2 := hb'.cell 2
          simp at y2
          have fy := hb'.free
          have ly := hb'.lt
          refine AnyH.one (i := 8) (by kernel_rfl) ⟨_, _, W', rfl, rfl, comes_append (.tmp 52) (.tmp 58) _ rfl rfl rfl hrun, hSD.grown hgr (by omega) (fun r e => by have := (HPD.out.ha.1.lt r e).1; omega), ?_⟩
          try simp only [Act.put, List.setIfInBounds_toArray, List.set_cons_zero, List.set_cons_succ]
          refine AnyH.one (i := 9) (by kernel_rfl) ⟨_, .pointer (some ⟨w2.heap.size, 2, none⟩), W', rfl, rfl, .inl (by go_simp), hSD.grown hgr (by omega) (fun r e => by have := (HPD.out.ha.1.lt r e).1; omega), ?_⟩
          try simp only [Act.put, List.setIfInBounds_toArray, List.set_cons_zero, List.set_cons_succ]
          refine AnyH.one (i := 10) (by kernel_rfl) ⟨_, undef, W'.setCell ⟨w2.heap.size, 2, none⟩ (.slice A' ((restOf kn l hs q).length + 1) c'), rfl, rfl, comes_store (.tmp 60) (.tmp 59) rfl rfl rfl (by go_simp), hSD.trans BN, ?_⟩
          try simp only [Act.put]
          refine wpAnyH_done (by kernel_rfl) ?_ _
          have HPN := Lib.hid PN
          have HBN := Lib.hid (hSD.trans BN)
          clear PN BN hb' y2 fy ly hrun hown hgr
          go_wp2_with fail
          exact ⟨⟨q + 1, by omega, by go_num, ⟨_, _, by rw [GY.out, RY.out]; exact HPN.out⟩, HBN.out⟩, by simp [intOf]; omega⟩
      · obtain rfl : q = l.length := by omega
        have hbx := HPH.out.blk
        have lx := hbx.lt
        have x0 := hbx.cell 0
        have x1 := hbx.cell 1
        have x2 := hbx.cell 2
        simp at x0 x1 x2
        have HRR := Lib.hid (HR2.out.after HBR.out)
        have r0 := HRR.out.cell 0
        have r1 := HRR.out.cell 1
        have r2 := HRR.out.cell 2
        simp at r0 r1 r2
        have fr := HRR.out.free
        have lr := HRR.out.lt
        go_wp2_with fail
        refine bodyPost_ret (v := .tuple #[.agg #[.slice T ts.length cT, .slice GA (gapsOf kn l l.length).length gc, .slice HA (restOf kn l hs l.length).length hcp], .int .i64 0]) ?_ rfl ?_
        · have b0 := (((HRR.out.put 0 (.slice T ts.length cT)).put 1 (.slice GA (gapsOf kn l l.length).length gc)).put 2 (.slice HA (restOf kn l hs l.length).length hcp))
          have z0 := b0.cell 0
          have z1 := b0.cell 1
          have z2 := b0.cell 2
          simp at z0 z1 z2
          simp [results, Try.results7, go_sem, z0, z1, z2]
        have hb3 : Below w.heap.size w (((wr.setCell ⟨w.heap.size + 1, 0, none⟩ (.slice T ts.length cT)).setCell ⟨w.heap.size + 1, 1, none⟩ (.slice GA (gapsOf kn l l.length).length gc)).setCell ⟨w.heap.size + 1, 2, none⟩ (.slice HA (restOf kn l hs l.length).length hcp)) := (((HB2.out.trans (HBR.out.mono HB2.out.size)).setCell (by simp) _).setCell (by simp) _).setCell (by simp) _
        exact .inr ⟨l, hv, hl, HLL.out, T, cT, GA, gc, HA, hcp, rfl, OwnU.at (row_far (row_far (row_far (row_after18 HTT.out HBR.out) lr0 _ _) lr0 _ _) lr0 _ _) rfl,
          IntG.own (row_far (row_far (row_far HPH.out.ga (by omega) _ _) (by omega) _ _) (by omega) _ _) rfl, HashG.own ⟨row_far (row_far (row_far HPH.out.ha.1 (by omega) _ _) (by omega) _ _) (by omega) _ _, HPH.out.ha.2⟩ rfl, ⟨row_cap HPH.out.ga, row_cap HPH.out.ha.1⟩, hb3⟩
  · have hne : ((l.length : Int) != hs.length) = true := by rw [bne_iff_ne]; omega
    go_wp2_with fail
    refine bodyPost_ret (v := .tuple #[.agg #[.slice none 0 0, .slice none 0 0, .slice none 0 0], .int .i64 33]) ?_ rfl ?_
    · have b0 := (((HR.out.put 0 (.slice none 0 0)).put 1 (.slice none 0 0)).put 2 (.slice none 0 0))
      have z0 := b0.cell 0
      have z1 := b0.cell 1
      have z2 := b0.cell 2
      simp at z0 z1 z2
      simp [results, Try.results7, go_sem, z0, z1, z2]
    exact .inl ⟨.inr ⟨l, hl, hll⟩, rfl, ((HB.out.setCell (by simp) _).setCell (by simp) _).setCell (by simp) _⟩
end Go.Proofs.Ytnokhajjcjfbpaa
/- The document's Part. -/
namespace Go.Proofs.Ytnokhajjcjfbpaa
open Go.RowKit Go.Shelf

set_option maxHeartbeats 2000000 in
theorem refPart_no (n : Nat) (ts kn : List Nat) (hs : List (List Int)) (A B K : Option Addr) (c d k : Nat) (w : World) (hlen : ts.length ≤ 1000) (hu : ∀ t ∈ ts, (t : Int) ≤ 18446744073709551615) (hts : SliceG w A ts) (hv : ¬ Valid n ts) :
    Calls Try.prog 8 #[.int .u64 n, .agg #[.slice A ts.length c, .slice B hs.length d], .slice K kn.length k] w (PartErr w) := by
  have ND := Lib.hid fun w h => refNeed_no n ts A c w hlen hu h hv
  have HT := Lib.hid hts
  clear hts hu hv
  go_enter Try.func8, Try.ntmps8
  go_wp2_with fail
  refine (ND.out _ (HT.out.after (by repeat' (first | exact Below.refl _ _ | refine bel_drewN ?_ _ | refine Below.drew ?_ | refine Below.alloc ?_ ?_ _ | refine Below.setCell ?_ ?_ _ | exact Nat.le_refl _ | (simp; done) | (simp; omega) | assumption)))).mono ?_
  rintro e w1 ⟨rfl, hb1⟩
  have HR := Lib.hid ((show IsBlk _ (w.heap.size + 1) 31 #[.slice none 0 0, .slice none 0 0, .slice none 0 0] from by repeat' (first | with_reducible assumption | with_reducible refine IsBlk.drewN ?_ _ | with_reducible refine IsBlk.drew ?_ | with_reducible refine IsBlk.newAt _ _ ?_ | with_reducible refine IsBlk.alloc ?_ _ | with_reducible refine IsBlk.far ?_ ?_ _ | (simp; done) | (simp; omega))).after hb1)
  have HB := Lib.hid (show Below w.heap.size w w1 from Below.trans (by repeat' (first | exact Below.refl _ _ | refine bel_drewN ?_ _ | refine Below.drew ?_ | refine Below.alloc ?_ ?_ _ | refine Below.setCell ?_ ?_ _ | exact Nat.le_refl _ | (simp; done) | (simp; omega) | assumption)) (hb1.mono (by simp; omega)))
  clear hb1
  have r0 := HR.out.cell 0
  have r1 := HR.out.cell 1
  have r2 := HR.out.cell 2
  simp at r0 r1 r2
  have fr := HR.out.free
  have lr := HR.out.lt
  go_wp2_with fail
  refine bodyPost_ret (v := .tuple #[.agg #[.slice none 0 0, .slice none 0 0, .slice none 0 0], .int .i64 33]) ?_ rfl ?_
  · have b0 := (((HR.out.put 0 (.slice none 0 0)).put 1 (.slice none 0 0)).put 2 (.slice none 0 0))
    have z0 := b0.cell 0
    have z1 := b0.cell 1
    have z2 := b0.cell 2
    simp at z0 z1 z2
    simp [results, Try.results8, go_sem, z0, z1, z2]
  exact ⟨rfl, ((HB.out.setCell (by simp) _).setCell (by simp) _).setCell (by simp) _⟩

set_option maxRecDepth 100000 in
set_option maxHeartbeats 4000000 in
theorem refPart_yes (n : Nat) (ts kn : List Nat) (hs : List (List Int)) (A B K : Option Addr) (c d k : Nat) (w : World) (hlen : ts.length ≤ 1000) (hhl : hs.length ≤ 100000) (hkl : kn.length ≤ 100000) (hts : SliceG w A ts) (hhs : HashG w B hs) (hkn : SliceG w K kn) (hv : Valid n ts) :
    Calls Try.prog 8 #[.int .u64 n, .agg #[.slice A ts.length c, .slice B hs.length d], .slice K kn.length k] w (PartRet n ts kn hs w) := by
  have ND := Lib.hid fun w h => refNeed_yes n ts A c w hlen h hv
  have HT := Lib.hid hts
  have HH := Lib.hid hhs
  have HK := Lib.hid hkn
  clear hts hhs hkn
  go_enter Try.func8, Try.ntmps8
  go_wp2_with fail
  refine (ND.out _ (HT.out.after (by repeat' (first | exact Below.refl _ _ | refine bel_drewN ?_ _ | refine Below.drew ?_ | refine Below.alloc ?_ ?_ _ | refine Below.setCell ?_ ?_ _ | exact Nat.le_refl _ | (simp; done) | (simp; omega) | assumption)))).mono ?_
  rintro e w1 ⟨l, hl, hok⟩
  obtain ⟨A1, c1, rfl, hs1', hb1⟩ := hok
  have hs1 := hs1'.at'
  clear hs1'
  have HS1 := Lib.hid hs1
  clear hs1
  have HP := Lib.hid ((show IsBlk _ w.heap.size 26 #[.slice A ts.length c, .slice B hs.length d] from by repeat' (first | with_reducible assumption | with_reducible refine IsBlk.drewN ?_ _ | with_reducible refine IsBlk.drew ?_ | with_reducible refine IsBlk.newAt _ _ ?_ | with_reducible refine IsBlk.alloc ?_ _ | with_reducible refine IsBlk.far ?_ ?_ _ | (simp; done) | (simp; omega))).after hb1)
  have HR := Lib.hid ((show IsBlk _ (w.heap.size + 1) 31 #[.slice none 0 0, .slice none 0 0, .slice none 0 0] from by repeat' (first | with_reducible assumption | with_reducible refine IsBlk.drewN ?_ _ | with_reducible refine IsBlk.drew ?_ | with_reducible refine IsBlk.newAt _ _ ?_ | with_reducible refine IsBlk.alloc ?_ _ | with_reducible refine IsBlk.far ?_ ?_ _ | (simp; done) | (simp; omega))).after hb1)
  have HB := Lib.hid (show Below w.heap.size w w1 from Below.trans (by repeat' (first | exact Below.refl _ _ | refine bel_drewN ?_ _ | refine Below.drew ?_ | refine Below.alloc ?_ ?_ _ | refine Below.setCell ?_ ?_ _ | exact Nat.le_refl _ | (simp; done) | (simp; omega) | assumption)) (hb1.mono (by simp; omega)))
  clear hb1
  have r0 := HR.out.cell 0
  have r1 := HR.out.cell 1
  have r2 := HR.out.cell 2
  have p0 := HP.out.cell 0
  have p1 := HP.out.cell 1
  simp at r0 r1 r2 p0 p1
  have fr := HR.out.free
  have lr := HR.out.lt
  have lp : w.heap.size < w1.heap.size := by omega
  have hl64 := need_short hl
  by_cases hll : l.length = hs.length
  · have hne : ((l.length : Int) != hs.length) = false := by rw [bne_eq_false_iff_eq]; omega
    have HLL := Lib.hid hll
    clear hll
    go_wp2_with (at_builtin; refine wpList_append_nums rfl _ _ rfl (w1.heap.size + 1) (.slice none 0 0) [] rfl (OwnU.nil _ _) _ _ _ ts rfl rfl (by exact (ru_gen (HT.out.after HB.out)).after ((Below.refl w1.heap.size w1).alloc (Nat.le_refl _) _)) (by simp; omega) (by simp) ts.length (by simp) ts rfl ?_; intro T cT w2 h2 hg2; have HOT := Lib.hid h2; have hbx0 := (IsBlk.new w1 31 #[.slice none 0 0, .slice none 0 0, .slice none 0 0]).low hg2 (.inl rfl); have z0 := hbx0.cell 0; simp at z0; have fz := hbx0.free; have lz := hbx0.lt; have HZ := Lib.hid hbx0; have HBZ := Lib.hid (Below.grown ((Below.refl w1.heap.size w1).alloc (Nat.le_refl _) (.cells #[.slice none 0 0, .slice none 0 0, .slice none 0 0] 31)) hg2 (by simp) (fun k e => by simp [Value.ownBlock] at e)); clear h2 hg2 hbx0)
    go_loopw [11] (fun v wr => ∃ q : Nat, q ≤ l.length ∧ v = .int .i64 q ∧ (∃ G H, PartH wr w1.heap.size (.slice T ts.length cT) (gapsOf kn l q) (restOf kn l hs q) G H) ∧ OwnU wr (w1.heap.size + 1) (.slice T ts.length cT) ts ∧ Below w1.heap.size w1 wr) (fun v _ => l.length - (intOf v).toNat)
    case atStart => exact ⟨0, by omega, rfl, ⟨.slice none 0 0, .slice none 0 0, HZ.out.put 0 _, OwnI.nil _ _, OwnH.nil _ _⟩, row_far HOT.out (Nat.lt_succ_self _) _ _, HBZ.out.setCell (Nat.le_refl _) _⟩
    case round =>
      obtain ⟨q, hq, rfl, ⟨G, H, hph⟩, hot, hbel⟩ := hrel
      have HTR := Lib.hid hot
      clear hot
      have HBR := Lib.hid hbel
      have hzr := hbel.size
      obtain ⟨GA, gc, rfl⟩ := row_shape hph.ga
      obtain ⟨HA, hcp, rfl⟩ := row_shape hph.ha.1
      have HPH := Lib.hid hph
      clear hph hbel
      by_cases hlt : q < l.length
      · obtain ⟨g1, rfl, hg1, hc1⟩ := (HS1.out.after HBR.out) q hlt
        have hx : l[q]? = some l[q] := List.getElem?_eq_getElem hlt
        rw [hx] at hc1
        simp only [Option.map_some] at hc1
        have HX := Lib.hid hx
        clear hx
        generalize l[q] = x at *
        have q1 : (q : Int) < l.length := by omega
        have hqh : q < hs.length := by have := HLL.out; omega
        go_wp2_with fail
        refine (mhas_list kn K k x wr (by omega) ((HK.out.after HB.out).after HBR.out)).mono ?_
        rintro e w' ⟨rfl, rfl⟩
        by_cases hk : x ∈ kn
        · have hkd := Lib.hid (decide_eq_true hk)
          rw [hkd.out]
          have hbx := HPH.out.blk
          have lx := hbx.lt
          have x0 := hbx.cell 0
          have x1 := hbx.cell 1
          have x2 := hbx.cell 2
          simp at x0 x1 x2
          obtain ⟨A', c', W', hrun, hown, hgr⟩ := grow_int HPH.out.ga (by omega) q (by have := gaps_len kn l q; omega)
          have HRUN := Lib.hid hrun
          have HOWN := Lib.hid hown
          have HGR := Lib.hid hgr
          have hb' := hbx.low hgr (row_low HPH.out.ga (Nat.lt_succ_self _))
          have y1 := hb'.cell 1
          simp at y1
          have fy := hb'.free
          have ly := hb'.lt
          obtain ⟨PN, BN⟩ := HPH.out.gap hgr hown
          have HTN := Lib.hid (fun u => row_far (HTR.out.kept hgr (rows_apart HTR.out HPH.out.ga (by decide))) (Nat.lt_succ_self w1.heap.size) 1 u)
          have HPN := Lib.hid PN
          have HBN := Lib.hid (HBR.out.trans BN)
          have GY := Lib.hid (gaps_yes HX.out hk)
          have RY := Lib.hid (rest_yes (hs := hs) HX.out hk)
          clear hrun hown hgr hb' PN BN
          go_wp2_with (at_builtin; refine wpList_append_run rfl (.tmp 49) (.tmp 51) 29 rfl rfl rfl HRUN.out ?_)
          exact ⟨⟨q + 1, by omega, by go_num, ⟨_, _, by rw [GY.out, RY.out]; exact HPN.out⟩, HTN.out _, HBN.out⟩, by simp [intOf]; omega⟩
        · have hkd := Lib.hid (decide_eq_false hk)
          rw [hkd.out]
          have HPD := Lib.hid HPH.out.drew
          have HBD := Lib.hid (HBR.out.drew)
          have lx : w1.heap.size + 1 ≤ wr.drew.heap.size := HPD.out.blk.lt
          have hz : hs[q]? = some (hs[q]'hqh) := List.getElem?_eq_getElem hqh
          obtain ⟨g2, o2, rfl, hg2, ry, hy⟩ := ((HH.out.after HB.out)).at hz
          have GY := Lib.hid (gaps_no HX.out hk)
          have RY := Lib.hid (rest_no HX.out hk hz)
          clear hz
          generalize hs[q]'hqh = z at *
          have LD := Lib.hid fun (W : World) (hW : Below w1.heap.size w1 W) => hash_var W g2 (o2 + q * 32) z (rng_after ry hg2 hW) hy
          have HPW := Lib.hid fun (W : World) (hW : Below w1.heap.size w1 W) => HP.out.after hW
          go_wp2_with fail
          refine AnyH.start 11 (fun W => Below w1.heap.size w1 W) (by kernel_rfl) rfl ?_
          have hSD := HBD.out
          refine AnyH.take (i := 0) (v := ?_) rfl (by kernel_rfl) (fun _ _ _ h => h) rfl ?_ hSD ?_
          rotate_left
          (intro w hS; go_simp; with_reducible rfl)
          try simp only [Act.put, List.setIfInBounds_toArray, List.set_cons_zero, List.set_cons_succ]
          refine AnyH.take (i := 2) (v := ?_) rfl (by kernel_rfl) (fun _ _ _ h => h) rfl ?_ hSD ?_
          rotate_left
          (intro w hS; go_simp; with_reducible rfl)
          try simp only [Act.put, List.setIfInBounds_toArray, List.set_cons_zero, List.set_cons_succ]
          refine AnyH.take (i := 3) (v := ?_) rfl (by kernel_rfl) (fun _ _ _ h => h) rfl ?_ hSD ?_
          rotate_left
          (intro w hS; have hp := HPW.out w hS; have p1 := hp.cell 1; simp at p1; go_simp; with_reducible rfl)
          try simp only [Act.put, List.setIfInBounds_toArray, List.set_cons_zero, List.set_cons_succ]
          refine AnyH.take (i := 4) (v := ?_) rfl (by kernel_rfl) (fun _ _ _ h => h) rfl ?_ hSD ?_
          rotate_left
          (intro w hS; go_simp; with_reducible rfl)
          try simp only [Act.put, List.setIfInBounds_toArray, List.set_cons_zero, List.set_cons_succ]
          refine AnyH.take (i := 5) (v := ?_) rfl (by kernel_rfl) (fun _ _ _ h => h) rfl ?_ hSD ?_
          rotate_left
          (intro w hS; go_simp; with_reducible rfl)
          try simp only [Act.put, List.setIfInBounds_toArray, List.set_cons_zero, List.set_cons_succ]
          refine AnyH.long (i := 6) 37 (.agg (hc z).toArray) rfl (by kernel_rfl) (fun _ _ _ h => h) rfl rfl rfl (fun w hS => LD.out w hS) hSD ?_
          try simp only [Act.put, List.setIfInBounds_toArray, List.set_cons_zero, List.set_cons_succ]
          refine AnyH.load_make (i := 1) (j := 7) (v := .slice HA (restOf kn l hs q).length hcp) (b := .slice (some ⟨wr.drew.heap.size, 0, none⟩) 1 1) (w' := wr.drew.alloc (.cells (hc z).toArray 37)) rfl rfl (by kernel_rfl) (by kernel_rfl) (by kernel_rfl) rfl rfl rfl rfl ?_ ?_ ?_ ?_ hSD ?_ (by kernel_rfl) rfl ?_
          · have x0 := HPD.out.blk.cell 2
            simp at x0
            go_simp
          · exact run_build_hash z hy _ rfl rfl _
          · exact run_build_hash z hy _ rfl rfl _
          · have x0 := (HPH.out.blk.alloc (.cells (hc z).toArray 37)).cell 2
            simp at x0
            go_simp
          · exact hSD.alloc (by omega) _
          try simp only [Act.put, List.setIfInBounds_toArray, List.set_cons_zero, List.set_cons_succ]
          obtain ⟨A', c', W', hrun, hown, hgr⟩ := grow_hash HPD.out.ha (by omega) z hy (by have := rest_len kn l hs q; omega)
          obtain ⟨PN, BN⟩ := HPD.out.hash hgr hown
          have HTN := Lib.hid (fun u => row_far ((row_after18 HTR.out (Below.refl _ _).drew).kept hgr (rows_apart (row_after18 HTR.out (Below.refl _ _).drew) HPD.out.ha.1 (by decide))) (Nat.lt_succ_self w1.heap.size) 2 u)
          have hb' := HPD.out.blk.low hgr (row_low HPD.out.ha.1 (Nat.lt_succ_self _))
          have y2 := hb'.cell 2
          simp at y2
          have fy := hb'.free
          have ly := hb'.lt
          refine AnyH.one (i := 8) (by kernel_rfl) ⟨_, _, W', rfl, rfl, comes_append (.tmp 55) (.tmp 61) _ rfl rfl rfl hrun, hSD.grown hgr (by omega) (fun r e => by have := (HPD.out.ha.1.lt r e).1; omega), ?_⟩
          try simp only [Act.put, List.setIfInBounds_toArray, List.set_cons_zero, List.set_cons_succ]
          refine AnyH.one (i := 9) (by kernel_rfl) ⟨_, .pointer (some ⟨w1.heap.size, 2, none⟩), W', rfl, rfl, .inl (by go_simp), hSD.grown hgr (by omega) (fun r e => by have := (HPD.out.ha.1.lt r e).1; omega), ?_⟩
          try simp only [Act.put, List.setIfInBounds_toArray, List.set_cons_zero, List.set_cons_succ]
          refine AnyH.one (i := 10) (by kernel_rfl) ⟨_, undef, W'.setCell ⟨w1.heap.size, 2, none⟩ (.slice A' ((restOf kn l hs q).length + 1) c'), rfl, rfl, comes_store (.tmp 63) (.tmp 62) rfl rfl rfl (by go_simp), hSD.trans BN, ?_⟩
          try simp only [Act.put]
          refine wpAnyH_done (by kernel_rfl) ?_ _
          have HPN := Lib.hid PN
          have HBN := Lib.hid (hSD.trans BN)
          clear PN BN hb' y2 fy ly hrun hown hgr
          go_wp2_with fail
          exact ⟨⟨q + 1, by omega, by go_num, ⟨_, _, by rw [GY.out, RY.out]; exact HPN.out⟩, HTN.out _, HBN.out⟩, by simp [intOf]; omega⟩
      · obtain rfl : q = l.length := by omega
        have hbx := HPH.out.blk
        have lx := hbx.lt
        have x0 := hbx.cell 0
        have x1 := hbx.cell 1
        have x2 := hbx.cell 2
        simp at x0 x1 x2
        have HRR := Lib.hid (HR.out.after HBR.out)
        have r0 := HRR.out.cell 0
        have r1 := HRR.out.cell 1
        have r2 := HRR.out.cell 2
        simp at r0 r1 r2
        have fr := HRR.out.free
        have lr := HRR.out.lt
        go_wp2_with fail
        refine bodyPost_ret (v := .tuple #[.agg #[.slice T ts.length cT, .slice GA (gapsOf kn l l.length).length gc, .slice HA (restOf kn l hs l.length).length hcp], .int .i64 0]) ?_ rfl ?_
        · have b0 := (((HRR.out.put 0 (.slice T ts.length cT)).put 1 (.slice GA (gapsOf kn l l.length).length gc)).put 2 (.slice HA (restOf kn l hs l.length).length hcp))
          have z0 := b0.cell 0
          have z1 := b0.cell 1
          have z2 := b0.cell 2
          simp at z0 z1 z2
          simp [results, Try.results8, go_sem, z0, z1, z2]
        have hb3 : Below w.heap.size w (((wr.setCell ⟨w.heap.size + 1, 0, none⟩ (.slice T ts.length cT)).setCell ⟨w.heap.size + 1, 1, none⟩ (.slice GA (gapsOf kn l l.length).length gc)).setCell ⟨w.heap.size + 1, 2, none⟩ (.slice HA (restOf kn l hs l.length).length hcp)) := (((HB.out.trans (HBR.out.mono HB.out.size)).setCell (by simp) _).setCell (by simp) _).setCell (by simp) _
        exact .inr ⟨l, hv, hl, HLL.out, T, cT, GA, gc, HA, hcp, rfl, OwnU.at (row_far (row_far (row_far HTR.out (by omega) _ _) (by omega) _ _) (by omega) _ _) rfl,
          IntG.own (row_far (row_far (row_far HPH.out.ga (by omega) _ _) (by omega) _ _) (by omega) _ _) rfl, HashG.own ⟨row_far (row_far (row_far HPH.out.ha.1 (by omega) _ _) (by omega) _ _) (by omega) _ _, HPH.out.ha.2⟩ rfl, ⟨row_cap HPH.out.ga, row_cap HPH.out.ha.1⟩, hb3⟩
  · have hne : ((l.length : Int) != hs.length) = true := by rw [bne_iff_ne]; omega
    go_wp2_with fail
    refine bodyPost_ret (v := .tuple #[.agg #[.slice none 0 0, .slice none 0 0, .slice none 0 0], .int .i64 33]) ?_ rfl ?_
    · have b0 := (((HR.out.put 0 (.slice none 0 0)).put 1 (.slice none 0 0)).put 2 (.slice none 0 0))
      have z0 := b0.cell 0
      have z1 := b0.cell 1
      have z2 := b0.cell 2
      simp at z0 z1 z2
      simp [results, Try.results8, go_sem, z0, z1, z2]
    exact .inl ⟨.inr ⟨l, hl, hll⟩, rfl, ((HB.out.setCell (by simp) _).setCell (by simp) _).setCell (by simp) _⟩
end Go.Proofs.Ytnokhajjcjfbpaa
