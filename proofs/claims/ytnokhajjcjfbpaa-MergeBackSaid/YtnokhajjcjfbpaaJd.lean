/- Hj, Hk in one (merge.py): a claim holds at most 60 files. -/
import Derived.Test.YtnokhajjcjfbpaaJc
import Derived.Test.YtnokhajjcjfbpaaJb
import Derived.Deep.DeepCutAuto
/- merge.Fill. -/
namespace Go.Proofs.Ytnokhajjcjfbpaa
open Go.RowKit Go.Shelf

theorem IntG.tail {W : World} {ad : Addr} {zs : List Int} (h : IntG W (some ad) zs) : IntG W (some ⟨ad.block, ad.off + 1, none⟩) (zs.drop 1) := fun k hk => by
  rw [List.length_drop] at hk
  obtain ⟨ad', e, h1, h2⟩ := h (k + 1) (by omega)
  injection e with e
  subst e
  refine ⟨_, rfl, h1, ?_⟩
  rw [List.getElem?_drop, Nat.add_comm 1 k, ← h2]
  congr 1
  unfold Addr.add
  rw [if_neg (Nat.succ_ne_zero k)]
  split
  · rename_i h0
    subst h0
    rfl
  · simp
    omega
theorem HashG.tail {W : World} {b o : Nat} {hs : List (List Int)} (h : HashG W (some ⟨b, o, none⟩) hs) : HashG W (some ⟨b, o + 32, none⟩) (hs.drop 1) := by
  refine ⟨fun k x hk => ?_, fun y hy => h.2 y (List.mem_of_mem_drop hy)⟩
  rw [List.map_drop, List.getElem?_drop, Nat.add_comm 1 k] at hk
  obtain ⟨b', o', e, h1, h2⟩ := h.1 (k + 1) x hk
  cases e
  refine ⟨_, _, rfl, h1, ?_⟩
  rw [show o + 32 + k * 32 = o + (k + 1) * 32 by omega]
  exact h2
theorem wpList_of_run {ops : Array Oper} {rest : List Oper} {o : Oper} {a : Act} {w w' : World} {v : Value} {Q : Exit → Act → World → Prop} (hgd : o.guard = none) (hrun : (execOp a.eval o).run Try.prog w = .ok (.value v) w') (h : wpList Try.prog ops Q rest (a.put o.dst v) w') : wpList Try.prog ops Q (o :: rest) a w := by
  refine wpList_plain hgd fun K hK => ?_
  unfold Oper.wp
  rw [hrun]
  exact hK _ _ h

theorem run_load_long {o : Oper} {a : Act} {w : World} (t : TypeId) (v : Value) {x : Operand} {p : Addr} (ho : o.op = .load t x) (hx : a.eval x = .pointer (some p)) (h : (loadVar t p).run Try.prog w = .ok v w) : (execOp a.eval o).run Try.prog w = .ok (.value v) w := by
  unfold execOp
  simp only [ho, hx, Instr.loadAt, Instr.sureAddr, Sem.run_bind, Sem.run_pure, Result.andThen_ok, h]

set_option maxRecDepth 100000 in
set_option maxHeartbeats 2000000 in
theorem fill_no (n : Nat) (ts : List Nat) (A B C : Option Addr) (b c a' b' c' : Nat) (F : Value) (w : World) (hnu : (n : Int) ≤ 18446744073709551615) (hlen : ts.length ≤ 1000) (hu : ∀ t ∈ ts, (t : Int) ≤ 18446744073709551615) (hts : SliceG w A ts) (hv : ¬ Valid n ts) :
    Calls Try.prog 9 #[.int .u64 n, .agg #[.slice A ts.length a', .slice B b b', .slice C c c'], F] w (FillErr w) := by
  have ND := Lib.hid fun w h => need_no n ts A a' w hnu hlen hu h hv
  have HT := Lib.hid hts
  clear hts hu hv
  go_enter Try.func9, Try.ntmps9
  go_wp2_with fail
  refine (ND.out _ (HT.out.after (by repeat' (first | exact Below.refl _ _ | refine bel_drewN ?_ _ | refine Below.drew ?_ | refine Below.alloc ?_ ?_ _ | refine Below.setCell ?_ ?_ _ | exact Nat.le_refl _ | (simp; done) | (simp; omega) | assumption)))).mono ?_
  rintro e w1 ⟨rfl, hb1⟩
  have HR := Lib.hid ((show IsBlk _ (w.heap.size + 1) 26 #[.slice none 0 0, .slice none 0 0] from by repeat' (first | with_reducible assumption | with_reducible refine IsBlk.drewN ?_ _ | with_reducible refine IsBlk.drew ?_ | with_reducible refine IsBlk.newAt _ _ ?_ | with_reducible refine IsBlk.alloc ?_ _ | with_reducible refine IsBlk.far ?_ ?_ _ | (simp; done) | (simp; omega))).after hb1)
  have HB := Lib.hid (show Below w.heap.size w w1 from Below.trans (by repeat' (first | exact Below.refl _ _ | refine bel_drewN ?_ _ | refine Below.drew ?_ | refine Below.alloc ?_ ?_ _ | refine Below.setCell ?_ ?_ _ | exact Nat.le_refl _ | (simp; done) | (simp; omega) | assumption)) (hb1.mono (by simp; omega)))
  clear hb1
  have r0 := HR.out.cell 0
  have r1 := HR.out.cell 1
  simp at r0 r1
  have fr := HR.out.free
  have lr := HR.out.lt
  go_wp2_with fail
  refine bodyPost_ret (v := .tuple #[.agg #[.slice none 0 0, .slice none 0 0], .int .i64 33]) ?_ rfl ?_
  · have b0 := ((HR.out.put 0 (.slice none 0 0)).put 1 (.slice none 0 0))
    have z0 := b0.cell 0
    have z1 := b0.cell 1
    simp at z0 z1
    simp [results, Try.results9, go_sem, z0, z1]
  exact ⟨rfl, (HB.out.setCell (by simp) _).setCell (by simp) _⟩

set_option maxRecDepth 100000 in
set_option maxHeartbeats 8000000 in
theorem fill_yes (n : Nat) (ts : List Nat) (gs : List Int) (hs : List (List Int)) (lk : Nat → Option (List Int)) (A B C : Option Addr) (a' b' c' : Nat) (F : Value) (w : World) (hlen : ts.length ≤ 1000) (hgl : gs.length ≤ 100000) (hhl : hs.length ≤ 100000) (hts : SliceG w A ts) (hgs : IntG w B gs) (hhs : HashG w C hs)
    (hgb : gs.length ≤ b') (hhc : hs.length ≤ c') (hF : (F = .nilFunc ∧ ∀ p, lk p = none) ∨ ∃ (K : Option Addr) (ck : Nat) (kn : List (Nat × List Int)), F = .func (.func 10) #[.agg #[.slice K kn.length ck]] #[] ∧ KnownG w K kn ∧ kn.length ≤ 1000000 ∧ lk = look kn) (hv : Valid n ts) :
    Calls Try.prog 9 #[.int .u64 n, .agg #[.slice A ts.length a', .slice B gs.length b', .slice C hs.length c'], F] w (FillRet n ts gs hs lk w) := by
  have ND := Lib.hid fun w h => need_yes n ts A a' w hlen h hv
  have HT := Lib.hid hts
  have HG := Lib.hid hgs
  have HH := Lib.hid hhs
  clear hts hgs hhs
  go_enter Try.func9, Try.ntmps9
  go_wp2_with fail
  refine (ND.out _ (HT.out.after (by repeat' (first | exact Below.refl _ _ | refine bel_drewN ?_ _ | refine Below.drew ?_ | refine Below.alloc ?_ ?_ _ | refine Below.setCell ?_ ?_ _ | exact Nat.le_refl _ | (simp; done) | (simp; omega) | assumption)))).mono ?_
  rintro e w1 ⟨nl, hnl, hok⟩
  obtain ⟨A1, c1, rfl, hs1, hb1⟩ := hok.at
  clear hok
  have HS1 := Lib.hid hs1
  clear hs1
  have HP := Lib.hid ((show IsBlk _ w.heap.size 31 #[.slice A ts.length a', .slice B gs.length b', .slice C hs.length c'] from by repeat' (first | with_reducible assumption | with_reducible refine IsBlk.drewN ?_ _ | with_reducible refine IsBlk.drew ?_ | with_reducible refine IsBlk.newAt _ _ ?_ | with_reducible refine IsBlk.alloc ?_ _ | with_reducible refine IsBlk.far ?_ ?_ _ | (simp; done) | (simp; omega))).after hb1)
  have HR := Lib.hid ((show IsBlk _ (w.heap.size + 1) 26 #[.slice none 0 0, .slice none 0 0] from by repeat' (first | with_reducible assumption | with_reducible refine IsBlk.drewN ?_ _ | with_reducible refine IsBlk.drew ?_ | with_reducible refine IsBlk.newAt _ _ ?_ | with_reducible refine IsBlk.alloc ?_ _ | with_reducible refine IsBlk.far ?_ ?_ _ | (simp; done) | (simp; omega))).after hb1)
  have HB := Lib.hid (show Below w.heap.size w w1 from Below.trans (by repeat' (first | exact Below.refl _ _ | refine bel_drewN ?_ _ | refine Below.drew ?_ | refine Below.alloc ?_ ?_ _ | refine Below.setCell ?_ ?_ _ | exact Nat.le_refl _ | (simp; done) | (simp; omega) | assumption)) (hb1.mono (by simp; omega)))
  clear hb1
  have r0 := HR.out.cell 0
  have r1 := HR.out.cell 1
  have p0 := HP.out.cell 0
  have p1 := HP.out.cell 1
  have p2 := HP.out.cell 2
  simp at r0 r1 p0 p1 p2
  have fr := HR.out.free
  have lr := HR.out.lt
  have lp : w.heap.size < w1.heap.size := by omega
  have hl64 := need_short hnl
  go_wp2_with fail
  refine (gapped_any gs B b' nl.length hs.length w1 (by omega) (by omega) (by omega) (HG.out.after HB.out)).mono ?_
  rintro e w' ⟨rfl, rfl⟩
  by_cases hgg : Gaps gs nl.length ∧ gs.length + hs.length = nl.length
  · rw [decide_eq_true hgg]
    have HGG := Lib.hid hgg
    clear hgg
    go_wp2_with fail
    refine (clone_any ts A a' w1 (by omega) (HT.out.after HB.out)).mono ?_
    rintro e w2 ⟨T, cT, rfl, hT, hb2⟩
    have HTT := Lib.hid hT
    have HP2 := Lib.hid (HP.out.after hb2)
    have HR2 := Lib.hid (HR.out.after hb2)
    have HS2 := Lib.hid (HS1.out.after hb2)
    have HB2 := Lib.hid (HB.out.trans (hb2.mono HB.out.size))
    have hz2 := hb2.size
    have lr0 := lr
    clear hb2 hT r0 r1 p0 p1 p2 fr
    go_wp2_with fail
    refine wp_region_seq (S := fun W => ProofH W w2.heap.size (.slice T ts.length cT) [] (.slice none 0 0) ∧ Below w2.heap.size w2 W) (by kernel_rfl) (by kernel_rfl) ⟨⟨IsBlk.new _ _ _, OwnH.nil _ _⟩, ((Below.refl _ _).alloc (Nat.le_refl _) _).drew⟩ ?_
    have HST := Lib.hid (show ∀ W1 W2 : World, (ProofH W1 w2.heap.size (.slice T ts.length cT) [] (.slice none 0 0) ∧ Below w2.heap.size w2 W1) → Below W1.heap.size W1 W2 → (ProofH W2 w2.heap.size (.slice T ts.length cT) [] (.slice none 0 0) ∧ Below w2.heap.size w2 W2) from fun _ _ h hb => ⟨h.1.grown hb, h.2.trans (hb.mono (by have := h.2.size; omega))⟩)
    have HPW := Lib.hid fun (W : World) (hW : Below w2.heap.size w2 W) => HP2.out.after hW
    repeat (first
      | (refine SeqS.skip ?_ ?_; rfl; (try simp only [Act.put, List.setIfInBounds_toArray, List.set_cons_zero, List.set_cons_succ]))
      | (refine SeqS.take (v := ?_) ?_ ?_ ?_; rotate_left; rfl; (intro w hS; have hp := HPW.out w hS.2; have p1 := hp.cell 1; have p2 := hp.cell 2; simp at p1 p2; go_simp; with_reducible rfl); (try simp only [Act.put, List.setIfInBounds_toArray, List.set_cons_zero, List.set_cons_succ]))
      | (refine SeqS.call (v := ?_) (f := ?_) (args := ?_) ?_ ?_ ?_ ?_; rotate_left 3; rfl; (intro w hS; have hp := HPW.out w hS.2; have p1 := hp.cell 1; have p2 := hp.cell 2; simp at p1 p2; go_simp; (first | with_reducible rfl | (refine ⟨?_, ?_⟩ <;> with_reducible rfl))); (intro w hS; first | ((with_reducible refine (KK.out _).mono ?_); rintro e w' ⟨rfl, hb⟩; refine ⟨?_, HST.out _ _ hS hb⟩; with_reducible rfl)); (try simp only [Act.put, List.setIfInBounds_toArray, List.set_cons_zero, List.set_cons_succ])))
    refine SeqS.done ?_
    rintro w3 ⟨hph3, hbel3⟩
    go_wp2_with fail
    have HUP := Lib.hid HGG.out.1.up
    have HGE := Lib.hid fun g (hg : g ∈ gs) => (HGG.out.1.in hg).1
    have c00 : cnt gs 0 = 0 := by have := cnt_le HUP.out HGE.out 0; omega
    go_loopw [11, 12, 48] (fun g h v wr => ∃ (i a b : Nat) (out : List (List Int)) (A' : Option Addr) (ca : Nat) (B' : Option Addr) (cb : Nat), i ≤ nl.length ∧ v = .int .i64 i ∧ a = cnt gs i ∧ b = i - cnt gs i ∧ g = .slice A' (gs.length - a) ca ∧ gs.length - a ≤ ca ∧ h = .slice B' (hs.length - b) cb ∧ hs.length - b ≤ cb ∧
      IntG w2 A' (gs.drop a) ∧ HashG w2 B' (hs.drop b) ∧ fillOf gs hs lk nl i = some out ∧ (∃ H, ProofH wr w2.heap.size (.slice T ts.length cT) out H) ∧ Below w2.heap.size w2 wr) (fun _ _ v _ => nl.length - (intOf v).toNat)
    case atStart => exact ⟨0, 0, 0, [], B, b', C, c', by omega, rfl, c00.symm, by omega, rfl, by omega, rfl, by omega, by simpa using HG.out.after HB2.out, by simpa using HH.out.after HB2.out, rfl, ⟨_, hph3⟩, hbel3⟩
    case round =>
      obtain ⟨i, a, b, out, A', ca, B', cb, hi, rfl, ha, hb, rfl, hca, rfl, hcb, hig, hhg, hfo, ⟨H, hph⟩, hbel⟩ := hrel
      obtain ⟨la, hla⟩ : ∃ la, la = gs.length - a := ⟨_, rfl⟩
      obtain ⟨lb, hlb⟩ : ∃ lb, lb = hs.length - b := ⟨_, rfl⟩
      rw [← hla] at hca ⊢
      rw [← hlb] at hcb ⊢
      have HFO := Lib.hid hfo
      have HIG := Lib.hid hig
      have HHG := Lib.hid hhg
      have HBR := Lib.hid hbel
      have hzr := hbel.size
      obtain ⟨HA, hcp, rfl⟩ := row_shape hph.ha.1
      have HPH := Lib.hid hph
      have HOL := Lib.hid (fill_len hfo)
      clear hph hbel hfo hig hhg
      by_cases hlt : i < nl.length
      · obtain ⟨g1, rfl, hg1, hc1⟩ := (HS2.out.after HBR.out) i hlt
        have hx : nl[i]? = some nl[i] := List.getElem?_eq_getElem hlt
        rw [hx] at hc1
        simp only [Option.map_some] at hc1
        have HX := Lib.hid hx
        clear hx
        generalize nl[i] = x at *
        have i1 : (i : Int) < nl.length := by omega
        by_cases hm : (i : Int) ∈ gs
        · have hh := cnt_hit HUP.out hm
          rw [← ha] at hh
          have hal := (List.getElem?_eq_some_iff.1 hh).1
          obtain ⟨ad, rfl, hd1, hd2⟩ := (HIG.out.after HBR.out) 0 (by rw [List.length_drop]; omega)
          rw [List.getElem?_drop, Nat.add_zero, hh] at hd2
          simp [Addr.add] at hd2
          have la0 : 0 < la := by omega
          have la1 : la ≠ 0 := by omega
          have ca1 : 1 ≤ ca := by omega
          have HM := Lib.hid hm
          have HH1 := Lib.hid hh
          have HA1 := Lib.hid ha
          have HB1 := Lib.hid hb
          have HLA := Lib.hid hla
          have HLB := Lib.hid hlb
          clear hm hh ha hb hla hlb
          go_upto_region 12 with (fail)
          go_cut [11] (fun s wx => ∃ A2 : Option Addr, s = .slice A2 (la - 1) (ca - 1) ∧ IntG w2 A2 (gs.drop (a + 1)) ∧ wx = wr)
          case first =>
            by_cases hc2 : ca = 1
            · subst hc2
              go_wp2_with fail
              go_meet
              refine ⟨some ad, ?_, fun k hk => ?_, rfl⟩
              · have : la - 1 = 0 := by omega
                rw [this]
              · rw [List.length_drop] at hk
                have := HLA.out
                omega
            · have hc3 : ¬ (ca : Int) = 1 := by omega
              go_wp2_with fail
              go_meet
              have h1 := HIG.out.tail
              rw [List.drop_drop] at h1
              exact ⟨_, rfl, h1, rfl⟩
          case rest =>
            obtain ⟨A2, rfl, hi2, rfl⟩ := hcut
            have HI2 := Lib.hid hi2
            clear hi2
            have HRR := Lib.hid (HR2.out.after HBR.out)
            have r0 := HRR.out.cell 0
            have r1 := HRR.out.cell 1
            simp at r0 r1
            have fr := HRR.out.free
            have lr := HRR.out.lt
            rcases hF with ⟨rfl, hlk⟩ | ⟨K, ck, kn, rfl, hkn, hkl, rfl⟩
            · have hq : ∀ w, (binOp .eql 47 .nilFunc .nilFunc).run Try.prog w = .ok (.bool true) w := fun w => by kernel_rfl
              go_wp2_with fail
              refine bodyPost_ret (v := .tuple #[.agg #[.slice none 0 0, .slice none 0 0], .int .i64 33]) ?_ rfl ?_
              · have b0 := ((HRR.out.put 0 (.slice none 0 0)).put 1 (.slice none 0 0))
                have z0 := b0.cell 0
                have z1 := b0.cell 1
                simp at z0 z1
                simp [results, Try.results9, go_sem, z0, z1]
              exact .inr ⟨nl, hv, hnl, .inr ⟨HGG.out, .inl ⟨fill_stop HFO.out HX.out HM.out (hlk x), rfl, (((HB2.out.trans (HBR.out.mono HB2.out.size)).setCell (by simp) _).setCell (by simp) _)⟩⟩⟩
            · have hq : ∀ w, (binOp .eql 47 (.func (.func 10) #[.agg #[.slice K kn.length ck]] #[]) .nilFunc).run Try.prog w = .ok (.bool false) w := fun w => by kernel_rfl
              go_wp2_with fail
              refine (at_any kn K ck x wc hkl ((hkn.after HB2.out).after HBR.out)).mono ?_
              rintro e w4 ⟨hr, hb4⟩
              rcases hr with ⟨y, hy, rfl, hl⟩ | ⟨⟨y, hy, rfl⟩, hl⟩
              · have HL := Lib.hid hl
                clear hl r0 r1 fr lr
                go_upto_region 18 with (refine wpList_store_hash rfl (.tmp 15) (.tmp 82) rfl w4.heap.size _ y rfl rfl hy (IsBlk.new _ _ _) rfl ?_; intro wz hz1 hz2; have HBZ := Lib.hid (show Below wc.heap.size wc wz from hb4.trans (((Below.refl wc.heap.size w4).alloc (by have := hb4.size; omega) _).trans (hz2.mono (by have := hb4.size; omega)))); have HPZ := Lib.hid (HPH.out.grown HBZ.out); have x1 := HPZ.out.blk.cell 1; simp at x1; have lx1 := HPZ.out.blk.lt; have HZ1 := Lib.hid hz1; clear hz1 hz2)
                have HLD := Lib.hid (show (loadVar 37 ⟨w4.heap.size, 0, none⟩).run Try.prog wz = .ok (.agg (hc y).toArray) wz from blk_hash HZ1.out hy)
                obtain ⟨A3, c3, w6, hrun, hown, hgr⟩ := grow_hash HPZ.out.ha (by omega) y hy (by have := HOL.out; omega)
                have HRUN := Lib.hid hrun
                have hb6 := HPZ.out.blk.low hgr (row_low HPZ.out.ha.1 (Nat.lt_succ_self _))
                have y1 := hb6.cell 1
                simp at y1
                have fy := hb6.free
                have ly := hb6.lt
                have PB := Lib.hid (HPZ.out.hash hgr hown)
                clear hrun hown hgr hb6
                refine wp_region_lit ?_
                refine wpList_of_run (w' := wz) rfl (v := .pointer (some ⟨w2.heap.size, 1, none⟩)) (by go_simp) ?_
                try simp only [Act.put, List.setIfInBounds_toArray, List.set_cons_zero, List.set_cons_succ]
                refine wpList_of_run (w' := wz) rfl (v := .slice HA out.length hcp) (by go_simp) ?_
                try simp only [Act.put, List.setIfInBounds_toArray, List.set_cons_zero, List.set_cons_succ]
                refine wpList_of_run (w' := wz) rfl (run_load_long 37 _ rfl rfl HLD.out) ?_
                try simp only [Act.put, List.setIfInBounds_toArray, List.set_cons_zero, List.set_cons_succ]
                refine wpList_of_run rfl (run_build_hash y hy _ rfl rfl _) ?_
                try simp only [Act.put, List.setIfInBounds_toArray, List.set_cons_zero, List.set_cons_succ]
                refine wpList_append_run rfl (.tmp 88) (.tmp 90) 23 rfl rfl rfl HRUN.out ?_
                try simp only [Act.put, List.setIfInBounds_toArray, List.set_cons_zero, List.set_cons_succ]
                obtain ⟨PN, BN⟩ := PB.out
                have HPN := Lib.hid PN
                have HBN := Lib.hid ((HBR.out.trans (HBZ.out.mono (by omega))).trans BN)
                clear PN BN
                go_wp2_with fail
                have hcs := cnt_succ i HUP.out
                rw [if_pos HM.out, ← HA1.out] at hcs
                have q1 := HA1.out
                have q2 := HB1.out
                have q3 := HLA.out
                have q4 := HLB.out
                have q5 := cnt_le HUP.out HGE.out (i + 1)
                refine ⟨⟨i + 1, a + 1, b, out ++ [y], A2, ca - 1, B', cb, by omega, by go_num, hcs.symm, by omega, by rw [show gs.length - (a + 1) = la - 1 by omega], by omega, by rw [← q4], by omega, HI2.out, HHG.out, fill_gap HFO.out HX.out HM.out HL.out, ⟨.slice A3 (out.length + 1) c3, ?_⟩, HBN.out⟩, by simp [intOf]; omega⟩
                exact HPN.out
              · have HL := Lib.hid hl
                clear hl
                go_upto_region 17 with (refine wpList_store_hash rfl (.tmp 15) (.tmp 82) rfl w4.heap.size _ y rfl rfl hy (IsBlk.new _ _ _) rfl ?_; intro wz hz1 hz2; have HBZ := Lib.hid (show Below wc.heap.size wc wz from hb4.trans (((Below.refl wc.heap.size w4).alloc (by have := hb4.size; omega) _).trans (hz2.mono (by have := hb4.size; omega)))); have HRZ := Lib.hid (HRR.out.after HBZ.out); clear hz1 hz2)
                have r0 := HRZ.out.cell 0
                have r1 := HRZ.out.cell 1
                simp at r0 r1
                have fr := HRZ.out.free
                have lr := HRZ.out.lt
                go_wp2_with fail
                refine bodyPost_ret (v := .tuple #[.agg #[.slice none 0 0, .slice none 0 0], .int .i64 33]) ?_ rfl ?_
                · have b0 := ((HRZ.out.put 0 (.slice none 0 0)).put 1 (.slice none 0 0))
                  have z0 := b0.cell 0
                  have z1 := b0.cell 1
                  simp at z0 z1
                  simp [results, Try.results9, go_sem, z0, z1]
                exact .inr ⟨nl, hv, hnl, .inr ⟨HGG.out, .inl ⟨fill_stop HFO.out HX.out HM.out HL.out, rfl, ((((HB2.out.trans (HBR.out.mono HB2.out.size)).trans (HBZ.out.mono (by omega))).setCell (by simp) _).setCell (by simp) _)⟩⟩⟩
        · have hrl := rest_lt HGG.out.1 HGG.out.2 hlt hm
          rw [← hb] at hrl
          have lb0 : 0 < lb := by omega
          have cb1 : 1 ≤ cb := by omega
          have hz : hs[b]? = some (hs[b]'hrl) := List.getElem?_eq_getElem hrl
          have HZE := Lib.hid hz
          obtain ⟨g2, o2, rfl, hg2, ry, hy⟩ := HHG.out.at (k := 0) (x := hs[b]'hrl) (by rw [List.getElem?_drop, Nat.add_zero, hz])
          rw [Nat.zero_mul, Nat.add_zero] at ry
          clear hz
          generalize hs[b]'hrl = z at *
          have HPD := Lib.hid (HPH.out.grown (Below.refl _ _).drew)
          have HBD := Lib.hid (HBR.out.drew)
          have lx : w2.heap.size + 1 ≤ wr.drew.heap.size := HPD.out.blk.lt
          have LD := Lib.hid fun (W : World) (hW : Below w2.heap.size w2 W) => hash_var W g2 o2 z (rng_after ry hg2 hW) hy
          have HM := Lib.hid hm
          have HA1 := Lib.hid ha
          have HB1 := Lib.hid hb
          have HLA := Lib.hid hla
          have HLB := Lib.hid hlb
          have HRL := Lib.hid hrl
          clear hm ha hb hla hlb hrl ry
          by_cases hl0 : la = 0
          · have la1 : (la : Int) = 0 := by omega
            go_upto_region 10 with (fail)
            refine AnyH.start 9 (fun W => Below w2.heap.size w2 W) (by kernel_rfl) rfl ?_
            have hSD := HBD.out
            refine AnyH.take (i := 0) (v := ?_) rfl (by kernel_rfl) (fun _ _ _ h => h) rfl ?_ hSD ?_
            rotate_left
            (intro w hS; go_simp; with_reducible rfl)
            try simp only [Act.put, List.setIfInBounds_toArray, List.set_cons_zero, List.set_cons_succ]
            refine AnyH.take (i := 2) (v := ?_) rfl (by kernel_rfl) (fun _ _ _ h => h) rfl ?_ hSD ?_
            rotate_left
            (intro w hS; go_simp; with_reducible rfl)
            try simp only [Act.put, List.setIfInBounds_toArray, List.set_cons_zero, List.set_cons_succ]
            refine AnyH.take (i := 3) (v := ?_) rfl (by kernel_rfl) (fun _ _ _ h => h) rfl ?_ hSD ?_
            rotate_left
            (intro w hS; go_simp; with_reducible rfl)
            try simp only [Act.put, List.setIfInBounds_toArray, List.set_cons_zero, List.set_cons_succ]
            refine AnyH.long (i := 4) 37 (.agg (hc z).toArray) rfl (by kernel_rfl) (fun _ _ _ h => h) rfl rfl rfl (fun w hS => LD.out w hS) hSD ?_
            try simp only [Act.put, List.setIfInBounds_toArray, List.set_cons_zero, List.set_cons_succ]
            refine AnyH.load_make (i := 1) (j := 5) (v := .slice HA out.length hcp) (b := .slice (some ⟨wr.drew.heap.size, 0, none⟩) 1 1) (w' := wr.drew.alloc (.cells (hc z).toArray 37)) rfl rfl (by kernel_rfl) (by kernel_rfl) (by kernel_rfl) rfl rfl rfl rfl ?_ ?_ ?_ ?_ hSD ?_ (by kernel_rfl) rfl ?_
            · have x0 := HPD.out.blk.cell 1
              simp at x0
              go_simp
            · exact run_build_hash z hy _ rfl rfl _
            · exact run_build_hash z hy _ rfl rfl _
            · have x0 := (HPH.out.blk.alloc (.cells (hc z).toArray 37)).cell 1
              simp at x0
              go_simp
            · exact hSD.alloc (by omega) _
            try simp only [Act.put, List.setIfInBounds_toArray, List.set_cons_zero, List.set_cons_succ]
            obtain ⟨A3, c3, W', hrun, hown, hgr⟩ := grow_hash HPD.out.ha (by omega) z hy (by have := HOL.out; omega)
            obtain ⟨PN, BN⟩ := HPD.out.hash hgr hown
            have hb' := HPD.out.blk.low hgr (row_low HPD.out.ha.1 (Nat.lt_succ_self _))
            have y2 := hb'.cell 1
            simp at y2
            have fy := hb'.free
            have ly := hb'.lt
            refine AnyH.one (i := 6) (by kernel_rfl) ⟨_, _, W', rfl, rfl, comes_append (.tmp 64) (.tmp 68) _ rfl rfl rfl hrun, hSD.grown hgr (by omega) (fun r e => by have := (HPD.out.ha.1.lt r e).1; omega), ?_⟩
            try simp only [Act.put, List.setIfInBounds_toArray, List.set_cons_zero, List.set_cons_succ]
            refine AnyH.one (i := 7) (by kernel_rfl) ⟨_, .pointer (some ⟨w2.heap.size, 1, none⟩), W', rfl, rfl, .inl (by go_simp), hSD.grown hgr (by omega) (fun r e => by have := (HPD.out.ha.1.lt r e).1; omega), ?_⟩
            try simp only [Act.put, List.setIfInBounds_toArray, List.set_cons_zero, List.set_cons_succ]
            refine AnyH.one (i := 8) (by kernel_rfl) ⟨_, undef, W'.setCell ⟨w2.heap.size, 1, none⟩ (.slice A3 (out.length + 1) c3), rfl, rfl, comes_store (.tmp 70) (.tmp 69) rfl rfl rfl (by go_simp), hSD.trans BN, ?_⟩
            try simp only [Act.put]
            refine wpAnyH_done (by kernel_rfl) ?_ _
            have HPN := Lib.hid PN
            have HBN := Lib.hid (hSD.trans BN)
            clear PN BN hb' y2 fy ly hrun hown hgr
            generalize W'.setCell ⟨w2.heap.size, 1, none⟩ (.slice A3 (out.length + 1) c3) = wn at *
            go_upto_region 11 with (fail)
            go_cut [12] (fun s wx => ∃ B2 : Option Addr, s = .slice B2 (lb - 1) (cb - 1) ∧ HashG w2 B2 (hs.drop (b + 1)) ∧ wx = wn)
            case first =>
              by_cases hc2 : cb = 1
              · subst hc2
                go_wp2_with fail
                go_meet
                refine ⟨some ⟨g2, o2, none⟩, ?_, ⟨fun k x hk => ?_, fun u hu => HHG.out.2 u ?_⟩, rfl⟩
                · have : lb - 1 = 0 := by omega
                  rw [this]
                · have := (List.getElem?_eq_some_iff.1 hk).1
                  rw [List.length_map, List.length_drop] at this
                  have := HLB.out
                  omega
                · rw [show b + 1 = b + 1 from rfl, ← List.drop_drop] at hu
                  exact List.mem_of_mem_drop hu
              · have hc3 : ¬ (cb : Int) = 1 := by omega
                go_wp2_with fail
                go_meet
                have h1 := HHG.out.tail
                rw [List.drop_drop] at h1
                exact ⟨_, rfl, h1, rfl⟩
            case rest =>
              obtain ⟨B2, rfl, hi2, rfl⟩ := hcut
              have HI2 := Lib.hid hi2
              clear hi2
              go_wp2_with fail
              have hcs := cnt_succ i HUP.out
              rw [if_neg HM.out, ← HA1.out] at hcs
              have q2 := HB1.out
              have q3 := HLA.out
              have q4 := HLB.out
              have q5 := cnt_le HUP.out HGE.out i
              have q6 := HA1.out
              refine ⟨⟨i + 1, a, b + 1, out ++ [z], _, ca, B2, cb - 1, by omega, by go_num, hcs.symm, by omega, by rw [← q3], by omega, by rw [show hs.length - (b + 1) = lb - 1 by omega], by omega, HIG.out, HI2.out, fill_rest HFO.out HM.out (by rw [← q2]; exact HZE.out), ⟨.slice A3 (out.length + 1) c3, ?_⟩, HBN.out⟩, by simp [intOf]; omega⟩
              exact HPN.out
          · have hal : a < gs.length := by have := HLA.out; omega
            have hh : gs[a]? = some gs[a] := List.getElem?_eq_getElem hal
            obtain ⟨ad, rfl, hd1, hd2⟩ := (HIG.out.after HBR.out) 0 (by rw [List.length_drop]; omega)
            rw [List.getElem?_drop, Nat.add_zero, hh] at hd2
            simp [Addr.add] at hd2
            have hne : ¬ (gs[a] : Int) = (i : Int) := fun e => HM.out (e ▸ List.getElem_mem hal)
            have la1 : ¬ (la : Int) = 0 := by omega
            have la2 : 0 < la := by omega
            clear hh
            generalize gs[a] = ga at *
            have hne2 : (ga != (i : Int)) = true := by rw [bne_iff_ne]; exact hne
            go_upto_region 10 with (fail)
            refine AnyH.start 9 (fun W => Below w2.heap.size w2 W) (by kernel_rfl) rfl ?_
            have hSD := HBD.out
            refine AnyH.take (i := 0) (v := ?_) rfl (by kernel_rfl) (fun _ _ _ h => h) rfl ?_ hSD ?_
            rotate_left
            (intro w hS; go_simp; with_reducible rfl)
            try simp only [Act.put, List.setIfInBounds_toArray, List.set_cons_zero, List.set_cons_succ]
            refine AnyH.take (i := 2) (v := ?_) rfl (by kernel_rfl) (fun _ _ _ h => h) rfl ?_ hSD ?_
            rotate_left
            (intro w hS; go_simp; with_reducible rfl)
            try simp only [Act.put, List.setIfInBounds_toArray, List.set_cons_zero, List.set_cons_succ]
            refine AnyH.take (i := 3) (v := ?_) rfl (by kernel_rfl) (fun _ _ _ h => h) rfl ?_ hSD ?_
            rotate_left
            (intro w hS; go_simp; with_reducible rfl)
            try simp only [Act.put, List.setIfInBounds_toArray, List.set_cons_zero, List.set_cons_succ]
            refine AnyH.long (i := 4) 37 (.agg (hc z).toArray) rfl (by kernel_rfl) (fun _ _ _ h => h) rfl rfl rfl (fun w hS => LD.out w hS) hSD ?_
            try simp only [Act.put, List.setIfInBounds_toArray, List.set_cons_zero, List.set_cons_succ]
            refine AnyH.load_make (i := 1) (j := 5) (v := .slice HA out.length hcp) (b := .slice (some ⟨wr.drew.heap.size, 0, none⟩) 1 1) (w' := wr.drew.alloc (.cells (hc z).toArray 37)) rfl rfl (by kernel_rfl) (by kernel_rfl) (by kernel_rfl) rfl rfl rfl rfl ?_ ?_ ?_ ?_ hSD ?_ (by kernel_rfl) rfl ?_
            · have x0 := HPD.out.blk.cell 1
              simp at x0
              go_simp
            · exact run_build_hash z hy _ rfl rfl _
            · exact run_build_hash z hy _ rfl rfl _
            · have x0 := (HPH.out.blk.alloc (.cells (hc z).toArray 37)).cell 1
              simp at x0
              go_simp
            · exact hSD.alloc (by omega) _
            try simp only [Act.put, List.setIfInBounds_toArray, List.set_cons_zero, List.set_cons_succ]
            obtain ⟨A3, c3, W', hrun, hown, hgr⟩ := grow_hash HPD.out.ha (by omega) z hy (by have := HOL.out; omega)
            obtain ⟨PN, BN⟩ := HPD.out.hash hgr hown
            have hb' := HPD.out.blk.low hgr (row_low HPD.out.ha.1 (Nat.lt_succ_self _))
            have y2 := hb'.cell 1
            simp at y2
            have fy := hb'.free
            have ly := hb'.lt
            refine AnyH.one (i := 6) (by kernel_rfl) ⟨_, _, W', rfl, rfl, comes_append (.tmp 64) (.tmp 68) _ rfl rfl rfl hrun, hSD.grown hgr (by omega) (fun r e => by have := (HPD.out.ha.1.lt r e).1; omega), ?_⟩
            try simp only [Act.put, List.setIfInBounds_toArray, List.set_cons_zero, List.set_cons_succ]
            refine AnyH.one (i := 7) (by kernel_rfl) ⟨_, .pointer (some ⟨w2.heap.size, 1, none⟩), W', rfl, rfl, .inl (by go_simp), hSD.grown hgr (by omega) (fun r e => by have := (HPD.out.ha.1.lt r e).1; omega), ?_⟩
            try simp only [Act.put, List.setIfInBounds_toArray, List.set_cons_zero, List.set_cons_succ]
            refine AnyH.one (i := 8) (by kernel_rfl) ⟨_, undef, W'.setCell ⟨w2.heap.size, 1, none⟩ (.slice A3 (out.length + 1) c3), rfl, rfl, comes_store (.tmp 70) (.tmp 69) rfl rfl rfl (by go_simp), hSD.trans BN, ?_⟩
            try simp only [Act.put]
            refine wpAnyH_done (by kernel_rfl) ?_ _
            have HPN := Lib.hid PN
            have HBN := Lib.hid (hSD.trans BN)
            clear PN BN hb' y2 fy ly hrun hown hgr
            generalize W'.setCell ⟨w2.heap.size, 1, none⟩ (.slice A3 (out.length + 1) c3) = wn at *
            go_upto_region 11 with (fail)
            go_cut [12] (fun s wx => ∃ B2 : Option Addr, s = .slice B2 (lb - 1) (cb - 1) ∧ HashG w2 B2 (hs.drop (b + 1)) ∧ wx = wn)
            case first =>
              by_cases hc2 : cb = 1
              · subst hc2
                go_wp2_with fail
                go_meet
                refine ⟨some ⟨g2, o2, none⟩, ?_, ⟨fun k x hk => ?_, fun u hu => HHG.out.2 u ?_⟩, rfl⟩
                · have : lb - 1 = 0 := by omega
                  rw [this]
                · have := (List.getElem?_eq_some_iff.1 hk).1
                  rw [List.length_map, List.length_drop] at this
                  have := HLB.out
                  omega
                · rw [show b + 1 = b + 1 from rfl, ← List.drop_drop] at hu
                  exact List.mem_of_mem_drop hu
              · have hc3 : ¬ (cb : Int) = 1 := by omega
                go_wp2_with fail
                go_meet
                have h1 := HHG.out.tail
                rw [List.drop_drop] at h1
                exact ⟨_, rfl, h1, rfl⟩
            case rest =>
              obtain ⟨B2, rfl, hi2, rfl⟩ := hcut
              have HI2 := Lib.hid hi2
              clear hi2
              go_wp2_with fail
              have hcs := cnt_succ i HUP.out
              rw [if_neg HM.out, ← HA1.out] at hcs
              have q2 := HB1.out
              have q3 := HLA.out
              have q4 := HLB.out
              have q5 := cnt_le HUP.out HGE.out i
              have q6 := HA1.out
              refine ⟨⟨i + 1, a, b + 1, out ++ [z], _, ca, B2, cb - 1, by omega, by go_num, hcs.symm, by omega, by rw [← q3], by omega, by rw [show hs.length - (b + 1) = lb - 1 by omega], by omega, HIG.out, HI2.out, fill_rest HFO.out HM.out (by rw [← q2]; exact HZE.out), ⟨.slice A3 (out.length + 1) c3, ?_⟩, HBN.out⟩, by simp [intOf]; omega⟩
              exact HPN.out
      · obtain rfl : i = nl.length := by omega
        have hbx := HPH.out.blk
        have lx := hbx.lt
        have x0 := hbx.cell 0
        have x1 := hbx.cell 1
        simp at x0 x1
        have HRR := Lib.hid (HR2.out.after HBR.out)
        have r0 := HRR.out.cell 0
        have r1 := HRR.out.cell 1
        simp at r0 r1
        have fr := HRR.out.free
        have lr := HRR.out.lt
        go_wp2_with fail
        refine bodyPost_ret (v := .tuple #[.agg #[.slice T ts.length cT, .slice HA out.length hcp], .int .i64 0]) ?_ rfl ?_
        · have b0 := ((HRR.out.put 0 (.slice T ts.length cT)).put 1 (.slice HA out.length hcp))
          have z0 := b0.cell 0
          have z1 := b0.cell 1
          simp at z0 z1
          simp [results, Try.results9, go_sem, z0, z1]
        have hb3 : Below w.heap.size w ((wr.setCell ⟨w.heap.size + 1, 0, none⟩ (.slice T ts.length cT)).setCell ⟨w.heap.size + 1, 1, none⟩ (.slice HA out.length hcp)) := ((HB2.out.trans (HBR.out.mono HB2.out.size)).setCell (by simp) _).setCell (by simp) _
        exact .inr ⟨nl, hv, hnl, .inr ⟨HGG.out, .inr ⟨out, HFO.out, T, cT, HA, hcp, rfl, OwnU.at (row_far (row_far (row_after18 HTT.out HBR.out) lr0 _ _) lr0 _ _) rfl,
          HashG.own ⟨row_far (row_far HPH.out.ha.1 (by omega) _ _) (by omega) _ _, HPH.out.ha.2⟩ rfl, hb3⟩⟩⟩
  · rw [decide_eq_false hgg]
    have HNG := Lib.hid hgg
    clear hgg
    go_wp2_with fail
    refine bodyPost_ret (v := .tuple #[.agg #[.slice none 0 0, .slice none 0 0], .int .i64 33]) ?_ rfl ?_
    · have b0 := ((HR.out.put 0 (.slice none 0 0)).put 1 (.slice none 0 0))
      have z0 := b0.cell 0
      have z1 := b0.cell 1
      simp at z0 z1
      simp [results, Try.results9, go_sem, z0, z1]
    exact .inr ⟨nl, hv, hnl, .inl ⟨HNG.out, rfl, (HB.out.setCell (by simp) _).setCell (by simp) _⟩⟩
end Go.Proofs.Ytnokhajjcjfbpaa
/- The document's Fill. -/
namespace Go.Proofs.Ytnokhajjcjfbpaa
open Go.RowKit Go.Shelf

theorem IntG.cell_at {W : World} {g : Addr} {zs : List Int} (h : IntG W (some g) zs) {k : Nat} {x : Int} (hk : zs[k]? = some x) : W.cell? (g.add k) = some (.int .i64 x) := by
  obtain ⟨ad, e, _, h2⟩ := h k (List.getElem?_eq_some_iff.1 hk).1
  cases e
  rw [h2, hk]
  rfl

set_option maxRecDepth 100000 in
set_option maxHeartbeats 2000000 in
theorem refFill_no (n : Nat) (ts : List Nat) (A B C : Option Addr) (b c a' b' c' : Nat) (F : Value) (w : World) (hlen : ts.length ≤ 1000) (hu : ∀ t ∈ ts, (t : Int) ≤ 18446744073709551615) (hts : SliceG w A ts) (hv : ¬ Valid n ts) :
    Calls Try.prog 11 #[.int .u64 n, .agg #[.slice A ts.length a', .slice B b b', .slice C c c'], F] w (FillErr w) := by
  have ND := Lib.hid fun w h => refNeed_no n ts A a' w hlen hu h hv
  have HT := Lib.hid hts
  clear hts hu hv
  go_enter Try.func11, Try.ntmps11
  go_wp2_with fail
  refine (ND.out _ (HT.out.after (by repeat' (first | exact Below.refl _ _ | refine bel_drewN ?_ _ | refine Below.drew ?_ | refine Below.alloc ?_ ?_ _ | refine Below.setCell ?_ ?_ _ | exact Nat.le_refl _ | (simp; done) | (simp; omega) | assumption)))).mono ?_
  rintro e w1 ⟨rfl, hb1⟩
  have HR := Lib.hid ((show IsBlk _ (w.heap.size + 1) 26 #[.slice none 0 0, .slice none 0 0] from by repeat' (first | with_reducible assumption | with_reducible refine IsBlk.drewN ?_ _ | with_reducible refine IsBlk.drew ?_ | with_reducible refine IsBlk.newAt _ _ ?_ | with_reducible refine IsBlk.alloc ?_ _ | with_reducible refine IsBlk.far ?_ ?_ _ | (simp; done) | (simp; omega))).after hb1)
  have HB := Lib.hid (show Below w.heap.size w w1 from Below.trans (by repeat' (first | exact Below.refl _ _ | refine bel_drewN ?_ _ | refine Below.drew ?_ | refine Below.alloc ?_ ?_ _ | refine Below.setCell ?_ ?_ _ | exact Nat.le_refl _ | (simp; done) | (simp; omega) | assumption)) (hb1.mono (by simp; omega)))
  clear hb1
  have r0 := HR.out.cell 0
  have r1 := HR.out.cell 1
  simp at r0 r1
  have fr := HR.out.free
  have lr := HR.out.lt
  go_wp2_with fail
  refine bodyPost_ret (v := .tuple #[.agg #[.slice none 0 0, .slice none 0 0], .int .i64 33]) ?_ rfl ?_
  · have b0 := ((HR.out.put 0 (.slice none 0 0)).put 1 (.slice none 0 0))
    have z0 := b0.cell 0
    have z1 := b0.cell 1
    simp at z0 z1
    simp [results, Try.results11, go_sem, z0, z1]
  exact ⟨rfl, (HB.out.setCell (by simp) _).setCell (by simp) _⟩

set_option maxRecDepth 100000 in
set_option maxHeartbeats 8000000 in
theorem refFill_yes (n : Nat) (ts : List Nat) (gs : List Int) (hs : List (List Int)) (kn : List (Nat × List Int)) (A B C K : Option Addr) (a' b' c' ck : Nat) (w : World) (hlen : ts.length ≤ 1000) (hgl : gs.length ≤ 100000) (hhl : hs.length ≤ 100000) (hkl : kn.length ≤ 1000000) (hts : SliceG w A ts) (hgs : IntG w B gs) (hhs : HashG w C hs) (hkn : KnownG w K kn) (hv : Valid n ts) :
    Calls Try.prog 11 #[.int .u64 n, .agg #[.slice A ts.length a', .slice B gs.length b', .slice C hs.length c'], .slice K kn.length ck] w (FillRet n ts gs hs (look kn) w) := by
  have ND := Lib.hid fun w h => refNeed_yes n ts A a' w hlen h hv
  have HT := Lib.hid hts
  have HG := Lib.hid hgs
  have HH := Lib.hid hhs
  have HK := Lib.hid hkn
  obtain ⟨sm, hsm⟩ : ∃ sm, gs.length + hs.length = sm := ⟨_, rfl⟩
  have E := show IntKind.i64.wrap ((gs.length : Int) + hs.length) = (sm : Int) from by rw [IntWalk.i64_in _ (by omega)]; omega
  have HSM := Lib.hid hsm
  clear hts hgs hhs hkn hsm
  go_enter Try.func11, Try.ntmps11
  go_wp2_with fail
  refine (ND.out _ (HT.out.after (by repeat' (first | exact Below.refl _ _ | refine bel_drewN ?_ _ | refine Below.drew ?_ | refine Below.alloc ?_ ?_ _ | refine Below.setCell ?_ ?_ _ | exact Nat.le_refl _ | (simp; done) | (simp; omega) | assumption)))).mono ?_
  rintro e w1 ⟨nl, hnl, hok⟩
  obtain ⟨A1, c1, rfl, hs1, hb1⟩ := hok.at
  clear hok
  have HS1 := Lib.hid hs1
  clear hs1
  have HP := Lib.hid ((show IsBlk _ w.heap.size 31 #[.slice A ts.length a', .slice B gs.length b', .slice C hs.length c'] from by repeat' (first | with_reducible assumption | with_reducible refine IsBlk.drewN ?_ _ | with_reducible refine IsBlk.drew ?_ | with_reducible refine IsBlk.newAt _ _ ?_ | with_reducible refine IsBlk.alloc ?_ _ | with_reducible refine IsBlk.far ?_ ?_ _ | (simp; done) | (simp; omega))).after hb1)
  have HR := Lib.hid ((show IsBlk _ (w.heap.size + 1) 26 #[.slice none 0 0, .slice none 0 0] from by repeat' (first | with_reducible assumption | with_reducible refine IsBlk.drewN ?_ _ | with_reducible refine IsBlk.drew ?_ | with_reducible refine IsBlk.newAt _ _ ?_ | with_reducible refine IsBlk.alloc ?_ _ | with_reducible refine IsBlk.far ?_ ?_ _ | (simp; done) | (simp; omega))).after hb1)
  have HB := Lib.hid (show Below w.heap.size w w1 from Below.trans (by repeat' (first | exact Below.refl _ _ | refine bel_drewN ?_ _ | refine Below.drew ?_ | refine Below.alloc ?_ ?_ _ | refine Below.setCell ?_ ?_ _ | exact Nat.le_refl _ | (simp; done) | (simp; omega) | assumption)) (hb1.mono (by simp; omega)))
  clear hb1
  have r0 := HR.out.cell 0
  have r1 := HR.out.cell 1
  have p1 := HP.out.cell 1
  have p2 := HP.out.cell 2
  simp at r0 r1 p1 p2
  have fr := HR.out.free
  have lr := HR.out.lt
  have lp : w.heap.size < w1.heap.size := by omega
  have hl64 := need_short hnl
  have HPW := Lib.hid fun (W : World) (hW : Below w1.heap.size w1 W) => HP.out.after hW
  have HRW := Lib.hid fun (W : World) (hW : Below w1.heap.size w1 W) => HR.out.after hW
  have HNL := Lib.hid hnl
  clear hnl
  by_cases hsn : sm = nl.length
  · have hne : ((sm : Int) != nl.length) = false := by rw [bne_eq_false_iff_eq]; omega
    have HSN := Lib.hid hsn
    clear hsn
    go_wp2_with fail
    clear r0 r1 p1 p2 fr E hne
    go_loopw [10] (fun v wr => ∃ i : Nat, i ≤ gs.length ∧ v = .int .i64 i ∧ (∀ j, j < i → GapOne gs nl.length j) ∧ Below w1.heap.size w1 wr) (fun v _ => gs.length - (intOf v).toNat)
    case atStart => exact ⟨0, by omega, rfl, fun j hj => by omega, Below.refl _ _⟩
    case round =>
      obtain ⟨i, hi, rfl, hgo, hbel⟩ := hrel
      have HGO := Lib.hid hgo
      have HBR := Lib.hid hbel
      have hp := HPW.out wr hbel
      have p1 := hp.cell 1
      simp at p1
      have lq := hp.lt
      clear hgo hp
      by_cases hlt : i < gs.length
      · obtain ⟨g, rfl, hg, _⟩ := (HG.out.after HB.out) i hlt
        have hx : gs[i]? = some gs[i] := List.getElem?_eq_getElem hlt
        have HD := Lib.hid (show gs.getD i 0 = gs[i] from by simp [List.getD, hx])
        have i1 : (i : Int) < gs.length := by omega
        have HCI := Lib.hid fun (W : World) (hW : Below w1.heap.size w1 W) => ((HG.out.after HB.out).after hW).cell_at hx
        clear hx
        generalize gs[i] = z at *
        have HNO := Lib.hid fun (hn : ¬ GapOne gs nl.length i) => (show ¬ (Gaps gs nl.length ∧ gs.length + hs.length = nl.length) from fun hgg => hn (hgg.1 i hlt))
        have HST := Lib.hid (show ∀ W1 W2 : World, Below w1.heap.size w1 W1 → Below W1.heap.size W1 W2 → Below w1.heap.size w1 W2 from fun _ _ h hb => h.trans (hb.mono h.size))
        have hbd := hbel.drew
        clear hbel
        by_cases h1 : z < 0
        · have HF := Lib.hid (HNO.out fun hgg => by have := hgg.1; rw [HD.out] at this; omega)
          have b1 : decide (z < 0) = true := decide_eq_true h1
          go_wp2_with fail
          refine wp_region_seq (S := fun W => Below w1.heap.size w1 W) (by kernel_rfl) (by kernel_rfl) hbd ?_
          repeat (first
            | (refine SeqS.skip ?_ ?_; rfl; (try simp only [Act.put, List.setIfInBounds_toArray, List.set_cons_zero, List.set_cons_succ]))
            | (refine SeqS.take (v := ?_) ?_ ?_ ?_; rotate_left; rfl; (intro w hS; have hp := HPW.out w hS; have p1 := hp.cell 1; simp at p1; have ci := HCI.out w hS; go_simp; with_reducible rfl); (try simp only [Act.put, List.setIfInBounds_toArray, List.set_cons_zero, List.set_cons_succ]))
            | (refine SeqS.call (v := ?_) (f := ?_) (args := ?_) ?_ ?_ ?_ ?_; rotate_left 3; rfl; (intro w hS; have hp := HPW.out w hS; have p1 := hp.cell 1; simp at p1; have ci := HCI.out w hS; go_simp; (first | with_reducible rfl | (refine ⟨?_, ?_⟩ <;> with_reducible rfl))); (intro w hS; first | ((with_reducible refine (KK.out _).mono ?_); rintro e w' ⟨rfl, hb⟩; refine ⟨?_, HST.out _ _ hS hb⟩; with_reducible rfl)); (try simp only [Act.put, List.setIfInBounds_toArray, List.set_cons_zero, List.set_cons_succ])))
          refine SeqS.done ?_
          rintro wz hbz

          have HRZ := Lib.hid (HRW.out wz hbz)
          have r0 := HRZ.out.cell 0
          have r1 := HRZ.out.cell 1
          simp at r0 r1
          have fr := HRZ.out.free
          have lr := HRZ.out.lt
          go_wp2_with fail
          refine bodyPost_ret (v := .tuple #[.agg #[.slice none 0 0, .slice none 0 0], .int .i64 33]) ?_ rfl ?_
          · have b0 := ((HRZ.out.put 0 (.slice none 0 0)).put 1 (.slice none 0 0))
            have z0 := b0.cell 0
            have z1 := b0.cell 1
            simp at z0 z1
            simp [results, Try.results11, go_sem, z0, z1]
          exact .inr ⟨nl, hv, HNL.out, .inl ⟨HF.out, rfl, ((HB.out.trans (hbz.mono HB.out.size)).setCell (by simp) _).setCell (by simp) _⟩⟩
        have b1 : decide (z < 0) = false := decide_eq_false h1
        by_cases h2 : (nl.length : Int) ≤ z
        · have HF := Lib.hid (HNO.out fun hgg => by have := hgg.2.1; rw [HD.out] at this; omega)
          have b2 : decide ((nl.length : Int) ≤ z) = true := decide_eq_true h2
          go_wp2_with fail
          refine wp_region_seq (S := fun W => Below w1.heap.size w1 W) (by kernel_rfl) (by kernel_rfl) hbd ?_
          repeat (first
            | (refine SeqS.skip ?_ ?_; rfl; (try simp only [Act.put, List.setIfInBounds_toArray, List.set_cons_zero, List.set_cons_succ]))
            | (refine SeqS.take (v := ?_) ?_ ?_ ?_; rotate_left; rfl; (intro w hS; have hp := HPW.out w hS; have p1 := hp.cell 1; simp at p1; have ci := HCI.out w hS; go_simp; with_reducible rfl); (try simp only [Act.put, List.setIfInBounds_toArray, List.set_cons_zero, List.set_cons_succ]))
            | (refine SeqS.call (v := ?_) (f := ?_) (args := ?_) ?_ ?_ ?_ ?_; rotate_left 3; rfl; (intro w hS; have hp := HPW.out w hS; have p1 := hp.cell 1; simp at p1; have ci := HCI.out w hS; go_simp; (first | with_reducible rfl | (refine ⟨?_, ?_⟩ <;> with_reducible rfl))); (intro w hS; first | ((with_reducible refine (KK.out _).mono ?_); rintro e w' ⟨rfl, hb⟩; refine ⟨?_, HST.out _ _ hS hb⟩; with_reducible rfl)); (try simp only [Act.put, List.setIfInBounds_toArray, List.set_cons_zero, List.set_cons_succ])))
          refine SeqS.done ?_
          rintro wz hbz

          have HRZ := Lib.hid (HRW.out wz hbz)
          have r0 := HRZ.out.cell 0
          have r1 := HRZ.out.cell 1
          simp at r0 r1
          have fr := HRZ.out.free
          have lr := HRZ.out.lt
          go_wp2_with fail
          refine bodyPost_ret (v := .tuple #[.agg #[.slice none 0 0, .slice none 0 0], .int .i64 33]) ?_ rfl ?_
          · have b0 := ((HRZ.out.put 0 (.slice none 0 0)).put 1 (.slice none 0 0))
            have z0 := b0.cell 0
            have z1 := b0.cell 1
            simp at z0 z1
            simp [results, Try.results11, go_sem, z0, z1]
          exact .inr ⟨nl, hv, HNL.out, .inl ⟨HF.out, rfl, ((HB.out.trans (hbz.mono HB.out.size)).setCell (by simp) _).setCell (by simp) _⟩⟩
        have b2 : decide ((nl.length : Int) ≤ z) = false := decide_eq_false h2
        rcases Nat.eq_zero_or_pos i with h0 | h0
        · have b3 : decide (0 < i) = false := decide_eq_false (by omega)
          have b3' : decide (0 < (i : Int)) = false := decide_eq_false (by omega)
          have HGN := Lib.hid (show ∀ j, j < i + 1 → GapOne gs nl.length j from fun j hj => by
            obtain rfl : j = i := by omega
            exact ⟨by rw [HD.out]; omega, by rw [HD.out]; omega, fun h => by omega⟩)
          clear h0
          go_wp2_with fail
          refine wp_region_seq (S := fun W => Below w1.heap.size w1 W) (by kernel_rfl) (by kernel_rfl) hbd ?_
          repeat (first
            | (refine SeqS.skip ?_ ?_; rfl; (try simp only [Act.put, List.setIfInBounds_toArray, List.set_cons_zero, List.set_cons_succ]))
            | (refine SeqS.take (v := ?_) ?_ ?_ ?_; rotate_left; rfl; (intro w hS; have hp := HPW.out w hS; have p1 := hp.cell 1; simp at p1; have ci := HCI.out w hS; go_simp; with_reducible rfl); (try simp only [Act.put, List.setIfInBounds_toArray, List.set_cons_zero, List.set_cons_succ]))
            | (refine SeqS.call (v := ?_) (f := ?_) (args := ?_) ?_ ?_ ?_ ?_; rotate_left 3; rfl; (intro w hS; have hp := HPW.out w hS; have p1 := hp.cell 1; simp at p1; have ci := HCI.out w hS; go_simp; (first | with_reducible rfl | (refine ⟨?_, ?_⟩ <;> with_reducible rfl))); (intro w hS; first | ((with_reducible refine (KK.out _).mono ?_); rintro e w' ⟨rfl, hb⟩; refine ⟨?_, HST.out _ _ hS hb⟩; with_reducible rfl)); (try simp only [Act.put, List.setIfInBounds_toArray, List.set_cons_zero, List.set_cons_succ])))
          refine SeqS.done ?_
          rintro wz hbz

          go_wp2_with fail
          exact ⟨⟨i + 1, by omega, by go_num, HGN.out, hbz⟩, by simp [intOf]; omega⟩
        have b3 : decide (0 < i) = true := decide_eq_true h0
        have b3' : decide (0 < (i : Int)) = true := decide_eq_true (by omega)
        obtain ⟨j, hj⟩ : ∃ j, i = j + 1 := ⟨i - 1, by omega⟩
        have hj1 : i - 1 = j := by omega
        have hx : gs[j]? = some (gs[j]'(by omega)) := List.getElem?_eq_getElem (by omega)
        have HD2 := Lib.hid (show gs.getD j 0 = gs[j]'(by omega) from by simp [List.getD, hx])
        have HCJ := Lib.hid fun (W : World) (hW : Below w1.heap.size w1 W) => ((HG.out.after HB.out).after hW).cell_at hx
        clear hx
        generalize (gs[j]'(by omega)) = y at *
        have e1 : IntKind.i64.wrap ((i : Int) - 1) = (j : Int) := by rw [IntWalk.i64_in _ (by omega)]; omega
        have j1 : (j : Int) < gs.length := by omega
        have HJ := Lib.hid hj1
        clear hj1 hj
        by_cases h3 : z ≤ y
        · have b4 : decide (z ≤ y) = true := decide_eq_true h3
          have HF := Lib.hid (HNO.out fun hgg => by have := hgg.2.2 h0; rw [HD.out, HJ.out, HD2.out] at this; omega)
          go_wp2_with fail
          refine wp_region_seq (S := fun W => Below w1.heap.size w1 W) (by kernel_rfl) (by kernel_rfl) hbd ?_
          repeat (first
            | (refine SeqS.skip ?_ ?_; rfl; (try simp only [Act.put, List.setIfInBounds_toArray, List.set_cons_zero, List.set_cons_succ]))
            | (refine SeqS.take (v := ?_) ?_ ?_ ?_; rotate_left; rfl; (intro w hS; have hp := HPW.out w hS; have p1 := hp.cell 1; simp at p1; have ci := HCI.out w hS; have cj := HCJ.out w hS; go_simp; with_reducible rfl); (try simp only [Act.put, List.setIfInBounds_toArray, List.set_cons_zero, List.set_cons_succ]))
            | (refine SeqS.call (v := ?_) (f := ?_) (args := ?_) ?_ ?_ ?_ ?_; rotate_left 3; rfl; (intro w hS; have hp := HPW.out w hS; have p1 := hp.cell 1; simp at p1; have ci := HCI.out w hS; have cj := HCJ.out w hS; go_simp; (first | with_reducible rfl | (refine ⟨?_, ?_⟩ <;> with_reducible rfl))); (intro w hS; first | ((with_reducible refine (KK.out _).mono ?_); rintro e w' ⟨rfl, hb⟩; refine ⟨?_, HST.out _ _ hS hb⟩; with_reducible rfl)); (try simp only [Act.put, List.setIfInBounds_toArray, List.set_cons_zero, List.set_cons_succ])))
          refine SeqS.done ?_
          rintro wz hbz

          have HRZ := Lib.hid (HRW.out wz hbz)
          have r0 := HRZ.out.cell 0
          have r1 := HRZ.out.cell 1
          simp at r0 r1
          have fr := HRZ.out.free
          have lr := HRZ.out.lt
          go_wp2_with fail
          refine bodyPost_ret (v := .tuple #[.agg #[.slice none 0 0, .slice none 0 0], .int .i64 33]) ?_ rfl ?_
          · have b0 := ((HRZ.out.put 0 (.slice none 0 0)).put 1 (.slice none 0 0))
            have z0 := b0.cell 0
            have z1 := b0.cell 1
            simp at z0 z1
            simp [results, Try.results11, go_sem, z0, z1]
          exact .inr ⟨nl, hv, HNL.out, .inl ⟨HF.out, rfl, ((HB.out.trans (hbz.mono HB.out.size)).setCell (by simp) _).setCell (by simp) _⟩⟩
        · have b4 : decide (z ≤ y) = false := decide_eq_false h3
          have HGN := Lib.hid (show ∀ j, j < i + 1 → GapOne gs nl.length j from fun j' hj' => by
            rcases Nat.lt_or_ge j' i with h | h
            · exact HGO.out j' h
            · obtain rfl : j' = i := by omega
              exact ⟨by rw [HD.out]; omega, by rw [HD.out]; omega, fun _ => by rw [HD.out, HJ.out, HD2.out]; omega⟩)
          go_wp2_with fail
          refine wp_region_seq (S := fun W => Below w1.heap.size w1 W) (by kernel_rfl) (by kernel_rfl) hbd ?_
          repeat (first
            | (refine SeqS.skip ?_ ?_; rfl; (try simp only [Act.put, List.setIfInBounds_toArray, List.set_cons_zero, List.set_cons_succ]))
            | (refine SeqS.take (v := ?_) ?_ ?_ ?_; rotate_left; rfl; (intro w hS; have hp := HPW.out w hS; have p1 := hp.cell 1; simp at p1; have ci := HCI.out w hS; have cj := HCJ.out w hS; go_simp; with_reducible rfl); (try simp only [Act.put, List.setIfInBounds_toArray, List.set_cons_zero, List.set_cons_succ]))
            | (refine SeqS.call (v := ?_) (f := ?_) (args := ?_) ?_ ?_ ?_ ?_; rotate_left 3; rfl; (intro w hS; have hp := HPW.out w hS; have p1 := hp.cell 1; simp at p1; have ci := HCI.out w hS; have cj := HCJ.out w hS; go_simp; (first | with_reducible rfl | (refine ⟨?_, ?_⟩ <;> with_reducible rfl))); (intro w hS; first | ((with_reducible refine (KK.out _).mono ?_); rintro e w' ⟨rfl, hb⟩; refine ⟨?_, HST.out _ _ hS hb⟩; with_reducible rfl)); (try simp only [Act.put, List.setIfInBounds_toArray, List.set_cons_zero, List.set_cons_succ])))
          refine SeqS.done ?_
          rintro wz hbz

          go_wp2_with fail
          exact ⟨⟨i + 1, by omega, by go_num, HGN.out, hbz⟩, by simp [intOf]; omega⟩
      · obtain rfl : i = gs.length := by omega
        rename World => wA
        have HGG := Lib.hid (show Gaps gs nl.length ∧ gs.length + hs.length = nl.length from ⟨HGO.out, by rw [HSM.out]; exact HSN.out⟩)
        have HBA := Lib.hid (HB.out.trans (HBR.out.mono HB.out.size))
        have HPX := Lib.hid fun (W : World) (hW : Below wA.heap.size wA W) => HPW.out W (HBR.out.trans (hW.mono HBR.out.size))
        have HRX := Lib.hid fun (W : World) (hW : Below wA.heap.size wA W) => HRW.out W (HBR.out.trans (hW.mono HBR.out.size))
        have hpA := HPW.out wA HBR.out
        have p0 := hpA.cell 0
        simp at p0
        have hlA := (HRW.out wA HBR.out).lt
        have HUP := Lib.hid HGG.out.1.up
        have HGE := Lib.hid fun g (hg : g ∈ gs) => (HGG.out.1.in hg).1
        clear hbel hpA
        go_wp2_with (at_builtin; refine wpList_append_nums rfl _ _ rfl (wA.heap.size + 1) (.slice none 0 0) [] rfl (OwnU.nil _ _) _ _ _ ts rfl rfl (by exact (ru_gen (HT.out.after HBA.out)).after ((Below.refl wA.heap.size wA).alloc (Nat.le_refl _) _)) (by simp; omega) (by simp) ts.length (by simp) ts rfl ?_; intro T cT w2 h2 hg2; have HOT := Lib.hid h2; have hbx0 := (IsBlk.new wA 26 #[.slice none 0 0, .slice none 0 0]).low hg2 (.inl rfl); have z0 := hbx0.cell 0; simp at z0; have fz := hbx0.free; have lz := hbx0.lt; have HZ := Lib.hid hbx0; have HBZ := Lib.hid (Below.grown ((Below.refl wA.heap.size wA).alloc (Nat.le_refl _) (.cells #[.slice none 0 0, .slice none 0 0] 26)) hg2 (by simp) (fun k e => by simp [Value.ownBlock] at e)); clear h2 hg2 hbx0)
        clear p0 p1 z0 fz lz
        go_loopw [12, 13] (fun q v wr => ∃ (i b : Nat) (out : List (List Int)), i ≤ nl.length ∧ v = .int .i64 i ∧ q = .int .i64 b ∧ b = i - cnt gs i ∧ fillOf gs hs (look kn) nl i = some out ∧ (∃ H, ProofH wr wA.heap.size (.slice T ts.length cT) out H) ∧ OwnU wr (wA.heap.size + 1) (.slice T ts.length cT) ts ∧ Below wA.heap.size wA wr) (fun _ v _ => nl.length - (intOf v).toNat)
        case atStart => exact ⟨0, 0, [], by omega, rfl, rfl, by omega, rfl, ⟨.slice none 0 0, HZ.out.put 0 _, OwnH.nil _ _⟩, row_far HOT.out (Nat.lt_succ_self _) _ _, HBZ.out.setCell (Nat.le_refl _) _⟩
        case round =>
          obtain ⟨i, b, out, hi, rfl, rfl, hb, hfo, ⟨H, hph⟩, hot, hbel⟩ := hrel
          have HTR := Lib.hid hot
          have HBS := Lib.hid hbel
          have HB1 := Lib.hid hb
          have HFO := Lib.hid hfo
          have HOL := Lib.hid (fill_len hfo)
          obtain ⟨HA, hcp, rfl⟩ := row_shape hph.ha.1
          have HPH := Lib.hid hph
          have hzr := hbel.size
          have HPR := Lib.hid (HPX.out _ hbel)
          have HIG := Lib.hid ((HG.out.after HBA.out).after hbel)
          have HKR := Lib.hid ((HK.out.after HBA.out).after hbel)
          have HSR := Lib.hid ((HS1.out.after HBR.out).after hbel)
          clear hot hbel hb hfo hph
          by_cases hlt : i < nl.length
          · have i1 : (i : Int) < nl.length := by omega
            have p1 := HPR.out.cell 1
            simp at p1
            have lq := HPR.out.lt
            rename World => wB
            go_wp2_with fail
            go_loopw [14, 15] (fun gv kv wr => ∃ k : Nat, k ≤ gs.length ∧ kv = .int .i64 k ∧ (∃ V, decide ((i : Int) ∈ gs.take k) = V ∧ gv = .bool V) ∧ wr = wB) (fun _ v _ => gs.length - (intOf v).toNat)
            case atStart => exact ⟨0, by omega, rfl, ⟨false, by simp, rfl⟩, rfl⟩
            case round =>
              obtain ⟨k, hk, rfl, ⟨V, hV, rfl⟩, hwr⟩ := hrel
              subst hwr
              have HV := Lib.hid hV
              clear hV
              by_cases hkt : k < gs.length
              · obtain ⟨g, rfl, hg, hjunk⟩ := HIG.out k hkt
                clear hjunk
                have hx : gs[k]? = some gs[k] := List.getElem?_eq_getElem hkt
                have ck := HIG.out.cell_at hx
                have k1 : (k : Int) < gs.length := by omega
                have TK : gs.take (k + 1) = gs.take k ++ [gs[k]] := by rw [List.take_add_one, hx]; rfl
                have HTK := Lib.hid TK
                clear hx TK
                generalize gs[k] = z at *
                cases V
                · by_cases he : z = i
                  · have b1 : (z == (i : Int)) = true := by rw [he]; exact beq_self_eq_true _
                    have HM := Lib.hid (show decide ((i : Int) ∈ gs.take (k + 1)) = true from by rw [HTK.out, he]; simp)
                    clear he
                    go_wp2_with fail
                    exact ⟨⟨k + 1, by omega, by go_num, ⟨true, HM.out, rfl⟩, trivial⟩, by simp [intOf]; omega⟩
                  · have b1 : (z == (i : Int)) = false := by rw [beq_eq_false_iff_ne]; exact he
                    have HM := Lib.hid (show decide ((i : Int) ∈ gs.take (k + 1)) = false from by
                      have h0 := of_decide_eq_false HV.out
                      rw [HTK.out]
                      refine decide_eq_false fun h => ?_
                      rcases List.mem_append.1 h with h | h
                      · exact h0 h
                      · simp at h
                        exact he h.symm)
                    clear he
                    go_wp2_with fail
                    exact ⟨⟨k + 1, by omega, by go_num, ⟨false, HM.out, rfl⟩, trivial⟩, by simp [intOf]; omega⟩
                · have HM := Lib.hid (show decide ((i : Int) ∈ gs.take (k + 1)) = true from by
                    have h0 := of_decide_eq_true HV.out
                    rw [HTK.out]
                    exact decide_eq_true (List.mem_append_left _ h0))
                  go_wp2_with fail
                  exact ⟨⟨k + 1, by omega, by go_num, ⟨true, HM.out, rfl⟩, trivial⟩, by simp [intOf]; omega⟩
              · obtain rfl : k = gs.length := by omega
                have HM0 := HV.out
                rw [List.take_length] at HM0
                cases V
                · have hm := of_decide_eq_false HM0
                  clear HM0
                  have hrl := rest_lt HGG.out.1 HGG.out.2 hlt hm
                  rw [← HB1.out] at hrl
                  have HM := Lib.hid hm
                  clear hm
                  have hz : hs[b]? = some (hs[b]'hrl) := List.getElem?_eq_getElem hrl
                  have HZE := Lib.hid hz
                  obtain ⟨g2, o2, rfl, hg2, ry, hy⟩ := (HH.out.after HBA.out).at hz
                  have b9 : (b : Int) < hs.length := by omega
                  clear hz
                  generalize hs[b]'hrl = z at *
                  have LD := Lib.hid fun (W : World) (hW : Below wA.heap.size wA W) => hash_var W g2 (o2 + b * 32) z (rng_after ry hg2 hW) hy
                  clear ry
                  have HPD := Lib.hid (HPH.out.grown (Below.refl _ _).drew)
                  have HBD := Lib.hid (HBS.out.drew)
                  have lx : wA.heap.size + 1 ≤ wr.drew.heap.size := HPD.out.blk.lt
                  go_wp2_with fail
                  refine AnyH.start 11 (fun W => Below wA.heap.size wA W) (by kernel_rfl) rfl ?_
                  have hSD := HBD.out
                  refine AnyH.take (i := 0) (v := ?_) rfl (by kernel_rfl) (fun _ _ _ h => h) rfl ?_ hSD ?_
                  rotate_left
                  (intro w hS; go_simp; with_reducible rfl)
                  try simp only [Act.put, List.setIfInBounds_toArray, List.set_cons_zero, List.set_cons_succ]
                  refine AnyH.take (i := 2) (v := ?_) rfl (by kernel_rfl) (fun _ _ _ h => h) rfl ?_ hSD ?_
                  rotate_left
                  (intro w hS; go_simp; with_reducible rfl)
                  try simp only [Act.put, List.setIfInBounds_toArray, List.set_cons_zero, List.set_cons_succ]
                  refine AnyH.take (i := 3) (v := ?_) rfl (by kernel_rfl) (fun _ _ _ h => h) rfl ?_ hSD ?_
                  rotate_left
                  (intro w hS; have hp := HPX.out w hS; have p2 := hp.cell 2; simp at p2; go_simp; with_reducible rfl)
                  try simp only [Act.put, List.setIfInBounds_toArray, List.set_cons_zero, List.set_cons_succ]
                  refine AnyH.take (i := 4) (v := ?_) rfl (by kernel_rfl) (fun _ _ _ h => h) rfl ?_ hSD ?_
                  rotate_left
                  (intro w hS; go_simp; with_reducible rfl)
                  try simp only [Act.put, List.setIfInBounds_toArray, List.set_cons_zero, List.set_cons_succ]
                  refine AnyH.take (i := 5) (v := ?_) rfl (by kernel_rfl) (fun _ _ _ h => h) rfl ?_ hSD ?_
                  rotate_left
                  (intro w hS; go_simp; with_reducible rfl)
                  try simp only [Act.put, List.setIfInBounds_toArray, List.set_cons_zero, List.set_cons_succ]
                  refine AnyH.long (i := 6) 37 (.agg (hc z).toArray) rfl (by kernel_rfl) (fun _ _ _ h => h) rfl rfl rfl (fun w hS => LD.out w hS) hSD ?_
                  try simp only [Act.put, List.setIfInBounds_toArray, List.set_cons_zero, List.set_cons_succ]
                  refine AnyH.load_make (i := 1) (j := 7) (v := .slice HA out.length hcp) (b := .slice (some ⟨wr.drew.heap.size, 0, none⟩) 1 1) (w' := wr.drew.alloc (.cells (hc z).toArray 37)) rfl rfl (by kernel_rfl) (by kernel_rfl) (by kernel_rfl) rfl rfl rfl rfl ?_ ?_ ?_ ?_ hSD ?_ (by kernel_rfl) rfl ?_
                  · have x0 := HPD.out.blk.cell 1
                    simp at x0
                    go_simp
                  · exact run_build_hash z hy _ rfl rfl _
                  · exact run_build_hash z hy _ rfl rfl _
                  · have x0 := (HPH.out.blk.alloc (.cells (hc z).toArray 37)).cell 1
                    simp at x0
                    go_simp
                  · exact hSD.alloc (by omega) _
                  try simp only [Act.put, List.setIfInBounds_toArray, List.set_cons_zero, List.set_cons_succ]
                  obtain ⟨A3, c3, W', hrun, hown, hgr⟩ := grow_hash HPD.out.ha (by omega) z hy (by have := HOL.out; omega)
                  obtain ⟨PN, BN⟩ := HPD.out.hash hgr hown
                  have HTN := Lib.hid (fun u => row_far ((row_after18 HTR.out (Below.refl _ _).drew).kept hgr (rows_apart (row_after18 HTR.out (Below.refl _ _).drew) HPD.out.ha.1 (by decide))) (Nat.lt_succ_self wA.heap.size) 1 u)
                  have hb' := HPD.out.blk.low hgr (row_low HPD.out.ha.1 (Nat.lt_succ_self _))
                  have y2 := hb'.cell 1
                  simp at y2
                  have fy := hb'.free
                  have ly := hb'.lt
                  refine AnyH.one (i := 8) (by kernel_rfl) ⟨_, _, W', rfl, rfl, comes_append (.tmp 113) (.tmp 119) _ rfl rfl rfl hrun, hSD.grown hgr (by omega) (fun r e => by have := (HPD.out.ha.1.lt r e).1; omega), ?_⟩
                  try simp only [Act.put, List.setIfInBounds_toArray, List.set_cons_zero, List.set_cons_succ]
                  refine AnyH.one (i := 9) (by kernel_rfl) ⟨_, .pointer (some ⟨wA.heap.size, 1, none⟩), W', rfl, rfl, .inl (by go_simp), hSD.grown hgr (by omega) (fun r e => by have := (HPD.out.ha.1.lt r e).1; omega), ?_⟩
                  try simp only [Act.put, List.setIfInBounds_toArray, List.set_cons_zero, List.set_cons_succ]
                  refine AnyH.one (i := 10) (by kernel_rfl) ⟨_, undef, W'.setCell ⟨wA.heap.size, 1, none⟩ (.slice A3 (out.length + 1) c3), rfl, rfl, comes_store (.tmp 121) (.tmp 120) rfl rfl rfl (by go_simp), hSD.trans BN, ?_⟩
                  try simp only [Act.put]
                  refine wpAnyH_done (by kernel_rfl) ?_ _
                  have HPN := Lib.hid PN
                  have HBN := Lib.hid (hSD.trans BN)
                  clear PN BN hb' y2 fy ly hrun hown hgr
                  go_wp2_with fail
                  have hcs := cnt_succ i HUP.out
                  have q2 := HB1.out
                  have q5 := cnt_le HUP.out HGE.out i
                  rw [if_neg HM.out] at hcs
                  exact ⟨⟨i + 1, b + 1, out ++ [z], by omega, by go_num, by go_num, by omega, fill_rest HFO.out HM.out (by rw [← HB1.out]; exact HZE.out), ⟨.slice A3 (out.length + 1) c3, HPN.out⟩, HTN.out _, HBN.out⟩, by simp [intOf]; omega⟩
                · have hm := of_decide_eq_true HM0
                  clear HM0
                  have HM := Lib.hid hm
                  clear hm
                  obtain ⟨g1, rfl, hg1, hc1⟩ := HSR.out i hlt
                  have hx : nl[i]? = some nl[i] := List.getElem?_eq_getElem hlt
                  rw [hx] at hc1
                  simp only [Option.map_some] at hc1
                  have HX := Lib.hid hx
                  clear hx
                  generalize nl[i] = x at *
                  go_wp2_with fail
                  refine (find_any kn K ck x wr hkl HKR.out).mono ?_
                  rintro e w' ⟨hr, rfl⟩
                  rcases hr with ⟨k', y, rfl, hk', hl⟩ | ⟨rfl, hl⟩
                  · have HL := Lib.hid hl
                    have hk1 := (List.getElem?_eq_some_iff.1 hk').1
                    have hk2 : (k' : Int) < kn.length := by omega
                    have hk3 : ¬ (k' : Int) < 0 := by omega
                    obtain ⟨g2, o2, rfl, hg2, _, ry, hy⟩ := (HK.out.after HBA.out).at hk'
                    clear hl hk' hc1
                    obtain ⟨px, z⟩ := y
                    dsimp only at ry hy HL
                    have LD := Lib.hid fun (W : World) (hW : Below wA.heap.size wA W) => hash_var W g2 (o2 + k' * 33 + 1) z (rng_after ry hg2 hW) hy
                    clear ry
                    have HPD := Lib.hid (HPH.out.grown (Below.refl _ _).drew)
                    have HBD := Lib.hid (HBS.out.drew)
                    have lx : wA.heap.size + 1 ≤ wr.drew.heap.size := HPD.out.blk.lt
                    go_wp2_with fail
                    refine AnyH.start 11 (fun W => Below wA.heap.size wA W) (by kernel_rfl) rfl ?_
                    have hSD := HBD.out
                    refine AnyH.take (i := 0) (v := ?_) rfl (by kernel_rfl) (fun _ _ _ h => h) rfl ?_ hSD ?_
                    rotate_left
                    (intro w hS; go_simp; with_reducible rfl)
                    try simp only [Act.put, List.setIfInBounds_toArray, List.set_cons_zero, List.set_cons_succ]
                    refine AnyH.take (i := 2) (v := ?_) rfl (by kernel_rfl) (fun _ _ _ h => h) rfl ?_ hSD ?_
                    rotate_left
                    (intro w hS; go_simp; with_reducible rfl)
                    try simp only [Act.put, List.setIfInBounds_toArray, List.set_cons_zero, List.set_cons_succ]
                    refine AnyH.take (i := 3) (v := ?_) rfl (by kernel_rfl) (fun _ _ _ h => h) rfl ?_ hSD ?_
                    rotate_left
                    (intro w hS; go_simp; with_reducible rfl)
                    try simp only [Act.put, List.setIfInBounds_toArray, List.set_cons_zero, List.set_cons_succ]
                    refine AnyH.take (i := 4) (v := ?_) rfl (by kernel_rfl) (fun _ _ _ h => h) rfl ?_ hSD ?_
                    rotate_left
                    (intro w hS; go_simp; with_reducible rfl)
                    try simp only [Act.put, List.setIfInBounds_toArray, List.set_cons_zero, List.set_cons_succ]
                    refine AnyH.take (i := 5) (v := ?_) rfl (by kernel_rfl) (fun _ _ _ h => h) rfl ?_ hSD ?_
                    rotate_left
                    (intro w hS; go_simp; with_reducible rfl)
                    try simp only [Act.put, List.setIfInBounds_toArray, List.set_cons_zero, List.set_cons_succ]
                    refine AnyH.long (i := 6) 37 (.agg (hc z).toArray) rfl (by kernel_rfl) (fun _ _ _ h => h) rfl rfl rfl (fun w hS => LD.out w hS) hSD ?_
                    try simp only [Act.put, List.setIfInBounds_toArray, List.set_cons_zero, List.set_cons_succ]
                    refine AnyH.load_make (i := 1) (j := 7) (v := .slice HA out.length hcp) (b := .slice (some ⟨wr.drew.heap.size, 0, none⟩) 1 1) (w' := wr.drew.alloc (.cells (hc z).toArray 37)) rfl rfl (by kernel_rfl) (by kernel_rfl) (by kernel_rfl) rfl rfl rfl rfl ?_ ?_ ?_ ?_ hSD ?_ (by kernel_rfl) rfl ?_
                    · have x0 := HPD.out.blk.cell 1
                      simp at x0
                      go_simp
                    · exact run_build_hash z hy _ rfl rfl _
                    · exact run_build_hash z hy _ rfl rfl _
                    · have x0 := (HPH.out.blk.alloc (.cells (hc z).toArray 37)).cell 1
                      simp at x0
                      go_simp
                    · exact hSD.alloc (by omega) _
                    try simp only [Act.put, List.setIfInBounds_toArray, List.set_cons_zero, List.set_cons_succ]
                    obtain ⟨A3, c3, W', hrun, hown, hgr⟩ := grow_hash HPD.out.ha (by omega) z hy (by have := HOL.out; omega)
                    obtain ⟨PN, BN⟩ := HPD.out.hash hgr hown
                    have HTN := Lib.hid (fun u => row_far ((row_after18 HTR.out (Below.refl _ _).drew).kept hgr (rows_apart (row_after18 HTR.out (Below.refl _ _).drew) HPD.out.ha.1 (by decide))) (Nat.lt_succ_self wA.heap.size) 1 u)
                    have hb' := HPD.out.blk.low hgr (row_low HPD.out.ha.1 (Nat.lt_succ_self _))
                    have y2 := hb'.cell 1
                    simp at y2
                    have fy := hb'.free
                    have ly := hb'.lt
                    refine AnyH.one (i := 8) (by kernel_rfl) ⟨_, _, W', rfl, rfl, comes_append (.tmp 134) (.tmp 140) _ rfl rfl rfl hrun, hSD.grown hgr (by omega) (fun r e => by have := (HPD.out.ha.1.lt r e).1; omega), ?_⟩
                    try simp only [Act.put, List.setIfInBounds_toArray, List.set_cons_zero, List.set_cons_succ]
                    refine AnyH.one (i := 9) (by kernel_rfl) ⟨_, .pointer (some ⟨wA.heap.size, 1, none⟩), W', rfl, rfl, .inl (by go_simp), hSD.grown hgr (by omega) (fun r e => by have := (HPD.out.ha.1.lt r e).1; omega), ?_⟩
                    try simp only [Act.put, List.setIfInBounds_toArray, List.set_cons_zero, List.set_cons_succ]
                    refine AnyH.one (i := 10) (by kernel_rfl) ⟨_, undef, W'.setCell ⟨wA.heap.size, 1, none⟩ (.slice A3 (out.length + 1) c3), rfl, rfl, comes_store (.tmp 142) (.tmp 141) rfl rfl rfl (by go_simp), hSD.trans BN, ?_⟩
                    try simp only [Act.put]
                    refine wpAnyH_done (by kernel_rfl) ?_ _
                    have HPN := Lib.hid PN
                    have HBN := Lib.hid (hSD.trans BN)
                    clear PN BN hb' y2 fy ly hrun hown hgr
                    go_wp2_with fail
                    have hcs := cnt_succ i HUP.out
                    have q2 := HB1.out
                    have q5 := cnt_le HUP.out HGE.out i
                    rw [if_pos HM.out] at hcs
                    exact ⟨⟨i + 1, b, out ++ [z], by omega, by go_num, rfl, by omega, fill_gap HFO.out HX.out HM.out HL.out, ⟨.slice A3 (out.length + 1) c3, HPN.out⟩, HTN.out _, HBN.out⟩, by simp [intOf]; omega⟩
                  · have HL := Lib.hid hl
                    clear hl
                    have HRR := Lib.hid (HRX.out _ HBS.out)
                    have r0 := HRR.out.cell 0
                    have r1 := HRR.out.cell 1
                    simp at r0 r1
                    have fr := HRR.out.free
                    have lr := HRR.out.lt
                    go_wp2_with fail
                    refine bodyPost_ret (v := .tuple #[.agg #[.slice none 0 0, .slice none 0 0], .int .i64 33]) ?_ rfl ?_
                    · have b0 := ((HRR.out.put 0 (.slice none 0 0)).put 1 (.slice none 0 0))
                      have z0 := b0.cell 0
                      have z1 := b0.cell 1
                      simp at z0 z1
                      simp [results, Try.results11, go_sem, z0, z1]
                    exact .inr ⟨nl, hv, HNL.out, .inr ⟨HGG.out, .inl ⟨fill_stop HFO.out HX.out HM.out HL.out, rfl, (((HBA.out.trans (HBS.out.mono HBA.out.size)).setCell (by simp) _).setCell (by simp) _)⟩⟩⟩
          · obtain rfl : i = nl.length := by omega
            have hbx := HPH.out.blk
            have lx := hbx.lt
            have x0 := hbx.cell 0
            have x1 := hbx.cell 1
            simp at x0 x1
            have HRR := Lib.hid (HRX.out _ HBS.out)
            have r0 := HRR.out.cell 0
            have r1 := HRR.out.cell 1
            simp at r0 r1
            have fr := HRR.out.free
            have lr := HRR.out.lt
            go_wp2_with fail
            refine bodyPost_ret (v := .tuple #[.agg #[.slice T ts.length cT, .slice HA out.length hcp], .int .i64 0]) ?_ rfl ?_
            · have b0 := ((HRR.out.put 0 (.slice T ts.length cT)).put 1 (.slice HA out.length hcp))
              have z0 := b0.cell 0
              have z1 := b0.cell 1
              simp at z0 z1
              simp [results, Try.results11, go_sem, z0, z1]
            have hb3 : Below w.heap.size w ((wr.setCell ⟨w.heap.size + 1, 0, none⟩ (.slice T ts.length cT)).setCell ⟨w.heap.size + 1, 1, none⟩ (.slice HA out.length hcp)) := ((HBA.out.trans (HBS.out.mono HBA.out.size)).setCell (by simp) _).setCell (by simp) _
            exact .inr ⟨nl, hv, HNL.out, .inr ⟨HGG.out, .inr ⟨out, HFO.out, T, cT, HA, hcp, rfl, OwnU.at (row_far (row_far HTR.out (by omega) _ _) (by omega) _ _) rfl,
              HashG.own ⟨row_far (row_far HPH.out.ha.1 (by omega) _ _) (by omega) _ _, HPH.out.ha.2⟩ rfl, hb3⟩⟩⟩
  · have hne : ((sm : Int) != nl.length) = true := by rw [bne_iff_ne]; omega
    have HF := Lib.hid (show ¬ (Gaps gs nl.length ∧ gs.length + hs.length = nl.length) from fun h => hsn (HSM.out.symm.trans h.2))
    clear hsn
    go_wp2_with fail
    refine bodyPost_ret (v := .tuple #[.agg #[.slice none 0 0, .slice none 0 0], .int .i64 33]) ?_ rfl ?_
    · have b0 := ((HR.out.put 0 (.slice none 0 0)).put 1 (.slice none 0 0))
      have z0 := b0.cell 0
      have z1 := b0.cell 1
      simp at z0 z1
      simp [results, Try.results11, go_sem, z0, z1]
    exact .inr ⟨nl, hv, HNL.out, .inl ⟨HF.out, rfl, (HB.out.setCell (by simp) _).setCell (by simp) _⟩⟩
end Go.Proofs.Ytnokhajjcjfbpaa
