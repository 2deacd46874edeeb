/- MergeBack. -/
import Derived.Test.YtnokhajjcjfbpaaHp
import Derived.Deep.DeepCutAuto
namespace Go.Proofs.Ytnokhajjcjfbpaa
open Go.RowKit Go.Shelf

theorem SliceG.take {W : World} {A : Option Addr} {l : List Nat} (h : SliceG W A l) (m : Nat) : SliceG W A (l.take m) := fun k hk => by
  rw [List.length_take] at hk
  obtain ⟨ad, h1, h2, h3⟩ := h k (by omega)
  exact ⟨ad, h1, h2, by rw [h3, List.getElem?_take_of_lt (by omega)]⟩

set_option maxRecDepth 100000 in
set_option maxHeartbeats 16000000 in
theorem back_walk (n : Nat) (C A B K : Option Addr) (c a b ck : Nat) (cl : List (List Int)) (ts : List Nat) (hs : List (List Int)) (kn : List Nat) (w : World) (hnu : (n : Int) ≤ 18446744073709551615)
    (hts : SliceG w A ts) (hu : ∀ x ∈ ts, (x : Int) ≤ 18446744073709551615) (hhs : HashG w B hs) (hkn : SliceG w K kn) (hkc : kn.length ≤ ck) (hcm : ck ≤ maxLen) :
    Calls Try.prog 4 #[.agg #[.int .u64 n, .slice C cl.length c, .slice A ts.length a, .slice B hs.length b], .slice K kn.length ck] w (NRet (.bool true) w) := by
  have HT := Lib.hid hts
  have HH := Lib.hid hhs
  have HK := Lib.hid (hkn.take 30)
  have HU := Lib.hid hu
  clear hts hhs hkn hu
  go_enter Try.func4, Try.ntmps4
  go_upto_region 1 with fail
  refine wp_gen (fun W => IsBlk W w.heap.size 28 #[.int .u64 n, .slice C cl.length c, .slice A ts.length a, .slice B hs.length b] ∧ Below w.heap.size w W) ⟨by repeat' (first | with_reducible assumption | with_reducible refine IsBlk.drewN ?_ _ | with_reducible refine IsBlk.drew ?_ | with_reducible refine IsBlk.newAt _ _ ?_ | with_reducible refine IsBlk.alloc ?_ _ | with_reducible refine IsBlk.far ?_ ?_ _ | (simp; done) | (simp; omega)), by repeat' (first | exact Below.refl _ _ | refine bel_drewN ?_ _ | refine Below.drew ?_ | refine Below.alloc ?_ ?_ _ | refine Below.setCell ?_ ?_ _ | exact Nat.le_refl _ | (simp; done) | (simp; omega) | assumption)⟩ ?_
  intro w0 ⟨b0, bb⟩
  have B0 := Lib.hid b0
  have BB := Lib.hid bb
  have s0 := b0.cell 0
  have s1 := b0.cell 1
  have s2 := b0.cell 2
  have s3 := b0.cell 3
  simp at s0 s1 s2 s3
  have ls := b0.lt
  clear b0 bb
  go_wp2_with fail
  refine (few_any n C A B cl.length ts.length hs.length c a b w0).mono ?_
  rintro e w1 ⟨rfl, hb1⟩
  have BB1 := Lib.hid (BB.out.trans (hb1.mono BB.out.size))
  have C0 := Lib.hid (B0.out.after hb1)
  clear hb1 s0 s1 s2 s3 ls
  by_cases hf : cl.length ≤ 20 ∧ ts.length ≤ 20 ∧ hs.length ≤ 200
  · rw [decide_eq_true hf]
    obtain ⟨hf1, hf2, hf3⟩ := hf
    have hc2 : (ck : Int) ≤ 9223372036854775807 := by simp only [maxLen] at hcm; omega
    have hl2 : (kn.length : Int) ≤ ck := by omega
    obtain ⟨kl, hkl⟩ : ∃ kl, kl = kn.take 30 := ⟨_, rfl⟩
    have hkll : kl.length = min kn.length 30 := by rw [hkl, List.length_take, Nat.min_comm]
    have E : min (kn.length : Int) 30 = (kl.length : Int) := by omega
    have hk30 : kl.length ≤ 30 := by omega
    have hkk : (kl.length : Int) ≤ kn.length := by omega
    have hkc2 : (kl.length : Int) ≤ ck := by omega
    rw [← hkl] at HK
    clear hkl hkll
    have s0 := C0.out.cell 0
    have s1 := C0.out.cell 1
    have s2 := C0.out.cell 2
    have s3 := C0.out.cell 3
    simp at s0 s1 s2 s3
    have ls := C0.out.lt
    go_wp2_with fail
    by_cases hv : Valid n ts
    · refine (part_yes n ts kl hs A B K a b ck w1 (by omega) (by omega) (by omega) (HT.out.after BB1.out) (HH.out.after BB1.out) (HK.out.after BB1.out) hv).mono ?_
      rintro e w2 (⟨hn, rfl, hb2⟩ | ⟨nl, _, hnl, hlen, T, t, G, g, H, h, rfl, sT, sG, sH, ⟨hcg, hch⟩, hb2⟩)
      · obtain ⟨nl, hnl, hne⟩ : ∃ nl, IsNeed n ts nl ∧ nl.length ≠ hs.length := by
          rcases hn with hn | h
          · exact absurd hv hn
          · exact h
        have HNE := Lib.hid hne
        have HNL := Lib.hid hnl
        have HB2 := Lib.hid hb2
        clear hn hne hnl hb2 s0 s1 s2 s3 ls E hl2 hkk hkc2 hc2
        go_upto_region 5 with fail
        refine wp_gen (fun W => Below w1.heap.size w1 W) (HB2.out.alloc HB2.out.size _) ?_
        intro v1 hbv
        have D0 := Lib.hid (C0.out.after hbv)
        have DB := Lib.hid (BB1.out.trans (hbv.mono BB1.out.size))
        clear hbv
        have s0 := D0.out.cell 0
        have s1 := D0.out.cell 1
        have s2 := D0.out.cell 2
        have s3 := D0.out.cell 3
        simp at s0 s1 s2 s3
        have ls := D0.out.lt
        go_wp2_with fail
        refine (need_yes n ts A a v1 (by omega) (HT.out.after DB.out) hv).mono ?_
        rintro e w3 ⟨nl', hnl', hok⟩
        obtain rfl := isNeed_one HNL.out hnl'
        obtain ⟨A5, c5, rfl, _, hb5⟩ := hok.at
        clear hok hnl' s0 s1 s2 s3 ls
        have E0 := Lib.hid (D0.out.after hb5)
        have BX := Lib.hid (DB.out.trans (hb5.mono DB.out.size))
        clear hb5
        have s0 := E0.out.cell 0
        have s1 := E0.out.cell 1
        have s2 := E0.out.cell 2
        have s3 := E0.out.cell 3
        simp at s0 s1 s2 s3
        have ls := E0.out.lt
        have hne2 : ((nl.length : Int) != hs.length) = true := by rw [bne_iff_ne]; have := HNE.out; omega
        go_wp2_with fail
        refine (works_any _).mono ?_
        rintro e w9 ⟨rfl, hb9⟩
        have HB9 := Lib.hid (BX.out.trans (hb9.mono BX.out.size))
        clear hb9
        go_wp2_with fail
        go_ret
        exact ⟨rfl, HB9.out⟩
      · have hl64 := need_short hnl
        obtain ⟨gs, hgs⟩ : ∃ gs, gs = gapsOf kl nl nl.length := ⟨_, rfl⟩
        obtain ⟨rs, hrs⟩ : ∃ rs, rs = restOf kl nl hs nl.length := ⟨_, rfl⟩
        rw [← hgs] at sG hcg ⊢
        rw [← hrs] at sH hch ⊢
        have HNL := Lib.hid hnl
        have HLE := Lib.hid hlen
        have HGS := Lib.hid hgs
        have HRS := Lib.hid hrs
        have HB2 := Lib.hid hb2
        have ST := Lib.hid sT.gen
        have SG := Lib.hid sG
        have SH := Lib.hid sH
        clear hnl hlen hgs hrs hb2 sT sG sH s0 s1 s2 s3 ls E hl2 hkk hkc2 hc2
        go_upto_region 5 with fail
        refine wp_gen (fun W => IsBlk W w2.heap.size 31 #[.slice T ts.length t, .slice G gs.length g, .slice H rs.length h] ∧ Below w2.heap.size w2 W) ⟨IsBlk.new _ _ _, by repeat' (first | exact Below.refl _ _ | refine bel_drewN ?_ _ | refine Below.drew ?_ | refine Below.alloc ?_ ?_ _ | refine Below.setCell ?_ ?_ _ | exact Nat.le_refl _ | (simp; done) | (simp; omega) | assumption)⟩ ?_
        intro v1 ⟨hp, hbv⟩
        have DBV := Lib.hid hbv
        have hb12 := HB2.out.trans (hbv.mono HB2.out.size)
        have D0 := Lib.hid (C0.out.after hb12)
        have DP := Lib.hid hp
        have DB := Lib.hid (BB1.out.trans (hb12.mono BB1.out.size))
        clear hbv hb12 hp
        have s0 := D0.out.cell 0
        have s1 := D0.out.cell 1
        have s2 := D0.out.cell 2
        have s3 := D0.out.cell 3
        simp at s0 s1 s2 s3
        have ls := D0.out.lt
        go_wp2_with fail
        refine (need_yes n ts A a v1 (by omega) (HT.out.after DB.out) hv).mono ?_
        rintro e w3 ⟨nl', hnl', hok⟩
        obtain rfl := isNeed_one HNL.out hnl'
        obtain ⟨A5, c5, rfl, hs5, hb5⟩ := hok.at
        have HS5 := Lib.hid hs5
        clear hok hnl' s0 s1 s2 s3 ls hs5
        have E0 := Lib.hid (D0.out.after hb5)
        have EP := Lib.hid (DP.out.after hb5)
        have ET := Lib.hid ((ST.out.after DBV.out).after hb5)
        have EG := Lib.hid ((SG.out.after DBV.out).after hb5)
        have EH := Lib.hid ((SH.out.after DBV.out).after hb5)
        have EB := Lib.hid (DB.out.trans (hb5.mono DB.out.size))
        clear hb5
        have s0 := E0.out.cell 0
        have s1 := E0.out.cell 1
        have s2 := E0.out.cell 2
        have s3 := E0.out.cell 3
        simp at s0 s1 s2 s3
        have ls := E0.out.lt
        have lE : w.heap.size + 1 ≤ w3.heap.size := E0.out.lt
        have hne2 : ((nl.length : Int) != hs.length) = false := by rw [bne_eq_false_iff_eq]; have := HLE.out; omega
        go_wp2_with fail
        clear s0 s1 s2 s3 ls hne2
        go_loopw [11] (fun v wr => ∃ i : Nat, i ≤ nl.length ∧ v = .int .i64 i ∧ (∃ v1 v2, TwoK wr w3.heap.size (tabOf nl (fun j => hs.getD j []) i) (tabOf nl (fun j => bump (hs.getD j [])) i) v1 v2) ∧ Below w3.heap.size w3 wr) (fun v _ => nl.length - (intOf v).toNat)
        case atStart => exact ⟨0, by omega, rfl, ⟨.slice none 0 0, .slice none 0 0, (IsBlk.new _ _ _).alloc _, IsBlk.newAt _ _ (by simp), OwnK.nil _ _, OwnK.nil _ _, .inl rfl⟩, ((Below.refl _ _).alloc (Nat.le_refl _) _).alloc (by simp) _⟩
        case round =>
          obtain ⟨i, hi, rfl, ⟨v1', v2', htk⟩, hbel⟩ := hrel
          have HBR := Lib.hid hbel
          have hzr := hbel.size
          obtain ⟨K1, k1, rfl⟩ := row_shape htk.o1.1
          obtain ⟨K2, k2, rfl⟩ := row_shape htk.o2.1
          simp only [tab_len] at htk
          have HTK := Lib.hid htk
          clear htk hbel
          by_cases hlt : i < nl.length
          · have hx : nl[i]? = some nl[i] := List.getElem?_eq_getElem hlt
            have hz : hs[i]? = some (hs[i]'(by have := HLE.out; omega)) := List.getElem?_eq_getElem (by have := HLE.out; omega)
            have HX := Lib.hid hx
            have HZ := Lib.hid hz
            have HZD := Lib.hid (show hs.getD i [] = hs[i]'(by have := HLE.out; omega) from by simp [List.getD, hz])
            obtain ⟨g1, rfl, hg1, hc1⟩ := HS5.out i hlt
            rw [hx] at hc1
            simp only [Option.map_some] at hc1
            obtain ⟨g2, o2, rfl, hg2, ry, hy⟩ := (HH.out.after EB.out).at hz
            clear hx hz
            generalize nl[i] = x at *
            generalize (hs[i]'(by have := HLE.out; omega)) = z at *
            have i1 : (i : Int) < nl.length := by omega
            have i2 : (i : Int) < hs.length := by have := HLE.out; omega
            have NLW := Lib.hid fun (W : World) (hW : Below w3.heap.size w3 W) => (hW.cell (p := ⟨g1, i, none⟩) hg1).trans hc1
            have RY := Lib.hid (rng_after ry hg2 HBR.out)
            clear hc1 ry
            have s0 := (E0.out.after HBR.out).cell 0
            have s1 := (E0.out.after HBR.out).cell 1
            have s2 := (E0.out.after HBR.out).cell 2
            have s3 := (E0.out.after HBR.out).cell 3
            simp at s0 s1 s2 s3
            have ls := (E0.out.after HBR.out).lt
            have HY := Lib.hid hy
            go_upto_region 16 with (first
              | refine wpList_load_mid rfl 37 (.tmp 85) rfl g2 (o2 + i * 32) rfl (hc z) _ RY.out Try.underlying37 rfl (by rw [hash_size, hc_len, HY.out]) ?_
              | (refine wpList_store_hash rfl (.tmp 12) (.tmp 86) rfl wr.heap.size _ z rfl rfl HY.out (IsBlk.new _ _ _) rfl ?_; intro wz hz1 hz2; have YZ := Lib.hid hz1; have HBZ := Lib.hid (((Below.refl wr.heap.size wr).alloc (Nat.le_refl _) _).trans hz2); clear hz1 hz2))
            have TKZ := Lib.hid (HTK.out.grown HBZ.out)
            have BZ6 := Lib.hid (HBR.out.trans (HBZ.out.mono HBR.out.size))
            have NY6 := Lib.hid (show (Value.slice K1 i k1).ownBlock ≠ some wr.heap.size from fun e => by have := (HTK.out.o1.1.lt _ e).2; omega)
            have NY0 := Lib.hid (show (Value.slice K2 i k2).ownBlock ≠ some wr.heap.size from fun e => by have := (HTK.out.o2.1.lt _ e).2; omega)
            have hX2 : w3.heap.size + 2 ≤ wr.heap.size := HTK.out.b2.lt
            clear s0 s1 s2 s3 ls
            have TKD := Lib.hid (TKZ.out.grown (Below.refl _ _).drew)
            have YD := Lib.hid (show IsBlk wz.drew wr.heap.size 37 (hc z).toArray from YZ.out)
            have HBD := Lib.hid (BZ6.out.drew)
            have lx : wr.heap.size < wz.drew.heap.size := YD.out.lt
            refine AnyH.start 12 (fun W => Below w3.heap.size w3 W ∧ IsBlk W wr.heap.size 37 (hc z).toArray) (by kernel_rfl) rfl ?_
            have hSD : Below w3.heap.size w3 wz.drew ∧ IsBlk wz.drew wr.heap.size 37 (hc z).toArray := ⟨HBD.out, YD.out⟩
            refine AnyH.take (i := 0) (v := ?_) rfl (by kernel_rfl) (fun _ _ _ h => h) rfl ?_ hSD ?_
            rotate_left
            (intro w hS; go_simp; with_reducible rfl)
            try simp only [Act.put, List.setIfInBounds_toArray, List.set_cons_zero, List.set_cons_succ]
            refine AnyH.take (i := 2) (v := ?_) rfl (by kernel_rfl) (fun _ _ _ h => h) rfl ?_ hSD ?_
            rotate_left
            (intro w hS; go_simp; with_reducible rfl)
            try simp only [Act.put, List.setIfInBounds_toArray, List.set_cons_zero, List.set_cons_succ]
            refine AnyH.take (i := 3) (v := ?_) rfl (by kernel_rfl) (fun _ _ _ h => h) rfl ?_ hSD ?_
            rotate_left
            (intro w hS; go_simp; with_reducible rfl)
            try simp only [Act.put, List.setIfInBounds_toArray, List.set_cons_zero, List.set_cons_succ]
            refine AnyH.take (i := 4) (v := ?_) rfl (by kernel_rfl) (fun _ _ _ h => h) rfl ?_ hSD ?_
            rotate_left
            (intro w hS; go_simp; with_reducible rfl)
            try simp only [Act.put, List.setIfInBounds_toArray, List.set_cons_zero, List.set_cons_succ]
            refine AnyH.take (i := 5) (v := ?_) rfl (by kernel_rfl) (fun _ _ _ h => h) rfl ?_ hSD ?_
            rotate_left
            (intro w hS; have hcell := NLW.out w hS.1; go_simp; with_reducible rfl)
            try simp only [Act.put, List.setIfInBounds_toArray, List.set_cons_zero, List.set_cons_succ]
            refine AnyH.long (i := 6) 37 (.agg (hc z).toArray) rfl (by kernel_rfl) (fun _ _ _ h => h) rfl rfl rfl (fun w hS => blk_hash hS.2 HY.out) hSD ?_
            try simp only [Act.put, List.setIfInBounds_toArray, List.set_cons_zero, List.set_cons_succ]
            refine AnyH.take (i := 7) (v := .agg (kc (x, z)).toArray) rfl (by kernel_rfl) (fun _ _ _ h => h) rfl (fun w hS => run_build_known x z HY.out _ _ rfl rfl rfl w) hSD ?_
            try simp only [Act.put, List.setIfInBounds_toArray, List.set_cons_zero, List.set_cons_succ]
            refine AnyH.load_make (i := 1) (j := 8) (v := .slice K1 i k1) (b := .slice (some ⟨wz.drew.heap.size, 0, none⟩) 1 1) (w' := wz.drew.alloc (.cells (kc (x, z)).toArray 39)) rfl rfl (by kernel_rfl) (by kernel_rfl) (by kernel_rfl) rfl rfl rfl rfl ?_ ?_ ?_ ?_ hSD ?_ (by kernel_rfl) rfl ?_
            · have x0 := TKD.out.b1.cell 0
              simp at x0
              go_simp
            · exact run_slice_known (x, z) HY.out _ rfl rfl _
            · exact run_slice_known (x, z) HY.out _ rfl rfl _
            · have x0 := (TKZ.out.b1.alloc (.cells (kc (x, z)).toArray 39)).cell 0
              simp at x0
              go_simp
            · exact ⟨hSD.1.alloc (by omega) _, hSD.2.alloc _⟩
            try simp only [Act.put, List.setIfInBounds_toArray, List.set_cons_zero, List.set_cons_succ]
            obtain ⟨A6, c6, W6, hrun, hown, hgr, hat⟩ := grow_known TKD.out.o1 (by omega) (x, z) HY.out (by rw [tab_len]; omega)
            rw [tab_len] at hrun hown hat
            obtain ⟨PN, BN⟩ := TKD.out.one hgr hown hat
            have hYo := NY6.out
            have hb' := TKD.out.b1.low hgr (row_low TKD.out.o1.1 (by omega))
            have y2 := hb'.cell 0
            simp at y2
            have fy := hb'.free
            have ly := hb'.lt
            refine AnyH.one (i := 9) (by kernel_rfl) ⟨_, _, W6, rfl, rfl, comes_append (.tmp 88) (.tmp 95) _ rfl rfl rfl hrun, ⟨hSD.1.grown hgr (by omega) (fun r e => by have := (TKD.out.o1.1.lt r e).1; omega), hSD.2.low hgr (.inr hYo)⟩, ?_⟩
            try simp only [Act.put, List.setIfInBounds_toArray, List.set_cons_zero, List.set_cons_succ]
            refine AnyH.one (i := 10) (by kernel_rfl) ⟨_, .pointer (some ⟨w3.heap.size, 0, none⟩), W6, rfl, rfl, .inl (by go_simp), ⟨hSD.1.grown hgr (by omega) (fun r e => by have := (TKD.out.o1.1.lt r e).1; omega), hSD.2.low hgr (.inr hYo)⟩, ?_⟩
            try simp only [Act.put, List.setIfInBounds_toArray, List.set_cons_zero, List.set_cons_succ]
            refine AnyH.one (i := 11) (by kernel_rfl) ⟨_, undef, W6.setCell ⟨w3.heap.size, 0, none⟩ (.slice A6 (i + 1) c6), rfl, rfl, comes_store (.tmp 97) (.tmp 96) rfl rfl rfl (by go_simp), ⟨hSD.1.trans BN, (hSD.2.low hgr (.inr hYo)).far (by simp; omega) _⟩, ?_⟩
            try simp only [Act.put]
            refine wpAnyH_done (by kernel_rfl) ?_ _
            have TN6 := Lib.hid PN
            have BN6 := Lib.hid (hSD.1.trans BN)
            have YN6 := Lib.hid ((hSD.2.low hgr (.inr hYo)).far (show wr.heap.size ≠ (⟨w3.heap.size, 0, none⟩ : Addr).block by simp; omega) (.slice A6 (i + 1) c6))
            have AT6 := Lib.hid hat
            clear PN BN hb' y2 fy ly hrun hown hgr hat hYo
            generalize W6.setCell ⟨w3.heap.size, 0, none⟩ (.slice A6 (i + 1) c6) = wn at *
            have NA6 := Lib.hid (show (Value.slice A6 (i + 1) c6).ownBlock ≠ some wr.heap.size from fun e => by
              rcases AT6.out with h | h
              · exact NY6.out (h.symm.trans e)
              · rw [e] at h
                injection h with h
                omega)
            obtain ⟨z7, hz7⟩ : ∃ z7, z.getD 7 0 = z7 := ⟨_, rfl⟩
            obtain ⟨b7, hb7⟩ : ∃ b7, IntKind.u8.wrap (z7 + 1) = b7 := ⟨_, rfl⟩
            have yc : wn.cell? ⟨wr.heap.size, 7, none⟩ = some (.int .u8 z7) := by rw [YN6.out.cell 7, hc_seven z HY.out, hz7]
            have HE7 := Lib.hid (show (hc z).toArray.setIfInBounds 7 (.int .u8 b7) = (hc (bump z)).toArray from by rw [← hb7, ← hz7]; exact hc_bump z)
            have yf := YN6.out.free
            have yl := YN6.out.lt
            clear hz7
            go_upto_region 18 with fail
            refine wp_gen (fun W => TwoK W w3.heap.size (tabOf nl (fun j => hs.getD j []) i ++ [(x, z)]) (tabOf nl (fun j => bump (hs.getD j [])) i) (.slice A6 (i + 1) c6) (.slice K2 i k2) ∧ Below w3.heap.size w3 W ∧ IsBlk W wr.heap.size 37 (hc (bump z)).toArray) ⟨TN6.out.poke (by omega) NA6.out NY0.out 7 _, BN6.out.setCell (by simp; omega) _, ?_⟩ ?_
            · rw [← HE7.out]
              exact YN6.out.put 7 _
            intro wm ⟨tm, bm, ym⟩
            have TKM := Lib.hid tm
            have BZ5 := Lib.hid bm
            have YM := Lib.hid ym
            have NY5 := Lib.hid NY0.out
            have HBL := Lib.hid ((bump_len z).trans HY.out)
            have hwm := bm.size
            clear tm bm ym yc yf yl hb7
            have TKD := Lib.hid (TKM.out.grown (Below.refl _ _).drew)
            have YD := Lib.hid (show IsBlk wm.drew wr.heap.size 37 (hc (bump z)).toArray from YM.out)
            have HBD := Lib.hid (BZ5.out.drew)
            have lx : wr.heap.size < wm.drew.heap.size := YD.out.lt
            refine AnyH.start 12 (fun W => Below w3.heap.size w3 W ∧ IsBlk W wr.heap.size 37 (hc (bump z)).toArray) (by kernel_rfl) rfl ?_
            have hSD : Below w3.heap.size w3 wm.drew ∧ IsBlk wm.drew wr.heap.size 37 (hc (bump z)).toArray := ⟨HBD.out, YD.out⟩
            refine AnyH.take (i := 0) (v := ?_) rfl (by kernel_rfl) (fun _ _ _ h => h) rfl ?_ hSD ?_
            rotate_left
            (intro w hS; go_simp; with_reducible rfl)
            try simp only [Act.put, List.setIfInBounds_toArray, List.set_cons_zero, List.set_cons_succ]
            refine AnyH.take (i := 2) (v := ?_) rfl (by kernel_rfl) (fun _ _ _ h => h) rfl ?_ hSD ?_
            rotate_left
            (intro w hS; go_simp; with_reducible rfl)
            try simp only [Act.put, List.setIfInBounds_toArray, List.set_cons_zero, List.set_cons_succ]
            refine AnyH.take (i := 3) (v := ?_) rfl (by kernel_rfl) (fun _ _ _ h => h) rfl ?_ hSD ?_
            rotate_left
            (intro w hS; go_simp; with_reducible rfl)
            try simp only [Act.put, List.setIfInBounds_toArray, List.set_cons_zero, List.set_cons_succ]
            refine AnyH.take (i := 4) (v := ?_) rfl (by kernel_rfl) (fun _ _ _ h => h) rfl ?_ hSD ?_
            rotate_left
            (intro w hS; go_simp; with_reducible rfl)
            try simp only [Act.put, List.setIfInBounds_toArray, List.set_cons_zero, List.set_cons_succ]
            refine AnyH.take (i := 5) (v := ?_) rfl (by kernel_rfl) (fun _ _ _ h => h) rfl ?_ hSD ?_
            rotate_left
            (intro w hS; have hcell := NLW.out w hS.1; go_simp; with_reducible rfl)
            try simp only [Act.put, List.setIfInBounds_toArray, List.set_cons_zero, List.set_cons_succ]
            refine AnyH.long (i := 6) 37 (.agg (hc (bump z)).toArray) rfl (by kernel_rfl) (fun _ _ _ h => h) rfl rfl rfl (fun w hS => blk_hash hS.2 HBL.out) hSD ?_
            try simp only [Act.put, List.setIfInBounds_toArray, List.set_cons_zero, List.set_cons_succ]
            refine AnyH.take (i := 7) (v := .agg (kc (x, (bump z))).toArray) rfl (by kernel_rfl) (fun _ _ _ h => h) rfl (fun w hS => run_build_known x (bump z) HBL.out _ _ rfl rfl rfl w) hSD ?_
            try simp only [Act.put, List.setIfInBounds_toArray, List.set_cons_zero, List.set_cons_succ]
            refine AnyH.load_make (i := 1) (j := 8) (v := .slice K2 i k2) (b := .slice (some ⟨wm.drew.heap.size, 0, none⟩) 1 1) (w' := wm.drew.alloc (.cells (kc (x, (bump z))).toArray 39)) rfl rfl (by kernel_rfl) (by kernel_rfl) (by kernel_rfl) rfl rfl rfl rfl ?_ ?_ ?_ ?_ hSD ?_ (by kernel_rfl) rfl ?_
            · have x0 := TKD.out.b2.cell 0
              simp at x0
              go_simp
            · exact run_slice_known (x, (bump z)) HBL.out _ rfl rfl _
            · exact run_slice_known (x, (bump z)) HBL.out _ rfl rfl _
            · have x0 := (TKM.out.b2.alloc (.cells (kc (x, (bump z))).toArray 39)).cell 0
              simp at x0
              go_simp
            · exact ⟨hSD.1.alloc (by omega) _, hSD.2.alloc _⟩
            try simp only [Act.put, List.setIfInBounds_toArray, List.set_cons_zero, List.set_cons_succ]
            obtain ⟨A5, c5, W5, hrun, hown, hgr, hat⟩ := grow_known TKD.out.o2 (by omega) (x, (bump z)) HBL.out (by rw [tab_len]; omega)
            rw [tab_len] at hrun hown hat
            obtain ⟨PN, BN⟩ := TKD.out.two hgr hown hat
            have hYo := NY5.out
            have hb' := TKD.out.b2.low hgr (row_low TKD.out.o2.1 (by omega))
            have y2 := hb'.cell 0
            simp at y2
            have fy := hb'.free
            have ly := hb'.lt
            refine AnyH.one (i := 9) (by kernel_rfl) ⟨_, _, W5, rfl, rfl, comes_append (.tmp 103) (.tmp 110) _ rfl rfl rfl hrun, ⟨hSD.1.grown hgr (by omega) (fun r e => by have := (TKD.out.o2.1.lt r e).1; omega), hSD.2.low hgr (.inr hYo)⟩, ?_⟩
            try simp only [Act.put, List.setIfInBounds_toArray, List.set_cons_zero, List.set_cons_succ]
            refine AnyH.one (i := 10) (by kernel_rfl) ⟨_, .pointer (some ⟨w3.heap.size + 1, 0, none⟩), W5, rfl, rfl, .inl (by go_simp), ⟨hSD.1.grown hgr (by omega) (fun r e => by have := (TKD.out.o2.1.lt r e).1; omega), hSD.2.low hgr (.inr hYo)⟩, ?_⟩
            try simp only [Act.put, List.setIfInBounds_toArray, List.set_cons_zero, List.set_cons_succ]
            refine AnyH.one (i := 11) (by kernel_rfl) ⟨_, undef, W5.setCell ⟨w3.heap.size + 1, 0, none⟩ (.slice A5 (i + 1) c5), rfl, rfl, comes_store (.tmp 112) (.tmp 111) rfl rfl rfl (by go_simp), ⟨hSD.1.trans BN, (hSD.2.low hgr (.inr hYo)).far (by simp; omega) _⟩, ?_⟩
            try simp only [Act.put]
            refine wpAnyH_done (by kernel_rfl) ?_ _
            have TN5 := Lib.hid PN
            have BN5 := Lib.hid (hSD.1.trans BN)
            have YN5 := Lib.hid ((hSD.2.low hgr (.inr hYo)).far (show wr.heap.size ≠ (⟨w3.heap.size + 1, 0, none⟩ : Addr).block by simp; omega) (.slice A5 (i + 1) c5))
            have AT5 := Lib.hid hat
            clear PN BN hb' y2 fy ly hrun hown hgr hat hYo
            go_wp2_with fail
            exact ⟨⟨i + 1, by omega, by go_num, ⟨_, _, by rw [tab_succ nl _ HX.out HZD.out, tab_succ nl _ HX.out (show bump (hs.getD i []) = bump z by rw [HZD.out])]; exact TN5.out⟩, BN5.out⟩, by simp [intOf]; omega⟩
          · obtain rfl : i = nl.length := by omega
            obtain ⟨kt1, hkt1⟩ : ∃ k, k = tabOf nl (fun j => hs.getD j []) nl.length := ⟨_, rfl⟩
            obtain ⟨kt2, hkt2⟩ : ∃ k, k = tabOf nl (fun j => bump (hs.getD j [])) nl.length := ⟨_, rfl⟩
            obtain ⟨qs, hqs⟩ : ∃ q, q = mixOf kl nl hs (fun j => bump (hs.getD j [])) nl.length := ⟨_, rfl⟩
            rw [← hkt1, ← hkt2] at HTK
            have hl1 : kt1.length = nl.length := by rw [hkt1, tab_len]
            have hl2 : kt2.length = nl.length := by rw [hkt2, tab_len]
            have HQ0 := Lib.hid (show qs.length = nl.length from by rw [hqs, mix_len])
            have FG := Lib.hid (show Gaps gs nl.length ∧ gs.length + rs.length = nl.length from ⟨by rw [HGS.out]; exact gaps_ok _ _ _, by rw [HGS.out, HRS.out]; exact part_len HLE.out _ (Nat.le_refl _)⟩)
            have FF1 := Lib.hid (show FillIs n ts gs rs (look kt1) ts hs 0 from .inr ⟨nl, hv, HNL.out, FG.out, by rw [HGS.out, HRS.out, hkt1, fill_back HLE.out (fun j x hx _ => look_tab HNL.out.1 _ hx) _ (Nat.le_refl _), mix_same HLE.out], rfl, rfl⟩)
            have FF2 := Lib.hid (show FillIs n ts gs rs (look kt2) ts qs 0 from .inr ⟨nl, hv, HNL.out, FG.out, by rw [HGS.out, HRS.out, hkt2, hqs, fill_back HLE.out (fun j x hx _ => look_tab HNL.out.1 _ hx) _ (Nat.le_refl _)], rfl, rfl⟩)
            have HQS := Lib.hid hqs
            have SE := Lib.hid fun (W : World) (h : Below w3.heap.size w3 W) => E0.out.after h
            have PE := Lib.hid fun (W : World) (h : Below w3.heap.size w3 W) => EP.out.after h
            have GA := Lib.hid fun (W : World) (h : Below w3.heap.size w3 W) => (HT.out.after EB.out).after h
            have GB := Lib.hid fun (W : World) (h : Below w3.heap.size w3 W) => (HH.out.after EB.out).after h
            have GT := Lib.hid fun (W : World) (h : Below w3.heap.size w3 W) => ET.out.after h
            have GG := Lib.hid fun (W : World) (h : Below w3.heap.size w3 W) => EG.out.after h
            have GH := Lib.hid fun (W : World) (h : Below w3.heap.size w3 W) => EH.out.after h
            have GK1 := Lib.hid (KnownG.own HTK.out.o1 hl1.symm)
            have LEN := Lib.hid (show gs.length ≤ 100000 ∧ rs.length ≤ 100000 ∧ hs.length ≤ 200 ∧ ts.length ≤ 20 from by have := FG.out.2; have := HLE.out; omega)
            clear hkt1 hkt2 hqs
            have s0 := (SE.out _ HBR.out).cell 0
            have s1 := (SE.out _ HBR.out).cell 1
            have s2 := (SE.out _ HBR.out).cell 2
            have s3 := (SE.out _ HBR.out).cell 3
            simp at s0 s1 s2 s3
            have ls := (SE.out _ HBR.out).lt
            have p0 := (PE.out _ HBR.out).cell 0
            have p1 := (PE.out _ HBR.out).cell 1
            have p2 := (PE.out _ HBR.out).cell 2
            simp at p0 p1 p2
            have lp := (PE.out _ HBR.out).lt
            have k0 := HTK.out.b1.cell 0
            simp at k0
            have lk := HTK.out.b1.lt
            go_wp2_with fail
            refine (fill_any n ts gs rs (look kt1) T G H t g h (.func (.func 10) #[.agg #[.slice K1 nl.length k1]] #[]) wr hnu (by omega) LEN.out.1 LEN.out.2.1 HU.out (GT.out _ HBR.out) (GG.out _ HBR.out) (GH.out _ HBR.out) hcg hch (.inr ⟨K1, k1, kt1, by rw [hl1], GK1.out, by omega, rfl⟩)).mono ?_
            rintro e u1 ⟨a1, c1, r1, hIs, T1, t1, H1, h1, rfl, sT, sH, _, hb⟩
            obtain ⟨rfl, rfl, rfl⟩ := fillIs_one FF1.out hIs
            clear hIs k0 lk s0 s1 s2 s3 ls p0 p1 p2 lp
            go_upto_region 20 with fail
            refine wp_gen (fun W => IsBlk W u1.heap.size 26 #[.slice T1 ts.length t1, .slice H1 hs.length h1] ∧ Below u1.heap.size u1 W) ⟨IsBlk.new _ _ _, by repeat' (first | exact Below.refl _ _ | refine bel_drewN ?_ _ | refine Below.drew ?_ | refine Below.alloc ?_ ?_ _ | refine Below.setCell ?_ ?_ _ | exact Nat.le_refl _ | (simp; done) | (simp; omega) | assumption)⟩ ?_
            intro y1 ⟨hq, hbq⟩
            have Q1 := Lib.hid hq
            have ST1 := Lib.hid (sT.after hbq)
            have SH1 := Lib.hid (sH.after hbq)
            have LS1 := Lib.hid (hb.trans (hbq.mono hb.size))
            have N1 := Lib.hid (HBR.out.trans (LS1.out.mono HBR.out.size))
            clear hq hbq sT sH hb
            have TK1 := Lib.hid (HTK.out.grown LS1.out)
            have GK2 := Lib.hid (KnownG.own TK1.out.o2 hl2.symm)
            have s0 := (SE.out _ N1.out).cell 0
            have s1 := (SE.out _ N1.out).cell 1
            have s2 := (SE.out _ N1.out).cell 2
            have s3 := (SE.out _ N1.out).cell 3
            simp at s0 s1 s2 s3
            have ls := (SE.out _ N1.out).lt
            have p0 := (PE.out _ N1.out).cell 0
            have p1 := (PE.out _ N1.out).cell 1
            have p2 := (PE.out _ N1.out).cell 2
            simp at p0 p1 p2
            have lp := (PE.out _ N1.out).lt
            have k0 := TK1.out.b2.cell 0
            simp at k0
            have lk := TK1.out.b2.lt
            go_wp2_with fail
            refine (fill_any n ts gs rs (look kt2) T G H t g h (.func (.func 10) #[.agg #[.slice K2 nl.length k2]] #[]) y1 hnu (by omega) LEN.out.1 LEN.out.2.1 HU.out (GT.out _ N1.out) (GG.out _ N1.out) (GH.out _ N1.out) hcg hch (.inr ⟨K2, k2, kt2, by rw [hl2], GK2.out, by omega, rfl⟩)).mono ?_
            rintro e u2 ⟨a2, c2, r2, hIs, T2, t2, H2, h2, rfl, sT, sH, _, hb⟩
            obtain ⟨rfl, rfl, rfl⟩ := fillIs_one FF2.out hIs
            clear hIs k0 lk s0 s1 s2 s3 ls p0 p1 p2 lp
            go_upto_region 21 with fail
            refine wp_gen (fun W => IsBlk W u2.heap.size 26 #[.slice T2 ts.length t2, .slice H2 qs.length h2] ∧ Below u2.heap.size u2 W) ⟨IsBlk.new _ _ _, by repeat' (first | exact Below.refl _ _ | refine bel_drewN ?_ _ | refine Below.drew ?_ | refine Below.alloc ?_ ?_ _ | refine Below.setCell ?_ ?_ _ | exact Nat.le_refl _ | (simp; done) | (simp; omega) | assumption)⟩ ?_
            intro y2 ⟨hq, hbq⟩
            have Q2 := Lib.hid hq
            have SH2 := Lib.hid (sH.after hbq)
            have LS2 := Lib.hid (hb.trans (hbq.mono hb.size))
            have N2 := Lib.hid (N1.out.trans (LS2.out.mono N1.out.size))
            clear hq hbq sT sH hb
            have QA := Lib.hid (Q1.out.after LS2.out)
            have s0 := (SE.out _ N2.out).cell 0
            have s1 := (SE.out _ N2.out).cell 1
            have s2 := (SE.out _ N2.out).cell 2
            have s3 := (SE.out _ N2.out).cell 3
            simp at s0 s1 s2 s3
            have ls := (SE.out _ N2.out).lt
            have p0 := (PE.out _ N2.out).cell 0
            have p1 := (PE.out _ N2.out).cell 1
            have p2 := (PE.out _ N2.out).cell 2
            simp at p0 p1 p2
            have lp := (PE.out _ N2.out).lt
            have m0 := QA.out.cell 0
            have m1 := QA.out.cell 1
            simp at m0 m1
            have lm := QA.out.lt
            go_wp2_with fail
            refine (same_any ts ts hs hs T1 A H1 B t1 a h1 b y2 (by omega) (by omega) (by omega) (ST1.out.after LS2.out) (GA.out _ N2.out) (SH1.out.after LS2.out) (GB.out _ N2.out)).mono ?_
            rintro e x1 ⟨rfl, hx1⟩
            rw [decide_eq_true (show ts = ts ∧ hs = hs from ⟨rfl, rfl⟩)]
            have X1 := Lib.hid hx1
            clear hx1 m0 m1 lm s0 s1 s2 s3 ls p0 p1 p2 lp
            have QB := Lib.hid (QA.out.after X1.out)
            have QC := Lib.hid (Q2.out.after X1.out)
            have SHB := Lib.hid ((SH1.out.after LS2.out).after X1.out)
            have SHC := Lib.hid (SH2.out.after X1.out)
            have N3 := Lib.hid (N2.out.trans (X1.out.mono N2.out.size))
            have m1 := QB.out.cell 1
            have n1 := QC.out.cell 1
            simp at m1 n1
            have lm := QB.out.lt
            have ln := QC.out.lt
            have hq2 : ((qs.length : Int) != hs.length) = false := by rw [bne_eq_false_iff_eq]; have := HLE.out; have := HQ0.out; omega
            go_wp2_with fail
            clear m1 n1 lm ln hq2
            go_loopw [17, 18] (fun u v wr => ∃ i : Nat, i ≤ hs.length ∧ v = .int .i64 i ∧ (∃ q : Nat, u = .int .i64 q ∧ q = (gapsOf kl nl i).length) ∧ Below x1.heap.size x1 wr) (fun _ v _ => hs.length - (intOf v).toNat)
            case atStart => exact ⟨0, by omega, rfl, ⟨0, rfl, rfl⟩, Below.refl _ _⟩
            case round =>
              obtain ⟨i, hi, rfl, ⟨q, rfl, hq⟩, hbel⟩ := hrel
              have HBS := Lib.hid hbel
              have HQ := Lib.hid hq
              clear hq
              have hp := QB.out.after hbel
              have m1 := hp.cell 1
              simp at m1
              have lm := hp.lt
              clear hp
              have q9 : q ≤ 1000 := by have := HQ.out; have := gaps_len kl nl i; omega
              by_cases hlt : i < hs.length
              · have hz : hs[i]? = some hs[i] := List.getElem?_eq_getElem hlt
                have hx : nl[i]? = some (nl[i]'(by have := HLE.out; omega)) := List.getElem?_eq_getElem (by have := HLE.out; omega)
                have hd : nl.getD i 0 = nl[i]'(by have := HLE.out; omega) := by simp [List.getD, hx]
                have hd2 : hs.getD i [] = hs[i] := by simp [List.getD, hz]
                have hy : qs[i]? = some (if nl[i]'(by have := HLE.out; omega) ∈ kl then bump hs[i] else hs[i]) := by rw [HQS.out, mix_at (by have := HLE.out; omega), hd, hd2]
                obtain ⟨g1, o1, rfl, hg1, ry1, l1⟩ := SHB.out.at hz
                obtain ⟨g2, o2, rfl, hg2, ry2, l2⟩ := SHC.out.at hy
                have HX := Lib.hid hx
                clear hz hd hd2 hy hx
                generalize (nl[i]'(by have := HLE.out; omega)) = x at *
                generalize hs[i] = z at *
                have i1 : (i : Int) < hs.length := by omega
                have i2 : (i : Int) < qs.length := by have := HLE.out; have := HQ0.out; omega
                have QW1 := Lib.hid fun (W : World) (hW : Below x1.heap.size x1 W) => QB.out.after hW
                have QW2 := Lib.hid fun (W : World) (hW : Below x1.heap.size x1 W) => QC.out.after hW
                by_cases hk : x ∈ kl
                · rw [if_pos hk] at ry2 l2
                  have GY := Lib.hid (show q + 1 = (gapsOf kl nl (i + 1)).length from by rw [gaps_yes HX.out hk, List.length_append, HQ.out]; rfl)
                  have L1 := Lib.hid fun (W : World) (hW : Below x1.heap.size x1 W) => hash_var W g1 (o1 + i * 32) z (rng_after ry1 hg1 hW) l1
                  have L2 := Lib.hid fun (W : World) (hW : Below x1.heap.size x1 W) => hash_var W g2 (o2 + i * 32) (bump z) (rng_after ry2 hg2 hW) l2
                  have NE := Lib.hid fun (W : World) => hash_eq W z (bump z) l1 l2
                  have he2 : (z == bump z) = false := by rw [beq_eq_false_iff_ne]; exact fun e => bump_ne z l1 e.symm
                  rw [he2] at NE
                  clear he2 ry1 ry2 hk
                  generalize (hc z).toArray = cx at *
                  generalize (hc (bump z)).toArray = cy at *
                  go_wp2_with fail
                  refine wp_region_seq (S := fun W => Below x1.heap.size x1 W) (by kernel_rfl) (by kernel_rfl) hbel.drew ?_
                  repeat (first
                    | (refine SeqS.skip ?_ ?_; rfl; (try simp only [Act.put, List.setIfInBounds_toArray, List.set_cons_zero, List.set_cons_succ]))
                    | ((first | (refine SeqS.long (x := .tmp 163) 37 (.agg cx) ?_ rfl rfl (fun w hS => L1.out w hS) ?_; rfl) | (refine SeqS.long (x := .tmp 168) 37 (.agg cy) ?_ rfl rfl (fun w hS => L2.out w hS) ?_; rfl)); (try simp only [Act.put, List.setIfInBounds_toArray, List.set_cons_zero, List.set_cons_succ]))
                    | (refine SeqS.take (v := ?_) ?_ ?_ ?_; rotate_left; rfl; (intro w hS; have hp := QW1.out w hS; have m1 := hp.cell 1; simp at m1; have hq := QW2.out w hS; have n1 := hq.cell 1; simp at n1; have ne := NE.out w; go_simp; with_reducible rfl); (try simp only [Act.put, List.setIfInBounds_toArray, List.set_cons_zero, List.set_cons_succ]))
                    | (refine SeqS.call (v := ?_) (f := ?_) (args := ?_) ?_ ?_ ?_ ?_; rotate_left 3; rfl; (intro w hS; have hp := QW1.out w hS; have m1 := hp.cell 1; simp at m1; have hq := QW2.out w hS; have n1 := hq.cell 1; simp at n1; have ne := NE.out w; go_simp; (first | with_reducible rfl | (refine ⟨?_, ?_⟩ <;> with_reducible rfl))); (intro w hS; first | ((with_reducible refine (KK.out _).mono ?_); rintro e w' ⟨rfl, hb⟩; refine ⟨?_, HST.out _ _ hS hb⟩; with_reducible rfl)); (try simp only [Act.put, List.setIfInBounds_toArray, List.set_cons_zero, List.set_cons_succ])))
                  refine SeqS.done ?_
                  rintro wz hz
                  go_wp2_with fail
                  exact ⟨⟨i + 1, by omega, by go_num, ⟨q + 1, by go_num, GY.out⟩, hz⟩, by simp [intOf]; omega⟩
                · rw [if_neg hk] at ry2 l2
                  have GY := Lib.hid (show q = (gapsOf kl nl (i + 1)).length from by rw [gaps_no HX.out hk, HQ.out])
                  have L1 := Lib.hid fun (W : World) (hW : Below x1.heap.size x1 W) => hash_var W g1 (o1 + i * 32) z (rng_after ry1 hg1 hW) l1
                  have L2 := Lib.hid fun (W : World) (hW : Below x1.heap.size x1 W) => hash_var W g2 (o2 + i * 32) z (rng_after ry2 hg2 hW) l2
                  have NE := Lib.hid fun (W : World) => hash_eq W z z l1 l2
                  have he2 : (z == z) = true := beq_self_eq_true _
                  rw [he2] at NE
                  clear he2 ry1 ry2 hk
                  generalize (hc z).toArray = cx at *
                  go_wp2_with fail
                  refine wp_region_seq (S := fun W => Below x1.heap.size x1 W) (by kernel_rfl) (by kernel_rfl) hbel.drew ?_
                  repeat (first
                    | (refine SeqS.skip ?_ ?_; rfl; (try simp only [Act.put, List.setIfInBounds_toArray, List.set_cons_zero, List.set_cons_succ]))
                    | ((first | (refine SeqS.long (x := .tmp 163) 37 (.agg cx) ?_ rfl rfl (fun w hS => L1.out w hS) ?_; rfl) | (refine SeqS.long (x := .tmp 168) 37 (.agg cx) ?_ rfl rfl (fun w hS => L2.out w hS) ?_; rfl)); (try simp only [Act.put, List.setIfInBounds_toArray, List.set_cons_zero, List.set_cons_succ]))
                    | (refine SeqS.take (v := ?_) ?_ ?_ ?_; rotate_left; rfl; (intro w hS; have hp := QW1.out w hS; have m1 := hp.cell 1; simp at m1; have hq := QW2.out w hS; have n1 := hq.cell 1; simp at n1; have ne := NE.out w; go_simp; with_reducible rfl); (try simp only [Act.put, List.setIfInBounds_toArray, List.set_cons_zero, List.set_cons_succ]))
                    | (refine SeqS.call (v := ?_) (f := ?_) (args := ?_) ?_ ?_ ?_ ?_; rotate_left 3; rfl; (intro w hS; have hp := QW1.out w hS; have m1 := hp.cell 1; simp at m1; have hq := QW2.out w hS; have n1 := hq.cell 1; simp at n1; have ne := NE.out w; go_simp; (first | with_reducible rfl | (refine ⟨?_, ?_⟩ <;> with_reducible rfl))); (intro w hS; first | ((with_reducible refine (KK.out _).mono ?_); rintro e w' ⟨rfl, hb⟩; refine ⟨?_, HST.out _ _ hS hb⟩; with_reducible rfl)); (try simp only [Act.put, List.setIfInBounds_toArray, List.set_cons_zero, List.set_cons_succ])))
                  refine SeqS.done ?_
                  rintro wz hz
                  go_wp2_with fail
                  exact ⟨⟨i + 1, by omega, by go_num, ⟨q, rfl, GY.out⟩, hz⟩, by simp [intOf]; omega⟩
              · obtain rfl : i = hs.length := by omega
                obtain rfl : q = gs.length := by rw [HQ.out, HGS.out, HLE.out]
                have N4 := Lib.hid (N3.out.trans (HBS.out.mono N3.out.size))
                clear hbel
                have s0 := (SE.out _ N4.out).cell 0
                have s1 := (SE.out _ N4.out).cell 1
                have s2 := (SE.out _ N4.out).cell 2
                have s3 := (SE.out _ N4.out).cell 3
                simp at s0 s1 s2 s3
                have ls := (SE.out _ N4.out).lt
                have p0 := (PE.out _ N4.out).cell 0
                have p1 := (PE.out _ N4.out).cell 1
                have p2 := (PE.out _ N4.out).cell 2
                simp at p0 p1 p2
                have lp := (PE.out _ N4.out).lt
                go_wp2_with fail
                refine (fill_any n ts gs rs (look []) T G H t g h .nilFunc wr hnu (by omega) LEN.out.1 LEN.out.2.1 HU.out (GT.out _ N4.out) (GG.out _ N4.out) (GH.out _ N4.out) hcg hch (.inl ⟨rfl, fun _ => rfl⟩)).mono ?_
                rintro e u3 ⟨a3, c3, r3, hIs, T3, t3, H3, h3, rfl, _, _, _, hb⟩
                have N5 := Lib.hid (N4.out.trans (hb.mono N4.out.size))
                clear hb m1 lm s0 s1 s2 s3 ls p0 p1 p2 lp
                have s0 := (SE.out _ N5.out).cell 0
                have s1 := (SE.out _ N5.out).cell 1
                have s2 := (SE.out _ N5.out).cell 2
                have s3 := (SE.out _ N5.out).cell 3
                simp at s0 s1 s2 s3
                have ls := (SE.out _ N5.out).lt
                have p0 := (PE.out _ N5.out).cell 0
                have p1 := (PE.out _ N5.out).cell 1
                have p2 := (PE.out _ N5.out).cell 2
                simp at p0 p1 p2
                have lp := (PE.out _ N5.out).lt
                by_cases hg0 : gs = []
                · have e3 := fillIs_one (show FillIs n ts gs rs (look []) ts (mixOf kl nl hs (fun _ => []) nl.length) 0 from .inr ⟨nl, hv, HNL.out, FG.out, by rw [HGS.out, HRS.out]; exact fill_free HLE.out (by rw [← HGS.out]; exact hg0), rfl, rfl⟩) hIs
                  obtain ⟨ha3, hc3, rfl⟩ := e3
                  clear ha3 hc3
                  have hgl : ((gs.length : Int) == 0) = true := by rw [hg0]; rfl
                  have hgs : ((gs.length : Int) == gs.length) = true := beq_self_eq_true _
                  clear hIs hg0
                  go_wp2_with fail
                  have NX := Lib.hid (EB.out.trans (N5.out.mono EB.out.size))
                  have BX := Lib.hid (NX.out.alloc NX.out.size (.cells #[.slice T3 a3.length t3, .slice H3 c3.length h3] 26))
                  refine (works_any _).mono ?_
                  rintro e w9 ⟨rfl, hb9⟩
                  have HB9 := Lib.hid (BX.out.trans (hb9.mono BX.out.size))
                  clear hb9
                  go_wp2_with fail
                  go_ret
                  exact ⟨rfl, HB9.out⟩
                · have e3 := fillIs_one (show FillIs n ts gs rs (look []) [] [] 33 from .inl ⟨.inr ⟨nl, HNL.out, .inr (by rw [HGS.out, HRS.out]; exact fill_nothing (fun _ => rfl) (by rw [← HGS.out]; exact hg0))⟩, rfl, rfl, rfl⟩) hIs
                  obtain ⟨ha3, hc3, rfl⟩ := e3
                  clear ha3 hc3
                  have hgl : ((gs.length : Int) == 0) = false := by
                    rw [beq_eq_false_iff_ne]
                    intro e
                    exact hg0 (List.length_eq_zero_iff.1 (by omega))
                  have hgs : ((gs.length : Int) == gs.length) = true := beq_self_eq_true _
                  clear hIs hg0
                  go_wp2_with fail
                  have NX := Lib.hid (EB.out.trans (N5.out.mono EB.out.size))
                  have BX := Lib.hid (NX.out.alloc NX.out.size (.cells #[.slice T3 a3.length t3, .slice H3 c3.length h3] 26))
                  refine (works_any _).mono ?_
                  rintro e w9 ⟨rfl, hb9⟩
                  have HB9 := Lib.hid (BX.out.trans (hb9.mono BX.out.size))
                  clear hb9
                  go_wp2_with fail
                  go_ret
                  exact ⟨rfl, HB9.out⟩
    · refine (part_no n ts kl hs A B K a b ck w1 hnu (by omega) HU.out (HT.out.after BB1.out) hv).mono ?_
      rintro e w2 ⟨rfl, hb2⟩
      have HB2 := Lib.hid hb2
      clear hb2 s0 s1 s2 s3 ls E hl2 hkk hkc2 hc2
      go_upto_region 5 with fail
      refine wp_gen (fun W => Below w1.heap.size w1 W) (HB2.out.alloc HB2.out.size _) ?_
      intro v1 hbv
      have D0 := Lib.hid (C0.out.after hbv)
      have DB := Lib.hid (BB1.out.trans (hbv.mono BB1.out.size))
      clear hbv
      have s0 := D0.out.cell 0
      have s1 := D0.out.cell 1
      have s2 := D0.out.cell 2
      have s3 := D0.out.cell 3
      simp at s0 s1 s2 s3
      have ls := D0.out.lt
      go_wp2_with fail
      refine (need_no n ts A a v1 hnu (by omega) HU.out (HT.out.after DB.out) hv).mono ?_
      rintro e w3 ⟨rfl, hb5⟩
      have E0 := Lib.hid (D0.out.after hb5)
      have BX := Lib.hid (DB.out.trans (hb5.mono DB.out.size))
      clear hb5 s0 s1 s2 s3 ls
      have s0 := E0.out.cell 0
      have s1 := E0.out.cell 1
      have s2 := E0.out.cell 2
      have s3 := E0.out.cell 3
      simp at s0 s1 s2 s3
      have ls := E0.out.lt
      go_wp2_with fail
      refine (works_any _).mono ?_
      rintro e w9 ⟨rfl, hb9⟩
      have HB9 := Lib.hid (BX.out.trans (hb9.mono BX.out.size))
      clear hb9
      go_wp2_with fail
      go_ret
      exact ⟨rfl, HB9.out⟩
  · rw [decide_eq_false hf]
    clear hf
    go_wp2_with fail
    refine (works_any _).mono ?_
    rintro e w2 ⟨rfl, hb2⟩
    have HB2 := Lib.hid (BB1.out.trans (hb2.mono BB1.out.size))
    clear hb2
    go_wp2_with fail
    go_ret
    exact ⟨rfl, HB2.out⟩

set_option maxRecDepth 100000 in
theorem law_MergeBack {H : Type} {enc : TypeId × Value → H} (W : World) (base : Nat) (v0 v1 : Value) (d0 d1 : DataW H) (p0 p1 : List MemPlace)
    (h0 : DataW.Trod enc Try.prog W 0 (fun _ => true) true 28 v0 d0 p0) (h1 : DataW.Trod enc Try.prog W 0 (fun _ => true) true 24 v1 d1 p1)
    (o0 : Value.okWide Try.prog W .any base 28 v0) (o1 : Value.okWide Try.prog W .any base 24 v1) :
    Calls Try.prog 4 #[v0, v1] W fun e w' => e = .returned (.bool true) ∧ Below W.heap.size W w' := by
  obtain ⟨n, C, A, B, c, a, b, cl, ts, hs, rfl, hn, ⟨t1, t2, t3, t4⟩, u1, u2, u3⟩ := in_setting h0 o0
  obtain ⟨K, ck, kn, rfl, k1, k2, k3, k4⟩ := in_nums h1 o1
  exact back_walk n C A B K c a b ck cl ts hs kn W hn t1 t4 u1 k1 k2 k3
end Go.Proofs.Ytnokhajjcjfbpaa
