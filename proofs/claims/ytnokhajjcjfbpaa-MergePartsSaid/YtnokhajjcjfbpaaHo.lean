/- MergeParts. -/
import Derived.Test.YtnokhajjcjfbpaaJe
import Derived.Deep.DeepCutAuto
namespace Go.Proofs.Ytnokhajjcjfbpaa
open Go.RowKit Go.Shelf

theorem KnownG.take {W : World} {A : Option Addr} {kn : List (Nat × List Int)} (h : KnownG W A kn) (m : Nat) : KnownG W A (kn.take m) := by
  refine ⟨fun k x hk => ?_, fun x hx => h.2 x (List.mem_of_mem_take hx)⟩
  rw [List.map_take, List.getElem?_take] at hk
  split at hk
  · exact h.1 k x hk
  · cases hk

set_option maxRecDepth 100000 in
set_option maxHeartbeats 8000000 in
theorem parts_walk (n : Nat) (C A B P0 P1 P2 K : Option Addr) (c a b q0 q1 q2 ck : Nat) (cl : List (List Int)) (ts : List Nat) (hs : List (List Int)) (pt : List Nat) (pg : List Int) (ph : List (List Int)) (kn : List (Nat × List Int)) (w : World) (hnu : (n : Int) ≤ 18446744073709551615)
    (hts : SliceG w A ts) (hu : ∀ x ∈ ts, (x : Int) ≤ 18446744073709551615) (hhs : HashG w B hs) (hpt : SliceG w P0 pt) (hpu : ∀ x ∈ pt, (x : Int) ≤ 18446744073709551615) (hpg : IntG w P1 pg) (hph : HashG w P2 ph) (hcg : pg.length ≤ q1) (hch : ph.length ≤ q2) (hkn : KnownG w K kn) (hkc : kn.length ≤ ck) (hcm : ck ≤ maxLen) :
    Calls Try.prog 3 #[.agg #[.int .u64 n, .slice C cl.length c, .slice A ts.length a, .slice B hs.length b], .agg #[.slice P0 pt.length q0, .slice P1 pg.length q1, .slice P2 ph.length q2], .slice K kn.length ck] w (NRet (.bool true) w) := by
  have HT := Lib.hid hts
  have HH := Lib.hid hhs
  have HPT := Lib.hid hpt
  have HPG := Lib.hid hpg
  have HPH := Lib.hid hph
  have HK := Lib.hid (hkn.take 60)
  have HU := Lib.hid hu
  have HPU := Lib.hid hpu
  clear hts hhs hpt hpg hph hkn hu hpu
  go_enter Try.func3, Try.ntmps3
  go_upto_region 1 with fail
  refine wp_gen (fun W => IsBlk W w.heap.size 28 #[.int .u64 n, .slice C cl.length c, .slice A ts.length a, .slice B hs.length b] ∧ IsBlk W (w.heap.size + 1) 31 #[.slice P0 pt.length q0, .slice P1 pg.length q1, .slice P2 ph.length q2] ∧ Below w.heap.size w W) ⟨by repeat' (first | with_reducible assumption | with_reducible refine IsBlk.drewN ?_ _ | with_reducible refine IsBlk.drew ?_ | with_reducible refine IsBlk.newAt _ _ ?_ | with_reducible refine IsBlk.alloc ?_ _ | with_reducible refine IsBlk.far ?_ ?_ _ | (simp; done) | (simp; omega)), by repeat' (first | with_reducible assumption | with_reducible refine IsBlk.drewN ?_ _ | with_reducible refine IsBlk.drew ?_ | with_reducible refine IsBlk.newAt _ _ ?_ | with_reducible refine IsBlk.alloc ?_ _ | with_reducible refine IsBlk.far ?_ ?_ _ | (simp; done) | (simp; omega)), by repeat' (first | exact Below.refl _ _ | refine bel_drewN ?_ _ | refine Below.drew ?_ | refine Below.alloc ?_ ?_ _ | refine Below.setCell ?_ ?_ _ | exact Nat.le_refl _ | (simp; done) | (simp; omega) | assumption)⟩ ?_
  intro w0 ⟨b0, b1, bb⟩
  have B0 := Lib.hid b0
  have B1 := Lib.hid b1
  have BB := Lib.hid bb
  have s0 := b0.cell 0
  have s1 := b0.cell 1
  have s2 := b0.cell 2
  have s3 := b0.cell 3
  simp at s0 s1 s2 s3
  have ls := b0.lt
  clear b0 b1 bb
  go_wp2_with fail
  refine (few_any n C A B cl.length ts.length hs.length c a b w0).mono ?_
  rintro e w1 ⟨rfl, hb1⟩
  have BB1 := Lib.hid (BB.out.trans (hb1.mono BB.out.size))
  have C0 := Lib.hid (B0.out.after hb1)
  have C1 := Lib.hid (B1.out.after hb1)
  clear hb1 s0 s1 s2 s3 ls
  have s0 := C0.out.cell 0
  have s1 := C0.out.cell 1
  have s2 := C0.out.cell 2
  have s3 := C0.out.cell 3
  have p0 := C1.out.cell 0
  have p1 := C1.out.cell 1
  have p2 := C1.out.cell 2
  simp at s0 s1 s2 s3 p0 p1 p2
  have ls := C0.out.lt
  have lp := C1.out.lt
  by_cases hf : cl.length ≤ 20 ∧ ts.length ≤ 20 ∧ hs.length ≤ 200
  · rw [decide_eq_true hf]
    by_cases h1 : pt.length ≤ 20
    · by_cases h2 : pg.length ≤ 200
      · by_cases h3 : ph.length ≤ 200
        · have i1 : ¬ (20 : Int) < pt.length := by omega
          have i2 : ¬ (200 : Int) < pg.length := by omega
          have i3 : ¬ (200 : Int) < ph.length := by omega
          obtain ⟨hf1, hf2, hf3⟩ := hf
          have hc2 : (ck : Int) ≤ 9223372036854775807 := by simp only [maxLen] at hcm; omega
          have hl2 : (kn.length : Int) ≤ ck := by omega
          obtain ⟨kl, hkl⟩ : ∃ kl, kl = kn.take 60 := ⟨_, rfl⟩
          have hkll : kl.length = min kn.length 60 := by rw [hkl, List.length_take, Nat.min_comm]
          have E : min (kn.length : Int) 60 = (kl.length : Int) := by omega
          have hk60 : kl.length ≤ 60 := by omega
          have hkk : (kl.length : Int) ≤ kn.length := by omega
          have hkc2 : (kl.length : Int) ≤ ck := by omega
          rw [← hkl] at HK
          clear hkl hkll
          go_upto_region 4 with fail
          refine wp_gen (fun W => IsBlk W w1.heap.size 35 #[.slice K kl.length ck] ∧ Below w1.heap.size w1 W) ⟨IsBlk.new _ _ _, by repeat' (first | exact Below.refl _ _ | refine bel_drewN ?_ _ | refine Below.drew ?_ | refine Below.alloc ?_ ?_ _ | refine Below.setCell ?_ ?_ _ | exact Nat.le_refl _ | (simp; done) | (simp; omega) | assumption)⟩ ?_
          intro w2 ⟨b2, bb⟩
          have D2 := Lib.hid b2
          have D0 := Lib.hid (C0.out.after bb)
          have D1 := Lib.hid (C1.out.after bb)
          have BB2 := Lib.hid (BB1.out.trans (bb.mono BB1.out.size))
          clear b2 bb s0 s1 s2 s3 p0 p1 p2 ls lp i1 i2 i3 E hl2 hkk hkc2 hc2
          obtain ⟨M, hM⟩ : ∃ M, M = min kl.length 30 := ⟨_, rfl⟩
          have HMM := Lib.hid hM
          have hM1 : M ≤ kl.length := by omega
          have hM2 : M ≤ 30 := by omega
          clear hM
          go_wp2_with fail
          go_loopw [8, 9] (fun s v wr => ∃ i : Nat, i ≤ M ∧ v = .int .i64 i ∧ OwnU wr w2.heap.size s ((kl.take i).map (·.1)) ∧ Below w2.heap.size w2 wr) (fun _ v _ => M - (intOf v).toNat)
          case atStart => exact ⟨0, by omega, rfl, by simpa using OwnU.nil _ _, Below.refl _ _⟩
          case round =>
            obtain ⟨i, hi, rfl, hown, hbel⟩ := hrel
            have HBR := Lib.hid hbel
            have hzr := hbel.size
            obtain ⟨SA, sc, rfl⟩ := row_shape hown.row
            have hlen : ((kl.take i).map (·.1)).length = i := by rw [List.length_map, List.length_take]; omega
            rw [hlen] at hown ⊢
            have HOW := Lib.hid hown
            clear hown hbel
            have t2 := D2.out.after HBR.out
            have t0 := t2.cell 0
            simp at t0
            have lt2 := t2.lt
            clear t2
            have HLEN := Lib.hid hlen
            clear hlen
            go_upto_region 6 with fail
            go_cut [58] (fun s wx => s = .bool (decide (i < M)) ∧ wx = wr)
            case first =>
              by_cases h1 : i < kl.length
              · have i1 : (i : Int) < kl.length := by omega
                by_cases h2 : i < 30
                · have i2 : (i : Int) < 30 := by omega
                  have HD := Lib.hid (decide_eq_true (show i < M by have := HMM.out; omega))
                  go_wp2_with fail
                  go_meet
                  exact ⟨by rw [HD.out], rfl⟩
                · have i2 : ¬ (i : Int) < 30 := by omega
                  have HD := Lib.hid (decide_eq_false (show ¬ i < M by have := HMM.out; omega))
                  go_wp2_with fail
                  go_meet
                  exact ⟨by rw [HD.out], rfl⟩
              · have i1 : ¬ (i : Int) < kl.length := by omega
                have HD := Lib.hid (decide_eq_false (show ¬ i < M by have := HMM.out; omega))
                go_wp2_with fail
                go_meet
                exact ⟨by rw [HD.out], rfl⟩
            case rest =>
            obtain ⟨rfl, rfl⟩ := hcut
            have hlen := HLEN.out
            by_cases hlt : i < M
            · have i1 : (i : Int) < kl.length := by omega
              have hx : kl[i]? = some (kl[i]'(by omega)) := List.getElem?_eq_getElem (by omega)
              obtain ⟨g, off, rfl, hg, hc0, _, _⟩ := ((HK.out.after BB2.out).after HBR.out).at hx
              have HX := Lib.hid hx
              clear hx
              generalize (kl[i]'(by omega)) = x at *
              obtain ⟨A', c', W', hrun, hown', hgr⟩ := grow_u64 HOW.out (by omega) x.1 (by omega)
              rw [hlen] at hown' hrun
              have HRUN := Lib.hid hrun
              have HOWN := Lib.hid hown'
              have HGR := Lib.hid (HBR.out.grown hgr (by omega) (fun k e => (HOW.out.row.lt k e).1))
              have TK := Lib.hid (show (kl.take (i + 1)).map (·.1) = (kl.take i).map (·.1) ++ [x.1] from by rw [List.take_add_one, HX.out]; simp)
              clear hrun hown' hgr hlen
              rw [decide_eq_true hlt]
              go_wp2_with (at_builtin; refine wpList_append_run rfl (.tmp 61) (.tmp 68) 24 rfl rfl rfl HRUN.out ?_)
              exact ⟨⟨i + 1, by omega, by go_num, by rw [TK.out]; exact HOWN.out, HGR.out⟩, by simp [intOf]; omega⟩
            · rw [decide_eq_false hlt]
              obtain rfl : i = M := by omega
              obtain ⟨al, hal⟩ : ∃ al, al = (kl.take i).map (·.1) := ⟨_, rfl⟩
              rw [← hal] at hlen HOW
              clear hal
              have hal30 : al.length ≤ 30 := by omega
              rename World => v0
              clear HLEN
              subst hlen
              have HBV := Lib.hid (BB2.out.trans (HBR.out.mono BB2.out.size))
              have HS := Lib.hid fun (W : World) (h : Below v0.heap.size v0 W) => (D0.out.after HBR.out).after h
              have HP := Lib.hid fun (W : World) (h : Below v0.heap.size v0 W) => (D1.out.after HBR.out).after h
              have HB := Lib.hid fun (W : World) (h : Below v0.heap.size v0 W) => (D2.out.after HBR.out).after h
              have GT := Lib.hid fun (W : World) (h : Below v0.heap.size v0 W) => (HT.out.after HBV.out).after h
              have GH := Lib.hid fun (W : World) (h : Below v0.heap.size v0 W) => (HH.out.after HBV.out).after h
              have GPT := Lib.hid fun (W : World) (h : Below v0.heap.size v0 W) => (HPT.out.after HBV.out).after h
              have GPG := Lib.hid fun (W : World) (h : Below v0.heap.size v0 W) => (HPG.out.after HBV.out).after h
              have GPH := Lib.hid fun (W : World) (h : Below v0.heap.size v0 W) => (HPH.out.after HBV.out).after h
              have GK := Lib.hid fun (W : World) (h : Below v0.heap.size v0 W) => (HK.out.after HBV.out).after h
              have HAT := Lib.hid (OwnU.at HOW.out rfl).gen
              have GA := Lib.hid fun (W : World) (h : Below v0.heap.size v0 W) => HAT.out.after h
              clear hlt t0 lt2
              have N0 := Lib.hid (Below.refl v0.heap.size v0)
              have e0 := HS.out v0 N0.out
              have e1 := HP.out v0 N0.out
              have e2 := HB.out v0 N0.out
              have s0 := e0.cell 0
              have s1 := e0.cell 1
              have s2 := e0.cell 2
              have s3 := e0.cell 3
              have p0 := e1.cell 0
              have p1 := e1.cell 1
              have p2 := e1.cell 2
              have t0 := e2.cell 0
              simp at s0 s1 s2 s3 p0 p1 p2 t0
              have l0 := e0.lt
              have l1 := e1.lt
              have l2 := e2.lt
              clear e0 e1 e2
              go_wp2_with fail
              refine (part_any n ts al hs A B SA a b sc v0 hnu (by omega) (by omega) (by omega) HU.out (GT.out _ N0.out) (GH.out _ N0.out) (GA.out _ N0.out)).mono ?_
              rintro e u1 ⟨a1, b1, c1, r1, hIs, T1, t1, G1, g1, H1, h1, rfl, sT, sG, sH, _, hle, hb⟩
              have I1 := Lib.hid hIs
              clear hIs
              clear s0 s1 s2 s3 p0 p1 p2 t0 l0 l1 l2
              go_upto_region 10 with fail
              refine wp_gen (fun W => IsBlk W u1.heap.size 31 #[.slice T1 a1.length t1, .slice G1 b1.length g1, .slice H1 c1.length h1] ∧ Below u1.heap.size u1 W) ⟨IsBlk.new _ _ _, by repeat' (first | exact Below.refl _ _ | refine bel_drewN ?_ _ | refine Below.drew ?_ | refine Below.alloc ?_ ?_ _ | refine Below.setCell ?_ ?_ _ | exact Nat.le_refl _ | (simp; done) | (simp; omega) | assumption)⟩ ?_
              intro v1 ⟨hq, hbq⟩
              have Q1 := Lib.hid hq
              have ST1 := Lib.hid (sT.after hbq)
              have SG1 := Lib.hid (sG.after hbq)
              have SH1 := Lib.hid (sH.after hbq)
              have LE1 := Lib.hid hle
              have LS1 := Lib.hid (hb.trans (hbq.mono hb.size))
              have N1 := Lib.hid (N0.out.trans (LS1.out.mono N0.out.size))
              clear hq hbq sT sG sH hb hle
              have e0 := HS.out v1 N1.out
              have e1 := HP.out v1 N1.out
              have e2 := HB.out v1 N1.out
              have s0 := e0.cell 0
              have s1 := e0.cell 1
              have s2 := e0.cell 2
              have s3 := e0.cell 3
              have p0 := e1.cell 0
              have p1 := e1.cell 1
              have p2 := e1.cell 2
              have t0 := e2.cell 0
              simp at s0 s1 s2 s3 p0 p1 p2 t0
              have l0 := e0.lt
              have l1 := e1.lt
              have l2 := e2.lt
              clear e0 e1 e2
              go_wp2_with fail
              refine (refPart_any n ts al hs A B SA a b sc v1 (by omega) (by omega) (by omega) HU.out (GT.out _ N1.out) (GH.out _ N1.out) (GA.out _ N1.out)).mono ?_
              rintro e u2 ⟨a2, b2, c2, r2, hIs, T2, t2, G2, g2, H2, h2, rfl, sT, sG, sH, _, hle, hb⟩
              obtain ⟨rfl, rfl, rfl, rfl⟩ := partIs_one I1.out hIs
              clear hIs
              clear s0 s1 s2 s3 p0 p1 p2 t0 l0 l1 l2
              go_upto_region 11 with fail
              refine wp_gen (fun W => IsBlk W u2.heap.size 31 #[.slice T2 a1.length t2, .slice G2 b1.length g2, .slice H2 c1.length h2] ∧ Below u2.heap.size u2 W) ⟨IsBlk.new _ _ _, by repeat' (first | exact Below.refl _ _ | refine bel_drewN ?_ _ | refine Below.drew ?_ | refine Below.alloc ?_ ?_ _ | refine Below.setCell ?_ ?_ _ | exact Nat.le_refl _ | (simp; done) | (simp; omega) | assumption)⟩ ?_
              intro v2 ⟨hq, hbq⟩
              have Q2 := Lib.hid hq
              have ST2 := Lib.hid (sT.after hbq)
              have SG2 := Lib.hid (sG.after hbq)
              have SH2 := Lib.hid (sH.after hbq)
              have LE2 := Lib.hid hle
              have LS2 := Lib.hid (hb.trans (hbq.mono hb.size))
              have N2 := Lib.hid (N1.out.trans (LS2.out.mono N1.out.size))
              clear hq hbq sT sG sH hb hle
              have e0 := HS.out v2 N2.out
              have e1 := HP.out v2 N2.out
              have e2 := HB.out v2 N2.out
              have s0 := e0.cell 0
              have s1 := e0.cell 1
              have s2 := e0.cell 2
              have s3 := e0.cell 3
              have p0 := e1.cell 0
              have p1 := e1.cell 1
              have p2 := e1.cell 2
              have t0 := e2.cell 0
              simp at s0 s1 s2 s3 p0 p1 p2 t0
              have l0 := e0.lt
              have l1 := e1.lt
              have l2 := e2.lt
              clear e0 e1 e2
              go_wp2_with fail
              refine (fill_any n pt pg ph (look kl) P0 P1 P2 q0 q1 q2 (.func (.func 10) #[.agg #[.slice K kl.length ck]] #[]) v2 hnu (by omega) (by omega) (by omega) HPU.out (GPT.out _ N2.out) (GPG.out _ N2.out) (GPH.out _ N2.out) hcg hch (.inr ⟨K, ck, kl, rfl, GK.out _ N2.out, by omega, rfl⟩)).mono ?_
              rintro e u3 ⟨a3, c3, r3, hIs, T3, t3, H3, h3, rfl, sT, sH, hle, hb⟩
              have I3 := Lib.hid hIs
              clear hIs
              clear s0 s1 s2 s3 p0 p1 p2 t0 l0 l1 l2
              go_upto_region 12 with fail
              refine wp_gen (fun W => IsBlk W u3.heap.size 26 #[.slice T3 a3.length t3, .slice H3 c3.length h3] ∧ Below u3.heap.size u3 W) ⟨IsBlk.new _ _ _, by repeat' (first | exact Below.refl _ _ | refine bel_drewN ?_ _ | refine Below.drew ?_ | refine Below.alloc ?_ ?_ _ | refine Below.setCell ?_ ?_ _ | exact Nat.le_refl _ | (simp; done) | (simp; omega) | assumption)⟩ ?_
              intro v3 ⟨hq, hbq⟩
              have Q3 := Lib.hid hq
              have ST3 := Lib.hid (sT.after hbq)
              have SH3 := Lib.hid (sH.after hbq)
              have LE3 := Lib.hid hle
              have LS3 := Lib.hid (hb.trans (hbq.mono hb.size))
              have N3 := Lib.hid (N2.out.trans (LS3.out.mono N2.out.size))
              clear hq hbq sT sH hb hle
              have e0 := HS.out v3 N3.out
              have e1 := HP.out v3 N3.out
              have e2 := HB.out v3 N3.out
              have s0 := e0.cell 0
              have s1 := e0.cell 1
              have s2 := e0.cell 2
              have s3 := e0.cell 3
              have p0 := e1.cell 0
              have p1 := e1.cell 1
              have p2 := e1.cell 2
              have t0 := e2.cell 0
              simp at s0 s1 s2 s3 p0 p1 p2 t0
              have l0 := e0.lt
              have l1 := e1.lt
              have l2 := e2.lt
              clear e0 e1 e2
              go_wp2_with fail
              refine (refFill_any n pt pg ph kl P0 P1 P2 K q0 q1 q2 ck v3 (by omega) (by omega) (by omega) (by omega) HPU.out (GPT.out _ N3.out) (GPG.out _ N3.out) (GPH.out _ N3.out) (GK.out _ N3.out)).mono ?_
              rintro e u4 ⟨a4, c4, r4, hIs, T4, t4, H4, h4, rfl, sT, sH, hle, hb⟩
              obtain ⟨rfl, rfl, rfl⟩ := fillIs_one I3.out hIs
              clear hIs
              clear s0 s1 s2 s3 p0 p1 p2 t0 l0 l1 l2
              go_upto_region 13 with fail
              refine wp_gen (fun W => IsBlk W u4.heap.size 26 #[.slice T4 a3.length t4, .slice H4 c3.length h4] ∧ Below u4.heap.size u4 W) ⟨IsBlk.new _ _ _, by repeat' (first | exact Below.refl _ _ | refine bel_drewN ?_ _ | refine Below.drew ?_ | refine Below.alloc ?_ ?_ _ | refine Below.setCell ?_ ?_ _ | exact Nat.le_refl _ | (simp; done) | (simp; omega) | assumption)⟩ ?_
              intro v4 ⟨hq, hbq⟩
              have Q4 := Lib.hid hq
              have ST4 := Lib.hid (sT.after hbq)
              have SH4 := Lib.hid (sH.after hbq)
              have LE4 := Lib.hid hle
              have LS4 := Lib.hid (hb.trans (hbq.mono hb.size))
              have N4 := Lib.hid (N3.out.trans (LS4.out.mono N3.out.size))
              clear hq hbq sT sH hb hle
              have e0 := HS.out v4 N4.out
              have e1 := HP.out v4 N4.out
              have e2 := HB.out v4 N4.out
              have s0 := e0.cell 0
              have s1 := e0.cell 1
              have s2 := e0.cell 2
              have s3 := e0.cell 3
              have p0 := e1.cell 0
              have p1 := e1.cell 1
              have p2 := e1.cell 2
              have t0 := e2.cell 0
              simp at s0 s1 s2 s3 p0 p1 p2 t0
              have l0 := e0.lt
              have l1 := e1.lt
              have l2 := e2.lt
              clear e0 e1 e2
              go_wp2_with fail
              refine (fill_any n pt pg ph (look []) P0 P1 P2 q0 q1 q2 .nilFunc v4 hnu (by omega) (by omega) (by omega) HPU.out (GPT.out _ N4.out) (GPG.out _ N4.out) (GPH.out _ N4.out) hcg hch (.inl ⟨rfl, fun _ => rfl⟩)).mono ?_
              rintro e u5 ⟨a5, c5, r5, hIs, T5, t5, H5, h5, rfl, sT, sH, hle, hb⟩
              have I5 := Lib.hid hIs
              clear hIs
              clear s0 s1 s2 s3 p0 p1 p2 t0 l0 l1 l2
              go_upto_region 14 with fail
              refine wp_gen (fun W => IsBlk W u5.heap.size 26 #[.slice T5 a5.length t5, .slice H5 c5.length h5] ∧ Below u5.heap.size u5 W) ⟨IsBlk.new _ _ _, by repeat' (first | exact Below.refl _ _ | refine bel_drewN ?_ _ | refine Below.drew ?_ | refine Below.alloc ?_ ?_ _ | refine Below.setCell ?_ ?_ _ | exact Nat.le_refl _ | (simp; done) | (simp; omega) | assumption)⟩ ?_
              intro v5 ⟨hq, hbq⟩
              have Q5 := Lib.hid hq
              have ST5 := Lib.hid (sT.after hbq)
              have SH5 := Lib.hid (sH.after hbq)
              have LE5 := Lib.hid hle
              have LS5 := Lib.hid (hb.trans (hbq.mono hb.size))
              have N5 := Lib.hid (N4.out.trans (LS5.out.mono N4.out.size))
              clear hq hbq sT sH hb hle
              have e0 := HS.out v5 N5.out
              have e1 := HP.out v5 N5.out
              have e2 := HB.out v5 N5.out
              have s0 := e0.cell 0
              have s1 := e0.cell 1
              have s2 := e0.cell 2
              have s3 := e0.cell 3
              have p0 := e1.cell 0
              have p1 := e1.cell 1
              have p2 := e1.cell 2
              have t0 := e2.cell 0
              simp at s0 s1 s2 s3 p0 p1 p2 t0
              have l0 := e0.lt
              have l1 := e1.lt
              have l2 := e2.lt
              clear e0 e1 e2
              go_wp2_with fail
              refine (refFill_any n pt pg ph [] P0 P1 P2 none q0 q1 q2 0 v5 (by omega) (by omega) (by omega) (by decide) HPU.out (GPT.out _ N5.out) (GPG.out _ N5.out) (GPH.out _ N5.out) ⟨fun k x hk => by simp at hk, by simp⟩).mono ?_
              rintro e u6 ⟨a6, c6, r6, hIs, T6, t6, H6, h6, rfl, sT, sH, hle, hb⟩
              obtain ⟨rfl, rfl, rfl⟩ := fillIs_one I5.out hIs
              clear hIs
              clear s0 s1 s2 s3 p0 p1 p2 t0 l0 l1 l2
              go_upto_region 15 with fail
              refine wp_gen (fun W => IsBlk W u6.heap.size 26 #[.slice T6 a5.length t6, .slice H6 c5.length h6] ∧ Below u6.heap.size u6 W) ⟨IsBlk.new _ _ _, by repeat' (first | exact Below.refl _ _ | refine bel_drewN ?_ _ | refine Below.drew ?_ | refine Below.alloc ?_ ?_ _ | refine Below.setCell ?_ ?_ _ | exact Nat.le_refl _ | (simp; done) | (simp; omega) | assumption)⟩ ?_
              intro v6 ⟨hq, hbq⟩
              have Q6 := Lib.hid hq
              have ST6 := Lib.hid (sT.after hbq)
              have SH6 := Lib.hid (sH.after hbq)
              have LE6 := Lib.hid hle
              have LS6 := Lib.hid (hb.trans (hbq.mono hb.size))
              have N6 := Lib.hid (N5.out.trans (LS6.out.mono N5.out.size))
              clear hq hbq sT sH hb hle
              have Z5 := Lib.hid LS6.out
              have Z4 := Lib.hid (LS5.out.trans (Z5.out.mono LS5.out.size))
              have Z3 := Lib.hid (LS4.out.trans (Z4.out.mono LS4.out.size))
              have Z2 := Lib.hid (LS3.out.trans (Z3.out.mono LS3.out.size))
              have Z1 := Lib.hid (LS2.out.trans (Z2.out.mono LS2.out.size))
              have k1 := Q1.out.after Z1.out
              have k2 := Q2.out.after Z2.out
              have m0 := k1.cell 0
              have m1 := k1.cell 1
              have m2 := k1.cell 2
              have n0 := k2.cell 0
              have n1 := k2.cell 1
              have n2 := k2.cell 2
              simp at m0 m1 m2 n0 n1 n2
              have lk1 := k1.lt
              have lk2 := k2.lt
              have y1 : (r1 == r1) = true := beq_self_eq_true _
              have y3 : (r3 == r3) = true := beq_self_eq_true _
              have y5 : (r5 == r5) = true := beq_self_eq_true _
              clear k1 k2
              go_wp2_with fail
              refine (parts_any a1 a1 b1 b1 c1 c1 T1 T2 G1 G2 H1 H2 t1 t2 g1 g2 h1 h2 v6 (by have := LE1.out; omega) (by have := LE1.out; omega) (by have := LE1.out; omega) (by have := LE1.out; omega) (by have := LE1.out; omega) (ST1.out.after Z1.out) (ST2.out.after Z2.out) (SG1.out.after Z1.out) (SG2.out.after Z2.out) (SH1.out.after Z1.out) (SH2.out.after Z2.out)).mono ?_
              rintro e x1 ⟨rfl, hx1⟩
              rw [decide_eq_true (show a1 = a1 ∧ b1 = b1 ∧ c1 = c1 from ⟨rfl, rfl, rfl⟩)]
              have X1 := Lib.hid hx1
              clear hx1 m0 m1 m2 n0 n1 n2 lk1 lk2
              have k3 := (Q3.out.after Z3.out).after X1.out
              have k4 := (Q4.out.after Z4.out).after X1.out
              have m0 := k3.cell 0
              have m1 := k3.cell 1
              have n0 := k4.cell 0
              have n1 := k4.cell 1
              simp at m0 m1 n0 n1
              have lk3 := k3.lt
              have lk4 := k4.lt
              clear k3 k4
              go_wp2_with fail
              refine (same_any a3 a3 c3 c3 T3 T4 H3 H4 t3 t4 h3 h4 x1 (by have := LE3.out; omega) (by have := LE3.out; omega) (by have := LE3.out; omega) ((ST3.out.after Z3.out).after X1.out) ((ST4.out.after Z4.out).after X1.out) ((SH3.out.after Z3.out).after X1.out) ((SH4.out.after Z4.out).after X1.out)).mono ?_
              rintro e x2 ⟨rfl, hx2⟩
              rw [decide_eq_true (show a3 = a3 ∧ c3 = c3 from ⟨rfl, rfl⟩)]
              have X2 := Lib.hid (X1.out.trans (hx2.mono X1.out.size))
              clear hx2 m0 m1 n0 n1 lk3 lk4
              have k5 := (Q5.out.after Z5.out).after X2.out
              have k6 := Q6.out.after X2.out
              have m0 := k5.cell 0
              have m1 := k5.cell 1
              have n0 := k6.cell 0
              have n1 := k6.cell 1
              simp at m0 m1 n0 n1
              have lk5 := k5.lt
              have lk6 := k6.lt
              clear k5 k6
              go_wp2_with fail
              refine (same_any a5 a5 c5 c5 T5 T6 H5 H6 t5 t6 h5 h6 x2 (by have := LE5.out; omega) (by have := LE5.out; omega) (by have := LE5.out; omega) ((ST5.out.after Z5.out).after X2.out) (ST6.out.after X2.out) ((SH5.out.after Z5.out).after X2.out) (SH6.out.after X2.out)).mono ?_
              rintro e x3 ⟨rfl, hx3⟩
              rw [decide_eq_true (show a5 = a5 ∧ c5 = c5 from ⟨rfl, rfl⟩)]
              have X3 := Lib.hid (X2.out.trans (hx3.mono X2.out.size))
              clear hx3 m0 m1 n0 n1 lk5 lk6
              go_wp2_with fail
              refine (works_any _).mono ?_
              rintro e x4 ⟨rfl, hx4⟩
              have X4 := Lib.hid (X3.out.trans (hx4.mono X3.out.size))
              clear hx4
              go_wp2_with fail
              go_ret
              have hz := HBV.out.trans (N6.out.mono HBV.out.size)
              exact ⟨rfl, hz.trans (X4.out.mono hz.size)⟩
        · have i1 : ¬ (20 : Int) < pt.length := by omega
          have i2 : ¬ (200 : Int) < pg.length := by omega
          have i3 : (200 : Int) < ph.length := by omega
          clear hf
          go_wp2_with fail
          refine (works_any _).mono ?_
          rintro e w2 ⟨rfl, hb2⟩
          have HB2 := Lib.hid (BB1.out.trans (hb2.mono BB1.out.size))
          clear hb2
          go_wp2_with fail
          go_ret
          exact ⟨rfl, HB2.out⟩
      · have i1 : ¬ (20 : Int) < pt.length := by omega
        have i2 : (200 : Int) < pg.length := by omega
        clear hf
        go_wp2_with fail
        refine (works_any _).mono ?_
        rintro e w2 ⟨rfl, hb2⟩
        have HB2 := Lib.hid (BB1.out.trans (hb2.mono BB1.out.size))
        clear hb2
        go_wp2_with fail
        go_ret
        exact ⟨rfl, HB2.out⟩
    · have i1 : (20 : Int) < pt.length := by omega
      clear hf
      go_wp2_with fail
      refine (works_any _).mono ?_
      rintro e w2 ⟨rfl, hb2⟩
      have HB2 := Lib.hid (BB1.out.trans (hb2.mono BB1.out.size))
      clear hb2
      go_wp2_with fail
      go_ret
      exact ⟨rfl, HB2.out⟩
  · rw [decide_eq_false hf]
    clear hf
    go_wp2_with fail
    refine (works_any _).mono ?_
    rintro e w2 ⟨rfl, hb2⟩
    have HB2 := Lib.hid (BB1.out.trans (hb2.mono BB1.out.size))
    clear hb2
    go_wp2_with fail
    go_ret
    exact ⟨rfl, HB2.out⟩

set_option maxRecDepth 100000 in
theorem law_MergeParts {H : Type} {enc : TypeId × Value → H} (W : World) (base : Nat) (v0 v1 v2 : Value) (d0 d1 d2 : DataW H) (p0 p1 p2 : List MemPlace)
    (h0 : DataW.Trod enc Try.prog W 0 (fun _ => true) true 28 v0 d0 p0) (h1 : DataW.Trod enc Try.prog W 0 (fun _ => true) true 31 v1 d1 p1) (h2 : DataW.Trod enc Try.prog W 0 (fun _ => true) true 32 v2 d2 p2)
    (o0 : Value.okWide Try.prog W .any base 28 v0) (o1 : Value.okWide Try.prog W .any base 31 v1) (o2 : Value.okWide Try.prog W .any base 32 v2) :
    Calls Try.prog 3 #[v0, v1, v2] W fun e w' => e = .returned (.bool true) ∧ Below W.heap.size W w' := by
  obtain ⟨n, C, A, B, c, a, b, cl, ts, hs, rfl, hn, ⟨t1, t2, t3, t4⟩, u1, u2, u3⟩ := in_setting h0 o0
  obtain ⟨P0, P1, P2, q0, q1, q2, pt, pg, ph, rfl, ⟨x1, x2, x3, x4⟩, ⟨y1, y2, y3⟩, z1, z2, z3⟩ := in_part h1 o1
  obtain ⟨K, ck, kn, rfl, k1, k2, k3, k4⟩ := in_knowns h2 o2
  exact parts_walk n C A B P0 P1 P2 K c a b q0 q1 q2 ck cl ts hs pt pg ph kn W hn t1 t4 u1 x1 x4 y1 z1 y2 z2 k1 k3 k4
end Go.Proofs.Ytnokhajjcjfbpaa
