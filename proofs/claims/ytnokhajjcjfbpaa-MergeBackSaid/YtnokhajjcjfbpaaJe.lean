/- Hl, Hm, Hn in one (merge.py): a claim holds at most 60 files. -/
import Derived.Test.YtnokhajjcjfbpaaJd
import Derived.Deep.Slices
import Derived.ChangeSlices
import Derived.WideShapes
/- works: a proof without what is known, and with it again. -/
namespace Go.Proofs.Ytnokhajjcjfbpaa
open Go.RowKit Go.Shelf

theorem RowG.lit {W : World} {g S : Nat} {t : TypeId} (xs : List (List Value)) (hw : ∀ x ∈ xs, x.length = S) (h : IsBlk W g t xs.flatten.toArray) : RowG W (some ⟨g, 0, none⟩) S xs := fun k x hk => ⟨g, 0, rfl, h.lt, fun j v hv => by
  rw [Nat.zero_add, h.cell (k * S + j)]
  simpa using flat_at xs S k x j v hw hk hv⟩
theorem HashG.lit {W : World} {g : Nat} {t : TypeId} (hs : List (List Int)) (hw : ∀ x ∈ hs, x.length = 32) (h : IsBlk W g t (hs.map hc).flatten.toArray) : HashG W (some ⟨g, 0, none⟩) hs := ⟨RowG.lit _ (fun x hx => by
  obtain ⟨y, hy, rfl⟩ := List.mem_map.1 hx
  rw [hc_len, hw y hy]) h, hw⟩
theorem KnownG.lit {W : World} {g : Nat} {t : TypeId} (kn : List (Nat × List Int)) (hw : ∀ x ∈ kn, x.2.length = 32) (h : IsBlk W g t (kn.map kc).flatten.toArray) : KnownG W (some ⟨g, 0, none⟩) kn := ⟨RowG.lit _ (fun x hx => by
  obtain ⟨y, hy, rfl⟩ := List.mem_map.1 hx
  simp [kc, hc_len, hw y hy]) h, hw⟩
theorem valid7 : Valid 7 [1] := by
  refine ⟨by decide, by decide, by decide, ?_⟩
  intro t ht p hp hne
  simp at ht
  subst ht
  simpa using hne
theorem need7 : IsNeed 7 [1] [0, 9] := by
  refine ⟨by decide, fun x => ?_⟩
  rw [needed_mem, show needL 7 [1] = [0, 9] from by decide]
def h1 : List Int := 1 :: List.replicate 31 0
def h2 : List Int := 2 :: List.replicate 31 0

set_option maxRecDepth 100000 in
set_option maxHeartbeats 4000000 in
theorem works_any (w : World) : Calls Try.prog 6 #[] w (NRet (.bool true) w) := by
  go_enter Try.func6, Try.ntmps6
  go_upto_region 2 with fail
  refine wp_gen (fun W => IsBlk W w.heap.size 22 #[.int .u64 1] ∧ IsBlk W (w.heap.size + 1) 37 ([h1, h2].map hc).flatten.toArray ∧ IsBlk W (w.heap.size + 2) 26 #[.slice (some ⟨w.heap.size, 0, none⟩) 1 1, .slice (some ⟨w.heap.size + 1, 0, none⟩) 2 2] ∧ Below w.heap.size w W) ⟨?_, ?_, ?_, ?_⟩ ?_
  · exact ((IsBlk.newAt _ _ rfl).alloc _).alloc _
  · exact (IsBlk.newAt _ _ (by simp)).alloc _
  · exact IsBlk.newAt _ _ (by simp)
  · exact by repeat' (first | exact Below.refl _ _ | refine bel_drewN ?_ _ | refine Below.drew ?_ | refine Below.alloc ?_ ?_ _ | refine Below.setCell ?_ ?_ _ | exact Nat.le_refl _ | (simp; done) | (simp; omega) | assumption)
  intro w1 ⟨b0, b1, b2, bb⟩
  have B0 := Lib.hid b0
  have B1 := Lib.hid b1
  have B2 := Lib.hid b2
  have BB := Lib.hid bb
  have p0 := b2.cell 0
  have p1 := b2.cell 1
  simp at p0 p1
  have lp := b2.lt
  clear b0 b1 b2 bb
  go_wp2_with fail
  refine (part_yes 7 [1] [9] [h1, h2] _ _ _ 1 2 1 _ (by decide) (by decide) (by decide) (SliceAt.gen (SliceAt.lit [1] (B0.out.alloc (.cells #[.int .u64 9] 22)))) (HashG.lit [h1, h2] (by decide) (B1.out.alloc _)) (SliceAt.gen (SliceAt.lit [9] (IsBlk.new w1 22 #[.int .u64 9]))) valid7).mono ?_
  rintro e w2 (⟨hno, _⟩ | ⟨nl, _, hnl, _, T, c, G, g, H, h, rfl, sT, sG, sH, ⟨hcg, hch⟩, hb⟩)
  · rcases hno with hno | ⟨nl, hnl, hne⟩
    · exact absurd valid7 hno
    · obtain rfl := isNeed_one hnl need7
      exact absurd rfl hne
  obtain rfl := isNeed_one hnl need7
  rw [show gapsOf [9] [0, 9] [0, 9].length = [1] from by decide] at sG hcg ⊢
  rw [show restOf [9] [0, 9] [h1, h2] [0, 9].length = [h1] from by decide] at sH hch ⊢
  have hb' : Below w1.heap.size w1 w2 := Below.trans ((Below.refl _ _).alloc (Nat.le_refl _) _) (hb.mono (by simp))
  have ST := Lib.hid sT
  have SG := Lib.hid sG
  have SH := Lib.hid sH
  have B0' := Lib.hid (B0.out.after hb')
  have B1' := Lib.hid (B1.out.after hb')
  have B2' := Lib.hid (B2.out.after hb')
  have BB' := Lib.hid (BB.out.trans (hb'.mono BB.out.size))
  clear hnl sT sG sH hb hb' p0 p1 lp
  go_upto_region 4 with fail
  refine wp_gen (fun W => IsBlk W w2.heap.size 31 #[.slice T 1 c, .slice G 1 g, .slice H 1 h] ∧ IsBlk W (w2.heap.size + 1) 39 ([(9, h2)].map kc).flatten.toArray ∧ IsBlk W (w2.heap.size + 2) 35 #[.slice (some ⟨w2.heap.size + 1, 0, none⟩) 1 1] ∧ Below w2.heap.size w2 W) ⟨?_, ?_, ?_, ?_⟩ ?_
  · exact ((IsBlk.newAt _ _ rfl).alloc _).alloc _
  · exact (IsBlk.newAt _ _ (by simp)).alloc _
  · exact IsBlk.newAt _ _ (by simp)
  · exact by repeat' (first | exact Below.refl _ _ | refine bel_drewN ?_ _ | refine Below.drew ?_ | refine Below.alloc ?_ ?_ _ | refine Below.setCell ?_ ?_ _ | exact Nat.le_refl _ | (simp; done) | (simp; omega) | assumption)
  intro w3 ⟨q0, q1, q2, qb⟩
  have F0 := Lib.hid (SliceAt.gen ST.out |>.after qb)
  have F1 := Lib.hid (SG.out.after qb)
  have F2 := Lib.hid (SH.out.after qb)
  have Q0 := Lib.hid q0
  have Q1 := Lib.hid (KnownG.lit [(9, h2)] (by decide) q1)
  have C0 := Lib.hid (B0'.out.after qb)
  have C1 := Lib.hid (B1'.out.after qb)
  have C2 := Lib.hid (B2'.out.after qb)
  have CB := Lib.hid (BB'.out.trans (qb.mono BB'.out.size))
  have p0 := q0.cell 0
  have p1 := q0.cell 1
  have p2 := q0.cell 2
  have p3 := q2.cell 0
  simp at p0 p1 p2 p3
  have l0 := q0.lt
  have l2 := q2.lt
  clear q0 q1 q2 qb
  go_wp2_with fail
  refine (fill_yes 7 [1] [1] [h1] (look [(9, h2)]) T G H c g h (.func (.func 10) #[.agg #[.slice (some ⟨w2.heap.size + 1, 0, none⟩) 1 1]] #[]) w3 (by decide) (by decide) (by decide) F0.out F1.out F2.out hcg hch (.inr ⟨_, 1, [(9, h2)], rfl, Q1.out, by decide, rfl⟩) valid7).mono ?_
  rintro e w4 (⟨hno, _⟩ | ⟨nl, _, hnl, hr⟩)
  · exact absurd valid7 hno
  obtain rfl := isNeed_one hnl need7
  rcases hr with ⟨hno, _⟩ | ⟨_, ⟨hno, _⟩ | ⟨out, ho, T', c', H', h', rfl, sT, sH, hb⟩⟩
  · exact absurd (show Gaps [1] [0, 9].length ∧ [1].length + [h1].length = [0, 9].length from by decide) hno
  · exact absurd (hno.symm.trans (show fillOf [1] [h1] (look [(9, h2)]) [0, 9] [0, 9].length = some [h1, h2] from by decide)) (by simp)
  obtain rfl : [h1, h2] = out := by
    have := (show fillOf [1] [h1] (look [(9, h2)]) [0, 9] [0, 9].length = some [h1, h2] from by decide).symm.trans ho
    injection this
  have ST4 := Lib.hid (SliceAt.gen sT)
  have SH4 := Lib.hid sH
  have D0 := Lib.hid (C0.out.after hb)
  have D1 := Lib.hid (C1.out.after hb)
  have D2 := Lib.hid (C2.out.after hb)
  have DP := Lib.hid (Q0.out.after hb)
  have DG := Lib.hid ((F1.out).after hb)
  have DB := Lib.hid (CB.out.trans (hb.mono CB.out.size))
  clear hnl sT sH hb p0 p1 p2 p3 l0 l2
  go_upto_region 5 with fail
  refine wp_gen (fun W => IsBlk W w4.heap.size 26 #[.slice T' 1 c', .slice H' 2 h'] ∧ Below w4.heap.size w4 W) ⟨IsBlk.new _ _ _, by repeat' (first | exact Below.refl _ _ | refine bel_drewN ?_ _ | refine Below.drew ?_ | refine Below.alloc ?_ ?_ _ | refine Below.setCell ?_ ?_ _ | exact Nat.le_refl _ | (simp; done) | (simp; omega) | assumption)⟩ ?_
  intro w5 ⟨q0, qb⟩
  obtain ⟨ad, rfl, hd1, hd2⟩ := (DG.out.after qb) 0 (by decide)
  have E0 := D2.out.after qb
  have E1 := DP.out.after qb
  have S1 := Lib.hid (SliceAt.gen (SliceAt.lit [1] (D0.out.after qb)))
  have S2 := Lib.hid (HashG.lit [h1, h2] (by decide) (D1.out.after qb))
  have S3 := Lib.hid (ST4.out.after qb)
  have S4 := Lib.hid (SH4.out.after qb)
  have EB := Lib.hid (DB.out.trans (qb.mono DB.out.size))
  have x0 := E0.cell 0
  have x1 := E0.cell 1
  have y0 := E1.cell 0
  have y1 := E1.cell 1
  have y2 := E1.cell 2
  have z0 := q0.cell 0
  have z1 := q0.cell 1
  simp at x0 x1 y0 y1 y2 z0 z1
  have lx := E0.lt
  have ly := E1.lt
  have lz := q0.lt
  simp [Addr.add] at hd2
  clear E0 E1 q0 qb
  go_wp2_with fail
  refine (same_any [1] [1] [h1, h2] [h1, h2] _ _ _ _ 1 c' 2 h' w5 (by decide) (by decide) (by decide) S1.out S3.out S2.out S4.out).mono ?_
  rintro e w6 ⟨rfl, hb6⟩
  have HB6 := Lib.hid hb6
  clear hb6
  go_wp2_with fail
  go_ret
  exact ⟨by simp, EB.out.trans (HB6.out.mono EB.out.size)⟩
end Go.Proofs.Ytnokhajjcjfbpaa
/- What comes in: lists, proofs, parts, settings. -/
namespace Go.Proofs.Ytnokhajjcjfbpaa
open Go.RowKit Go.Lib Go.ChangeShapes Go.WideShapes Go.Deep

theorem map_of_all {α β : Type} (f : α → β) (p : α → Prop) : ∀ ys : List β, (∀ y ∈ ys, ∃ x, y = f x ∧ p x) → ∃ xs : List α, ys = xs.map f ∧ ∀ x ∈ xs, p x
  | [], _ => ⟨[], rfl, by simp⟩
  | y :: ys, h => by
    obtain ⟨x, rfl, hx⟩ := h y (by simp)
    obtain ⟨xs, rfl, hxs⟩ := map_of_all f p ys fun z hz => h z (List.mem_cons_of_mem _ hz)
    refine ⟨x :: xs, rfl, fun z hz => ?_⟩
    rcases List.mem_cons.1 hz with rfl | hz
    · exact hx
    · exact hxs z hz
theorem nums_cells {H : Type} {enc : TypeId × Value → H} {W : World} {fuel : Nat} {cs : List Value} {x : DataW H × List MemPlace} (hf : DataW.trod enc Try.prog W 0 (fun _ => true) true fuel 24 cs = some x) :
    ∃ (A : Option Addr) (c : Nat) (l : List Nat), cs = [.slice A l.length c] ∧ SliceG W A l ∧ l.length ≤ c ∧ c ≤ maxLen ∧ ∀ x ∈ l, (x : Int) ≤ 18446744073709551615 := by
  rcases open_ints Try.underlying24 Try.underlying22 (by kernel_rfl) hf with ⟨rfl, hx⟩ | ⟨a, len, cap, zs, rfl, _, hl, hm, hz, hx, hcell, hwz⟩
  · exact ⟨none, 0, [], rfl, fun k hk => by simp at hk, Nat.le_refl _, Nat.zero_le _, by simp⟩
  · simp only [if_true] at hz
    have hlen : ((zs.take len).map Int.toNat).length = len := by simp; omega
    have hpos : ∀ z ∈ zs, 0 ≤ z ∧ z ≤ 18446744073709551615 := fun z hz => wf_u64 (hwz z hz)
    refine ⟨some a, cap, (zs.take len).map Int.toNat, by rw [hlen], fun j hj => ⟨a, rfl, ?_, ?_⟩, by rw [hlen]; exact hl, hm, fun x hx => ?_⟩
    · rw [hlen] at hj
      have h0 := hcell 0 (by omega)
      have := World.block_lt_of_cell? _ _ h0
      rwa [← add_block] at this
    · rw [hlen] at hj
      rw [hcell j (by omega), List.getElem?_map, List.getElem?_take_of_lt hj]
      have hj2 : j < zs.length := by omega
      rw [List.getElem?_eq_getElem hj2]
      have e : zs.getD j 0 = zs[j] := by simp [List.getD, List.getElem?_eq_getElem hj2]
      have := (hpos _ (List.getElem_mem hj2)).1
      simp only [Option.map_some, e]
      congr 2
      omega
    · obtain ⟨z, h1, rfl⟩ := List.mem_map.1 hx
      have := hpos z (List.mem_of_mem_take h1)
      omega
theorem ints_cells {H : Type} {enc : TypeId × Value → H} {W : World} {fuel : Nat} {cs : List Value} {x : DataW H × List MemPlace} (hf : DataW.trod enc Try.prog W 0 (fun _ => true) true fuel 29 cs = some x) :
    ∃ (A : Option Addr) (c : Nat) (l : List Int), cs = [.slice A l.length c] ∧ IntG W A l ∧ l.length ≤ c ∧ c ≤ maxLen := by
  rcases open_ints Try.underlying29 Try.underlying3 (by kernel_rfl) hf with ⟨rfl, hx⟩ | ⟨a, len, cap, zs, rfl, _, hl, hm, hz, hx, hcell, hwz⟩
  · exact ⟨none, 0, [], rfl, fun k hk => by simp at hk, Nat.le_refl _, Nat.zero_le _⟩
  · simp only [if_true] at hz
    have hlen : (zs.take len).length = len := by simp; omega
    refine ⟨some a, cap, zs.take len, by rw [hlen], fun j hj => ⟨a, rfl, ?_, ?_⟩, by rw [hlen]; exact hl, hm⟩
    · rw [hlen] at hj
      have h0 := hcell 0 (by omega)
      have := World.block_lt_of_cell? _ _ h0
      rwa [← add_block] at this
    · rw [hlen] at hj
      rw [hcell j (by omega), List.getElem?_take_of_lt hj]
      have hj2 : j < zs.length := by omega
      rw [List.getElem?_eq_getElem hj2]
      simp [List.getD, List.getElem?_eq_getElem hj2]
theorem rows_cells {H : Type} {enc : TypeId × Value → H} {W : World} {fuel : Nat} {cs : List Value} {x : DataW H × List MemPlace} {T e : TypeId} {S : Nat} {P : List Value → Prop} (hT : Try.prog.underlying T = some (.slice e)) (hS : Try.prog.cellsOf e = S) (hS0 : 0 < S)
    (hP : ∀ fuel cs x, DataW.trod enc Try.prog W 0 (fun _ => true) true fuel e cs = some x → P cs) (hf : DataW.trod enc Try.prog W 0 (fun _ => true) true fuel T cs = some x) :
    ∃ (A : Option Addr) (c : Nat) (xs : List (List Value)), cs = [.slice A xs.length c] ∧ RowG W A S xs ∧ (∀ y ∈ xs, P y) ∧ xs.length ≤ c ∧ c ≤ maxLen := by
  rcases open_slice hT hf with ⟨rfl, hx⟩ | ⟨a, len, cap, m, n, D, Pl, rfl, _, hl, hm, hmm, hx, hi⟩
  · exact ⟨none, 0, [], rfl, fun k x hk => by simp at hk, by simp, Nat.le_refl _, Nat.zero_le _⟩
  · simp only [if_true] at hmm
    rw [hS] at hi
    have each : ∀ i, i < len → ∃ y : List Value, P y ∧ y.length = S ∧ ∃ b o, a = ⟨b, o, none⟩ ∧ b < W.heap.size ∧ W.rangeAt b (o + i * S) y := by
      intro i hil
      obtain ⟨cs', hc, ht'⟩ := hi i (by omega)
      obtain ⟨_, hcl, hat⟩ := World.cells?_some hc
      obtain ⟨ab, ao, spot⟩ := a
      obtain ⟨cs0, hc0, _⟩ := hi 0 (by omega)
      obtain ⟨_, hcl0, hat0⟩ := World.cells?_some hc0
      have h00 := hat0 0 (by omega)
      have hspot : spot = none := by
        have := World.cell?_spot (h00.trans (List.getElem?_eq_getElem (show 0 < cs0.length by omega)))
        simpa [Addr.add] using this
      subst hspot
      have hr : W.rangeAt ab (ao + i * S) cs' := by
        intro j v hv
        have hj : j < cs'.length := by
          rcases Nat.lt_or_ge j cs'.length with h | h
          · exact h
          · rw [List.getElem?_eq_none h] at hv; cases hv
        have := hat j (by omega)
        rw [Addr.add_lit, Addr.add_lit] at this
        exact this.trans hv
      have h0 := World.block_lt_of_cell? _ _ (hr 0 _ (List.getElem?_eq_getElem (show 0 < cs'.length by omega)))
      exact ⟨cs', hP _ _ _ ht', hcl, ab, ao, rfl, h0, hr⟩
    refine ⟨some a, cap, (List.range len).map fun i => if h : i < len then Classical.choose (each i h) else [], by simp, fun i x hx => ?_, fun y hy => ?_, by simpa using hl, hm⟩
    · rw [List.getElem?_map] at hx
      have hil : i < len := by
        rcases Nat.lt_or_ge i len with h | h
        · exact h
        · rw [List.getElem?_eq_none (by simpa using h)] at hx; cases hx
      rw [List.getElem?_range hil] at hx
      simp only [Option.map_some, Option.some.injEq] at hx
      rw [dif_pos hil] at hx
      subst hx
      obtain ⟨_, _, b, o, e, h1, h2⟩ := Classical.choose_spec (each i hil)
      exact ⟨b, o, by rw [e], h1, h2⟩
    · obtain ⟨i, hi, rfl⟩ := List.mem_map.1 hy
      have hil : i < len := by simpa using hi
      rw [dif_pos hil]
      exact (Classical.choose_spec (each i hil)).1
theorem u8_list : ∀ l : List Value, (∀ i, i < l.length → ∃ a : Int, l[i]? = some (.int .u8 a)) → ∃ hs : List Int, l = hc hs
  | [], _ => ⟨[], rfl⟩
  | v :: l, h => by
    obtain ⟨a, h0⟩ := h 0 (by simp)
    obtain ⟨hs, e⟩ := u8_list l (fun i hi => by
      have := h (i + 1) (by simpa using hi)
      simpa using this)
    simp at h0
    exact ⟨a :: hs, by rw [h0, e]; rfl⟩
set_option maxRecDepth 100000 in
theorem hash_cells {H : Type} {enc : TypeId × Value → H} {W : World} {fuel : Nat} {cs : List Value} {x : DataW H × List MemPlace} (hf : DataW.trod enc Try.prog W 0 (fun _ => true) true fuel 37 cs = some x) : ∃ h : List Int, cs = hc h ∧ h.length = 32 := by
  obtain ⟨xs, m, _, _, hcl, hxl, hel⟩ := DataW.trod_array Try.underlying37 hf
  have e4 : Try.prog.cellsOf 5 = 1 := by kernel_rfl
  have e3 : Try.prog.cellsOf 37 = 32 := by kernel_rfl
  rw [e3] at hcl
  obtain ⟨hs, rfl⟩ := u8_list cs (fun i hi => by
    have h1 := hel i (by omega)
    rw [e4, Nat.mul_one] at h1
    have h2 : (cs.drop i).take 1 = [cs[i]'hi] := by
      rw [List.drop_eq_getElem_cons hi]
      rfl
    rw [h2, List.getElem?_eq_getElem (show i < xs.length by omega)] at h1
    obtain ⟨a, k, _, wa⟩ := DataW.trod_int Try.underlying5 h1
    refine ⟨a, ?_⟩
    simp at k
    rw [List.getElem?_eq_getElem hi, k])
  rw [hc_len] at hcl
  exact ⟨hs, rfl, hcl⟩
set_option maxRecDepth 100000 in
theorem hashes_cells {H : Type} {enc : TypeId × Value → H} {W : World} {fuel : Nat} {cs : List Value} {x : DataW H × List MemPlace} (hf : DataW.trod enc Try.prog W 0 (fun _ => true) true fuel 23 cs = some x) :
    ∃ (A : Option Addr) (c : Nat) (hs : List (List Int)), cs = [.slice A hs.length c] ∧ HashG W A hs ∧ hs.length ≤ c ∧ c ≤ maxLen := by
  obtain ⟨A, c, xs, rfl, h1, h2, h3, h4⟩ := rows_cells (S := 32) (P := fun y => ∃ h : List Int, y = hc h ∧ h.length = 32) Try.underlying23 (by kernel_rfl) (by decide) (fun _ _ _ h => hash_cells h) hf
  obtain ⟨hs, rfl, h5⟩ := map_of_all hc (fun h => h.length = 32) xs h2
  rw [List.length_map] at *
  exact ⟨A, c, hs, rfl, ⟨h1, h5⟩, h3, h4⟩
set_option maxRecDepth 100000 in
theorem known_cells {H : Type} {enc : TypeId × Value → H} {W : World} {fuel : Nat} {cs : List Value} {x : DataW H × List MemPlace} (hf : DataW.trod enc Try.prog W 0 (fun _ => true) true fuel 39 cs = some x) : ∃ y : Nat × List Int, cs = kc y ∧ (y.2.length = 32 ∧ (y.1 : Int) ≤ 18446744073709551615) := by
  obtain ⟨ys, n', hn', hy, hlen, hyl, hfl⟩ := DataW.trod_struct Try.underlying39 hf
  have hcell : Try.prog.cellsOf 39 = 33 := by kernel_rfl
  rw [hcell] at hlen
  have hyl4 : ys.length = 2 := hyl
  have e1 : Try.prog.cellsOf 22 = 1 := by kernel_rfl
  have e3 : Try.prog.cellsOf 37 = 32 := by kernel_rfl
  have f0 := hfl 0 _ rfl
  have f1 := hfl 1 _ rfl
  match cs, hlen with
  | c0 :: rest, hlen =>
    have hrl : rest.length = 32 := by simp at hlen; omega
    have g0 : DataW.trod enc Try.prog W 0 (fun _ => true) true n' 22 [c0] = ys[0]? := by simpa [e1] using f0
    have g1 : DataW.trod enc Try.prog W 0 (fun _ => true) true n' 37 rest = ys[1]? := by
      have : List.take 32 rest = rest := List.take_of_length_le (by omega)
      simpa [e3, this] using f1
    rw [List.getElem?_eq_getElem (show 0 < ys.length by omega)] at g0
    rw [List.getElem?_eq_getElem (show 1 < ys.length by omega)] at g1
    obtain ⟨z1, k1, _, w1⟩ := DataW.trod_int Try.underlying22 g0
    simp at k1
    subst k1
    have hb1 := wf_u64 w1
    obtain ⟨m1, rfl⟩ := Int.eq_ofNat_of_zero_le hb1.1
    obtain ⟨h, rfl, hh⟩ := hash_cells g1
    exact ⟨(m1, h), rfl, hh, hb1.2⟩
set_option maxRecDepth 100000 in
theorem knowns_cells {H : Type} {enc : TypeId × Value → H} {W : World} {fuel : Nat} {cs : List Value} {x : DataW H × List MemPlace} (hf : DataW.trod enc Try.prog W 0 (fun _ => true) true fuel 32 cs = some x) :
    ∃ (A : Option Addr) (c : Nat) (kn : List (Nat × List Int)), cs = [.slice A kn.length c] ∧ KnownG W A kn ∧ (∀ y ∈ kn, (y.1 : Int) ≤ 18446744073709551615) ∧ kn.length ≤ c ∧ c ≤ maxLen := by
  obtain ⟨A, c, xs, rfl, h1, h2, h3, h4⟩ := rows_cells (S := 33) (P := fun y => ∃ x : Nat × List Int, y = kc x ∧ (x.2.length = 32 ∧ (x.1 : Int) ≤ 18446744073709551615)) Try.underlying32 (by kernel_rfl) (by decide) (fun _ _ _ h => known_cells h) hf
  obtain ⟨hs, rfl, h5⟩ := map_of_all kc _ xs h2
  rw [List.length_map] at *
  exact ⟨A, c, hs, rfl, ⟨h1, fun y hy => (h5 y hy).1⟩, fun y hy => (h5 y hy).2, h3, h4⟩
set_option maxRecDepth 100000 in
theorem proof_cells {H : Type} {enc : TypeId × Value → H} {W : World} {fuel : Nat} {cs : List Value} {x : DataW H × List MemPlace} (hf : DataW.trod enc Try.prog W 0 (fun _ => true) true fuel 26 cs = some x) :
    ∃ (A B : Option Addr) (a b : Nat) (ts : List Nat) (hs : List (List Int)), cs = [.slice A ts.length a, .slice B hs.length b] ∧ (SliceG W A ts ∧ ts.length ≤ a ∧ a ≤ maxLen ∧ ∀ x ∈ ts, (x : Int) ≤ 18446744073709551615) ∧ (HashG W B hs ∧ hs.length ≤ b ∧ b ≤ maxLen) := by
  obtain ⟨ys, n', hn', hy, hlen, hyl, hfl⟩ := DataW.trod_struct Try.underlying26 hf
  have hcell : Try.prog.cellsOf 26 = 2 := by kernel_rfl
  rw [hcell] at hlen
  have hyl4 : ys.length = 2 := hyl
  have e1 : Try.prog.cellsOf 24 = 1 := by kernel_rfl
  have e3 : Try.prog.cellsOf 23 = 1 := by kernel_rfl
  have f0 := hfl 0 _ rfl
  have f1 := hfl 1 _ rfl
  match cs, hlen with
  | [c0, c1], hlen =>
    have g0 : DataW.trod enc Try.prog W 0 (fun _ => true) true n' 24 [c0] = ys[0]? := by simpa [e1] using f0
    have g1 : DataW.trod enc Try.prog W 0 (fun _ => true) true n' 23 [c1] = ys[1]? := by simpa [e3] using f1
    rw [List.getElem?_eq_getElem (show 0 < ys.length by omega)] at g0
    rw [List.getElem?_eq_getElem (show 1 < ys.length by omega)] at g1
    obtain ⟨A, a, ts, k0, h1, h2, h3, h4⟩ := nums_cells g0
    obtain ⟨B, b, hs, k1, h5, h6, h7⟩ := hashes_cells g1
    simp at k0 k1
    subst k0 k1
    exact ⟨A, B, a, b, ts, hs, rfl, ⟨h1, h2, h3, h4⟩, h5, h6, h7⟩
set_option maxRecDepth 100000 in
theorem in_part {H : Type} {enc : TypeId × Value → H} {W : World} {v : Value} {d : DataW H} {p : List MemPlace} {base : Nat} (h : DataW.Trod enc Try.prog W 0 (fun _ => true) true 31 v d p) (o : Value.okWide Try.prog W .any base 31 v) :
    ∃ (A B C : Option Addr) (a b c : Nat) (ts : List Nat) (gs : List Int) (hs : List (List Int)), v = .agg #[.slice A ts.length a, .slice B gs.length b, .slice C hs.length c] ∧ (SliceG W A ts ∧ ts.length ≤ a ∧ a ≤ maxLen ∧ ∀ x ∈ ts, (x : Int) ≤ 18446744073709551615) ∧ (IntG W B gs ∧ gs.length ≤ b ∧ b ≤ maxLen) ∧ (HashG W C hs ∧ hs.length ≤ c ∧ c ≤ maxLen) := by
  obtain ⟨cs, rfl, hsz⟩ := okWide_struct Try.underlying31 o
  obtain ⟨fuel, hf⟩ := h
  obtain ⟨ys, n', hn', hy, hlen, hyl, hfl⟩ := DataW.trod_struct Try.underlying31 hf
  have hyl4 : ys.length = 3 := hyl
  have hcell : Try.prog.cellsOf 31 = 3 := by kernel_rfl
  have e1 : Try.prog.cellsOf 24 = 1 := by kernel_rfl
  have e2 : Try.prog.cellsOf 29 = 1 := by kernel_rfl
  have e3 : Try.prog.cellsOf 23 = 1 := by kernel_rfl
  have f0 := hfl 0 _ rfl
  have f1 := hfl 1 _ rfl
  have f2 := hfl 2 _ rfl
  obtain ⟨cs⟩ := cs
  rw [hcell] at hsz
  match cs, hsz with
  | [c0, c1, c2], hlen =>
    have g0 : DataW.trod enc Try.prog W 0 (fun _ => true) true n' 24 [c0] = ys[0]? := by simpa [Value.cells, e1] using f0
    have g1 : DataW.trod enc Try.prog W 0 (fun _ => true) true n' 29 [c1] = ys[1]? := by simpa [Value.cells, e2] using f1
    have g2 : DataW.trod enc Try.prog W 0 (fun _ => true) true n' 23 [c2] = ys[2]? := by simpa [Value.cells, e3] using f2
    rw [List.getElem?_eq_getElem (show 0 < ys.length by omega)] at g0
    rw [List.getElem?_eq_getElem (show 1 < ys.length by omega)] at g1
    rw [List.getElem?_eq_getElem (show 2 < ys.length by omega)] at g2
    obtain ⟨A, a, ts, k0, h1, h2, h3, h4⟩ := nums_cells g0
    obtain ⟨B, b, gs, k1, h5, h6, h7⟩ := ints_cells g1
    obtain ⟨C, c, hs, k2, h8, h9, h10⟩ := hashes_cells g2
    simp at k0 k1 k2
    subst k0 k1 k2
    exact ⟨A, B, C, a, b, c, ts, gs, hs, rfl, ⟨h1, h2, h3, h4⟩, ⟨h5, h6, h7⟩, h8, h9, h10⟩
set_option maxRecDepth 100000 in
theorem in_setting {H : Type} {enc : TypeId × Value → H} {W : World} {v : Value} {d : DataW H} {p : List MemPlace} {base : Nat} (h : DataW.Trod enc Try.prog W 0 (fun _ => true) true 28 v d p) (o : Value.okWide Try.prog W .any base 28 v) :
    ∃ (n : Nat) (C A B : Option Addr) (c a b : Nat) (cl : List (List Int)) (ts : List Nat) (hs : List (List Int)), v = .agg #[.int .u64 n, .slice C cl.length c, .slice A ts.length a, .slice B hs.length b] ∧ (n : Int) ≤ 18446744073709551615 ∧ (SliceG W A ts ∧ ts.length ≤ a ∧ a ≤ maxLen ∧ ∀ x ∈ ts, (x : Int) ≤ 18446744073709551615) ∧ (HashG W B hs ∧ hs.length ≤ b ∧ b ≤ maxLen) := by
  obtain ⟨cs, rfl, hsz⟩ := okWide_struct Try.underlying28 o
  obtain ⟨fuel, hf⟩ := h
  obtain ⟨ys, n', hn', hy, hlen, hyl, hfl⟩ := DataW.trod_struct Try.underlying28 hf
  have hyl4 : ys.length = 3 := hyl
  have hcell : Try.prog.cellsOf 28 = 4 := by kernel_rfl
  have e1 : Try.prog.cellsOf 22 = 1 := by kernel_rfl
  have e2 : Try.prog.cellsOf 23 = 1 := by kernel_rfl
  have e3 : Try.prog.cellsOf 26 = 2 := by kernel_rfl
  have f0 := hfl 0 _ rfl
  have f1 := hfl 1 _ rfl
  have f2 := hfl 2 _ rfl
  obtain ⟨cs⟩ := cs
  rw [hcell] at hsz
  match cs, hsz with
  | [c0, c1, c2, c3], hlen =>
    have g0 : DataW.trod enc Try.prog W 0 (fun _ => true) true n' 22 [c0] = ys[0]? := by simpa [Value.cells, e1] using f0
    have g1 : DataW.trod enc Try.prog W 0 (fun _ => true) true n' 23 [c1] = ys[1]? := by simpa [Value.cells, e2] using f1
    have g2 : DataW.trod enc Try.prog W 0 (fun _ => true) true n' 26 [c2, c3] = ys[2]? := by simpa [Value.cells, e3] using f2
    rw [List.getElem?_eq_getElem (show 0 < ys.length by omega)] at g0
    rw [List.getElem?_eq_getElem (show 1 < ys.length by omega)] at g1
    rw [List.getElem?_eq_getElem (show 2 < ys.length by omega)] at g2
    obtain ⟨z1, k0, _, w1⟩ := DataW.trod_int Try.underlying22 g0
    have hb1 := wf_u64 w1
    obtain ⟨n, rfl⟩ := Int.eq_ofNat_of_zero_le hb1.1
    obtain ⟨C, c, cl, k1, _⟩ := hashes_cells g1
    obtain ⟨A, B, a, b, ts, hs, k2, h1, h2⟩ := proof_cells g2
    simp at k0 k1 k2
    obtain ⟨k2, k3⟩ := k2
    subst k0 k1 k2 k3
    exact ⟨n, C, A, B, c, a, b, cl, ts, hs, rfl, hb1.2, h1, h2⟩
set_option maxRecDepth 100000 in
theorem in_knowns {H : Type} {enc : TypeId × Value → H} {W : World} {v : Value} {d : DataW H} {p : List MemPlace} {base : Nat} (h : DataW.Trod enc Try.prog W 0 (fun _ => true) true 32 v d p) (o : Value.okWide Try.prog W .any base 32 v) :
    ∃ (A : Option Addr) (c : Nat) (kn : List (Nat × List Int)), v = .slice A kn.length c ∧ KnownG W A kn ∧ (∀ y ∈ kn, (y.1 : Int) ≤ 18446744073709551615) ∧ kn.length ≤ c ∧ c ≤ maxLen := by
  obtain ⟨a1, len, cap, rfl⟩ := okWide_slice Try.underlying32 o
  obtain ⟨fuel, hf⟩ := h
  obtain ⟨A, c, kn, k, h1⟩ := knowns_cells hf
  simp [Value.cells] at k
  exact ⟨A, c, kn, by rw [k.1, k.2.1, k.2.2], h1⟩
end Go.Proofs.Ytnokhajjcjfbpaa
/- What Part and Fill answer, whatever their arguments. -/
namespace Go.Proofs.Ytnokhajjcjfbpaa
open Go.RowKit Go.Shelf

/-- What becomes of a proof without what is known: targets, gaps, hashes, the error's number. -/
def PartIs (n : Nat) (ts kn : List Nat) (hs : List (List Int)) (a : List Nat) (b : List Int) (c : List (List Int)) (v : Int) : Prop :=
  ((¬ Valid n ts ∨ ∃ nl, IsNeed n ts nl ∧ nl.length ≠ hs.length) ∧ a = [] ∧ b = [] ∧ c = [] ∧ v = 33) ∨
  ∃ nl, Valid n ts ∧ IsNeed n ts nl ∧ nl.length = hs.length ∧ a = ts ∧ b = gapsOf kn nl nl.length ∧ c = restOf kn nl hs nl.length ∧ v = 0
theorem partIs_one {n : Nat} {ts kn : List Nat} {hs : List (List Int)} {a a' : List Nat} {b b' : List Int} {c c' : List (List Int)} {v v' : Int} (h : PartIs n ts kn hs a b c v) (h' : PartIs n ts kn hs a' b' c' v') : a = a' ∧ b = b' ∧ c = c' ∧ v = v' := by
  rcases h with ⟨hn, rfl, rfl, rfl, rfl⟩ | ⟨nl, hv, hnl, hl, rfl, rfl, rfl, rfl⟩ <;> rcases h' with ⟨hn', rfl, rfl, rfl, rfl⟩ | ⟨nl', hv', hnl', hl', rfl, rfl, rfl, rfl⟩
  · exact ⟨rfl, rfl, rfl, rfl⟩
  · rcases hn with hn | ⟨nl, h1, h2⟩
    · exact absurd hv' hn
    · obtain rfl := isNeed_one h1 hnl'
      exact absurd hl' h2
  · rcases hn' with hn | ⟨nl, h1, h2⟩
    · exact absurd hv hn
    · obtain rfl := isNeed_one h1 hnl
      exact absurd hl h2
  · obtain rfl := isNeed_one hnl hnl'
    exact ⟨rfl, rfl, rfl, rfl⟩
def PartGot (a : List Nat) (b : List Int) (c : List (List Int)) (v : Int) (w : World) (e : Ending) (w' : World) : Prop := ∃ T t G g H h,
  e = .returned (.tuple #[.agg #[.slice T a.length t, .slice G b.length g, .slice H c.length h], .int .i64 v]) ∧ SliceG w' T a ∧ IntG w' G b ∧ HashG w' H c ∧ (b.length ≤ g ∧ c.length ≤ h) ∧ (a.length ≤ 1000 ∧ b.length ≤ 100000 ∧ c.length ≤ 100000) ∧ Below w.heap.size w w'
theorem PartRet.any {n : Nat} {ts kn : List Nat} {hs : List (List Int)} {w w' : World} {e : Ending} (hlen : ts.length ≤ 1000) (hhl : hs.length ≤ 100000) (h : PartRet n ts kn hs w e w') : ∃ a b c v, PartIs n ts kn hs a b c v ∧ PartGot a b c v w e w' := by
  rcases h with ⟨hn, rfl, hb⟩ | ⟨nl, hv, hnl, hl, T, t, G, g, H, h, rfl, h1, h2, h3, h4, h5⟩
  · exact ⟨[], [], [], 33, .inl ⟨hn, rfl, rfl, rfl, rfl⟩, none, 0, none, 0, none, 0, rfl, fun k hk => by simp at hk, fun k hk => by simp at hk, ⟨fun k x hk => by simp at hk, by simp⟩, by simp, by simp, hb⟩
  · have l1 := gaps_len kn nl nl.length
    have l2 := rest_len kn nl hs nl.length
    exact ⟨ts, _, _, 0, .inr ⟨nl, hv, hnl, hl, rfl, rfl, rfl, rfl⟩, T, t, G, g, H, h, rfl, h1.gen, h2, h3, h4, ⟨hlen, by omega, by omega⟩, h5⟩
theorem part_any (n : Nat) (ts kn : List Nat) (hs : List (List Int)) (A B K : Option Addr) (c d k : Nat) (w : World) (hnu : (n : Int) ≤ 18446744073709551615) (hlen : ts.length ≤ 1000) (hhl : hs.length ≤ 100000) (hkl : kn.length ≤ 100000) (hu : ∀ t ∈ ts, (t : Int) ≤ 18446744073709551615) (hts : SliceG w A ts) (hhs : HashG w B hs) (hkn : SliceG w K kn) :
    Calls Try.prog 7 #[.int .u64 n, .agg #[.slice A ts.length c, .slice B hs.length d], .slice K kn.length k] w fun e w' => ∃ a b c v, PartIs n ts kn hs a b c v ∧ PartGot a b c v w e w' := by
  by_cases hv : Valid n ts
  · exact (part_yes n ts kn hs A B K c d k w hlen hhl hkl hts hhs hkn hv).mono fun e w' h => h.any hlen hhl
  · exact (part_no n ts kn hs A B K c d k w hnu hlen hu hts hv).mono fun e w' h => PartRet.any (n := n) (ts := ts) (kn := kn) (hs := hs) hlen hhl (.inl ⟨.inl hv, h⟩)
theorem refPart_any (n : Nat) (ts kn : List Nat) (hs : List (List Int)) (A B K : Option Addr) (c d k : Nat) (w : World) (hlen : ts.length ≤ 1000) (hhl : hs.length ≤ 100000) (hkl : kn.length ≤ 100000) (hu : ∀ t ∈ ts, (t : Int) ≤ 18446744073709551615) (hts : SliceG w A ts) (hhs : HashG w B hs) (hkn : SliceG w K kn) :
    Calls Try.prog 8 #[.int .u64 n, .agg #[.slice A ts.length c, .slice B hs.length d], .slice K kn.length k] w fun e w' => ∃ a b c v, PartIs n ts kn hs a b c v ∧ PartGot a b c v w e w' := by
  by_cases hv : Valid n ts
  · exact (refPart_yes n ts kn hs A B K c d k w hlen hhl hkl hts hhs hkn hv).mono fun e w' h => h.any hlen hhl
  · exact (refPart_no n ts kn hs A B K c d k w hlen hu hts hv).mono fun e w' h => PartRet.any (n := n) (ts := ts) (kn := kn) (hs := hs) hlen hhl (.inl ⟨.inl hv, h⟩)

/-- What is filled in: targets, hashes, the error's number. -/
def FillIs (n : Nat) (ts : List Nat) (gs : List Int) (hs : List (List Int)) (lk : Nat → Option (List Int)) (a : List Nat) (c : List (List Int)) (v : Int) : Prop :=
  ((¬ Valid n ts ∨ ∃ nl, IsNeed n ts nl ∧ (¬ (Gaps gs nl.length ∧ gs.length + hs.length = nl.length) ∨ fillOf gs hs lk nl nl.length = none)) ∧ a = [] ∧ c = [] ∧ v = 33) ∨
  ∃ nl, Valid n ts ∧ IsNeed n ts nl ∧ (Gaps gs nl.length ∧ gs.length + hs.length = nl.length) ∧ fillOf gs hs lk nl nl.length = some c ∧ a = ts ∧ v = 0
theorem fillIs_one {n : Nat} {ts : List Nat} {gs : List Int} {hs : List (List Int)} {lk : Nat → Option (List Int)} {a a' : List Nat} {c c' : List (List Int)} {v v' : Int} (h : FillIs n ts gs hs lk a c v) (h' : FillIs n ts gs hs lk a' c' v') : a = a' ∧ c = c' ∧ v = v' := by
  have key : ∀ nl, IsNeed n ts nl → Valid n ts → (Gaps gs nl.length ∧ gs.length + hs.length = nl.length) → ∀ x, fillOf gs hs lk nl nl.length = some x → ¬ (¬ Valid n ts ∨ ∃ nl, IsNeed n ts nl ∧ (¬ (Gaps gs nl.length ∧ gs.length + hs.length = nl.length) ∨ fillOf gs hs lk nl nl.length = none)) := by
    rintro nl h1 h2 h3 x h4 (h | ⟨nl', h5, h6 | h6⟩)
    · exact h h2
    · obtain rfl := isNeed_one h1 h5
      exact h6 h3
    · obtain rfl := isNeed_one h1 h5
      rw [h4] at h6
      cases h6
  rcases h with ⟨hn, rfl, rfl, rfl⟩ | ⟨nl, hv, hnl, hl, hf, rfl, rfl⟩ <;> rcases h' with ⟨hn', rfl, rfl, rfl⟩ | ⟨nl', hv', hnl', hl', hf', rfl, rfl⟩
  · exact ⟨rfl, rfl, rfl⟩
  · exact absurd hn (key nl' hnl' hv' hl' _ hf')
  · exact absurd hn' (key nl hnl hv hl _ hf)
  · obtain rfl := isNeed_one hnl hnl'
    rw [hf] at hf'
    injection hf' with hf'
    exact ⟨rfl, hf', rfl⟩
def FillGot (a : List Nat) (c : List (List Int)) (v : Int) (w : World) (e : Ending) (w' : World) : Prop := ∃ T t H h,
  e = .returned (.tuple #[.agg #[.slice T a.length t, .slice H c.length h], .int .i64 v]) ∧ SliceG w' T a ∧ HashG w' H c ∧ (a.length ≤ 1000 ∧ c.length ≤ 64000) ∧ Below w.heap.size w w'
theorem FillRet.any {n : Nat} {ts : List Nat} {gs : List Int} {hs : List (List Int)} {lk : Nat → Option (List Int)} {w w' : World} {e : Ending} (hlen : ts.length ≤ 1000) (h : FillRet n ts gs hs lk w e w') : ∃ a c v, FillIs n ts gs hs lk a c v ∧ FillGot a c v w e w' := by
  have err : ∀ {e : Ending}, FillErr w e w' → FillGot [] [] 33 w e w' := by
    rintro e ⟨rfl, hb⟩
    exact ⟨none, 0, none, 0, rfl, fun k hk => by simp at hk, ⟨fun k x hk => by simp at hk, by simp⟩, by simp, hb⟩
  rcases h with ⟨hn, he⟩ | ⟨nl, hv, hnl, ⟨hn, he⟩ | ⟨hg, ⟨hf, he⟩ | ⟨out, hf, T, t, H, h, rfl, h1, h2, h3⟩⟩⟩
  · exact ⟨[], [], 33, .inl ⟨.inl hn, rfl, rfl, rfl⟩, err he⟩
  · exact ⟨[], [], 33, .inl ⟨.inr ⟨nl, hnl, .inl hn⟩, rfl, rfl, rfl⟩, err he⟩
  · exact ⟨[], [], 33, .inl ⟨.inr ⟨nl, hnl, .inr hf⟩, rfl, rfl, rfl⟩, err he⟩
  · have l1 := fill_len hf
    have l2 := need_short hnl
    exact ⟨ts, out, 0, .inr ⟨nl, hv, hnl, hg, hf, rfl, rfl⟩, T, t, H, h, rfl, h1.gen, h2, ⟨hlen, by omega⟩, h3⟩
theorem fill_any (n : Nat) (ts : List Nat) (gs : List Int) (hs : List (List Int)) (lk : Nat → Option (List Int)) (A B C : Option Addr) (a' b' c' : Nat) (F : Value) (w : World) (hnu : (n : Int) ≤ 18446744073709551615) (hlen : ts.length ≤ 1000) (hgl : gs.length ≤ 100000) (hhl : hs.length ≤ 100000) (hu : ∀ t ∈ ts, (t : Int) ≤ 18446744073709551615) (hts : SliceG w A ts) (hgs : IntG w B gs) (hhs : HashG w C hs)
    (hgb : gs.length ≤ b') (hhc : hs.length ≤ c') (hF : (F = .nilFunc ∧ ∀ p, lk p = none) ∨ ∃ (K : Option Addr) (ck : Nat) (kn : List (Nat × List Int)), F = .func (.func 10) #[.agg #[.slice K kn.length ck]] #[] ∧ KnownG w K kn ∧ kn.length ≤ 1000000 ∧ lk = look kn) :
    Calls Try.prog 9 #[.int .u64 n, .agg #[.slice A ts.length a', .slice B gs.length b', .slice C hs.length c'], F] w fun e w' => ∃ a c v, FillIs n ts gs hs lk a c v ∧ FillGot a c v w e w' := by
  by_cases hv : Valid n ts
  · exact (fill_yes n ts gs hs lk A B C a' b' c' F w hlen hgl hhl hts hgs hhs hgb hhc hF hv).mono fun e w' h => h.any hlen
  · exact (fill_no n ts A B C gs.length hs.length a' b' c' F w hnu hlen hu hts hv).mono fun e w' h => FillRet.any (n := n) (ts := ts) (gs := gs) (hs := hs) (lk := lk) hlen (.inl ⟨hv, h⟩)
theorem refFill_any (n : Nat) (ts : List Nat) (gs : List Int) (hs : List (List Int)) (kn : List (Nat × List Int)) (A B C K : Option Addr) (a' b' c' ck : Nat) (w : World) (hlen : ts.length ≤ 1000) (hgl : gs.length ≤ 100000) (hhl : hs.length ≤ 100000) (hkl : kn.length ≤ 1000000) (hu : ∀ t ∈ ts, (t : Int) ≤ 18446744073709551615) (hts : SliceG w A ts) (hgs : IntG w B gs) (hhs : HashG w C hs) (hkn : KnownG w K kn) :
    Calls Try.prog 11 #[.int .u64 n, .agg #[.slice A ts.length a', .slice B gs.length b', .slice C hs.length c'], .slice K kn.length ck] w fun e w' => ∃ a c v, FillIs n ts gs hs (look kn) a c v ∧ FillGot a c v w e w' := by
  by_cases hv : Valid n ts
  · exact (refFill_yes n ts gs hs kn A B C K a' b' c' ck w hlen hgl hhl hkl hts hgs hhs hkn hv).mono fun e w' h => h.any hlen
  · exact (refFill_no n ts A B C gs.length hs.length a' b' c' (.slice K kn.length ck) w hlen hu hts hv).mono fun e w' h => FillRet.any (n := n) (ts := ts) (gs := gs) (hs := hs) (lk := look kn) hlen (.inl ⟨hv, h⟩)

/-- A row of numbers and one number more, made by a composite literal. -/
theorem grow_u64 {W : World} {base : Nat} {v : Value} {l : List Nat} (h : OwnU W base v l) (hbase : base ≤ W.heap.size) (x : Nat) (hn : l.length ≤ 1000000) :
    ∃ A c W', (Builtin.append_ #[24, 24] 24 #[v, .slice (some ⟨W.heap.size, 0, none⟩) 1 1]).run Try.prog (W.alloc (.cells #[.int .u64 x] 22)) = .ok (.slice A (l.length + 1) c) W' ∧ OwnU W' base (.slice A (l.length + 1) c) (l ++ [x]) ∧ W.grownBy W' v.ownBlock := by
  obtain ⟨A, c, W', h1, h2, h3⟩ := grow_one (t := 24) Try.underlying24 u64_info rfl (by decide) W base v _ _ h.row hbase [.int .u64 x] rfl (by simp [Value.oneCell']) hn (by decide)
  refine ⟨A, c, W', h1, ?_, h3⟩
  show W'.ownsRow _ _ _ _ _ _
  simpa [ints] using h2
end Go.Proofs.Ytnokhajjcjfbpaa
