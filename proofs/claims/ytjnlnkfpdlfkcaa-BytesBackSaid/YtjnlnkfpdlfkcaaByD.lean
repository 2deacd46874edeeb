/- The law that what is laid is taken back, the walk. -/
import Derived.Test.YtjnlnkfpdlfkcaaByC
namespace Go.Proofs.Ytjnlnkfpdlfkcaa
open Go.RowKit Go.Lib Go.ChangeShapes Go.WideShapes Go.Deep

theorem size_setCells' (b : Nat) : ∀ (vs : List Value) (o : Nat) (w : World), (w.setCells b o vs).heap.size = w.heap.size
  | [], _, _ => rfl
  | v :: vs, o, w => (size_setCells' b vs (o + 1) _).trans (by simp)
theorem wpList_store_loc {P : Program} {ops : Array Oper} {rest : List Oper} {op : Oper} {a : Act} {w : World} {Q : Exit → Act → World → Prop} (hgd : op.guard = none) (ty : TypeId) (x y : Operand) (ho : op.op = .store ty x y)
    (c : Array Value) (cs : List Value) (hx : a.eval x = .pointer (some ⟨w.heap.size, 0, none⟩)) (hy : a.eval y = .agg cs.toArray) (hc : c.size = cs.length) (hi : (P.info? ty).map (·.size) = some cs.length) (h1 : ∀ v ∈ cs, v.oneCell' = true)
    (h : ∀ wz, wz.rangeAt w.heap.size 0 cs → w.heap.size < wz.heap.size → Below w.heap.size w wz → wpList P ops Q rest (a.put op.dst undef) wz) : wpList P ops Q (op :: rest) a (w.alloc (.cells c ty)) := by
  have ht := there_new w c ty cs.length hc
  refine wpList_store_mid hgd ty x y ho w.heap.size 0 cs.toArray hx hy (by simpa using ht) (by simpa using hi) (all_oneCell_toArray h1) ?_
  have hb : Below w.heap.size w ((w.alloc (.cells c ty)).setCells w.heap.size 0 cs) := bel_setCells (Nat.le_refl _) _ _ ((Below.refl _ _).alloc (Nat.le_refl _) _)
  have hr := World.rangeAt_setCells_same (w.alloc (.cells c ty)) w.heap.size 0 cs ht
  have hsz : ((w.alloc (.cells c ty)).setCells w.heap.size 0 cs).heap.size = (w.alloc (.cells c ty)).heap.size := size_setCells' _ _ _ _
  exact h _ hr (by rw [hsz]; simp) hb
theorem th_one (x : Thing) (B : Option Addr) (c : Nat) : ∀ v ∈ thCells x B c, v.oneCell' = true := by
  intro v hv
  unfold thCells at hv
  rcases List.mem_cons.1 hv with rfl | hv
  · rfl
  rcases List.mem_cons.1 hv with rfl | hv
  · rfl
  rcases List.mem_cons.1 hv with rfl | hv
  · rfl
  exact oneCells _ v hv
theorem own_nil {w : World} {base n c : Nat} {A : Option Addr} {l : List UInt8} (h : Own w base (.slice A n c) l) (hc : A = none → c = 0) : A = none → l.length = 0 ∧ c = 0 := fun e => by
  refine ⟨?_, hc e⟩
  rcases Nat.eq_zero_or_pos l.length with h0 | h0
  · exact h0
  · obtain ⟨ad, h1, _⟩ := h.rd h0
    rw [e] at h1
    cases h1
theorem th_size (x : Thing) (B : Option Addr) (c : Nat) (h : x.hs.length = 32) : (Try.prog.info? 43).map (·.size) = some (thCells x B c).length := by
  rw [thCells_length x B c h]
  kernel_rfl

/-- Bytes that lay there before the reader did. -/
theorem Rd.off {g : Nat} {w0 w w' : World} {A : Option Addr} {l : List UInt8} (h0 : Rd w0 A l) (hg : w0.heap.size ≤ g) (h : Rd w A l) (k : Chg g w w') : Rd w' A l := by
  rcases Nat.eq_zero_or_pos l.length with he | he
  · rw [List.length_eq_zero_iff.1 he]; exact Rd.nil _ _
  · refine h.chg k fun ad e => ?_
    obtain ⟨ad', e', hlt, _⟩ := h0 he
    rw [e] at e'
    injection e' with e'
    subst e'
    omega
theorem take_ex (g c : Nat) (A : Option Addr) (l : List UInt8) (n : Nat) (w : World) (h1 : IsBlk w g 36 #[.slice A l.length c, .bool true, .bool false]) (h2 : l.length ≤ c) (h3 : Rd w A l) (h4 : A = none → c = 0) (h5 : ∀ ad : Addr, A = some ad → ad.block ≠ g) (hl : l.length ≤ 1000000000) (hn : n ≤ l.length) :
    Calls Try.prog 15 #[.pointer (some ⟨g, 0, none⟩), .int .i64 n] w fun e w' => e = .returned (.slice A n n) ∧ Chg g w w' ∧ Rd w' A l ∧ Live w' g (l.drop n) := by
  refine (take_exact g c A l n w h1 h2 h3 h4 h5 hl hn).mono ?_
  rintro e w' ⟨rfl, rfl⟩
  refine ⟨rfl, Chg.set _ _ _ _, h3.setCell h5 _, if c = n then A else A.map (·.add n), c - n, by rw [List.length_drop]; exact h1.put 0 _, by rw [List.length_drop]; omega, (h3.setCell h5 _).drop h2, fun h => ?_, fun ad h => ?_⟩
  · by_cases hc : c = n
    · omega
    · rw [if_neg hc] at h
      have := h4 (by simpa using h)
      omega
  · by_cases hc : c = n
    · rw [if_pos hc] at h
      exact h5 ad h
    · rw [if_neg hc] at h
      obtain ⟨ad', h1, rfl⟩ := Option.map_eq_some_iff.1 h
      rw [addr_block]
      exact h5 ad' h1

set_option maxRecDepth 100000 in
set_option maxHeartbeats 8000000 in
theorem bback_big (A : Option Addr) (n c : Nat) (w : World) (hn : ¬ n ≤ 30) : Calls Try.prog 5 #[.slice A n c] w (BRet (.bool true) w) := by
  have AW := Lib.hid awake_any
  have h1 : (30 : Int) < n := by omega
  go_enter Try.func5, Try.ntmps5
  go_wp2_with fail
  refine (AW.out _).mono ?_
  rintro e w' ⟨rfl, hb⟩
  go_wp2_with fail
  go_ret
  exact ⟨rfl, hb⟩

set_option maxRecDepth 100000 in
set_option maxHeartbeats 16000000 in
theorem bback_walk (A : Option Addr) (n c : Nat) (xs : List Thing) (w : World) (hn : n ≤ 30) (hxl : xs.length = n) (hxs : ∀ i x, xs[i]? = some x → ThingAt w A i x) : Calls Try.prog 5 #[.slice A n c] w (BRet (.bool true) w) := by
  have AW := Lib.hid awake_any
  have h1 : ¬ (30 : Int) < n := by omega
  have HX := Lib.hid hxs
  have HXL := Lib.hid hxl
  clear hxs hxl
  go_enter Try.func5, Try.ntmps5
  go_wp2_with fail
  go_loopw [3, 4] (fun b i wr => ∃ (k : Nat) (L : List UInt8) (A' : Option Addr) (c' : Nat), k ≤ n ∧ i = .int .i64 k ∧ b = .slice A' L.length c' ∧ L = encL xs k ∧ Own wr w.heap.size (.slice A' L.length c') L ∧ (A' = none → c' = 0) ∧ OkL xs k ∧ Below w.heap.size w wr) (fun _ i _ => n - (intOf i).toNat)
  case atStart => exact ⟨0, [], none, 0, by omega, rfl, rfl, rfl, Own.nil _ _, fun _ => rfl, fun i x hi => absurd hi (Nat.not_lt_zero i), Below.refl _ _⟩
  case round =>
    obtain ⟨k, L, A', c', hk, rfl, rfl, hL, hown, hnn, hok, hbel⟩ := hrel
    by_cases hlt : k < n
    · obtain ⟨x, hx⟩ : ∃ x, xs[k]? = some x := ⟨_, List.getElem?_eq_getElem (by rw [HXL.out]; exact hlt)⟩
      obtain ⟨ab, ao, B, cB, hA, hab, hrg, hrd, hB0, hBc, hBm, hhs, hnum⟩ := HX.out k x hx
      subst hA
      have HRG := Lib.hid (show wr.rangeAt ab (ao + k * 35) (thCells x B cB) from fun j v hv => (hbel.cell (p := ⟨ab, ao + k * 35 + j, none⟩) hab).trans (hrg j v hv))
      have HRD := Lib.hid (hrd.after hbel)
      have HSZ := Lib.hid (th_size x B cB hhs)
      have HN35 := Lib.hid (thCells_length x B cB hhs)
      have HO := Lib.hid hown
      have HB := Lib.hid hbel
      have HNN := Lib.hid hnn
      have HOK := Lib.hid hok
      have HH := Lib.hid hhs
      have HL := Lib.hid (show L = encL xs k ∧ L.length ≤ 30000 from ⟨hL, by rw [hL]; have := encL_len hok; omega⟩)
      have hES := encL_succ hx
      rw [← hL] at hES
      have HES := Lib.hid hES
      have HNX := Lib.hid (show ∀ y, OkT y → x = y → OkL xs (k + 1) from fun y hy e i z hi hz => by
        rcases Nat.lt_or_ge i k with h | h
        · exact hok i z h hz
        · have : i = k := by omega
          subst this
          rw [hx] at hz
          injection hz with hz
          rw [← hz, e]
          exact hy)
      have hkn : (k : Int) < n := by omega
      have hbm : x.bs.length ≤ 9223372036854775807 := by simp only [maxLen] at hBm; omega
      clear hL hown hnn hok hbel hES hrg hrd hB0 hBc hBm hhs
      obtain ⟨wid, num, bs, hs⟩ := x
      have hnum' : num < 18446744073709551616 := hnum
      by_cases hbl : bs.length ≤ 1000
      case neg =>
        have hbi : (1000 : Int) < bs.length := by omega
        go_wp2_with (first
        | (refine wpList_load_mid rfl 43 (.tmp 23) rfl ab (ao + k * 35) rfl (thCells ⟨wid, num, bs, hs⟩ B cB) _ HRG.out Try.underlying43 rfl HSZ.out ?_)
        | (refine wpList_store_loc rfl 43 (.tmp 5) (.tmp 24) rfl _ (thCells ⟨wid, num, bs, hs⟩ B cB) rfl rfl (by rw [HN35.out]; rfl) HSZ.out (th_one _ _ _) ?_; intro wz hrz hlz hbz; have r0 : wz.cell? ⟨wr.heap.size, 0, none⟩ = some (.int .i64 wid) := hrz 0 _ rfl; have r1 : wz.cell? ⟨wr.heap.size, 1, none⟩ = some (.int .u64 (num : Nat)) := hrz 1 _ rfl; have r2 : wz.cell? ⟨wr.heap.size, 2, none⟩ = some (.slice B bs.length cB) := hrz 2 _ rfl))
        refine (AW.out _).mono ?_
        rintro e w2 ⟨rfl, hb⟩
        have HF := Lib.hid (bel_on (bel_on HB.out hbz) hb)
        clear hrz hlz hbz r0 r1 r2 hb
        go_wp2_with fail
        go_ret
        exact ⟨rfl, HF.out⟩
      case pos =>
      have hbi : ¬ (1000 : Int) < bs.length := by omega
      by_cases hw0 : wid = 0
      · subst hw0
        have HE := Lib.hid (show encT ⟨0, num, bs, hs⟩ = bs from rfl)
        go_wp2_with (first
        | (refine wpList_load_mid rfl 43 (.tmp 23) rfl ab (ao + k * 35) rfl (thCells ⟨0, num, bs, hs⟩ B cB) _ HRG.out Try.underlying43 rfl HSZ.out ?_)
        | (refine wpList_store_loc rfl 43 (.tmp 5) (.tmp 24) rfl _ (thCells ⟨0, num, bs, hs⟩ B cB) rfl rfl (by rw [HN35.out]; rfl) HSZ.out (th_one _ _ _) ?_; intro wz hrz hlz hbz; have r0 : wz.cell? ⟨wr.heap.size, 0, none⟩ = some (.int .i64 0) := hrz 0 _ rfl; have r1 : wz.cell? ⟨wr.heap.size, 1, none⟩ = some (.int .u64 (num : Nat)) := hrz 1 _ rfl; have r2 : wz.cell? ⟨wr.heap.size, 2, none⟩ = some (.slice B bs.length cB) := hrz 2 _ rfl)
        | (at_builtin; refine wpList_append_rd rfl (.tmp 52) (.tmp 54) rfl w.heap.size _ L rfl (HO.out.after hbz) B bs.length cB bs rfl rfl (HRD.out.after hbz) (by have := HL.out.2; omega) (Nat.le_trans HB.out.size hbz.size) (L.length + bs.length) rfl (L ++ bs) rfl ?_; intro A2 c2 w2 hown2 hg2 hnn2))
        exact ⟨⟨k + 1, L ++ bs, A2, c2, by omega, by go_num, by rw [List.length_append], by rw [HES.out, HE.out], by rw [List.length_append]; exact hown2, hnn2, HNX.out _ ⟨hbl, HH.out, .inl rfl⟩ rfl, bel_grown (bel_on HB.out hbz) (Nat.le_trans HB.out.size hbz.size) (HO.out.after hbz) (Nat.le_refl _) hg2⟩, by simp [intOf]; omega⟩
      by_cases hw9 : wid = 9
      · subst hw9
        have HE := Lib.hid (show encT ⟨9, num, bs, hs⟩ = hs from rfl)
        clear hw0
        go_wp2_with (first
        | (refine wpList_load_mid rfl 43 (.tmp 23) rfl ab (ao + k * 35) rfl (thCells ⟨9, num, bs, hs⟩ B cB) _ HRG.out Try.underlying43 rfl HSZ.out ?_)
        | (refine wpList_store_loc rfl 43 (.tmp 5) (.tmp 24) rfl _ (thCells ⟨9, num, bs, hs⟩ B cB) rfl rfl (by rw [HN35.out]; rfl) HSZ.out (th_one _ _ _) ?_; intro wz hrz hlz hbz; have r0 : wz.cell? ⟨wr.heap.size, 0, none⟩ = some (.int .i64 9) := hrz 0 _ rfl; have r1 : wz.cell? ⟨wr.heap.size, 1, none⟩ = some (.int .u64 (num : Nat)) := hrz 1 _ rfl; have r2 : wz.cell? ⟨wr.heap.size, 2, none⟩ = some (.slice B bs.length cB) := hrz 2 _ rfl)
        | (at_builtin; refine wpList_append_rd rfl (.tmp 58) (.tmp 60) rfl w.heap.size _ L rfl (HO.out.after hbz) (some ⟨wr.heap.size, 3, none⟩) 32 32 hs rfl HH.out.symm (th_rd hrz HH.out) (by have := HL.out.2; have : hs.length = 32 := HH.out; omega) (Nat.le_trans HB.out.size hbz.size) (L.length + 32) (by have : hs.length = 32 := HH.out; rw [this]) (L ++ hs) rfl ?_; intro A2 c2 w2 hown2 hg2 hnn2))
        have hll : (L ++ hs).length = L.length + 32 := by rw [List.length_append, show hs.length = 32 from HH.out]
        exact ⟨⟨k + 1, L ++ hs, A2, c2, by omega, by go_num, by rw [hll], by rw [HES.out, HE.out], by rw [hll]; exact hown2, hnn2, HNX.out _ ⟨hbl, HH.out, .inr (.inl rfl)⟩ rfl, bel_grown (bel_on HB.out hbz) (Nat.le_trans HB.out.size hbz.size) (HO.out.after hbz) (Nat.le_refl _) hg2⟩, by simp [intOf]; omega⟩
      have t0 : (wid == 0) = false := by simp [hw0]
      have t9 : (wid == 9) = false := by simp [hw9]
      by_cases hp : widthB wid = true ∧ num < 2 ^ (8 * wid.toNat)
      · have hc4 := width_cases hp.1
        obtain ⟨q, rfl⟩ := Int.eq_ofNat_of_zero_le (show 0 ≤ wid by omega)
        have hq : q = 1 ∨ q = 2 ∨ q = 4 ∨ q = 8 := by omega
        have hp2 : num < 2 ^ (8 * q) := hp.2
        have PY := Lib.hid (fun w' (h0 : A' = none → L.length = 0 ∧ c' = 0) (hr : Rd w' A' L) => put_yes A' c' L q num w' h0 hr (by have := HL.out.2; omega) hq hp2)
        have HE := Lib.hid (show encT ⟨(q : Int), num, bs, hs⟩ = digs q num from by unfold encT; rw [if_neg hw0, if_neg hw9]; rfl)
        have HQ := Lib.hid (show OkT ⟨(q : Int), num, bs, hs⟩ from ⟨hbl, HH.out, .inr (.inr ⟨q, rfl, hq, hp2⟩)⟩)
        clear hw0 hw9 hp hc4 hq hp2
        go_wp2_with (first
        | (refine wpList_load_mid rfl 43 (.tmp 23) rfl ab (ao + k * 35) rfl (thCells ⟨(q : Int), num, bs, hs⟩ B cB) _ HRG.out Try.underlying43 rfl HSZ.out ?_)
        | (refine wpList_store_loc rfl 43 (.tmp 5) (.tmp 24) rfl _ (thCells ⟨(q : Int), num, bs, hs⟩ B cB) rfl rfl (by rw [HN35.out]; rfl) HSZ.out (th_one _ _ _) ?_; intro wz hrz hlz hbz; have r0 : wz.cell? ⟨wr.heap.size, 0, none⟩ = some (.int .i64 (q : Int)) := hrz 0 _ rfl; have r1 : wz.cell? ⟨wr.heap.size, 1, none⟩ = some (.int .u64 (num : Nat)) := hrz 1 _ rfl; have r2 : wz.cell? ⟨wr.heap.size, 2, none⟩ = some (.slice B bs.length cB) := hrz 2 _ rfl))
        refine (PY.out _ (own_nil HO.out HNN.out) (HO.out.after hbz).rd).mono ?_
        rintro e w2 ⟨A2, c2, rfl, hown2, hnn2, hb2⟩
        have HO2 := Lib.hid (hown2.low (Nat.le_trans HB.out.size hbz.size))
        have HB2 := Lib.hid (bel_on (bel_on HB.out hbz) hb2)
        clear hown2 hb2 hrz hlz hbz r0 r1 r2 PY
        go_wp2_with fail
        exact ⟨⟨k + 1, L ++ digs q num, A2, c2, by omega, by go_num, by rw [List.length_append], by rw [HES.out, HE.out], HO2.out, hnn2, HNX.out _ HQ.out rfl, HB2.out⟩, by simp [intOf]; omega⟩
      · have PN := Lib.hid (fun w' => put_no A' L.length c' wid num w' hnum hp)
        clear hw0 hw9 hp
        go_wp2_with (first
        | (refine wpList_load_mid rfl 43 (.tmp 23) rfl ab (ao + k * 35) rfl (thCells ⟨wid, num, bs, hs⟩ B cB) _ HRG.out Try.underlying43 rfl HSZ.out ?_)
        | (refine wpList_store_loc rfl 43 (.tmp 5) (.tmp 24) rfl _ (thCells ⟨wid, num, bs, hs⟩ B cB) rfl rfl (by rw [HN35.out]; rfl) HSZ.out (th_one _ _ _) ?_; intro wz hrz hlz hbz; have r0 : wz.cell? ⟨wr.heap.size, 0, none⟩ = some (.int .i64 wid) := hrz 0 _ rfl; have r1 : wz.cell? ⟨wr.heap.size, 1, none⟩ = some (.int .u64 (num : Nat)) := hrz 1 _ rfl; have r2 : wz.cell? ⟨wr.heap.size, 2, none⟩ = some (.slice B bs.length cB) := hrz 2 _ rfl))
        refine (PN.out _).mono ?_
        rintro e w' ⟨rfl, rfl⟩
        go_wp2_with fail
        refine (AW.out _).mono ?_
        rintro e w2 ⟨rfl, hb⟩
        have HF := Lib.hid (bel_on (bel_on HB.out hbz) hb)
        clear hrz hlz hbz r0 r1 r2 hb
        go_wp2_with fail
        go_ret
        exact ⟨rfl, HF.out⟩
    · have hkn : ¬ (k : Int) < n := by omega
      have hke : k = n := by omega
      have HA0 := Lib.hid (own_nil hown hnn)
      have HOL := Lib.hid (show OkL xs xs.length from by rw [HXL.out, ← hke]; exact hok)
      have HLD := Lib.hid (show L = decL xs 0 from by rw [hL, hke, ← HXL.out]; exact encL_all xs)
      have hdl : ∀ j, (decL xs j).length ≤ 30000 := fun j => by have := decL_len HOL.out j; rw [HXL.out] at this; omega
      have HDL := Lib.hid hdl
      have O1 := Lib.hid (open_any A' L.length c' L wr rfl HA0.out hown.rd (by rw [HLD.out]; have := hdl 0; omega))
      have HBW := Lib.hid hbel
      clear hL hown hnn hok hbel hke hdl
      go_wp2_with fail
      refine O1.out.mono ?_
      rintro e w2 ⟨g, rfl, hlive, hg, hb2⟩
      rw [HLD.out] at hlive
      have HLV := Lib.hid hlive
      have HG := Lib.hid (show w.heap.size ≤ g from Nat.le_trans HBW.out.size hg)
      have HB2 := Lib.hid (bel_on HBW.out hb2)
      clear hlive hg hb2 O1 HA0 HBW hkn hk
      go_wp2_with fail
      go_loopw [9] (fun i wr => ∃ k : Nat, k ≤ n ∧ i = .int .i64 k ∧ Live wr g (decL xs k) ∧ Below w.heap.size w wr) (fun i _ => n - (intOf i).toNat)
      case atStart => exact ⟨0, by omega, rfl, HLV.out, HB2.out⟩
      case round =>
      obtain ⟨k, hk, rfl, hlive, hbel⟩ := hrel
      clear HLV HB2
      by_cases hlt : k < n
      · obtain ⟨x, hx⟩ : ∃ x, xs[k]? = some x := ⟨_, List.getElem?_eq_getElem (by rw [HXL.out]; exact hlt)⟩
        obtain ⟨ab, ao, B, cB, hA, hab, hrg, hrd, hB0, hBc, hBm, hhs, hnum⟩ := HX.out k x hx
        subst hA
        have HRG := Lib.hid (show wr.rangeAt ab (ao + k * 35) (thCells x B cB) from fun j v hv => (hbel.cell (p := ⟨ab, ao + k * 35 + j, none⟩) hab).trans (hrg j v hv))
        have HRW := Lib.hid hrd
        have HRD := Lib.hid (hrd.after hbel)
        have HSZ := Lib.hid (th_size x B cB hhs)
        have HN35 := Lib.hid (thCells_length x B cB hhs)
        have HB := Lib.hid hbel
        have HH := Lib.hid hhs
        have HT := Lib.hid (HOL.out k x (by rw [HXL.out]; exact hlt) hx)
        have hds := decL_step hx
        have hdl := HDL.out k
        generalize hR : decL xs (k + 1) = R at *
        rw [hds] at hlive hdl
        have HR := Lib.hid hR
        have HLV := Lib.hid hlive
        have HLL := Lib.hid hdl
        have hkn : (k : Int) < n := by omega
        have hbm : x.bs.length ≤ 9223372036854775807 := by simp only [maxLen] at hBm; omega
        have hgw : g < wr.heap.size := hlive.lt
        have hne : wr.heap.size ≠ g := by omega
        clear hlive hbel hrg hrd hB0 hBc hBm hhs hds hdl hR hx
        obtain ⟨wid, num, bs, hs⟩ := x
        have hnum' : num < 18446744073709551616 := hnum
        rcases HT.out.2.2 with hw0 | hw9 | ⟨q, hwq, hq, hp2⟩
        · have hw0' : wid = 0 := hw0
          subst hw0'
          have HE := Lib.hid (show encT ⟨0, num, bs, hs⟩ = bs from rfl)
          rw [HE.out] at HLV HLL
          go_wp2_with (first
          | (refine wpList_load_mid rfl 43 (.tmp 72) rfl ab (ao + k * 35) rfl (thCells ⟨0, num, bs, hs⟩ B cB) _ HRG.out Try.underlying43 rfl HSZ.out ?_)
          | (refine wpList_store_loc rfl 43 (.tmp 10) (.tmp 73) rfl _ (thCells ⟨0, num, bs, hs⟩ B cB) rfl rfl (by rw [HN35.out]; rfl) HSZ.out (th_one _ _ _) ?_; intro wz hrz hlz hbz; have r0 : wz.cell? ⟨wr.heap.size, 0, none⟩ = some (.int .i64 0) := hrz 0 _ rfl; have r1 : wz.cell? ⟨wr.heap.size, 1, none⟩ = some (.int .u64 (num : Nat)) := hrz 1 _ rfl; have r2 : wz.cell? ⟨wr.heap.size, 2, none⟩ = some (.slice B bs.length cB) := hrz 2 _ rfl))
          obtain ⟨Ar, cr, hblk, hlc, hrr, hr0, hrne⟩ := HLV.out.after hbz
          have HTE := Lib.hid (fun w' (a1 : IsBlk w' g 36 #[.slice Ar (bs ++ R).length cr, .bool true, .bool false]) (a3 : Rd w' Ar (bs ++ R)) => take_ex g cr Ar (bs ++ R) bs.length w' a1 hlc a3 hr0 hrne (by have := HLL.out; omega) (by simp))
          have ht1 : (bs ++ R).take bs.length = bs := by simp
          have ht2 : (bs ++ R).drop bs.length = R := by simp
          rw [ht2] at HTE
          have HT1 := Lib.hid ht1
          refine wp_region_seqT (Once 4 (fun w' => w'.rangeAt wr.heap.size 0 (thCells ⟨0, num, bs, hs⟩ B cB) ∧ Rd w' B bs ∧ Rd w' Ar (bs ++ R) ∧ Below w.heap.size w w') (fun w' => IsBlk w' g 36 #[.slice Ar (bs ++ R).length cr, .bool true, .bool false]) (fun w' => Live w' g R)) (by kernel_rfl) (by kernel_rfl) (Once.start ⟨hrz, HRD.out.after hbz.drew, hrr, bel_on HB.out hbz.drew⟩ hblk) ?_
          clear hrz hlz hbz r0 r1 r2 hblk hlc hrr hr0 hrne ht1 ht2
          repeat (first
            | (refine SeqT.skip ?_ ?_ ?_; decide; rfl; (try simp only [Act.put, List.setIfInBounds_toArray, List.set_cons_zero, List.set_cons_succ]))
            | (refine SeqT.take (v := ?_) ?_ ?_ ?_ ?_; rotate_left; decide; rfl; (intro w hS; have q0 : w.cell? ⟨wr.heap.size, 0, none⟩ = _ := hS.1 0 _ rfl; have q1 : w.cell? ⟨wr.heap.size, 1, none⟩ = _ := hS.1 1 _ rfl; have q2 : w.cell? ⟨wr.heap.size, 2, none⟩ = _ := hS.1 2 _ rfl; have s1 := run_str (n := bs.length) (c := bs.length) (l := bs) (show Rd w Ar bs from by have := hS.2.2.1.take bs.length; rwa [HT1.out] at this) rfl; have s2 := run_str (c := cB) hS.2.1 rfl; go_simp; with_reducible rfl); (try simp only [Act.put, List.setIfInBounds_toArray, List.set_cons_zero, List.set_cons_succ]))
            | (refine SeqT.call (v := ?_) (f := ?_) (args := ?_) ?_ ?_ ?_ ?_ ?_; rotate_left 3; decide; rfl; (intro w hS; have q0 : w.cell? ⟨wr.heap.size, 0, none⟩ = _ := hS.1 0 _ rfl; have q1 : w.cell? ⟨wr.heap.size, 1, none⟩ = _ := hS.1 1 _ rfl; have q2 : w.cell? ⟨wr.heap.size, 2, none⟩ = _ := hS.1 2 _ rfl; have s1 := run_str (n := bs.length) (c := bs.length) (l := bs) (show Rd w Ar bs from by have := hS.2.2.1.take bs.length; rwa [HT1.out] at this) rfl; have s2 := run_str (c := cB) hS.2.1 rfl; go_simp; (first | with_reducible rfl | (refine ⟨?_, ?_⟩ <;> with_reducible rfl))); (intro w hS; first | fail); (try simp only [Act.put, List.setIfInBounds_toArray, List.set_cons_zero, List.set_cons_succ]))
            | (refine SeqT.store (w' := ?_) ?_ ?_ ?_ ?_; rotate_left 1; rfl; (intro w hS hR; skip; go_simp; (first | with_reducible rfl | (refine ⟨?_, ?_⟩ <;> with_reducible rfl))); (intro w hS hR; skip); (try simp only [Act.put, List.setIfInBounds_toArray, List.set_cons_zero, List.set_cons_succ])))
          refine SeqT.callX (v := .slice Ar bs.length bs.length) (f := ?_) (args := ?_) ?_ ?_ ?_ ?_
          rotate_left 2
          · rfl
          · (intro w hS hR; have q0 : w.cell? ⟨wr.heap.size, 0, none⟩ = _ := hS.1 0 _ rfl; have q1 : w.cell? ⟨wr.heap.size, 1, none⟩ = _ := hS.1 1 _ rfl; have q2 : w.cell? ⟨wr.heap.size, 2, none⟩ = _ := hS.1 2 _ rfl; go_simp; (first | with_reducible rfl | (refine ⟨?_, ?_⟩ <;> with_reducible rfl)))
          · (intro w' hS hR; refine (HTE.out w' hR hS.2.2.1).mono ?_; rintro e w'' ⟨rfl, hc, hrr, hlv⟩; exact ⟨rfl, ⟨Rng.chg hS.1 hc hne, HRW.out.off HG.out hS.2.1 hc, hrr, hc.bel _ _ HG.out hS.2.2.2⟩, hlv⟩)
          (try simp only [Act.put, List.setIfInBounds_toArray, List.set_cons_zero, List.set_cons_succ])
          repeat (first
            | (refine SeqT.skip ?_ ?_ ?_; decide; rfl; (try simp only [Act.put, List.setIfInBounds_toArray, List.set_cons_zero, List.set_cons_succ]))
            | (refine SeqT.take (v := ?_) ?_ ?_ ?_ ?_; rotate_left; decide; rfl; (intro w hS; have q0 : w.cell? ⟨wr.heap.size, 0, none⟩ = _ := hS.1 0 _ rfl; have q1 : w.cell? ⟨wr.heap.size, 1, none⟩ = _ := hS.1 1 _ rfl; have q2 : w.cell? ⟨wr.heap.size, 2, none⟩ = _ := hS.1 2 _ rfl; have s1 := run_str (n := bs.length) (c := bs.length) (l := bs) (show Rd w Ar bs from by have := hS.2.2.1.take bs.length; rwa [HT1.out] at this) rfl; have s2 := run_str (c := cB) hS.2.1 rfl; go_simp; with_reducible rfl); (try simp only [Act.put, List.setIfInBounds_toArray, List.set_cons_zero, List.set_cons_succ]))
            | (refine SeqT.call (v := ?_) (f := ?_) (args := ?_) ?_ ?_ ?_ ?_ ?_; rotate_left 3; decide; rfl; (intro w hS; have q0 : w.cell? ⟨wr.heap.size, 0, none⟩ = _ := hS.1 0 _ rfl; have q1 : w.cell? ⟨wr.heap.size, 1, none⟩ = _ := hS.1 1 _ rfl; have q2 : w.cell? ⟨wr.heap.size, 2, none⟩ = _ := hS.1 2 _ rfl; have s1 := run_str (n := bs.length) (c := bs.length) (l := bs) (show Rd w Ar bs from by have := hS.2.2.1.take bs.length; rwa [HT1.out] at this) rfl; have s2 := run_str (c := cB) hS.2.1 rfl; go_simp; (first | with_reducible rfl | (refine ⟨?_, ?_⟩ <;> with_reducible rfl))); (intro w hS; first | fail); (try simp only [Act.put, List.setIfInBounds_toArray, List.set_cons_zero, List.set_cons_succ]))
            | (refine SeqT.store (w' := ?_) ?_ ?_ ?_ ?_; rotate_left 1; rfl; (intro w hS hR; skip; go_simp; (first | with_reducible rfl | (refine ⟨?_, ?_⟩ <;> with_reducible rfl))); (intro w hS hR; skip); (try simp only [Act.put, List.setIfInBounds_toArray, List.set_cons_zero, List.set_cons_succ])))
          refine SeqT.done (by decide) ?_
          rintro wv ⟨_, _, _, hbv⟩ hlv
          rw [← HR.out] at hlv
          go_wp2_with fail
          exact ⟨⟨k + 1, by omega, by go_num, hlv, hbv⟩, by simp [intOf]; omega⟩
        · have hw9' : wid = 9 := hw9
          subst hw9'
          have HE := Lib.hid (show encT ⟨9, num, bs, hs⟩ = hs from rfl)
          rw [HE.out] at HLV HLL
          have hh : hs.length = 32 := HH.out
          have ht1 : (hs ++ R).take 32 = hs := by rw [← hh]; simp
          have ht2 : (hs ++ R).drop 32 = R := by rw [← hh]; simp
          have HY := Lib.hid (fun w' (h : Live w' g (hs ++ R)) => hash_yes g (hs ++ R) w' h (by have := HLL.out; omega) (by rw [List.length_append]; omega))
          rw [ht1, ht2] at HY
          have hqn := hs_neq hs hh
          go_wp2_with (first
          | (refine wpList_load_mid rfl 43 (.tmp 72) rfl ab (ao + k * 35) rfl (thCells ⟨9, num, bs, hs⟩ B cB) _ HRG.out Try.underlying43 rfl HSZ.out ?_)
          | (refine wpList_store_loc rfl 43 (.tmp 10) (.tmp 73) rfl _ (thCells ⟨9, num, bs, hs⟩ B cB) rfl rfl (by rw [HN35.out]; rfl) HSZ.out (th_one _ _ _) ?_; intro wz hrz hlz hbz; have r0 : wz.cell? ⟨wr.heap.size, 0, none⟩ = some (.int .i64 9) := hrz 0 _ rfl; have r1 : wz.cell? ⟨wr.heap.size, 1, none⟩ = some (.int .u64 (num : Nat)) := hrz 1 _ rfl; have r2 : wz.cell? ⟨wr.heap.size, 2, none⟩ = some (.slice B bs.length cB) := hrz 2 _ rfl))
          refine wp_region_seqT (Once 1 (fun w' => w'.rangeAt wr.heap.size 0 (thCells ⟨9, num, bs, hs⟩ B cB) ∧ Below w.heap.size w w') (fun w' => Live w' g (hs ++ R)) (fun w' => Live w' g R)) (by kernel_rfl) (by kernel_rfl) (Once.start ⟨hrz, bel_on HB.out hbz.drew⟩ (HLV.out.after hbz.drew)) ?_
          clear hrz hlz hbz r0 r1 r2 ht1 ht2
          repeat (first
            | (refine SeqT.skip ?_ ?_ ?_; decide; rfl; (try simp only [Act.put, List.setIfInBounds_toArray, List.set_cons_zero, List.set_cons_succ]))
            | (refine SeqT.take (v := ?_) ?_ ?_ ?_ ?_; rotate_left; decide; rfl; (intro w hS; have q0 : w.cell? ⟨wr.heap.size, 0, none⟩ = _ := hS.1 0 _ rfl; have q1 : w.cell? ⟨wr.heap.size, 1, none⟩ = _ := hS.1 1 _ rfl; have q2 : w.cell? ⟨wr.heap.size, 2, none⟩ = _ := hS.1 2 _ rfl; go_simp; with_reducible rfl); (try simp only [Act.put, List.setIfInBounds_toArray, List.set_cons_zero, List.set_cons_succ]))
            | (refine SeqT.call (v := ?_) (f := ?_) (args := ?_) ?_ ?_ ?_ ?_ ?_; rotate_left 3; decide; rfl; (intro w hS; have q0 : w.cell? ⟨wr.heap.size, 0, none⟩ = _ := hS.1 0 _ rfl; have q1 : w.cell? ⟨wr.heap.size, 1, none⟩ = _ := hS.1 1 _ rfl; have q2 : w.cell? ⟨wr.heap.size, 2, none⟩ = _ := hS.1 2 _ rfl; go_simp; (first | with_reducible rfl | (refine ⟨?_, ?_⟩ <;> with_reducible rfl))); (intro w hS; first | fail); (try simp only [Act.put, List.setIfInBounds_toArray, List.set_cons_zero, List.set_cons_succ]))
            | (refine SeqT.store (w' := ?_) ?_ ?_ ?_ ?_; rotate_left 1; rfl; (intro w hS hR; skip; go_simp; (first | with_reducible rfl | (refine ⟨?_, ?_⟩ <;> with_reducible rfl))); (intro w hS hR; skip); (try simp only [Act.put, List.setIfInBounds_toArray, List.set_cons_zero, List.set_cons_succ])))
          refine SeqT.callX (v := .agg (byteCells hs).toArray) (f := ?_) (args := ?_) ?_ ?_ ?_ ?_
          rotate_left 2
          · rfl
          · (intro w hS hR; have q0 : w.cell? ⟨wr.heap.size, 0, none⟩ = _ := hS.1 0 _ rfl; have q1 : w.cell? ⟨wr.heap.size, 1, none⟩ = _ := hS.1 1 _ rfl; have q2 : w.cell? ⟨wr.heap.size, 2, none⟩ = _ := hS.1 2 _ rfl; go_simp; (first | with_reducible rfl | (refine ⟨?_, ?_⟩ <;> with_reducible rfl)))
          · (intro w' hS hR; refine (HY.out w' hR).mono ?_; rintro e w'' ⟨rfl, hlv, hc⟩; exact ⟨rfl, ⟨Rng.chg hS.1 hc hne, hc.bel _ _ HG.out hS.2⟩, hlv⟩)
          (try simp only [Act.put, List.setIfInBounds_toArray, List.set_cons_zero, List.set_cons_succ])
          repeat (first
            | (refine SeqT.skip ?_ ?_ ?_; decide; rfl; (try simp only [Act.put, List.setIfInBounds_toArray, List.set_cons_zero, List.set_cons_succ]))
            | (refine SeqT.take (v := ?_) ?_ ?_ ?_ ?_; rotate_left; decide; rfl; (intro w hS; have q0 : w.cell? ⟨wr.heap.size, 0, none⟩ = _ := hS.1 0 _ rfl; have q1 : w.cell? ⟨wr.heap.size, 1, none⟩ = _ := hS.1 1 _ rfl; have q2 : w.cell? ⟨wr.heap.size, 2, none⟩ = _ := hS.1 2 _ rfl; go_simp; with_reducible rfl); (try simp only [Act.put, List.setIfInBounds_toArray, List.set_cons_zero, List.set_cons_succ]))
            | (refine SeqT.call (v := ?_) (f := ?_) (args := ?_) ?_ ?_ ?_ ?_ ?_; rotate_left 3; decide; rfl; (intro w hS; have q0 : w.cell? ⟨wr.heap.size, 0, none⟩ = _ := hS.1 0 _ rfl; have q1 : w.cell? ⟨wr.heap.size, 1, none⟩ = _ := hS.1 1 _ rfl; have q2 : w.cell? ⟨wr.heap.size, 2, none⟩ = _ := hS.1 2 _ rfl; go_simp; (first | with_reducible rfl | (refine ⟨?_, ?_⟩ <;> with_reducible rfl))); (intro w hS; first | fail); (try simp only [Act.put, List.setIfInBounds_toArray, List.set_cons_zero, List.set_cons_succ]))
            | (refine SeqT.store (w' := ?_) ?_ ?_ ?_ ?_; rotate_left 1; rfl; (intro w hS hR; skip; go_simp; (first | with_reducible rfl | (refine ⟨?_, ?_⟩ <;> with_reducible rfl))); (intro w hS hR; skip); (try simp only [Act.put, List.setIfInBounds_toArray, List.set_cons_zero, List.set_cons_succ])))
          refine SeqT.long 39 (.agg (byteCells hs).toArray) (by decide) ?_ rfl rfl (fun w hS => th_load hS.1 HH.out) ?_
          rfl
          (try simp only [Act.put, List.setIfInBounds_toArray, List.set_cons_zero, List.set_cons_succ])
          repeat (first
            | (refine SeqT.skip ?_ ?_ ?_; decide; rfl; (try simp only [Act.put, List.setIfInBounds_toArray, List.set_cons_zero, List.set_cons_succ]))
            | (refine SeqT.take (v := ?_) ?_ ?_ ?_ ?_; rotate_left; decide; rfl; (intro w hS; have q0 : w.cell? ⟨wr.heap.size, 0, none⟩ = _ := hS.1 0 _ rfl; have q1 : w.cell? ⟨wr.heap.size, 1, none⟩ = _ := hS.1 1 _ rfl; have q2 : w.cell? ⟨wr.heap.size, 2, none⟩ = _ := hS.1 2 _ rfl; go_simp; with_reducible rfl); (try simp only [Act.put, List.setIfInBounds_toArray, List.set_cons_zero, List.set_cons_succ]))
            | (refine SeqT.call (v := ?_) (f := ?_) (args := ?_) ?_ ?_ ?_ ?_ ?_; rotate_left 3; decide; rfl; (intro w hS; have q0 : w.cell? ⟨wr.heap.size, 0, none⟩ = _ := hS.1 0 _ rfl; have q1 : w.cell? ⟨wr.heap.size, 1, none⟩ = _ := hS.1 1 _ rfl; have q2 : w.cell? ⟨wr.heap.size, 2, none⟩ = _ := hS.1 2 _ rfl; go_simp; (first | with_reducible rfl | (refine ⟨?_, ?_⟩ <;> with_reducible rfl))); (intro w hS; first | fail); (try simp only [Act.put, List.setIfInBounds_toArray, List.set_cons_zero, List.set_cons_succ]))
            | (refine SeqT.store (w' := ?_) ?_ ?_ ?_ ?_; rotate_left 1; rfl; (intro w hS hR; skip; go_simp; (first | with_reducible rfl | (refine ⟨?_, ?_⟩ <;> with_reducible rfl))); (intro w hS hR; skip); (try simp only [Act.put, List.setIfInBounds_toArray, List.set_cons_zero, List.set_cons_succ])))
          refine SeqT.done (by decide) ?_
          rintro wv ⟨_, hbv⟩ hlv
          rw [← HR.out] at hlv
          go_wp2_with fail
          exact ⟨⟨k + 1, by omega, by go_num, hlv, hbv⟩, by simp [intOf]; omega⟩
        · have hwq' : wid = (q : Int) := hwq
          subst hwq'
          have hq0 : ((q : Int) == 0) = false := by simp; omega
          have hq9 : ((q : Int) == 9) = false := by simp; omega
          have hp3 : num < 2 ^ (8 * q) := hp2
          have HE := Lib.hid (show encT ⟨(q : Int), num, bs, hs⟩ = digs q num from by unfold encT; rw [if_neg (show ¬ ((q : Int) = 0) by omega), if_neg (show ¬ ((q : Int) = 9) by omega)]; rfl)
          rw [HE.out] at HLV HLL
          have ht1 : (digs q num ++ R).take q = digs q num := by rw [List.take_append_of_le_length (by rw [digs_length]; omega), List.take_of_length_le (by rw [digs_length]; omega)]
          have ht2 : (digs q num ++ R).drop q = R := by rw [List.drop_append_of_le_length (by rw [digs_length]; omega), List.drop_of_length_le (by rw [digs_length]; omega)]; rfl
          have HY := Lib.hid (fun w' (h : Live w' g (digs q num ++ R)) => num_yes g (digs q num ++ R) q w' h (by have := HLL.out; omega) hq (by rw [List.length_append, digs_length]; omega))
          rw [ht1, ht2, valB_digs q num hp3] at HY
          clear hp2 hp3 hq
          go_wp2_with (first
          | (refine wpList_load_mid rfl 43 (.tmp 72) rfl ab (ao + k * 35) rfl (thCells ⟨(q : Int), num, bs, hs⟩ B cB) _ HRG.out Try.underlying43 rfl HSZ.out ?_)
          | (refine wpList_store_loc rfl 43 (.tmp 10) (.tmp 73) rfl _ (thCells ⟨(q : Int), num, bs, hs⟩ B cB) rfl rfl (by rw [HN35.out]; rfl) HSZ.out (th_one _ _ _) ?_; intro wz hrz hlz hbz; have r0 : wz.cell? ⟨wr.heap.size, 0, none⟩ = some (.int .i64 (q : Int)) := hrz 0 _ rfl; have r1 : wz.cell? ⟨wr.heap.size, 1, none⟩ = some (.int .u64 (num : Nat)) := hrz 1 _ rfl; have r2 : wz.cell? ⟨wr.heap.size, 2, none⟩ = some (.slice B bs.length cB) := hrz 2 _ rfl))
          refine wp_region_seqT (Once 3 (fun w' => w'.rangeAt wr.heap.size 0 (thCells ⟨(q : Int), num, bs, hs⟩ B cB) ∧ Below w.heap.size w w') (fun w' => Live w' g (digs q num ++ R)) (fun w' => Live w' g R)) (by kernel_rfl) (by kernel_rfl) (Once.start ⟨hrz, bel_on HB.out hbz.drew⟩ (HLV.out.after hbz.drew)) ?_
          clear hrz hlz hbz r0 r1 r2 ht1 ht2
          repeat (first
            | (refine SeqT.skip ?_ ?_ ?_; decide; rfl; (try simp only [Act.put, List.setIfInBounds_toArray, List.set_cons_zero, List.set_cons_succ]))
            | (refine SeqT.take (v := ?_) ?_ ?_ ?_ ?_; rotate_left; decide; rfl; (intro w hS; have q0 : w.cell? ⟨wr.heap.size, 0, none⟩ = _ := hS.1 0 _ rfl; have q1 : w.cell? ⟨wr.heap.size, 1, none⟩ = _ := hS.1 1 _ rfl; have q2 : w.cell? ⟨wr.heap.size, 2, none⟩ = _ := hS.1 2 _ rfl; go_simp; with_reducible rfl); (try simp only [Act.put, List.setIfInBounds_toArray, List.set_cons_zero, List.set_cons_succ]))
            | (refine SeqT.call (v := ?_) (f := ?_) (args := ?_) ?_ ?_ ?_ ?_ ?_; rotate_left 3; decide; rfl; (intro w hS; have q0 : w.cell? ⟨wr.heap.size, 0, none⟩ = _ := hS.1 0 _ rfl; have q1 : w.cell? ⟨wr.heap.size, 1, none⟩ = _ := hS.1 1 _ rfl; have q2 : w.cell? ⟨wr.heap.size, 2, none⟩ = _ := hS.1 2 _ rfl; go_simp; (first | with_reducible rfl | (refine ⟨?_, ?_⟩ <;> with_reducible rfl))); (intro w hS; first | fail); (try simp only [Act.put, List.setIfInBounds_toArray, List.set_cons_zero, List.set_cons_succ]))
            | (refine SeqT.store (w' := ?_) ?_ ?_ ?_ ?_; rotate_left 1; rfl; (intro w hS hR; skip; go_simp; (first | with_reducible rfl | (refine ⟨?_, ?_⟩ <;> with_reducible rfl))); (intro w hS hR; skip); (try simp only [Act.put, List.setIfInBounds_toArray, List.set_cons_zero, List.set_cons_succ])))
          refine SeqT.callX (v := .int .u64 (num : Nat)) (f := ?_) (args := ?_) ?_ ?_ ?_ ?_
          rotate_left 2
          · rfl
          · (intro w hS hR; have q0 : w.cell? ⟨wr.heap.size, 0, none⟩ = _ := hS.1 0 _ rfl; have q1 : w.cell? ⟨wr.heap.size, 1, none⟩ = _ := hS.1 1 _ rfl; have q2 : w.cell? ⟨wr.heap.size, 2, none⟩ = _ := hS.1 2 _ rfl; go_simp; (first | with_reducible rfl | (refine ⟨?_, ?_⟩ <;> with_reducible rfl)))
          · (intro w' hS hR; refine (HY.out w' hR).mono ?_; rintro e w'' ⟨rfl, hlv, hc⟩; exact ⟨rfl, ⟨Rng.chg hS.1 hc hne, hc.bel _ _ HG.out hS.2⟩, hlv⟩)
          (try simp only [Act.put, List.setIfInBounds_toArray, List.set_cons_zero, List.set_cons_succ])
          repeat (first
            | (refine SeqT.skip ?_ ?_ ?_; decide; rfl; (try simp only [Act.put, List.setIfInBounds_toArray, List.set_cons_zero, List.set_cons_succ]))
            | (refine SeqT.take (v := ?_) ?_ ?_ ?_ ?_; rotate_left; decide; rfl; (intro w hS; have q0 : w.cell? ⟨wr.heap.size, 0, none⟩ = _ := hS.1 0 _ rfl; have q1 : w.cell? ⟨wr.heap.size, 1, none⟩ = _ := hS.1 1 _ rfl; have q2 : w.cell? ⟨wr.heap.size, 2, none⟩ = _ := hS.1 2 _ rfl; go_simp; with_reducible rfl); (try simp only [Act.put, List.setIfInBounds_toArray, List.set_cons_zero, List.set_cons_succ]))
            | (refine SeqT.call (v := ?_) (f := ?_) (args := ?_) ?_ ?_ ?_ ?_ ?_; rotate_left 3; decide; rfl; (intro w hS; have q0 : w.cell? ⟨wr.heap.size, 0, none⟩ = _ := hS.1 0 _ rfl; have q1 : w.cell? ⟨wr.heap.size, 1, none⟩ = _ := hS.1 1 _ rfl; have q2 : w.cell? ⟨wr.heap.size, 2, none⟩ = _ := hS.1 2 _ rfl; go_simp; (first | with_reducible rfl | (refine ⟨?_, ?_⟩ <;> with_reducible rfl))); (intro w hS; first | fail); (try simp only [Act.put, List.setIfInBounds_toArray, List.set_cons_zero, List.set_cons_succ]))
            | (refine SeqT.store (w' := ?_) ?_ ?_ ?_ ?_; rotate_left 1; rfl; (intro w hS hR; skip; go_simp; (first | with_reducible rfl | (refine ⟨?_, ?_⟩ <;> with_reducible rfl))); (intro w hS hR; skip); (try simp only [Act.put, List.setIfInBounds_toArray, List.set_cons_zero, List.set_cons_succ])))
          refine SeqT.done (by decide) ?_
          rintro wv ⟨_, hbv⟩ hlv
          rw [← HR.out] at hlv
          go_wp2_with fail
          exact ⟨⟨k + 1, by omega, by go_num, hlv, hbv⟩, by simp [intOf]; omega⟩
      · have hkn : ¬ (k : Int) < n := by omega
        have hk0 : decL xs k = [] := by
          have : k = xs.length := by rw [HXL.out]; omega
          rw [this]
          exact decL_end xs
        rw [hk0] at hlive
        have HLV := Lib.hid hlive
        have HBF := Lib.hid hbel
        have E1 := Lib.hid (end_live g [] wr hlive (by decide))
        have E2 := Lib.hid (torn_live g [] wr hlive (by decide))
        have E3 := Lib.hid (left_live g [] wr hlive (by decide))
        clear hlive hbel hk0
        go_wp2_with fail
        refine E1.out.mono ?_
        rintro e w' ⟨rfl, rfl⟩
        go_wp2_with fail
        refine E2.out.mono ?_
        rintro e w' ⟨rfl, rfl⟩
        go_wp2_with fail
        refine E3.out.mono ?_
        rintro e w' ⟨rfl, rfl⟩
        go_wp2_with fail
        refine (AW.out _).mono ?_
        rintro e w3 ⟨rfl, hb3⟩
        go_wp2_with fail
        go_ret
        exact ⟨rfl, bel_on HBF.out hb3⟩

theorem law_BytesBack {H : Type} {enc : TypeId × Value → H} (W : World) (base : Nat) (v0 : Value) (d0 : DataW H) (p0 : List MemPlace)
    (h0 : DataW.Trod enc Try.prog W 0 (fun _ => true) true 41 v0 d0 p0) (o0 : Value.okWide Try.prog W .any base 41 v0) :
    Calls Try.prog 5 #[v0] W fun e w' => e = .returned (.bool true) ∧ Below W.heap.size W w' := by
  obtain ⟨A, c, xs, rfl, hxs, _, _⟩ := in_things h0 o0
  by_cases hn : xs.length ≤ 30
  · exact bback_walk A xs.length c xs W hn rfl hxs
  · exact bback_big A xs.length c W hn
end Go.Proofs.Ytjnlnkfpdlfkcaa
