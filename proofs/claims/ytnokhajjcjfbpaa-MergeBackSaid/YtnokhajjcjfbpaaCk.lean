/- The document's Check. -/
import Derived.Test.YtnokhajjcjfbpaaRx
import Derived.Test.YtnokhajjcjfbpaaNd
import Derived.Test.YtnokhajjcjfbpaaPosT
import Derived.Test.YtnokhajjcjfbpaaSeq
namespace Go.Proofs.Ytnokhajjcjfbpaa
open Go.RowKit Go.Shelf

/-- Of the forest's: above is on the way. -/
theorem below_way {n a b : Nat} (ha : InF n a) (hb : InF n b) : Below_ a b (rowsOf n) ↔ b ∈ wayOf n a ∧ b ≠ a := by
  have hta := tree_le ha
  have htb := tree_le hb
  unfold treeOf at hta htb
  constructor
  · rintro ⟨h1, h2⟩
    have hj : rowOf a (rowsOf n) + (rowOf b (rowsOf n) - rowOf a (rowsOf n)) = rowOf b (rowsOf n) := by omega
    obtain ⟨a1, a2, a3⟩ := anc_spec ha.2.1 (rowOf b (rowsOf n) - rowOf a (rowsOf n)) (by omega)
    have e : anc a (rowsOf n) (rowOf b (rowsOf n) - rowOf a (rowsOf n)) = b := pos_ext a1 hb.2.1 (by rw [a2, hj]) (by rw [a3, h2])
    refine ⟨(mem_way ha).2 ⟨_, ?_, e.symm⟩, fun e' => by subst e'; omega⟩
    have hw := topK_at hb
    have hw2 : WayAt n a (rowOf b (rowsOf n) - rowOf a (rowsOf n) + topK n b) := by
      have e2 : offOf a (rowsOf n) / 2 ^ (rowOf b (rowsOf n) - rowOf a (rowsOf n) + topK n b) = offOf b (rowsOf n) / 2 ^ topK n b := by rw [Nat.pow_add, ← Nat.div_div_eq_div_mul, h2]
      unfold WayAt at hw ⊢
      rw [← Nat.add_assoc, hj, e2]
      exact hw
    rw [topK_eq ha.1 hw2]
    omega
  · rintro ⟨h1, h2⟩
    obtain ⟨j, hj, rfl⟩ := (mem_way ha).1 h1
    obtain ⟨a1, a2, a3⟩ := anc_spec ha.2.1 j (by omega)
    have hj0 : j ≠ 0 := fun e => h2 (by subst e; rfl)
    refine ⟨by omega, ?_⟩
    rw [a2, a3]
    congr 2
    omega
theorem withinB_nat' {a b R : Nat} (hR : R ≤ 63) (ha : a + 1 < 2 ^ (R + 1)) (hb : b + 1 < 2 ^ (R + 1)) : WithinB a b R = decide (Below_ a b R) := by
  unfold WithinB
  have e : ((R : Nat) : Int).toNat = R := Int.toNat_natCast R
  have pa : ∀ a : Nat, a + 1 < 2 ^ (R + 1) → PosOk a R := fun a h => ⟨by omega, by omega, by rw [e]; exact h⟩
  rw [e]
  simp [pa a ha, pa b hb]
/-- What the check finds wrong with the i-th. -/
def BadAt (n : Nat) (ts : List Nat) (i : Nat) : Prop := ∃ t, ts[i]? = some t ∧ (¬ InF n t ∨ ∃ k u, ts[k]? = some u ∧ ((k ≠ i ∧ u = t) ∨ WithinB t u (rowsOf n : Nat) = true))
theorem bad_not {n : Nat} {ts : List Nat} {i : Nat} (h : BadAt n ts i) : ¬ Valid n ts := by
  rintro ⟨v1, v2, v3, v4⟩
  obtain ⟨t, ht, h⟩ := h
  have hm := List.mem_of_getElem? ht
  rcases h with h | ⟨k, u, hk, h⟩
  · exact h (v2 t hm)
  · have hu := List.mem_of_getElem? hk
    rcases h with ⟨h1, rfl⟩ | h
    · obtain ⟨i1, i2⟩ := List.getElem?_eq_some_iff.1 ht
      obtain ⟨k1, k2⟩ := List.getElem?_eq_some_iff.1 hk
      have pw := List.pairwise_iff_getElem.1 v3
      rcases Nat.lt_trichotomy k i with hl | hl | hl
      · exact pw k i k1 i1 hl (k2.trans i2.symm)
      · exact h1 hl
      · exact pw i k i1 k1 hl (i2.trans k2.symm)
    · have hR := rows_le (n := n) (by omega)
      rw [withinB_nat' hR (v2 t hm).2.1 (v2 u hu).2.1, decide_eq_true_eq] at h
      obtain ⟨h1, h2⟩ := (below_way (v2 t hm) (v2 u hu)).1 h
      exact v4 t hm u h1 h2 hu
theorem valid_of {n : Nat} {ts : List Nat} (hn : n ≤ 9223372036854775807) (h : ∀ i, i < ts.length → ¬ BadAt n ts i) : Valid n ts := by
  have hin : ∀ t ∈ ts, InF n t := fun t ht => by
    obtain ⟨i, hi⟩ := List.mem_iff_getElem?.1 ht
    have h1 := h i (List.getElem?_eq_some_iff.1 hi).1
    exact Classical.byContradiction fun hc => h1 ⟨t, hi, .inl hc⟩
  refine ⟨hn, hin, List.pairwise_iff_getElem.2 fun i k hi' hk hik e => ?_, fun t ht u hu hne hum => ?_⟩
  · have hi : ts[i]? = some (ts[i]'(by omega)) := List.getElem?_eq_getElem (by omega)
    exact h i (by omega) ⟨_, hi, .inr ⟨k, _, (List.getElem?_eq_getElem hk).trans (by rw [← e]), .inl ⟨by omega, rfl⟩⟩⟩
  · obtain ⟨i, hi⟩ := List.mem_iff_getElem?.1 ht
    obtain ⟨k, hk⟩ := List.mem_iff_getElem?.1 hum
    refine h i (List.getElem?_eq_some_iff.1 hi).1 ⟨t, hi, .inr ⟨k, u, hk, .inr ?_⟩⟩
    rw [withinB_nat' (rows_le (n := n) (by omega)) (hin t ht).2.1 (hin u hum).2.1, decide_eq_true_eq]
    exact (below_way (hin t ht) (hin u hum)).2 ⟨hu, hne⟩

theorem chk_next {n i k t u : Nat} {ts : List Nat} (hno : ∀ k', k' < k → ∀ u, ts[k']? = some u → ¬ ((k' ≠ i ∧ u = t) ∨ WithinB t u (rowsOf n : Nat) = true)) (hy : ts[k]? = some u) (h : k = i ∨ u ≠ t) (hw : WithinB t u (rowsOf n : Nat) = false) :
    ∀ k', k' < k + 1 → ∀ u, ts[k']? = some u → ¬ ((k' ≠ i ∧ u = t) ∨ WithinB t u (rowsOf n : Nat) = true) := fun k' hk' u' hu' => by
  rcases Nat.lt_or_ge k' k with h1 | h1
  · exact hno k' h1 u' hu'
  · obtain rfl : k' = k := by omega
    rw [hy] at hu'
    cases hu'
    rw [hw]
    rintro (⟨h2, h3⟩ | h2)
    · rcases h with h | h
      · exact h2 h
      · exact h h3
    · cases h2
theorem to_n {f : FuncId} {args : Array Value} {v : Value} {w : World} (h : Calls Try.prog f args w (QRet v w)) : Calls Try.prog f args w (NRet v w) := h.mono fun e w' h => by
  obtain ⟨rfl, d, rfl⟩ := h
  exact ⟨rfl, bel_drewN (Below.refl _ _) d⟩
set_option maxHeartbeats 4000000 in
theorem refCheck_any (n : Nat) (ts : List Nat) (A : Option Addr) (c : Nat) (w : World) (hlen : ts.length ≤ 1000) (hu : ∀ t ∈ ts, (t : Int) ≤ 18446744073709551615) (hs : SliceG w A ts) :
    Calls Try.prog 42 #[.int .u64 n, .slice A ts.length c] w (fun e w' => ∃ v : Int, ((Valid n ts ∧ v = 0) ∨ (¬ Valid n ts ∧ v = 2)) ∧ NRet (.int .i64 v) w e w') := by
  by_cases hn : n ≤ 9223372036854775807
  · go_enter Try.func42, Try.ntmps42
    go_wp2_with (go_at_call 46; refine (refRows_yes n _ (by omega)).mono ?_; rintro e w' ⟨rfl, rfl⟩)
    go_loopw [7, 8] (fun v _ wr => ∃ i : Nat, i ≤ ts.length ∧ v = .int .i64 i ∧ (∀ j, j < i → ¬ BadAt n ts j) ∧ Below w.heap.size w wr) (fun v _ _ => ts.length - (intOf v).toNat)
    case atStart => exact ⟨0, by omega, rfl, fun j hj => by omega, Below.refl _ _⟩
    case round =>
      obtain ⟨i, hi, rfl, hok, hbel⟩ := hrel
      by_cases hlt : i < ts.length
      · obtain ⟨g, rfl, hg, hc0⟩ := hs i hlt
        have hsr := SliceG.below hs hbel (fun ad e => by cases e; exact hg)
        obtain ⟨_, e, hgr, hc⟩ := hsr i hlt
        cases e
        have hx : ts[i]? = some ts[i] := List.getElem?_eq_getElem hlt
        rw [hx] at hc
        simp only [Option.map_some] at hc
        have htu := hu _ (List.mem_of_getElem? hx)
        have HX := Lib.hid hx
        have HS := Lib.hid hsr
        have HOK := Lib.hid hok
        clear hx hc0 hok hsr
        generalize ts[i] = t at *
        have IS := Lib.hid fun w => refIs_any n t w htu
        have i1 : (i : Int) < ts.length := by omega
        by_cases hin : InF n t
        · rw [decide_eq_true hin] at IS
          have HB0 := Lib.hid hbel
          clear hbel
          go_wp2_with (go_at_call 55; refine (IS.out _).mono ?_; rintro e w1 ⟨rfl, hb1⟩; have HB1 := Lib.hid hb1; clear hb1)
          have hb1 := HB0.out.trans (HB1.out.mono HB0.out.size)
          clear hc
          go_loopw [8] (fun v wr => ∃ k : Nat, k ≤ ts.length ∧ v = .int .i64 k ∧ (∀ k', k' < k → ∀ u, ts[k']? = some u → ¬ ((k' ≠ i ∧ u = t) ∨ WithinB t u (rowsOf n : Nat) = true)) ∧ Below w.heap.size w wr) (fun v _ => ts.length - (intOf v).toNat)
          case atStart => exact ⟨0, by omega, rfl, fun j hj => by omega, hb1⟩
          case round =>
            obtain ⟨k, hk, rfl, hno, hbel⟩ := hrel
            by_cases hkl : k < ts.length
            · have hs2 := SliceG.below hs hbel (fun ad e => by cases e; exact hg)
              obtain ⟨_, e, hg2, hck⟩ := hs2 k hkl
              cases e
              obtain ⟨_, e, _, hci⟩ := hs2 i hlt
              cases e
              have hy : ts[k]? = some ts[k] := List.getElem?_eq_getElem hkl
              rw [hy] at hck
              rw [HX.out] at hci
              simp only [Option.map_some] at hck hci
              have hyu := hu _ (List.mem_of_getElem? hy)
              have HY := Lib.hid hy
              have HNO := Lib.hid hno
              have HBE := Lib.hid hbel
              have k1 : (k : Int) < ts.length := by omega
              clear hy hno hs2 hbel
              generalize ts[k] = u at *
              have KR := Lib.hid fun w => to_n (refRows12 n w hn)
              have KW := Lib.hid fun w => to_n (refWithin_any t u (rowsOf n : Nat) w htu hyu)
              obtain ⟨b, hb⟩ : ∃ b, WithinB t u (rowsOf n : Nat) = b := ⟨_, rfl⟩
              rw [hb] at KW
              have HW := Lib.hid hb
              clear hb
              by_cases hki : k = i
              · have hki2 : ((k : Int) != i) = false := by subst hki; simp
                have HKI := Lib.hid hki
                clear hki
                go_wp2_with fail
                cases b
                · have NX := Lib.hid (chk_next HNO.out HY.out (by exact .inl HKI.out) HW.out)
                  refine wp_region_seq (S := fun w' => w'.cell? (Addr.add g k) = some (.int .u64 u) ∧ w'.cell? (Addr.add g i) = some (.int .u64 t) ∧ g.block < w'.heap.size ∧ Below w.heap.size w w') (by kernel_rfl) (by kernel_rfl) ⟨hck, hci, hg2, HBE.out.drew⟩ ?_
                  have HST := Lib.hid (show ∀ w1' w2' : World, (w1'.cell? (Addr.add g k) = some (.int .u64 u) ∧ w1'.cell? (Addr.add g i) = some (.int .u64 t) ∧ g.block < w1'.heap.size ∧ Below w.heap.size w w1') → Below w1'.heap.size w1' w2' → (w2'.cell? (Addr.add g k) = some (.int .u64 u) ∧ w2'.cell? (Addr.add g i) = some (.int .u64 t) ∧ g.block < w2'.heap.size ∧ Below w.heap.size w w2') from fun _ _ h hb => ⟨(hb.cell (p := (Addr.add g k)) (add_block g k ▸ h.2.2.1)).trans h.1, (hb.cell (p := (Addr.add g i)) (add_block g i ▸ h.2.2.1)).trans h.2.1, by have := hb.size; omega, h.2.2.2.trans (hb.mono h.2.2.2.size)⟩)
                  clear hck hci
                  repeat (first
                    | (refine SeqS.skip ?_ ?_; rfl; (try simp only [Act.put, List.setIfInBounds_toArray, List.set_cons_zero, List.set_cons_succ]))
                    | (refine SeqS.take (v := ?_) ?_ ?_ ?_; rotate_left; rfl; (intro w hS; have hc1 := hS.1; have hc2 := hS.2.1; go_simp; with_reducible rfl); (try simp only [Act.put, List.setIfInBounds_toArray, List.set_cons_zero, List.set_cons_succ]))
                    | (refine SeqS.call (v := ?_) (f := ?_) (args := ?_) ?_ ?_ ?_ ?_; rotate_left 3; rfl; (intro w hS; have hc1 := hS.1; have hc2 := hS.2.1; go_simp; (first | with_reducible rfl | (refine ⟨?_, ?_⟩ <;> with_reducible rfl))); (intro w hS; first | ((with_reducible refine (KR.out _).mono ?_); rintro e w' ⟨rfl, hb⟩; refine ⟨?_, HST.out _ _ hS hb⟩; with_reducible rfl) | ((with_reducible refine (KW.out _).mono ?_); rintro e w' ⟨rfl, hb⟩; refine ⟨?_, HST.out _ _ hS hb⟩; with_reducible rfl)); (try simp only [Act.put, List.setIfInBounds_toArray, List.set_cons_zero, List.set_cons_succ])))
                  refine SeqS.done ?_
                  rintro wz ⟨_, _, _, hbz⟩
                  go_wp2_with fail
                  exact ⟨⟨k + 1, by omega, by go_num, NX.out, hbz⟩, by simp [intOf]; omega⟩
                · have NV := Lib.hid (bad_not ⟨t, HX.out, .inr ⟨k, u, HY.out, .inr HW.out⟩⟩ : ¬ Valid n ts)
                  refine wp_region_seq (S := fun w' => w'.cell? (Addr.add g k) = some (.int .u64 u) ∧ w'.cell? (Addr.add g i) = some (.int .u64 t) ∧ g.block < w'.heap.size ∧ Below w.heap.size w w') (by kernel_rfl) (by kernel_rfl) ⟨hck, hci, hg2, HBE.out.drew⟩ ?_
                  have HST := Lib.hid (show ∀ w1' w2' : World, (w1'.cell? (Addr.add g k) = some (.int .u64 u) ∧ w1'.cell? (Addr.add g i) = some (.int .u64 t) ∧ g.block < w1'.heap.size ∧ Below w.heap.size w w1') → Below w1'.heap.size w1' w2' → (w2'.cell? (Addr.add g k) = some (.int .u64 u) ∧ w2'.cell? (Addr.add g i) = some (.int .u64 t) ∧ g.block < w2'.heap.size ∧ Below w.heap.size w w2') from fun _ _ h hb => ⟨(hb.cell (p := (Addr.add g k)) (add_block g k ▸ h.2.2.1)).trans h.1, (hb.cell (p := (Addr.add g i)) (add_block g i ▸ h.2.2.1)).trans h.2.1, by have := hb.size; omega, h.2.2.2.trans (hb.mono h.2.2.2.size)⟩)
                  clear hck hci
                  repeat (first
                    | (refine SeqS.skip ?_ ?_; rfl; (try simp only [Act.put, List.setIfInBounds_toArray, List.set_cons_zero, List.set_cons_succ]))
                    | (refine SeqS.take (v := ?_) ?_ ?_ ?_; rotate_left; rfl; (intro w hS; have hc1 := hS.1; have hc2 := hS.2.1; go_simp; with_reducible rfl); (try simp only [Act.put, List.setIfInBounds_toArray, List.set_cons_zero, List.set_cons_succ]))
                    | (refine SeqS.call (v := ?_) (f := ?_) (args := ?_) ?_ ?_ ?_ ?_; rotate_left 3; rfl; (intro w hS; have hc1 := hS.1; have hc2 := hS.2.1; go_simp; (first | with_reducible rfl | (refine ⟨?_, ?_⟩ <;> with_reducible rfl))); (intro w hS; first | ((with_reducible refine (KR.out _).mono ?_); rintro e w' ⟨rfl, hb⟩; refine ⟨?_, HST.out _ _ hS hb⟩; with_reducible rfl) | ((with_reducible refine (KW.out _).mono ?_); rintro e w' ⟨rfl, hb⟩; refine ⟨?_, HST.out _ _ hS hb⟩; with_reducible rfl)); (try simp only [Act.put, List.setIfInBounds_toArray, List.set_cons_zero, List.set_cons_succ])))
                  refine SeqS.done ?_
                  rintro wz ⟨_, _, _, hbz⟩
                  go_wp2_with fail
                  go_ret
                  exact ⟨2, .inr ⟨NV.out, rfl⟩, rfl, hbz⟩
              · have hki2 : ((k : Int) != i) = true := by rw [bne_iff_ne]; omega
                have HKI := Lib.hid hki
                clear hki
                go_wp2_with fail
                by_cases hut : u = t
                · have hut2 : ((u : Int) == t) = true := by rw [beq_iff_eq]; omega
                  have NV := Lib.hid (bad_not ⟨t, HX.out, .inr ⟨k, u, HY.out, .inl ⟨HKI.out, hut⟩⟩⟩ : ¬ Valid n ts)
                  clear hut
                  refine wp_region_seq (S := fun w' => w'.cell? (Addr.add g k) = some (.int .u64 u) ∧ w'.cell? (Addr.add g i) = some (.int .u64 t) ∧ g.block < w'.heap.size ∧ Below w.heap.size w w') (by kernel_rfl) (by kernel_rfl) ⟨hck, hci, hg2, HBE.out.drew⟩ ?_
                  have HST := Lib.hid (show ∀ w1' w2' : World, (w1'.cell? (Addr.add g k) = some (.int .u64 u) ∧ w1'.cell? (Addr.add g i) = some (.int .u64 t) ∧ g.block < w1'.heap.size ∧ Below w.heap.size w w1') → Below w1'.heap.size w1' w2' → (w2'.cell? (Addr.add g k) = some (.int .u64 u) ∧ w2'.cell? (Addr.add g i) = some (.int .u64 t) ∧ g.block < w2'.heap.size ∧ Below w.heap.size w w2') from fun _ _ h hb => ⟨(hb.cell (p := (Addr.add g k)) (add_block g k ▸ h.2.2.1)).trans h.1, (hb.cell (p := (Addr.add g i)) (add_block g i ▸ h.2.2.1)).trans h.2.1, by have := hb.size; omega, h.2.2.2.trans (hb.mono h.2.2.2.size)⟩)
                  clear hck hci
                  repeat (first
                    | (refine SeqS.skip ?_ ?_; rfl; (try simp only [Act.put, List.setIfInBounds_toArray, List.set_cons_zero, List.set_cons_succ]))
                    | (refine SeqS.take (v := ?_) ?_ ?_ ?_; rotate_left; rfl; (intro w hS; have hc1 := hS.1; have hc2 := hS.2.1; go_simp; with_reducible rfl); (try simp only [Act.put, List.setIfInBounds_toArray, List.set_cons_zero, List.set_cons_succ]))
                    | (refine SeqS.call (v := ?_) (f := ?_) (args := ?_) ?_ ?_ ?_ ?_; rotate_left 3; rfl; (intro w hS; have hc1 := hS.1; have hc2 := hS.2.1; go_simp; (first | with_reducible rfl | (refine ⟨?_, ?_⟩ <;> with_reducible rfl))); (intro w hS; first | ((with_reducible refine (KR.out _).mono ?_); rintro e w' ⟨rfl, hb⟩; refine ⟨?_, HST.out _ _ hS hb⟩; with_reducible rfl) | ((with_reducible refine (KW.out _).mono ?_); rintro e w' ⟨rfl, hb⟩; refine ⟨?_, HST.out _ _ hS hb⟩; with_reducible rfl)); (try simp only [Act.put, List.setIfInBounds_toArray, List.set_cons_zero, List.set_cons_succ])))
                  refine SeqS.done ?_
                  rintro wz ⟨_, _, _, hbz⟩
                  go_wp2_with fail
                  go_ret
                  exact ⟨2, .inr ⟨NV.out, rfl⟩, rfl, hbz⟩
                · have hut2 : ((u : Int) == t) = false := by rw [beq_eq_false_iff_ne]; omega
                  have HUT := Lib.hid hut
                  clear hut
                  cases b
                  · have NX := Lib.hid (chk_next HNO.out HY.out (by exact .inr HUT.out) HW.out)
                    refine wp_region_seq (S := fun w' => w'.cell? (Addr.add g k) = some (.int .u64 u) ∧ w'.cell? (Addr.add g i) = some (.int .u64 t) ∧ g.block < w'.heap.size ∧ Below w.heap.size w w') (by kernel_rfl) (by kernel_rfl) ⟨hck, hci, hg2, HBE.out.drew⟩ ?_
                    have HST := Lib.hid (show ∀ w1' w2' : World, (w1'.cell? (Addr.add g k) = some (.int .u64 u) ∧ w1'.cell? (Addr.add g i) = some (.int .u64 t) ∧ g.block < w1'.heap.size ∧ Below w.heap.size w w1') → Below w1'.heap.size w1' w2' → (w2'.cell? (Addr.add g k) = some (.int .u64 u) ∧ w2'.cell? (Addr.add g i) = some (.int .u64 t) ∧ g.block < w2'.heap.size ∧ Below w.heap.size w w2') from fun _ _ h hb => ⟨(hb.cell (p := (Addr.add g k)) (add_block g k ▸ h.2.2.1)).trans h.1, (hb.cell (p := (Addr.add g i)) (add_block g i ▸ h.2.2.1)).trans h.2.1, by have := hb.size; omega, h.2.2.2.trans (hb.mono h.2.2.2.size)⟩)
                    clear hck hci
                    repeat (first
                      | (refine SeqS.skip ?_ ?_; rfl; (try simp only [Act.put, List.setIfInBounds_toArray, List.set_cons_zero, List.set_cons_succ]))
                      | (refine SeqS.take (v := ?_) ?_ ?_ ?_; rotate_left; rfl; (intro w hS; have hc1 := hS.1; have hc2 := hS.2.1; go_simp; with_reducible rfl); (try simp only [Act.put, List.setIfInBounds_toArray, List.set_cons_zero, List.set_cons_succ]))
                      | (refine SeqS.call (v := ?_) (f := ?_) (args := ?_) ?_ ?_ ?_ ?_; rotate_left 3; rfl; (intro w hS; have hc1 := hS.1; have hc2 := hS.2.1; go_simp; (first | with_reducible rfl | (refine ⟨?_, ?_⟩ <;> with_reducible rfl))); (intro w hS; first | ((with_reducible refine (KR.out _).mono ?_); rintro e w' ⟨rfl, hb⟩; refine ⟨?_, HST.out _ _ hS hb⟩; with_reducible rfl) | ((with_reducible refine (KW.out _).mono ?_); rintro e w' ⟨rfl, hb⟩; refine ⟨?_, HST.out _ _ hS hb⟩; with_reducible rfl)); (try simp only [Act.put, List.setIfInBounds_toArray, List.set_cons_zero, List.set_cons_succ])))
                    refine SeqS.done ?_
                    rintro wz ⟨_, _, _, hbz⟩
                    go_wp2_with fail
                    exact ⟨⟨k + 1, by omega, by go_num, NX.out, hbz⟩, by simp [intOf]; omega⟩
                  · have NV := Lib.hid (bad_not ⟨t, HX.out, .inr ⟨k, u, HY.out, .inr HW.out⟩⟩ : ¬ Valid n ts)
                    refine wp_region_seq (S := fun w' => w'.cell? (Addr.add g k) = some (.int .u64 u) ∧ w'.cell? (Addr.add g i) = some (.int .u64 t) ∧ g.block < w'.heap.size ∧ Below w.heap.size w w') (by kernel_rfl) (by kernel_rfl) ⟨hck, hci, hg2, HBE.out.drew⟩ ?_
                    have HST := Lib.hid (show ∀ w1' w2' : World, (w1'.cell? (Addr.add g k) = some (.int .u64 u) ∧ w1'.cell? (Addr.add g i) = some (.int .u64 t) ∧ g.block < w1'.heap.size ∧ Below w.heap.size w w1') → Below w1'.heap.size w1' w2' → (w2'.cell? (Addr.add g k) = some (.int .u64 u) ∧ w2'.cell? (Addr.add g i) = some (.int .u64 t) ∧ g.block < w2'.heap.size ∧ Below w.heap.size w w2') from fun _ _ h hb => ⟨(hb.cell (p := (Addr.add g k)) (add_block g k ▸ h.2.2.1)).trans h.1, (hb.cell (p := (Addr.add g i)) (add_block g i ▸ h.2.2.1)).trans h.2.1, by have := hb.size; omega, h.2.2.2.trans (hb.mono h.2.2.2.size)⟩)
                    clear hck hci
                    repeat (first
                      | (refine SeqS.skip ?_ ?_; rfl; (try simp only [Act.put, List.setIfInBounds_toArray, List.set_cons_zero, List.set_cons_succ]))
                      | (refine SeqS.take (v := ?_) ?_ ?_ ?_; rotate_left; rfl; (intro w hS; have hc1 := hS.1; have hc2 := hS.2.1; go_simp; with_reducible rfl); (try simp only [Act.put, List.setIfInBounds_toArray, List.set_cons_zero, List.set_cons_succ]))
                      | (refine SeqS.call (v := ?_) (f := ?_) (args := ?_) ?_ ?_ ?_ ?_; rotate_left 3; rfl; (intro w hS; have hc1 := hS.1; have hc2 := hS.2.1; go_simp; (first | with_reducible rfl | (refine ⟨?_, ?_⟩ <;> with_reducible rfl))); (intro w hS; first | ((with_reducible refine (KR.out _).mono ?_); rintro e w' ⟨rfl, hb⟩; refine ⟨?_, HST.out _ _ hS hb⟩; with_reducible rfl) | ((with_reducible refine (KW.out _).mono ?_); rintro e w' ⟨rfl, hb⟩; refine ⟨?_, HST.out _ _ hS hb⟩; with_reducible rfl)); (try simp only [Act.put, List.setIfInBounds_toArray, List.set_cons_zero, List.set_cons_succ])))
                    refine SeqS.done ?_
                    rintro wz ⟨_, _, _, hbz⟩
                    go_wp2_with fail
                    go_ret
                    exact ⟨2, .inr ⟨NV.out, rfl⟩, rfl, hbz⟩
            · obtain rfl : k = ts.length := by omega
              have NB := Lib.hid (show ∀ j, j < i + 1 → ¬ BadAt n ts j from fun j hj => by
                rcases Nat.lt_or_ge j i with h | h
                · exact HOK.out j h
                · obtain rfl : j = i := by omega
                  rintro ⟨t', ht', hb⟩
                  rw [HX.out] at ht'
                  cases ht'
                  rcases hb with hb | ⟨k, u, hk, hb⟩
                  · exact hb hin
                  · exact hno k (List.getElem?_eq_some_iff.1 hk).1 u hk hb)
              clear hno
              go_wp2_with fail
              exact ⟨⟨i + 1, by omega, by go_num, NB.out, hbel⟩, by simp [intOf]; omega⟩
        · rw [decide_eq_false hin] at IS
          have NV := Lib.hid (bad_not ⟨t, HX.out, .inl hin⟩ : ¬ Valid n ts)
          go_wp2_with (go_at_call 55; refine (IS.out _).mono ?_; rintro e w1 ⟨rfl, hb1⟩; have HB1 := Lib.hid hb1; clear hb1)
          go_ret
          exact ⟨2, .inr ⟨NV.out, rfl⟩, rfl, hbel.trans (HB1.out.mono hbel.size)⟩
      · obtain rfl : i = ts.length := by omega
        have V := Lib.hid (valid_of hn hok)
        clear hok
        go_wp2_with fail
        go_ret
        exact ⟨0, .inl ⟨V.out, rfl⟩, rfl, hbel⟩
  · have hr0 : ¬ (n : Int) ≤ 9223372036854775807 := by omega
    go_enter Try.func42, Try.ntmps42
    go_wp2_with (go_at_call 46; refine (refRows_no n _ hr0).mono ?_; rintro e w' ⟨rfl, rfl⟩)
    go_ret
    exact ⟨2, .inr ⟨fun h => hn h.1, rfl⟩, rfl, Below.refl _ _⟩
end Go.Proofs.Ytnokhajjcjfbpaa
