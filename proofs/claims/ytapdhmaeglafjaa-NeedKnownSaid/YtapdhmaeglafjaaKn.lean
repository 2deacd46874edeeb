/- NeedKnown. Printed by gen12k.py. -/
import Derived.Test.YtapdhmaeglafjaaSp
import Derived.Test.YtapdhmaeglafjaaIu
import Derived.Test.YtapdhmaeglafjaaNi
namespace Go.Proofs.Ytapdhmaeglafjaa
open Go.RowKit Go.Shelf

set_option maxHeartbeats 1000000 in
theorem list_any (a b : List Nat) (A B : Option Addr) (c d : Nat) (w : World) (ha : a.length ≤ 1000000) (_hb : b.length ≤ 1000000) (hs : SliceG w A a) (ht : SliceG w B b) : Calls Try.prog 34 #[.slice A a.length c, .slice B b.length d] w (QRet (.bool (decide (a = b))) w) := by
  by_cases hl : a.length = b.length
  · have hl' : (a.length : Int) = b.length := by omega
    go_enter Try.func34, Try.ntmps34
    go_wp2_with fail
    go_loopw [5] (fun v wr => ∃ k : Nat, k ≤ a.length ∧ v = .int .i64 k ∧ a.take k = b.take k ∧ ∃ q, wr = w.drewN q) (fun v _ => a.length - (intOf v).toNat)
    case atStart => exact ⟨0, by omega, rfl, by simp, 0, rfl⟩
    case round =>
      obtain ⟨k, hk, rfl, heq, q, rfl⟩ := hrel
      by_cases hlt : k < a.length
      · obtain ⟨g, rfl, hg, hc⟩ := hs k hlt
        obtain ⟨g2, rfl, hg2, hd⟩ := ht k (by omega)
        have hx : a[k]? = some a[k] := List.getElem?_eq_getElem hlt
        have hy : b[k]? = some (b[k]'(by omega)) := List.getElem?_eq_getElem (by omega)
        rw [hx] at hc
        rw [hy] at hd
        simp only [Option.map_some] at hc hd
        have HX := Lib.hid hx; have HY := Lib.hid hy; have HEQ := Lib.hid heq; have HL := Lib.hid hl
        clear hx hy heq hs ht
        generalize a[k] = x at *
        generalize (b[k]'(by have := HL.out; omega)) = y at *
        have k1 : (k : Int) < a.length := by omega
        have k2 : (k : Int) < b.length := by omega
        clear hl
        by_cases he : x = y
        · subst he
          have EQ := Lib.hid (show a.take (k + 1) = b.take (k + 1) from by rw [List.take_add_one, List.take_add_one, HX.out, HY.out, HEQ.out])
          go_wp2_with fail
          go_region
          all_goals go_wp2_with fail
          all_goals exact ⟨⟨k + 1, by omega, by go_num, EQ.out, q + 1, rfl⟩, by simp [intOf]; omega⟩
        · have he2 : ((x : Int) != y) = true := by rw [bne_iff_ne]; omega
          have E := Lib.hid (decide_eq_false (show ¬ a = b from fun e => he (by have h1 := HX.out; have h2 := HY.out; rw [e, h2] at h1; injection h1 with h1; exact h1.symm)))
          clear he
          go_wp2_with fail
          go_region
          all_goals go_wp2_with fail
          all_goals go_ret
          all_goals exact ⟨by rw [E.out]; rfl, q + 1, rfl⟩
      · obtain rfl : k = a.length := by omega
        have E := Lib.hid (decide_eq_true (show a = b from by rw [List.take_length, hl, List.take_length] at heq; exact heq))
        clear heq hl
        go_wp2_with fail
        go_ret
        exact ⟨by rw [E.out]; rfl, q, rfl⟩
  · have hl' : ((a.length : Int) != b.length) = true := by rw [bne_iff_ne]; omega
    have E := Lib.hid (decide_eq_false (show ¬ a = b from fun e => hl (by rw [e])))
    clear hl
    go_enter Try.func34, Try.ntmps34
    go_wp2_with fail
    go_ret
    exact QRet.mk0 (by rw [E.out]; rfl)


/-- The ways, with repetitions. -/
theorem isWays_lit {n : Nat} {ts l : List Nat} (h1 : l.Pairwise (fun a b => a < b)) (h2 : ∀ x ∈ l, x ∈ ts.flatMap (wayOf n)) (h3 : ∀ x ∈ ts.flatMap (wayOf n), x ∈ l) : IsWays n ts l := ⟨h1, fun x => by rw [onway_mem]; exact ⟨h2 x, h3 x⟩⟩
theorem isNeed_lit {n : Nat} {ts l : List Nat} (h1 : l.Pairwise (fun a b => a < b)) (h2 : ∀ x ∈ l, x ∈ needL n ts) (h3 : ∀ x ∈ needL n ts, x ∈ l) : IsNeed n ts l := ⟨h1, fun x => by rw [needed_mem]; exact ⟨h2 x, h3 x⟩⟩
theorem valid_0 : Valid 7 [0] := by decide +kernel
theorem valid_01 : Valid 7 [0, 1] := by decide +kernel
theorem valid_6 : Valid 7 [6] := by decide +kernel
theorem valid_034 : Valid 7 [0, 3, 4] := by decide +kernel
theorem valid_403 : Valid 7 [4, 0, 3] := by decide +kernel
theorem bad_80 : ¬ Valid 7 [8, 0] := by decide +kernel
theorem bad_00 : ¬ Valid 7 [0, 0] := by decide +kernel
theorem bad_7 : ¬ Valid 7 [7] := by decide +kernel
theorem bad_13 : ¬ Valid 7 [13] := by decide +kernel
theorem bad_n : ¬ Valid 9223372036854775808 [] := fun h => by have := h.1; omega
theorem w_0 : IsWays 7 [0] [0, 8, 12] := isWays_lit (by decide) (by decide +kernel) (by decide +kernel)
theorem w_01 : IsWays 7 [0, 1] [0, 1, 8, 12] := isWays_lit (by decide) (by decide +kernel) (by decide +kernel)
theorem w_6 : IsWays 7 [6] [6] := isWays_lit (by decide) (by decide +kernel) (by decide +kernel)
theorem n_0 : IsNeed 7 [0] [1, 9] := isNeed_lit (by decide) (by decide +kernel) (by decide +kernel)
theorem n_01 : IsNeed 7 [0, 1] [9] := isNeed_lit (by decide) (by decide +kernel) (by decide +kernel)
theorem n_6 : IsNeed 7 [6] [] := isNeed_lit (by decide) (by decide +kernel) (by decide +kernel)
theorem n_034 : IsNeed 7 [0, 3, 4] [1, 2, 5] := isNeed_lit (by decide) (by decide +kernel) (by decide +kernel)
theorem rise_lit {n h : Nat} {ts l : List Nat} (hd : ts.Nodup) (h1 : l.Pairwise (fun a b => a < b)) (h2 : ∀ x ∈ l, x ∈ ts ∧ treeOf n x = h) (h3 : ∀ x ∈ ts, treeOf n x = h → x ∈ l) : riseF n ts h = l := isRise_one (riseF_is hd) ⟨h1, fun x => ⟨h2 x, fun e => h3 x e.1 e.2⟩⟩
theorem s_403 : splitF 7 [4, 0, 3] = [(2, [0, 3]), (1, [4])] := by
  have r2 : riseF 7 [4, 0, 3] 2 = [0, 3] := rise_lit (by decide) (by decide) (by decide +kernel) (by decide +kernel)
  have r1 : riseF 7 [4, 0, 3] 1 = [4] := rise_lit (by decide) (by decide) (by decide +kernel) (by decide +kernel)
  have r0 : riseF 7 [4, 0, 3] 0 = [] := rise_lit (by decide) (by decide) (by decide +kernel) (by decide +kernel)
  have ht : treesN 7 = [2, 1, 0] := by decide +kernel
  unfold splitF
  rw [ht]
  simp [r2, r1, r0]
theorem in8 : InF 7 8 := by decide +kernel
theorem in1 : InF 7 1 := by decide +kernel
theorem in2 : InF 7 2 := by decide +kernel
theorem in9 : InF 7 9 := by decide +kernel
theorem in0 : InF 7 0 := by decide +kernel
theorem g_01_8 : goneB 7 [0, 1] 8 = true := by decide +kernel
theorem g_0_8 : goneB 7 [0] 8 = false := by decide +kernel
theorem g_0_1 : goneB 7 [0] 1 = false := by decide +kernel
theorem g_01_2 : goneB 7 [0, 1] 2 = false := by decide +kernel
theorem g_0_9 : goneB 7 [0] 9 = false := by decide +kernel
theorem g_0_0 : goneB 7 [0] 0 = true := by decide +kernel
theorem m_0_1 : movedF 7 [0] 1 = 8 := by decide +kernel
theorem m_01_2 : movedF 7 [0, 1] 2 = 8 := by decide +kernel
theorem m_0_9 : movedF 7 [0] 9 = 9 := by decide +kernel
/-- A list laid in a new block. -/
theorem lit_gen (w : World) (zs : List Nat) : SliceG (w.alloc (.cells (zs.map fun x : Nat => Value.int .u64 x).toArray 22)) (some ⟨w.heap.size, 0, none⟩) zs := (SliceAt.lit zs (IsBlk.new w _ _)).gen
theorem bel_lit {w w' : World} {o : Obj} (h : Below (w.alloc o).heap.size (w.alloc o) w') : Below w.heap.size w w' := ((Below.refl w.heap.size w).alloc (Nat.le_refl _) _).trans (h.mono (by simp))

set_option maxHeartbeats 8000000 in
set_option maxRecDepth 100000 in
theorem known_walk (w : World) : Calls Try.prog 10 #[] w (NRet (.bool true) w) := by
  have W_0 := Lib.hid fun (A : Option Addr) (c : Nat) (w : World) (hs : SliceG w A [0]) => ways_yes 7 [0] A c w (by decide) hs valid_0
  have W_01 := Lib.hid fun (A : Option Addr) (c : Nat) (w : World) (hs : SliceG w A [0, 1]) => ways_yes 7 [0, 1] A c w (by decide) hs valid_01
  have W_6 := Lib.hid fun (A : Option Addr) (c : Nat) (w : World) (hs : SliceG w A [6]) => ways_yes 7 [6] A c w (by decide) hs valid_6
  have N_0 := Lib.hid fun (A : Option Addr) (c : Nat) (w : World) (hs : SliceG w A [0]) => need_yes 7 [0] A c w (by decide) hs valid_0
  have N_01 := Lib.hid fun (A : Option Addr) (c : Nat) (w : World) (hs : SliceG w A [0, 1]) => need_yes 7 [0, 1] A c w (by decide) hs valid_01
  have N_6 := Lib.hid fun (A : Option Addr) (c : Nat) (w : World) (hs : SliceG w A [6]) => need_yes 7 [6] A c w (by decide) hs valid_6
  have N_034 := Lib.hid fun (A : Option Addr) (c : Nat) (w : World) (hs : SliceG w A [0, 3, 4]) => need_yes 7 [0, 3, 4] A c w (by decide) hs valid_034
  have SP := Lib.hid fun (A : Option Addr) (c : Nat) (w : World) (hs : SliceG w A [4, 0, 3]) => split_yes 7 [4, 0, 3] A c w (by decide) hs valid_403
  rw [s_403] at SP
  have C_80 := Lib.hid fun (A : Option Addr) (c : Nat) (w : World) (hs : SliceG w A [8, 0]) => check_any 7 [8, 0] A c w (by decide) (by decide) (by decide) hs 2 (.inr ⟨bad_80, rfl⟩)
  have C_00 := Lib.hid fun (A : Option Addr) (c : Nat) (w : World) (hs : SliceG w A [0, 0]) => check_any 7 [0, 0] A c w (by decide) (by decide) (by decide) hs 2 (.inr ⟨bad_00, rfl⟩)
  have C_7 := Lib.hid fun (A : Option Addr) (c : Nat) (w : World) (hs : SliceG w A [7]) => check_any 7 [7] A c w (by decide) (by decide) (by decide) hs 2 (.inr ⟨bad_7, rfl⟩)
  have C_13 := Lib.hid fun (A : Option Addr) (c : Nat) (w : World) (hs : SliceG w A [13]) => check_any 7 [13] A c w (by decide) (by decide) (by decide) hs 2 (.inr ⟨bad_13, rfl⟩)
  have C_n := Lib.hid fun (w : World) => check_any 9223372036854775808 [] none 0 w (by decide) (by decide) (by decide) (fun k hk => by simp at hk) 2 (.inr ⟨bad_n, rfl⟩)
  have G_01_8 := Lib.hid fun (A : Option Addr) (c : Nat) (w : World) (hs : SliceG w A [0, 1]) => Gone_yes 7 [0, 1] A c 8 w (by decide) hs valid_01 in8
  rw [g_01_8] at G_01_8
  have G_0_8 := Lib.hid fun (A : Option Addr) (c : Nat) (w : World) (hs : SliceG w A [0]) => Gone_yes 7 [0] A c 8 w (by decide) hs valid_0 in8
  rw [g_0_8] at G_0_8
  have M_0_1 := Lib.hid fun (A : Option Addr) (c : Nat) (w : World) (hs : SliceG w A [0]) => Moved_yes 7 [0] A c 1 w (by decide) hs valid_0 in1 g_0_1
  rw [m_0_1] at M_0_1
  have M_01_2 := Lib.hid fun (A : Option Addr) (c : Nat) (w : World) (hs : SliceG w A [0, 1]) => Moved_yes 7 [0, 1] A c 2 w (by decide) hs valid_01 in2 g_01_2
  rw [m_01_2] at M_01_2
  have M_0_9 := Lib.hid fun (A : Option Addr) (c : Nat) (w : World) (hs : SliceG w A [0]) => Moved_yes 7 [0] A c 9 w (by decide) hs valid_0 in9 g_0_9
  rw [m_0_9] at M_0_9
  have M_0_0 := Lib.hid fun (A : Option Addr) (c : Nat) (w : World) (hs : SliceG w A [0]) => Moved_gone 7 [0] A c 0 w (by decide) hs valid_0 in0 g_0_0
  go_enter Try.func10, Try.ntmps10
  go_wp2_with fail
  refine (W_0.out (some ⟨w.heap.size, 0, none⟩) 1 _ (lit_gen w [0])).mono ?_
  rintro e w_1 ⟨l, hl, hok⟩
  obtain rfl := isWays_one hl w_0
  obtain ⟨A1, c1, rfl, hs, hb⟩ := hok.at
  have S1 := Lib.hid hs
  clear hl hok hs
  simp only [List.length_cons, List.length_nil]
  have HB1 := Lib.hid (bel_lit hb)
  clear hb
  go_wp2_with fail
  refine (N_0.out (some ⟨w_1.heap.size, 0, none⟩) 1 _ (lit_gen w_1 [0])).mono ?_
  rintro e w_2 ⟨l, hl, hok⟩
  obtain rfl := isNeed_one hl n_0
  obtain ⟨A2, c2, rfl, hs, hb⟩ := hok.at
  have S2 := Lib.hid hs
  clear hl hok hs
  simp only [List.length_cons, List.length_nil]
  have hbx := bel_lit hb
  have HB2 := Lib.hid (HB1.out.trans (hbx.mono HB1.out.size))
  have S1 := Lib.hid (S1.out.after hbx)
  clear hbx
  clear hb
  go_wp2_with fail
  refine (W_01.out (some ⟨w_2.heap.size, 0, none⟩) 2 _ (lit_gen w_2 [0, 1])).mono ?_
  rintro e w_3 ⟨l, hl, hok⟩
  obtain rfl := isWays_one hl w_01
  obtain ⟨A3, c3, rfl, hs, hb⟩ := hok.at
  have S3 := Lib.hid hs
  clear hl hok hs
  simp only [List.length_cons, List.length_nil]
  have hbx := bel_lit hb
  have HB3 := Lib.hid (HB2.out.trans (hbx.mono HB2.out.size))
  have S1 := Lib.hid (S1.out.after hbx)
  have S2 := Lib.hid (S2.out.after hbx)
  clear hbx
  clear hb
  go_wp2_with fail
  refine (N_01.out (some ⟨w_3.heap.size, 0, none⟩) 2 _ (lit_gen w_3 [0, 1])).mono ?_
  rintro e w_4 ⟨l, hl, hok⟩
  obtain rfl := isNeed_one hl n_01
  obtain ⟨A4, c4, rfl, hs, hb⟩ := hok.at
  have S4 := Lib.hid hs
  clear hl hok hs
  simp only [List.length_cons, List.length_nil]
  have hbx := bel_lit hb
  have HB4 := Lib.hid (HB3.out.trans (hbx.mono HB3.out.size))
  have S1 := Lib.hid (S1.out.after hbx)
  have S2 := Lib.hid (S2.out.after hbx)
  have S3 := Lib.hid (S3.out.after hbx)
  clear hbx
  clear hb
  go_wp2_with fail
  refine (W_6.out (some ⟨w_4.heap.size, 0, none⟩) 1 _ (lit_gen w_4 [6])).mono ?_
  rintro e w_5 ⟨l, hl, hok⟩
  obtain rfl := isWays_one hl w_6
  obtain ⟨A5, c5, rfl, hs, hb⟩ := hok.at
  have S5 := Lib.hid hs
  clear hl hok hs
  simp only [List.length_cons, List.length_nil]
  have hbx := bel_lit hb
  have HB5 := Lib.hid (HB4.out.trans (hbx.mono HB4.out.size))
  have S1 := Lib.hid (S1.out.after hbx)
  have S2 := Lib.hid (S2.out.after hbx)
  have S3 := Lib.hid (S3.out.after hbx)
  have S4 := Lib.hid (S4.out.after hbx)
  clear hbx
  clear hb
  go_wp2_with fail
  refine (N_6.out (some ⟨w_5.heap.size, 0, none⟩) 1 _ (lit_gen w_5 [6])).mono ?_
  rintro e w_6 ⟨l, hl, hok⟩
  obtain rfl := isNeed_one hl n_6
  obtain ⟨A6, c6, rfl, hs, hb⟩ := hok.at
  have S6 := Lib.hid hs
  clear hl hok hs
  simp only [List.length_nil]
  have hbx := bel_lit hb
  have HB6 := Lib.hid (HB5.out.trans (hbx.mono HB5.out.size))
  have S1 := Lib.hid (S1.out.after hbx)
  have S2 := Lib.hid (S2.out.after hbx)
  have S3 := Lib.hid (S3.out.after hbx)
  have S4 := Lib.hid (S4.out.after hbx)
  have S5 := Lib.hid (S5.out.after hbx)
  clear hbx
  clear hb
  go_wp2_with fail
  refine (N_034.out (some ⟨w_6.heap.size, 0, none⟩) 3 _ (lit_gen w_6 [0, 3, 4])).mono ?_
  rintro e w_7 ⟨l, hl, hok⟩
  obtain rfl := isNeed_one hl n_034
  obtain ⟨A7, c7, rfl, hs, hb⟩ := hok.at
  have S7 := Lib.hid hs
  clear hl hok hs
  simp only [List.length_cons, List.length_nil]
  have hbx := bel_lit hb
  have HB7 := Lib.hid (HB6.out.trans (hbx.mono HB6.out.size))
  have S1 := Lib.hid (S1.out.after hbx)
  have S2 := Lib.hid (S2.out.after hbx)
  have S3 := Lib.hid (S3.out.after hbx)
  have S4 := Lib.hid (S4.out.after hbx)
  have S5 := Lib.hid (S5.out.after hbx)
  have S6 := Lib.hid (S6.out.after hbx)
  clear hbx
  clear hb
  go_wp2_with fail
  refine (SP.out (some ⟨w_7.heap.size, 0, none⟩) 3 _ (lit_gen w_7 [4, 0, 3])).mono ?_
  rintro e w_8 ⟨A8, c8, rfl, hs, hb⟩
  have S8 := Lib.hid hs
  clear hs
  simp only [List.length_cons, List.length_nil]
  have hbx := bel_lit hb
  have HB8 := Lib.hid (HB7.out.trans (hbx.mono HB7.out.size))
  have S1 := Lib.hid (S1.out.after hbx)
  have S2 := Lib.hid (S2.out.after hbx)
  have S3 := Lib.hid (S3.out.after hbx)
  have S4 := Lib.hid (S4.out.after hbx)
  have S5 := Lib.hid (S5.out.after hbx)
  have S6 := Lib.hid (S6.out.after hbx)
  have S7 := Lib.hid (S7.out.after hbx)
  clear hbx
  clear hb
  go_wp2_with fail
  have hsn := ((S1.out.after ((Below.refl _ w_8).alloc (Nat.le_refl _) (.cells ([0, 8, 12].map fun x : Nat => Value.int .u64 x).toArray 22))).gen)
  refine (list_any [0, 8, 12] [0, 8, 12] A1 (some ⟨w_8.heap.size, 0, none⟩) c1 3 _ (by decide) (by decide) hsn (lit_gen w_8 [0, 8, 12])).mono ?_
  rintro e _ ⟨rfl, d, rfl⟩
  clear hsn
  have hbx : Below w_8.heap.size w_8 _ := bel_drewN ((Below.refl w_8.heap.size w_8).alloc (Nat.le_refl _) (.cells ([0, 8, 12].map fun x : Nat => Value.int .u64 x).toArray 22)) d
  have HB9 := Lib.hid (HB8.out.trans (hbx.mono HB8.out.size))
  have S1 := Lib.hid (S1.out.after hbx)
  have S2 := Lib.hid (S2.out.after hbx)
  have S3 := Lib.hid (S3.out.after hbx)
  have S4 := Lib.hid (S4.out.after hbx)
  have S5 := Lib.hid (S5.out.after hbx)
  have S6 := Lib.hid (S6.out.after hbx)
  have S7 := Lib.hid (S7.out.after hbx)
  have S8 := Lib.hid (S8.out.after hbx)
  clear hbx
  generalize (World.alloc w_8 _).drewN d = w_9 at *
  rw [decide_eq_true rfl]
  go_wp2_with fail
  have hsn := ((S2.out.after ((Below.refl _ w_9).alloc (Nat.le_refl _) (.cells ([1, 9].map fun x : Nat => Value.int .u64 x).toArray 22))).gen)
  refine (list_any [1, 9] [1, 9] A2 (some ⟨w_9.heap.size, 0, none⟩) c2 2 _ (by decide) (by decide) hsn (lit_gen w_9 [1, 9])).mono ?_
  rintro e _ ⟨rfl, d, rfl⟩
  clear hsn
  have hbx : Below w_9.heap.size w_9 _ := bel_drewN ((Below.refl w_9.heap.size w_9).alloc (Nat.le_refl _) (.cells ([1, 9].map fun x : Nat => Value.int .u64 x).toArray 22)) d
  have HB10 := Lib.hid (HB9.out.trans (hbx.mono HB9.out.size))
  have S1 := Lib.hid (S1.out.after hbx)
  have S2 := Lib.hid (S2.out.after hbx)
  have S3 := Lib.hid (S3.out.after hbx)
  have S4 := Lib.hid (S4.out.after hbx)
  have S5 := Lib.hid (S5.out.after hbx)
  have S6 := Lib.hid (S6.out.after hbx)
  have S7 := Lib.hid (S7.out.after hbx)
  have S8 := Lib.hid (S8.out.after hbx)
  clear hbx
  generalize (World.alloc w_9 _).drewN d = w_10 at *
  rw [decide_eq_true rfl]
  go_wp2_with fail
  have hsn := ((S3.out.after ((Below.refl _ w_10).alloc (Nat.le_refl _) (.cells ([0, 1, 8, 12].map fun x : Nat => Value.int .u64 x).toArray 22))).gen)
  refine (list_any [0, 1, 8, 12] [0, 1, 8, 12] A3 (some ⟨w_10.heap.size, 0, none⟩) c3 4 _ (by decide) (by decide) hsn (lit_gen w_10 [0, 1, 8, 12])).mono ?_
  rintro e _ ⟨rfl, d, rfl⟩
  clear hsn
  have hbx : Below w_10.heap.size w_10 _ := bel_drewN ((Below.refl w_10.heap.size w_10).alloc (Nat.le_refl _) (.cells ([0, 1, 8, 12].map fun x : Nat => Value.int .u64 x).toArray 22)) d
  have HB11 := Lib.hid (HB10.out.trans (hbx.mono HB10.out.size))
  have S1 := Lib.hid (S1.out.after hbx)
  have S2 := Lib.hid (S2.out.after hbx)
  have S3 := Lib.hid (S3.out.after hbx)
  have S4 := Lib.hid (S4.out.after hbx)
  have S5 := Lib.hid (S5.out.after hbx)
  have S6 := Lib.hid (S6.out.after hbx)
  have S7 := Lib.hid (S7.out.after hbx)
  have S8 := Lib.hid (S8.out.after hbx)
  clear hbx
  generalize (World.alloc w_10 _).drewN d = w_11 at *
  rw [decide_eq_true rfl]
  go_wp2_with fail
  have hsn := ((S4.out.after ((Below.refl _ w_11).alloc (Nat.le_refl _) (.cells ([9].map fun x : Nat => Value.int .u64 x).toArray 22))).gen)
  refine (list_any [9] [9] A4 (some ⟨w_11.heap.size, 0, none⟩) c4 1 _ (by decide) (by decide) hsn (lit_gen w_11 [9])).mono ?_
  rintro e _ ⟨rfl, d, rfl⟩
  clear hsn
  have hbx : Below w_11.heap.size w_11 _ := bel_drewN ((Below.refl w_11.heap.size w_11).alloc (Nat.le_refl _) (.cells ([9].map fun x : Nat => Value.int .u64 x).toArray 22)) d
  have HB12 := Lib.hid (HB11.out.trans (hbx.mono HB11.out.size))
  have S1 := Lib.hid (S1.out.after hbx)
  have S2 := Lib.hid (S2.out.after hbx)
  have S3 := Lib.hid (S3.out.after hbx)
  have S4 := Lib.hid (S4.out.after hbx)
  have S5 := Lib.hid (S5.out.after hbx)
  have S6 := Lib.hid (S6.out.after hbx)
  have S7 := Lib.hid (S7.out.after hbx)
  have S8 := Lib.hid (S8.out.after hbx)
  clear hbx
  generalize (World.alloc w_11 _).drewN d = w_12 at *
  rw [decide_eq_true rfl]
  go_wp2_with fail
  have hsn := ((S5.out.after ((Below.refl _ w_12).alloc (Nat.le_refl _) (.cells ([6].map fun x : Nat => Value.int .u64 x).toArray 22))).gen)
  refine (list_any [6] [6] A5 (some ⟨w_12.heap.size, 0, none⟩) c5 1 _ (by decide) (by decide) hsn (lit_gen w_12 [6])).mono ?_
  rintro e _ ⟨rfl, d, rfl⟩
  clear hsn
  have hbx : Below w_12.heap.size w_12 _ := bel_drewN ((Below.refl w_12.heap.size w_12).alloc (Nat.le_refl _) (.cells ([6].map fun x : Nat => Value.int .u64 x).toArray 22)) d
  have HB13 := Lib.hid (HB12.out.trans (hbx.mono HB12.out.size))
  have S1 := Lib.hid (S1.out.after hbx)
  have S2 := Lib.hid (S2.out.after hbx)
  have S3 := Lib.hid (S3.out.after hbx)
  have S4 := Lib.hid (S4.out.after hbx)
  have S5 := Lib.hid (S5.out.after hbx)
  have S6 := Lib.hid (S6.out.after hbx)
  have S7 := Lib.hid (S7.out.after hbx)
  have S8 := Lib.hid (S8.out.after hbx)
  clear hbx
  generalize (World.alloc w_12 _).drewN d = w_13 at *
  rw [decide_eq_true rfl]
  go_wp2_with fail
  refine (list_any [] [] A6 none c6 0 _ (by decide) (by decide) S6.out.gen (fun k hk => by simp at hk)).mono ?_
  rintro e _ ⟨rfl, d, rfl⟩
  have hbx : Below w_13.heap.size w_13 _ := bel_drewN (Below.refl w_13.heap.size w_13) d
  have HB14 := Lib.hid (HB13.out.trans (hbx.mono HB13.out.size))
  have S1 := Lib.hid (S1.out.after hbx)
  have S2 := Lib.hid (S2.out.after hbx)
  have S3 := Lib.hid (S3.out.after hbx)
  have S4 := Lib.hid (S4.out.after hbx)
  have S5 := Lib.hid (S5.out.after hbx)
  have S6 := Lib.hid (S6.out.after hbx)
  have S7 := Lib.hid (S7.out.after hbx)
  have S8 := Lib.hid (S8.out.after hbx)
  clear hbx
  generalize World.drewN w_13 d = w_14 at *
  rw [decide_eq_true rfl]
  go_wp2_with fail
  have hsn := ((S7.out.after ((Below.refl _ w_14).alloc (Nat.le_refl _) (.cells ([1, 2, 5].map fun x : Nat => Value.int .u64 x).toArray 22))).gen)
  refine (list_any [1, 2, 5] [1, 2, 5] A7 (some ⟨w_14.heap.size, 0, none⟩) c7 3 _ (by decide) (by decide) hsn (lit_gen w_14 [1, 2, 5])).mono ?_
  rintro e _ ⟨rfl, d, rfl⟩
  clear hsn
  have hbx : Below w_14.heap.size w_14 _ := bel_drewN ((Below.refl w_14.heap.size w_14).alloc (Nat.le_refl _) (.cells ([1, 2, 5].map fun x : Nat => Value.int .u64 x).toArray 22)) d
  have HB15 := Lib.hid (HB14.out.trans (hbx.mono HB14.out.size))
  have S1 := Lib.hid (S1.out.after hbx)
  have S2 := Lib.hid (S2.out.after hbx)
  have S3 := Lib.hid (S3.out.after hbx)
  have S4 := Lib.hid (S4.out.after hbx)
  have S5 := Lib.hid (S5.out.after hbx)
  have S6 := Lib.hid (S6.out.after hbx)
  have S7 := Lib.hid (S7.out.after hbx)
  have S8 := Lib.hid (S8.out.after hbx)
  clear hbx
  generalize (World.alloc w_14 _).drewN d = w_15 at *
  rw [decide_eq_true rfl]
  obtain ⟨g0, Al0, cl0, e0, hg0, u1, u2, u3⟩ := S8.out 0 2 [0, 3] rfl
  subst e0
  have T0 := Lib.hid u3
  have p0 : w_15.cell? ⟨g0, 0, none⟩ = some (.int .i64 2) := u1
  have p1 : w_15.cell? ⟨g0, 1, none⟩ = some (.slice Al0 2 cl0) := u2
  clear u1 u2 u3
  go_wp2_with fail
  have hsn := ((T0.out.after ((Below.refl _ w_15).alloc (Nat.le_refl _) (.cells ([0, 3].map fun x : Nat => Value.int .u64 x).toArray 22))).gen)
  refine (list_any [0, 3] [0, 3] Al0 (some ⟨w_15.heap.size, 0, none⟩) cl0 2 _ (by decide) (by decide) hsn (lit_gen w_15 [0, 3])).mono ?_
  rintro e _ ⟨rfl, d, rfl⟩
  clear hsn
  have hbx : Below w_15.heap.size w_15 _ := bel_drewN ((Below.refl w_15.heap.size w_15).alloc (Nat.le_refl _) (.cells ([0, 3].map fun x : Nat => Value.int .u64 x).toArray 22)) d
  have HB16 := Lib.hid (HB15.out.trans (hbx.mono HB15.out.size))
  have S8 := Lib.hid (S8.out.after hbx)
  clear hbx
  generalize (World.alloc w_15 _).drewN d = w_16 at *
  rw [decide_eq_true rfl]
  clear p0 p1 hg0 T0
  obtain ⟨g1, Al1, cl1, e1, hg1, u1, u2, u3⟩ := S8.out 1 1 [4] rfl
  cases e1
  have T1 := Lib.hid u3
  have p2 : w_16.cell? ⟨g0, 2, none⟩ = some (.int .i64 1) := u1
  have p3 : w_16.cell? ⟨g0, 3, none⟩ = some (.slice Al1 1 cl1) := u2
  clear u1 u2 u3
  go_wp2_with fail
  have hsn := ((T1.out.after ((Below.refl _ w_16).alloc (Nat.le_refl _) (.cells ([4].map fun x : Nat => Value.int .u64 x).toArray 22))).gen)
  refine (list_any [4] [4] Al1 (some ⟨w_16.heap.size, 0, none⟩) cl1 1 _ (by decide) (by decide) hsn (lit_gen w_16 [4])).mono ?_
  rintro e _ ⟨rfl, d, rfl⟩
  clear hsn
  have hbx : Below w_16.heap.size w_16 _ := bel_drewN ((Below.refl w_16.heap.size w_16).alloc (Nat.le_refl _) (.cells ([4].map fun x : Nat => Value.int .u64 x).toArray 22)) d
  have HB17 := Lib.hid (HB16.out.trans (hbx.mono HB16.out.size))
  have S8 := Lib.hid (S8.out.after hbx)
  clear hbx
  generalize (World.alloc w_16 _).drewN d = w_17 at *
  rw [decide_eq_true rfl]
  clear p2 p3 hg1 T1 S8
  go_wp2_with fail
  refine (C_80.out (some ⟨w_17.heap.size, 0, none⟩) 2 _ (lit_gen w_17 [8, 0])).mono ?_
  rintro e w_18 ⟨rfl, hb⟩
  have hbx := bel_lit hb
  have HB18 := Lib.hid (HB17.out.trans (hbx.mono HB17.out.size))
  clear hbx
  clear hb
  go_wp2_with fail
  refine (C_00.out (some ⟨w_18.heap.size, 0, none⟩) 2 _ (lit_gen w_18 [0, 0])).mono ?_
  rintro e w_19 ⟨rfl, hb⟩
  have hbx := bel_lit hb
  have HB19 := Lib.hid (HB18.out.trans (hbx.mono HB18.out.size))
  clear hbx
  clear hb
  go_wp2_with fail
  refine (C_7.out (some ⟨w_19.heap.size, 0, none⟩) 1 _ (lit_gen w_19 [7])).mono ?_
  rintro e w_20 ⟨rfl, hb⟩
  have hbx := bel_lit hb
  have HB20 := Lib.hid (HB19.out.trans (hbx.mono HB19.out.size))
  clear hbx
  clear hb
  go_wp2_with fail
  refine (C_13.out (some ⟨w_20.heap.size, 0, none⟩) 1 _ (lit_gen w_20 [13])).mono ?_
  rintro e w_21 ⟨rfl, hb⟩
  have hbx := bel_lit hb
  have HB21 := Lib.hid (HB20.out.trans (hbx.mono HB20.out.size))
  clear hbx
  clear hb
  go_wp2_with fail
  refine (C_n.out _).mono ?_
  rintro e w_22 ⟨rfl, hb⟩
  have hbx := hb
  have HB22 := Lib.hid (HB21.out.trans (hbx.mono HB21.out.size))
  clear hbx
  clear hb
  go_wp2_with fail
  refine (G_01_8.out (some ⟨w_22.heap.size, 0, none⟩) 2 _ (lit_gen w_22 [0, 1])).mono ?_
  rintro e w_23 ⟨rfl, hb⟩
  have hbx := bel_lit hb
  have HB23 := Lib.hid (HB22.out.trans (hbx.mono HB22.out.size))
  clear hbx
  clear hb
  go_wp2_with fail
  refine (G_0_8.out (some ⟨w_23.heap.size, 0, none⟩) 1 _ (lit_gen w_23 [0])).mono ?_
  rintro e w_24 ⟨rfl, hb⟩
  have hbx := bel_lit hb
  have HB24 := Lib.hid (HB23.out.trans (hbx.mono HB23.out.size))
  clear hbx
  clear hb
  go_wp2_with fail
  refine (M_0_1.out (some ⟨w_24.heap.size, 0, none⟩) 1 _ (lit_gen w_24 [0])).mono ?_
  rintro e w_25 ⟨rfl, hb⟩
  have hbx := bel_lit hb
  have HB25 := Lib.hid (HB24.out.trans (hbx.mono HB24.out.size))
  clear hbx
  clear hb
  go_wp2_with fail
  refine (M_01_2.out (some ⟨w_25.heap.size, 0, none⟩) 2 _ (lit_gen w_25 [0, 1])).mono ?_
  rintro e w_26 ⟨rfl, hb⟩
  have hbx := bel_lit hb
  have HB26 := Lib.hid (HB25.out.trans (hbx.mono HB25.out.size))
  clear hbx
  clear hb
  go_wp2_with fail
  refine (M_0_9.out (some ⟨w_26.heap.size, 0, none⟩) 1 _ (lit_gen w_26 [0])).mono ?_
  rintro e w_27 ⟨rfl, hb⟩
  have hbx := bel_lit hb
  have HB27 := Lib.hid (HB26.out.trans (hbx.mono HB26.out.size))
  clear hbx
  clear hb
  go_wp2_with fail
  refine (M_0_0.out (some ⟨w_27.heap.size, 0, none⟩) 1 _ (lit_gen w_27 [0])).mono ?_
  rintro e w_28 ⟨rfl, hb⟩
  have hbx := bel_lit hb
  have HB28 := Lib.hid (HB27.out.trans (hbx.mono HB27.out.size))
  clear hbx
  clear hb
  go_wp2_with fail
  refine (works_any _).mono ?_
  rintro e wz ⟨rfl, hb⟩
  have HBz := Lib.hid (HB28.out.trans (hb.mono HB28.out.size))
  clear hb
  go_wp2_with fail
  go_ret
  exact ⟨rfl, HBz.out⟩

set_option linter.unusedVariables false in
theorem law_NeedKnown {H : Type} {enc : TypeId × Value → H} (W : World) (_base : Nat) :
    Calls Try.prog 10 #[] W fun e w' => e = .returned (.bool true) ∧ Below W.heap.size W w' := known_walk W
end Go.Proofs.Ytapdhmaeglafjaa
