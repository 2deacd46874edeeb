/- Compact forms of numbers and texts: the program's, the reference's. -/
import Derived.Test.YtgmbdhpanhkfhaaByS
namespace Go.Proofs.Ytgmbdhpanhkfhaa
open Go.RowKit Go.Lib

/-- A number's compact form. -/
def cform (n : Nat) : List UInt8 := if n < 253 then [UInt8.ofNat n] else if n < 65536 then 253 :: digs 2 n else if n < 4294967296 then 254 :: digs 4 n else 255 :: digs 8 n
def csize (n : Nat) : Nat := if n < 253 then 1 else if n < 65536 then 3 else if n < 4294967296 then 5 else 9
theorem cform_length (n : Nat) : (cform n).length = csize n := by
  unfold cform csize
  repeat' split
  all_goals simp [digs_length]
theorem csize_le (n : Nat) : csize n ≤ 9 := by
  unfold csize
  repeat' split
  all_goals omega
theorem csize_pos (n : Nat) : 1 ≤ csize n := by
  unfold csize
  repeat' split
  all_goals omega
/-- The width of what stands behind the first byte, and that byte. -/
theorem cform_wide {n : Nat} (h : ¬ n < 253) : ∃ (W : Nat) (F : UInt8), cform n = F :: digs W n ∧ csize n = W + 1 ∧ ((W = 2 ∧ F = 253 ∧ n < 65536) ∨ (W = 4 ∧ F = 254 ∧ ¬ n < 65536 ∧ n < 4294967296) ∨ (W = 8 ∧ F = 255 ∧ ¬ n < 4294967296)) := by
  unfold cform csize
  rw [if_neg h, if_neg h]
  by_cases h1 : n < 65536
  · rw [if_pos h1, if_pos h1]; exact ⟨2, 253, rfl, rfl, .inl ⟨rfl, rfl, h1⟩⟩
  · rw [if_neg h1, if_neg h1]
    by_cases h2 : n < 4294967296
    · rw [if_pos h2, if_pos h2]; exact ⟨4, 254, rfl, rfl, .inr (.inl ⟨rfl, rfl, h1, h2⟩)⟩
    · rw [if_neg h2, if_neg h2]; exact ⟨8, 255, rfl, rfl, .inr (.inr ⟨rfl, rfl, h2⟩)⟩

set_option maxHeartbeats 1000000 in
theorem size_any (n : Nat) (w : World) : Calls Try.prog 10 #[.int .u64 n] w fun e w' => e = .returned (.int .i64 (csize n : Nat)) ∧ w = w' := by
  have h : (n < 253 ∧ csize n = 1) ∨ (¬ n < 253 ∧ n < 65536 ∧ csize n = 3) ∨ (¬ n < 65536 ∧ n < 4294967296 ∧ csize n = 5) ∨ (¬ n < 4294967296 ∧ csize n = 9) := by
    unfold csize
    by_cases h0 : n < 253
    · simp [h0]
    · by_cases h1 : n < 65536
      · simp [h0, h1]
      · by_cases h2 : n < 4294967296
        · simp [h0, h1, h2]
        · simp [h0, h1, h2]
  rcases h with ⟨h1, e⟩ | ⟨h1, h2, e⟩ | ⟨h1, h2, e⟩ | ⟨h1, e⟩
  · have t1 : ¬ (253 : Int) ≤ n := by omega
    have t2 : ¬ (65536 : Int) ≤ n := by omega
    have t3 : ¬ (4294967296 : Int) ≤ n := by omega
    rw [e]
    clear h1 e
    go_enter Try.func10, Try.ntmps10
    go_wp2_with fail
    go_ret
    exact ⟨rfl, rfl⟩
  · have t1 : (253 : Int) ≤ n := by omega
    have t2 : ¬ (65536 : Int) ≤ n := by omega
    have t3 : ¬ (4294967296 : Int) ≤ n := by omega
    rw [e]
    clear h1 h2 e
    go_enter Try.func10, Try.ntmps10
    go_wp2_with fail
    go_ret
    exact ⟨rfl, rfl⟩
  · have t2 : (65536 : Int) ≤ n := by omega
    have t3 : ¬ (4294967296 : Int) ≤ n := by omega
    rw [e]
    clear h1 h2 e
    go_enter Try.func10, Try.ntmps10
    go_wp2_with fail
    go_ret
    exact ⟨rfl, rfl⟩
  · have t3 : (4294967296 : Int) ≤ n := by omega
    rw [e]
    clear h1 e
    go_enter Try.func10, Try.ntmps10
    go_wp2_with fail
    go_ret
    exact ⟨rfl, rfl⟩

theorem small_byte (n : Nat) : IntKind.u8.wrap ((n : Nat) : Int) = (((UInt8.ofNat n).toNat : Nat) : Int) := by
  simp only [IntKind.wrap, IntKind.bits, IntKind.signed]; simp

set_option maxHeartbeats 4000000 in
theorem cput_small (A : Option Addr) (c : Nat) (l : List UInt8) (n : Nat) (w : World) (h0 : A = none → l.length = 0 ∧ c = 0) (hr : Rd w A l) (hl : l.length ≤ 100000) (hn : n < 253) :
    Calls Try.prog 9 #[.slice A l.length c, .int .u64 n] w (BytesRet (l ++ cform n) w) := by
  have C1 := Lib.hid (clone_any A l.length c l w rfl h0 hr (by omega))
  have C2 := Lib.hid (size_any n)
  have e1 : csize n = 1 := by unfold csize; rw [if_pos hn]
  have e2 : cform n = [UInt8.ofNat n] := by unfold cform; rw [if_pos hn]
  rw [e1] at C2
  rw [e2]
  have hv := small_byte n
  have HL := Lib.hid hl
  clear h0 hr hl hn e1 e2
  generalize UInt8.ofNat n = b at *
  go_enter Try.func9, Try.ntmps9
  go_wp2_with fail
  refine C1.out.mono ?_
  rintro e w1 ⟨A1, c1, rfl, hown, hnn, hb1⟩
  have HO := Lib.hid hown
  have HB := Lib.hid hb1
  clear hown hnn hb1
  go_wp2_with fail
  refine (C2.out _).mono ?_
  rintro e w' ⟨rfl, rfl⟩
  go_wp2_with (at_builtin; refine wpList_append_rd rfl (.tmp 19) (.tmp 22) rfl w.heap.size _ l rfl (HO.out.alloc _) (some ⟨w1.heap.size, 0, none⟩) 1 1 [b] rfl rfl (Rd.one b rfl) (by have := HL.out; simp; omega) (by have := HB.out.size; simp; omega) (l.length + 1) rfl (l ++ [b]) rfl ?_; intro A2 c2 w2 hown2 hg2 hnn2)
  go_ret
  exact BytesRet.mk (by simp) hown2 hnn2 (bel_grown (HB.out.alloc HB.out.size _) (by have := HB.out.size; simp; omega) (HO.out.alloc _) (Nat.le_refl _) hg2)

set_option maxHeartbeats 8000000 in
theorem cput_wide (A : Option Addr) (c : Nat) (l : List UInt8) (n : Nat) (w : World) (h0 : A = none → l.length = 0 ∧ c = 0) (hr : Rd w A l) (hl : l.length ≤ 100000) (hn : ¬ n < 253) :
    Calls Try.prog 9 #[.slice A l.length c, .int .u64 n] w (BytesRet (l ++ cform n) w) := by
  have C1 := Lib.hid (clone_any A l.length c l w rfl h0 hr (by omega))
  have C2 := Lib.hid (size_any n)
  obtain ⟨W, F, e1, e2, hcase⟩ := cform_wide hn
  have e3 : ((W + 1 : Nat) : Int) = (W : Int) + 1 := by omega
  rw [e2, e3] at C2
  rw [e1]
  have HL := Lib.hid hl
  have t0 : ((W : Int) == 0) = false := by rcases hcase with ⟨rfl, _⟩ | ⟨rfl, _⟩ | ⟨rfl, _⟩ <;> rfl
  have hW8 : W ≤ 8 := by omega
  have hW : (W : Int) + 1 - 1 = W := by omega
  have hWw : IntKind.i64.wrap ((W : Int) + 1 - 1) = W := by rw [hW]; exact IntWalk.i64_in _ (by omega)
  have hcase2 : (((W : Int) == 2) = true ∧ F = 253) ∨ (((W : Int) == 2) = false ∧ ((W : Int) == 4) = true ∧ F = 254) ∨ (((W : Int) == 2) = false ∧ ((W : Int) == 4) = false ∧ F = 255) := by
    rcases hcase with ⟨rfl, h, _⟩ | ⟨rfl, h, _⟩ | ⟨rfl, h, _⟩
    · exact .inl ⟨rfl, h⟩
    · exact .inr (.inl ⟨rfl, rfl, h⟩)
    · exact .inr (.inr ⟨rfl, rfl, h⟩)
  clear h0 hr hl hn e1 e2 e3 hcase hW
  rcases hcase2 with ⟨t2, rfl⟩ | ⟨t2, t4, rfl⟩ | ⟨t2, t4, rfl⟩
  · skip
    go_enter Try.func9, Try.ntmps9
    go_wp2_with fail
    refine C1.out.mono ?_
    rintro e w1 ⟨A1, c1, rfl, hown, hnn, hb1⟩
    have HO := Lib.hid hown
    have HB := Lib.hid hb1
    clear hown hnn hb1
    go_wp2_with fail
    refine (C2.out _).mono ?_
    rintro e w' ⟨rfl, rfl⟩
    go_wp2_with (at_builtin; refine wpList_append_rd rfl (.tmp 26) (.tmp 27) rfl w.heap.size _ l rfl (HO.out.alloc _) (some ⟨w1.heap.size, 0, none⟩) 1 1 [253] rfl rfl (Rd.one 253 rfl) (by have := HL.out; simp; omega) (by have := HB.out.size; simp; omega) (l.length + 1) rfl (l ++ [253]) rfl ?_; intro A2 c2 w2 hown2 hg2 hnn2)
    have hb2 := bel_grown (HB.out.alloc HB.out.size _) (by have := HB.out.size; simp; omega) (HO.out.alloc _) (Nat.le_refl _) hg2
    have HO2 := Lib.hid hown2
    have HN2 := Lib.hid hnn2
    have HB2 := Lib.hid hb2
    clear hown2 hg2 hnn2 hb2 t0 t2 HO HB C1 C2
    go_wp2_with fail
    go_loopw [5, 7, 35] (fun v _ i wr => ∃ (j : Nat) (A' : Option Addr) (c' : Nat), j ≤ W ∧ i = .int .i64 j ∧ v = .slice A' (l.length + 1 + j) c' ∧ Own wr w.heap.size (.slice A' (l.length + 1 + j) c') (l ++ (253 :: digs j n)) ∧ (A' = none → c' = 0) ∧ Below w.heap.size w wr) (fun _ _ i _ => W - (intOf i).toNat)
    case atStart => exact ⟨0, A2, c2, by omega, rfl, rfl, by simpa [digs] using HO2.out, HN2.out, HB2.out⟩
    case round =>
      obtain ⟨j, A', c', hj, rfl, rfl, hown', hnn', hbel⟩ := hrel
      have HO := Lib.hid hown'
      have HN := Lib.hid hnn'
      have HB := Lib.hid hbel
      clear hown' hnn' hbel HO2 HN2 HB2
      by_cases hlt : j < W
      · have e9 : IntKind.i64.wrap (8 * (j : Int)) = ((8 * j : Nat) : Int) := IntWalk.i64_in _ (by omega)
        have e9' : 8 * (j : Int) = ((8 * j : Nat) : Int) := by omega
        have hv := byte_cut n j
        have hd := digs_succ j n
        have HD := Lib.hid hd
        have hjk : (j : Int) < W := by omega
        have hln : (l ++ (253 :: digs j n)).length = l.length + 1 + j := by rw [List.length_append, List.length_cons, digs_length]; omega
        have HLN := Lib.hid hln
        clear hd hln
        generalize UInt8.ofNat (n / 2 ^ (8 * j)) = b at *
        generalize hM : 8 * j = M at *
        have HM := Lib.hid hM
        clear hM
        go_wp2_with (at_builtin; refine wpList_append_rd rfl (.tmp 38) (.tmp 44) rfl w.heap.size _ (l ++ (253 :: digs j n)) rfl (HO.out.alloc _) (some ⟨wr.heap.size, 0, none⟩) 1 1 [b] rfl rfl (Rd.one b rfl) (by rw [HLN.out]; have := HL.out; simp; omega) (by have := HB.out.size; simp; omega) (l.length + 1 + j + 1) (by rw [HLN.out]; rfl) (l ++ (253 :: digs (j + 1) n)) (by rw [HD.out]; simp) ?_; intro A2 c2 w2 hown2 hg2 hnn2)
        exact ⟨⟨j + 1, A2, c2, by omega, by go_num, rfl, hown2, hnn2, bel_grown (HB.out.alloc HB.out.size _) (by have := HB.out.size; simp; omega) (HO.out.alloc _) (Nat.le_refl _) hg2⟩, by simp [intOf]; omega⟩
      · obtain rfl : j = W := by omega
        go_wp2_with fail
        go_ret
        exact BytesRet.mk (by rw [List.length_append, List.length_cons, digs_length]; omega) HO.out HN.out HB.out
  · skip
    go_enter Try.func9, Try.ntmps9
    go_wp2_with fail
    refine C1.out.mono ?_
    rintro e w1 ⟨A1, c1, rfl, hown, hnn, hb1⟩
    have HO := Lib.hid hown
    have HB := Lib.hid hb1
    clear hown hnn hb1
    go_wp2_with fail
    refine (C2.out _).mono ?_
    rintro e w' ⟨rfl, rfl⟩
    go_wp2_with (at_builtin; refine wpList_append_rd rfl (.tmp 31) (.tmp 32) rfl w.heap.size _ l rfl (HO.out.alloc _) (some ⟨w1.heap.size, 0, none⟩) 1 1 [254] rfl rfl (Rd.one 254 rfl) (by have := HL.out; simp; omega) (by have := HB.out.size; simp; omega) (l.length + 1) rfl (l ++ [254]) rfl ?_; intro A2 c2 w2 hown2 hg2 hnn2)
    have hb2 := bel_grown (HB.out.alloc HB.out.size _) (by have := HB.out.size; simp; omega) (HO.out.alloc _) (Nat.le_refl _) hg2
    have HO2 := Lib.hid hown2
    have HN2 := Lib.hid hnn2
    have HB2 := Lib.hid hb2
    clear hown2 hg2 hnn2 hb2 t0 t2 HO HB C1 C2
    go_wp2_with fail
    go_loopw [5, 7, 35] (fun v _ i wr => ∃ (j : Nat) (A' : Option Addr) (c' : Nat), j ≤ W ∧ i = .int .i64 j ∧ v = .slice A' (l.length + 1 + j) c' ∧ Own wr w.heap.size (.slice A' (l.length + 1 + j) c') (l ++ (254 :: digs j n)) ∧ (A' = none → c' = 0) ∧ Below w.heap.size w wr) (fun _ _ i _ => W - (intOf i).toNat)
    case atStart => exact ⟨0, A2, c2, by omega, rfl, rfl, by simpa [digs] using HO2.out, HN2.out, HB2.out⟩
    case round =>
      obtain ⟨j, A', c', hj, rfl, rfl, hown', hnn', hbel⟩ := hrel
      have HO := Lib.hid hown'
      have HN := Lib.hid hnn'
      have HB := Lib.hid hbel
      clear hown' hnn' hbel HO2 HN2 HB2
      by_cases hlt : j < W
      · have e9 : IntKind.i64.wrap (8 * (j : Int)) = ((8 * j : Nat) : Int) := IntWalk.i64_in _ (by omega)
        have e9' : 8 * (j : Int) = ((8 * j : Nat) : Int) := by omega
        have hv := byte_cut n j
        have hd := digs_succ j n
        have HD := Lib.hid hd
        have hjk : (j : Int) < W := by omega
        have hln : (l ++ (254 :: digs j n)).length = l.length + 1 + j := by rw [List.length_append, List.length_cons, digs_length]; omega
        have HLN := Lib.hid hln
        clear hd hln
        generalize UInt8.ofNat (n / 2 ^ (8 * j)) = b at *
        generalize hM : 8 * j = M at *
        have HM := Lib.hid hM
        clear hM
        go_wp2_with (at_builtin; refine wpList_append_rd rfl (.tmp 38) (.tmp 44) rfl w.heap.size _ (l ++ (254 :: digs j n)) rfl (HO.out.alloc _) (some ⟨wr.heap.size, 0, none⟩) 1 1 [b] rfl rfl (Rd.one b rfl) (by rw [HLN.out]; have := HL.out; simp; omega) (by have := HB.out.size; simp; omega) (l.length + 1 + j + 1) (by rw [HLN.out]; rfl) (l ++ (254 :: digs (j + 1) n)) (by rw [HD.out]; simp) ?_; intro A2 c2 w2 hown2 hg2 hnn2)
        exact ⟨⟨j + 1, A2, c2, by omega, by go_num, rfl, hown2, hnn2, bel_grown (HB.out.alloc HB.out.size _) (by have := HB.out.size; simp; omega) (HO.out.alloc _) (Nat.le_refl _) hg2⟩, by simp [intOf]; omega⟩
      · obtain rfl : j = W := by omega
        go_wp2_with fail
        go_ret
        exact BytesRet.mk (by rw [List.length_append, List.length_cons, digs_length]; omega) HO.out HN.out HB.out
  · skip
    go_enter Try.func9, Try.ntmps9
    go_wp2_with fail
    refine C1.out.mono ?_
    rintro e w1 ⟨A1, c1, rfl, hown, hnn, hb1⟩
    have HO := Lib.hid hown
    have HB := Lib.hid hb1
    clear hown hnn hb1
    go_wp2_with fail
    refine (C2.out _).mono ?_
    rintro e w' ⟨rfl, rfl⟩
    go_wp2_with (at_builtin; refine wpList_append_rd rfl (.tmp 14) (.tmp 15) rfl w.heap.size _ l rfl (HO.out.alloc _) (some ⟨w1.heap.size, 0, none⟩) 1 1 [255] rfl rfl (Rd.one 255 rfl) (by have := HL.out; simp; omega) (by have := HB.out.size; simp; omega) (l.length + 1) rfl (l ++ [255]) rfl ?_; intro A2 c2 w2 hown2 hg2 hnn2)
    have hb2 := bel_grown (HB.out.alloc HB.out.size _) (by have := HB.out.size; simp; omega) (HO.out.alloc _) (Nat.le_refl _) hg2
    have HO2 := Lib.hid hown2
    have HN2 := Lib.hid hnn2
    have HB2 := Lib.hid hb2
    clear hown2 hg2 hnn2 hb2 t0 t2 HO HB C1 C2
    go_wp2_with fail
    go_loopw [5, 7, 35] (fun v _ i wr => ∃ (j : Nat) (A' : Option Addr) (c' : Nat), j ≤ W ∧ i = .int .i64 j ∧ v = .slice A' (l.length + 1 + j) c' ∧ Own wr w.heap.size (.slice A' (l.length + 1 + j) c') (l ++ (255 :: digs j n)) ∧ (A' = none → c' = 0) ∧ Below w.heap.size w wr) (fun _ _ i _ => W - (intOf i).toNat)
    case atStart => exact ⟨0, A2, c2, by omega, rfl, rfl, by simpa [digs] using HO2.out, HN2.out, HB2.out⟩
    case round =>
      obtain ⟨j, A', c', hj, rfl, rfl, hown', hnn', hbel⟩ := hrel
      have HO := Lib.hid hown'
      have HN := Lib.hid hnn'
      have HB := Lib.hid hbel
      clear hown' hnn' hbel HO2 HN2 HB2
      by_cases hlt : j < W
      · have e9 : IntKind.i64.wrap (8 * (j : Int)) = ((8 * j : Nat) : Int) := IntWalk.i64_in _ (by omega)
        have e9' : 8 * (j : Int) = ((8 * j : Nat) : Int) := by omega
        have hv := byte_cut n j
        have hd := digs_succ j n
        have HD := Lib.hid hd
        have hjk : (j : Int) < W := by omega
        have hln : (l ++ (255 :: digs j n)).length = l.length + 1 + j := by rw [List.length_append, List.length_cons, digs_length]; omega
        have HLN := Lib.hid hln
        clear hd hln
        generalize UInt8.ofNat (n / 2 ^ (8 * j)) = b at *
        generalize hM : 8 * j = M at *
        have HM := Lib.hid hM
        clear hM
        go_wp2_with (at_builtin; refine wpList_append_rd rfl (.tmp 38) (.tmp 44) rfl w.heap.size _ (l ++ (255 :: digs j n)) rfl (HO.out.alloc _) (some ⟨wr.heap.size, 0, none⟩) 1 1 [b] rfl rfl (Rd.one b rfl) (by rw [HLN.out]; have := HL.out; simp; omega) (by have := HB.out.size; simp; omega) (l.length + 1 + j + 1) (by rw [HLN.out]; rfl) (l ++ (255 :: digs (j + 1) n)) (by rw [HD.out]; simp) ?_; intro A2 c2 w2 hown2 hg2 hnn2)
        exact ⟨⟨j + 1, A2, c2, by omega, by go_num, rfl, hown2, hnn2, bel_grown (HB.out.alloc HB.out.size _) (by have := HB.out.size; simp; omega) (HO.out.alloc _) (Nat.le_refl _) hg2⟩, by simp [intOf]; omega⟩
      · obtain rfl : j = W := by omega
        go_wp2_with fail
        go_ret
        exact BytesRet.mk (by rw [List.length_append, List.length_cons, digs_length]; omega) HO.out HN.out HB.out
theorem cput_any (A : Option Addr) (c : Nat) (l : List UInt8) (n : Nat) (w : World) (h0 : A = none → l.length = 0 ∧ c = 0) (hr : Rd w A l) (hl : l.length ≤ 100000) :
    Calls Try.prog 9 #[.slice A l.length c, .int .u64 n] w (BytesRet (l ++ cform n) w) := by
  by_cases hn : n < 253
  · exact cput_small A c l n w h0 hr hl hn
  · exact cput_wide A c l n w h0 hr hl hn
end Go.Proofs.Ytgmbdhpanhkfhaa
