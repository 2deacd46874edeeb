/- The law of puts, the walk. -/
import Derived.Test.YtgmbdhpanhkfhaaCoE
import Derived.Test.YtgmbdhpanhkfhaaMix
namespace Go.Proofs.Ytgmbdhpanhkfhaa
open Go.RowKit Go.Lib Go.ChangeShapes Go.WideShapes

theorem size_b (n : Nat) (w : World) : Calls Try.prog 10 #[.int .u64 n] w (BRet (.int .i64 (csize n : Nat)) w) :=
  (size_any n w).mono fun _ _ ⟨h1, h2⟩ => ⟨h1, by subst h2; exact Below.refl _ _⟩
theorem Own.cap {w : World} {base : Nat} {A : Option Addr} {n c : Nat} {l : List UInt8} (h : Own w base (.slice A n c) l) (hl : 0 < l.length) : l.length ≤ c ∧ ∃ g, A = some ⟨g, 0, none⟩ ∧ base ≤ g ∧ g < w.heap.size := by
  rcases h.2 with ⟨_, h0⟩ | ⟨g, cap, cur, hv, hb, hg, hle, _⟩
  · omega
  · injection hv with h1 h2 h3
    have := (IsBlk.lt (show IsBlk w g 5 cur from hg))
    exact ⟨by omega, g, h1, hb, this⟩

set_option maxRecDepth 100000 in
set_option maxHeartbeats 8000000 in
theorem puts_case (A B : Option Addr) (L T c d m k n : Nat) (l t : List UInt8) (w : World) (hm : m = min L 3000) (hk : k = min T 3000) (hL : L ≤ c) (hT : T ≤ d) (hl : l.length = m) (ht : t.length = k) (hr : Rd w A l) (hs : Rd w B t) (hn : n < 2 ^ 64) :
    Calls Try.prog 4 #[.slice A L c, .slice B T d, .int .u64 n] w (BRet (.bool true) w) := by
  have K1 := Lib.hid (fun w => cut_any A L c m w hm hL)
  have K2 := Lib.hid (fun w => cut_any B T d k w hk hT)
  have hm3 : m ≤ 3000 := by omega
  have hm7 : (m : Int) < (m : Int) + 3 := by omega
  have hk3 : k ≤ 3000 := by omega
  have C1 := Lib.hid (fun A7 c7 w' (h0 : A7 = none → l.length = 0 ∧ c7 = 0) (h : Rd w' A7 l) => cput_any A7 c7 l n w' h0 h (by omega))
  have C2 := Lib.hid (fun A7 c7 w' (h0 : A7 = none → l.length = 0 ∧ c7 = 0) (h : Rd w' A7 l) (h2 : Rd w' B t) => ctext_any A7 B c7 d l t w' h0 h (by omega) h2 (by omega))
  have C3 := Lib.hid (fun w' (h : Rd w' A l) => refCput_any A c l n w' h (by omega) hn)
  have C4 := Lib.hid (fun w' (h : Rd w' A l) (h2 : Rd w' B t) => refCtext_any A B c d l t w' h (by omega) h2 (by omega))
  have C5 := Lib.hid (size_b n)
  have C6 := Lib.hid (fun w' => refSize_any n w' hn)
  have AW := Lib.hid works_any
  rw [hl, ht] at C2 C4
  rw [hl] at C1 C3
  have HL := Lib.hid hl
  have HT := Lib.hid ht
  have HR := Lib.hid hr
  have HS := Lib.hid hs
  generalize hP : l ++ cform n = P at *
  generalize hQ : l ++ cform k ++ t = Q at *
  generalize csize n = sz at *
  clear hm hk hL hT hl ht hr hs hn hP hQ
  go_enter Try.func4, Try.ntmps4
  go_wp2_with fail
  refine (K1.out _).mono ?_
  rintro e w' ⟨rfl, rfl⟩
  go_wp2_with fail
  refine (K2.out _).mono ?_
  rintro e w' ⟨rfl, rfl⟩
  go_wp2_with (first
    | (at_builtin; refine wpList_append_rd rfl (.tmp 14) (.tmp 15) rfl w.heap.size _ [] rfl (Own.empty w) A m c l rfl HL.out.symm (HR.out.alloc _) (by have := HL.out; simp; omega) (by simp) m (by have := HL.out; simp; omega) l (by simp) ?_; intro A1 c1 w1 hown1 hg1 hnn1)
    | (at_builtin; refine wpList_append_rd rfl (.tmp 16) (.tmp 17) rfl w.heap.size _ l rfl (hown1.alloc _) (some ⟨w1.heap.size, 0, none⟩) 3 3 [7, 7, 7] rfl rfl (Own.lit [7, 7, 7] rfl (by simp)).rd (by have := HL.out; simp; omega) (by have := hg1.size; simp at this; simp; omega) (m + 3) (by rw [HL.out]; rfl) (l ++ [7, 7, 7]) rfl ?_; intro A7 c7 w2 hown2 hg2 hnn2; have hcap7 : m ≤ c7 := by have := (Own.cap hown2 (by simp)).1; have := HL.out; simp at *; omega))
  have hb1 := bel_grown ((Below.refl w.heap.size w).alloc (Nat.le_refl _) (.cells #[] 5)) (by simp) (Own.empty w) (Nat.le_refl _) hg1
  have hb2 := bel_grown (hb1.alloc hb1.size (.cells (byteCells [7, 7, 7]).toArray 5)) (by have := hb1.size; simp; omega) (hown1.alloc _) (Nat.le_refl _) hg2
  obtain ⟨_, g7, rfl, hg7, hl7⟩ := Own.cap hown2 (by simp)
  have hrd7 : Rd w2 (some ⟨g7, 0, none⟩) l := by
    have := hown2.rd.take m
    rwa [List.take_append_of_le_length (by rw [HL.out]; omega), List.take_of_length_le (by rw [HL.out]; omega)] at this
  have HO := Lib.hid hown2
  have HD := Lib.hid hrd7
  have HB := Lib.hid hb2
  have HG7 := Lib.hid hg7
  clear hown1 hg1 hnn1 hown2 hg2 hnn2 hb1 hb2 hrd7 hg7 hl7
  refine (C1.out _ _ _ (fun h => by cases h) HD.out).mono ?_
  rintro e w3 ⟨Ap, cp, rfl, hown3, _, hb3⟩
  have HP3 := Lib.hid hown3
  have HO3 := Lib.hid (HO.out.after hb3)
  have HD3 := Lib.hid (HD.out.after hb3)
  have HB3 := Lib.hid (bel_on HB.out hb3)
  clear hown3 hb3
  go_wp2_with fail
  refine (C2.out _ _ _ (fun h => by cases h) HD3.out (HS.out.after HB3.out)).mono ?_
  rintro e w4 ⟨Aq, cq, rfl, hown4, _, hb4⟩
  have HQ4 := Lib.hid hown4
  have HP4 := Lib.hid (HP3.out.after hb4)
  have HO4 := Lib.hid (HO3.out.after hb4)
  have HD4 := Lib.hid (HD3.out.after hb4)
  have HB4 := Lib.hid (bel_on HB3.out hb4)
  clear hown4 hb4
  go_wp2_with fail
  refine Held.start 45 (Ext w4) (by kernel_rfl) rfl (Below.refl _ _).drew ?_
  have HP := Lib.hid (fun w' (h : Ext w4 w') => run_str (c := cp) (HP4.out.rd.after h) rfl)
  have HQ := Lib.hid (fun w' (h : Ext w4 w') => run_str (c := cq) (HQ4.out.rd.after h) rfl)
  have HRb := Lib.hid (HR.out.after HB4.out)
  have HSb := Lib.hid (HS.out.after HB4.out)
  have HK := Lib.hid (fun w' (h : Ext w4 w') => run_str (c := c) (HRb.out.after h) HL.out.symm)
  have HJ := Lib.hid (fun w' (h : Ext w4 w') => run_str (c := c7) (HD4.out.after h) HL.out.symm)
  have H7 := Lib.hid (fun w' (h : Ext w4 w') => show w'.cell? ⟨g7, m, none⟩ = some (.int .u8 7) from by
    have h1 := (HO4.out.after h)
    have hc := World.ownsRow.cells h1 (g := g7) rfl m (.int .u8 7) (by have := HL.out; simp [byteCells, this])
    have e : (⟨g7, 0, none⟩ : Addr).add m = ⟨g7, m, none⟩ := by unfold Addr.add; split <;> simp_all
    rwa [e] at hc)
  clear HP3 HO3 HD3 HB3 HO HD HB K1 K2 C1 C2
  (first | (refine Held.skip (i := 0) rfl (by kernel_rfl) (fun _ _ _ h => h) rfl ?_; (try simp only [Act.put, List.setIfInBounds_toArray, List.set_cons_zero, List.set_cons_succ])) | (refine Held.take (i := 0) (v := ?_) rfl (by kernel_rfl) (fun _ _ _ h => h) rfl ?_ ?_; rotate_left; (intro w hS; have s1 := HP.out w hS; go_simp; with_reducible rfl); (try simp only [Act.put, List.setIfInBounds_toArray, List.set_cons_zero, List.set_cons_succ])))
  (first | (refine Held.skip (i := 1) rfl (by kernel_rfl) (fun _ _ _ h => h) rfl ?_; (try simp only [Act.put, List.setIfInBounds_toArray, List.set_cons_zero, List.set_cons_succ])) | (refine Held.take (i := 1) (v := ?_) rfl (by kernel_rfl) (fun _ _ _ h => h) rfl ?_ ?_; rotate_left; (intro w hS; have s1 := HP.out w hS; go_simp; with_reducible rfl); (try simp only [Act.put, List.setIfInBounds_toArray, List.set_cons_zero, List.set_cons_succ])))
  (first | (refine Held.skip (i := 2) rfl (by kernel_rfl) (fun _ _ _ h => h) rfl ?_; (try simp only [Act.put, List.setIfInBounds_toArray, List.set_cons_zero, List.set_cons_succ])) | (refine Held.take (i := 2) (v := ?_) rfl (by kernel_rfl) (fun _ _ _ h => h) rfl ?_ ?_; rotate_left; (intro w hS; have s1 := HP.out w hS; go_simp; with_reducible rfl); (try simp only [Act.put, List.setIfInBounds_toArray, List.set_cons_zero, List.set_cons_succ])))
  (first | (refine Held.skip (i := 3) rfl (by kernel_rfl) (fun _ _ _ h => h) rfl ?_; (try simp only [Act.put, List.setIfInBounds_toArray, List.set_cons_zero, List.set_cons_succ])) | (refine Held.take (i := 3) (v := ?_) rfl (by kernel_rfl) (fun _ _ _ h => h) rfl ?_ ?_; rotate_left; (intro w hS; have s1 := HP.out w hS; go_simp; with_reducible rfl); (try simp only [Act.put, List.setIfInBounds_toArray, List.set_cons_zero, List.set_cons_succ])))
  refine Held.call (i := 4) (f := ?_) (args := ?_) rfl (by kernel_rfl) rfl ?_ ?_
  rotate_left 2
  · (intro w hS; skip; go_simp; (first | with_reducible rfl | (refine ⟨?_, ?_⟩ <;> with_reducible rfl)))
  intro wp hSp
  skip
  refine (C3.out _ (HRb.out.after hSp)).mono ?_
  rintro e vp ⟨x, cx, rfl, hownx, _, hb⟩
  refine ⟨_, rfl, Ext vp, Ext.refl _, fun w h => Ext.on (Ext.on hSp hb) h, ?_⟩
  try simp only [Act.put, List.setIfInBounds_toArray, List.set_cons_zero, List.set_cons_succ]
  have E1 := Lib.hid (Ext.on hSp hb)
  have HX := Lib.hid (fun w' (h : Ext vp w') => run_str (c := cx) (hownx.rd.after h) rfl)
  clear hownx hSp hb
  (first | (refine Held.skip (i := 5) rfl (by kernel_rfl) (fun _ _ _ h => h) rfl ?_; (try simp only [Act.put, List.setIfInBounds_toArray, List.set_cons_zero, List.set_cons_succ])) | (refine Held.take (i := 5) (v := ?_) rfl (by kernel_rfl) (fun _ _ _ h => h) rfl ?_ ?_; rotate_left; (intro w hS; have s1 := HX.out w hS; have s2 := HQ.out w (E1.out.on hS); go_simp; with_reducible rfl); (try simp only [Act.put, List.setIfInBounds_toArray, List.set_cons_zero, List.set_cons_succ])))
  (first | (refine Held.skip (i := 6) rfl (by kernel_rfl) (fun _ _ _ h => h) rfl ?_; (try simp only [Act.put, List.setIfInBounds_toArray, List.set_cons_zero, List.set_cons_succ])) | (refine Held.take (i := 6) (v := ?_) rfl (by kernel_rfl) (fun _ _ _ h => h) rfl ?_ ?_; rotate_left; (intro w hS; have s1 := HX.out w hS; have s2 := HQ.out w (E1.out.on hS); go_simp; with_reducible rfl); (try simp only [Act.put, List.setIfInBounds_toArray, List.set_cons_zero, List.set_cons_succ])))
  (first | (refine Held.skip (i := 7) rfl (by kernel_rfl) (fun _ _ _ h => h) rfl ?_; (try simp only [Act.put, List.setIfInBounds_toArray, List.set_cons_zero, List.set_cons_succ])) | (refine Held.take (i := 7) (v := ?_) rfl (by kernel_rfl) (fun _ _ _ h => h) rfl ?_ ?_; rotate_left; (intro w hS; have s1 := HX.out w hS; have s2 := HQ.out w (E1.out.on hS); go_simp; with_reducible rfl); (try simp only [Act.put, List.setIfInBounds_toArray, List.set_cons_zero, List.set_cons_succ])))
  (first | (refine Held.skip (i := 8) rfl (by kernel_rfl) (fun _ _ _ h => h) rfl ?_; (try simp only [Act.put, List.setIfInBounds_toArray, List.set_cons_zero, List.set_cons_succ])) | (refine Held.take (i := 8) (v := ?_) rfl (by kernel_rfl) (fun _ _ _ h => h) rfl ?_ ?_; rotate_left; (intro w hS; have s1 := HX.out w hS; have s2 := HQ.out w (E1.out.on hS); go_simp; with_reducible rfl); (try simp only [Act.put, List.setIfInBounds_toArray, List.set_cons_zero, List.set_cons_succ])))
  (first | (refine Held.skip (i := 9) rfl (by kernel_rfl) (fun _ _ _ h => h) rfl ?_; (try simp only [Act.put, List.setIfInBounds_toArray, List.set_cons_zero, List.set_cons_succ])) | (refine Held.take (i := 9) (v := ?_) rfl (by kernel_rfl) (fun _ _ _ h => h) rfl ?_ ?_; rotate_left; (intro w hS; have s1 := HX.out w hS; have s2 := HQ.out w (E1.out.on hS); go_simp; with_reducible rfl); (try simp only [Act.put, List.setIfInBounds_toArray, List.set_cons_zero, List.set_cons_succ])))
  (first | (refine Held.skip (i := 10) rfl (by kernel_rfl) (fun _ _ _ h => h) rfl ?_; (try simp only [Act.put, List.setIfInBounds_toArray, List.set_cons_zero, List.set_cons_succ])) | (refine Held.take (i := 10) (v := ?_) rfl (by kernel_rfl) (fun _ _ _ h => h) rfl ?_ ?_; rotate_left; (intro w hS; have s1 := HX.out w hS; have s2 := HQ.out w (E1.out.on hS); go_simp; with_reducible rfl); (try simp only [Act.put, List.setIfInBounds_toArray, List.set_cons_zero, List.set_cons_succ])))
  (first | (refine Held.skip (i := 11) rfl (by kernel_rfl) (fun _ _ _ h => h) rfl ?_; (try simp only [Act.put, List.setIfInBounds_toArray, List.set_cons_zero, List.set_cons_succ])) | (refine Held.take (i := 11) (v := ?_) rfl (by kernel_rfl) (fun _ _ _ h => h) rfl ?_ ?_; rotate_left; (intro w hS; have s1 := HX.out w hS; have s2 := HQ.out w (E1.out.on hS); go_simp; with_reducible rfl); (try simp only [Act.put, List.setIfInBounds_toArray, List.set_cons_zero, List.set_cons_succ])))
  refine Held.call (i := 12) (f := ?_) (args := ?_) rfl (by kernel_rfl) rfl ?_ ?_
  rotate_left 2
  · (intro w hS; skip; go_simp; (first | with_reducible rfl | (refine ⟨?_, ?_⟩ <;> with_reducible rfl)))
  intro wq hSq
  skip
  refine (C4.out _ (HRb.out.after (E1.out.on hSq)) (HSb.out.after (E1.out.on hSq))).mono ?_
  rintro e vq ⟨y, cy, rfl, howny, _, hb⟩
  refine ⟨_, rfl, Ext vq, Ext.refl _, fun w h => Ext.on (Ext.on hSq hb) h, ?_⟩
  try simp only [Act.put, List.setIfInBounds_toArray, List.set_cons_zero, List.set_cons_succ]
  have E2 := Lib.hid (E1.out.on (Ext.on hSq hb))
  have HY := Lib.hid (fun w' (h : Ext vq w') => run_str (c := cy) (howny.rd.after h) rfl)
  clear howny hSq hb
  (first | (refine Held.skip (i := 13) rfl (by kernel_rfl) (fun _ _ _ h => h) rfl ?_; (try simp only [Act.put, List.setIfInBounds_toArray, List.set_cons_zero, List.set_cons_succ])) | (refine Held.take (i := 13) (v := ?_) rfl (by kernel_rfl) (fun _ _ _ h => h) rfl ?_ ?_; rotate_left; (intro w hS; have s1 := HY.out w hS; go_simp; with_reducible rfl); (try simp only [Act.put, List.setIfInBounds_toArray, List.set_cons_zero, List.set_cons_succ])))
  (first | (refine Held.skip (i := 14) rfl (by kernel_rfl) (fun _ _ _ h => h) rfl ?_; (try simp only [Act.put, List.setIfInBounds_toArray, List.set_cons_zero, List.set_cons_succ])) | (refine Held.take (i := 14) (v := ?_) rfl (by kernel_rfl) (fun _ _ _ h => h) rfl ?_ ?_; rotate_left; (intro w hS; have s1 := HY.out w hS; go_simp; with_reducible rfl); (try simp only [Act.put, List.setIfInBounds_toArray, List.set_cons_zero, List.set_cons_succ])))
  (first | (refine Held.skip (i := 15) rfl (by kernel_rfl) (fun _ _ _ h => h) rfl ?_; (try simp only [Act.put, List.setIfInBounds_toArray, List.set_cons_zero, List.set_cons_succ])) | (refine Held.take (i := 15) (v := ?_) rfl (by kernel_rfl) (fun _ _ _ h => h) rfl ?_ ?_; rotate_left; (intro w hS; have s1 := HY.out w hS; go_simp; with_reducible rfl); (try simp only [Act.put, List.setIfInBounds_toArray, List.set_cons_zero, List.set_cons_succ])))
  (first | (refine Held.skip (i := 16) rfl (by kernel_rfl) (fun _ _ _ h => h) rfl ?_; (try simp only [Act.put, List.setIfInBounds_toArray, List.set_cons_zero, List.set_cons_succ])) | (refine Held.take (i := 16) (v := ?_) rfl (by kernel_rfl) (fun _ _ _ h => h) rfl ?_ ?_; rotate_left; (intro w hS; have s1 := HY.out w hS; go_simp; with_reducible rfl); (try simp only [Act.put, List.setIfInBounds_toArray, List.set_cons_zero, List.set_cons_succ])))
  (first | (refine Held.skip (i := 17) rfl (by kernel_rfl) (fun _ _ _ h => h) rfl ?_; (try simp only [Act.put, List.setIfInBounds_toArray, List.set_cons_zero, List.set_cons_succ])) | (refine Held.take (i := 17) (v := ?_) rfl (by kernel_rfl) (fun _ _ _ h => h) rfl ?_ ?_; rotate_left; (intro w hS; have s1 := HY.out w hS; go_simp; with_reducible rfl); (try simp only [Act.put, List.setIfInBounds_toArray, List.set_cons_zero, List.set_cons_succ])))
  (first | (refine Held.skip (i := 19) rfl (by kernel_rfl) (fun _ _ _ h => h) rfl ?_; (try simp only [Act.put, List.setIfInBounds_toArray, List.set_cons_zero, List.set_cons_succ])) | (refine Held.take (i := 19) (v := ?_) rfl (by kernel_rfl) (fun _ _ _ h => h) rfl ?_ ?_; rotate_left; (intro w hS; have s1 := HY.out w hS; go_simp; with_reducible rfl); (try simp only [Act.put, List.setIfInBounds_toArray, List.set_cons_zero, List.set_cons_succ])))
  refine Held.call (i := 18) (f := ?_) (args := ?_) rfl (by kernel_rfl) rfl ?_ ?_
  rotate_left 2
  · (intro w hS; skip; go_simp; (first | with_reducible rfl | (refine ⟨?_, ?_⟩ <;> with_reducible rfl)))
  intro wr hSr
  skip
  refine (C5.out _).mono ?_
  rintro e vr ⟨rfl, hb⟩
  refine ⟨_, rfl, Ext vr, Ext.refl _, fun w h => Ext.on (Ext.on hSr hb) h, ?_⟩
  try simp only [Act.put, List.setIfInBounds_toArray, List.set_cons_zero, List.set_cons_succ]
  have E3 := Lib.hid (E2.out.on (Ext.on hSr hb))
  clear hSr hb
  refine Held.call (i := 20) (f := ?_) (args := ?_) rfl (by kernel_rfl) rfl ?_ ?_
  rotate_left 2
  · (intro w hS; skip; go_simp; (first | with_reducible rfl | (refine ⟨?_, ?_⟩ <;> with_reducible rfl)))
  intro ws hSs
  skip
  refine (C6.out _).mono ?_
  rintro e vs ⟨rfl, hb⟩
  refine ⟨_, rfl, Ext vs, Ext.refl _, fun w h => Ext.on (Ext.on hSs hb) h, ?_⟩
  try simp only [Act.put, List.setIfInBounds_toArray, List.set_cons_zero, List.set_cons_succ]
  have E4 := Lib.hid (E3.out.on (Ext.on hSs hb))
  clear hSs hb
  (first | (refine Held.skip (i := 21) rfl (by kernel_rfl) (fun _ _ _ h => h) rfl ?_; (try simp only [Act.put, List.setIfInBounds_toArray, List.set_cons_zero, List.set_cons_succ])) | (refine Held.take (i := 21) (v := ?_) rfl (by kernel_rfl) (fun _ _ _ h => h) rfl ?_ ?_; rotate_left; (intro w hS; have q7 := H7.out w (E4.out.on hS); have s3 := HK.out w (E4.out.on hS); have s4 := HJ.out w (E4.out.on hS); go_simp; with_reducible rfl); (try simp only [Act.put, List.setIfInBounds_toArray, List.set_cons_zero, List.set_cons_succ])))
  (first | (refine Held.skip (i := 22) rfl (by kernel_rfl) (fun _ _ _ h => h) rfl ?_; (try simp only [Act.put, List.setIfInBounds_toArray, List.set_cons_zero, List.set_cons_succ])) | (refine Held.take (i := 22) (v := ?_) rfl (by kernel_rfl) (fun _ _ _ h => h) rfl ?_ ?_; rotate_left; (intro w hS; have q7 := H7.out w (E4.out.on hS); have s3 := HK.out w (E4.out.on hS); have s4 := HJ.out w (E4.out.on hS); go_simp; with_reducible rfl); (try simp only [Act.put, List.setIfInBounds_toArray, List.set_cons_zero, List.set_cons_succ])))
  (first | (refine Held.skip (i := 23) rfl (by kernel_rfl) (fun _ _ _ h => h) rfl ?_; (try simp only [Act.put, List.setIfInBounds_toArray, List.set_cons_zero, List.set_cons_succ])) | (refine Held.take (i := 23) (v := ?_) rfl (by kernel_rfl) (fun _ _ _ h => h) rfl ?_ ?_; rotate_left; (intro w hS; have q7 := H7.out w (E4.out.on hS); have s3 := HK.out w (E4.out.on hS); have s4 := HJ.out w (E4.out.on hS); go_simp; with_reducible rfl); (try simp only [Act.put, List.setIfInBounds_toArray, List.set_cons_zero, List.set_cons_succ])))
  (first | (refine Held.skip (i := 24) rfl (by kernel_rfl) (fun _ _ _ h => h) rfl ?_; (try simp only [Act.put, List.setIfInBounds_toArray, List.set_cons_zero, List.set_cons_succ])) | (refine Held.take (i := 24) (v := ?_) rfl (by kernel_rfl) (fun _ _ _ h => h) rfl ?_ ?_; rotate_left; (intro w hS; have q7 := H7.out w (E4.out.on hS); have s3 := HK.out w (E4.out.on hS); have s4 := HJ.out w (E4.out.on hS); go_simp; with_reducible rfl); (try simp only [Act.put, List.setIfInBounds_toArray, List.set_cons_zero, List.set_cons_succ])))
  (first | (refine Held.skip (i := 25) rfl (by kernel_rfl) (fun _ _ _ h => h) rfl ?_; (try simp only [Act.put, List.setIfInBounds_toArray, List.set_cons_zero, List.set_cons_succ])) | (refine Held.take (i := 25) (v := ?_) rfl (by kernel_rfl) (fun _ _ _ h => h) rfl ?_ ?_; rotate_left; (intro w hS; have q7 := H7.out w (E4.out.on hS); have s3 := HK.out w (E4.out.on hS); have s4 := HJ.out w (E4.out.on hS); go_simp; with_reducible rfl); (try simp only [Act.put, List.setIfInBounds_toArray, List.set_cons_zero, List.set_cons_succ])))
  (first | (refine Held.skip (i := 26) rfl (by kernel_rfl) (fun _ _ _ h => h) rfl ?_; (try simp only [Act.put, List.setIfInBounds_toArray, List.set_cons_zero, List.set_cons_succ])) | (refine Held.take (i := 26) (v := ?_) rfl (by kernel_rfl) (fun _ _ _ h => h) rfl ?_ ?_; rotate_left; (intro w hS; have q7 := H7.out w (E4.out.on hS); have s3 := HK.out w (E4.out.on hS); have s4 := HJ.out w (E4.out.on hS); go_simp; with_reducible rfl); (try simp only [Act.put, List.setIfInBounds_toArray, List.set_cons_zero, List.set_cons_succ])))
  (first | (refine Held.skip (i := 27) rfl (by kernel_rfl) (fun _ _ _ h => h) rfl ?_; (try simp only [Act.put, List.setIfInBounds_toArray, List.set_cons_zero, List.set_cons_succ])) | (refine Held.take (i := 27) (v := ?_) rfl (by kernel_rfl) (fun _ _ _ h => h) rfl ?_ ?_; rotate_left; (intro w hS; have q7 := H7.out w (E4.out.on hS); have s3 := HK.out w (E4.out.on hS); have s4 := HJ.out w (E4.out.on hS); go_simp; with_reducible rfl); (try simp only [Act.put, List.setIfInBounds_toArray, List.set_cons_zero, List.set_cons_succ])))
  (first | (refine Held.skip (i := 28) rfl (by kernel_rfl) (fun _ _ _ h => h) rfl ?_; (try simp only [Act.put, List.setIfInBounds_toArray, List.set_cons_zero, List.set_cons_succ])) | (refine Held.take (i := 28) (v := ?_) rfl (by kernel_rfl) (fun _ _ _ h => h) rfl ?_ ?_; rotate_left; (intro w hS; have q7 := H7.out w (E4.out.on hS); have s3 := HK.out w (E4.out.on hS); have s4 := HJ.out w (E4.out.on hS); go_simp; with_reducible rfl); (try simp only [Act.put, List.setIfInBounds_toArray, List.set_cons_zero, List.set_cons_succ])))
  (first | (refine Held.skip (i := 29) rfl (by kernel_rfl) (fun _ _ _ h => h) rfl ?_; (try simp only [Act.put, List.setIfInBounds_toArray, List.set_cons_zero, List.set_cons_succ])) | (refine Held.take (i := 29) (v := ?_) rfl (by kernel_rfl) (fun _ _ _ h => h) rfl ?_ ?_; rotate_left; (intro w hS; have q7 := H7.out w (E4.out.on hS); have s3 := HK.out w (E4.out.on hS); have s4 := HJ.out w (E4.out.on hS); go_simp; with_reducible rfl); (try simp only [Act.put, List.setIfInBounds_toArray, List.set_cons_zero, List.set_cons_succ])))
  (first | (refine Held.skip (i := 30) rfl (by kernel_rfl) (fun _ _ _ h => h) rfl ?_; (try simp only [Act.put, List.setIfInBounds_toArray, List.set_cons_zero, List.set_cons_succ])) | (refine Held.take (i := 30) (v := ?_) rfl (by kernel_rfl) (fun _ _ _ h => h) rfl ?_ ?_; rotate_left; (intro w hS; have q7 := H7.out w (E4.out.on hS); have s3 := HK.out w (E4.out.on hS); have s4 := HJ.out w (E4.out.on hS); go_simp; with_reducible rfl); (try simp only [Act.put, List.setIfInBounds_toArray, List.set_cons_zero, List.set_cons_succ])))
  (first | (refine Held.skip (i := 31) rfl (by kernel_rfl) (fun _ _ _ h => h) rfl ?_; (try simp only [Act.put, List.setIfInBounds_toArray, List.set_cons_zero, List.set_cons_succ])) | (refine Held.take (i := 31) (v := ?_) rfl (by kernel_rfl) (fun _ _ _ h => h) rfl ?_ ?_; rotate_left; (intro w hS; have q7 := H7.out w (E4.out.on hS); have s3 := HK.out w (E4.out.on hS); have s4 := HJ.out w (E4.out.on hS); go_simp; with_reducible rfl); (try simp only [Act.put, List.setIfInBounds_toArray, List.set_cons_zero, List.set_cons_succ])))
  (first | (refine Held.skip (i := 32) rfl (by kernel_rfl) (fun _ _ _ h => h) rfl ?_; (try simp only [Act.put, List.setIfInBounds_toArray, List.set_cons_zero, List.set_cons_succ])) | (refine Held.take (i := 32) (v := ?_) rfl (by kernel_rfl) (fun _ _ _ h => h) rfl ?_ ?_; rotate_left; (intro w hS; have q7 := H7.out w (E4.out.on hS); have s3 := HK.out w (E4.out.on hS); have s4 := HJ.out w (E4.out.on hS); go_simp; with_reducible rfl); (try simp only [Act.put, List.setIfInBounds_toArray, List.set_cons_zero, List.set_cons_succ])))
  (first | (refine Held.skip (i := 33) rfl (by kernel_rfl) (fun _ _ _ h => h) rfl ?_; (try simp only [Act.put, List.setIfInBounds_toArray, List.set_cons_zero, List.set_cons_succ])) | (refine Held.take (i := 33) (v := ?_) rfl (by kernel_rfl) (fun _ _ _ h => h) rfl ?_ ?_; rotate_left; (intro w hS; have q7 := H7.out w (E4.out.on hS); have s3 := HK.out w (E4.out.on hS); have s4 := HJ.out w (E4.out.on hS); go_simp; with_reducible rfl); (try simp only [Act.put, List.setIfInBounds_toArray, List.set_cons_zero, List.set_cons_succ])))
  (first | (refine Held.skip (i := 34) rfl (by kernel_rfl) (fun _ _ _ h => h) rfl ?_; (try simp only [Act.put, List.setIfInBounds_toArray, List.set_cons_zero, List.set_cons_succ])) | (refine Held.take (i := 34) (v := ?_) rfl (by kernel_rfl) (fun _ _ _ h => h) rfl ?_ ?_; rotate_left; (intro w hS; have q7 := H7.out w (E4.out.on hS); have s3 := HK.out w (E4.out.on hS); have s4 := HJ.out w (E4.out.on hS); go_simp; with_reducible rfl); (try simp only [Act.put, List.setIfInBounds_toArray, List.set_cons_zero, List.set_cons_succ])))
  (first | (refine Held.skip (i := 35) rfl (by kernel_rfl) (fun _ _ _ h => h) rfl ?_; (try simp only [Act.put, List.setIfInBounds_toArray, List.set_cons_zero, List.set_cons_succ])) | (refine Held.take (i := 35) (v := ?_) rfl (by kernel_rfl) (fun _ _ _ h => h) rfl ?_ ?_; rotate_left; (intro w hS; have q7 := H7.out w (E4.out.on hS); have s3 := HK.out w (E4.out.on hS); have s4 := HJ.out w (E4.out.on hS); go_simp; with_reducible rfl); (try simp only [Act.put, List.setIfInBounds_toArray, List.set_cons_zero, List.set_cons_succ])))
  (first | (refine Held.skip (i := 36) rfl (by kernel_rfl) (fun _ _ _ h => h) rfl ?_; (try simp only [Act.put, List.setIfInBounds_toArray, List.set_cons_zero, List.set_cons_succ])) | (refine Held.take (i := 36) (v := ?_) rfl (by kernel_rfl) (fun _ _ _ h => h) rfl ?_ ?_; rotate_left; (intro w hS; have q7 := H7.out w (E4.out.on hS); have s3 := HK.out w (E4.out.on hS); have s4 := HJ.out w (E4.out.on hS); go_simp; with_reducible rfl); (try simp only [Act.put, List.setIfInBounds_toArray, List.set_cons_zero, List.set_cons_succ])))
  (first | (refine Held.skip (i := 37) rfl (by kernel_rfl) (fun _ _ _ h => h) rfl ?_; (try simp only [Act.put, List.setIfInBounds_toArray, List.set_cons_zero, List.set_cons_succ])) | (refine Held.take (i := 37) (v := ?_) rfl (by kernel_rfl) (fun _ _ _ h => h) rfl ?_ ?_; rotate_left; (intro w hS; have q7 := H7.out w (E4.out.on hS); have s3 := HK.out w (E4.out.on hS); have s4 := HJ.out w (E4.out.on hS); go_simp; with_reducible rfl); (try simp only [Act.put, List.setIfInBounds_toArray, List.set_cons_zero, List.set_cons_succ])))
  (first | (refine Held.skip (i := 38) rfl (by kernel_rfl) (fun _ _ _ h => h) rfl ?_; (try simp only [Act.put, List.setIfInBounds_toArray, List.set_cons_zero, List.set_cons_succ])) | (refine Held.take (i := 38) (v := ?_) rfl (by kernel_rfl) (fun _ _ _ h => h) rfl ?_ ?_; rotate_left; (intro w hS; have q7 := H7.out w (E4.out.on hS); have s3 := HK.out w (E4.out.on hS); have s4 := HJ.out w (E4.out.on hS); go_simp; with_reducible rfl); (try simp only [Act.put, List.setIfInBounds_toArray, List.set_cons_zero, List.set_cons_succ])))
  (first | (refine Held.skip (i := 39) rfl (by kernel_rfl) (fun _ _ _ h => h) rfl ?_; (try simp only [Act.put, List.setIfInBounds_toArray, List.set_cons_zero, List.set_cons_succ])) | (refine Held.take (i := 39) (v := ?_) rfl (by kernel_rfl) (fun _ _ _ h => h) rfl ?_ ?_; rotate_left; (intro w hS; have q7 := H7.out w (E4.out.on hS); have s3 := HK.out w (E4.out.on hS); have s4 := HJ.out w (E4.out.on hS); go_simp; with_reducible rfl); (try simp only [Act.put, List.setIfInBounds_toArray, List.set_cons_zero, List.set_cons_succ])))
  (first | (refine Held.skip (i := 40) rfl (by kernel_rfl) (fun _ _ _ h => h) rfl ?_; (try simp only [Act.put, List.setIfInBounds_toArray, List.set_cons_zero, List.set_cons_succ])) | (refine Held.take (i := 40) (v := ?_) rfl (by kernel_rfl) (fun _ _ _ h => h) rfl ?_ ?_; rotate_left; (intro w hS; have q7 := H7.out w (E4.out.on hS); have s3 := HK.out w (E4.out.on hS); have s4 := HJ.out w (E4.out.on hS); go_simp; with_reducible rfl); (try simp only [Act.put, List.setIfInBounds_toArray, List.set_cons_zero, List.set_cons_succ])))
  (first | (refine Held.skip (i := 41) rfl (by kernel_rfl) (fun _ _ _ h => h) rfl ?_; (try simp only [Act.put, List.setIfInBounds_toArray, List.set_cons_zero, List.set_cons_succ])) | (refine Held.take (i := 41) (v := ?_) rfl (by kernel_rfl) (fun _ _ _ h => h) rfl ?_ ?_; rotate_left; (intro w hS; have q7 := H7.out w (E4.out.on hS); have s3 := HK.out w (E4.out.on hS); have s4 := HJ.out w (E4.out.on hS); go_simp; with_reducible rfl); (try simp only [Act.put, List.setIfInBounds_toArray, List.set_cons_zero, List.set_cons_succ])))
  refine Held.call (i := 42) (f := ?_) (args := ?_) rfl (by kernel_rfl) rfl ?_ ?_
  rotate_left 2
  · (intro w hS; skip; go_simp; (first | with_reducible rfl | (refine ⟨?_, ?_⟩ <;> with_reducible rfl)))
  intro wt hSt
  skip
  refine (AW.out _).mono ?_
  rintro e vt ⟨rfl, hb⟩
  refine ⟨_, rfl, Ext vt, Ext.refl _, fun w h => Ext.on (Ext.on hSt hb) h, ?_⟩
  try simp only [Act.put, List.setIfInBounds_toArray, List.set_cons_zero, List.set_cons_succ]
  have E5 := Lib.hid (E4.out.on (Ext.on hSt hb))
  clear hSt hb
  (first | (refine Held.skip (i := 43) rfl (by kernel_rfl) (fun _ _ _ h => h) rfl ?_; (try simp only [Act.put, List.setIfInBounds_toArray, List.set_cons_zero, List.set_cons_succ])) | (refine Held.take (i := 43) (v := ?_) rfl (by kernel_rfl) (fun _ _ _ h => h) rfl ?_ ?_; rotate_left; (intro w hS; skip; go_simp; with_reducible rfl); (try simp only [Act.put, List.setIfInBounds_toArray, List.set_cons_zero, List.set_cons_succ])))
  (first | (refine Held.skip (i := 44) rfl (by kernel_rfl) (fun _ _ _ h => h) rfl ?_; (try simp only [Act.put, List.setIfInBounds_toArray, List.set_cons_zero, List.set_cons_succ])) | (refine Held.take (i := 44) (v := ?_) rfl (by kernel_rfl) (fun _ _ _ h => h) rfl ?_ ?_; rotate_left; (intro w hS; skip; go_simp; with_reducible rfl); (try simp only [Act.put, List.setIfInBounds_toArray, List.set_cons_zero, List.set_cons_succ])))
  refine Held.done (by kernel_rfl) ?_
  intro wz hz
  have HZ := Lib.hid (bel_on HB4.out (E5.out.on hz))
  clear hz
  go_wp2_with fail
  go_ret
  exact ⟨rfl, HZ.out⟩

theorem law_CompactPuts {H : Type} {enc : TypeId × Value → H} (W : World) (base : Nat) (v0 v1 v2 : Value) (d0 d1 d2 : DataW H) (p0 p1 p2 : List MemPlace)
    (h0 : DataW.Trod enc Try.prog W 0 (fun _ => true) true 23 v0 d0 p0) (h1 : DataW.Trod enc Try.prog W 0 (fun _ => true) true 23 v1 d1 p1) (h2 : DataW.Trod enc Try.prog W 0 (fun _ => true) true 22 v2 d2 p2)
    (o0 : Value.okWide Try.prog W .any base 23 v0) (o1 : Value.okWide Try.prog W .any base 23 v1) (o2 : Value.okWide Try.prog W .any base 22 v2) :
    Calls Try.prog 4 #[v0, v1, v2] W fun e w' => e = .returned (.bool true) ∧ Below W.heap.size W w' := by
  obtain ⟨A, c, l, rfl, hz, hr, hlc, hcm⟩ := in_bytes h0 o0
  obtain ⟨B, d, t, rfl, hz2, hs, htd, hdm⟩ := in_bytes h1 o1
  obtain ⟨n', rfl, wn⟩ := in_int Try.underlying22 h2 o2
  have hb := wf_u64 wn
  obtain ⟨n, rfl⟩ := Int.eq_ofNat_of_zero_le hb.1
  have e : (2 : Nat) ^ 64 = 18446744073709551616 := by decide
  exact puts_case A B l.length t.length c d (min l.length 3000) (min t.length 3000) n (l.take (min l.length 3000)) (t.take (min t.length 3000)) W rfl rfl hlc htd (by rw [List.length_take]; omega) (by rw [List.length_take]; omega) (hr.take _) (hs.take _) (by omega)
end Go.Proofs.Ytgmbdhpanhkfhaa
