/- The law that what is got is put as the bytes that were taken, the walk. -/
import Derived.Test.YtgmbdhpanhkfhaaCoG
namespace Go.Proofs.Ytgmbdhpanhkfhaa
open Go.RowKit Go.Lib Go.ChangeShapes Go.WideShapes

theorem left_b (g : Nat) (l : List UInt8) (w : World) (h : Live w g l) (hl : l.length ≤ 1000000000) : Calls Try.prog 19 #[.pointer (some ⟨g, 0, none⟩)] w (BRet (.int .i64 (l.length : Nat)) w) :=
  (left_live g l w h hl).mono fun _ _ ⟨h1, h2⟩ => ⟨h1, by subst h2; exact Below.refl _ _⟩

set_option maxRecDepth 100000 in
set_option maxHeartbeats 4000000 in
theorem once_no (A : Option Addr) (L c m : Nat) (l : List UInt8) (w : World) (hm : m = min L 3000) (hL : L ≤ c) (hl : l.length = m) (h0 : A = none → m = 0 ∧ c = 0) (hr : Rd w A l)
    (C : ∀ w1 g, Live w1 g l → Calls Try.prog 18 #[.pointer (some ⟨g, 0, none⟩), .int .u64 18446744073709551615] w1 fun e w2 => e = .returned (.tuple #[.int .u64 0, .int .i64 4]) ∧ Chg g w1 w2) :
    Calls Try.prog 5 #[.slice A L c] w (BRet (.bool true) w) := by
  have K1 := Lib.hid (cut_any A L c m w hm hL)
  have C1 := Lib.hid (open_any A m c l w hl.symm h0 hr (by omega))
  have C2 := Lib.hid C
  have AW := Lib.hid works_any
  clear hm hL hl h0 hr C
  go_enter Try.func5, Try.ntmps5
  go_wp2_with fail
  refine K1.out.mono ?_
  rintro e w' ⟨rfl, rfl⟩
  go_wp2_with fail
  refine C1.out.mono ?_
  rintro e w1 ⟨g, rfl, hlive, hg, hb1⟩
  have HL := Lib.hid hlive
  have HB := Lib.hid hb1
  have HG := Lib.hid hg
  clear hlive hg hb1
  go_wp2_with fail
  refine (C2.out _ _ HL.out).mono ?_
  rintro e w2 ⟨rfl, hc⟩
  have HC := Lib.hid (hc.bel _ _ HG.out HB.out)
  clear hc
  go_wp2_with fail
  refine (AW.out _).mono ?_
  rintro e w3 ⟨rfl, hb3⟩
  go_wp2_with fail
  go_ret
  exact ⟨rfl, bel_on HC.out hb3⟩

set_option maxRecDepth 100000 in
set_option maxHeartbeats 8000000 in
theorem once_yes (A : Option Addr) (L c m n p k : Nat) (l l2 : List UInt8) (w : World) (hm : m = min L 3000) (hL : L ≤ c) (hl : l.length = m) (h0 : A = none → m = 0 ∧ c = 0) (hr : Rd w A l)
    (hp : p = csize n) (hP : cform n = l.take p) (hpm : p ≤ m) (hk : l2.length = k) (hkm : k + p = m)
    (C : ∀ w1 g, Live w1 g l → Calls Try.prog 18 #[.pointer (some ⟨g, 0, none⟩), .int .u64 18446744073709551615] w1 (GetRet n 0 g l2 w1)) :
    Calls Try.prog 5 #[.slice A L c] w (BRet (.bool true) w) := by
  have K1 := Lib.hid (cut_any A L c m w hm hL)
  have C1 := Lib.hid (open_any A m c l w hl.symm h0 hr (by omega))
  have C2 := Lib.hid C
  have C3 := Lib.hid (fun w' => cput_any none 0 [] n w' (fun _ => ⟨rfl, rfl⟩) (Rd.nil _ _) (by decide))
  have C4 := Lib.hid (fun w' g (h : Live w' g l2) => left_b g l2 w' h (by omega))
  have AW := Lib.hid works_any
  have hPl : (cform n).length = p := by rw [cform_length, hp]
  rw [List.nil_append, hP] at C3
  rw [hP] at hPl
  rw [hk] at C4
  have hp1 := csize_pos n
  rw [← hp] at hp1
  have HR := Lib.hid hr
  have HP := Lib.hid hPl
  have HL0 := Lib.hid (show 0 < l.length by omega)
  have hpc : p ≤ c := by omega
  have hsub : IntKind.i64.wrap ((m : Int) - (p : Int)) = (k : Int) := by rw [show (m : Int) - p = (k : Int) from by omega]; exact IntWalk.i64_in _ (by omega)
  have hle : (p : Int) ≤ (m : Int) := by omega
  generalize hPP : l.take p = P at *
  have HPP := Lib.hid hPP
  clear hm hL hl h0 hr C hp hP hpm hk hkm hPl hp1 hPP
  go_enter Try.func5, Try.ntmps5
  go_wp2_with fail
  refine K1.out.mono ?_
  rintro e w' ⟨rfl, rfl⟩
  go_wp2_with fail
  refine C1.out.mono ?_
  rintro e w1 ⟨g, rfl, hlive, hg, hb1⟩
  have HL := Lib.hid hlive
  have HB := Lib.hid hb1
  have HG := Lib.hid hg
  have HR1 := Lib.hid (HR.out.after hb1)
  clear hlive hg hb1
  go_wp2_with fail
  refine (C2.out _ _ HL.out).mono ?_
  rintro e w2 ⟨rfl, hl2, hc⟩
  have HC := Lib.hid (hc.bel _ _ HG.out HB.out)
  have HL2 := Lib.hid hl2
  have HR2 := Lib.hid (HR1.out.chg hc (fun ad h => by
    obtain ⟨ad', e, hlt, _⟩ := HR.out HL0.out
    rw [h] at e
    injection e with e
    subst e
    have := HG.out
    omega))
  clear hc hl2
  go_wp2_with fail
  refine (C3.out _).mono ?_
  rintro e w3 ⟨A1, c1, rfl, hown, _, hb3⟩
  rw [HP.out] at hown ⊢
  have HO := Lib.hid hown
  have HB3 := Lib.hid (bel_on HC.out hb3)
  have HL3 := Lib.hid (HL2.out.after hb3)
  have HR3 := Lib.hid (HR2.out.after hb3)
  clear hown hb3
  go_wp2_with fail
  refine Held.start 29 (Ext w3) (by kernel_rfl) rfl (Below.refl _ _).drew ?_
  have H1 := Lib.hid (fun w' (h : Ext w3 w') => run_str (c := c1) (HO.out.rd.after h) HP.out.symm)
  have H2 := Lib.hid (fun w' (h : Ext w3 w') => run_str (c := c) (show Rd w' A P from by have := (HR3.out.after h).take p; rwa [HPP.out] at this) HP.out.symm)
  (first | (refine Held.skip (i := 0) rfl (by kernel_rfl) (fun _ _ _ h => h) rfl ?_; (try simp only [Act.put, List.setIfInBounds_toArray, List.set_cons_zero, List.set_cons_succ])) | (refine Held.take (i := 0) (v := ?_) rfl (by kernel_rfl) (fun _ _ _ h => h) rfl ?_ ?_; rotate_left; (intro w hS; have s1 := H1.out w hS; have s2 := H2.out w hS; go_simp; with_reducible rfl); (try simp only [Act.put, List.setIfInBounds_toArray, List.set_cons_zero, List.set_cons_succ])))
  (first | (refine Held.skip (i := 1) rfl (by kernel_rfl) (fun _ _ _ h => h) rfl ?_; (try simp only [Act.put, List.setIfInBounds_toArray, List.set_cons_zero, List.set_cons_succ])) | (refine Held.take (i := 1) (v := ?_) rfl (by kernel_rfl) (fun _ _ _ h => h) rfl ?_ ?_; rotate_left; (intro w hS; have s1 := H1.out w hS; have s2 := H2.out w hS; go_simp; with_reducible rfl); (try simp only [Act.put, List.setIfInBounds_toArray, List.set_cons_zero, List.set_cons_succ])))
  (first | (refine Held.skip (i := 2) rfl (by kernel_rfl) (fun _ _ _ h => h) rfl ?_; (try simp only [Act.put, List.setIfInBounds_toArray, List.set_cons_zero, List.set_cons_succ])) | (refine Held.take (i := 2) (v := ?_) rfl (by kernel_rfl) (fun _ _ _ h => h) rfl ?_ ?_; rotate_left; (intro w hS; have s1 := H1.out w hS; have s2 := H2.out w hS; go_simp; with_reducible rfl); (try simp only [Act.put, List.setIfInBounds_toArray, List.set_cons_zero, List.set_cons_succ])))
  (first | (refine Held.skip (i := 3) rfl (by kernel_rfl) (fun _ _ _ h => h) rfl ?_; (try simp only [Act.put, List.setIfInBounds_toArray, List.set_cons_zero, List.set_cons_succ])) | (refine Held.take (i := 3) (v := ?_) rfl (by kernel_rfl) (fun _ _ _ h => h) rfl ?_ ?_; rotate_left; (intro w hS; have s1 := H1.out w hS; have s2 := H2.out w hS; go_simp; with_reducible rfl); (try simp only [Act.put, List.setIfInBounds_toArray, List.set_cons_zero, List.set_cons_succ])))
  (first | (refine Held.skip (i := 4) rfl (by kernel_rfl) (fun _ _ _ h => h) rfl ?_; (try simp only [Act.put, List.setIfInBounds_toArray, List.set_cons_zero, List.set_cons_succ])) | (refine Held.take (i := 4) (v := ?_) rfl (by kernel_rfl) (fun _ _ _ h => h) rfl ?_ ?_; rotate_left; (intro w hS; have s1 := H1.out w hS; have s2 := H2.out w hS; go_simp; with_reducible rfl); (try simp only [Act.put, List.setIfInBounds_toArray, List.set_cons_zero, List.set_cons_succ])))
  (first | (refine Held.skip (i := 5) rfl (by kernel_rfl) (fun _ _ _ h => h) rfl ?_; (try simp only [Act.put, List.setIfInBounds_toArray, List.set_cons_zero, List.set_cons_succ])) | (refine Held.take (i := 5) (v := ?_) rfl (by kernel_rfl) (fun _ _ _ h => h) rfl ?_ ?_; rotate_left; (intro w hS; have s1 := H1.out w hS; have s2 := H2.out w hS; go_simp; with_reducible rfl); (try simp only [Act.put, List.setIfInBounds_toArray, List.set_cons_zero, List.set_cons_succ])))
  (first | (refine Held.skip (i := 6) rfl (by kernel_rfl) (fun _ _ _ h => h) rfl ?_; (try simp only [Act.put, List.setIfInBounds_toArray, List.set_cons_zero, List.set_cons_succ])) | (refine Held.take (i := 6) (v := ?_) rfl (by kernel_rfl) (fun _ _ _ h => h) rfl ?_ ?_; rotate_left; (intro w hS; have s1 := H1.out w hS; have s2 := H2.out w hS; go_simp; with_reducible rfl); (try simp only [Act.put, List.setIfInBounds_toArray, List.set_cons_zero, List.set_cons_succ])))
  (first | (refine Held.skip (i := 7) rfl (by kernel_rfl) (fun _ _ _ h => h) rfl ?_; (try simp only [Act.put, List.setIfInBounds_toArray, List.set_cons_zero, List.set_cons_succ])) | (refine Held.take (i := 7) (v := ?_) rfl (by kernel_rfl) (fun _ _ _ h => h) rfl ?_ ?_; rotate_left; (intro w hS; have s1 := H1.out w hS; have s2 := H2.out w hS; go_simp; with_reducible rfl); (try simp only [Act.put, List.setIfInBounds_toArray, List.set_cons_zero, List.set_cons_succ])))
  (first | (refine Held.skip (i := 8) rfl (by kernel_rfl) (fun _ _ _ h => h) rfl ?_; (try simp only [Act.put, List.setIfInBounds_toArray, List.set_cons_zero, List.set_cons_succ])) | (refine Held.take (i := 8) (v := ?_) rfl (by kernel_rfl) (fun _ _ _ h => h) rfl ?_ ?_; rotate_left; (intro w hS; have s1 := H1.out w hS; have s2 := H2.out w hS; go_simp; with_reducible rfl); (try simp only [Act.put, List.setIfInBounds_toArray, List.set_cons_zero, List.set_cons_succ])))
  (first | (refine Held.skip (i := 9) rfl (by kernel_rfl) (fun _ _ _ h => h) rfl ?_; (try simp only [Act.put, List.setIfInBounds_toArray, List.set_cons_zero, List.set_cons_succ])) | (refine Held.take (i := 9) (v := ?_) rfl (by kernel_rfl) (fun _ _ _ h => h) rfl ?_ ?_; rotate_left; (intro w hS; have s1 := H1.out w hS; have s2 := H2.out w hS; go_simp; with_reducible rfl); (try simp only [Act.put, List.setIfInBounds_toArray, List.set_cons_zero, List.set_cons_succ])))
  (first | (refine Held.skip (i := 10) rfl (by kernel_rfl) (fun _ _ _ h => h) rfl ?_; (try simp only [Act.put, List.setIfInBounds_toArray, List.set_cons_zero, List.set_cons_succ])) | (refine Held.take (i := 10) (v := ?_) rfl (by kernel_rfl) (fun _ _ _ h => h) rfl ?_ ?_; rotate_left; (intro w hS; have s1 := H1.out w hS; have s2 := H2.out w hS; go_simp; with_reducible rfl); (try simp only [Act.put, List.setIfInBounds_toArray, List.set_cons_zero, List.set_cons_succ])))
  (first | (refine Held.skip (i := 11) rfl (by kernel_rfl) (fun _ _ _ h => h) rfl ?_; (try simp only [Act.put, List.setIfInBounds_toArray, List.set_cons_zero, List.set_cons_succ])) | (refine Held.take (i := 11) (v := ?_) rfl (by kernel_rfl) (fun _ _ _ h => h) rfl ?_ ?_; rotate_left; (intro w hS; have s1 := H1.out w hS; have s2 := H2.out w hS; go_simp; with_reducible rfl); (try simp only [Act.put, List.setIfInBounds_toArray, List.set_cons_zero, List.set_cons_succ])))
  (first | (refine Held.skip (i := 12) rfl (by kernel_rfl) (fun _ _ _ h => h) rfl ?_; (try simp only [Act.put, List.setIfInBounds_toArray, List.set_cons_zero, List.set_cons_succ])) | (refine Held.take (i := 12) (v := ?_) rfl (by kernel_rfl) (fun _ _ _ h => h) rfl ?_ ?_; rotate_left; (intro w hS; have s1 := H1.out w hS; have s2 := H2.out w hS; go_simp; with_reducible rfl); (try simp only [Act.put, List.setIfInBounds_toArray, List.set_cons_zero, List.set_cons_succ])))
  (first | (refine Held.skip (i := 13) rfl (by kernel_rfl) (fun _ _ _ h => h) rfl ?_; (try simp only [Act.put, List.setIfInBounds_toArray, List.set_cons_zero, List.set_cons_succ])) | (refine Held.take (i := 13) (v := ?_) rfl (by kernel_rfl) (fun _ _ _ h => h) rfl ?_ ?_; rotate_left; (intro w hS; have s1 := H1.out w hS; have s2 := H2.out w hS; go_simp; with_reducible rfl); (try simp only [Act.put, List.setIfInBounds_toArray, List.set_cons_zero, List.set_cons_succ])))
  (first | (refine Held.skip (i := 14) rfl (by kernel_rfl) (fun _ _ _ h => h) rfl ?_; (try simp only [Act.put, List.setIfInBounds_toArray, List.set_cons_zero, List.set_cons_succ])) | (refine Held.take (i := 14) (v := ?_) rfl (by kernel_rfl) (fun _ _ _ h => h) rfl ?_ ?_; rotate_left; (intro w hS; have s1 := H1.out w hS; have s2 := H2.out w hS; go_simp; with_reducible rfl); (try simp only [Act.put, List.setIfInBounds_toArray, List.set_cons_zero, List.set_cons_succ])))
  (first | (refine Held.skip (i := 15) rfl (by kernel_rfl) (fun _ _ _ h => h) rfl ?_; (try simp only [Act.put, List.setIfInBounds_toArray, List.set_cons_zero, List.set_cons_succ])) | (refine Held.take (i := 15) (v := ?_) rfl (by kernel_rfl) (fun _ _ _ h => h) rfl ?_ ?_; rotate_left; (intro w hS; have s1 := H1.out w hS; have s2 := H2.out w hS; go_simp; with_reducible rfl); (try simp only [Act.put, List.setIfInBounds_toArray, List.set_cons_zero, List.set_cons_succ])))
  (first | (refine Held.skip (i := 16) rfl (by kernel_rfl) (fun _ _ _ h => h) rfl ?_; (try simp only [Act.put, List.setIfInBounds_toArray, List.set_cons_zero, List.set_cons_succ])) | (refine Held.take (i := 16) (v := ?_) rfl (by kernel_rfl) (fun _ _ _ h => h) rfl ?_ ?_; rotate_left; (intro w hS; have s1 := H1.out w hS; have s2 := H2.out w hS; go_simp; with_reducible rfl); (try simp only [Act.put, List.setIfInBounds_toArray, List.set_cons_zero, List.set_cons_succ])))
  (first | (refine Held.skip (i := 18) rfl (by kernel_rfl) (fun _ _ _ h => h) rfl ?_; (try simp only [Act.put, List.setIfInBounds_toArray, List.set_cons_zero, List.set_cons_succ])) | (refine Held.take (i := 18) (v := ?_) rfl (by kernel_rfl) (fun _ _ _ h => h) rfl ?_ ?_; rotate_left; (intro w hS; have s1 := H1.out w hS; have s2 := H2.out w hS; go_simp; with_reducible rfl); (try simp only [Act.put, List.setIfInBounds_toArray, List.set_cons_zero, List.set_cons_succ])))
  (first | (refine Held.skip (i := 19) rfl (by kernel_rfl) (fun _ _ _ h => h) rfl ?_; (try simp only [Act.put, List.setIfInBounds_toArray, List.set_cons_zero, List.set_cons_succ])) | (refine Held.take (i := 19) (v := ?_) rfl (by kernel_rfl) (fun _ _ _ h => h) rfl ?_ ?_; rotate_left; (intro w hS; have s1 := H1.out w hS; have s2 := H2.out w hS; go_simp; with_reducible rfl); (try simp only [Act.put, List.setIfInBounds_toArray, List.set_cons_zero, List.set_cons_succ])))
  (first | (refine Held.skip (i := 20) rfl (by kernel_rfl) (fun _ _ _ h => h) rfl ?_; (try simp only [Act.put, List.setIfInBounds_toArray, List.set_cons_zero, List.set_cons_succ])) | (refine Held.take (i := 20) (v := ?_) rfl (by kernel_rfl) (fun _ _ _ h => h) rfl ?_ ?_; rotate_left; (intro w hS; have s1 := H1.out w hS; have s2 := H2.out w hS; go_simp; with_reducible rfl); (try simp only [Act.put, List.setIfInBounds_toArray, List.set_cons_zero, List.set_cons_succ])))
  (first | (refine Held.skip (i := 21) rfl (by kernel_rfl) (fun _ _ _ h => h) rfl ?_; (try simp only [Act.put, List.setIfInBounds_toArray, List.set_cons_zero, List.set_cons_succ])) | (refine Held.take (i := 21) (v := ?_) rfl (by kernel_rfl) (fun _ _ _ h => h) rfl ?_ ?_; rotate_left; (intro w hS; have s1 := H1.out w hS; have s2 := H2.out w hS; go_simp; with_reducible rfl); (try simp only [Act.put, List.setIfInBounds_toArray, List.set_cons_zero, List.set_cons_succ])))
  (first | (refine Held.skip (i := 22) rfl (by kernel_rfl) (fun _ _ _ h => h) rfl ?_; (try simp only [Act.put, List.setIfInBounds_toArray, List.set_cons_zero, List.set_cons_succ])) | (refine Held.take (i := 22) (v := ?_) rfl (by kernel_rfl) (fun _ _ _ h => h) rfl ?_ ?_; rotate_left; (intro w hS; have s1 := H1.out w hS; have s2 := H2.out w hS; go_simp; with_reducible rfl); (try simp only [Act.put, List.setIfInBounds_toArray, List.set_cons_zero, List.set_cons_succ])))
  refine Held.call (i := 17) (f := ?_) (args := ?_) rfl (by kernel_rfl) rfl ?_ ?_
  rotate_left 2
  · (intro w hS; skip; go_simp; (first | with_reducible rfl | (refine ⟨?_, ?_⟩ <;> with_reducible rfl)))
  intro wq hSq
  skip
  refine (C4.out _ _ (HL3.out.after hSq)).mono ?_
  rintro e vq ⟨rfl, hb⟩
  refine ⟨_, rfl, Ext vq, Ext.refl _, fun w h => Ext.on (Ext.on hSq hb) h, ?_⟩
  try simp only [Act.put, List.setIfInBounds_toArray, List.set_cons_zero, List.set_cons_succ]
  have E1 := Lib.hid (Ext.on hSq hb)
  clear hSq hb
  (first | (refine Held.skip (i := 23) rfl (by kernel_rfl) (fun _ _ _ h => h) rfl ?_; (try simp only [Act.put, List.setIfInBounds_toArray, List.set_cons_zero, List.set_cons_succ])) | (refine Held.take (i := 23) (v := ?_) rfl (by kernel_rfl) (fun _ _ _ h => h) rfl ?_ ?_; rotate_left; (intro w hS; skip; go_simp; with_reducible rfl); (try simp only [Act.put, List.setIfInBounds_toArray, List.set_cons_zero, List.set_cons_succ])))
  (first | (refine Held.skip (i := 24) rfl (by kernel_rfl) (fun _ _ _ h => h) rfl ?_; (try simp only [Act.put, List.setIfInBounds_toArray, List.set_cons_zero, List.set_cons_succ])) | (refine Held.take (i := 24) (v := ?_) rfl (by kernel_rfl) (fun _ _ _ h => h) rfl ?_ ?_; rotate_left; (intro w hS; skip; go_simp; with_reducible rfl); (try simp only [Act.put, List.setIfInBounds_toArray, List.set_cons_zero, List.set_cons_succ])))
  (first | (refine Held.skip (i := 25) rfl (by kernel_rfl) (fun _ _ _ h => h) rfl ?_; (try simp only [Act.put, List.setIfInBounds_toArray, List.set_cons_zero, List.set_cons_succ])) | (refine Held.take (i := 25) (v := ?_) rfl (by kernel_rfl) (fun _ _ _ h => h) rfl ?_ ?_; rotate_left; (intro w hS; skip; go_simp; with_reducible rfl); (try simp only [Act.put, List.setIfInBounds_toArray, List.set_cons_zero, List.set_cons_succ])))
  refine Held.call (i := 26) (f := ?_) (args := ?_) rfl (by kernel_rfl) rfl ?_ ?_
  rotate_left 2
  · (intro w hS; skip; go_simp; (first | with_reducible rfl | (refine ⟨?_, ?_⟩ <;> with_reducible rfl)))
  intro wr hSr
  skip
  refine (AW.out _).mono ?_
  rintro e vr ⟨rfl, hb⟩
  refine ⟨_, rfl, Ext vr, Ext.refl _, fun w h => Ext.on (Ext.on hSr hb) h, ?_⟩
  try simp only [Act.put, List.setIfInBounds_toArray, List.set_cons_zero, List.set_cons_succ]
  have E2 := Lib.hid (E1.out.on (Ext.on hSr hb))
  clear hSr hb
  (first | (refine Held.skip (i := 27) rfl (by kernel_rfl) (fun _ _ _ h => h) rfl ?_; (try simp only [Act.put, List.setIfInBounds_toArray, List.set_cons_zero, List.set_cons_succ])) | (refine Held.take (i := 27) (v := ?_) rfl (by kernel_rfl) (fun _ _ _ h => h) rfl ?_ ?_; rotate_left; (intro w hS; skip; go_simp; with_reducible rfl); (try simp only [Act.put, List.setIfInBounds_toArray, List.set_cons_zero, List.set_cons_succ])))
  (first | (refine Held.skip (i := 28) rfl (by kernel_rfl) (fun _ _ _ h => h) rfl ?_; (try simp only [Act.put, List.setIfInBounds_toArray, List.set_cons_zero, List.set_cons_succ])) | (refine Held.take (i := 28) (v := ?_) rfl (by kernel_rfl) (fun _ _ _ h => h) rfl ?_ ?_; rotate_left; (intro w hS; skip; go_simp; with_reducible rfl); (try simp only [Act.put, List.setIfInBounds_toArray, List.set_cons_zero, List.set_cons_succ])))
  refine Held.done (by kernel_rfl) ?_
  intro wz hz
  have HZ := Lib.hid (bel_on HB3.out (E2.out.on hz))
  clear hz
  go_wp2_with fail
  go_ret
  exact ⟨rfl, HZ.out⟩

theorem valB_lt64 (l : List UInt8) (h : l.length ≤ 8) : valB l ≤ 18446744073709551615 := by
  have h1 := valB_lt l
  have h2 : 2 ^ (8 * l.length) ≤ 2 ^ 64 := Nat.pow_le_pow_right (by decide) (by omega)
  omega

theorem law_CompactOnce {H : Type} {enc : TypeId × Value → H} (W : World) (base : Nat) (v0 : Value) (d0 : DataW H) (p0 : List MemPlace)
    (hd : DataW.Trod enc Try.prog W 0 (fun _ => true) true 23 v0 d0 p0) (o0 : Value.okWide Try.prog W .any base 23 v0) :
    Calls Try.prog 5 #[v0] W fun e w' => e = .returned (.bool true) ∧ Below W.heap.size W w' := by
  obtain ⟨A, c, l0, rfl, hz, hr0, hlc, hcm⟩ := in_bytes hd o0
  have hlen : (l0.take (min l0.length 3000)).length = min l0.length 3000 := by rw [List.length_take]; omega
  have hr := hr0.take (min l0.length 3000)
  have hz' : A = none → min l0.length 3000 = 0 ∧ c = 0 := fun h => by have := hz h; omega
  have h3 : min l0.length 3000 ≤ 3000 := by omega
  generalize hl : l0.take (min l0.length 3000) = l at *
  generalize hm : min l0.length 3000 = m at *
  match l, hlen, hr with
  | [], hlen, hr => exact once_no A _ c m [] W hm.symm hlc hlen hz' hr fun w1 g h => (get_empty g _ w1 h).mono fun _ _ ⟨h1, _, h2⟩ => ⟨h1, h2.2 g rfl⟩
  | b :: r, hlen, hr =>
    have hll : (b :: r).length ≤ 1000000000 := by omega
    have hrl : r.length + 1 = m := hlen
    by_cases hW : cwidth b.toNat ≤ r.length
    · obtain ⟨n, hn⟩ : ∃ n, n = if cwidth b.toNat = 0 then b.toNat else valB (r.take (cwidth b.toNat)) := ⟨_, rfl⟩
      have hn64 : n ≤ 18446744073709551615 := by
        rw [hn]
        split
        · have := b.toNat_lt; omega
        · exact valB_lt64 _ (by rw [List.length_take]; have := cwidth_le b.toNat; omega)
      by_cases hs : csize n = cwidth b.toNat + 1
      · refine once_yes A _ c m n (csize n) (r.drop (cwidth b.toNat)).length (b :: r) (r.drop (cwidth b.toNat)) W hm.symm hlc hlen hz' hr rfl ?_ (by omega) rfl (by rw [List.length_drop]; omega) fun w1 g h => ?_
        · rw [form_whole hW hn hs, hs, List.take_succ_cons]
        · have := get_whole g b r 18446744073709551615 w1 h hll hW n hn (by decide)
          rwa [if_pos hs, if_pos hn64, if_pos hs, if_pos hn64] at this
      · refine once_no A _ c m (b :: r) W hm.symm hlc hlen hz' hr fun w1 g h => ?_
        have := get_whole g b r 18446744073709551615 w1 h hll hW n hn (by decide)
        rw [if_neg hs, if_neg hs] at this
        exact this.mono fun _ _ ⟨h1, _, h2⟩ => ⟨h1, h2⟩
    · exact once_no A _ c m (b :: r) W hm.symm hlc hlen hz' hr fun w1 g h => (get_short g b r _ w1 h hll (by omega)).mono fun _ _ ⟨h1, _, h2⟩ => ⟨h1, h2.2 g rfl⟩
end Go.Proofs.Ytgmbdhpanhkfhaa
