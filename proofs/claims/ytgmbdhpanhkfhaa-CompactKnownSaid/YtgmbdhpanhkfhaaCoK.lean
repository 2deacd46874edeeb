/- The chapter's examples. -/
import Derived.Test.YtgmbdhpanhkfhaaCoJ
import Derived.Test.YtgmbdhpanhkfhaaSeq
import Derived.Lib.SlBytesConst
namespace Go.Proofs.Ytgmbdhpanhkfhaa
open Go.RowKit Go.Lib Go.ChangeShapes Go.WideShapes

theorem Rd.lit {w : World} {g : Nat} (l : List UInt8) (hg : w.heap.size = g) : Rd (w.alloc (.cells (byteCells l).toArray 5)) (some ⟨g, 0, none⟩) l := by
  subst hg
  intro _
  refine ⟨_, rfl, by simp, fun j hj => ?_⟩
  have : (⟨w.heap.size, 0, none⟩ : Addr).add j = ⟨w.heap.size, j, none⟩ := by unfold Addr.add; split <;> simp_all
  rw [this, IsBlk.cell (IsBlk.new _ _ _)]
  simp [byteCells, hj]

/-- One that is made of a constant string: its row is marked. -/
theorem Rd.litm {w : World} {g a b : Nat} (l : List UInt8) (hg : w.heap.size = g) : Rd (w.alloc (.cells (byteCells l).toArray 5 (a, b))) (some ⟨g, 0, none⟩) l := by
  subst hg
  intro _
  refine ⟨_, rfl, by simp, fun j hj => ?_⟩
  have : (⟨w.heap.size, 0, none⟩ : Addr).add j = ⟨w.heap.size, j, none⟩ := by unfold Addr.add; split <;> simp_all
  rw [this, cell_of_row _ _ _ _ _ (a, b) (show (w.alloc (.cells (byteCells l).toArray 5 (a, b))).heap[w.heap.size]? = some (.cells (byteCells l).toArray 5 (a, b)) from by show (w.heap.push _)[w.heap.size]? = _; simp)]
  simp [byteCells, hj]

/-- What an opened reader of these bytes tells: these values, and nothing below is turned. -/
def Tells (f : FuncId) (l : List UInt8) (a : Value) (v : Value) : Prop := ∀ g w, Live w g l → Calls Try.prog f #[.pointer (some ⟨g, 0, none⟩), a] w fun e w' => e = .returned v ∧ Chg g w w'
theorem get1 : Tells 18 [252] (.int .u64 300) (.tuple #[.int .u64 252, .int .i64 0]) := fun g w h => by
  have := get_whole g 252 [] 300 w h (by decide) (by decide) 252 (by decide) (by decide)
  exact this.mono fun _ _ h => ⟨h.1, h.2.2⟩
theorem get2 : Tells 18 [253, 252, 0] (.int .u64 300) (.tuple #[.int .u64 0, .int .i64 4]) := fun g w h => by
  have := get_whole g 253 [252, 0] 300 w h (by decide) (by decide) 252 (by decide) (by decide)
  exact this.mono fun _ _ h => ⟨h.1, h.2.2⟩
theorem get3 : Tells 18 [253, 253] (.int .u64 300) (.tuple #[.int .u64 0, .int .i64 4]) := fun g w h => by
  have := get_short g 253 [253] 300 w h (by decide) (by decide)
  exact this.mono fun _ _ h => ⟨h.1, h.2.2.2 g rfl⟩
theorem get4 : Tells 18 [253, 253, 0] (.int .u64 252) (.tuple #[.int .u64 0, .int .i64 3]) := fun g w h => by
  have := get_whole g 253 [253, 0] 252 w h (by decide) (by decide) 253 (by decide) (by decide)
  exact this.mono fun _ _ h => ⟨h.1, h.2.2⟩
theorem text6 : Tells 20 [2, 97, 98, 99] (.int .i64 1) (.tuple #[.slice none 0 0, .int .i64 3]) := fun g w h =>
  text_err _ 1 1 0 3 w _ (.inl ⟨rfl, by decide⟩) (.inl rfl) ((get_whole g 2 [97, 98, 99] 1 w h (by decide) (by decide) 2 (by decide) (by decide)).mono fun _ _ h => ⟨h.1, h.2.2⟩)
theorem text7 : Tells 20 [3, 97, 98] (.int .i64 9) (.tuple #[.slice none 0 0, .int .i64 4]) := fun g w h =>
  (text_no g 9 3 [97, 98] w (by decide) (by decide) (by decide) (by decide) (get_whole g 3 [97, 98] 9 w h (by decide) (by decide) 3 (by decide) (by decide))).mono fun _ _ h => ⟨h.1, h.2.2.2 g rfl⟩
theorem text5 (g : Nat) (w : World) (h : Live w g [2, 97, 98, 99]) : Calls Try.prog 20 #[.pointer (some ⟨g, 0, none⟩), .int .i64 2] w (TextRet 2 [97, 98] g [99] w) :=
  text_yes g 2 2 2 [97, 98, 99] w (.inl ⟨rfl, by decide⟩) (by decide) (by decide) (get_whole g 2 [97, 98, 99] 2 w h (by decide) (by decide) 2 (by decide) (by decide))
theorem text9 (g : Nat) (w : World) (h : Live w g [0]) : Calls Try.prog 20 #[.pointer (some ⟨g, 0, none⟩), .int .i64 (-5)] w (TextRet 0 [] g [] w) :=
  text_yes g (-5) 0 0 [] w (.inr ⟨rfl, rfl⟩) (by decide) (by decide) (get_whole g 0 [] 0 w h (by decide) (by decide) 0 (by decide) (by decide))
theorem nil8 (w : World) : Calls Try.prog 18 #[.pointer none, .int .u64 1] w (BRet (.tuple #[.int .u64 0, .int .i64 4]) w) :=
  (get_dead none 1 w (.inl rfl)).mono fun _ _ h => ⟨h.1, h.2.2.1 rfl⟩

set_option maxRecDepth 100000 in
set_option maxHeartbeats 8000000 in
theorem known_walk (w : World) : Calls Try.prog 6 #[] w (BRet (.bool true) w) := by
  have AW := Lib.hid works_any
  have P1 := Lib.hid (fun w' => cput_any none 0 [] 252 w' (fun _ => ⟨rfl, rfl⟩) (Rd.nil _ _) (by decide))
  rw [show [] ++ cform 252 = ([252] : List UInt8) from by decide] at P1
  have P2 := Lib.hid (fun w' => cput_any none 0 [] 253 w' (fun _ => ⟨rfl, rfl⟩) (Rd.nil _ _) (by decide))
  rw [show [] ++ cform 253 = ([253, 253, 0] : List UInt8) from by decide] at P2
  have P3 := Lib.hid (fun w' => cput_any none 0 [] 65536 w' (fun _ => ⟨rfl, rfl⟩) (Rd.nil _ _) (by decide))
  rw [show [] ++ cform 65536 = ([254, 0, 0, 1, 0] : List UInt8) from by decide] at P3
  have P4 := Lib.hid (fun w' => cput_any none 0 [] 4294967296 w' (fun _ => ⟨rfl, rfl⟩) (Rd.nil _ _) (by decide))
  rw [show [] ++ cform 4294967296 = ([255, 0, 0, 0, 0, 1, 0, 0, 0] : List UInt8) from by decide] at P4
  have PT := Lib.hid (fun ga gb w' (h : Rd w' (some ⟨ga, 0, none⟩) [7]) (h2 : Rd w' (some ⟨gb, 0, none⟩) [97, 98]) => ctext_any (some ⟨ga, 0, none⟩) (some ⟨gb, 0, none⟩) 1 2 [7] [97, 98] w' (fun h => by cases h) h (by decide) h2 (by decide))
  rw [show [7] ++ cform ([97, 98] : List UInt8).length ++ [97, 98] = ([7, 2, 97, 98] : List UInt8) from by decide] at PT
  have O1 := Lib.hid (fun w' g (hr : Rd w' (some ⟨g, 0, none⟩) [252]) => open_any (some ⟨g, 0, none⟩) 1 1 [252] w' rfl (fun h => by cases h) hr (by decide))
  have O2 := Lib.hid (fun w' g (hr : Rd w' (some ⟨g, 0, none⟩) [253, 252, 0]) => open_any (some ⟨g, 0, none⟩) 3 3 [253, 252, 0] w' rfl (fun h => by cases h) hr (by decide))
  have O3 := Lib.hid (fun w' g (hr : Rd w' (some ⟨g, 0, none⟩) [253, 253]) => open_any (some ⟨g, 0, none⟩) 2 2 [253, 253] w' rfl (fun h => by cases h) hr (by decide))
  have O4 := Lib.hid (fun w' g (hr : Rd w' (some ⟨g, 0, none⟩) [253, 253, 0]) => open_any (some ⟨g, 0, none⟩) 3 3 [253, 253, 0] w' rfl (fun h => by cases h) hr (by decide))
  have O5 := Lib.hid (fun w' g (hr : Rd w' (some ⟨g, 0, none⟩) [2, 97, 98, 99]) => open_any (some ⟨g, 0, none⟩) 4 4 [2, 97, 98, 99] w' rfl (fun h => by cases h) hr (by decide))
  have O6 := Lib.hid (fun w' g (hr : Rd w' (some ⟨g, 0, none⟩) [3, 97, 98]) => open_any (some ⟨g, 0, none⟩) 3 3 [3, 97, 98] w' rfl (fun h => by cases h) hr (by decide))
  have O7 := Lib.hid (fun w' g (hr : Rd w' (some ⟨g, 0, none⟩) [0]) => open_any (some ⟨g, 0, none⟩) 1 1 [0] w' rfl (fun h => by cases h) hr (by decide))
  have G1 := Lib.hid get1
  have G2 := Lib.hid get2
  have G3 := Lib.hid get3
  have G4 := Lib.hid get4
  have G6 := Lib.hid text6
  have G7 := Lib.hid text7
  have G5 := Lib.hid text5
  have G9 := Lib.hid text9
  have G8 := Lib.hid nil8
  have kc := fun (w : World) (C : Array Value) (n c : Nat) => Lib.run_convert_bytes_const (P := Try.prog) w 23 5 C n c Try.underlying23 Try.underlying5
  go_enter Try.func6, Try.ntmps6
  go_wp2_with fail
  have HB0 := Lib.hid (Below.refl w.heap.size w)
  refine (P1.out _).mono ?_
  rintro e wp1 ⟨Ap1, cp1, rfl, hown, _, hb⟩
  have HP1 := Lib.hid hown.rd
  have HB1 := Lib.hid (bel_on HB0.out hb)
  clear hown hb
  go_wp2_with fail
  refine (P2.out _).mono ?_
  rintro e wp2 ⟨Ap2, cp2, rfl, hown, _, hb⟩
  have HP2 := Lib.hid hown.rd
  have HP1 := Lib.hid (HP1.out.after hb)
  have HB2 := Lib.hid (bel_on HB1.out hb)
  clear hown hb
  go_wp2_with fail
  refine (P3.out _).mono ?_
  rintro e wp3 ⟨Ap3, cp3, rfl, hown, _, hb⟩
  have HP3 := Lib.hid hown.rd
  have HP1 := Lib.hid (HP1.out.after hb)
  have HP2 := Lib.hid (HP2.out.after hb)
  have HB3 := Lib.hid (bel_on HB2.out hb)
  clear hown hb
  go_wp2_with fail
  refine (P4.out _).mono ?_
  rintro e wp4 ⟨Ap4, cp4, rfl, hown, _, hb⟩
  have HP4 := Lib.hid hown.rd
  have HP1 := Lib.hid (HP1.out.after hb)
  have HP2 := Lib.hid (HP2.out.after hb)
  have HP3 := Lib.hid (HP3.out.after hb)
  have HB4 := Lib.hid (bel_on HB3.out hb)
  clear hown hb
  have s1 : (convert 23 9 (.slice Ap1 1 cp1)).run Try.prog wp4 = .ok (.string ⟨#[252]⟩) wp4 := run_str HP1.out rfl
  have s2 : (convert 23 9 (.slice Ap2 3 cp2)).run Try.prog wp4 = .ok (.string ⟨#[253, 253, 0]⟩) wp4 := run_str HP2.out rfl
  have s3 : (convert 23 9 (.slice Ap3 5 cp3)).run Try.prog wp4 = .ok (.string ⟨#[254, 0, 0, 1, 0]⟩) wp4 := run_str HP3.out rfl
  have s4 : (convert 23 9 (.slice Ap4 9 cp4)).run Try.prog wp4 = .ok (.string ⟨#[255, 0, 0, 0, 0, 1, 0, 0, 0]⟩) wp4 := run_str HP4.out rfl
  clear HP1 HP2 HP3 HP4 HB1 HB2 HB3
  go_wp2_with fail
  refine (O1.out _ _ (Rd.lit [252] rfl)).mono ?_
  rintro e wo1 ⟨g1, rfl, hlive, hg, hb⟩
  have HL := Lib.hid hlive
  have HG := Lib.hid (show wp4.heap.size ≤ g1 from by simp at hg; omega)
  have HE := Lib.hid (show Below wp4.heap.size wp4 wo1 from ((Below.refl wp4.heap.size wp4).alloc (Nat.le_refl _) _).trans (hb.mono (by simp)))
  clear hlive hg hb
  go_wp2_with fail
  refine (G1.out _ _ HL.out).mono ?_
  rintro e wg1 ⟨rfl, hc⟩
  have HF := Lib.hid (hc.bel _ _ HG.out HE.out)
  have HB5 := Lib.hid (bel_on HB4.out HF.out)
  clear HL HG HE HF hc
  go_wp2_with fail
  refine (O2.out _ _ (Rd.lit [253, 252, 0] rfl)).mono ?_
  rintro e wo2 ⟨g2, rfl, hlive, hg, hb⟩
  have HL := Lib.hid hlive
  have HG := Lib.hid (show wg1.heap.size ≤ g2 from by simp at hg; omega)
  have HE := Lib.hid (show Below wg1.heap.size wg1 wo2 from ((Below.refl wg1.heap.size wg1).alloc (Nat.le_refl _) _).trans (hb.mono (by simp)))
  clear hlive hg hb
  go_wp2_with fail
  refine (G2.out _ _ HL.out).mono ?_
  rintro e wg2 ⟨rfl, hc⟩
  have HF := Lib.hid (hc.bel _ _ HG.out HE.out)
  have HB6 := Lib.hid (bel_on HB5.out HF.out)
  clear HL HG HE HF hc
  go_wp2_with fail
  refine (O3.out _ _ (Rd.lit [253, 253] rfl)).mono ?_
  rintro e wo3 ⟨g3, rfl, hlive, hg, hb⟩
  have HL := Lib.hid hlive
  have HG := Lib.hid (show wg2.heap.size ≤ g3 from by simp at hg; omega)
  have HE := Lib.hid (show Below wg2.heap.size wg2 wo3 from ((Below.refl wg2.heap.size wg2).alloc (Nat.le_refl _) _).trans (hb.mono (by simp)))
  clear hlive hg hb
  go_wp2_with fail
  refine (G3.out _ _ HL.out).mono ?_
  rintro e wg3 ⟨rfl, hc⟩
  have HF := Lib.hid (hc.bel _ _ HG.out HE.out)
  have HB7 := Lib.hid (bel_on HB6.out HF.out)
  clear HL HG HE HF hc
  go_wp2_with fail
  refine (O4.out _ _ (Rd.lit [253, 253, 0] rfl)).mono ?_
  rintro e wo4 ⟨g4, rfl, hlive, hg, hb⟩
  have HL := Lib.hid hlive
  have HG := Lib.hid (show wg3.heap.size ≤ g4 from by simp at hg; omega)
  have HE := Lib.hid (show Below wg3.heap.size wg3 wo4 from ((Below.refl wg3.heap.size wg3).alloc (Nat.le_refl _) _).trans (hb.mono (by simp)))
  clear hlive hg hb
  go_wp2_with fail
  refine (G4.out _ _ HL.out).mono ?_
  rintro e wg4 ⟨rfl, hc⟩
  have HF := Lib.hid (hc.bel _ _ HG.out HE.out)
  have HB8 := Lib.hid (bel_on HB7.out HF.out)
  clear HL HG HE HF hc
  have kd := kc (wg4.alloc (.cells #[.int .u8 7] 5)) #[.int .u8 97, .int .u8 98] 2 2
  rw [show (wg4.alloc (.cells #[.int .u8 7] 5)).heap.size = wg4.heap.size + 1 from by simp] at kd
  go_wp2_with fail
  clear kd
  refine (PT.out wg4.heap.size (wg4.heap.size + 1) _ ((Rd.lit [7] rfl).alloc _) (Rd.litm [97, 98] (by simp))).mono ?_
  rintro e wt ⟨At, ct, rfl, hown, _, hb⟩
  have HX := Lib.hid hown.rd
  have HB9 := Lib.hid ((show Below w.heap.size w _ from (HB8.out.alloc HB8.out.size _).alloc (by have := HB8.out.size; simp; omega) _).trans (hb.mono (by have := HB8.out.size; simp; omega)))
  clear hown hb
  go_wp2_with fail
  refine (O5.out _ _ (Rd.litm [2, 97, 98, 99] rfl)).mono ?_
  rintro e wo5 ⟨g5, rfl, hlive, hg, hb⟩
  have HL := Lib.hid hlive
  have HG := Lib.hid (show wt.heap.size ≤ g5 from by simp at hg; omega)
  have HE := Lib.hid (show Below wt.heap.size wt wo5 from ((Below.refl wt.heap.size wt).alloc (Nat.le_refl _) _).trans (hb.mono (by simp)))
  clear hlive hg hb
  go_wp2_with fail
  refine (G5.out _ _ HL.out).mono ?_
  rintro e wg5 ⟨A5, c5, rfl, hr, _, hc⟩
  have HF := Lib.hid (hc.bel _ _ HG.out HE.out)
  have HX := Lib.hid (HX.out.after HF.out)
  have HY := Lib.hid hr
  have HB10 := Lib.hid (bel_on HB9.out HF.out)
  clear HL HG HE HF hc hr
  go_wp2_with fail
  refine (O5.out _ _ (Rd.litm [2, 97, 98, 99] rfl)).mono ?_
  rintro e wo6 ⟨g6, rfl, hlive, hg, hb⟩
  have HL := Lib.hid hlive
  have HG := Lib.hid (show wg5.heap.size ≤ g6 from by simp at hg; omega)
  have HE := Lib.hid (show Below wg5.heap.size wg5 wo6 from ((Below.refl wg5.heap.size wg5).alloc (Nat.le_refl _) _).trans (hb.mono (by simp)))
  clear hlive hg hb
  go_wp2_with fail
  refine (G6.out _ _ HL.out).mono ?_
  rintro e wg6 ⟨rfl, hc⟩
  have HF := Lib.hid (hc.bel _ _ HG.out HE.out)
  have HX := Lib.hid (HX.out.after HF.out)
  have HY := Lib.hid (HY.out.after HF.out)
  have HB11 := Lib.hid (bel_on HB10.out HF.out)
  clear HL HG HE HF hc
  go_wp2_with fail
  refine (O6.out _ _ (Rd.litm [3, 97, 98] rfl)).mono ?_
  rintro e wo7 ⟨g7, rfl, hlive, hg, hb⟩
  have HL := Lib.hid hlive
  have HG := Lib.hid (show wg6.heap.size ≤ g7 from by simp at hg; omega)
  have HE := Lib.hid (show Below wg6.heap.size wg6 wo7 from ((Below.refl wg6.heap.size wg6).alloc (Nat.le_refl _) _).trans (hb.mono (by simp)))
  clear hlive hg hb
  go_wp2_with fail
  refine (G7.out _ _ HL.out).mono ?_
  rintro e wg7 ⟨rfl, hc⟩
  have HF := Lib.hid (hc.bel _ _ HG.out HE.out)
  have HX := Lib.hid (HX.out.after HF.out)
  have HY := Lib.hid (HY.out.after HF.out)
  have HB12 := Lib.hid (bel_on HB11.out HF.out)
  clear HL HG HE HF hc
  go_wp2_with fail
  refine (G8.out _).mono ?_
  rintro e wn ⟨rfl, hb⟩
  have HX := Lib.hid (HX.out.after hb)
  have HY := Lib.hid (HY.out.after hb)
  have HB13 := Lib.hid (bel_on HB12.out hb)
  clear hb
  go_wp2_with fail
  refine (O7.out _ _ (Rd.lit [0] rfl)).mono ?_
  rintro e wo9 ⟨g9, rfl, hlive, hg, hb⟩
  have HL := Lib.hid hlive
  have HG := Lib.hid (show wn.heap.size ≤ g9 from by simp at hg; omega)
  have HE := Lib.hid (show Below wn.heap.size wn wo9 from ((Below.refl wn.heap.size wn).alloc (Nat.le_refl _) _).trans (hb.mono (by simp)))
  clear hlive hg hb
  go_wp2_with fail
  refine (G9.out _ _ HL.out).mono ?_
  rintro e wg9 ⟨A9, c9, rfl, hr, _, hc⟩
  have HF := Lib.hid (hc.bel _ _ HG.out HE.out)
  have HX := Lib.hid (HX.out.after HF.out)
  have HY := Lib.hid (HY.out.after HF.out)
  have HB14 := Lib.hid (bel_on HB13.out HF.out)
  clear HL HG HE HF hc hr
  have sx : (convert 23 9 (.slice At 4 ct)).run Try.prog wg9 = .ok (.string ⟨#[7, 2, 97, 98]⟩) wg9 := run_str HX.out rfl
  have sy : (convert 23 9 (.slice A5 2 c5)).run Try.prog wg9 = .ok (.string ⟨#[97, 98]⟩) wg9 := run_str HY.out rfl
  go_wp2_with fail
  refine (AW.out _).mono ?_
  rintro e wz ⟨rfl, hb⟩
  go_wp2_with fail
  go_ret
  exact ⟨rfl, bel_on HB14.out hb⟩

theorem law_CompactKnown {H : Type} {enc : TypeId × Value → H} (W : World) (_base : Nat) :
    Calls Try.prog 6 #[] W fun e w' => e = .returned (.bool true) ∧ Below W.heap.size W w' := known_walk W
end Go.Proofs.Ytgmbdhpanhkfhaa
