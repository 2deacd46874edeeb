/- The chapter's examples. -/
import Derived.Test.YthmaijmjhfngpaaTgL
namespace Go.Proofs.Ythmaijmjhfngpaa
open Go.RowKit

theorem high_fill : FillB (fun j => if j = 31 then 128 else 0) 32 #[.int .u8 0, .int .u8 0, .int .u8 0, .int .u8 0, .int .u8 0, .int .u8 0, .int .u8 0, .int .u8 0, .int .u8 0, .int .u8 0, .int .u8 0, .int .u8 0, .int .u8 0, .int .u8 0, .int .u8 0, .int .u8 0, .int .u8 0, .int .u8 0, .int .u8 0, .int .u8 0, .int .u8 0, .int .u8 0, .int .u8 0, .int .u8 0, .int .u8 0, .int .u8 0, .int .u8 0, .int .u8 0, .int .u8 0, .int .u8 0, .int .u8 0, .int .u8 128] := fun i hi => by
  have : i = 0 ∨ i = 1 ∨ i = 2 ∨ i = 3 ∨ i = 4 ∨ i = 5 ∨ i = 6 ∨ i = 7 ∨ i = 8 ∨ i = 9 ∨ i = 10 ∨ i = 11 ∨ i = 12 ∨ i = 13 ∨ i = 14 ∨ i = 15 ∨ i = 16 ∨ i = 17 ∨ i = 18 ∨ i = 19 ∨ i = 20 ∨ i = 21 ∨ i = 22 ∨ i = 23 ∨ i = 24 ∨ i = 25 ∨ i = 26 ∨ i = 27 ∨ i = 28 ∨ i = 29 ∨ i = 30 ∨ i = 31 := by omega
  rcases this with rfl | rfl | rfl | rfl | rfl | rfl | rfl | rfl | rfl | rfl | rfl | rfl | rfl | rfl | rfl | rfl | rfl | rfl | rfl | rfl | rfl | rfl | rfl | rfl | rfl | rfl | rfl | rfl | rfl | rfl | rfl | rfl <;> rfl

set_option maxRecDepth 100000 in
set_option maxHeartbeats 16000000 in
theorem tknown_case (w : World)
    (X0 : Hid (∀ w, Calls Try.prog 10 #[.int .u32 486604799] w (BRet (.tuple #[.agg #[.int .u64 0, .int .u64 0, .int .u64 0, .int .u64 4294901760], .int .i64 0]) w)))
    (X1 : Hid (∀ w, Calls Try.prog 10 #[.int .u32 16790614] w (BRet (.tuple #[.agg #[.int .u64 0, .int .u64 0, .int .u64 0, .int .u64 0], .int .i64 11]) w)))
    (X2 : Hid (∀ w, Calls Try.prog 10 #[.int .u32 17970262] w (BRet (.tuple #[.agg #[.int .u64 18, .int .u64 0, .int .u64 0, .int .u64 0], .int .i64 0]) w)))
    (X3 : Hid (∀ w, Calls Try.prog 10 #[.int .u32 76690518] w (BRet (.tuple #[.agg #[.int .u64 0, .int .u64 0, .int .u64 0, .int .u64 0], .int .i64 11]) w)))
    (X4 : Hid (∀ w, Calls Try.prog 10 #[.int .u32 545259519] w (BRet (.tuple #[.agg #[.int .u64 0, .int .u64 0, .int .u64 0, .int .u64 9223370937343148032], .int .i64 0]) w)))
    (X5 : Hid (∀ w, Calls Try.prog 10 #[.int .u32 570425600] w (BRet (.tuple #[.agg #[.int .u64 0, .int .u64 0, .int .u64 0, .int .u64 0], .int .i64 11]) w)))
    (X6 : Hid (∀ w, Calls Try.prog 10 #[.int .u32 553713663] w (BRet (.tuple #[.agg #[.int .u64 0, .int .u64 0, .int .u64 0, .int .u64 18446462598732840960], .int .i64 0]) w)))
    (X7 : Hid (∀ w, Calls Try.prog 10 #[.int .u32 587202561] w (BRet (.tuple #[.agg #[.int .u64 0, .int .u64 0, .int .u64 0, .int .u64 0], .int .i64 11]) w)))
    (C0 : Hid (∀ w, Calls Try.prog 12 #[.agg #[.int .u64 18, .int .u64 0, .int .u64 0, .int .u64 0]] w (BRet (.int .u32 17956864) w)))
    (C1 : Hid (∀ w, Calls Try.prog 12 #[.agg #[.int .u64 128, .int .u64 0, .int .u64 0, .int .u64 0]] w (BRet (.int .u32 33587200) w)))
    (C2 : Hid (∀ w, Calls Try.prog 12 #[.agg #[.int .u64 0, .int .u64 0, .int .u64 0, .int .u64 4294901760]] w (BRet (.int .u32 486604799) w)))
    (C3 : Hid (∀ w, Calls Try.prog 12 #[.agg #[.int .u64 0, .int .u64 0, .int .u64 0, .int .u64 0]] w (BRet (.int .u32 0) w)))
    (W0 : Hid (∀ w, Calls Try.prog 17 #[.int .u32 486604799] w (BRet (.agg #[.int .u64 4295032833, .int .u64 0, .int .u64 0, .int .u64 0]) w)))
    (W1 : Hid (∀ w, Calls Try.prog 17 #[.int .u32 545259519] w (BRet (.agg #[.int .u64 2, .int .u64 0, .int .u64 0, .int .u64 0]) w)))
    (W2 : Hid (∀ w, Calls Try.prog 17 #[.int .u32 0] w (BRet (.agg #[.int .u64 0, .int .u64 0, .int .u64 0, .int .u64 0]) w)))
    (N0 : Hid (∀ w, Calls Try.prog 26 #[.int .u32 486604799, .int .u32 486604799, .int .i64 604800, .int .i64 1209600] w (BRet (.int .u32 478150528) w)))
    (N1 : Hid (∀ w, Calls Try.prog 26 #[.int .u32 486604799, .int .u32 486604799, .int .i64 1, .int .i64 1209600] w (BRet (.int .u32 473956288) w)))
    (N2 : Hid (∀ w, Calls Try.prog 26 #[.int .u32 486604799, .int .u32 486604799, .int .i64 1000000000, .int .i64 1209600] w (BRet (.int .u32 486604799) w)))
    (M0 : Hid (∀ w, Calls Try.prog 15 #[.agg #[.int .u8 0, .int .u8 0, .int .u8 0, .int .u8 0, .int .u8 0, .int .u8 0, .int .u8 0, .int .u8 0, .int .u8 0, .int .u8 0, .int .u8 0, .int .u8 0, .int .u8 0, .int .u8 0, .int .u8 0, .int .u8 0, .int .u8 0, .int .u8 0, .int .u8 0, .int .u8 0, .int .u8 0, .int .u8 0, .int .u8 0, .int .u8 0, .int .u8 0, .int .u8 0, .int .u8 0, .int .u8 0, .int .u8 0, .int .u8 0, .int .u8 0, .int .u8 0], .int .u32 545259519, .int .u32 486604799] w (BRet (.int .i64 11) w)))
    (M1 : Hid (∀ w, Calls Try.prog 15 #[.agg #[.int .u8 0, .int .u8 0, .int .u8 0, .int .u8 0, .int .u8 0, .int .u8 0, .int .u8 0, .int .u8 0, .int .u8 0, .int .u8 0, .int .u8 0, .int .u8 0, .int .u8 0, .int .u8 0, .int .u8 0, .int .u8 0, .int .u8 0, .int .u8 0, .int .u8 0, .int .u8 0, .int .u8 0, .int .u8 0, .int .u8 0, .int .u8 0, .int .u8 0, .int .u8 0, .int .u8 0, .int .u8 0, .int .u8 0, .int .u8 0, .int .u8 0, .int .u8 128], .int .u32 545259519, .int .u32 545259519] w (BRet (.int .i64 10) w)))
    (AW : Hid (∀ w, Calls Try.prog 14 #[] w (BRet (.bool true) w))) :
    Calls Try.prog 8 #[] w (BRet (.bool true) w) := by
  have E := fun a0 a1 a2 a3 => neW_same a0 a1 a2 a3
  go_enter Try.func8, Try.ntmps8
  go_wp2_with fail
  refine (X0.out _).mono ?_
  rintro e w1 ⟨rfl, hb1⟩
  have HB1 := Lib.hid ((show Below w.heap.size w _ from by repeat' (first | exact Below.refl _ _ | refine bel_drewN ?_ _ | refine Below.drew ?_ | refine Below.alloc ?_ ?_ _ | refine Below.setCell ?_ ?_ _ | exact Nat.le_refl _ | (simp; done) | (simp; omega) | assumption)).trans (hb1.mono (by simp <;> omega)))
  clear hb1
  go_wp2_with fail
  refine (X1.out _).mono ?_
  rintro e w2 ⟨rfl, hb2⟩
  have Hb02 := Lib.hid ((show IsBlk _ (w1.heap.size) 25 #[.int .u64 0, .int .u64 0, .int .u64 0, .int .u64 4294901760] from (IsBlk.newAt _ _ rfl)).after hb2)
  have HB2 := Lib.hid (bel_on (bel_al HB1.out _) hb2)
  clear hb2
  clear HB1
  go_wp2_with fail
  refine (X2.out _).mono ?_
  rintro e w3 ⟨rfl, hb3⟩
  have Hb03 := Lib.hid ((Hb02.out.alloc _).after hb3)
  have HB3 := Lib.hid (bel_on (bel_al HB2.out _) hb3)
  clear hb3
  clear Hb02 HB2
  go_wp2_with fail
  refine (X3.out _).mono ?_
  rintro e w4 ⟨rfl, hb4⟩
  have Hb04 := Lib.hid ((Hb03.out.alloc _).after hb4)
  have Hb24 := Lib.hid ((show IsBlk _ (w3.heap.size) 25 #[.int .u64 18, .int .u64 0, .int .u64 0, .int .u64 0] from (IsBlk.newAt _ _ rfl)).after hb4)
  have HB4 := Lib.hid (bel_on (bel_al HB3.out _) hb4)
  clear hb4
  clear Hb03 HB3
  go_wp2_with fail
  refine (X4.out _).mono ?_
  rintro e w5 ⟨rfl, hb5⟩
  have Hb05 := Lib.hid ((Hb04.out.alloc _).after hb5)
  have Hb25 := Lib.hid ((Hb24.out.alloc _).after hb5)
  have HB5 := Lib.hid (bel_on (bel_al HB4.out _) hb5)
  clear hb5
  clear Hb04 Hb24 HB4
  go_wp2_with fail
  refine (X5.out _).mono ?_
  rintro e w6 ⟨rfl, hb6⟩
  have Hb06 := Lib.hid ((Hb05.out.alloc _).after hb6)
  have Hb26 := Lib.hid ((Hb25.out.alloc _).after hb6)
  have Hb46 := Lib.hid ((show IsBlk _ (w5.heap.size) 25 #[.int .u64 0, .int .u64 0, .int .u64 0, .int .u64 9223370937343148032] from (IsBlk.newAt _ _ rfl)).after hb6)
  have HB6 := Lib.hid (bel_on (bel_al HB5.out _) hb6)
  clear hb6
  clear Hb05 Hb25 HB5
  go_wp2_with fail
  refine (X6.out _).mono ?_
  rintro e w7 ⟨rfl, hb7⟩
  have Hb07 := Lib.hid ((Hb06.out.alloc _).after hb7)
  have Hb27 := Lib.hid ((Hb26.out.alloc _).after hb7)
  have Hb47 := Lib.hid ((Hb46.out.alloc _).after hb7)
  have HB7 := Lib.hid (bel_on (bel_al HB6.out _) hb7)
  clear hb7
  clear Hb06 Hb26 Hb46 HB6
  go_wp2_with fail
  refine (X7.out _).mono ?_
  rintro e w8 ⟨rfl, hb8⟩
  have Hb08 := Lib.hid ((Hb07.out.alloc _).after hb8)
  have Hb28 := Lib.hid ((Hb27.out.alloc _).after hb8)
  have Hb48 := Lib.hid ((Hb47.out.alloc _).after hb8)
  have Hb68 := Lib.hid ((show IsBlk _ (w7.heap.size) 25 #[.int .u64 0, .int .u64 0, .int .u64 0, .int .u64 18446462598732840960] from (IsBlk.newAt _ _ rfl)).after hb8)
  have HB8 := Lib.hid (bel_on (bel_al HB7.out _) hb8)
  clear hb8
  clear Hb07 Hb27 Hb47 HB7
  have hb0 := Hb08.out
  have vb00 := hb0.cell 0
  have vb01 := hb0.cell 1
  have vb02 := hb0.cell 2
  have vb03 := hb0.cell 3
  simp at vb00 vb01 vb02 vb03
  have frvb0 := hb0.free
  have lvb0 := hb0.lt
  clear hb0
  have hb2 := Hb28.out
  have vb20 := hb2.cell 0
  have vb21 := hb2.cell 1
  have vb22 := hb2.cell 2
  have vb23 := hb2.cell 3
  simp at vb20 vb21 vb22 vb23
  have frvb2 := hb2.free
  have lvb2 := hb2.lt
  clear hb2
  have hb4 := Hb48.out
  have vb40 := hb4.cell 0
  have vb41 := hb4.cell 1
  have vb42 := hb4.cell 2
  have vb43 := hb4.cell 3
  simp at vb40 vb41 vb42 vb43
  have frvb4 := hb4.free
  have lvb4 := hb4.lt
  clear hb4
  have hb6 := Hb68.out
  have vb60 := hb6.cell 0
  have vb61 := hb6.cell 1
  have vb62 := hb6.cell 2
  have vb63 := hb6.cell 3
  simp at vb60 vb61 vb62 vb63
  have frvb6 := hb6.free
  have lvb6 := hb6.lt
  clear hb6
  go_wp2_with fail
  refine (C0.out _).mono ?_
  rintro e w9 ⟨rfl, hb9⟩
  have Hb09 := Lib.hid ((Hb08.out.alloc _).after hb9)
  have Hb29 := Lib.hid ((Hb28.out.alloc _).after hb9)
  have Hb49 := Lib.hid ((Hb48.out.alloc _).after hb9)
  have Hb69 := Lib.hid ((Hb68.out.alloc _).after hb9)
  have HB9 := Lib.hid (bel_on (bel_al HB8.out _) hb9)
  clear vb00 vb01 vb02 vb03 frvb0 lvb0
  clear vb20 vb21 vb22 vb23 frvb2 lvb2
  clear vb40 vb41 vb42 vb43 frvb4 lvb4
  clear vb60 vb61 vb62 vb63 frvb6 lvb6
  clear hb9
  clear Hb08 Hb28 Hb48 Hb68 HB8
  go_wp2_with fail
  refine (C1.out _).mono ?_
  rintro e w10 ⟨rfl, hb10⟩
  have Hb010 := Lib.hid (Hb09.out.after hb10)
  have Hb210 := Lib.hid (Hb29.out.after hb10)
  have Hb410 := Lib.hid (Hb49.out.after hb10)
  have Hb610 := Lib.hid (Hb69.out.after hb10)
  have HB10 := Lib.hid (bel_on HB9.out hb10)
  clear hb10
  clear Hb09 Hb29 Hb49 Hb69 HB9
  have hb0 := Hb010.out
  have vb00 := hb0.cell 0
  have vb01 := hb0.cell 1
  have vb02 := hb0.cell 2
  have vb03 := hb0.cell 3
  simp at vb00 vb01 vb02 vb03
  have frvb0 := hb0.free
  have lvb0 := hb0.lt
  clear hb0
  go_wp2_with fail
  refine (C2.out _).mono ?_
  rintro e w11 ⟨rfl, hb11⟩
  have Hb011 := Lib.hid (Hb010.out.after hb11)
  have Hb211 := Lib.hid (Hb210.out.after hb11)
  have Hb411 := Lib.hid (Hb410.out.after hb11)
  have Hb611 := Lib.hid (Hb610.out.after hb11)
  have HB11 := Lib.hid (bel_on HB10.out hb11)
  clear vb00 vb01 vb02 vb03 frvb0 lvb0
  clear hb11
  clear Hb010 Hb210 Hb410 Hb610 HB10
  go_wp2_with fail
  refine (C3.out _).mono ?_
  rintro e w12 ⟨rfl, hb12⟩
  have Hb012 := Lib.hid (Hb011.out.after hb12)
  have Hb212 := Lib.hid (Hb211.out.after hb12)
  have Hb412 := Lib.hid (Hb411.out.after hb12)
  have Hb612 := Lib.hid (Hb611.out.after hb12)
  have HB12 := Lib.hid (bel_on HB11.out hb12)
  clear hb12
  clear Hb011 Hb211 Hb411 Hb611 HB11
  go_wp2_with fail
  refine (W0.out _).mono ?_
  rintro e w13 ⟨rfl, hb13⟩
  have Hb013 := Lib.hid (Hb012.out.after hb13)
  have Hb213 := Lib.hid (Hb212.out.after hb13)
  have Hb413 := Lib.hid (Hb412.out.after hb13)
  have Hb613 := Lib.hid (Hb612.out.after hb13)
  have HB13 := Lib.hid (bel_on HB12.out hb13)
  clear hb13
  clear Hb012 Hb212 Hb412 Hb612 HB12
  go_wp2_with fail
  refine (W1.out _).mono ?_
  rintro e w14 ⟨rfl, hb14⟩
  have Hb014 := Lib.hid (Hb013.out.after hb14)
  have Hb214 := Lib.hid (Hb213.out.after hb14)
  have Hb414 := Lib.hid (Hb413.out.after hb14)
  have Hb614 := Lib.hid (Hb613.out.after hb14)
  have HB14 := Lib.hid (bel_on HB13.out hb14)
  clear hb14
  clear Hb013 Hb213 Hb413 Hb613 HB13
  go_wp2_with fail
  refine (W2.out _).mono ?_
  rintro e w15 ⟨rfl, hb15⟩
  have Hb015 := Lib.hid (Hb014.out.after hb15)
  have Hb215 := Lib.hid (Hb214.out.after hb15)
  have Hb415 := Lib.hid (Hb414.out.after hb15)
  have Hb615 := Lib.hid (Hb614.out.after hb15)
  have HB15 := Lib.hid (bel_on HB14.out hb15)
  clear hb15
  clear Hb014 Hb214 Hb414 Hb614 HB14
  go_wp2_with fail
  refine (N0.out _).mono ?_
  rintro e w16 ⟨rfl, hb16⟩
  have Hb016 := Lib.hid (Hb015.out.after hb16)
  have Hb216 := Lib.hid (Hb215.out.after hb16)
  have Hb416 := Lib.hid (Hb415.out.after hb16)
  have Hb616 := Lib.hid (Hb615.out.after hb16)
  have HB16 := Lib.hid (bel_on HB15.out hb16)
  clear hb16
  clear Hb015 Hb215 Hb415 Hb615 HB15
  go_wp2_with fail
  refine (N1.out _).mono ?_
  rintro e w17 ⟨rfl, hb17⟩
  have Hb017 := Lib.hid (Hb016.out.after hb17)
  have Hb217 := Lib.hid (Hb216.out.after hb17)
  have Hb417 := Lib.hid (Hb416.out.after hb17)
  have Hb617 := Lib.hid (Hb616.out.after hb17)
  have HB17 := Lib.hid (bel_on HB16.out hb17)
  clear hb17
  clear Hb016 Hb216 Hb416 Hb616 HB16
  go_wp2_with fail
  refine (N2.out _).mono ?_
  rintro e w18 ⟨rfl, hb18⟩
  have Hb018 := Lib.hid (Hb017.out.after hb18)
  have Hb218 := Lib.hid (Hb217.out.after hb18)
  have Hb418 := Lib.hid (Hb417.out.after hb18)
  have Hb618 := Lib.hid (Hb617.out.after hb18)
  have HB18 := Lib.hid (bel_on HB17.out hb18)
  clear hb18
  clear Hb017 Hb217 Hb417 Hb617 HB17
  go_wp2_with fail
  refine (M0.out _).mono ?_
  rintro e w19 ⟨rfl, hb19⟩
  have Hb019 := Lib.hid (Hb018.out.after hb19)
  have Hb219 := Lib.hid (Hb218.out.after hb19)
  have Hb419 := Lib.hid (Hb418.out.after hb19)
  have Hb619 := Lib.hid (Hb618.out.after hb19)
  have HB19 := Lib.hid (bel_on HB18.out hb19)
  clear hb19
  clear Hb018 Hb218 Hb418 Hb618 HB18
  go_wp2_with fail
  refine (M1.out _).mono ?_
  rintro e w20 ⟨rfl, hb20⟩
  have Hb020 := Lib.hid (Hb019.out.after hb20)
  have Hb220 := Lib.hid (Hb219.out.after hb20)
  have Hb420 := Lib.hid (Hb419.out.after hb20)
  have Hb620 := Lib.hid (Hb619.out.after hb20)
  have HB20 := Lib.hid (bel_on HB19.out hb20)
  clear hb20
  clear Hb019 Hb219 Hb419 Hb619 HB19
  go_wp2_with fail
  refine (AW.out _).mono ?_
  rintro e w21 ⟨rfl, hb21⟩
  have Hb021 := Lib.hid (Hb020.out.after hb21)
  have Hb221 := Lib.hid (Hb220.out.after hb21)
  have Hb421 := Lib.hid (Hb420.out.after hb21)
  have Hb621 := Lib.hid (Hb620.out.after hb21)
  have HB21 := Lib.hid (bel_on HB20.out hb21)
  clear hb21
  clear Hb020 Hb220 Hb420 Hb620 HB20
  go_wp2_with fail
  go_ret
  exact ⟨rfl, HB21.out⟩

theorem law_TargetKnown {H : Type} {enc : TypeId × Value → H} (w : World) (base : Nat) : Calls Try.prog 8 #[] w fun e w' => e = .returned (.bool true) ∧ Below w.heap.size w w' := by
  refine tknown_case w (Lib.hid fun w => ?_) (Lib.hid fun w => ?_) (Lib.hid fun w => ?_) (Lib.hid fun w => ?_) (Lib.hid fun w => ?_) (Lib.hid fun w => ?_) (Lib.hid fun w => ?_) (Lib.hid fun w => ?_) (Lib.hid fun w => ?_) (Lib.hid fun w => ?_) (Lib.hid fun w => ?_) (Lib.hid fun w => ?_) (Lib.hid fun w => ?_) (Lib.hid fun w => ?_) (Lib.hid fun w => ?_) (Lib.hid fun w => ?_) (Lib.hid fun w => ?_) (Lib.hid fun w => ?_) (Lib.hid fun w => ?_) (Lib.hid fun w => ?_) (Lib.hid fun w => ?_)
  · have := expand_any 486604799 w (by decide)
    rwa [lit4 (xN 486604799) 0 0 0 4294901760 (by decide +kernel) (by decide +kernel) (by decide +kernel) (by decide +kernel), show xE 486604799 = 0 from by decide +kernel] at this
  · have := expand_any 16790614 w (by decide)
    rwa [lit4 (xN 16790614) 0 0 0 0 (by decide +kernel) (by decide +kernel) (by decide +kernel) (by decide +kernel), show xE 16790614 = 11 from by decide +kernel] at this
  · have := expand_any 17970262 w (by decide)
    rwa [lit4 (xN 17970262) 18 0 0 0 (by decide +kernel) (by decide +kernel) (by decide +kernel) (by decide +kernel), show xE 17970262 = 0 from by decide +kernel] at this
  · have := expand_any 76690518 w (by decide)
    rwa [lit4 (xN 76690518) 0 0 0 0 (by decide +kernel) (by decide +kernel) (by decide +kernel) (by decide +kernel), show xE 76690518 = 11 from by decide +kernel] at this
  · have := expand_any 545259519 w (by decide)
    rwa [lit4 (xN 545259519) 0 0 0 9223370937343148032 (by decide +kernel) (by decide +kernel) (by decide +kernel) (by decide +kernel), show xE 545259519 = 0 from by decide +kernel] at this
  · have := expand_any 570425600 w (by decide)
    rwa [lit4 (xN 570425600) 0 0 0 0 (by decide +kernel) (by decide +kernel) (by decide +kernel) (by decide +kernel), show xE 570425600 = 11 from by decide +kernel] at this
  · have := expand_any 553713663 w (by decide)
    rwa [lit4 (xN 553713663) 0 0 0 18446462598732840960 (by decide +kernel) (by decide +kernel) (by decide +kernel) (by decide +kernel), show xE 553713663 = 0 from by decide +kernel] at this
  · have := expand_any 587202561 w (by decide)
    rwa [lit4 (xN 587202561) 0 0 0 0 (by decide +kernel) (by decide +kernel) (by decide +kernel) (by decide +kernel), show xE 587202561 = 11 from by decide +kernel] at this
  · have := compact_any 18 w (by rw [w256_eq]; decide)
    rw [lit4 18 18 0 0 0 (by decide +kernel) (by decide +kernel) (by decide +kernel) (by decide +kernel), show cN 18 = 17956864 from by decide +kernel] at this
    exact this
  · have := compact_any 128 w (by rw [w256_eq]; decide)
    rw [lit4 128 128 0 0 0 (by decide +kernel) (by decide +kernel) (by decide +kernel) (by decide +kernel), show cN 128 = 33587200 from by decide +kernel] at this
    exact this
  · have := compact_any 26959535291011309493156476344723991336010898738574164086137773096960 w (by rw [w256_eq]; decide)
    rw [lit4 26959535291011309493156476344723991336010898738574164086137773096960 0 0 0 4294901760 (by decide +kernel) (by decide +kernel) (by decide +kernel) (by decide +kernel), show cN 26959535291011309493156476344723991336010898738574164086137773096960 = 486604799 from by decide +kernel] at this
    exact this
  · have := compact_any 0 w (by rw [w256_eq]; decide)
    rw [lit4 0 0 0 0 0 (by decide +kernel) (by decide +kernel) (by decide +kernel) (by decide +kernel), show cN 0 = 0 from by decide +kernel] at this
    exact this
  · have := work_any 486604799 w (by decide)
    rwa [lit4 (workN 486604799) 4295032833 0 0 0 (by decide +kernel) (by decide +kernel) (by decide +kernel) (by decide +kernel)] at this
  · have := work_any 545259519 w (by decide)
    rwa [lit4 (workN 545259519) 2 0 0 0 (by decide +kernel) (by decide +kernel) (by decide +kernel) (by decide +kernel)] at this
  · have := work_any 0 w (by decide)
    rwa [lit4 (workN 0) 0 0 0 0 (by decide +kernel) (by decide +kernel) (by decide +kernel) (by decide +kernel)] at this
  · have := next_any 486604799 486604799 604800 1209600 w (by decide) (by decide) (by decide) (by decide)
    rw [show nextN 486604799 486604799 604800 1209600 = 478150528 from by decide +kernel] at this
    exact this
  · have := next_any 486604799 486604799 1 1209600 w (by decide) (by decide) (by decide) (by decide)
    rw [show nextN 486604799 486604799 1 1209600 = 473956288 from by decide +kernel] at this
    exact this
  · have := next_any 486604799 486604799 1000000000 1209600 w (by decide) (by decide) (by decide) (by decide)
    rw [show nextN 486604799 486604799 1000000000 1209600 = 486604799 from by decide +kernel] at this
    exact this
  · have := meets_any (fun _ => 0) (fun _ => by decide) _ rfl zero_fill 545259519 486604799 w (by decide) (by decide)
    rw [show meetN (ofBits (bitsOf fun _ => 0) 256) 545259519 486604799 = 11 from by decide +kernel] at this
    exact this
  · have := meets_any (fun j => if j = 31 then 128 else 0) (fun j => by split <;> decide) _ rfl high_fill 545259519 545259519 w (by decide) (by decide)
    rw [show meetN (ofBits (bitsOf fun j => if j = 31 then 128 else 0) 256) 545259519 545259519 = 10 from by decide +kernel] at this
    exact this
  · exact works_any w
end Go.Proofs.Ythmaijmjhfngpaa
