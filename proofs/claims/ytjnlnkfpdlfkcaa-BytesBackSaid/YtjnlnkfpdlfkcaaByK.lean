/- The reader of bytes, continued: looking ahead; what the chapter's law asks of each of its laws. -/
import Derived.Test.YtjnlnkfpdlfkcaaByS
import Derived.Test.YtjnlnkfpdlfkcaaByP
namespace Go.Proofs.Ytjnlnkfpdlfkcaa
open Go.RowKit Go.Lib

set_option maxHeartbeats 1000000 in
theorem end_live (g : Nat) (l : List UInt8) (w : World) (h : Live w g l) (hl : l.length ≤ 1000000000) : Calls Try.prog 14 #[.pointer (some ⟨g, 0, none⟩)] w fun e w' => e = .returned (.bool l.isEmpty) ∧ w = w' := by
  have C := Lib.hid (may_live g l 0 w h hl)
  have e1 : (decide ((0 : Int) ≤ 0) && decide ((0 : Int) ≤ l.length)) = true := by simp
  rw [e1] at C
  obtain ⟨A, c, h1, _⟩ := h
  have r0 := h1.cell 0
  simp at r0
  have hE : l.isEmpty = (((l.length : Nat) : Int) == 0) := by cases l <;> simp; omega
  rw [hE]
  clear h1 e1 hE
  go_enter Try.func14, Try.ntmps14
  go_wp2_with fail
  refine C.out.mono ?_
  rintro e w' ⟨rfl, rfl⟩
  go_wp2_with fail
  go_ret
  exact ⟨rfl, rfl⟩
set_option maxHeartbeats 1000000 in
theorem end_dead (p : Option Addr) (w : World) (h : Dead w p) : Calls Try.prog 14 #[.pointer p] w fun e w' => e = .returned (.bool false) ∧ w = w' := by
  have C := Lib.hid (may_dead p 0 w h)
  clear h
  go_enter Try.func14, Try.ntmps14
  go_wp2_with fail
  refine C.out.mono ?_
  rintro e w' ⟨rfl, rfl⟩
  go_wp2_with fail
  go_ret
  exact ⟨rfl, rfl⟩

set_option maxHeartbeats 1000000 in
theorem peek_yes (g : Nat) (l : List UInt8) (n : Nat) (w : World) (h : Live w g l) (hl : l.length ≤ 1000000000) (hn : n ≤ l.length) :
    Calls Try.prog 17 #[.pointer (some ⟨g, 0, none⟩), .int .i64 n] w (BytesRet (l.take n) w) := by
  have C := Lib.hid (may_live g l n w h hl)
  have e1 : (decide ((0 : Int) ≤ n) && decide ((n : Int) ≤ l.length)) = true := by simp [hn]
  rw [e1] at C
  clear e1
  obtain ⟨A, c, h1, h2, h3, h4, h5⟩ := h
  have C2 := Lib.hid (clone_any A n c (l.take n) w (by rw [List.length_take]; omega) (fun h => by have := h4 h; omega) (h3.take n) (by rw [List.length_take]; omega))
  have r0 := h1.cell 0
  simp at r0
  clear h1 h3 h4 h5
  go_enter Try.func17, Try.ntmps17
  go_wp2_with fail
  refine C.out.mono ?_
  rintro e w' ⟨rfl, rfl⟩
  go_wp2_with fail
  refine C2.out.mono ?_
  rintro e w1 ⟨A1, c1, rfl, hown, hnn, hb1⟩
  have HO := Lib.hid hown
  have HN := Lib.hid hnn
  have HB := Lib.hid hb1
  clear hown hnn hb1
  go_wp2_with fail
  go_ret
  have hlen : (l.take n).length = n := by rw [List.length_take]; omega
  have hO := HO.out
  rw [hlen] at hO
  exact BytesRet.mk hlen.symm hO HN.out HB.out
set_option maxHeartbeats 1000000 in
theorem peek_dead (p : Option Addr) (n : Int) (w : World) (h : Dead w p) : Calls Try.prog 17 #[.pointer p, .int .i64 n] w fun e w' => e = .returned (.slice none 0 0) ∧ w = w' := by
  have C := Lib.hid (may_dead p n w h)
  clear h
  go_enter Try.func17, Try.ntmps17
  go_wp2_with fail
  refine C.out.mono ?_
  rintro e w' ⟨rfl, rfl⟩
  go_wp2_with fail
  go_ret
  exact ⟨rfl, rfl⟩

/-- A slice that the text itself lays. -/
theorem Rd.lit {w : World} {g : Nat} (l : List UInt8) (hg : w.heap.size = g) : Rd (w.alloc (.cells (byteCells l).toArray 5)) (some ⟨g, 0, none⟩) l := by
  subst hg
  intro _
  refine ⟨_, rfl, by simp, fun j hj => ?_⟩
  have : (⟨w.heap.size, 0, none⟩ : Addr).add j = ⟨w.heap.size, j, none⟩ := by unfold Addr.add; split <;> simp_all
  rw [this, IsBlk.cell (IsBlk.new _ _ _)]
  simp [byteCells, hj]

set_option maxRecDepth 100000 in
set_option maxHeartbeats 4000000 in
theorem awake_any (w : World) : Calls Try.prog 7 #[] w (BRet (.bool true) w) := by
  have C1 := Lib.hid (fun w' g (hr : Rd w' (some ⟨g, 0, none⟩) [7]) => put_yes (some ⟨g, 0, none⟩) 1 [7] 2 258 w' (fun h => by cases h) hr (by decide) (by omega) (by decide))
  rw [show [7] ++ digs 2 258 = [7, 2, 1] from by decide] at C1
  have C2 := Lib.hid (fun w' g (hr : Rd w' (some ⟨g, 0, none⟩) [2, 1, 5]) => open_any (some ⟨g, 0, none⟩) 3 3 [2, 1, 5] w' rfl (fun h => by cases h) hr (by decide))
  go_enter Try.func7, Try.ntmps7
  go_wp2_with fail
  refine (C1.out _ _ (Rd.lit [7] rfl)).mono ?_
  rintro e w1 ⟨A1, c1, rfl, hown, hnn, hb1⟩
  have hB1 := (show Below w.heap.size w _ from by repeat' (first | exact Below.refl _ _ | refine bel_drewN ?_ _ | refine Below.drew ?_ | refine Below.alloc ?_ ?_ _ | refine Below.setCell ?_ ?_ _ | exact Nat.le_refl _ | (simp; done) | (simp; omega) | assumption)).trans (hb1.mono (by simp))
  have HO := Lib.hid hown
  have HB := Lib.hid hB1
  clear hown hnn hb1 hB1
  go_wp2_with fail
  refine (C2.out _ _ (Rd.lit [2, 1, 5] rfl)).mono ?_
  rintro e w2 ⟨g, rfl, hlive, hg, hb2⟩
  have hs : (convert 22 9 (.slice A1 3 c1)).run Try.prog w2 = .ok (.string ⟨#[7, 2, 1]⟩) w2 := run_str ((HO.out.rd.alloc _).after hb2) rfl
  have hB2 := (HB.out.alloc HB.out.size (.cells (byteCells [2, 1, 5]).toArray 5)).trans (hb2.mono (by have := HB.out.size; simp; omega))
  have HB2 := Lib.hid hB2
  have HG := Lib.hid (show w.heap.size ≤ g from by have := HB.out.size; simp at hg; omega)
  have HL := Lib.hid hlive
  clear hlive hg hb2 hB2
  go_wp2_with fail
  refine (num_yes g [2, 1, 5] 2 w2 HL.out (by decide) (by omega) (by decide)).mono ?_
  rw [show valB (([2, 1, 5] : List UInt8).take 2) = 258 from by decide, show ([2, 1, 5] : List UInt8).drop 2 = [5] from rfl]
  rintro e w3 ⟨rfl, hl3, hc3⟩
  have HL3 := Lib.hid hl3
  have HC3 := Lib.hid hc3
  clear hl3 hc3
  go_wp2_with fail
  refine (left_live g [5] w3 HL3.out (by decide)).mono ?_
  rintro e w' ⟨rfl, rfl⟩
  go_wp2_with fail
  refine (peek_yes g [5] 1 w3 HL3.out (by decide) (by decide)).mono ?_
  rw [show ([5] : List UInt8).take 1 = [5] from rfl]
  rintro e w4 ⟨A4, c4, rfl, hown4, hnn4, hb4⟩
  have hs4 : (convert 22 9 (.slice A4 1 c4)).run Try.prog w4 = .ok (.string ⟨#[5]⟩) w4 := run_str hown4.rd rfl
  have HL4 := Lib.hid (HL3.out.after hb4)
  have HC4 := Lib.hid (HC3.out.trans (Chg.below HL3.out.lt hb4))
  clear hown4 hnn4 hb4 hs
  go_wp2_with fail
  refine (take_yes g [5] 1 w4 HL4.out (by decide) (by decide)).mono ?_
  rw [show ([5] : List UInt8).take 1 = [5] from rfl, show ([5] : List UInt8).drop 1 = [] from rfl]
  rintro e w5 ⟨A5, c5, rfl, hr5, hnn5, hl5, hc5⟩
  have hs5 : (convert 22 9 (.slice A5 1 c5)).run Try.prog w5 = .ok (.string ⟨#[5]⟩) w5 := run_str hr5 rfl
  have HL5 := Lib.hid hl5
  have HC5 := Lib.hid (HC4.out.trans hc5)
  clear hr5 hnn5 hl5 hc5 hs4
  go_wp2_with fail
  refine (end_live g [] w5 HL5.out (by decide)).mono ?_
  rintro e w' ⟨rfl, rfl⟩
  go_wp2_with fail
  go_ret
  exact ⟨rfl, HC5.out.bel _ _ HG.out HB2.out⟩

/-! ### The law of Put -/
/-- Bytes that are turned, one by one, from the first on. -/
theorem Own.set {w : World} {base : Nat} {A : Option Addr} {n c j : Nat} {l : List UInt8} (h : Own w base (.slice A n c) l) (hj : j < l.length) :
    ∃ g, A = some ⟨g, 0, none⟩ ∧ base ≤ g ∧ w.cell? ⟨g, j, none⟩ = some (.int .u8 (l[j].toNat : Int)) ∧ w.frozen? ⟨g, j, none⟩ = false ∧
      ∀ b : UInt8, Own (w.setCell ⟨g, j, none⟩ (.int .u8 (b.toNat : Int))) base (.slice A n c) (l.set j b) := by
  rcases h.2 with ⟨hv, h0⟩ | ⟨g, cap, cur, hv, hb, hg, hle, hmx, hsz, htk⟩
  · omega
  · injection hv with h1 h2 h3
    subst h1 h2 h3
    have hblk : IsBlk w g 5 cur := hg
    refine ⟨g, rfl, hb, ?_, hblk.free j, fun b => ?_⟩
    · rw [hblk.cell]
      have : (cur.toList.take (l.length * 1))[j]? = (byteCells l)[j]? := by rw [htk]
      rw [List.getElem?_take_of_lt (by omega)] at this
      simpa [byteCells, hj] using this
    · refine ⟨by simp [byteCells_length], .inr ⟨g, c, cur.setIfInBounds j (.int .u8 (b.toNat : Int)), by simp, hb, hblk.put j _, by simpa using hle, hmx, by simpa using hsz, ?_⟩⟩
      have e1 : (cur.setIfInBounds j (.int .u8 (b.toNat : Int))).toList = cur.toList.set j (.int .u8 (b.toNat : Int)) := by simp
      rw [e1, List.length_set, List.take_set]
      rw [htk]
      simp [byteCells, List.map_set]
end Go.Proofs.Ytjnlnkfpdlfkcaa
