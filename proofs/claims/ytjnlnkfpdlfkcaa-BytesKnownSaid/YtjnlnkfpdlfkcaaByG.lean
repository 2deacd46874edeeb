/- The chapter's examples. -/
import Derived.Test.YtjnlnkfpdlfkcaaByH
namespace Go.Proofs.Ytjnlnkfpdlfkcaa
open Go.RowKit Go.Lib

theorem Rd.apart {w : World} {g : Nat} {t : TypeId} {B : Option Addr} {n c : Nat} {x y : Bool} {A : Option Addr} {l : List UInt8} (hb : IsBlk w g t #[.slice B n c, .bool x, .bool y]) (h : Rd w A l) (hl : 0 < l.length) : ∀ ad : Addr, A = some ad → ad.block ≠ g := by
  rintro ad rfl e
  obtain ⟨ad', e', _, hc⟩ := h hl
  injection e' with e'
  subst e'
  have h0 := hc 0 hl
  have hs := World.cell?_spot h0
  obtain ⟨b, o, s⟩ := ad
  simp [Addr.add] at h0 hs
  subst hs
  simp at e
  subst e
  rw [hb.cell] at h0
  match o, h0 with
  | 0, h0 => simp at h0
  | 1, h0 => simp at h0
  | 2, h0 => simp at h0
  | o + 3, h0 => simp at h0
theorem Live.chg {w w' : World} {g gz : Nat} {t : TypeId} {B : Option Addr} {n c : Nat} {x y : Bool} {l : List UInt8} (h : Live w g l) (hb : IsBlk w gz t #[.slice B n c, .bool x, .bool y]) (k : Chg gz w w') (hne : g ≠ gz) : Live w' g l := by
  obtain ⟨A, c', h1, h2, h3, h4, h5⟩ := h
  refine ⟨A, c', h1.chg k hne, h2, ?_, h4, h5⟩
  intro hl
  exact (h3.chg k (Rd.apart hb h3 hl)) hl

theorem zeros_eq (w : World) : (binOp .eql 39 (.agg zl.toArray) (.agg #[.int .u8 0, .int .u8 0, .int .u8 0, .int .u8 0, .int .u8 0, .int .u8 0, .int .u8 0, .int .u8 0, .int .u8 0, .int .u8 0, .int .u8 0, .int .u8 0, .int .u8 0, .int .u8 0, .int .u8 0, .int .u8 0, .int .u8 0, .int .u8 0, .int .u8 0, .int .u8 0, .int .u8 0, .int .u8 0, .int .u8 0, .int .u8 0, .int .u8 0, .int .u8 0, .int .u8 0, .int .u8 0, .int .u8 0, .int .u8 0, .int .u8 0, .int .u8 0])).run Try.prog w = .ok (.bool true) w := by
  rw [zeros_def]
  have e : zl.toArray = ((List.replicate 32 (0 : Int)).map (Value.int .u8)).toArray := rfl
  rw [e]
  have := run_eql_nums w 39 5 32 .u8 Try.underlying39 Try.underlying5 (fun _ => by kernel_rfl) (List.replicate 32 0) (List.replicate 32 0) (by simp) (by simp)
  rw [this]
  simp

set_option maxRecDepth 100000 in
set_option maxHeartbeats 8000000 in
theorem known_walk (w : World) : Calls Try.prog 4 #[] w (BRet (.bool true) w) := by
  have AW := Lib.hid awake_any
  have P1 := Lib.hid (fun w' => put_no none 0 0 1 256 w' (by decide) (by rintro ⟨_, h⟩; revert h; decide))
  have P2 := Lib.hid (fun w' => put_no none 0 0 3 1 w' (by decide) (by rintro ⟨h, _⟩; revert h; decide))
  have O1 := Lib.hid (fun w' g (hr : Rd w' (some ⟨g, 0, none⟩) [2, 1]) => open_any (some ⟨g, 0, none⟩) 2 2 [2, 1] w' rfl (fun h => by cases h) hr (by decide))
  have O2 := Lib.hid (fun w' g (hr : Rd w' (some ⟨g, 0, none⟩) [1, 2, 3]) => open_any (some ⟨g, 0, none⟩) 3 3 [1, 2, 3] w' rfl (fun h => by cases h) hr (by decide))
  have N1 := Lib.hid (fun g w' (h : Live w' g [2, 1]) => num_no g [2, 1] 4 w' h (by decide) (by rintro ⟨_, h⟩; revert h; decide))
  have N3 := Lib.hid (fun g w' (h : Live w' g [1, 2, 3]) => num_no g [1, 2, 3] 3 w' h (by decide) (by rintro ⟨h, _⟩; revert h; decide))
  have C3 := Lib.hid (fun p w' (h : Dead w' p) => torn_dead p w' h)
  have D1 := Lib.hid (fun p k w' (h : Dead w' p) => num_dead p k w' h)
  have D2 := Lib.hid (fun p k w' (h : Dead w' p) => take_dead p k w' h)
  have D3 := Lib.hid (fun p k w' (h : Dead w' p) => peek_dead p k w' h)
  have D4 := Lib.hid (fun g w' (h : Dead w' (some ⟨g, 0, none⟩)) (hg : g < w'.heap.size) => hash_torn (some ⟨g, 0, none⟩) w' (fun g' e => by injection e with e; injection e with e; omega) (take_dead _ 32 _ (h.after ((Below.refl _ _).alloc (Nat.le_refl _) _).drew)))
  have D5 := Lib.hid (fun p w' (h : Dead w' p) => end_dead p w' h)
  have D6 := Lib.hid (fun p w' (h : Dead w' p) => left_dead p w' h)
  have ze := zeros_eq
  go_enter Try.func4, Try.ntmps4
  go_wp2_with fail
  refine (P1.out _).mono ?_
  rintro e w' ⟨rfl, rfl⟩
  go_wp2_with fail
  refine (P2.out _).mono ?_
  rintro e w' ⟨rfl, rfl⟩
  go_wp2_with fail
  refine (O1.out _ _ (Rd.lit [2, 1] rfl)).mono ?_
  rintro e w1 ⟨g, rfl, hlive, hg, hb1⟩
  have HL := Lib.hid hlive
  have HB := Lib.hid ((show Below w.heap.size w (w.alloc (.cells (byteCells [2, 1]).toArray 5)) from by repeat' (first | exact Below.refl _ _ | refine bel_drewN ?_ _ | refine Below.drew ?_ | refine Below.alloc ?_ ?_ _ | refine Below.setCell ?_ ?_ _ | exact Nat.le_refl _ | (simp; done) | (simp; omega) | assumption)).trans (hb1.mono (by simp)))
  have HG := Lib.hid (show w.heap.size ≤ g from by simp at hg; omega)
  clear hlive hg hb1
  go_wp2_with fail
  refine (AW.out _).mono ?_
  rintro e w2 ⟨rfl, hb2⟩
  have HL2 := Lib.hid (HL.out.after hb2)
  have HB2 := Lib.hid (bel_on HB.out hb2)
  clear hb2
  go_wp2_with fail
  refine (N1.out _ _ HL2.out).mono ?_
  rintro e w3 ⟨rfl, hd, hc⟩
  have HD := Lib.hid hd
  have HB3 := Lib.hid ((hc.2 g rfl).bel _ _ HG.out HB2.out)
  clear hd hc
  go_wp2_with fail
  refine (C3.out _ _ HD.out).mono ?_
  rintro e w' ⟨rfl, rfl⟩
  go_wp2_with fail
  refine (D1.out _ _ _ HD.out).mono ?_
  rintro e w4 ⟨rfl, hd, hc⟩
  have HD4 := Lib.hid hd
  have HB4 := Lib.hid ((hc.2 g rfl).bel _ _ HG.out HB3.out)
  clear hd hc
  go_wp2_with fail
  refine (D6.out _ _ HD4.out).mono ?_
  rintro e w' ⟨rfl, rfl⟩
  go_wp2_with fail
  refine (D5.out _ _ HD4.out).mono ?_
  rintro e w' ⟨rfl, rfl⟩
  clear HL HB HL2 HB2 HD HB3 HD4 P1 P2 O1 N1
  go_wp2_with fail
  refine (O2.out _ _ (Rd.lit [1, 2, 3] (by simp))).mono ?_
  rintro e w5 ⟨g2, rfl, hlive, hg2, hb5⟩
  have hz5 := (show IsBlk _ w4.heap.size 36 #[.slice none 0 0, .bool false, .bool false] from (IsBlk.new w4 36 #[.slice none 0 0, .bool false, .bool false]).alloc (.cells (byteCells [1, 2, 3]).toArray 5)).after hb5
  have hB5 := ((HB4.out.alloc HB4.out.size (.cells #[.slice none 0 0, .bool false, .bool false] 36)).alloc (by have := HB4.out.size; simp; omega) (.cells (byteCells [1, 2, 3]).toArray 5)).trans (hb5.mono (by have := HB4.out.size; simp; omega))
  have HL := Lib.hid hlive
  have HZ := Lib.hid hz5
  have HB := Lib.hid hB5
  have HGz := Lib.hid HB4.out.size
  have HG2 := Lib.hid (show w.heap.size ≤ g2 ∧ g2 ≠ w4.heap.size from by have := HB4.out.size; simp at hg2; omega)
  clear hlive hg2 hb5 hz5 hB5 O2 HB4
  go_wp2_with fail
  refine (D1.out none 1 _ (.inl rfl)).mono ?_
  rintro e w6 ⟨rfl, _, hc⟩
  have h := hc.1 rfl
  have HL6 := Lib.hid (HL.out.after h)
  have HZ6 := Lib.hid (HZ.out.after h)
  have HB6 := Lib.hid (bel_on HB.out h)
  clear h hc HL HZ HB
  go_wp2_with fail
  refine (D2.out none 0 _ (.inl rfl)).mono ?_
  rintro e w7 ⟨rfl, _, hc⟩
  have h := hc.1 rfl
  have HL7 := Lib.hid (HL6.out.after h)
  have HZ7 := Lib.hid (HZ6.out.after h)
  have HB7 := Lib.hid (bel_on HB6.out h)
  clear h hc HL6 HZ6 HB6
  go_wp2_with fail
  refine (C3.out none _ (.inl rfl)).mono ?_
  rintro e w' ⟨rfl, rfl⟩
  go_wp2_with fail
  refine (D5.out none _ (.inl rfl)).mono ?_
  rintro e w' ⟨rfl, rfl⟩
  go_wp2_with fail
  have HD7 := Lib.hid (show Dead w7 (some ⟨w4.heap.size, 0, none⟩) from .inr ⟨_, _, _, _, _, _, rfl, HZ7.out, rfl⟩)
  refine (C3.out _ _ HD7.out).mono ?_
  rintro e w' ⟨rfl, rfl⟩
  go_wp2_with fail
  refine (D6.out _ _ HD7.out).mono ?_
  rintro e w' ⟨rfl, rfl⟩
  go_wp2_with fail
  refine (D4.out _ _ HD7.out HZ7.out.lt).mono ?_
  rintro e w8 ⟨rfl, _, hc⟩
  have hk := hc.2 _ rfl
  have HL8 := Lib.hid (HL7.out.chg HZ7.out hk HG2.out.2)
  have HB8 := Lib.hid (hk.bel _ _ HGz.out HB7.out)
  clear hk hc HL7 HZ7 HB7 HD7
  go_wp2_with fail
  refine (D3.out none 1 _ (.inl rfl)).mono ?_
  rintro e w' ⟨rfl, rfl⟩
  go_wp2_with fail
  refine (N3.out _ _ HL8.out).mono ?_
  rintro e w9 ⟨rfl, hd, hc⟩
  have HD9 := Lib.hid hd
  have HB9 := Lib.hid ((hc.2 _ rfl).bel _ _ HG2.out.1 HB8.out)
  clear hd hc
  go_wp2_with fail
  refine (C3.out _ _ HD9.out).mono ?_
  rintro e w' ⟨rfl, rfl⟩
  go_wp2_with fail
  go_ret
  exact ⟨rfl, HB9.out⟩
theorem law_BytesKnown {H : Type} {enc : TypeId × Value → H} (W : World) (_base : Nat) :
    Calls Try.prog 4 #[] W fun e w' => e = .returned (.bool true) ∧ Below W.heap.size W w' := known_walk W
end Go.Proofs.Ytjnlnkfpdlfkcaa
