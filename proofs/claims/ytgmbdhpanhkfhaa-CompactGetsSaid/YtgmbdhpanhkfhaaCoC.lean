/- Compact forms, continued: getting; what the chapter's law asks of each of its laws. -/
import Derived.Test.YtgmbdhpanhkfhaaCoB
namespace Go.Proofs.Ytgmbdhpanhkfhaa
open Go.RowKit Go.Lib

def cwidth (x : Nat) : Nat := if x = 253 then 2 else if x = 254 then 4 else if x = 255 then 8 else 0
set_option maxHeartbeats 1000000 in
theorem cwidth_any (x : Nat) (w : World) : Calls Try.prog 28 #[.int .u64 x] w fun e w' => e = .returned (.int .i64 (cwidth x : Nat)) ∧ w = w' := by
  by_cases h1 : x = 253
  · subst h1
    go_enter Try.func28, Try.ntmps28
    go_wp2_with fail
    go_ret
    exact ⟨rfl, rfl⟩
  by_cases h2 : x = 254
  · subst h2
    go_enter Try.func28, Try.ntmps28
    go_wp2_with fail
    go_ret
    exact ⟨rfl, rfl⟩
  by_cases h3 : x = 255
  · subst h3
    go_enter Try.func28, Try.ntmps28
    go_wp2_with fail
    go_ret
    exact ⟨rfl, rfl⟩
  have e : cwidth x = 0 := by unfold cwidth; rw [if_neg h1, if_neg h2, if_neg h3]
  rw [e]
  have t1 : (((x : Nat) : Int) == 253) = false := by simp; omega
  have t2 : (((x : Nat) : Int) == 254) = false := by simp; omega
  have t3 : (((x : Nat) : Int) == 255) = false := by simp; omega
  clear h1 h2 h3 e
  go_enter Try.func28, Try.ntmps28
  go_wp2_with fail
  go_ret
  exact ⟨rfl, rfl⟩

/-- What is got of bytes: the number, the error, what is left; false: it tells nothing from then on. -/
def getOf (l : List UInt8) : Option (Nat × Nat) :=
  match l with
  | [] => none
  | b :: r =>
    let W := cwidth b.toNat
    if r.length < W then none else some (if W = 0 then b.toNat else valB (r.take W), W)

/-- It returns a number and an error; the reader holds these bytes. -/
def GetRet (n : Nat) (e0 : Int) (g : Nat) (l2 : List UInt8) (w : World) (e : Ending) (w' : World) : Prop := e = .returned (.tuple #[.int .u64 n, .int .i64 e0]) ∧ Live w' g l2 ∧ Chg g w w'

theorem valB_one (b : UInt8) : valB [b] = b.toNat := by simp [valB]
theorem cwidth_le (x : Nat) : cwidth x ≤ 8 := by
  unfold cwidth
  repeat' split
  all_goals omega
theorem cwidth_of (x : Nat) : cwidth x = 0 ∨ cwidth x = 2 ∨ cwidth x = 4 ∨ cwidth x = 8 := by
  unfold cwidth
  repeat' split
  all_goals omega

set_option maxHeartbeats 4000000 in
theorem get_whole (g : Nat) (b : UInt8) (r : List UInt8) (most : Nat) (w : World) (h : Live w g (b :: r)) (hl : (b :: r).length ≤ 1000000000) (hW : cwidth b.toNat ≤ r.length) (n : Nat) (hn : n = if cwidth b.toNat = 0 then b.toNat else valB (r.take (cwidth b.toNat)))
    (hm : most < 2 ^ 64) :
    Calls Try.prog 18 #[.pointer (some ⟨g, 0, none⟩), .int .u64 most] w (GetRet (if csize n = cwidth b.toNat + 1 then (if n ≤ most then n else 0) else 0) (if csize n = cwidth b.toNat + 1 then (if n ≤ most then 0 else 3) else 4) g (r.drop (cwidth b.toNat)) w) := by
  have C1 := Lib.hid (num_yes g (b :: r) 1 w h hl (by omega) (by simp))
  have e1 : (b :: r).take 1 = [b] := rfl
  have e2 : (b :: r).drop 1 = r := rfl
  rw [e1, e2, valB_one] at C1
  have C2 := Lib.hid (cwidth_any b.toNat)
  have C5 := Lib.hid (size_any n)
  have hcs := csize_le n
  have hrl : r.length ≤ 1000000000 := by simp at hl; omega
  have C3 := Lib.hid (fun w1 (h1 : Live w1 g r) (hk : cwidth b.toNat = 2 ∨ cwidth b.toNat = 4 ∨ cwidth b.toNat = 8) => num_yes g r (cwidth b.toNat) w1 h1 hrl (by omega) hW)
  have C4 := Lib.hid (fun w1 (h1 : Live w1 g (r.drop (cwidth b.toNat))) => torn_live g (r.drop (cwidth b.toNat)) w1 h1 (by rw [List.length_drop]; omega))
  have hW8 := cwidth_le b.toNat
  have hof := cwidth_of b.toNat
  generalize hWW : cwidth b.toNat = W at *
  have HN := Lib.hid hn
  clear e1 e2 h hl hW hrl hn hWW
  have hsum : IntKind.i64.wrap ((W : Int) + 1) = (W : Int) + 1 := IntWalk.i64_in _ (by omega)
  have hcase : (csize n = W + 1 ∧ (((csize n : Nat) : Int) != (W : Int) + 1) = false) ∨ (csize n ≠ W + 1 ∧ (((csize n : Nat) : Int) != (W : Int) + 1) = true) := by
    by_cases h : csize n = W + 1
    · exact .inl ⟨h, by rw [h]; simp⟩
    · exact .inr ⟨h, by simp; omega⟩
  have hm2 : (n ≤ most ∧ ¬ (most : Int) < n) ∨ (¬ n ≤ most ∧ (most : Int) < n) := by omega
  have fin : ∃ (v : Nat) (e0 : Int), v = (if csize n = W + 1 then (if n ≤ most then n else 0) else 0) ∧ e0 = (if csize n = W + 1 then (if n ≤ most then 0 else 3) else 4) ∧
      (((((csize n : Nat) : Int) != (W : Int) + 1) = false ∧ ¬ (most : Int) < n ∧ v = n ∧ e0 = 0) ∨ ((((csize n : Nat) : Int) != (W : Int) + 1) = false ∧ (most : Int) < n ∧ v = 0 ∧ e0 = 3) ∨ ((((csize n : Nat) : Int) != (W : Int) + 1) = true ∧ v = 0 ∧ e0 = 4)) := by
    refine ⟨_, _, rfl, rfl, ?_⟩
    rcases hcase with ⟨h1, h2⟩ | ⟨h1, h2⟩
    · rcases hm2 with ⟨h3, h4⟩ | ⟨h3, h4⟩
      · exact .inl ⟨h2, h4, by rw [if_pos h1, if_pos h3], by rw [if_pos h1, if_pos h3]⟩
      · exact .inr (.inl ⟨h2, h4, by rw [if_pos h1, if_neg h3], by rw [if_pos h1, if_neg h3]⟩)
    · exact .inr (.inr ⟨h2, by rw [if_neg h1], by rw [if_neg h1]⟩)
  obtain ⟨v, e0, hv, he, hways⟩ := fin
  rw [← hv, ← he]
  clear hcase hm2 hv he
  generalize csize n = cs at *
  rcases hof with rfl | hof
  · rw [if_pos rfl] at HN
    have hnb := HN.out
    rw [← hnb] at C1 C2
    have ed : r.drop 0 = r := rfl
    rw [ed] at C4 ⊢
    clear hnb ed
    rcases hways with ⟨t1, t2, rfl, rfl⟩ | ⟨t1, t2, rfl, rfl⟩ | ⟨t1, rfl, rfl⟩
    all_goals
      go_enter Try.func18, Try.ntmps18
      go_wp2_with fail
      refine C1.out.mono ?_
      rintro e w1 ⟨rfl, hl1, hc1⟩
      have HL := Lib.hid hl1
      have HC := Lib.hid hc1
      clear hl1 hc1
      go_wp2_with fail
      refine (C2.out _).mono ?_
      rintro e w' ⟨rfl, rfl⟩
      go_wp2_with fail
      refine (C4.out _ HL.out).mono ?_
      rintro e w' ⟨rfl, rfl⟩
      go_wp2_with fail
      refine (C5.out _).mono ?_
      rintro e w' ⟨rfl, rfl⟩
      go_wp2_with fail
      go_ret2
      exact ⟨rfl, HL.out, HC.out⟩
  · have hW0 : W ≠ 0 := by omega
    rw [if_neg hW0] at HN
    have hWp : (0 : Int) < W := by omega
    have hnb := HN.out
    have HK := Lib.hid hof
    rw [← hnb] at C3
    clear hnb hW0 hof
    rcases hways with ⟨t1, t2, rfl, rfl⟩ | ⟨t1, t2, rfl, rfl⟩ | ⟨t1, rfl, rfl⟩
    all_goals
      go_enter Try.func18, Try.ntmps18
      go_wp2_with fail
      refine C1.out.mono ?_
      rintro e w1 ⟨rfl, hl1, hc1⟩
      have HL := Lib.hid hl1
      have HC := Lib.hid hc1
      clear hl1 hc1
      go_wp2_with fail
      refine (C2.out _).mono ?_
      rintro e w' ⟨rfl, rfl⟩
      go_wp2_with fail
      refine (C3.out _ HL.out HK.out).mono ?_
      rintro e w2 ⟨rfl, hl2, hc2⟩
      have HL2 := Lib.hid hl2
      have HC2 := Lib.hid (HC.out.trans hc2)
      clear hl2 hc2
      go_wp2_with fail
      refine (C4.out _ HL2.out).mono ?_
      rintro e w' ⟨rfl, rfl⟩
      go_wp2_with fail
      refine (C5.out _).mono ?_
      rintro e w' ⟨rfl, rfl⟩
      go_wp2_with fail
      go_ret2
      exact ⟨rfl, HL2.out, HC2.out⟩

/-- It returns 0 and an error; the reader tells nothing any more. -/
def GetTorn (p : Option Addr) (w : World) (e : Ending) (w' : World) : Prop := e = .returned (.tuple #[.int .u64 0, .int .i64 4]) ∧ Dead w' p ∧ ChgP p w w'
set_option maxHeartbeats 2000000 in
theorem get_dead (p : Option Addr) (most : Nat) (w : World) (h : Dead w p) : Calls Try.prog 18 #[.pointer p, .int .u64 most] w (GetTorn p w) := by
  have C1 := Lib.hid (num_dead p 1 w h)
  have C2 := Lib.hid (cwidth_any 0)
  rw [show cwidth 0 = 0 from rfl] at C2
  have C4 := Lib.hid (fun w' (h : Dead w' p) => torn_dead p w' h)
  clear h
  go_enter Try.func18, Try.ntmps18
  go_wp2_with fail
  refine C1.out.mono ?_
  rintro e w1 ⟨rfl, hd, hc⟩
  have HD := Lib.hid hd
  have HC := Lib.hid hc
  clear hd hc
  go_wp2_with fail
  refine (C2.out _).mono ?_
  rintro e w' ⟨rfl, rfl⟩
  go_wp2_with fail
  refine (C4.out _ HD.out).mono ?_
  rintro e w' ⟨rfl, rfl⟩
  go_wp2_with fail
  go_ret2
  exact ⟨rfl, HD.out, HC.out⟩

set_option maxHeartbeats 2000000 in
theorem get_empty (g : Nat) (most : Nat) (w : World) (h : Live w g []) : Calls Try.prog 18 #[.pointer (some ⟨g, 0, none⟩), .int .u64 most] w (GetTorn (some ⟨g, 0, none⟩) w) := by
  have C1 := Lib.hid (num_no g [] 1 w h (by decide) (by rintro ⟨_, h⟩; simp at h))
  have C2 := Lib.hid (cwidth_any 0)
  rw [show cwidth 0 = 0 from rfl] at C2
  have C4 := Lib.hid (fun w' (h : Dead w' (some ⟨g, 0, none⟩)) => torn_dead (some ⟨g, 0, none⟩) w' h)
  clear h
  go_enter Try.func18, Try.ntmps18
  go_wp2_with fail
  refine C1.out.mono ?_
  rintro e w1 ⟨rfl, hd, hc⟩
  have HD := Lib.hid hd
  have HC := Lib.hid hc
  clear hd hc
  go_wp2_with fail
  refine (C2.out _).mono ?_
  rintro e w' ⟨rfl, rfl⟩
  go_wp2_with fail
  refine (C4.out _ HD.out).mono ?_
  rintro e w' ⟨rfl, rfl⟩
  go_wp2_with fail
  go_ret2
  exact ⟨rfl, HD.out, HC.out⟩

set_option maxHeartbeats 2000000 in
theorem get_short (g : Nat) (b : UInt8) (r : List UInt8) (most : Nat) (w : World) (h : Live w g (b :: r)) (hl : (b :: r).length ≤ 1000000000) (hW : r.length < cwidth b.toNat) :
    Calls Try.prog 18 #[.pointer (some ⟨g, 0, none⟩), .int .u64 most] w (GetTorn (some ⟨g, 0, none⟩) w) := by
  have C1 := Lib.hid (num_yes g (b :: r) 1 w h hl (by omega) (by simp))
  have e1 : (b :: r).take 1 = [b] := rfl
  have e2 : (b :: r).drop 1 = r := rfl
  rw [e1, e2, valB_one] at C1
  have C2 := Lib.hid (cwidth_any b.toNat)
  have hrl : r.length ≤ 1000000000 := by simp at hl; omega
  have C3 := Lib.hid (fun w1 (h1 : Live w1 g r) => num_no g r (cwidth b.toNat) w1 h1 hrl (by rintro ⟨_, h⟩; omega))
  have C4 := Lib.hid (fun w' (h : Dead w' (some ⟨g, 0, none⟩)) => torn_dead (some ⟨g, 0, none⟩) w' h)
  have hWp : (0 : Int) < cwidth b.toNat := by omega
  generalize cwidth b.toNat = W at *
  clear e1 e2 h hl hW hrl
  go_enter Try.func18, Try.ntmps18
  go_wp2_with fail
  refine C1.out.mono ?_
  rintro e w1 ⟨rfl, hl1, hc1⟩
  have HL := Lib.hid hl1
  have HC := Lib.hid hc1
  clear hl1 hc1
  go_wp2_with fail
  refine (C2.out _).mono ?_
  rintro e w' ⟨rfl, rfl⟩
  go_wp2_with fail
  refine (C3.out _ HL.out).mono ?_
  rintro e w2 ⟨rfl, hd, hc⟩
  have HD := Lib.hid hd
  have HC2 := Lib.hid (ChgP.trans (.ofSome HC.out) hc)
  clear hd hc
  go_wp2_with fail
  refine (C4.out _ HD.out).mono ?_
  rintro e w' ⟨rfl, rfl⟩
  go_wp2_with fail
  go_ret2
  exact ⟨rfl, HD.out, HC2.out⟩

/-- A form that is put is got. -/
theorem get_form (g n : Nat) (r : List UInt8) (most : Nat) (w : World) (hn : n < 2 ^ 64) (hm : most < 2 ^ 64) (h : Live w g (cform n ++ r)) (hl : (cform n ++ r).length ≤ 1000000000) :
    Calls Try.prog 18 #[.pointer (some ⟨g, 0, none⟩), .int .u64 most] w (GetRet (if n ≤ most then n else 0) (if n ≤ most then 0 else 3) g r w) := by
  by_cases h0 : n < 253
  · have e2 : cform n = [UInt8.ofNat n] := by unfold cform; rw [if_pos h0]
    have e3 : csize n = 1 := by unfold csize; rw [if_pos h0]
    rw [e2] at h hl
    have eb : (UInt8.ofNat n).toNat = n := by simp; omega
    have ew : cwidth (UInt8.ofNat n).toNat = 0 := by
      rw [eb]
      unfold cwidth
      rw [if_neg (by omega), if_neg (by omega), if_neg (by omega)]
    have := get_whole g (UInt8.ofNat n) r most w h hl (by rw [ew]; omega) n (by rw [ew, if_pos rfl, eb]) hm
    rw [ew, e3, if_pos rfl, if_pos rfl] at this
    exact this
  · obtain ⟨W, F, e1, e2, hcase⟩ := cform_wide h0
    have ew : cwidth F.toNat = W := by rcases hcase with ⟨rfl, rfl, _⟩ | ⟨rfl, rfl, _⟩ | ⟨rfl, rfl, _⟩ <;> rfl
    have hW0 : W ≠ 0 := by omega
    have hlt : n < 2 ^ (8 * W) := by
      rcases hcase with ⟨rfl, _, h⟩ | ⟨rfl, _, _, h⟩ | ⟨rfl, _, _⟩
      · exact Nat.lt_of_lt_of_le h (by decide)
      · exact Nat.lt_of_lt_of_le h (by decide)
      · exact hn
    rw [e1, List.cons_append] at h hl
    have hd := digs_length W n
    have et : (digs W n ++ r).take W = digs W n := by rw [List.take_append_of_le_length (by omega), List.take_of_length_le (by omega)]
    have edr : (digs W n ++ r).drop W = r := by rw [List.drop_append_of_le_length (by omega), List.drop_of_length_le (by omega)]; rfl
    have := get_whole g F (digs W n ++ r) most w h hl (by rw [ew, List.length_append]; omega) n (by rw [ew, if_neg hW0, et, valB_digs W n hlt]) hm
    rw [ew, e2, if_pos rfl, if_pos rfl, edr] at this
    exact this

set_option maxRecDepth 100000 in
set_option maxHeartbeats 4000000 in
theorem works_any (w : World) : Calls Try.prog 11 #[] w (BRet (.bool true) w) := by
  have C1 := Lib.hid (cput_any none 0 [] 253 w (fun _ => ⟨rfl, rfl⟩) (Rd.nil _ _) (by decide))
  rw [show [] ++ cform 253 = ([253, 253, 0] : List UInt8) from by decide] at C1
  have C2 := Lib.hid (fun A c w' (h0 : A = none → c = 0) (hr : Rd w' A [253, 253, 0]) => open_any A 3 c [253, 253, 0] w' rfl (fun h => by
    obtain ⟨ad, e, _⟩ := hr (by decide)
    rw [h] at e
    cases e) hr (by decide))
  have C3 := Lib.hid (fun w' g (h : Live w' g [253, 253, 0]) => get_form g 253 [] 300 w' (by decide) (by decide) h (by decide))
  go_enter Try.func11, Try.ntmps11
  go_wp2_with fail
  refine C1.out.mono ?_
  rintro e w1 ⟨A1, c1, rfl, hown, hnn, hb1⟩
  have HO := Lib.hid hown
  have HN := Lib.hid hnn
  have HB := Lib.hid hb1
  clear hown hnn hb1
  go_wp2_with fail
  refine (C2.out A1 c1 w1 HN.out HO.out.rd).mono ?_
  rintro e w2 ⟨g, rfl, hlive, hg, hb2⟩
  have HL := Lib.hid hlive
  have HB2 := Lib.hid (bel_on HB.out hb2)
  have HG := Lib.hid (Nat.le_trans HB.out.size hg)
  have HO2 := Lib.hid (HO.out.after hb2)
  obtain ⟨g1, cap1, hv1, hb1, hlt1⟩ := World.ownsRow.form HO.out (by decide)
  injection hv1 with hA1 _ hc1
  subst hA1
  have hne : g1 ≠ g := by omega
  have HNE := Lib.hid hne
  clear hlive hg hb2 hc1 hlt1 hb1 hne
  go_wp2_with fail
  refine (C3.out _ _ HL.out).mono ?_
  rw [if_pos (show 253 ≤ 300 by decide), if_pos (show 253 ≤ 300 by decide)]
  rintro e w3 ⟨rfl, hl3, hc3⟩
  have hr3 := HO2.out.rd.chg hc3 (fun ad h => by injection h with h; subst h; exact HNE.out)
  obtain ⟨ad, e, _, hcell⟩ := hr3 (by decide)
  injection e with e
  subst e
  have q0 : w3.cell? ⟨g1, 0, none⟩ = some (.int .u8 253) := hcell 0 (by decide)
  have q1 : w3.cell? ⟨g1, 1, none⟩ = some (.int .u8 253) := hcell 1 (by decide)
  have HC := Lib.hid hc3
  clear hr3 hl3 hc3 hcell
  go_wp2_with fail
  go_ret
  exact ⟨rfl, HC.out.bel _ _ HG.out HB2.out⟩
end Go.Proofs.Ytgmbdhpanhkfhaa
