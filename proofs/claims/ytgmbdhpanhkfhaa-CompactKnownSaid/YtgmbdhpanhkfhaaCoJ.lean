/- The law that what is put is got, the walk. -/
import Derived.Test.YtgmbdhpanhkfhaaCoI
import Derived.Test.YtgmbdhpanhkfhaaCoH
import Derived.Test.YtgmbdhpanhkfhaaCoD
namespace Go.Proofs.Ytgmbdhpanhkfhaa
open Go.RowKit Go.Lib Go.ChangeShapes Go.WideShapes

/-- A beginning of a form. -/
theorem get_cut (g n i : Nat) (most : Nat) (w : World) (hi : i < csize n) (h : Live w g ((cform n).take i)) :
    Calls Try.prog 18 #[.pointer (some ⟨g, 0, none⟩), .int .u64 most] w (GetTorn (some ⟨g, 0, none⟩) w) := by
  obtain ⟨F, r, e1, e2⟩ := form_head n
  have hl := cform_length n
  rw [e1] at h hl
  have hl2 : r.length + 1 = csize n := hl
  have h9 := csize_le n
  match i, hi, h with
  | 0, _, h => exact get_empty g most w h
  | i + 1, hi, h =>
    rw [List.take_succ_cons] at h
    exact get_short g F (r.take i) most w h (by simp; omega) (by rw [List.length_take]; omega)

/-- Bytes that lay there before the reader did. -/
theorem Rd.off {g : Nat} {w0 w w' : World} {A : Option Addr} {l : List UInt8} (h0 : Rd w0 A l) (hg : w0.heap.size ≤ g) (h : Rd w A l) (k : Chg g w w') : Rd w' A l := by
  rcases Nat.eq_zero_or_pos l.length with he | he
  · rw [List.length_eq_zero_iff.1 he]; exact Rd.nil _ _
  · refine h.chg k fun ad e => ?_
    obtain ⟨ad', e', hlt, _⟩ := h0 he
    rw [e] at e'
    injection e' with e'
    subst e'
    omega

set_option maxRecDepth 100000 in
set_option maxHeartbeats 8000000 in
theorem back_case (A B : Option Addr) (L T c d k m n sn sk p n1 : Nat) (x : Int) (t l Q R P : List UInt8) (w : World) (hk : k = min L 3000) (hm : m = min T 3000) (hL : L ≤ c) (hT : T ≤ d) (ht : t.length = k) (hl : l.length = m) (hr : Rd w A t) (hs : Rd w B l) (hn : n < 2 ^ 64)
    (hsn : csize n = sn) (hsk : csize k = sk) (hQ : cform n = Q) (hR : cform k = R) (hP : Q ++ R ++ t = P) (hPl : P.length = p) (hx : IntKind.i64.wrap ((sn : Int) + (sk : Int)) = x) (hxp : IntKind.i64.wrap (x + (k : Int)) = (p : Int)) (hn1 : 0 < n → n1 + 1 = n) :
    Calls Try.prog 8 #[.int .u64 n, .slice A L c, .slice B T d] w (BRet (.bool true) w) := by
  have K1 := Lib.hid (fun w => cut_any A L c k w hk hL)
  have K2 := Lib.hid (fun w => cut_any B T d m w hm hT)
  have hk3 : k ≤ 3000 := by omega
  have hm3 : m ≤ 3000 := by omega
  have h9 := csize_le n
  have h91 := csize_pos n
  have h9' := csize_le k
  have lQ : Q.length = csize n := by rw [← hQ]; exact cform_length n
  have lR : R.length = csize k := by rw [← hR]; exact cform_length k
  have P1 := Lib.hid (fun w' => cput_any none 0 [] n w' (fun _ => ⟨rfl, rfl⟩) (Rd.nil _ _) (by decide))
  rw [List.nil_append, hQ] at P1
  have P2 := Lib.hid (fun A1 c1 w' (h : Rd w' (some A1) Q) (h2 : Rd w' A t) => ctext_any (some A1) A c1 c Q t w' (fun e => by cases e) h (by omega) h2 (by omega))
  rw [ht, hR, hP] at P2
  have S1 := Lib.hid (fun w' => size_any n w')
  have S2 := Lib.hid (fun w' => size_any k w')
  rw [hsn] at S1
  rw [hsk] at S2
  have AW := Lib.hid works_any
  have hpp : p = sn + sk + k := by rw [← hPl, ← hP]; simp only [List.length_append]; omega
  have G1 := Lib.hid (fun g w' (h : Live w' g (P ++ l)) => get_form g n (R ++ (t ++ l)) n w' hn hn (by rw [← hP] at h; rw [hQ]; simpa only [List.append_assoc] using h) (by rw [hQ]; simp only [List.length_append]; omega))
  rw [if_pos (Nat.le_refl n), if_pos (Nat.le_refl n)] at G1
  have ht2 : (t ++ l).take k = t := by rw [← ht]; simp
  have hd2 : (t ++ l).drop k = l := by rw [← ht]; simp
  have T1 := Lib.hid (fun g w' (h : Live w' g (R ++ (t ++ l))) => text_yes g k k k (t ++ l) w' (.inl ⟨rfl, by omega⟩) (by simp only [List.length_append]; omega) (by simp only [List.length_append]; omega) (by
    have := get_form g k (t ++ l) k w' (by omega) (by omega) (by rw [hR]; exact h) (by rw [hR]; simp only [List.length_append]; omega)
    rwa [if_pos (Nat.le_refl k), if_pos (Nat.le_refl k)] at this))
  rw [ht2, hd2] at T1
  have LF := Lib.hid (fun g w' (h : Live w' g l) => left_live g l w' h (by omega))
  rw [hl] at LF
  have O1 := Lib.hid (fun A1 c1 w' (h : Rd w' (some A1) (P ++ l)) => open_any (some A1) (p + m) c1 (P ++ l) w' (by simp only [List.length_append]; omega) (fun e => by cases e) h (by simp only [List.length_append]; omega))
  have O2 := Lib.hid (fun A1 c1 w' (h : Rd w' (some A1) P) => open_any (some A1) p c1 P w' hPl.symm (fun e => by cases e) h (by omega))
  have O3 := Lib.hid (fun A1 c1 i w' (hi : i ≤ sn) (h : Rd w' (some A1) P) => open_any (some A1) i c1 (Q.take i) w' (by rw [List.length_take]; omega) (fun e => by cases e) (by
    have := h.take i
    rwa [← hP, List.append_assoc, List.take_append_of_le_length (by omega)] at this) (by rw [List.length_take]; omega))
  have G2 := Lib.hid (fun g w' (h0 : 0 < n) (h : Live w' g P) => get_form g n (R ++ t) n1 w' hn (by have := hn1 h0; omega) (by rw [← hP] at h; rw [hQ]; simpa only [List.append_assoc] using h) (by rw [hQ]; simp only [List.length_append]; omega))
  have G3 := Lib.hid (fun g i w' (hi : i < sn) (h : Live w' g (Q.take i)) => get_cut g n i n w' (by omega) (by rw [hQ]; exact h))
  have TD := Lib.hid (fun g w' (h : Dead w' (some ⟨g, 0, none⟩)) => torn_dead (some ⟨g, 0, none⟩) w' h)
  have HL := Lib.hid hl
  have HT := Lib.hid ht
  have HR := Lib.hid hr
  have HS := Lib.hid hs
  have HPL := Lib.hid hPl
  have LQ := Lib.hid (show Q.length = sn ∧ 0 < sn from by omega)
  have hck : IntKind.u64.wrap (k : Int) = (k : Int) := IntWalk.u64_in _ (by omega)
  have hn64 : n < 18446744073709551616 := hn
  have hpb : p ≤ 7000 := by omega
  have hsn9 : sn ≤ 9 ∧ sn ≤ p := by omega
  have HN := Lib.hid hn1
  clear hk hm hL hT ht hl hr hs hn hsn hsk hQ hR hP hPl h9 h91 h9' lQ lR hpp ht2 hd2
  go_enter Try.func8, Try.ntmps8
  go_wp2_with fail
  refine (K1.out _).mono ?_
  rintro e w' ⟨rfl, rfl⟩
  go_wp2_with fail
  refine (K2.out _).mono ?_
  rintro e w' ⟨rfl, rfl⟩
  go_wp2_with fail
  refine (P1.out _).mono ?_
  rintro e w1 ⟨A1, c1, rfl, hown1, _, hb1⟩
  obtain ⟨_, g1, rfl, _, _⟩ := Own.cap hown1 (by have := LQ.out; omega)
  have HB1 := Lib.hid hb1
  have HO1 := Lib.hid hown1
  clear hown1 hb1
  go_wp2_with fail
  refine (P2.out _ _ _ HO1.out.rd (HR.out.after HB1.out)).mono ?_
  rintro e w2 ⟨A2, c2, rfl, hown2, _, hb2⟩
  have hcap2 := Own.cap hown2 (by have := LQ.out; have := HPL.out; omega)
  rw [HPL.out] at hown2 hcap2 ⊢
  obtain ⟨hpc, g2, rfl, _, hg2⟩ := hcap2
  have HB2 := Lib.hid (bel_on HB1.out hb2)
  have HO2 := Lib.hid hown2
  clear hown2 hb2
  go_wp2_with fail
  refine (S1.out _).mono ?_
  rintro e w' ⟨rfl, rfl⟩
  go_wp2_with fail
  refine (S2.out _).mono ?_
  rintro e w' ⟨rfl, rfl⟩
  go_wp2_with (first
    | (at_builtin; refine wpList_append_rd rfl (.tmp 42) (.tmp 43) rfl w2.heap.size _ [] rfl (Own.empty w2) (some ⟨g2, 0, none⟩) p c2 P rfl HPL.out.symm (HO2.out.rd.alloc _) (by have := HPL.out; simp; omega) (by simp) p (by have := HPL.out; simp; omega) P (by simp) ?_; intro A3 c3 w3 hown3 hg3 hnn3; have hb3 := bel_grown ((Below.refl w2.heap.size w2).alloc (Nat.le_refl _) (.cells #[] 5)) (by simp) (Own.empty w2) (Nat.le_refl _) hg3)
    | (at_builtin; refine wpList_append_rd rfl (.tmp 44) (.tmp 45) rfl w2.heap.size _ P rfl hown3 B m d l rfl HL.out.symm ((HS.out.after HB2.out).after hb3) (by have := HPL.out; have := HL.out; omega) hb3.size (p + m) (by rw [HPL.out, HL.out]) (P ++ l) rfl ?_; intro A4 c4 w4 hown4 hg4 hnn4; have hb4 := bel_grown hb3 hb3.size hown3 (Nat.le_refl _) hg4))
  obtain ⟨_, g4, rfl, _, _⟩ := Own.cap hown4 (by have := LQ.out; have := HPL.out; simp; omega)
  have HO4 := Lib.hid hown4.rd
  have HB4 := Lib.hid hb4
  have HR2 := Lib.hid (HR.out.after HB2.out)
  clear hown3 hg3 hnn3 hb3 hown4 hg4 hnn4 hb4
  refine (O1.out _ _ _ HO4.out).mono ?_
  rintro e w5 ⟨g, rfl, hlive, hg, hb5⟩
  have HLv := Lib.hid hlive
  have HB5 := Lib.hid (HB4.out.trans (hb5.mono HB4.out.size))
  have HG := Lib.hid (Nat.le_trans HB4.out.size hg)
  clear hlive hg hb5
  go_wp2_with fail
  refine (G1.out _ _ HLv.out).mono ?_
  rintro e w6 ⟨rfl, hlive, hc6⟩
  have HL6 := Lib.hid hlive
  have HC6 := Lib.hid hc6
  clear hlive hc6
  go_wp2_with fail
  refine (T1.out _ _ HL6.out).mono ?_
  rintro e w7 ⟨A7, c7, rfl, hr7, hlive, hc7⟩
  have HL7 := Lib.hid hlive
  have HC7 := Lib.hid (HC6.out.trans hc7)
  have HR7 := Lib.hid (HR2.out.off HG.out (HR2.out.after HB5.out) HC7.out)
  have HP7 := Lib.hid (HO2.out.rd.off HG.out (HO2.out.rd.after HB5.out) HC7.out)
  have HB7 := Lib.hid (HC7.out.bel _ _ (Nat.le_trans HB2.out.size HG.out) (bel_on HB2.out HB5.out))
  clear hlive hc7
  have s1 : (convert 23 9 (.slice A7 k c7)).run Try.prog w7 = .ok (.string ⟨t.toArray⟩) w7 := run_str hr7 HT.out.symm
  have s2 : (convert 23 9 (.slice A k c)).run Try.prog w7 = .ok (.string ⟨t.toArray⟩) w7 := run_str HR7.out HT.out.symm
  clear hr7
  go_wp2_with fail
  refine (LF.out _ _ HL7.out).mono ?_
  rintro e w' ⟨rfl, rfl⟩
  clear HLv HB5 HL6 HC6 HC7 HO4 HB4 HR2 HR7
  rcases Nat.eq_zero_or_pos n with h0 | h0
  case' inl =>
    have t0 : ¬ (0 : Int) < n := by omega
    clear h0
    go_wp2_with fail
    have HPz := Lib.hid HP7.out
    have HBz := Lib.hid HB7.out
    clear HP7 HB7
  case' inr =>
    have t0 : (0 : Int) < n := by omega
    have hN1 := HN.out h0
    have t1 : IntKind.u64.wrap ((n : Int) - 1) = (n1 : Int) := by rw [IntWalk.u64_in _ (by omega)]; omega
    go_wp2_with fail
    refine (O2.out _ _ _ HP7.out).mono ?_
    rintro e w8 ⟨g8, rfl, hlive, hg8, hb8⟩
    have HL8 := Lib.hid hlive
    have HB8 := Lib.hid (bel_on HB7.out hb8)
    have HP8 := Lib.hid (HP7.out.after hb8)
    have HG8 := Lib.hid hg8
    clear hlive hg8 hb8
    go_wp2_with fail
    have G := G2.out _ _ h0 HL8.out
    rw [if_neg (by omega), if_neg (by omega)] at G
    refine G.mono ?_
    rintro e w9 ⟨rfl, _, hc9⟩
    have HPz := Lib.hid (HP7.out.off HG8.out HP8.out hc9)
    have HBz := Lib.hid (hc9.bel _ _ (Nat.le_trans HB7.out.size HG8.out) HB8.out)
    clear hc9 G HP8 HB8 HG8 HL8 hN1 t1 h0
    go_wp2_with fail
  all_goals
    go_loopw [16] (fun i wr => ∃ j : Nat, j ≤ sn ∧ i = .int .i64 j ∧ Rd wr (some ⟨g2, 0, none⟩) P ∧ Below w.heap.size w wr) (fun i _ => sn - (intOf i).toNat)
    case atStart => exact ⟨0, by omega, rfl, HPz.out, HBz.out⟩
    case round =>
      obtain ⟨j, hj, rfl, hrd, hbel⟩ := hrel
      have HPr := Lib.hid hrd
      have HBr := Lib.hid hbel
      clear hrd hbel HPz HBz
      by_cases hlt : j < sn
      · have hjn : (j : Int) < sn := by omega
        have hjc : j ≤ c2 := by omega
        go_wp2_with fail
        refine (O3.out _ _ _ _ hj HPr.out).mono ?_
        rintro e w10 ⟨gq, rfl, hlive, hgq, hb10⟩
        have HLq := Lib.hid hlive
        have HBq := Lib.hid (bel_on HBr.out hb10)
        have HPq := Lib.hid (HPr.out.after hb10)
        have HGq := Lib.hid hgq
        clear hlive hgq hb10
        go_wp2_with fail
        refine (G3.out _ _ _ hlt HLq.out).mono ?_
        rintro e w11 ⟨rfl, hd, hc⟩
        have HD := Lib.hid hd
        have HP11 := Lib.hid (HPr.out.off HGq.out HPq.out (hc.2 _ rfl))
        have HB11 := Lib.hid ((hc.2 _ rfl).bel _ _ (Nat.le_trans HBr.out.size HGq.out) HBq.out)
        clear hd hc
        go_wp2_with fail
        refine (TD.out _ _ HD.out).mono ?_
        rintro e w' ⟨rfl, rfl⟩
        go_wp2_with fail
        first
          | exact ⟨⟨j + 1, by omega, by go_num, HP11.out, HB11.out⟩, by simp [intOf]; omega⟩
          | (simp only [show decide (0 < n) = false from by simp; omega]; exact ⟨⟨_, _, _, _, _, _, _, _, _, _, _, _, _, _, _, _, _, _, _, _, _, _, _, _, _, _, _, ⟨j + 1, by omega, by go_num, HP11.out, HB11.out⟩, rfl⟩, by simp [intOf]; omega⟩)
      · obtain rfl : j = sn := by omega
        go_wp2_with fail
        refine (AW.out _).mono ?_
        rintro e w12 ⟨rfl, hb⟩
        go_wp2_with fail
        go_ret
        exact ⟨rfl, bel_on HBr.out hb⟩

theorem law_CompactBack {H : Type} {enc : TypeId × Value → H} (W : World) (base : Nat) (v0 v1 v2 : Value) (d0 d1 d2 : DataW H) (p0 p1 p2 : List MemPlace)
    (h0 : DataW.Trod enc Try.prog W 0 (fun _ => true) true 22 v0 d0 p0) (h1 : DataW.Trod enc Try.prog W 0 (fun _ => true) true 23 v1 d1 p1) (h2 : DataW.Trod enc Try.prog W 0 (fun _ => true) true 23 v2 d2 p2)
    (o0 : Value.okWide Try.prog W .any base 22 v0) (o1 : Value.okWide Try.prog W .any base 23 v1) (o2 : Value.okWide Try.prog W .any base 23 v2) :
    Calls Try.prog 8 #[v0, v1, v2] W fun e w' => e = .returned (.bool true) ∧ Below W.heap.size W w' := by
  obtain ⟨n', rfl, wn⟩ := in_int Try.underlying22 h0 o0
  obtain ⟨A, c, t, rfl, hz, hr, hlc, hcm⟩ := in_bytes h1 o1
  obtain ⟨B, d, l, rfl, hz2, hs, htd, hdm⟩ := in_bytes h2 o2
  have hb := wf_u64 wn
  obtain ⟨n, rfl⟩ := Int.eq_ofNat_of_zero_le hb.1
  have e : (2 : Nat) ^ 64 = 18446744073709551616 := by decide
  have h9 := csize_le n
  have h8 := csize_le (min t.length 3000)
  refine back_case A B t.length l.length c d (min t.length 3000) (min l.length 3000) n (csize n) (csize (min t.length 3000)) (csize n + csize (min t.length 3000) + min t.length 3000) (n - 1) ((csize n : Int) + (csize (min t.length 3000) : Nat)) (t.take (min t.length 3000)) (l.take (min l.length 3000)) (cform n) (cform (min t.length 3000)) _ W rfl rfl hlc htd (by rw [List.length_take]; omega) (by rw [List.length_take]; omega) (hr.take _) (hs.take _) (by omega) rfl rfl rfl rfl rfl ?_ ?_ ?_ (by omega)
  · simp only [List.length_append, cform_length, List.length_take]; omega
  · exact IntWalk.i64_in _ (by omega)
  · rw [IntWalk.i64_in _ (by omega)]; omega
end Go.Proofs.Ytgmbdhpanhkfhaa
