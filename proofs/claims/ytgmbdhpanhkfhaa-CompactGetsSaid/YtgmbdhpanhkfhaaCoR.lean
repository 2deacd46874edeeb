/- The law of getting, the walk. -/
import Derived.Test.YtgmbdhpanhkfhaaCoQ
namespace Go.Proofs.Ytgmbdhpanhkfhaa
open Go.RowKit Go.Lib Go.ChangeShapes Go.WideShapes

theorem torn_b (g : Nat) (l : List UInt8) (w : World) (h : Live w g l) (hl : l.length ≤ 1000000000) : Calls Try.prog 24 #[.pointer (some ⟨g, 0, none⟩)] w (BRet (.bool false) w) :=
  (torn_live g l w h hl).mono fun _ _ ⟨h1, h2⟩ => ⟨h1, by subst h2; exact Below.refl _ _⟩
theorem tornD_b (g : Nat) (w : World) (h : Dead w (some ⟨g, 0, none⟩)) : Calls Try.prog 24 #[.pointer (some ⟨g, 0, none⟩)] w (BRet (.bool true) w) :=
  (torn_dead _ w h).mono fun _ _ ⟨h1, h2⟩ => ⟨h1, by subst h2; exact Below.refl _ _⟩
theorem leftD_b (g : Nat) (w : World) (h : Dead w (some ⟨g, 0, none⟩)) : Calls Try.prog 19 #[.pointer (some ⟨g, 0, none⟩)] w (BRet (.int .i64 0) w) :=
  (left_dead _ w h).mono fun _ _ ⟨h1, h2⟩ => ⟨h1, by subst h2; exact Below.refl _ _⟩
theorem mo_wrap (mo : Nat) (h : mo < 18446744073709551616) : ∃ (m : Int) (k : Nat), IntKind.i64.wrap (mo : Int) = m ∧ Mo m k := by
  have e : (2 : Nat) ^ 63 = 9223372036854775808 := by decide
  by_cases hm : mo < 9223372036854775808
  · exact ⟨mo, mo, IntWalk.i64_in _ (by omega), .inl ⟨rfl, by omega⟩⟩
  · exact ⟨_, 0, rfl, .inr ⟨by rw [IntKind.wrap_i64]; omega, rfl⟩⟩

set_option maxRecDepth 100000 in
set_option maxHeartbeats 16000000 in
theorem gets_walk (A A2 : Option Addr) (L c m n2 c2 : Nat) (l : List UInt8) (w : World) (hm : m = min L 3000) (hL : L ≤ c) (hl : l.length = m) (h0 : A = none → m = 0 ∧ c = 0) (hr : Rd w A l) (ht : ∀ i, i < n2 → TakeAt w A2 i) :
    Calls Try.prog 7 #[.slice A L c, .slice A2 n2 c2] w (BRet (.bool true) w) := by
  have K1 := Lib.hid (cut_any A L c m w hm hL)
  have C1 := Lib.hid (open_any A m c l w hl.symm h0 hr (by omega))
  have AW := Lib.hid works_any
  have HR := Lib.hid hr
  have HT := Lib.hid ht
  have HM := Lib.hid (show l.length = m ∧ m ≤ c ∧ m ≤ 3000 ∧ (A = none → c = 0) from ⟨hl, by omega, by omega, fun h => (h0 h).2⟩)
  clear hm hL hl h0 hr ht
  go_enter Try.func7, Try.ntmps7
  go_wp2_with fail
  refine K1.out.mono ?_
  rintro e w' ⟨rfl, rfl⟩
  go_wp2_with fail
  refine C1.out.mono ?_
  rintro e w2 ⟨g, rfl, hlive, hg, hb2⟩
  have HLV := Lib.hid hlive
  have HG := Lib.hid hg
  have HB2 := Lib.hid hb2
  clear hlive hg hb2 K1 C1
  go_wp2_with fail
  have hq0 : w.heap.size ≤ w2.heap.size := HB2.out.size
  have hgl : g < w2.heap.size := HLV.out.lt
  generalize hq : w2.heap.size = q at *
  have HBO := Lib.hid (show Both g q (w2.alloc (.cells #[.slice A m c, .int .i64 0, .bool false] 43)) ∧ Below w.heap.size w (w2.alloc (.cells #[.slice A m c, .int .i64 0, .bool false] 43)) from by
    refine ⟨⟨by omega, .inl ⟨A, m, c, 0, l, ?_, ?_⟩⟩, HB2.out.alloc (by omega) _⟩
    · exact HLV.out.after ((Below.refl _ _).alloc (Nat.le_refl _) _)
    · refine ⟨IsBlk.newAt _ _ hq, HM.out.1, HM.out.2.1, (HR.out.after HB2.out).alloc _, fun hp ad e => ?_, HM.out.2.2.2, Nat.zero_le _, by have := HM.out.2.2.1; omega⟩
      obtain ⟨ad', e', hlt, _⟩ := HR.out hp
      rw [e] at e'
      injection e' with e'
      subst e'
      omega)
  clear HLV HB2 HR HM hq
  go_loopw [7] (fun i wr => ∃ k : Nat, k ≤ n2 ∧ k ≤ 20 ∧ i = .int .i64 k ∧ Both g q wr ∧ Below w.heap.size w wr) (fun i _ => 20 - (intOf i).toNat)
  case atStart => exact ⟨0, by omega, by omega, rfl, HBO.out.1, HBO.out.2⟩
  case round =>
    obtain ⟨k, hk, hk20, rfl, hbo, hbel⟩ := hrel
    clear HBO
    have HB := Lib.hid hbel
    have HO := Lib.hid hbo
    clear hbo hbel
    by_cases hlt : k < n2 ∧ k < 20
    · obtain ⟨b, o, z, mo, hA, hbl, hz, hmo, hm64⟩ := HT.out k hlt.1
      subst hA
      have hkn : (k : Int) < n2 := by omega
      have hk2 : (k : Int) < 20 := by omega
      have hkn' : k < n2 := hlt.1
      have HZ := Lib.hid hz
      have HMO := Lib.hid hmo
      have cz := (HB.out.cell (p := ⟨b, o + k * 2, none⟩) hbl).trans hz
      have cm := (HB.out.cell (p := ⟨b, o + k * 2 + 1, none⟩) hbl).trans hmo
      clear hz hmo
      have hm2 : mo < 2 ^ 64 := hm64
      obtain ⟨v, ev, Mid, G1, G2⟩ := pair_get g q mo wr hm2 HO.out
      obtain ⟨mi, kk, hmw, hMo⟩ := mo_wrap mo hm64
      obtain ⟨s, es, MidT, T1, T2⟩ := pair_text g q mi kk wr hMo HO.out
      have HG1 := Lib.hid G1
      have HG2 := Lib.hid G2
      have HT1 := Lib.hid T1
      have HT2 := Lib.hid T2
      clear G1 G2 T1 T2 hMo hlt
      go_wp2_with fail
      · refine HG1.out.mono ?_
        rintro e w1 ⟨rfl, hM, hc1⟩
        have hb1 := hc1.bel _ _ HG.out HB.out
        have cm1 := (hb1.cell (p := ⟨b, o + k * 2 + 1, none⟩) hbl).trans HMO.out
        have HM := Lib.hid hM
        have HB1 := Lib.hid hb1
        clear hM hc1 hb1 cz cm
        go_wp2_with fail
        refine (HG2.out _ HM.out).mono ?_
        rintro e w2' ⟨rfl, hO2, hc2⟩
        have HO2 := Lib.hid hO2
        have HB2 := Lib.hid (hc2.bel _ _ hq0 HB1.out)
        clear hO2 hc2 cm1
        go_wp2_with fail
        rcases HO2.out.2 with ⟨A', n', c', a', all, h1, h2⟩ | ⟨h1, A', n', c', a', h2⟩
        · have hln : (all.drop a').length = n' - a' := by rw [List.length_drop, h2.len]
          have hn5 := h2.most
          have han := h2.at_
          have L1 := Lib.hid (fun w' (h : Live w' g (all.drop a')) => left_b g _ w' h (by omega))
          have L2 := Lib.hid (fun w' (h : RL w' q A' n' c' a' all) => refLeft_live q A' n' c' a' (n' - a') w' h.blk (by omega) hn5)
          have L3 := Lib.hid (fun w' (h : Live w' g (all.drop a')) => torn_b g _ w' h (by omega))
          rw [hln] at L1
          refine wp_region_seq (S := fun w' => Live w' g (all.drop a') ∧ RL w' q A' n' c' a' all ∧ Below w.heap.size w w') (by kernel_rfl) (by kernel_rfl) ⟨h1.after (Below.refl _ _).drew, h2.after (Below.refl _ _).drew, HB2.out.drew⟩ ?_
          have HST := Lib.hid (show ∀ w1' w2', (Live w1' g (all.drop a') ∧ RL w1' q A' n' c' a' all ∧ Below w.heap.size w w1') → Below w1'.heap.size w1' w2' → (Live w2' g (all.drop a') ∧ RL w2' q A' n' c' a' all ∧ Below w.heap.size w w2') from fun _ _ h hb => ⟨h.1.after hb, h.2.1.after hb, bel_on h.2.2 hb⟩)
          clear h1 h2 hln
          repeat (first
            | (refine SeqS.skip ?_ ?_; rfl; (try simp only [Act.put, List.setIfInBounds_toArray, List.set_cons_zero, List.set_cons_succ]))
            | (refine SeqS.call (v := ?_) (f := ?_) (args := ?_) ?_ ?_ ?_ ?_; rotate_left 3; rfl; (intro w hS; go_simp; (first | with_reducible rfl | (refine ⟨?_, ?_⟩ <;> with_reducible rfl))); (intro w hS; first | ((with_reducible refine (L1.out _ hS.1).mono ?_); rintro e w' ⟨rfl, hb⟩; refine ⟨?_, HST.out _ _ hS hb⟩; with_reducible rfl) | ((with_reducible refine (L2.out _ hS.2.1).mono ?_); rintro e w' ⟨rfl, hb⟩; refine ⟨?_, HST.out _ _ hS hb⟩; with_reducible rfl) | ((with_reducible refine (L3.out _ hS.1).mono ?_); rintro e w' ⟨rfl, hb⟩; refine ⟨?_, HST.out _ _ hS hb⟩; with_reducible rfl)); (try simp only [Act.put, List.setIfInBounds_toArray, List.set_cons_zero, List.set_cons_succ]))
            | (refine SeqS.take (v := ?_) ?_ ?_ ?_; rotate_left; rfl; (intro w hS; have q2 := hS.2.1.blk.cell 2; simp at q2; go_simp; with_reducible rfl); (try simp only [Act.put, List.setIfInBounds_toArray, List.set_cons_zero, List.set_cons_succ]))
            | (refine SeqS.call (v := ?_) (f := ?_) (args := ?_) ?_ ?_ ?_ ?_; rotate_left 3; rfl; (intro w hS; have q2 := hS.2.1.blk.cell 2; simp at q2; go_simp; (first | with_reducible rfl | (refine ⟨?_, ?_⟩ <;> with_reducible rfl))); (intro w hS; first | ((with_reducible refine (AW.out _).mono ?_); rintro e w' ⟨rfl, hb⟩; refine ⟨?_, HST.out _ _ hS hb⟩; with_reducible rfl)); (try simp only [Act.put, List.setIfInBounds_toArray, List.set_cons_zero, List.set_cons_succ])))
          refine SeqS.done ?_
          rintro wz ⟨k1, k2, k3⟩
          have HF := Lib.hid (show Both g q wz ∧ Below w.heap.size w wz from ⟨⟨HO2.out.1, .inl ⟨_, _, _, _, _, k1, k2⟩⟩, k3⟩)
          clear k1 k2 k3 HST L1 L2 L3
          go_wp2_with fail
          exact ⟨⟨k + 1, by omega, by omega, by go_num, HF.out.1, HF.out.2⟩, by simp [intOf]; omega⟩
        · have L1 := Lib.hid (fun w' (h : Dead w' (some ⟨g, 0, none⟩)) => leftD_b g w' h)
          have L2 := Lib.hid (fun w' (h : RB w' q A' n' c' a' true) => refLeft_gone q A' n' c' a' w' h)
          have L3 := Lib.hid (fun w' (h : Dead w' (some ⟨g, 0, none⟩)) => tornD_b g w' h)
          refine wp_region_seq (S := fun w' => Dead w' (some ⟨g, 0, none⟩) ∧ RB w' q A' n' c' a' true ∧ Below w.heap.size w w') (by kernel_rfl) (by kernel_rfl) ⟨h1.after (Below.refl _ _).drew, IsBlk.after h2 (Below.refl _ _).drew, HB2.out.drew⟩ ?_
          have HST := Lib.hid (show ∀ w1' w2', (Dead w1' (some ⟨g, 0, none⟩) ∧ RB w1' q A' n' c' a' true ∧ Below w.heap.size w w1') → Below w1'.heap.size w1' w2' → (Dead w2' (some ⟨g, 0, none⟩) ∧ RB w2' q A' n' c' a' true ∧ Below w.heap.size w w2') from fun _ _ h hb => ⟨h.1.after hb, IsBlk.after h.2.1 hb, bel_on h.2.2 hb⟩)
          clear h1 h2
          repeat (first
            | (refine SeqS.skip ?_ ?_; rfl; (try simp only [Act.put, List.setIfInBounds_toArray, List.set_cons_zero, List.set_cons_succ]))
            | (refine SeqS.call (v := ?_) (f := ?_) (args := ?_) ?_ ?_ ?_ ?_; rotate_left 3; rfl; (intro w hS; go_simp; (first | with_reducible rfl | (refine ⟨?_, ?_⟩ <;> with_reducible rfl))); (intro w hS; first | ((with_reducible refine (L1.out _ hS.1).mono ?_); rintro e w' ⟨rfl, hb⟩; refine ⟨?_, HST.out _ _ hS hb⟩; with_reducible rfl) | ((with_reducible refine (L2.out _ hS.2.1).mono ?_); rintro e w' ⟨rfl, hb⟩; refine ⟨?_, HST.out _ _ hS hb⟩; with_reducible rfl) | ((with_reducible refine (L3.out _ hS.1).mono ?_); rintro e w' ⟨rfl, hb⟩; refine ⟨?_, HST.out _ _ hS hb⟩; with_reducible rfl)); (try simp only [Act.put, List.setIfInBounds_toArray, List.set_cons_zero, List.set_cons_succ]))
            | (refine SeqS.take (v := ?_) ?_ ?_ ?_; rotate_left; rfl; (intro w hS; have q2 := hS.2.1.cell 2; simp at q2; go_simp; with_reducible rfl); (try simp only [Act.put, List.setIfInBounds_toArray, List.set_cons_zero, List.set_cons_succ]))
            | (refine SeqS.call (v := ?_) (f := ?_) (args := ?_) ?_ ?_ ?_ ?_; rotate_left 3; rfl; (intro w hS; have q2 := hS.2.1.cell 2; simp at q2; go_simp; (first | with_reducible rfl | (refine ⟨?_, ?_⟩ <;> with_reducible rfl))); (intro w hS; first | ((with_reducible refine (AW.out _).mono ?_); rintro e w' ⟨rfl, hb⟩; refine ⟨?_, HST.out _ _ hS hb⟩; with_reducible rfl)); (try simp only [Act.put, List.setIfInBounds_toArray, List.set_cons_zero, List.set_cons_succ])))
          refine SeqS.done ?_
          rintro wz ⟨k1, k2, k3⟩
          have HF := Lib.hid (show Both g q wz ∧ Below w.heap.size w wz from ⟨⟨HO2.out.1, .inr ⟨k1, _, _, _, _, k2⟩⟩, k3⟩)
          clear k1 k2 k3 HST L1 L2 L3
          go_wp2_with fail
          exact ⟨⟨k + 1, by omega, by omega, by go_num, HF.out.1, HF.out.2⟩, by simp [intOf]; omega⟩
      · refine HT1.out.mono ?_
        rintro e w1 ⟨A1, c1, rfl, hM, hc1⟩
        have hb1 := hc1.bel _ _ HG.out HB.out
        have cm1 := (hb1.cell (p := ⟨b, o + k * 2 + 1, none⟩) hbl).trans HMO.out
        have HM := Lib.hid hM
        have HB1 := Lib.hid hb1
        clear hM hc1 hb1 cz cm
        go_wp2_with fail
        refine (HT2.out _ _ HM.out).mono ?_
        rintro e w2' ⟨A2', c2', rfl, hr1, hr2, hO2, hc2⟩
        have HO2 := Lib.hid hO2
        have HB2 := Lib.hid (hc2.bel _ _ hq0 HB1.out)
        have s1 := run_str (n := s.length) (c := c1) hr1 rfl
        have s2 := run_str (n := s.length) (c := c2') hr2 rfl
        clear hO2 hc2 cm1 hr1 hr2
        go_wp2_with fail
        clear s1 s2
        rcases HO2.out.2 with ⟨A', n', c', a', all, h1, h2⟩ | ⟨h1, A', n', c', a', h2⟩
        · have hln : (all.drop a').length = n' - a' := by rw [List.length_drop, h2.len]
          have hn5 := h2.most
          have han := h2.at_
          have L1 := Lib.hid (fun w' (h : Live w' g (all.drop a')) => left_b g _ w' h (by omega))
          have L2 := Lib.hid (fun w' (h : RL w' q A' n' c' a' all) => refLeft_live q A' n' c' a' (n' - a') w' h.blk (by omega) hn5)
          have L3 := Lib.hid (fun w' (h : Live w' g (all.drop a')) => torn_b g _ w' h (by omega))
          rw [hln] at L1
          refine wp_region_seq (S := fun w' => Live w' g (all.drop a') ∧ RL w' q A' n' c' a' all ∧ Below w.heap.size w w') (by kernel_rfl) (by kernel_rfl) ⟨h1.after (Below.refl _ _).drew, h2.after (Below.refl _ _).drew, HB2.out.drew⟩ ?_
          have HST := Lib.hid (show ∀ w1' w2', (Live w1' g (all.drop a') ∧ RL w1' q A' n' c' a' all ∧ Below w.heap.size w w1') → Below w1'.heap.size w1' w2' → (Live w2' g (all.drop a') ∧ RL w2' q A' n' c' a' all ∧ Below w.heap.size w w2') from fun _ _ h hb => ⟨h.1.after hb, h.2.1.after hb, bel_on h.2.2 hb⟩)
          clear h1 h2 hln
          repeat (first
            | (refine SeqS.skip ?_ ?_; rfl; (try simp only [Act.put, List.setIfInBounds_toArray, List.set_cons_zero, List.set_cons_succ]))
            | (refine SeqS.call (v := ?_) (f := ?_) (args := ?_) ?_ ?_ ?_ ?_; rotate_left 3; rfl; (intro w hS; go_simp; (first | with_reducible rfl | (refine ⟨?_, ?_⟩ <;> with_reducible rfl))); (intro w hS; first | ((with_reducible refine (L1.out _ hS.1).mono ?_); rintro e w' ⟨rfl, hb⟩; refine ⟨?_, HST.out _ _ hS hb⟩; with_reducible rfl) | ((with_reducible refine (L2.out _ hS.2.1).mono ?_); rintro e w' ⟨rfl, hb⟩; refine ⟨?_, HST.out _ _ hS hb⟩; with_reducible rfl) | ((with_reducible refine (L3.out _ hS.1).mono ?_); rintro e w' ⟨rfl, hb⟩; refine ⟨?_, HST.out _ _ hS hb⟩; with_reducible rfl)); (try simp only [Act.put, List.setIfInBounds_toArray, List.set_cons_zero, List.set_cons_succ]))
            | (refine SeqS.take (v := ?_) ?_ ?_ ?_; rotate_left; rfl; (intro w hS; have q2 := hS.2.1.blk.cell 2; simp at q2; go_simp; with_reducible rfl); (try simp only [Act.put, List.setIfInBounds_toArray, List.set_cons_zero, List.set_cons_succ]))
            | (refine SeqS.call (v := ?_) (f := ?_) (args := ?_) ?_ ?_ ?_ ?_; rotate_left 3; rfl; (intro w hS; have q2 := hS.2.1.blk.cell 2; simp at q2; go_simp; (first | with_reducible rfl | (refine ⟨?_, ?_⟩ <;> with_reducible rfl))); (intro w hS; first | ((with_reducible refine (AW.out _).mono ?_); rintro e w' ⟨rfl, hb⟩; refine ⟨?_, HST.out _ _ hS hb⟩; with_reducible rfl)); (try simp only [Act.put, List.setIfInBounds_toArray, List.set_cons_zero, List.set_cons_succ])))
          refine SeqS.done ?_
          rintro wz ⟨k1, k2, k3⟩
          have HF := Lib.hid (show Both g q wz ∧ Below w.heap.size w wz from ⟨⟨HO2.out.1, .inl ⟨_, _, _, _, _, k1, k2⟩⟩, k3⟩)
          clear k1 k2 k3 HST L1 L2 L3
          go_wp2_with fail
          exact ⟨⟨k + 1, by omega, by omega, by go_num, HF.out.1, HF.out.2⟩, by simp [intOf]; omega⟩
        · have L1 := Lib.hid (fun w' (h : Dead w' (some ⟨g, 0, none⟩)) => leftD_b g w' h)
          have L2 := Lib.hid (fun w' (h : RB w' q A' n' c' a' true) => refLeft_gone q A' n' c' a' w' h)
          have L3 := Lib.hid (fun w' (h : Dead w' (some ⟨g, 0, none⟩)) => tornD_b g w' h)
          refine wp_region_seq (S := fun w' => Dead w' (some ⟨g, 0, none⟩) ∧ RB w' q A' n' c' a' true ∧ Below w.heap.size w w') (by kernel_rfl) (by kernel_rfl) ⟨h1.after (Below.refl _ _).drew, IsBlk.after h2 (Below.refl _ _).drew, HB2.out.drew⟩ ?_
          have HST := Lib.hid (show ∀ w1' w2', (Dead w1' (some ⟨g, 0, none⟩) ∧ RB w1' q A' n' c' a' true ∧ Below w.heap.size w w1') → Below w1'.heap.size w1' w2' → (Dead w2' (some ⟨g, 0, none⟩) ∧ RB w2' q A' n' c' a' true ∧ Below w.heap.size w w2') from fun _ _ h hb => ⟨h.1.after hb, IsBlk.after h.2.1 hb, bel_on h.2.2 hb⟩)
          clear h1 h2
          repeat (first
            | (refine SeqS.skip ?_ ?_; rfl; (try simp only [Act.put, List.setIfInBounds_toArray, List.set_cons_zero, List.set_cons_succ]))
            | (refine SeqS.call (v := ?_) (f := ?_) (args := ?_) ?_ ?_ ?_ ?_; rotate_left 3; rfl; (intro w hS; go_simp; (first | with_reducible rfl | (refine ⟨?_, ?_⟩ <;> with_reducible rfl))); (intro w hS; first | ((with_reducible refine (L1.out _ hS.1).mono ?_); rintro e w' ⟨rfl, hb⟩; refine ⟨?_, HST.out _ _ hS hb⟩; with_reducible rfl) | ((with_reducible refine (L2.out _ hS.2.1).mono ?_); rintro e w' ⟨rfl, hb⟩; refine ⟨?_, HST.out _ _ hS hb⟩; with_reducible rfl) | ((with_reducible refine (L3.out _ hS.1).mono ?_); rintro e w' ⟨rfl, hb⟩; refine ⟨?_, HST.out _ _ hS hb⟩; with_reducible rfl)); (try simp only [Act.put, List.setIfInBounds_toArray, List.set_cons_zero, List.set_cons_succ]))
            | (refine SeqS.take (v := ?_) ?_ ?_ ?_; rotate_left; rfl; (intro w hS; have q2 := hS.2.1.cell 2; simp at q2; go_simp; with_reducible rfl); (try simp only [Act.put, List.setIfInBounds_toArray, List.set_cons_zero, List.set_cons_succ]))
            | (refine SeqS.call (v := ?_) (f := ?_) (args := ?_) ?_ ?_ ?_ ?_; rotate_left 3; rfl; (intro w hS; have q2 := hS.2.1.cell 2; simp at q2; go_simp; (first | with_reducible rfl | (refine ⟨?_, ?_⟩ <;> with_reducible rfl))); (intro w hS; first | ((with_reducible refine (AW.out _).mono ?_); rintro e w' ⟨rfl, hb⟩; refine ⟨?_, HST.out _ _ hS hb⟩; with_reducible rfl)); (try simp only [Act.put, List.setIfInBounds_toArray, List.set_cons_zero, List.set_cons_succ])))
          refine SeqS.done ?_
          rintro wz ⟨k1, k2, k3⟩
          have HF := Lib.hid (show Both g q wz ∧ Below w.heap.size w wz from ⟨⟨HO2.out.1, .inr ⟨k1, _, _, _, _, k2⟩⟩, k3⟩)
          clear k1 k2 k3 HST L1 L2 L3
          go_wp2_with fail
          exact ⟨⟨k + 1, by omega, by omega, by go_num, HF.out.1, HF.out.2⟩, by simp [intOf]; omega⟩
    · have hnk : ¬ ((k : Int) < n2 ∧ (k : Int) < 20) := by omega
      by_cases h1 : k < n2
      · have h2 : ¬ (k : Int) < 20 := by omega
        have h1' : (k : Int) < n2 := by omega
        clear hnk hlt
        go_wp2_with fail
        refine (AW.out _).mono ?_
        rintro e w3 ⟨rfl, hb3⟩
        go_wp2_with fail
        go_ret
        exact ⟨rfl, bel_on HB.out hb3⟩
      · have h2 : ¬ (k : Int) < n2 := by omega
        clear hnk hlt
        go_wp2_with fail
        refine (AW.out _).mono ?_
        rintro e w3 ⟨rfl, hb3⟩
        go_wp2_with fail
        go_ret
        exact ⟨rfl, bel_on HB.out hb3⟩

theorem law_CompactGets {H : Type} {enc : TypeId × Value → H} (W : World) (base : Nat) (v0 v1 : Value) (d0 d1 : DataW H) (p0 p1 : List MemPlace)
    (h0 : DataW.Trod enc Try.prog W 0 (fun _ => true) true 23 v0 d0 p0) (h1 : DataW.Trod enc Try.prog W 0 (fun _ => true) true 40 v1 d1 p1)
    (o0 : Value.okWide Try.prog W .any base 23 v0) (o1 : Value.okWide Try.prog W .any base 40 v1) :
    Calls Try.prog 7 #[v0, v1] W fun e w' => e = .returned (.bool true) ∧ Below W.heap.size W w' := by
  obtain ⟨A, c, l, rfl, hz, hr, hlc, hcm⟩ := in_bytes h0 o0
  obtain ⟨A2, n2, c2, rfl, ht, _, _⟩ := in_takes h1 o1
  exact gets_walk A A2 l.length c (min l.length 3000) n2 c2 (l.take (min l.length 3000)) W rfl hlc (by rw [List.length_take]; omega) (fun h => by have := hz h; omega) (hr.take _) ht
end Go.Proofs.Ytgmbdhpanhkfhaa
