/- The pair of readers: getting and texts. -/
import Derived.Test.YtgmbdhpanhkfhaaCoP
import Derived.Test.YtgmbdhpanhkfhaaCoH
namespace Go.Proofs.Ytgmbdhpanhkfhaa
open Go.RowKit Go.Lib Go.ChangeShapes Go.WideShapes

theorem Rd.noLive {w : World} {g : Nat} {B : Option Addr} {n c : Nat} {x y : Bool} {A : Option Addr} {l : List UInt8} (hb : IsBlk w g 54 #[.slice B n c, .bool x, .bool y]) (h : Rd w A l) (hl : 0 < l.length) : ∀ ad : Addr, A = some ad → ad.block ≠ g := by
  rintro ad rfl e
  obtain ⟨ad', e', _, hc⟩ := h hl
  injection e' with e'
  subst e'
  have h0 := hc 0 hl
  have hs := World.cell?_spot h0
  obtain ⟨b, o, s⟩ := ad
  simp [Addr.add] at h0 hs
  subst hs
  simp at e
  subst e
  rw [hb.cell] at h0
  match o, h0 with
  | 0, h0 => simp at h0
  | 1, h0 => simp at h0
  | 2, h0 => simp at h0
  | o + 3, h0 => simp at h0
theorem RL.chgG {w w' : World} {g q : Nat} {A : Option Addr} {n c a : Nat} {all l : List UInt8} (h : RL w q A n c a all) (hl : Live w g l) (k : Chg g w w') (hne : g ≠ q) : RL w' q A n c a all := by
  obtain ⟨A', c', h1, _⟩ := hl
  refine ⟨IsBlk.chg h.blk k (Ne.symm hne), h.len, h.cap, ?_, h.off, h.nil, h.at_, h.most⟩
  rcases Nat.eq_zero_or_pos all.length with he | he
  · rw [List.length_eq_zero_iff.1 he]; exact Rd.nil _ _
  · exact h.rd.chg k (h.rd.noLive h1 he)
theorem RG.chgG {w w' : World} {g q : Nat} (h : RG w q) (k : Chg g w w') (hne : g ≠ q) : RG w' q := by
  obtain ⟨A, n, c, a, h⟩ := h
  exact ⟨A, n, c, a, IsBlk.chg h k (Ne.symm hne)⟩
theorem form_lt (b : UInt8) (r : List UInt8) (N : Nat) (hN : N = if cwidth b.toNat = 0 then b.toNat else valB (r.take (cwidth b.toNat))) : N < 2 ^ 64 := by
  have e : (2 : Nat) ^ 64 = 18446744073709551616 := by decide
  rw [hN]
  split
  · have := b.toNat_lt; omega
  · have := valB_lt64 (r.take (cwidth b.toNat)) (by rw [List.length_take]; have := cwidth_le b.toNat; omega)
    omega

/-- What both tell of a number. -/
def PairGet (g q most : Nat) (w : World) : Prop := ∃ (v : Nat) (e0 : Int) (Mid : World → Prop),
  Calls Try.prog 18 #[.pointer (some ⟨g, 0, none⟩), .int .u64 most] w (fun e w1 => e = .returned (.tuple #[.int .u64 v, .int .i64 e0]) ∧ Mid w1 ∧ Chg g w w1) ∧
  ∀ w1, Mid w1 → Calls Try.prog 21 #[.pointer (some ⟨q, 0, none⟩), .int .u64 most] w1 (fun e w2 => e = .returned (.tuple #[.int .u64 v, .int .i64 e0]) ∧ Both g q w2 ∧ Chg q w1 w2)
theorem pair_get (g q most : Nat) (w : World) (hm : most < 2 ^ 64) (h : Both g q w) : PairGet g q most w := by
  obtain ⟨hne, ⟨A, n, c, a, all, hL, hR⟩ | ⟨hD, hG⟩⟩ := h
  · have hlen : (all.drop a).length + a = n := by rw [List.length_drop, hR.len]; have := hR.at_; omega
    have h1e5 := hR.most
    match hd : all.drop a, hL, hlen with
    | [], hL, hlen =>
      refine ⟨0, 4, fun w1 => Dead w1 (some ⟨g, 0, none⟩) ∧ RL w1 q A n c a all, (get_empty g most w hL).mono fun e w1 ⟨h1, h2, h3⟩ => ⟨h1, ⟨h2, hR.chgG hL (h3.2 g rfl) hne⟩, h3.2 g rfl⟩, fun w1 ⟨h1, h2⟩ => ?_⟩
      exact (refGet_torn q most w1 (refNum_no q A n c a 1 all w1 h2 (by decide) (by simp at hlen; omega))).mono fun e w2 ⟨k1, k2, k3⟩ => ⟨k1, ⟨hne, .inr ⟨h1.chgR k3 hne, k2⟩⟩, k3⟩
    | b :: r, hL, hlen =>
      have hll : (b :: r).length ≤ 1000000000 := by omega
      by_cases hW : cwidth b.toNat ≤ r.length
      · have hdr : all.drop (a + 1 + cwidth b.toNat) = r.drop (cwidth b.toNat) := by
          rw [show a + 1 + cwidth b.toNat = a + (1 + cwidth b.toNat) by omega, ← List.drop_drop, hd, ← List.drop_drop]
          rfl
        obtain ⟨N, hN⟩ : ∃ N, N = if cwidth b.toNat = 0 then b.toNat else valB (r.take (cwidth b.toNat)) := ⟨_, rfl⟩
        refine ⟨_, _, fun w1 => Live w1 g (r.drop (cwidth b.toNat)) ∧ RL w1 q A n c a all, (get_whole g b r most w hL hll hW N hN hm).mono fun e w1 ⟨h1, h2, h3⟩ => ⟨h1, ⟨h2, hR.chgG hL h3 hne⟩, h3⟩, fun w1 ⟨h1, h2⟩ => ?_⟩
        exact (refGet_whole q A n c a most N all b r w1 h2 hd hW hN (form_lt b r N hN)).mono fun e w2 ⟨k1, k2, k3⟩ => ⟨k1, ⟨hne, .inl ⟨A, n, c, _, all, by rw [hdr]; exact h1.chgR h2.blk k3 hne, k2⟩⟩, k3⟩
      · refine ⟨0, 4, fun w1 => Dead w1 (some ⟨g, 0, none⟩) ∧ RL w1 q A n c a all, (get_short g b r most w hL hll (by omega)).mono fun e w1 ⟨h1, h2, h3⟩ => ⟨h1, ⟨h2, hR.chgG hL (h3.2 g rfl) hne⟩, h3.2 g rfl⟩, fun w1 ⟨h1, h2⟩ => ?_⟩
        exact (refGet_short q A n c a most all b r w1 h2 hd (by omega)).mono fun e w2 ⟨k1, k2, k3⟩ => ⟨k1, ⟨hne, .inr ⟨h1.chgR k3 hne, k2⟩⟩, k3⟩
  · refine ⟨0, 4, fun w1 => Dead w1 (some ⟨g, 0, none⟩) ∧ RG w1 q, (get_dead _ most w hD).mono fun e w1 ⟨h1, h2, h3⟩ => ⟨h1, ⟨h2, hG.chgG (h3.2 g rfl) hne⟩, h3.2 g rfl⟩, fun w1 ⟨h1, h2⟩ => ?_⟩
    exact (refGet_torn q most w1 (refNum_gone q 1 w1 h2 (by decide))).mono fun e w2 ⟨k1, k2, k3⟩ => ⟨k1, ⟨hne, .inr ⟨h1.chgR k3 hne, k2⟩⟩, k3⟩

/-- What both tell of a text. -/
def PairText (g q : Nat) (m : Int) (w : World) : Prop := ∃ (s : List UInt8) (e0 : Int) (Mid : Option Addr → World → Prop),
  Calls Try.prog 20 #[.pointer (some ⟨g, 0, none⟩), .int .i64 m] w (fun e w1 => ∃ A1 c1, e = .returned (.tuple #[.slice A1 s.length c1, .int .i64 e0]) ∧ Mid A1 w1 ∧ Chg g w w1) ∧
  ∀ A1 w1, Mid A1 w1 → Calls Try.prog 22 #[.pointer (some ⟨q, 0, none⟩), .int .i64 m] w1 (fun e w2 => ∃ A2 c2, e = .returned (.tuple #[.slice A2 s.length c2, .int .i64 e0]) ∧ Rd w2 A1 s ∧ Rd w2 A2 s ∧ Both g q w2 ∧ Chg q w1 w2)
theorem PairText.err (g q : Nat) (m : Int) (k v1 v2 : Nat) (e0 : Int) (w : World) (hk : Mo m k) (he : e0 = 3 ∨ e0 = 4) (Mid : World → Prop)
    (C1 : Calls Try.prog 18 #[.pointer (some ⟨g, 0, none⟩), .int .u64 k] w (fun e w1 => e = .returned (.tuple #[.int .u64 v1, .int .i64 e0]) ∧ Mid w1 ∧ Chg g w w1))
    (C2 : ∀ w1, Mid w1 → Calls Try.prog 21 #[.pointer (some ⟨q, 0, none⟩), .int .u64 k] w1 (fun e w2 => e = .returned (.tuple #[.int .u64 v2, .int .i64 e0]) ∧ Both g q w2 ∧ Chg q w1 w2)) : PairText g q m w := by
  refine ⟨[], e0, fun _ w1 => Mid w1, (txt_err _ m k v1 e0 w _ hk he C1).mono fun e w1 ⟨h1, h2⟩ => ⟨none, 0, h1, h2⟩, fun A1 w1 hM => ?_⟩
  exact (refTxt_err _ m k v2 e0 w1 _ hk he (C2 w1 hM)).mono fun e w2 ⟨h1, h2⟩ => ⟨none, 0, h1, Rd.nil _ _, Rd.nil _ _, h2⟩
theorem pair_text (g q : Nat) (m : Int) (k : Nat) (w : World) (hk : Mo m k) (h : Both g q w) : PairText g q m w := by
  have hm : k < 2 ^ 64 := by
    have e : (2 : Nat) ^ 63 = 9223372036854775808 := by decide
    have e' : (2 : Nat) ^ 64 = 18446744073709551616 := by decide
    have := hk.max.2.2
    omega
  obtain ⟨hne, ⟨A, n, c, a, all, hL, hR⟩ | ⟨hD, hG⟩⟩ := h
  · have hlen : (all.drop a).length + a = n := by rw [List.length_drop, hR.len]; have := hR.at_; omega
    have h1e5 := hR.most
    match hd : all.drop a, hL, hlen with
    | [], hL, hlen =>
      refine PairText.err g q m k 0 0 4 w hk (.inr rfl) (fun w1 => Dead w1 (some ⟨g, 0, none⟩) ∧ RL w1 q A n c a all) ((get_empty g k w hL).mono fun e w1 ⟨h1, h2, h3⟩ => ⟨h1, ⟨h2, hR.chgG hL (h3.2 g rfl) hne⟩, h3.2 g rfl⟩) fun w1 ⟨h1, h2⟩ => ?_
      exact (refGet_torn q k w1 (refNum_no q A n c a 1 all w1 h2 (by decide) (by simp at hlen; omega))).mono fun e w2 ⟨k1, k2, k3⟩ => ⟨k1, ⟨hne, .inr ⟨h1.chgR k3 hne, k2⟩⟩, k3⟩
    | b :: r, hL, hlen =>
      have hll : (b :: r).length ≤ 1000000000 := by omega
      by_cases hW : cwidth b.toNat ≤ r.length
      · have hdr : all.drop (a + 1 + cwidth b.toNat) = r.drop (cwidth b.toNat) := by
          rw [show a + 1 + cwidth b.toNat = a + (1 + cwidth b.toNat) by omega, ← List.drop_drop, hd, ← List.drop_drop]
          rfl
        obtain ⟨N, hN⟩ : ∃ N, N = if cwidth b.toNat = 0 then b.toNat else valB (r.take (cwidth b.toNat)) := ⟨_, rfl⟩
        have G1 := get_whole g b r k w hL hll hW N hN hm
        have G2 := fun w1 (h2 : RL w1 q A n c a all) => refGet_whole q A n c a k N all b r w1 h2 hd hW hN (form_lt b r N hN)
        have hrl : (r.drop (cwidth b.toNat)).length + (a + 1 + cwidth b.toNat) = n := by rw [List.length_drop]; simp at hlen; omega
        by_cases hs : csize N = cwidth b.toNat + 1
        · rw [if_pos hs, if_pos hs] at G1
          simp only [if_pos hs] at G2
          by_cases hNk : N ≤ k
          · rw [if_pos hNk, if_pos hNk] at G1
            simp only [if_pos hNk] at G2
            by_cases hNl : N ≤ (r.drop (cwidth b.toNat)).length
            · have hsl : ((r.drop (cwidth b.toNat)).take N).length = N := by rw [List.length_take]; omega
              refine ⟨(r.drop (cwidth b.toNat)).take N, 0, fun A1 w1 => Rd w1 A1 ((r.drop (cwidth b.toNat)).take N) ∧ Live w1 g ((r.drop (cwidth b.toNat)).drop N) ∧ RL w1 q A n c a all, (txt_yes g m k N (r.drop (cwidth b.toNat)) w hk (by omega) hNl G1).mono ?_, fun A1 w1 ⟨h1, h2, h3⟩ => (refTxt_yes q A n c (a + 1 + cwidth b.toNat) N all m k w1 hk (by omega) h1e5 (G2 w1 h3)).mono ?_⟩
              · rintro e w1 ⟨A1, c1, rfl, h1, h2, h3⟩
                exact ⟨A1, c1, by rw [hsl], ⟨h1, h2, hR.chgG hL h3 hne⟩, h3⟩
              · rintro e w2 ⟨A2, c2, rfl, k1, k2, k3⟩
                rw [hdr] at k1
                exact ⟨A2, c2, by rw [hsl], h1.chgR h3.blk k3, k1, ⟨hne, .inl ⟨A, n, c, _, all, by rw [← List.drop_drop, hdr]; exact h2.chgR h3.blk k3 hne, k2⟩⟩, k3⟩
            · refine ⟨[], 4, fun _ w1 => Dead w1 (some ⟨g, 0, none⟩) ∧ RL w1 q A n c a all, (txt_no g m k N (r.drop (cwidth b.toNat)) w hk (by omega) hNl hNk G1).mono fun e w1 ⟨h1, h2, h3⟩ => ⟨none, 0, h1, ⟨h2, hR.chgG hL (h3.2 g rfl) hne⟩, h3.2 g rfl⟩, fun A1 w1 ⟨h1, h2⟩ => ?_⟩
              exact (refTxt_no q A n c (a + 1 + cwidth b.toNat) N all m k w1 hk (by omega) hNk (G2 w1 h2)).mono fun e w2 ⟨k1, k2, k3⟩ => ⟨none, 0, k1, Rd.nil _ _, Rd.nil _ _, ⟨hne, .inr ⟨h1.chgR k3 hne, k2⟩⟩, k3⟩
          · rw [if_neg hNk, if_neg hNk] at G1
            simp only [if_neg hNk] at G2
            exact PairText.err g q m k 0 0 3 w hk (.inl rfl) (fun w1 => Live w1 g (r.drop (cwidth b.toNat)) ∧ RL w1 q A n c a all) (G1.mono fun e w1 ⟨h1, h2, h3⟩ => ⟨h1, ⟨h2, hR.chgG hL h3 hne⟩, h3⟩) fun w1 ⟨h1, h2⟩ => (G2 w1 h2).mono fun e w2 ⟨k1, k2, k3⟩ => ⟨k1, ⟨hne, .inl ⟨A, n, c, _, all, by rw [hdr]; exact h1.chgR h2.blk k3 hne, k2⟩⟩, k3⟩
        · rw [if_neg hs, if_neg hs] at G1
          simp only [if_neg hs] at G2
          exact PairText.err g q m k 0 0 4 w hk (.inr rfl) (fun w1 => Live w1 g (r.drop (cwidth b.toNat)) ∧ RL w1 q A n c a all) (G1.mono fun e w1 ⟨h1, h2, h3⟩ => ⟨h1, ⟨h2, hR.chgG hL h3 hne⟩, h3⟩) fun w1 ⟨h1, h2⟩ => (G2 w1 h2).mono fun e w2 ⟨k1, k2, k3⟩ => ⟨k1, ⟨hne, .inl ⟨A, n, c, _, all, by rw [hdr]; exact h1.chgR h2.blk k3 hne, k2⟩⟩, k3⟩
      · refine PairText.err g q m k 0 0 4 w hk (.inr rfl) (fun w1 => Dead w1 (some ⟨g, 0, none⟩) ∧ RL w1 q A n c a all) ((get_short g b r k w hL hll (by omega)).mono fun e w1 ⟨h1, h2, h3⟩ => ⟨h1, ⟨h2, hR.chgG hL (h3.2 g rfl) hne⟩, h3.2 g rfl⟩) fun w1 ⟨h1, h2⟩ => ?_
        exact (refGet_short q A n c a k all b r w1 h2 hd (by omega)).mono fun e w2 ⟨k1, k2, k3⟩ => ⟨k1, ⟨hne, .inr ⟨h1.chgR k3 hne, k2⟩⟩, k3⟩
  · refine PairText.err g q m k 0 0 4 w hk (.inr rfl) (fun w1 => Dead w1 (some ⟨g, 0, none⟩) ∧ RG w1 q) ((get_dead _ k w hD).mono fun e w1 ⟨h1, h2, h3⟩ => ⟨h1, ⟨h2, hG.chgG (h3.2 g rfl) hne⟩, h3.2 g rfl⟩) fun w1 ⟨h1, h2⟩ => ?_
    exact (refGet_torn q k w1 (refNum_gone q 1 w1 h2 (by decide))).mono fun e w2 ⟨k1, k2, k3⟩ => ⟨k1, ⟨hne, .inr ⟨h1.chgR k3 hne, k2⟩⟩, k3⟩
end Go.Proofs.Ytgmbdhpanhkfhaa
