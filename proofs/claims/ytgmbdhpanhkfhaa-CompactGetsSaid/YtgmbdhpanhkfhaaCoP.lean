/- The pair of readers: what both tell. -/
import Derived.Test.YtgmbdhpanhkfhaaCoN
import Derived.Test.YtgmbdhpanhkfhaaCoE
import Derived.Deep.Slices
import Derived.Deep.Fields
import Derived.ChangeSame
namespace Go.Proofs.Ytgmbdhpanhkfhaa
open Go.RowKit Go.Lib Go.ChangeShapes Go.WideShapes Go.Deep

/-- Element i of the takings. -/
def TakeAt (w : World) (A : Option Addr) (i : Nat) : Prop := ∃ (b o : Nat) (z : Int) (mo : Nat), A = some ⟨b, o, none⟩ ∧ b < w.heap.size ∧ w.cell? ⟨b, o + i * 2, none⟩ = some (.int .i64 z) ∧ w.cell? ⟨b, o + i * 2 + 1, none⟩ = some (.int .u64 (mo : Nat)) ∧ mo < 18446744073709551616
theorem in_takes {H : Type} {enc : TypeId × Value → H} {W : World} {v : Value} {d : DataW H} {p : List MemPlace} {base : Nat} (h : DataW.Trod enc Try.prog W 0 (fun _ => true) true 40 v d p) (o : Value.okWide Try.prog W .any base 40 v) :
    ∃ (A : Option Addr) (n c : Nat), v = .slice A n c ∧ (∀ i, i < n → TakeAt W A i) ∧ n ≤ c ∧ c ≤ maxLen := by
  obtain ⟨a1, len, cap, rfl⟩ := okWide_slice Try.underlying40 o
  obtain ⟨fuel, hf⟩ := h
  rcases open_slice Try.underlying40 hf with ⟨hcs, hx⟩ | ⟨a, len', cap', m, n, D, Pl, hcs, _, hl, hm, hmm, hx, hi⟩
  · simp [Value.cells] at hcs
    obtain ⟨rfl, rfl, rfl⟩ := hcs
    exact ⟨none, 0, 0, rfl, fun i hi => absurd hi (Nat.not_lt_zero i), Nat.le_refl _, Nat.zero_le _⟩
  · simp [Value.cells] at hcs
    obtain ⟨rfl, rfl, rfl⟩ := hcs
    simp only [if_true] at hmm
    refine ⟨some a, len, cap, rfl, fun i hil => ?_, hl, hm⟩
    have hcell2 : Try.prog.cellsOf 45 = 2 := by kernel_rfl
    obtain ⟨cs0, hc0, _⟩ := hi 0 (by omega)
    rw [hcell2] at hc0
    obtain ⟨_, hcl0, hat0⟩ := World.cells?_some hc0
    obtain ⟨cs', hc, ht'⟩ := hi i (by omega)
    rw [hcell2] at hc
    obtain ⟨ys, n', hn', hy, hlen, hyl, hfl⟩ := DataW.trod_struct Try.underlying45 ht'
    obtain ⟨_, hcl, hat⟩ := World.cells?_some hc
    obtain ⟨ab, ao, spot⟩ := a
    have h00 := hat0 0 (by omega)
    have hspot : spot = none := by
      have := World.cell?_spot (h00.trans (List.getElem?_eq_getElem (show 0 < cs0.length by omega)))
      simpa [Addr.add] using this
    subst hspot
    have h0 := hat 0 (by omega)
    have h1 := hat 1 (by omega)
    have hyl2 : ys.length = 2 := hyl
    have hj0 := hfl 0 _ rfl
    have hj1 := hfl 1 _ rfl
    match cs', hcl with
    | [c0, c1], _ =>
      have hj0' : DataW.trod enc Try.prog W 0 (fun _ => true) true n' 3 [c0] = ys[0]? := by
        have e1 : Try.prog.cellsOf 3 = 1 := by kernel_rfl
        simpa [e1] using hj0
      have hj1' : DataW.trod enc Try.prog W 0 (fun _ => true) true n' 22 [c1] = ys[1]? := by
        have e1 : Try.prog.cellsOf 22 = 1 := by kernel_rfl
        simpa [e1] using hj1
      rw [List.getElem?_eq_getElem (show 0 < ys.length by omega)] at hj0'
      rw [List.getElem?_eq_getElem (show 1 < ys.length by omega)] at hj1'
      obtain ⟨z, ez, _, _⟩ := DataW.trod_int Try.underlying3 hj0'
      obtain ⟨mo, em, _, wm⟩ := DataW.trod_int Try.underlying22 hj1'
      simp at ez em
      subst ez em
      have hb := wf_u64 wm
      obtain ⟨k, rfl⟩ := Int.eq_ofNat_of_zero_le hb.1
      have h2 : W.cell? ⟨ab, ao + i * 2, none⟩ = some (.int .i64 z) := by
        rw [Addr.add_lit, Addr.add_lit] at h0
        exact h0
      have h3 : W.cell? ⟨ab, ao + i * 2 + 1, none⟩ = some (.int .u64 (k : Nat)) := by
        rw [Addr.add_lit, Addr.add_lit] at h1
        exact h1
      exact ⟨ab, ao, z, k, rfl, World.block_lt_of_cell? _ _ h2, h2, h3, by omega⟩

/-- Both readers hold the same bytes, or both tell nothing. -/
def Both (g q : Nat) (w : World) : Prop :=
  g ≠ q ∧ ((∃ A n c a all, Live w g (all.drop a) ∧ RL w q A n c a all) ∨ (Dead w (some ⟨g, 0, none⟩) ∧ RG w q))
theorem Both.after {g q : Nat} {w w' : World} (h : Both g q w) (hb : Below w.heap.size w w') : Both g q w' := by
  refine ⟨h.1, ?_⟩
  rcases h.2 with ⟨A, n, c, a, all, h1, h2⟩ | ⟨h1, h2⟩
  · exact .inl ⟨A, n, c, a, all, h1.after hb, h2.after hb⟩
  · exact .inr ⟨h1.after hb, h2.after hb⟩
/-- A row of bytes is no reader's block. -/
theorem Rd.noRef {w : World} {q : Nat} {B : Option Addr} {n c a : Nat} {x : Bool} {A : Option Addr} {l : List UInt8} (hb : RB w q B n c a x) (h : Rd w A l) (hl : 0 < l.length) : ∀ ad : Addr, A = some ad → ad.block ≠ q := by
  intro ad e hq
  obtain ⟨ad', e', _, hc⟩ := h hl
  rw [e] at e'
  injection e' with e'
  subst e'
  have h0 := hc 0 hl
  obtain ⟨blk, off, spot⟩ := ad
  have hq' : blk = q := hq
  subst hq'
  have hsp := World.cell?_spot h0
  have hs : spot = none := by simpa [Addr.add] using hsp
  subst hs
  rw [Addr.add_lit, IsBlk.cell hb] at h0
  match off, h0 with
  | 0, h0 => simp at h0
  | 1, h0 => simp at h0
  | 2, h0 => simp at h0
  | k + 3, h0 => simp at h0
theorem Rd.chgR {w w' : World} {q : Nat} {B : Option Addr} {n c a : Nat} {x : Bool} {A : Option Addr} {l : List UInt8} (hb : RB w q B n c a x) (h : Rd w A l) (k : Chg q w w') : Rd w' A l := by
  rcases Nat.eq_zero_or_pos l.length with he | he
  · rw [List.length_eq_zero_iff.1 he]; exact Rd.nil _ _
  · exact h.chg k (h.noRef hb he)
/-- The program's reader, when the document's is turned. -/
theorem Live.chgR {w w' : World} {g q : Nat} {B : Option Addr} {n c a : Nat} {x : Bool} {l : List UInt8} (hb : RB w q B n c a x) (h : Live w g l) (k : Chg q w w') (hne : g ≠ q) : Live w' g l := by
  obtain ⟨A, cc, h1, h2, h3, h4, h5⟩ := h
  exact ⟨A, cc, h1.chg k hne, h2, h3.chgR hb k, h4, h5⟩
theorem Dead.chgR {w w' : World} {g q : Nat} (h : Dead w (some ⟨g, 0, none⟩)) (k : Chg q w w') (hne : g ≠ q) : Dead w' (some ⟨g, 0, none⟩) := by
  rcases h with h | ⟨g', A, n, c, made, torn, e, h1, h2⟩
  · cases h
  · injection e with e
    injection e with e
    subst e
    exact .inr ⟨g, A, n, c, made, torn, rfl, h1.chg k hne, h2⟩
end Go.Proofs.Ytgmbdhpanhkfhaa
