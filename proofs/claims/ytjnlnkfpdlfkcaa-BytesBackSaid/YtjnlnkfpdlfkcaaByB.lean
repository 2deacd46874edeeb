/- The law that what is laid is taken back: the things that come in. -/
import Derived.Test.YtjnlnkfpdlfkcaaByT
namespace Go.Proofs.Ytjnlnkfpdlfkcaa
open Go.RowKit Go.Lib Go.ChangeShapes Go.WideShapes Go.Deep

/-- A thing: its width, its number, its bytes, its hash. -/
structure Thing where
  wid : Int
  num : Nat
  bs : List UInt8
  hs : List UInt8
deriving Inhabited

/-- The cells of a thing. -/
def thCells (x : Thing) (A : Option Addr) (c : Nat) : List Value := .int .i64 x.wid :: .int .u64 x.num :: .slice A x.bs.length c :: byteCells x.hs
theorem thCells_length (x : Thing) (A : Option Addr) (c : Nat) (h : x.hs.length = 32) : (thCells x A c).length = 35 := by
  simp [thCells, byteCells_length, h]
/-- Element i of the row that begins at A. -/
def ThingAt (w : World) (A : Option Addr) (i : Nat) (x : Thing) : Prop :=
  ∃ (b o : Nat) (B : Option Addr) (c : Nat), A = some ⟨b, o, none⟩ ∧ b < w.heap.size ∧ w.rangeAt b (o + i * 35) (thCells x B c) ∧ Rd w B x.bs ∧ (B = none → x.bs.length = 0 ∧ c = 0) ∧ x.bs.length ≤ c ∧ c ≤ maxLen ∧ x.hs.length = 32 ∧ x.num < 2 ^ 64
theorem cells_bytes : ∀ l : List Value, (∀ i, i < l.length → ∃ a : Int, l[i]? = some (.int .u8 a) ∧ (Lit.int .u8 a).wf = true) → ∃ hs : List UInt8, hs.length = l.length ∧ l = byteCells hs
  | [], _ => ⟨[], rfl, rfl⟩
  | v :: l, h => by
    obtain ⟨a, h0, wa⟩ := h 0 (by simp)
    obtain ⟨hs, e1, e2⟩ := cells_bytes l (fun i hi => by
      have := h (i + 1) (by simpa using hi)
      simpa using this)
    simp at h0
    have hb := wf_u8 wa
    refine ⟨UInt8.ofNat a.toNat :: hs, by simp [e1], ?_⟩
    rw [h0, e2]
    have e : a = (((UInt8.ofNat a.toNat).toNat : Nat) : Int) := by
      simp only [UInt8.toNat_ofNat']
      omega
    show _ = Value.int .u8 (((UInt8.ofNat a.toNat).toNat : Nat) : Int) :: byteCells hs
    rw [← e]

theorem in_thing {H : Type} {enc : TypeId × Value → H} {W : World} {fuel : Nat} {cs : List Value} {x : DataW H × List MemPlace} (h : DataW.trod enc Try.prog W 0 (fun _ => true) true fuel 43 cs = some x) :
    ∃ (t : Thing) (B : Option Addr) (c : Nat), cs = thCells t B c ∧ Rd W B t.bs ∧ (B = none → t.bs.length = 0 ∧ c = 0) ∧ t.bs.length ≤ c ∧ c ≤ maxLen ∧ t.hs.length = 32 ∧ t.num < 2 ^ 64 := by
  obtain ⟨ys, n', hn', hy, hlen, hyl, hfl⟩ := DataW.trod_struct Try.underlying43 h
  have hcell : Try.prog.cellsOf 43 = 35 := by kernel_rfl
  rw [hcell] at hlen
  have hyl4 : ys.length = 4 := hyl
  have e0 : Try.prog.cellsOf 3 = 1 := by kernel_rfl
  have e1 : Try.prog.cellsOf 23 = 1 := by kernel_rfl
  have e2 : Try.prog.cellsOf 22 = 1 := by kernel_rfl
  have e3 : Try.prog.cellsOf 39 = 32 := by kernel_rfl
  have e4 : Try.prog.cellsOf 5 = 1 := by kernel_rfl
  have f0 := hfl 0 _ rfl
  have f1 := hfl 1 _ rfl
  have f2 := hfl 2 _ rfl
  have f3 := hfl 3 _ rfl
  match cs, hlen with
  | c0 :: c1 :: c2 :: rest, hlen =>
    have hrl : rest.length = 32 := by simp at hlen; omega
    have g0 : DataW.trod enc Try.prog W 0 (fun _ => true) true n' 3 [c0] = ys[0]? := by simpa [e0] using f0
    have g1 : DataW.trod enc Try.prog W 0 (fun _ => true) true n' 23 [c1] = ys[1]? := by simpa [e1] using f1
    have g2 : DataW.trod enc Try.prog W 0 (fun _ => true) true n' 22 [c2] = ys[2]? := by simpa [e2] using f2
    have g3 : DataW.trod enc Try.prog W 0 (fun _ => true) true n' 39 rest = ys[3]? := by
      have : List.take 32 rest = rest := List.take_of_length_le (by omega)
      simpa [e3, this] using f3
    rw [List.getElem?_eq_getElem (show 0 < ys.length by omega)] at g0
    rw [List.getElem?_eq_getElem (show 1 < ys.length by omega)] at g1
    rw [List.getElem?_eq_getElem (show 2 < ys.length by omega)] at g2
    rw [List.getElem?_eq_getElem (show 3 < ys.length by omega)] at g3
    obtain ⟨z0, k0, _, _⟩ := DataW.trod_int Try.underlying3 g0
    obtain ⟨z1, k1, _, w1⟩ := DataW.trod_int Try.underlying23 g1
    simp at k0 k1
    subst k0 k1
    have hb1 := wf_u64 w1
    obtain ⟨m1, rfl⟩ := Int.eq_ofNat_of_zero_le hb1.1
    obtain ⟨xs, m, _, _, _, hxl, hel⟩ := DataW.trod_array Try.underlying39 g3
    obtain ⟨hs, hhl, rfl⟩ := cells_bytes rest (fun i hi => by
      have h1 := hel i (by omega)
      rw [e4, Nat.mul_one] at h1
      have h2 : (rest.drop i).take 1 = [rest[i]'hi] := by
        rw [List.drop_eq_getElem_cons hi]
        rfl
      rw [h2, List.getElem?_eq_getElem (show i < xs.length by omega)] at h1
      obtain ⟨a, k, _, wa⟩ := DataW.trod_int Try.underlying5 h1
      refine ⟨a, ?_, wa⟩
      simp at k
      rw [List.getElem?_eq_getElem hi, k])
    have p64 : (2 : Nat) ^ 64 = 18446744073709551616 := by decide
    rcases open_ints Try.underlying22 Try.underlying5 (by kernel_rfl) g2 with ⟨hcs, hx⟩ | ⟨a, len, cap, zs, hcs, _, hl, hm, hz, hx, hc, hwz⟩
    · simp at hcs
      subst hcs
      exact ⟨⟨z0, m1, [], hs⟩, none, 0, rfl, Rd.nil _ _, fun _ => ⟨rfl, rfl⟩, Nat.le_refl _, Nat.zero_le _, by show hs.length = 32; omega, by show m1 < _; omega⟩
    · simp at hcs
      subst hcs
      simp only [if_true] at hz
      have hlen2 : ((zs.take len).map fun n => UInt8.ofNat n.toNat).length = len := by simp; omega
      refine ⟨⟨z0, m1, (zs.take len).map fun n => UInt8.ofNat n.toNat, hs⟩, some a, cap, by show _ = _ :: _ :: Value.slice _ ((zs.take len).map fun n => UInt8.ofNat n.toNat).length _ :: _; rw [hlen2], fun hpos => ?_, (fun h => by cases h), by show ((zs.take len).map fun n => UInt8.ofNat n.toNat).length ≤ cap; omega, hm, by show hs.length = 32; omega, by show m1 < _; omega⟩
      refine ⟨a, rfl, ?_, fun j hj => ?_⟩
      · have hpos' : 0 < len := by rw [← hlen2]; exact hpos
        have h0 := hc 0 (by omega)
        have := World.block_lt_of_cell? _ _ h0
        rwa [addr_block] at this
      · have hj' : j < len := by rw [← hlen2]; exact hj
        rw [hc j (by omega)]
        have hb := range_u8 hwz j
        simp only [List.getElem_map, List.getElem_take]
        have e : zs.getD j 0 = zs[j]'(by omega) := by simp [List.getD, List.getElem?_eq_getElem (show j < zs.length by omega)]
        rw [List.getD_eq_getElem?_getD] at e
        rw [e] at hb
        rw [List.getD_eq_getElem?_getD, e]
        congr 2
        simp only [UInt8.toNat_ofNat']
        omega

theorem in_things {H : Type} {enc : TypeId × Value → H} {W : World} {v : Value} {d : DataW H} {p : List MemPlace} {base : Nat} (h : DataW.Trod enc Try.prog W 0 (fun _ => true) true 41 v d p) (o : Value.okWide Try.prog W .any base 41 v) :
    ∃ (A : Option Addr) (c : Nat) (xs : List Thing), v = .slice A xs.length c ∧ (∀ i x, xs[i]? = some x → ThingAt W A i x) ∧ xs.length ≤ c ∧ c ≤ maxLen := by
  obtain ⟨a1, len, cap, rfl⟩ := okWide_slice Try.underlying41 o
  obtain ⟨fuel, hf⟩ := h
  rcases open_slice Try.underlying41 hf with ⟨hcs, hx⟩ | ⟨a, len', cap', m, n, D, Pl, hcs, _, hl, hm, hmm, hx, hi⟩
  · simp [Value.cells] at hcs
    obtain ⟨rfl, rfl, rfl⟩ := hcs
    exact ⟨none, 0, [], rfl, fun i x hi => by simp at hi, Nat.le_refl _, Nat.zero_le _⟩
  · simp [Value.cells] at hcs
    obtain ⟨rfl, rfl, rfl⟩ := hcs
    simp only [if_true] at hmm
    have hcell2 : Try.prog.cellsOf 43 = 35 := by kernel_rfl
    have each : ∀ i, i < len → ∃ x, ThingAt W (some a) i x := by
      intro i hil
      obtain ⟨cs', hc, ht'⟩ := hi i (by omega)
      rw [hcell2] at hc
      obtain ⟨_, hcl, hat⟩ := World.cells?_some hc
      obtain ⟨t, B, c, rfl, h1, h2, h3, h4, h5, h6⟩ := in_thing ht'
      obtain ⟨ab, ao, spot⟩ := a
      obtain ⟨cs0, hc0, _⟩ := hi 0 (by omega)
      rw [hcell2] at hc0
      obtain ⟨_, hcl0, hat0⟩ := World.cells?_some hc0
      have h00 := hat0 0 (by omega)
      have hspot : spot = none := by
        have := World.cell?_spot (h00.trans (List.getElem?_eq_getElem (show 0 < cs0.length by omega)))
        simpa [Addr.add] using this
      subst hspot
      have hr : W.rangeAt ab (ao + i * 35) (thCells t B c) := by
        intro j v hv
        have hj : j < (thCells t B c).length := by
          rcases Nat.lt_or_ge j (thCells t B c).length with h | h
          · exact h
          · rw [List.getElem?_eq_none h] at hv; cases hv
        have := hat j (by omega)
        rw [Addr.add_lit, Addr.add_lit] at this
        exact this.trans hv
      refine ⟨t, ab, ao, B, c, rfl, ?_, hr, h1, h2, h3, h4, h5, h6⟩
      have := World.block_lt_of_cell? _ _ (hr 0 _ rfl)
      exact this
    refine ⟨some a, cap, (List.range len).map fun i => if h : i < len then Classical.choose (each i h) else default, by simp, fun i x hx => ?_, by simpa using hl, hm⟩
    rw [List.getElem?_map] at hx
    have hil : i < len := by
      rcases Nat.lt_or_ge i len with h | h
      · exact h
      · rw [List.getElem?_eq_none (by simpa using h)] at hx; cases hx
    rw [List.getElem?_range hil] at hx
    simp only [Option.map_some, Option.some.injEq] at hx
    rw [dif_pos hil] at hx
    subst hx
    exact Classical.choose_spec (each i hil)
end Go.Proofs.Ytjnlnkfpdlfkcaa
