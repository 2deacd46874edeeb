/- The law that what is laid is taken back: what is laid; the three takings. -/
import Derived.Test.YtjnlnkfpdlfkcaaByB
import Derived.Test.YtjnlnkfpdlfkcaaSeqT
namespace Go.Proofs.Ytjnlnkfpdlfkcaa
open Go.RowKit Go.Lib Go.ChangeShapes Go.WideShapes Go.Deep

/-- What is laid for a thing. -/
def encT (x : Thing) : List UInt8 := if x.wid = 0 then x.bs else if x.wid = 9 then x.hs else digs x.wid.toNat x.num
/-- A thing that is laid. -/
def OkT (x : Thing) : Prop := x.bs.length ≤ 1000 ∧ x.hs.length = 32 ∧ (x.wid = 0 ∨ x.wid = 9 ∨ ∃ k : Nat, x.wid = k ∧ (k = 1 ∨ k = 2 ∨ k = 4 ∨ k = 8) ∧ x.num < 2 ^ (8 * k))
theorem OkT.len {x : Thing} (h : OkT x) : (encT x).length ≤ 1000 := by
  obtain ⟨h1, h2, h3⟩ := h
  unfold encT
  rcases h3 with h | h | ⟨k, h, hk, _⟩
  · rw [if_pos h]; exact h1
  · rw [if_neg (by omega), if_pos h]; omega
  · rw [if_neg (by omega), if_neg (by omega), digs_length, h]; omega
def encL (xs : List Thing) (k : Nat) : List UInt8 := (xs.take k).flatMap encT
def decL (xs : List Thing) (k : Nat) : List UInt8 := (xs.drop k).flatMap encT
def OkL (xs : List Thing) (k : Nat) : Prop := ∀ i x, i < k → xs[i]? = some x → OkT x
theorem encL_succ {xs : List Thing} {k : Nat} {x : Thing} (h : xs[k]? = some x) : encL xs (k + 1) = encL xs k ++ encT x := by
  unfold encL
  rw [List.take_add_one, h]
  simp
theorem decL_step {xs : List Thing} {k : Nat} {x : Thing} (h : xs[k]? = some x) : decL xs k = encT x ++ decL xs (k + 1) := by
  unfold decL
  have hk : k < xs.length := by
    rcases Nat.lt_or_ge k xs.length with h' | h'
    · exact h'
    · rw [List.getElem?_eq_none h'] at h; cases h
  rw [List.drop_eq_getElem_cons hk]
  rw [List.getElem?_eq_getElem hk] at h
  injection h with h
  rw [h, List.flatMap_cons]
theorem encL_all (xs : List Thing) : encL xs xs.length = decL xs 0 := by
  unfold encL decL
  rw [List.take_length, List.drop_zero]
theorem decL_end (xs : List Thing) : decL xs xs.length = [] := by
  unfold decL
  rw [List.drop_length]
  rfl
theorem encL_len {xs : List Thing} : ∀ {k : Nat}, OkL xs k → (encL xs k).length ≤ 1000 * k
  | 0, _ => by simp [encL]
  | k + 1, h => by
    have ih := encL_len (xs := xs) (k := k) (fun i x hi hx => h i x (by omega) hx)
    cases hx : xs[k]? with
    | none =>
      have : encL xs (k + 1) = encL xs k := by
        unfold encL
        rw [List.take_add_one, hx]
        simp
      rw [this]
      omega
    | some x =>
      rw [encL_succ hx, List.length_append]
      have := (h k x (by omega) hx).len
      omega
theorem decL_len {xs : List Thing} (h : OkL xs xs.length) : ∀ k, (decL xs k).length ≤ 1000 * xs.length
  | 0 => by rw [← encL_all]; exact encL_len h
  | k + 1 => by
    have ih := decL_len h k
    cases hx : xs[k]? with
    | none =>
      have : xs.length ≤ k := List.getElem?_eq_none_iff.1 hx
      unfold decL
      rw [List.drop_of_length_le (by omega)]
      simp
    | some x =>
      rw [decL_step hx, List.length_append] at ih
      omega

/-- The call that turns the reader, in a region that draws its order. -/
theorem SeqT.callX {P : Program} {ops : Array Oper} {Q : Exit → Act → World → Prop} {m : Nat} {S R0 R1 : World → Prop} {o : Oper} {os : List Oper} {a : Act} {v : Value} {f : FuncId} {args : Array Value}
    (hw : Region.wanted o (yielded ops a.tmps) = true) (hr : ∀ w, S w → R0 w → (execOp a.eval o).run P w = .ok (.enter f args) w)
    (hc : ∀ w, S w → R0 w → Calls P f args w fun e w' => e = .returned v ∧ S w' ∧ R1 w')
    (h : SeqT P ops (Once m S R0 R1) Q (m + 1) os (a.put o.dst v)) : SeqT P ops (Once m S R0 R1) Q m (o :: os) a :=
  ⟨v, .inl ⟨hw, fun sel w hj hT => by
    rw [hr w hT.1 (hT.2.1 hj)]
    exact Calls.mono (hc w hT.1 (hT.2.1 hj)) fun e w' ⟨he, h1, h2⟩ => ⟨he, h1, fun hk => by simp at hk, fun _ => h2⟩⟩, h⟩
theorem SeqT.long {P : Program} {ops : Array Oper} {Q : Exit → Act → World → Prop} {m k1 : Nat} {S R0 R1 : World → Prop} {o : Oper} {os : List Oper} {a : Act} (t : TypeId) (v : Value) {x : Operand} {p : Addr} (hne : m ≠ k1) (hw : Region.wanted o (yielded ops a.tmps) = true) (ho : o.op = .load t x) (hx : a.eval x = .pointer (some p))
    (h : ∀ w, S w → (loadVar t p).run P w = .ok v w) (hr : SeqT P ops (Once k1 S R0 R1) Q (m + 1) os (a.put o.dst v)) : SeqT P ops (Once k1 S R0 R1) Q m (o :: os) a :=
  SeqT.take hne hw (fun w hS => by
    unfold execOp
    simp only [ho, hx, Instr.loadAt, Instr.sureAddr, Sem.run_bind, Sem.run_pure, Result.andThen_ok, h w hS]) hr

theorem there_new (w : World) (c : Array Value) (t : TypeId) (n : Nat) (h : c.size = n) : (w.alloc (.cells c t)).there w.heap.size 0 n := fun j hj => by
  have hb := IsBlk.new w t c
  rw [Nat.zero_add, hb.cell, Array.getElem?_eq_getElem (by omega)]
  exact ⟨rfl, hb.free j⟩
/-- The row of a local thing. -/
theorem Rng.after {w w' : World} {b o : Nat} {cs : List Value} (h : w.rangeAt b o cs) (hb : Below w.heap.size w w') : w'.rangeAt b o cs := fun j v hv => by
  have h1 := h j v hv
  exact (hb.cell (World.block_lt_of_cell? _ _ h1)).trans h1
theorem Rng.chg {w w' : World} {b o g : Nat} {cs : List Value} (h : w.rangeAt b o cs) (k : Chg g w w') (hne : b ≠ g) : w'.rangeAt b o cs := fun j v hv => by
  have h1 := h j v hv
  exact (World.cell?_of_block (k.block b (World.block_lt_of_cell? _ _ h1) hne)).trans h1
theorem th_rd {w : World} {gx c : Nat} {x : Thing} {B : Option Addr} (h : w.rangeAt gx 0 (thCells x B c)) (hx : x.hs.length = 32) : Rd w (some ⟨gx, 3, none⟩) x.hs := fun hp => by
  have key : ∀ j, j < x.hs.length → w.cell? ⟨gx, 3 + j, none⟩ = some (.int .u8 ((x.hs[j]!).toNat : Nat)) := by
    intro j hj
    have := h (3 + j) (.int .u8 ((x.hs[j]!).toNat : Nat)) (by
      rw [Nat.add_comm 3 j]
      show (byteCells x.hs)[j]? = _
      simp [byteCells, hj])
    rwa [Nat.zero_add] at this
  refine ⟨_, rfl, ?_, fun j hj => ?_⟩
  · exact World.block_lt_of_cell? _ _ (key 0 hp)
  · rw [Addr.add_mid, key j hj]
    simp [hj]
theorem th_load {w : World} {gx c : Nat} {x : Thing} {B : Option Addr} (h : w.rangeAt gx 0 (thCells x B c)) (hx : x.hs.length = 32) : (loadVar 39 ⟨gx, 3, none⟩).run Try.prog w = .ok (.agg (byteCells x.hs).toArray) w :=
  run_loadVar_mid (P := Try.prog) w gx 3 39 (byteCells x.hs) _ (fun j v hv => by
    have := h (3 + j) v (by
      rw [Nat.add_comm 3 j]
      exact hv)
    rwa [Nat.zero_add] at this) Try.underlying39 rfl (by rw [byteCells_length, hx]; kernel_rfl)
theorem hs_neq (hs : List UInt8) (hx : hs.length = 32) (w : World) : (binOp .neq 39 (.agg (byteCells hs).toArray) (.agg (byteCells hs).toArray)).run Try.prog w = .ok (.bool false) w := by
  have e : byteCells hs = (hs.map fun b => ((b.toNat : Nat) : Int)).map (Value.int .u8) := by simp [byteCells]
  rw [e]
  have := run_neq_nums w 39 5 32 .u8 Try.underlying39 Try.underlying5 (fun _ => by kernel_rfl) (hs.map fun b => ((b.toNat : Nat) : Int)) (hs.map fun b => ((b.toNat : Nat) : Int)) (by simpa using hx) (by simpa using hx)
  rw [this]
  simp
end Go.Proofs.Ytjnlnkfpdlfkcaa
