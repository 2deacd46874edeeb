/- Words for slices of bytes: one that reads as a list; one of the call's own; what an append onto one leaves. -/
import Derived.Test.YtgmbdhpanhkfhaaBase
import Derived.Lib.Hide
import Derived.Lib.UnsafeStr
import Derived.Laws.IdiomStrings
import Derived.Laws.BytesArg
import Derived.Lib.BufferRead
import Derived.Laws.OwnMore
import Derived.Maps.AppendAt
import Derived.Deep.AppendLies
import Derived.OwnWalk
import Derived.WalkSpells
import Derived.WalkLawsBesides
namespace Go.Proofs.Ytgmbdhpanhkfhaa
open Go.RowKit Go.Lib

def BRet (v : Value) (w : World) (e : Ending) (w' : World) : Prop := e = .returned v ∧ Below w.heap.size w w'
theorem bel_on {w b c : World} (h : Below w.heap.size w b) (k : Below b.heap.size b c) : Below w.heap.size w c := h.trans (k.mono h.size)

/-- The slice at A, of these bytes. -/
def Rd (w : World) (A : Option Addr) (l : List UInt8) : Prop :=
  0 < l.length → ∃ ad : Addr, A = some ad ∧ ad.block < w.heap.size ∧ ∀ j (hj : j < l.length), w.cell? (ad.add j) = some (.int .u8 (l[j].toNat : Int))
theorem Rd.nil (w : World) (A : Option Addr) : Rd w A [] := fun h => by simp at h
theorem Rd.news {w : World} {ad : Addr} {l : List UInt8} (h : Rd w (some ad) l) : ∀ j u, (byteCells l)[j]? = some u → w.cell? (ad.add j) = some u := by
  intro j u hu
  have hj : j < l.length := by
    have := (List.getElem?_eq_some_iff.1 hu).1
    rwa [byteCells_length] at this
  obtain ⟨ad', e, _, hc⟩ := h (by omega)
  injection e with e
  subst e
  rw [hc j hj]
  simp [byteCells, List.getElem?_eq_getElem hj] at hu
  rw [← hu]
theorem oneCells (l : List UInt8) : ∀ u ∈ byteCells l, u.oneCell' = true := by
  intro u hu
  simp [byteCells] at hu
  obtain ⟨b, _, rfl⟩ := hu
  rfl
theorem addr_block (a : Addr) (n : Nat) : (a.add n).block = a.block := by unfold Addr.add; split <;> rfl
theorem addr_add (a : Addr) (i j : Nat) : (a.add i).add j = a.add (i + j) := by
  unfold Addr.add
  by_cases hi : i = 0 <;> by_cases hj : j = 0 <;> simp [hi, hj, Nat.add_assoc]
theorem Rd.keep {w w' : World} {A : Option Addr} {l : List UInt8} (h : Rd w A l) (hs : w.heap.size ≤ w'.heap.size) (hk : ∀ ad : Addr, A = some ad → ∀ p : Addr, p.block = ad.block → p.block < w.heap.size → w'.cell? p = w.cell? p) : Rd w' A l := by
  intro hl
  obtain ⟨ad, e, hb, hc⟩ := h hl
  exact ⟨ad, e, by omega, fun j hj => by rw [hk ad e _ (addr_block ad j) (by rw [addr_block]; exact hb)]; exact hc j hj⟩
theorem Rd.after {w w' : World} {A : Option Addr} {l : List UInt8} (h : Rd w A l) (hb : Below w.heap.size w w') : Rd w' A l :=
  h.keep hb.size fun _ _ p _ hp => hb.cell hp
theorem Rd.drew {w : World} {A : Option Addr} {l : List UInt8} (h : Rd w A l) : Rd w.drew A l := h
theorem Rd.alloc {w : World} {A : Option Addr} {l : List UInt8} (h : Rd w A l) (o : Obj) : Rd (w.alloc o) A l :=
  h.after ((Below.refl _ _).alloc (Nat.le_refl _) _)
theorem Rd.setCell {w : World} {A : Option Addr} {l : List UInt8} (h : Rd w A l) {q : Addr} (hq : ∀ ad : Addr, A = some ad → ad.block ≠ q.block) (u : Value) : Rd (w.setCell q u) A l :=
  h.keep (by simp) fun ad e p hp _ => World.cell?_setCell_other w q p u (fun h2 => hq ad e (by rw [← hp, h2]))
/-- A part of it. -/
theorem Rd.take {w : World} {A : Option Addr} {l : List UInt8} (h : Rd w A l) (n : Nat) : Rd w A (l.take n) := by
  intro hl
  have h1 : (l.take n).length ≤ l.length := by rw [List.length_take]; omega
  obtain ⟨ad, e, hb, hc⟩ := h (by omega)
  exact ⟨ad, e, hb, fun j hj => by rw [hc j (by omega)]; simp⟩
theorem Rd.drop {w : World} {A : Option Addr} {l : List UInt8} {c k : Nat} (h : Rd w A l) (hc : l.length ≤ c) : Rd w (if c = k then A else A.map (·.add k)) (l.drop k) := by
  intro hl
  rw [List.length_drop] at hl
  obtain ⟨ad, rfl, hb, hcell⟩ := h (by omega)
  rw [if_neg (by omega)]
  refine ⟨ad.add k, rfl, by rw [addr_block]; exact hb, fun j hj => ?_⟩
  rw [List.length_drop] at hj
  rw [addr_add, hcell (k + j) (by omega)]
  simp

/-- A row of the call's own that holds these bytes. -/
def Own (w : World) (base : Nat) (v : Value) (l : List UInt8) : Prop := w.ownsRow base 5 1 v l.length (byteCells l)
theorem Own.shape {w : World} {base : Nat} {v : Value} {l : List UInt8} (h : Own w base v l) : ∃ A c, v = .slice A l.length c ∧ (A = none → c = 0) := by
  rcases h.2 with ⟨rfl, h0⟩ | ⟨g, cap, cur, rfl, _⟩
  · exact ⟨none, 0, by rw [h0], fun _ => rfl⟩
  · exact ⟨_, cap, rfl, fun h => by cases h⟩
theorem Own.nil (w : World) (base : Nat) : Own w base (.slice none 0 0) [] := ⟨rfl, .inl ⟨rfl, rfl⟩⟩
theorem Own.rd {w : World} {base : Nat} {A : Option Addr} {n c : Nat} {l : List UInt8} (h : Own w base (.slice A n c) l) : Rd w A l := by
  intro hl
  obtain ⟨g, cap, hv, _, hlt⟩ := World.ownsRow.form h (by omega)
  injection hv with h1 h2 h3
  subst h1
  refine ⟨⟨g, 0, none⟩, rfl, hlt, fun j hj => ?_⟩
  exact World.ownsRow.cells h (g := g) rfl j _ (by simp [byteCells, List.getElem?_eq_getElem hj])
theorem Own.alloc {w : World} {base : Nat} {v : Value} {l : List UInt8} (h : Own w base v l) (o : Obj) : Own (w.alloc o) base v l := World.ownsRow.alloc h o
theorem Own.drew {w : World} {base : Nat} {v : Value} {l : List UInt8} (h : Own w base v l) : Own w.drew base v l := h
theorem Own.blk {w w' : World} {base : Nat} {v : Value} {l : List UInt8} (h : Own w base v l) (hk : ∀ g, v.ownBlock = some g → w'.heap[g]? = w.heap[g]?) : Own w' base v l := by
  refine ⟨h.1, ?_⟩
  rcases h.2 with h0 | ⟨g, cap, cur, rfl, hb, hg, hr⟩
  · exact .inl h0
  · exact .inr ⟨g, cap, cur, rfl, hb, by rw [hk g rfl]; exact hg, hr⟩
theorem Own.after {w w' : World} {base : Nat} {v : Value} {l : List UInt8} (h : Own w base v l) (hb : Below w.heap.size w w') : Own w' base v l :=
  h.blk fun g hg => hb.block g (World.ownsRow.lt h g hg).2
theorem Own.low {w : World} {base b2 : Nat} {v : Value} {l : List UInt8} (h : Own w base v l) (hb : b2 ≤ base) : Own w b2 v l := by
  refine ⟨h.1, ?_⟩
  rcases h.2 with h0 | ⟨g, cap, cur, rfl, hb2, hr⟩
  · exact .inl h0
  · exact .inr ⟨g, cap, cur, rfl, by omega, hr⟩

section
variable {P : Program} (w : World)
theorem run_append_none (base : Nat) (t ty e : TypeId) (i : TypeInfo) (ht : P.underlying t = some (.slice e)) (hi : P.info? e = some i)
    (v : Value) (n : Nat) (xs : List Value) (hown : w.ownsRow base e 1 v n xs) (c : Nat) : (Builtin.append_ #[t, t] ty #[v, .slice none 0 c]).run P w = .ok v w := by
  rcases hown.2 with ⟨rfl, rfl⟩ | ⟨g, cap, cur, rfl, _, _, hnc, _⟩
  · simp [Builtin.append_, run_underlying ht, sizeOf, typeInfo, hi, Builtin.lenOf, Builtin.firstCells]
  · simp [Builtin.append_, run_underlying ht, sizeOf, typeInfo, hi, Builtin.lenOf, Builtin.firstCells, hnc, storeCells]
/-- What an append of bytes onto a row of the call's own leaves. -/
theorem run_append_rd (base : Nat) (t ty e : TypeId) (i : TypeInfo) (ht : P.underlying t = some (.slice e)) (hi : P.info? e = some i) (hz : i.zero = some (.int .u8 0)) (hs : i.size = 1) (hby : i.bytes = 1)
    (v : Value) (l : List UInt8) (hown : w.ownsRow base e 1 v l.length (byteCells l)) (A : Option Addr) (c : Nat) (m : List UInt8) (hr : Rd w A m)
    (hlen : l.length + m.length ≤ 140737488355328) (hbase : base ≤ w.heap.size) :
    ∃ v' w', (Builtin.append_ #[t, t] ty #[v, .slice A m.length c]).run P w = .ok v' w' ∧ w'.ownsRow base e 1 v' (l ++ m).length (byteCells (l ++ m)) ∧ w.grownBy w' v.ownBlock := by
  rcases A with _ | ad
  · have hm : m = [] := by
      rcases Nat.eq_zero_or_pos m.length with h0 | h0
      · exact List.eq_nil_of_length_eq_zero h0
      · obtain ⟨ad, h, _⟩ := hr h0
        cases h
    subst hm
    exact ⟨v, w, run_append_none w base t ty e i ht hi v _ _ hown c, by simpa using hown, World.grownBy.refl w _⟩
  · obtain ⟨v', w', hrun, h2, h3, _, _⟩ := run_append_own_at (P := P) w base t ty e i (.int .u8 0) 1 1 ht hi hz hs hby rfl (by decide) v l.length (byteCells l) hown ad m.length c (byteCells m) (by simp [byteCells_length]) hr.news (oneCells m) (by simp only [maxLen]; omega) (by omega) hbase
    exact ⟨v', w', hrun, by rw [List.length_append, byteCells_append]; exact h2, h3⟩
end
theorem bel_grown {W w w1 : World} {B : Nat} {base e size n : Nat} {v : Value} {xs : List Value} (h : Below B W w) (hB : B ≤ w.heap.size) (hown : w.ownsRow base e size v n xs) (hb : B ≤ base) (hg : w.grownBy w1 v.ownBlock) : Below B W w1 :=
  h.grown hg hB fun k hk => Nat.le_trans hb (hown.lt k hk).1

theorem u8_info : (Try.prog.info? 5).map (fun i => (i.zero, i.size, i.bytes)) = some (some (.int .u8 0), 1, 1) := by kernel_rfl
/-- An append, as the walk meets it in a plain region. -/
theorem wpList_append_rd {ops : Array Oper} {rest : List Oper} {o : Oper} {a : Act} {w : World} {Q : Exit → Act → World → Prop} (hgd : o.guard = none) (s x : Operand)
    (ho : o.op = .call { callee := .builtin .append, args := #[s, x], argTypes := #[23, 23] })
    (base : Nat) (v : Value) (l : List UInt8) (hs : a.eval s = v) (hown : Own w base v l) (A : Option Addr) (n c : Nat) (m : List UInt8) (hx : a.eval x = .slice A n c) (hn : n = m.length) (hr : Rd w A m)
    (hlen : l.length + m.length ≤ 140737488355328) (hbase : base ≤ w.heap.size) (N : Nat) (hN : l.length + m.length = N) (L : List UInt8) (hL : l ++ m = L)
    (h : ∀ A' c' w', Own w' base (.slice A' N c') L → w.grownBy w' v.ownBlock → (A' = none → c' = 0) → wpList Try.prog ops Q rest (a.put o.dst (.slice A' N c')) w') : wpList Try.prog ops Q (o :: rest) a w := by
  obtain ⟨i, hi, hz0, hz1, hz2⟩ := info_parts u8_info
  subst hn
  obtain ⟨v', w', hrun, h2, h3⟩ := run_append_rd (P := Try.prog) w base 23 o.type 5 i Try.underlying23 hi hz0 hz1 hz2 v l hown A c m hr hlen hbase
  obtain ⟨A', c', rfl, hnn⟩ := Own.shape h2
  refine wpList_plain hgd fun _ hK => ?_
  unfold Oper.wp execOp
  simp only [ho, resolve, invoke, builtin, Sem.run_bind, Sem.run_pure, Result.andThen_ok, List.map_toArray, List.map_cons, List.map_nil, hs, hx, hrun]
  have e : (l ++ m).length = l.length + m.length := List.length_append
  have h4 : Own w' base (.slice A' N c') L := by rw [← hN, ← e, ← hL]; exact h2
  rw [e, hN]
  exact hK _ _ (h A' c' w' h4 h3 hnn)

/-- 'string(b)'. -/
theorem run_str {w : World} {A : Option Addr} {n c : Nat} {l : List UInt8} (h : Rd w A l) (hn : n = l.length) : (convert 23 9 (.slice A n c)).run Try.prog w = .ok (.string ⟨l.toArray⟩) w := by
  subst hn
  rcases A with _ | ad
  · have hl : l = [] := by
      rcases Nat.eq_zero_or_pos l.length with h0 | h0
      · exact List.eq_nil_of_length_eq_zero h0
      · obtain ⟨ad, h, _⟩ := h h0
        cases h
    subst hl
    exact run_convert_nil_bytes w 23 9 5 c Try.underlying23 Try.underlying5 Try.underlying9
  · refine run_convert_bytes_back w 23 9 5 ad c l Try.underlying23 Try.underlying5 Try.underlying9 fun j hj => ?_
    obtain ⟨ad', e, _, hc⟩ := h (by omega)
    injection e with e
    subst e
    exact hc j hj

/-- It returns a slice of the call's own, of these bytes. -/
def BytesRet (l : List UInt8) (w : World) (e : Ending) (w' : World) : Prop :=
  ∃ A c, e = .returned (.slice A l.length c) ∧ Own w' w.heap.size (.slice A l.length c) l ∧ (A = none → c = 0) ∧ Below w.heap.size w w'
theorem BytesRet.mk {l : List UInt8} {w w' : World} {A : Option Addr} {n c : Nat} (hn : n = l.length) (h : Own w' w.heap.size (.slice A n c) l) (h0 : A = none → c = 0) (hb : Below w.heap.size w w') : BytesRet l w (.returned (.slice A n c)) w' := by
  subst hn
  exact ⟨A, c, rfl, h, h0, hb⟩

/-- An empty slice that is not nil. -/
theorem Own.empty (w : World) : Own (w.alloc (.cells #[] 5)) w.heap.size (.slice (some ⟨w.heap.size, 0, none⟩) 0 0) [] :=
  ⟨rfl, .inr ⟨w.heap.size, 0, #[], rfl, Nat.le_refl _, by show (w.heap.push _)[w.heap.size]? = _; simp, Nat.le_refl _, by simp [maxLen], rfl, rfl⟩⟩

set_option maxHeartbeats 1000000 in
theorem clone_any (A : Option Addr) (n c : Nat) (l : List UInt8) (w : World) (hn : n = l.length) (h0 : A = none → n = 0 ∧ c = 0) (hr : Rd w A l) (hl : l.length ≤ 140737488355328) :
    Calls Try.prog 25 #[.slice A n c] w (BytesRet l w) := by
  subst hn
  rcases A with _ | ad
  · obtain ⟨h1, rfl⟩ := h0 rfl
    have hl0 : l = [] := List.eq_nil_of_length_eq_zero h1
    subst hl0
    have hq : ∀ w, (binOp .eql 23 (.slice none 0 0) (.slice none 0 0)).run Try.prog w = .ok (.bool true) w := fun w => by kernel_rfl
    clear hr h1 h0 hl
    go_enter Try.func25, Try.ntmps25
    go_wp2_with fail
    go_ret
    exact BytesRet.mk rfl (Own.nil _ _) (fun _ => rfl) (Below.refl _ _)
  · have hq : ∀ w, (binOp .eql 23 (.slice (some ad) l.length c) (.slice none 0 0)).run Try.prog w = .ok (.bool false) w := fun w => Lib.run_eql_slice_nil w 23 5 _ _ _ 0 0 Try.underlying23
    have hr2 := fun o => hr.alloc o
    have HR := Lib.hid hr2
    clear hr hr2 h0
    go_enter Try.func25, Try.ntmps25
    go_wp2_with (at_builtin; refine wpList_append_rd rfl (.tmp 5) (.tmp 6) rfl w.heap.size _ [] rfl (Own.empty w) (some ad) l.length c l rfl rfl (HR.out _) (by simpa using hl) (by simp) l.length (by simp) l (by simp) ?_; intro A' c' w1 hown hg hnn)
    go_ret
    exact BytesRet.mk rfl hown hnn (bel_grown ((Below.refl _ _).alloc (Nat.le_refl _) _) (by simp) (Own.empty w) (Nat.le_refl _) hg)
end Go.Proofs.Ytgmbdhpanhkfhaa
