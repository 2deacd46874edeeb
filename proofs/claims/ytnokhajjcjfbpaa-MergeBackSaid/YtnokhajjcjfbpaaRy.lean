/- Appends of lists of numbers; the document's add. -/
import Derived.Test.YtnokhajjcjfbpaaRx
import Derived.Maps.AppendAt
import Derived.Deep.AppendLies
namespace Go.Proofs.Ytnokhajjcjfbpaa
open Go.RowKit Go.Shelf

/-- From A on these numbers are read. -/
def Ru (w : World) (A : Option Addr) (l : List Nat) : Prop := 0 < l.length → ∃ ad : Addr, A = some ad ∧ ad.block < w.heap.size ∧ ∀ j (x : Nat), l[j]? = some x → w.cell? (ad.add j) = some (.int .u64 x)
theorem Ru.after {w w' : World} {A : Option Addr} {l : List Nat} (h : Ru w A l) (hb : Below w.heap.size w w') : Ru w' A l := fun h0 => by
  obtain ⟨ad, e, h1, h2⟩ := h h0
  refine ⟨ad, e, by have := hb.size; omega, fun j x hx => ?_⟩
  have := h2 j x hx
  exact (hb.cell (p := ad.add j) (add_block ad j ▸ h1)).trans this
/-- A list of the call's own. -/
abbrev OwnU (w : World) (base : Nat) (v : Value) (l : List Nat) : Prop := w.ownsRow base 22 1 v l.length ((ints l).map (Value.int .u64))
theorem OwnU.nil (w : World) (base : Nat) : OwnU w base (.slice none 0 0) [] := ⟨rfl, .inl ⟨rfl, rfl⟩⟩
theorem OwnU.shape {w : World} {base : Nat} {v : Value} {l : List Nat} (h : OwnU w base v l) : ∃ A c, v = .slice A l.length c ∧ (A = none → c = 0) ∧ ((l.length : Int) ≤ c) := by
  rcases h.2 with ⟨rfl, h0⟩ | ⟨g, cap, cur, rfl, _, _, hc, _⟩
  · exact ⟨none, 0, by rw [h0], fun _ => rfl, by omega⟩
  · exact ⟨_, cap, rfl, fun h => (by cases h), by omega⟩
theorem OwnU.at {w : World} {base n c : Nat} {A : Option Addr} {l : List Nat} (h : OwnU w base (.slice A n c) l) (hn : n = l.length) : SliceAt w A l := by
  subst hn
  exact SliceAt.of_own h rfl
theorem append_nil_run {w : World} (base : Nat) (t ty e : TypeId) (i : TypeInfo) (ht : Try.prog.underlying t = some (.slice e)) (hi : Try.prog.info? e = some i)
    (v : Value) (n : Nat) (xs : List Value) (hown : w.ownsRow base e 1 v n xs) (c : Nat) : (Builtin.append_ #[t, t] ty #[v, .slice none 0 c]).run Try.prog w = .ok v w := by
  rcases hown.2 with ⟨rfl, rfl⟩ | ⟨g, cap, cur, rfl, _, _, hnc, _⟩
  · simp [Builtin.append_, run_underlying ht, sizeOf, typeInfo, hi, Builtin.lenOf, Builtin.firstCells]
  · simp [Builtin.append_, run_underlying ht, sizeOf, typeInfo, hi, Builtin.lenOf, Builtin.firstCells, hnc, storeCells]
theorem append_run {w : World} (base : Nat) (t ty : TypeId) (i : TypeInfo) (ht : Try.prog.underlying t = some (.slice 22)) (hi : Try.prog.info? 22 = some i) (hz : i.zero = some (.int .u64 0)) (hs : i.size = 1) (hby : i.bytes = 8)
    (v : Value) (l : List Nat) (hown : OwnU w base v l) (A : Option Addr) (c : Nat) (m : List Nat) (hr : Ru w A m)
    (hlen : l.length + m.length ≤ 1000000000) (hbase : base ≤ w.heap.size) :
    ∃ v' w', (Builtin.append_ #[t, t] ty #[v, .slice A m.length c]).run Try.prog w = .ok v' w' ∧ OwnU w' base v' (l ++ m) ∧ w.grownBy w' v.ownBlock := by
  have e : ∀ l : List Nat, ((ints l).map (Value.int .u64)).length = l.length := fun l => by simp [ints]
  rcases A with _ | ad
  · have hm : m = [] := by
      rcases Nat.eq_zero_or_pos m.length with h0 | h0
      · exact List.eq_nil_of_length_eq_zero h0
      · obtain ⟨ad, h, _⟩ := hr h0
        cases h
    subst hm
    exact ⟨v, w, append_nil_run base t ty 22 i ht hi v _ _ hown c, by simpa using hown, World.grownBy.refl w _⟩
  · obtain ⟨v', w', hrun, h2, h3, _, _⟩ := run_append_own_at (P := Try.prog) w base t ty 22 i (.int .u64 0) 1 8 ht hi hz hs hby rfl (by decide) v l.length _ hown ad m.length c ((ints m).map (Value.int .u64)) (by rw [e]; omega) (fun j u hu => by
        rw [List.getElem?_map, ints, List.getElem?_map] at hu
        cases hx : m[j]? with
        | none => rw [hx] at hu; cases hu
        | some x =>
          rw [hx] at hu
          obtain ⟨ad', e', _, h4⟩ := hr (by have := (List.getElem?_eq_some_iff.1 hx).1; omega)
          cases e'
          rw [h4 j x hx, ← hu]
          rfl) (fun u hu => by
        obtain ⟨y, _, rfl⟩ := List.mem_map.1 hu
        simp [Value.oneCell']) (by simp only [maxLen]; omega) (by omega) hbase
    refine ⟨v', w', hrun, ?_, h3⟩
    unfold OwnU
    rw [List.length_append]
    have : (ints (l ++ m)).map (Value.int .u64) = (ints l).map (Value.int .u64) ++ (ints m).map (Value.int .u64) := by simp [ints]
    rw [this]
    exact h2
theorem wpList_append_nums {ops : Array Oper} {rest : List Oper} {o : Oper} {a : Act} {w : World} {Q : Exit → Act → World → Prop} (hgd : o.guard = none) (s x : Operand)
    (ho : o.op = .call { callee := .builtin .append, args := #[s, x], argTypes := #[24, 24] })
    (base : Nat) (v : Value) (l : List Nat) (hs : a.eval s = v) (hown : OwnU w base v l) (A : Option Addr) (n c : Nat) (m : List Nat) (hx : a.eval x = .slice A n c) (hn : n = m.length) (hr : Ru w A m)
    (hlen : l.length + m.length ≤ 1000000000) (hbase : base ≤ w.heap.size) (N : Nat) (hN : l.length + m.length = N) (L : List Nat) (hL : l ++ m = L)
    (h : ∀ A' c' w', OwnU w' base (.slice A' N c') L → w.grownBy w' v.ownBlock → wpList Try.prog ops Q rest (a.put o.dst (.slice A' N c')) w') : wpList Try.prog ops Q (o :: rest) a w := by
  obtain ⟨i, hi, hz0, hz1, hz2⟩ := info_parts u64_info
  subst hn
  obtain ⟨v', w', hrun, h2, h3⟩ := append_run base 24 o.type i Try.underlying24 hi hz0 hz1 hz2 v l hown A c m hr hlen hbase
  obtain ⟨A', c', rfl, _, _⟩ := OwnU.shape h2
  refine wpList_plain hgd fun _ hK => ?_
  unfold Oper.wp execOp
  simp only [ho, resolve, invoke, builtin, Sem.run_bind, Sem.run_pure, Result.andThen_ok, List.map_toArray, List.map_cons, List.map_nil, hs, hx, hrun]
  have e : (l ++ m).length = l.length + m.length := List.length_append
  have h4 : OwnU w' base (.slice A' N c') L := by rw [← hN, ← e, ← hL]; exact h2
  rw [e, hN]
  exact hK _ _ (h A' c' w' h4 h3)

/-- A slice that holds these numbers, as slices are. -/
structure ListV (w : World) (A : Option Addr) (c : Nat) (l : List Nat) : Prop where
  at' : SliceAt w A l
  cap : (l.length : Int) ≤ c
  nil : A = none → c = 0
  one : ∀ ad, A = some ad → ∃ g, ad = ⟨g, 0, none⟩ ∧ g < w.heap.size
theorem ListV.of_own {w : World} {base n c : Nat} {A : Option Addr} {l : List Nat} (h : OwnU w base (.slice A n c) l) (hn : n = l.length) : ListV w A c l := by
  subst hn
  have hA := OwnU.at h rfl
  rcases h.2 with ⟨h1, h0⟩ | ⟨g, cap, cur, h1, _, hg, hc, _⟩
  · injection h1 with h1 h2 h3
    subst h1 h3
    exact ⟨hA, by omega, fun _ => rfl, fun ad e => by cases e⟩
  · injection h1 with h1 h2 h3
    subst h1 h3
    exact ⟨hA, by omega, fun e => (by cases e), fun ad e => by cases e; exact ⟨g, rfl, (Array.getElem?_eq_some_iff.1 hg).1⟩⟩
theorem ListV.after {w w' : World} {A : Option Addr} {c : Nat} {l : List Nat} (h : ListV w A c l) (hb : Below w.heap.size w w') : ListV w' A c l :=
  ⟨h.at'.after hb, h.cap, h.nil, fun ad e => by obtain ⟨g, h1, h2⟩ := h.one ad e; exact ⟨g, h1, by have := hb.size; omega⟩⟩
end Go.Proofs.Ytnokhajjcjfbpaa
