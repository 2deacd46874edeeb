/- An append of numbers in a region that draws its order. -/
import Derived.Test.YtnokhajjcjfbpaaMixB
import Derived.Test.YtnokhajjcjfbpaaRz
import Derived.ControlIn
namespace Go.Proofs.Ytnokhajjcjfbpaa
open Go.RowKit Go.Shelf

theorem wpIn_calm {F : Fence} {n : Nat} {P : Program} {c : Code} {Q : Exit → Act → World → Prop} {a : Act} {w : World} (h : c.wpIn F n P (fun e a w => e = Exit.normal ∧ Q Exit.normal a w) a w) : c.wpIn F n P Q a w :=
  wpIn_mono h fun e a w h => by
    obtain ⟨rfl, h2⟩ := h
    exact h2
theorem OwnU.after {w w' : World} {base : Nat} {v : Value} {l : List Nat} (h : OwnU w base v l) (hb : Below w.heap.size w w') : OwnU w' base v l := by
  refine ⟨h.1, ?_⟩
  rcases h.2 with h0 | ⟨g, cap, cur, e, h1, h2, h3⟩
  · exact .inl h0
  · exact .inr ⟨g, cap, cur, e, h1, (hb.block g (Array.getElem?_eq_some_iff.1 h2).1).trans h2, h3⟩

section
variable {ops : Array Oper} {Q : Exit → Act → World → Prop} {S : World → Prop} {i n : Nat} {o : Oper} {listed : Array Bool} {a : Act} {w : World}
/-- At a world that is known, an operation that alone is ready: what it comes to. -/
theorem AnyH.make (hi : opAt ops.toList i = some o) (hrd : Region.ready .any ops listed = [i]) (hw : Region.wanted o (yielded ops a.tmps) = true) (v : Value) (w' : World) (hr : (execOp a.eval o).run Try.prog w = .ok (.value v) w')
    (hS : S w') (h : wpAnyH Try.prog .any ops Q S n (listed.setIfInBounds i true) (a.put o.dst v) w') : wpAnyH Try.prog .any ops Q S (n + 1) listed a w := by
  rw [opAt_eq, Array.getElem?_toList] at hi
  refine wpAnyH_all hrd (by simp) fun j hj => ?_
  simp only [List.mem_singleton] at hj
  subst hj
  unfold wpOp
  simp only [hi]
  rw [if_pos hw]
  refine .inl ?_
  unfold Oper.wp
  rw [hr]
  exact ⟨hS, h⟩
theorem AnyH.take {v : Value} (hi : opAt ops.toList i = some o) (hok : takeOK ops listed i = true) (hQ : ∀ c a w, Q (.panic c) (a.put o.dst v) w → Q (.panic c) a w)
    (hw : Region.wanted o (yielded ops a.tmps) = true) (hr : ∀ w, S w → (execOp a.eval o).run Try.prog w = .ok (.value v) w) (hS : S w) (h : wpAnyH Try.prog .any ops Q S n (listed.setIfInBounds i true) (a.put o.dst v) w) : wpAnyH Try.prog .any ops Q S (n + 1) listed a w := by
  unfold takeOK at hok
  simp only [Bool.and_eq_true] at hok
  rw [opAt_eq, Array.getElem?_toList] at hi
  exact wpAnyH_take hi hok.1.1 hok.1.2 hok.2 hQ (Or.inl ⟨hw, hr⟩) hS h
theorem AnyH.start {id : Nat} (m : Nat) (S : World → Prop) (hm : Try.prog.follows .mixedOrders = true) (hn : ops.size = m) (h : wpAnyH Try.prog .any ops Q S m (Array.replicate m false) a w.drew) : (Code.region id ops true).wp Try.prog Q a w := by
  subst hn
  exact wp_region_held hm h
theorem comes_append {v' vs xs : Value} {w' : World} (s x : Operand) (T : TypeId) (ho : o.op = .call { callee := .builtin .append, args := #[s, x], argTypes := #[T, T] }) (hs : a.eval s = vs) (hx : a.eval x = xs) (hrun : (Builtin.append_ #[T, T] o.type #[vs, xs]).run Try.prog w = .ok v' w') : Comes Try.prog o a w v' w' := by
  refine .inl ?_
  unfold execOp
  simp only [ho, resolve, invoke, builtin, Sem.run_bind, Sem.run_pure, Result.andThen_ok, List.map_toArray, List.map_cons, List.map_nil, hs, hx, hrun]
theorem comes_update {mv kv vv : Value} {w' : World} (t : TypeId) (m k v : Operand) (hop : o.op = Op.mapUpdate t m k v) (hm : a.eval m = mv) (hk : a.eval k = kv) (hv : a.eval v = vv) (hrun : (Instr.mapUpdate t mv kv vv).run Try.prog w = .ok () w') : Comes Try.prog o a w undef w' := by
  refine .inr ⟨?_, rfl⟩
  simp [execOp, hop, hm, hk, hv, hrun, Result.andThen]
theorem comes_lookup {mv kv v : Value} (t : TypeId) (m k : Operand) (hop : o.op = Op.lookup t m k false) (hm : a.eval m = mv) (hk : a.eval k = kv) (hrun : (Instr.lookup t mv kv false).run Try.prog w = .ok v w) : Comes Try.prog o a w v w := by
  refine .inl ?_
  simp [execOp, hop, hm, hk, hrun, Result.andThen]
/-- What an operation comes to at this world, and what is left then. -/
def StepAt (ops : Array Oper) (Q : Exit → Act → World → Prop) (S : World → Prop) (n : Nat) (listed : Array Bool) (a : Act) (w : World) (i : Nat) : Prop :=
  ∃ o v w', opAt ops.toList i = some o ∧ Region.wanted o (yielded ops a.tmps) = true ∧ Comes Try.prog o a w v w' ∧ S w' ∧ wpAnyH Try.prog .any ops Q S n (listed.setIfInBounds i true) (a.put o.dst v) w'
theorem StepAt.wpOp (h : StepAt ops Q S n listed a w i) : wpOp Try.prog ops Q i (fun a' w' => S w' ∧ wpAnyH Try.prog .any ops Q S n (listed.setIfInBounds i true) a' w') a w := by
  obtain ⟨o, v, w', hi, hw, hr, hS, hk⟩ := h
  rw [opAt_eq, Array.getElem?_toList] at hi
  unfold Go.wpOp
  simp only [hi]
  rw [if_pos hw]
  refine .inl ?_
  unfold Oper.wp
  rcases hr with hr | ⟨hr, rfl⟩
  · rw [hr]
    exact ⟨hS, hk⟩
  · rw [hr]
    exact ⟨hS, hk⟩
theorem AnyH.one (hrd : Region.ready .any ops listed = [i]) (h : StepAt ops Q S n listed a w i) : wpAnyH Try.prog .any ops Q S (n + 1) listed a w := by
  refine wpAnyH_all hrd (by simp) fun j hj => ?_
  simp only [List.mem_singleton] at hj
  subst hj
  exact h.wpOp
theorem AnyH.two {j : Nat} (hrd : Region.ready .any ops listed = [i, j]) (h1 : StepAt ops Q S n listed a w i) (h2 : StepAt ops Q S n listed a w j) : wpAnyH Try.prog .any ops Q S (n + 1) listed a w := by
  refine wpAnyH_all hrd (by simp) fun k hk => ?_
  simp only [List.mem_cons, List.not_mem_nil, or_false] at hk
  rcases hk with rfl | rfl
  · exact h1.wpOp
  · exact h2.wpOp
theorem AnyH.append (hi : opAt ops.toList i = some o) (hrd : Region.ready .any ops listed = [i])
    (hw : Region.wanted o (yielded ops a.tmps) = true) (s x : Operand) (ho : o.op = .call { callee := .builtin .append, args := #[s, x], argTypes := #[24, 24] })
    (base : Nat) (v : Value) (l : List Nat) (hs : a.eval s = v) (A : Option Addr) (m c : Nat) (r : List Nat) (hx : a.eval x = .slice A m c) (hn : m = r.length)
    (hown : OwnU w base v l) (hr : Ru w A r) (hbase : base ≤ w.heap.size) (hlen : l.length + r.length ≤ 1000000000) (N : Nat) (hN : l.length + r.length = N) (L : List Nat) (hL : l ++ r = L)
    (h : ∀ A' c' w', OwnU w' base (.slice A' N c') L → w.grownBy w' v.ownBlock → S w' ∧ wpAnyH Try.prog .any ops Q S n (listed.setIfInBounds i true) (a.put o.dst (.slice A' N c')) w') : wpAnyH Try.prog .any ops Q S (n + 1) listed a w := by
  obtain ⟨i', hi', hz0, hz1, hz2⟩ := info_parts u64_info
  subst hn
  obtain ⟨v', w', hrun, h2, h3⟩ := append_run (w := w) base 24 o.type i' Try.underlying24 hi' hz0 hz1 hz2 v l hown A c r hr hlen hbase
  obtain ⟨A', c', rfl, _⟩ := OwnU.shape h2
  have e : (l ++ r).length = l.length + r.length := List.length_append
  have h4 : OwnU w' base (.slice A' N c') L := by rw [← hN, ← e, ← hL]; exact h2
  obtain ⟨g1, g2⟩ := h A' c' w' h4 h3
  refine AnyH.make hi hrd hw (.slice A' N c') w' ?_ g1 g2
  unfold execOp
  simp only [ho, resolve, invoke, builtin, Sem.run_bind, Sem.run_pure, Result.andThen_ok, List.map_toArray, List.map_cons, List.map_nil, hs, hx, hrun]
  rw [e, hN]
end
end Go.Proofs.Ytnokhajjcjfbpaa
