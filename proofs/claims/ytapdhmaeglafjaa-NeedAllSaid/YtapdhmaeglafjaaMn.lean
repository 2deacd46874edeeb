/- An append of numbers in a region that draws its order. -/
import Derived.Test.YtapdhmaeglafjaaMixB
import Derived.Test.YtapdhmaeglafjaaRz
namespace Go.Proofs.Ytapdhmaeglafjaa
open Go.RowKit Go.Shelf

theorem OwnU.after {w w' : World} {base : Nat} {v : Value} {l : List Nat} (h : OwnU w base v l) (hb : Below w.heap.size w w') : OwnU w' base v l := by
  refine ⟨h.1, ?_⟩
  rcases h.2 with h0 | ⟨g, cap, cur, e, h1, h2, h3⟩
  · exact .inl h0
  · exact .inr ⟨g, cap, cur, e, h1, (hb.block g (Array.getElem?_eq_some_iff.1 h2).1).trans h2, h3⟩

section
variable {ops : Array Oper} {Q : Exit → Act → World → Prop} {S : World → Prop} {i n : Nat} {o : Oper} {listed : Array Bool} {a : Act} {w : World}
/-- At a world that is known, an operation that alone is ready: what it comes to. -/
theorem AnyH.make (hi : opAt ops.toList i = some o) (hrd : Region.ready .any ops listed = [i]) (hw : Region.wanted o (yielded ops a.tmps) = true) (v : Value) (w' : World) (hr : (execOp a.eval o).run Try.prog w = .ok (.value v) w')
    (hS : S w') (h : wpAnyH Try.prog .any ops Q S n (listed.setIfInBounds i true) (a.put o.dst v) w') : wpAnyH Try.prog .any ops Q S (n + 1) listed a w := by
  rw [opAt_eq, Array.getElem?_toList] at hi
  refine wpAnyH_all hrd (by simp) fun j hj => ?_
  simp only [List.mem_singleton] at hj
  subst hj
  unfold wpOp
  simp only [hi]
  rw [if_pos hw]
  refine .inl ?_
  unfold Oper.wp
  rw [hr]
  exact ⟨hS, h⟩
theorem AnyH.take {v : Value} (hi : opAt ops.toList i = some o) (hok : takeOK ops listed i = true) (hQ : ∀ c a w, Q (.panic c) (a.put o.dst v) w → Q (.panic c) a w)
    (hw : Region.wanted o (yielded ops a.tmps) = true) (hr : ∀ w, S w → (execOp a.eval o).run Try.prog w = .ok (.value v) w) (hS : S w) (h : wpAnyH Try.prog .any ops Q S n (listed.setIfInBounds i true) (a.put o.dst v) w) : wpAnyH Try.prog .any ops Q S (n + 1) listed a w := by
  unfold takeOK at hok
  simp only [Bool.and_eq_true] at hok
  rw [opAt_eq, Array.getElem?_toList] at hi
  exact wpAnyH_take hi hok.1.1 hok.1.2 hok.2 hQ (Or.inl ⟨hw, hr⟩) hS h
theorem AnyH.append (hi : opAt ops.toList i = some o) (hrd : Region.ready .any ops listed = [i])
    (hw : Region.wanted o (yielded ops a.tmps) = true) (s x : Operand) (ho : o.op = .call { callee := .builtin .append, args := #[s, x], argTypes := #[23, 23] })
    (base : Nat) (v : Value) (l : List Nat) (hs : a.eval s = v) (A : Option Addr) (m c : Nat) (r : List Nat) (hx : a.eval x = .slice A m c) (hn : m = r.length)
    (hown : OwnU w base v l) (hr : Ru w A r) (hbase : base ≤ w.heap.size) (hlen : l.length + r.length ≤ 1000000000) (N : Nat) (hN : l.length + r.length = N) (L : List Nat) (hL : l ++ r = L)
    (h : ∀ A' c' w', OwnU w' base (.slice A' N c') L → w.grownBy w' v.ownBlock → S w' ∧ wpAnyH Try.prog .any ops Q S n (listed.setIfInBounds i true) (a.put o.dst (.slice A' N c')) w') : wpAnyH Try.prog .any ops Q S (n + 1) listed a w := by
  obtain ⟨i', hi', hz0, hz1, hz2⟩ := info_parts u64_info
  subst hn
  obtain ⟨v', w', hrun, h2, h3⟩ := append_run (w := w) base 23 o.type i' Try.underlying23 hi' hz0 hz1 hz2 v l hown A c r hr hlen hbase
  obtain ⟨A', c', rfl, _⟩ := OwnU.shape h2
  have e : (l ++ r).length = l.length + r.length := List.length_append
  have h4 : OwnU w' base (.slice A' N c') L := by rw [← hN, ← e, ← hL]; exact h2
  obtain ⟨g1, g2⟩ := h A' c' w' h4 h3
  refine AnyH.make hi hrd hw (.slice A' N c') w' ?_ g1 g2
  unfold execOp
  simp only [ho, resolve, invoke, builtin, Sem.run_bind, Sem.run_pure, Result.andThen_ok, List.map_toArray, List.map_cons, List.map_nil, hs, hx, hrun]
  rw [e, hN]
end
end Go.Proofs.Ytapdhmaeglafjaa
