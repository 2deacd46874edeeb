/- Mix, MixB, Mn in one (merge.py): a claim holds at most 60 files. -/
import Derived.OrdersHeld
import Derived.KernelRfl
import Derived.Below
import Derived.Test.YtapdhmaeglafjaaRz
import Derived.ControlIn
/- A region that draws its order and holds calls whose results hang on the world: what reads is taken first, the calls as they wait for one another; the condition on the world may grow behind each call. No program in sight. -/
namespace Go.Proofs.Ytapdhmaeglafjaa
open Go Go.RowKit

def opAt : List Oper → Nat → Option Oper
  | [], _ => none
  | o :: _, 0 => some o
  | _ :: os, n + 1 => opAt os n
theorem opAt_eq : ∀ (l : List Oper) (i : Nat), opAt l i = l[i]?
  | [], _ => rfl
  | _ :: _, 0 => rfl
  | _ :: os, n + 1 => by rw [opAt, opAt_eq os n]; rfl

section
variable {P : Program} {ops : Array Oper} {Q : Exit → Act → World → Prop} {S : World → Prop}

def Held (P : Program) (ops : Array Oper) (Q : Exit → Act → World → Prop) (S : World → Prop) (fuel : Nat) (listed : Array Bool) (a : Act) : Prop := ∀ w, S w → wpAnyH P .any ops Q S fuel listed a w
def takeOK (ops : Array Oper) (listed : Array Bool) (i : Nat) : Bool := Region.noSelect ops && Region.free .any ops listed i && (Region.ready .any ops listed).contains i

theorem wpAnyH_mono {S' : World → Prop} (hs : ∀ w, S' w → S w) : ∀ (fuel : Nat) (listed : Array Bool) (a : Act) (w : World), wpAnyH P .any ops Q S' fuel listed a w → wpAnyH P .any ops Q S fuel listed a w
  | 0, _, _, _, h => h
  | fuel + 1, _, _, _, h => ⟨h.1, fun i hi => wpOp_mono (fun a' w' h' => ⟨hs w' h'.1, wpAnyH_mono hs fuel _ a' w' h'.2⟩) (h.2 i hi)⟩

theorem Held.start {id : Nat} {a : Act} {w : World} (n : Nat) (S : World → Prop) (hm : P.follows .mixedOrders = true) (hn : ops.size = n) (hS : S w.drew) (h : Held P ops Q S n (Array.replicate n false) a) : (Code.region id ops true).wp P Q a w := by
  subst hn
  exact wp_region_held hm (h w.drew hS)
theorem Held.take {i n : Nat} {o : Oper} {v : Value} {listed : Array Bool} {a : Act} (hi : opAt ops.toList i = some o) (hok : takeOK ops listed i = true) (hQ : ∀ c a w, Q (.panic c) (a.put o.dst v) w → Q (.panic c) a w)
    (hw : Region.wanted o (yielded ops a.tmps) = true) (hr : ∀ w, S w → (execOp a.eval o).run P w = .ok (.value v) w) (h : Held P ops Q S n (listed.setIfInBounds i true) (a.put o.dst v)) : Held P ops Q S (n + 1) listed a := by
  unfold takeOK at hok
  simp only [Bool.and_eq_true] at hok
  rw [opAt_eq, Array.getElem?_toList] at hi
  exact fun w hS => wpAnyH_take hi hok.1.1 hok.1.2 hok.2 hQ (Or.inl ⟨hw, hr⟩) hS (h w hS)
theorem Held.skip {i n : Nat} {o : Oper} {listed : Array Bool} {a : Act} (hi : opAt ops.toList i = some o) (hok : takeOK ops listed i = true) (hQ : ∀ c a w, Q (.panic c) (a.put o.dst undef) w → Q (.panic c) a w)
    (hw : Region.wanted o (yielded ops a.tmps) = false) (h : Held P ops Q S n (listed.setIfInBounds i true) (a.put o.dst undef)) : Held P ops Q S (n + 1) listed a := by
  unfold takeOK at hok
  simp only [Bool.and_eq_true] at hok
  rw [opAt_eq, Array.getElem?_toList] at hi
  exact fun w hS => wpAnyH_take hi hok.1.1 hok.1.2 hok.2 hQ (Or.inr ⟨hw, rfl⟩) hS (h w hS)
theorem Held.call {i n : Nat} {o : Oper} {f : FuncId} {args : Array Value} {listed : Array Bool} {a : Act} (hi : opAt ops.toList i = some o) (hrd : Region.ready .any ops listed = [i])
    (hw : Region.wanted o (yielded ops a.tmps) = true) (hr : ∀ w, S w → (execOp a.eval o).run P w = .ok (.enter f args) w)
    (hc : ∀ w, S w → Calls P f args w fun e w' => ∃ v, e = .returned v ∧ ∃ S' : World → Prop, S' w' ∧ (∀ w, S' w → S w) ∧ Held P ops Q S' n (listed.setIfInBounds i true) (a.put o.dst v)) : Held P ops Q S (n + 1) listed a := by
  rw [opAt_eq, Array.getElem?_toList] at hi
  intro w hS
  refine wpAnyH_all hrd (by simp) fun j hj => ?_
  simp only [List.mem_singleton] at hj
  subst hj
  unfold wpOp
  simp only [hi]
  rw [if_pos hw]
  refine .inl ?_
  unfold Oper.wp
  rw [hr w hS]
  refine Calls.mono (hc w hS) ?_
  rintro e w' ⟨v, rfl, S', h1, h2, h3⟩
  exact ⟨h2 w' h1, wpAnyH_mono h2 _ _ _ _ (h3 w' h1)⟩
theorem Held.done {n : Nat} {listed : Array Bool} {a : Act} (hrd : Region.ready .any ops listed = []) (h : ∀ w, S w → Q .normal a w) : Held P ops Q S n listed a := fun w hS => wpAnyH_done hrd (h w hS) n
end

/-- A later world: nothing that was there has turned. -/
def Ext (w w' : World) : Prop := Below w.heap.size w w'
theorem Ext.refl (w : World) : Ext w w := Below.refl _ _
theorem Ext.bel {w w' : World} (h : Ext w w') : Below w.heap.size w w' := h
theorem Ext.on {a b c : World} (h : Ext a b) (k : Ext b c) : Ext a c := Below.trans h (Below.mono k (Below.size h))
end Go.Proofs.Ytapdhmaeglafjaa
/- A region that draws its order and makes memory of its own beside calls: whichever comes up first. No program in sight. -/
namespace Go.Proofs.Ytapdhmaeglafjaa
open Go Go.RowKit

section
variable {P : Program} {ops : Array Oper} {Q : Exit → Act → World → Prop} {S : World → Prop}

def HeldOp (P : Program) (ops : Array Oper) (Q : Exit → Act → World → Prop) (S : World → Prop) (n : Nat) (listed : Array Bool) (a : Act) (i : Nat) : Prop :=
  ∀ w, S w → wpOp P ops Q i (fun a' w' => S w' ∧ wpAnyH P .any ops Q S n (listed.setIfInBounds i true) a' w') a w
theorem Held.one {i n : Nat} {listed : Array Bool} {a : Act} (hrd : Region.ready .any ops listed = [i]) (h : HeldOp P ops Q S n listed a i) : Held P ops Q S (n + 1) listed a := by
  intro w hS
  refine wpAnyH_all hrd (by simp) fun j hj => ?_
  simp only [List.mem_singleton] at hj
  subst hj
  exact h w hS
theorem Held.two {i j n : Nat} {listed : Array Bool} {a : Act} (hrd : Region.ready .any ops listed = [i, j]) (h1 : HeldOp P ops Q S n listed a i) (h2 : HeldOp P ops Q S n listed a j) : Held P ops Q S (n + 1) listed a := by
  intro w hS
  refine wpAnyH_all hrd (by simp) fun k hk => ?_
  simp only [List.mem_cons, List.not_mem_nil, or_false] at hk
  rcases hk with rfl | rfl
  · exact h1 w hS
  · exact h2 w hS
theorem Held.three {i j k n : Nat} {listed : Array Bool} {a : Act} (hrd : Region.ready .any ops listed = [i, j, k]) (h1 : HeldOp P ops Q S n listed a i) (h2 : HeldOp P ops Q S n listed a j) (h3 : HeldOp P ops Q S n listed a k) : Held P ops Q S (n + 1) listed a := by
  intro w hS
  refine wpAnyH_all hrd (by simp) fun m hm => ?_
  simp only [List.mem_cons, List.not_mem_nil, or_false] at hm
  rcases hm with rfl | rfl | rfl
  · exact h1 w hS
  · exact h2 w hS
  · exact h3 w hS
theorem HeldOp.call {i n : Nat} {o : Oper} {f : FuncId} {args : Array Value} {listed : Array Bool} {a : Act} (hi : opAt ops.toList i = some o)
    (hw : Region.wanted o (yielded ops a.tmps) = true) (hr : ∀ w, S w → (execOp a.eval o).run P w = .ok (.enter f args) w)
    (hc : ∀ w, S w → Calls P f args w fun e w' => ∃ v, e = .returned v ∧ ∃ S' : World → Prop, S' w' ∧ (∀ w, S' w → S w) ∧ Held P ops Q S' n (listed.setIfInBounds i true) (a.put o.dst v)) : HeldOp P ops Q S n listed a i := by
  rw [opAt_eq, Array.getElem?_toList] at hi
  intro w hS
  unfold wpOp
  simp only [hi]
  rw [if_pos hw]
  refine .inl ?_
  unfold Oper.wp
  rw [hr w hS]
  refine Calls.mono (hc w hS) ?_
  rintro e w' ⟨v, rfl, S', h1, h2, h3⟩
  exact ⟨h2 w' h1, wpAnyH_mono h2 _ _ _ _ (h3 w' h1)⟩
/-- What an operation comes to: a value, or nothing; the world behind it. -/
def Comes (P : Program) (o : Oper) (a : Act) (w : World) (v : Value) (w' : World) : Prop := (execOp a.eval o).run P w = .ok (.value v) w' ∨ ((execOp a.eval o).run P w = .ok .skip w' ∧ v = undef)
theorem HeldOp.step {i n : Nat} {o : Oper} {listed : Array Bool} {a : Act} (hi : opAt ops.toList i = some o) (hw : Region.wanted o (yielded ops a.tmps) = true)
    (hc : ∀ w, S w → ∃ v w', Comes P o a w v w' ∧ ∃ S' : World → Prop, S' w' ∧ (∀ w, S' w → S w) ∧ Held P ops Q S' n (listed.setIfInBounds i true) (a.put o.dst v)) : HeldOp P ops Q S n listed a i := by
  rw [opAt_eq, Array.getElem?_toList] at hi
  intro w hS
  unfold wpOp
  simp only [hi]
  rw [if_pos hw]
  refine .inl ?_
  unfold Oper.wp
  obtain ⟨v, w', hr, S', h1, h2, h3⟩ := hc w hS
  rcases hr with hr | ⟨hr, rfl⟩
  · rw [hr]
    exact ⟨h2 w' h1, wpAnyH_mono h2 _ _ _ _ (h3 w' h1)⟩
  · rw [hr]
    exact ⟨h2 w' h1, wpAnyH_mono h2 _ _ _ _ (h3 w' h1)⟩
end
end Go.Proofs.Ytapdhmaeglafjaa
/- An append of numbers in a region that draws its order. -/
namespace Go.Proofs.Ytapdhmaeglafjaa
open Go.RowKit Go.Shelf

theorem wpIn_calm {F : Fence} {n : Nat} {P : Program} {c : Code} {Q : Exit → Act → World → Prop} {a : Act} {w : World} (h : c.wpIn F n P (fun e a w => e = Exit.normal ∧ Q Exit.normal a w) a w) : c.wpIn F n P Q a w :=
  wpIn_mono h fun e a w h => by
    obtain ⟨rfl, h2⟩ := h
    exact h2
theorem OwnU.after {w w' : World} {base : Nat} {v : Value} {l : List Nat} (h : OwnU w base v l) (hb : Below w.heap.size w w') : OwnU w' base v l := by
  refine ⟨h.1, ?_⟩
  rcases h.2 with h0 | ⟨g, cap, cur, e, h1, h2, h3⟩
  · exact .inl h0
  · exact .inr ⟨g, cap, cur, e, h1, (hb.block g (Array.getElem?_eq_some_iff.1 h2).1).trans h2, h3⟩

section
variable {ops : Array Oper} {Q : Exit → Act → World → Prop} {S : World → Prop} {i n : Nat} {o : Oper} {listed : Array Bool} {a : Act} {w : World}
/-- At a world that is known, an operation that alone is ready: what it comes to. -/
theorem AnyH.make (hi : opAt ops.toList i = some o) (hrd : Region.ready .any ops listed = [i]) (hw : Region.wanted o (yielded ops a.tmps) = true) (v : Value) (w' : World) (hr : (execOp a.eval o).run Try.prog w = .ok (.value v) w')
    (hS : S w') (h : wpAnyH Try.prog .any ops Q S n (listed.setIfInBounds i true) (a.put o.dst v) w') : wpAnyH Try.prog .any ops Q S (n + 1) listed a w := by
  rw [opAt_eq, Array.getElem?_toList] at hi
  refine wpAnyH_all hrd (by simp) fun j hj => ?_
  simp only [List.mem_singleton] at hj
  subst hj
  unfold wpOp
  simp only [hi]
  rw [if_pos hw]
  refine .inl ?_
  unfold Oper.wp
  rw [hr]
  exact ⟨hS, h⟩
theorem AnyH.take {v : Value} (hi : opAt ops.toList i = some o) (hok : takeOK ops listed i = true) (hQ : ∀ c a w, Q (.panic c) (a.put o.dst v) w → Q (.panic c) a w)
    (hw : Region.wanted o (yielded ops a.tmps) = true) (hr : ∀ w, S w → (execOp a.eval o).run Try.prog w = .ok (.value v) w) (hS : S w) (h : wpAnyH Try.prog .any ops Q S n (listed.setIfInBounds i true) (a.put o.dst v) w) : wpAnyH Try.prog .any ops Q S (n + 1) listed a w := by
  unfold takeOK at hok
  simp only [Bool.and_eq_true] at hok
  rw [opAt_eq, Array.getElem?_toList] at hi
  exact wpAnyH_take hi hok.1.1 hok.1.2 hok.2 hQ (Or.inl ⟨hw, hr⟩) hS h
theorem AnyH.start {id : Nat} (m : Nat) (S : World → Prop) (hm : Try.prog.follows .mixedOrders = true) (hn : ops.size = m) (h : wpAnyH Try.prog .any ops Q S m (Array.replicate m false) a w.drew) : (Code.region id ops true).wp Try.prog Q a w := by
  subst hn
  exact wp_region_held hm h
theorem comes_append {v' vs xs : Value} {w' : World} (s x : Operand) (T : TypeId) (ho : o.op = .call { callee := .builtin .append, args := #[s, x], argTypes := #[T, T] }) (hs : a.eval s = vs) (hx : a.eval x = xs) (hrun : (Builtin.append_ #[T, T] o.type #[vs, xs]).run Try.prog w = .ok v' w') : Comes Try.prog o a w v' w' := by
  refine .inl ?_
  unfold execOp
  simp only [ho, resolve, invoke, builtin, Sem.run_bind, Sem.run_pure, Result.andThen_ok, List.map_toArray, List.map_cons, List.map_nil, hs, hx, hrun]
theorem comes_update {mv kv vv : Value} {w' : World} (t : TypeId) (m k v : Operand) (hop : o.op = Op.mapUpdate t m k v) (hm : a.eval m = mv) (hk : a.eval k = kv) (hv : a.eval v = vv) (hrun : (Instr.mapUpdate t mv kv vv).run Try.prog w = .ok () w') : Comes Try.prog o a w undef w' := by
  refine .inr ⟨?_, rfl⟩
  simp [execOp, hop, hm, hk, hv, hrun, Result.andThen]
theorem comes_lookup {mv kv v : Value} (t : TypeId) (m k : Operand) (hop : o.op = Op.lookup t m k false) (hm : a.eval m = mv) (hk : a.eval k = kv) (hrun : (Instr.lookup t mv kv false).run Try.prog w = .ok v w) : Comes Try.prog o a w v w := by
  refine .inl ?_
  simp [execOp, hop, hm, hk, hrun, Result.andThen]
/-- What an operation comes to at this world, and what is left then. -/
def StepAt (ops : Array Oper) (Q : Exit → Act → World → Prop) (S : World → Prop) (n : Nat) (listed : Array Bool) (a : Act) (w : World) (i : Nat) : Prop :=
  ∃ o v w', opAt ops.toList i = some o ∧ Region.wanted o (yielded ops a.tmps) = true ∧ Comes Try.prog o a w v w' ∧ S w' ∧ wpAnyH Try.prog .any ops Q S n (listed.setIfInBounds i true) (a.put o.dst v) w'
theorem StepAt.wpOp (h : StepAt ops Q S n listed a w i) : wpOp Try.prog ops Q i (fun a' w' => S w' ∧ wpAnyH Try.prog .any ops Q S n (listed.setIfInBounds i true) a' w') a w := by
  obtain ⟨o, v, w', hi, hw, hr, hS, hk⟩ := h
  rw [opAt_eq, Array.getElem?_toList] at hi
  unfold Go.wpOp
  simp only [hi]
  rw [if_pos hw]
  refine .inl ?_
  unfold Oper.wp
  rcases hr with hr | ⟨hr, rfl⟩
  · rw [hr]
    exact ⟨hS, hk⟩
  · rw [hr]
    exact ⟨hS, hk⟩
theorem AnyH.one (hrd : Region.ready .any ops listed = [i]) (h : StepAt ops Q S n listed a w i) : wpAnyH Try.prog .any ops Q S (n + 1) listed a w := by
  refine wpAnyH_all hrd (by simp) fun j hj => ?_
  simp only [List.mem_singleton] at hj
  subst hj
  exact h.wpOp
theorem AnyH.two {j : Nat} (hrd : Region.ready .any ops listed = [i, j]) (h1 : StepAt ops Q S n listed a w i) (h2 : StepAt ops Q S n listed a w j) : wpAnyH Try.prog .any ops Q S (n + 1) listed a w := by
  refine wpAnyH_all hrd (by simp) fun k hk => ?_
  simp only [List.mem_cons, List.not_mem_nil, or_false] at hk
  rcases hk with rfl | rfl
  · exact h1.wpOp
  · exact h2.wpOp
theorem AnyH.append (hi : opAt ops.toList i = some o) (hrd : Region.ready .any ops listed = [i])
    (hw : Region.wanted o (yielded ops a.tmps) = true) (s x : Operand) (ho : o.op = .call { callee := .builtin .append, args := #[s, x], argTypes := #[23, 23] })
    (base : Nat) (v : Value) (l : List Nat) (hs : a.eval s = v) (A : Option Addr) (m c : Nat) (r : List Nat) (hx : a.eval x = .slice A m c) (hn : m = r.length)
    (hown : OwnU w base v l) (hr : Ru w A r) (hbase : base ≤ w.heap.size) (hlen : l.length + r.length ≤ 1000000000) (N : Nat) (hN : l.length + r.length = N) (L : List Nat) (hL : l ++ r = L)
    (h : ∀ A' c' w', OwnU w' base (.slice A' N c') L → w.grownBy w' v.ownBlock → S w' ∧ wpAnyH Try.prog .any ops Q S n (listed.setIfInBounds i true) (a.put o.dst (.slice A' N c')) w') : wpAnyH Try.prog .any ops Q S (n + 1) listed a w := by
  obtain ⟨i', hi', hz0, hz1, hz2⟩ := info_parts u64_info
  subst hn
  obtain ⟨v', w', hrun, h2, h3⟩ := append_run (w := w) base 23 o.type i' Try.underlying23 hi' hz0 hz1 hz2 v l hown A c r hr hlen hbase
  obtain ⟨A', c', rfl, _⟩ := OwnU.shape h2
  have e : (l ++ r).length = l.length + r.length := List.length_append
  have h4 : OwnU w' base (.slice A' N c') L := by rw [← hN, ← e, ← hL]; exact h2
  obtain ⟨g1, g2⟩ := h A' c' w' h4 h3
  refine AnyH.make hi hrd hw (.slice A' N c') w' ?_ g1 g2
  unfold execOp
  simp only [ho, resolve, invoke, builtin, Sem.run_bind, Sem.run_pure, Result.andThen_ok, List.map_toArray, List.map_cons, List.map_nil, hs, hx, hrun]
  rw [e, hN]
end
end Go.Proofs.Ytapdhmaeglafjaa
