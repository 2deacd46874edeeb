/- A region that draws its order and makes memory of its own beside calls: whichever comes up first. No program in sight. -/
import Derived.Test.YtnokhajjcjfbpaaMix
namespace Go.Proofs.Ytnokhajjcjfbpaa
open Go Go.RowKit

section
variable {P : Program} {ops : Array Oper} {Q : Exit → Act → World → Prop} {S : World → Prop}

def HeldOp (P : Program) (ops : Array Oper) (Q : Exit → Act → World → Prop) (S : World → Prop) (n : Nat) (listed : Array Bool) (a : Act) (i : Nat) : Prop :=
  ∀ w, S w → wpOp P ops Q i (fun a' w' => S w' ∧ wpAnyH P .any ops Q S n (listed.setIfInBounds i true) a' w') a w
theorem Held.one {i n : Nat} {listed : Array Bool} {a : Act} (hrd : Region.ready .any ops listed = [i]) (h : HeldOp P ops Q S n listed a i) : Held P ops Q S (n + 1) listed a := by
  intro w hS
  refine wpAnyH_all hrd (by simp) fun j hj => ?_
  simp only [List.mem_singleton] at hj
  subst hj
  exact h w hS
theorem Held.two {i j n : Nat} {listed : Array Bool} {a : Act} (hrd : Region.ready .any ops listed = [i, j]) (h1 : HeldOp P ops Q S n listed a i) (h2 : HeldOp P ops Q S n listed a j) : Held P ops Q S (n + 1) listed a := by
  intro w hS
  refine wpAnyH_all hrd (by simp) fun k hk => ?_
  simp only [List.mem_cons, List.not_mem_nil, or_false] at hk
  rcases hk with rfl | rfl
  · exact h1 w hS
  · exact h2 w hS
theorem Held.three {i j k n : Nat} {listed : Array Bool} {a : Act} (hrd : Region.ready .any ops listed = [i, j, k]) (h1 : HeldOp P ops Q S n listed a i) (h2 : HeldOp P ops Q S n listed a j) (h3 : HeldOp P ops Q S n listed a k) : Held P ops Q S (n + 1) listed a := by
  intro w hS
  refine wpAnyH_all hrd (by simp) fun m hm => ?_
  simp only [List.mem_cons, List.not_mem_nil, or_false] at hm
  rcases hm with rfl | rfl | rfl
  · exact h1 w hS
  · exact h2 w hS
  · exact h3 w hS
theorem HeldOp.call {i n : Nat} {o : Oper} {f : FuncId} {args : Array Value} {listed : Array Bool} {a : Act} (hi : opAt ops.toList i = some o)
    (hw : Region.wanted o (yielded ops a.tmps) = true) (hr : ∀ w, S w → (execOp a.eval o).run P w = .ok (.enter f args) w)
    (hc : ∀ w, S w → Calls P f args w fun e w' => ∃ v, e = .returned v ∧ ∃ S' : World → Prop, S' w' ∧ (∀ w, S' w → S w) ∧ Held P ops Q S' n (listed.setIfInBounds i true) (a.put o.dst v)) : HeldOp P ops Q S n listed a i := by
  rw [opAt_eq, Array.getElem?_toList] at hi
  intro w hS
  unfold wpOp
  simp only [hi]
  rw [if_pos hw]
  refine .inl ?_
  unfold Oper.wp
  rw [hr w hS]
  refine Calls.mono (hc w hS) ?_
  rintro e w' ⟨v, rfl, S', h1, h2, h3⟩
  exact ⟨h2 w' h1, wpAnyH_mono h2 _ _ _ _ (h3 w' h1)⟩
/-- What an operation comes to: a value, or nothing; the world behind it. -/
def Comes (P : Program) (o : Oper) (a : Act) (w : World) (v : Value) (w' : World) : Prop := (execOp a.eval o).run P w = .ok (.value v) w' ∨ ((execOp a.eval o).run P w = .ok .skip w' ∧ v = undef)
theorem HeldOp.step {i n : Nat} {o : Oper} {listed : Array Bool} {a : Act} (hi : opAt ops.toList i = some o) (hw : Region.wanted o (yielded ops a.tmps) = true)
    (hc : ∀ w, S w → ∃ v w', Comes P o a w v w' ∧ ∃ S' : World → Prop, S' w' ∧ (∀ w, S' w → S w) ∧ Held P ops Q S' n (listed.setIfInBounds i true) (a.put o.dst v)) : HeldOp P ops Q S n listed a i := by
  rw [opAt_eq, Array.getElem?_toList] at hi
  intro w hS
  unfold wpOp
  simp only [hi]
  rw [if_pos hw]
  refine .inl ?_
  unfold Oper.wp
  obtain ⟨v, w', hr, S', h1, h2, h3⟩ := hc w hS
  rcases hr with hr | ⟨hr, rfl⟩
  · rw [hr]
    exact ⟨h2 w' h1, wpAnyH_mono h2 _ _ _ _ (h3 w' h1)⟩
  · rw [hr]
    exact ⟨h2 w' h1, wpAnyH_mono h2 _ _ _ _ (h3 w' h1)⟩
end
end Go.Proofs.Ytnokhajjcjfbpaa
