/- A region that draws its order, walked in the order of its text, some of whose operations store: the condition on the world hangs on which operations have come up. No program in sight. -/
import Derived.Test.YthmaijmjhfngpaaSeq
namespace Go.Proofs.Ythmaijmjhfngpaa
open Go

/-- What an operation comes to gives this value, and the condition holds behind it. -/
def GivesT (P : Program) (S : World → Prop) (v : Value) : Result Next → Prop
  | .ok (.value u) w' => u = v ∧ S w'
  | .ok .skip w' => v = undef ∧ S w'
  | .ok (.enter f args) w' => Calls P f args w' fun e w'' => e = .returned v ∧ S w''
  | _ => False

def YieldsT (P : Program) (ops : Array Oper) (T : (Nat → Bool) → World → Prop) (j : Nat) (o : Oper) (v : Value) (a : Act) : Prop :=
  (Region.wanted o (yielded ops a.tmps) = true ∧ ∀ sel w, sel j = false → T sel w → GivesT P (T fun k => k == j || sel k) v ((execOp a.eval o).run P w)) ∨
  (Region.wanted o (yielded ops a.tmps) = false ∧ v = undef ∧ ∀ sel w, sel j = false → T sel w → T (fun k => k == j || sel k) w)

/-- The walk in the order of the text. -/
def SeqT (P : Program) (ops : Array Oper) (T : (Nat → Bool) → World → Prop) (Q : Exit → Act → World → Prop) : Nat → List Oper → Act → Prop
  | m, [], a => ∀ w, T (fun k => decide (k < m)) w → Q .normal a w
  | m, o :: os, a => ∃ v, YieldsT P ops T m o v a ∧ SeqT P ops T Q (m + 1) os (a.put o.dst v)

section
variable {P : Program} {ops : Array Oper} {Q : Exit → Act → World → Prop} {T : (Nat → Bool) → World → Prop}

theorem seqT_vals : ∀ (os : List Oper) (m : Nat) (a0 b : Act) (val : Nat → Value), (∀ k, os[k]? = ops[m + k]?) → b = putsOf ops val a0 (fun _ => true) m → SeqT P ops T Q m os b →
    ∃ val' : Nat → Value, (∀ k, k < m → val' k = val k) ∧ (∀ k o, os[k]? = some o → YieldsT P ops T (m + k) o (val' (m + k)) (putsOf ops val' a0 (fun _ => true) (m + k))) ∧
      ∀ w, T (fun k => decide (k < m + os.length)) w → Q .normal (putsOf ops val' a0 (fun _ => true) (m + os.length)) w
  | [], m, a0, b, val, _, hb, h => ⟨val, fun _ _ => rfl, fun k o ho => by simp at ho, by subst hb; exact h⟩
  | o :: os, m, a0, b, val, hos, hb, h => by
    obtain ⟨v, hy, hr⟩ := h
    have ho : ops[m]? = some o := by have := hos 0; simpa using this.symm
    have same : putsOf ops (fun k => if k = m then v else val k) a0 (fun _ => true) m = b := by
      rw [hb]
      have gen : ∀ n, n ≤ m → putsOf ops (fun k => if k = m then v else val k) a0 (fun _ => true) n = putsOf ops val a0 (fun _ => true) n := by
        intro n
        induction n with
        | zero => intro _; rfl
        | succ n ih =>
          intro hn
          unfold putsOf
          rw [ih (by omega), if_neg (show ¬ n = m by omega)]
      exact gen m (Nat.le_refl _)
    obtain ⟨val', h1, h2, h3⟩ := seqT_vals os (m + 1) a0 (b.put o.dst v) (fun k => if k = m then v else val k)
      (fun k => by have := hos (k + 1); rw [show m + 1 + k = m + (k + 1) from by omega]; simpa using this)
      (by
        show _ = (if (fun _ => true) m then (putsOf ops (fun k => if k = m then v else val k) a0 (fun _ => true) m).put ((ops[m]?).bind (·.dst)) (if m = m then v else val m) else _)
        rw [same, ho]
        simp) hr
    refine ⟨val', fun k hk => by rw [h1 k (by omega), if_neg (by omega)], fun k o' ho' => ?_, ?_⟩
    · match k with
      | 0 =>
        simp at ho'
        subst ho'
        have e1 : val' (m + 0) = v := by rw [Nat.add_zero, h1 m (by omega), if_pos rfl]
        have e2 : putsOf ops val' a0 (fun _ => true) (m + 0) = b := by
          rw [← same, Nat.add_zero]
          have gen : ∀ n, n ≤ m → putsOf ops val' a0 (fun _ => true) n = putsOf ops (fun k => if k = m then v else val k) a0 (fun _ => true) n := by
            intro n
            induction n with
            | zero => intro _; rfl
            | succ n ih =>
              intro hn
              unfold putsOf
              rw [ih (by omega), h1 n (by omega)]
          exact gen m (Nat.le_refl _)
        rw [e1, e2]
        exact hy
      | k + 1 =>
        have := h2 k o' (by simpa using ho')
        rwa [show m + 1 + k = m + (k + 1) from by omega] at this
    · rwa [show m + 1 + os.length = m + (o :: os).length from by simp; omega] at h3

theorem yieldsT_of_same {j : Nat} {o : Oper} {v : Value} {a a' : Act} (hs : ∀ cs b, o.op ≠ .select cs b) (h : ∀ t ∈ o.looksAt ops, a'.tmps[t]? = a.tmps[t]?) (hy : YieldsT P ops T j o v a) : YieldsT P ops T j o v a' := by
  have he : execOp a'.eval o = execOp a.eval o := execOp_congr o hs fun x hx => by
    cases x with
    | tmp t =>
      have ht : t ∈ o.looksAt ops := List.mem_append_left _ (List.mem_filterMap.2 ⟨.tmp t, by simpa using hx, rfl⟩)
      simp only [Act.eval, Array.getD_eq_getD_getElem?, h t ht]
    | _ => rfl
  have hw : Region.wanted o (yielded ops a'.tmps) = Region.wanted o (yielded ops a.tmps) := by
    unfold Region.wanted
    cases hg : o.guard with
    | none => rfl
    | some gw =>
      obtain ⟨g, want⟩ := gw
      have hyd : yielded ops a'.tmps g = yielded ops a.tmps g := by
        unfold yielded
        cases ht : (ops[g]?).bind (·.dst) with
        | none => rfl
        | some t =>
          have hl : t ∈ o.looksAt ops := List.mem_append_right _ (by simp [hg, ht])
          simp only [Option.bind_some, h t hl]
      simp only [hyd]
  unfold YieldsT at *
  rw [he, hw]
  exact hy

theorem seqT_any (hok : seqOK ops = true) (val : Nat → Value) (a0 : Act) (hy : ∀ k o, ops[k]? = some o → YieldsT P ops T k o (val k) (putsOf ops val a0 (fun _ => true) k))
    (hQ : ∀ w, T (fun k => decide (k < ops.size)) w → Q .normal (putsOf ops val a0 (fun _ => true) ops.size) w) :
    ∀ (fuel : Nat) (left : List Nat) (listed : Array Bool) (w : World), listed.size = ops.size → left.length ≤ fuel → (∀ k, k < ops.size → listed.getD k false = false → k ∈ left) → T (fun k => listed.getD k false) w →
      wpAny P .any ops Q fuel listed (putsOf ops val a0 (fun k => listed.getD k false) ops.size) w := by
  obtain ⟨hsel, hup, hap, hrd⟩ := seqOK_spec hok
  have done : ∀ (listed : Array Bool) (w : World), listed.size = ops.size → (∀ k, k < ops.size → listed.getD k false = true) → T (fun k => listed.getD k false) w → Q .normal (putsOf ops val a0 (fun k => listed.getD k false) ops.size) w := by
    intro listed w hsz hall hS
    rw [putsOf_same val a0 _ (fun _ => true) ops.size fun k hk => hall k hk]
    refine hQ w ?_
    have e : (fun k => listed.getD k false) = fun k => decide (k < ops.size) := by
      funext k
      by_cases hk : k < ops.size
      · rw [hall k hk, decide_eq_true hk]
      · rw [decide_eq_false hk, Array.getD_eq_getD_getElem?, Array.getElem?_eq_none (by omega)]; rfl
    rwa [e] at hS
  have least : ∀ (listed : Array Bool), listed.size = ops.size → Region.ready .any ops listed = [] → ∀ k, k < ops.size → listed.getD k false = true := by
    intro listed hsz hr k
    induction k using Nat.strongRecOn with
    | ind k ih =>
      intro hk
      cases hl : listed.getD k false
      · exfalso
        have : k ∈ Region.ready .any ops listed := mem_ready.2 ⟨by
          rw [Array.getD_eq_getD_getElem?, Array.getElem?_eq_getElem (by omega)] at hl ⊢
          exact hl, ops[k], Array.getElem?_eq_getElem hk, fun e he hb => by
            have h1 := hup k ops[k] (Array.getElem?_eq_getElem hk) e he hb
            exact ih e.on h1 (by omega)⟩
        rw [hr] at this
        cases this
      · rfl
  intro fuel
  induction fuel with
  | zero =>
    intro left listed w hsz hlen hin hS
    have hnil : left = [] := List.eq_nil_of_length_eq_zero (by omega)
    have hall : ∀ k, k < ops.size → listed.getD k false = true := fun k hk => by
      cases hl : listed.getD k false
      · have := hin k hk hl
        rw [hnil] at this
        cases this
      · rfl
    refine ⟨?_, done listed w hsz hall hS⟩
    apply List.eq_nil_iff_forall_not_mem.2
    intro j hj
    obtain ⟨h0, o, ho, _⟩ := mem_ready.1 hj
    have hjs : j < ops.size := (Array.getElem?_eq_some_iff.1 ho).1
    have h1 := hall j hjs
    rw [Array.getD_eq_getD_getElem?, Array.getElem?_eq_getElem (by omega)] at h0 h1
    simp only [Option.getD_some] at h0 h1
    rw [h0] at h1
    cases h1
  | succ fuel ih =>
    intro left listed w hsz hlen hin hS
    refine ⟨fun hr => done listed w hsz (least listed hsz hr) hS, fun j hj => ?_⟩
    obtain ⟨h0, o, ho, hpre⟩ := mem_ready.1 hj
    have hjs : j < ops.size := (Array.getElem?_eq_some_iff.1 ho).1
    have hl0 : listed.getD j false = false := by
      rw [Array.getD_eq_getD_getElem?, Array.getElem?_eq_getElem (by omega)] at h0 ⊢
      exact h0
    have hyj : YieldsT P ops T j o (val j) (putsOf ops val a0 (fun k => listed.getD k false) ops.size) := by
      refine yieldsT_of_same (Region.noSelect_spec hsel j o · · ho) (fun t ht => ?_) (hy j o ho)
      have e1 : putsOf ops val a0 (fun _ => true) j = putsOf ops val a0 (fun k => decide (k < j)) ops.size := by
        have gen : ∀ n, putsOf ops val a0 (fun k => decide (k < j)) (j + n) = putsOf ops val a0 (fun _ => true) j := by
          intro n
          induction n with
          | zero => exact putsOf_same val a0 _ _ j fun k hk => decide_eq_true hk
          | succ n ihn =>
            show (if decide (j + n < j) then _ else putsOf ops val a0 (fun k => decide (k < j)) (j + n)) = _
            rw [decide_eq_false (by omega)]
            exact ihn
        have := gen (ops.size - j)
        rwa [show j + (ops.size - j) = ops.size from by omega, eq_comm] at this
      rw [e1]
      refine putsOf_read val a0 _ _ t ops.size fun k hk hd => ?_
      obtain ⟨hkj, e, he, hb, rfl⟩ := hrd j o t k ho ht hd
      rw [hpre e he hb, decide_eq_true hkj]
    have esel : (fun k => k == j || listed.getD k false) = fun k => (listed.setIfInBounds j true).getD k false := by
      funext k
      by_cases hkj : k = j
      · subst hkj; simp [show k < listed.size by omega]
      · rw [getD_set_ne false (Ne.symm hkj)]; simp [hkj]
    have next : ∀ w', T (fun k => k == j || listed.getD k false) w' → wpAny P .any ops Q fuel (listed.setIfInBounds j true) ((putsOf ops val a0 (fun k => listed.getD k false) ops.size).put o.dst (val j)) w' := by
      intro w' hS'
      rw [esel] at hS'
      have e2 : (putsOf ops val a0 (fun k => listed.getD k false) ops.size).put o.dst (val j) = putsOf ops val a0 (fun k => (listed.setIfInBounds j true).getD k false) ops.size := by
        have := putsOf_more (ops := ops) val a0 (fun k => listed.getD k false) (fun k => (listed.setIfInBounds j true).getD k false) j (fun k d hk hd => hap k j d hk hd) hl0
          (by simp [show j < listed.size by omega]) (fun k hk => (getD_set_ne false (Ne.symm hk)).symm) ops.size hjs
        rw [ho] at this
        exact this
      rw [e2]
      refine ih (left.erase j) _ w' (by simpa using hsz) ?_ ?_ hS'
      · rw [List.length_erase_of_mem (hin j hjs hl0)]
        omega
      · intro k hk hl
        by_cases hkj : k = j
        · subst hkj
          simp [show k < listed.size by omega] at hl
        · rw [getD_set_ne false (Ne.symm hkj)] at hl
          exact (List.mem_erase_of_ne hkj).2 (hin k hk hl)
    unfold wpOp
    simp only [ho]
    rcases hyj with ⟨hw, hg⟩ | ⟨hw, hv, hg⟩
    · rw [if_pos hw]
      refine .inl ?_
      have hg := hg _ w hl0 hS
      unfold Oper.wp
      generalize (execOp (putsOf ops val a0 (fun k => listed.getD k false) ops.size).eval o).run P w = r at hg
      cases r with
      | ok n w' =>
        cases n with
        | value u => obtain ⟨rfl, hS'⟩ := hg; exact next w' hS'
        | skip => obtain ⟨hv, hS'⟩ := hg; simp only [Oper.upon]; rw [← hv]; exact next w' hS'
        | enter f args => exact Calls.mono hg fun e w'' ⟨he, hS'⟩ => by subst he; exact next w'' hS'
        | _ => exact hg.elim
      | halt x w' => exact hg.elim
    · rw [if_neg (by rw [hw]; simp)]
      rw [← hv]
      exact next w (hg _ w hl0 hS)

/-- **THE REGION.** -/
theorem wp_region_seqT (T : (Nat → Bool) → World → Prop) (hm : P.follows .mixedOrders = true) (hok : seqOK ops = true) {id : Nat} {a : Act} {w : World} (hS : T (fun _ => false) w.drew) (h : SeqT P ops T Q 0 ops.toList a) : (Code.region id ops true).wp P Q a w := by
  obtain ⟨val, _, hy, hQ⟩ := seqT_vals ops.toList 0 a a (fun _ => undef) (fun k => by simp) rfl h
  refine wp_region_any hm ?_
  have hf : ∀ n, (Array.replicate ops.size false).getD n false = false := fun n => by
    rw [Array.getD_eq_getD_getElem?, Array.getElem?_replicate]
    split <;> rfl
  have e : a = putsOf ops val a (fun k => (Array.replicate ops.size false).getD k false) ops.size := by
    have gen : ∀ n, putsOf ops val a (fun k => (Array.replicate ops.size false).getD k false) n = a := by
      intro n
      induction n with
      | zero => rfl
      | succ n ihn =>
        show (if (Array.replicate ops.size false).getD n false then _ else _) = a
        rw [hf n]
        exact ihn
    exact (gen _).symm
  have := seqT_any hok val a (fun k o ho => by have := hy k o (by simpa using ho); simpa using this) (fun w hw => by have := hQ w (by simpa using hw); simpa using this) ops.size (List.range ops.size) (Array.replicate ops.size false) w.drew
    (by simp) (by simp) (fun k hk _ => List.mem_range.2 hk) (by simp only [hf]; exact hS)
  rw [← e] at this
  exact this

/-- A condition of which only one operation's having come up is asked. -/
def Once (k1 : Nat) (S R0 R1 : World → Prop) (sel : Nat → Bool) (w : World) : Prop := S w ∧ (sel k1 = false → R0 w) ∧ (sel k1 = true → R1 w)

section
variable {k1 : Nat} {S R0 R1 : World → Prop} {m : Nat} {o : Oper} {os : List Oper} {a : Act} {v : Value}
theorem Once.same {w : World} {sel : Nat → Bool} (h : Once k1 S R0 R1 sel w) (hne : m ≠ k1) : Once k1 S R0 R1 (fun k => k == m || sel k) w := by
  have e : (k1 == m || sel k1) = sel k1 := by simp [Ne.symm hne]
  exact ⟨h.1, fun hk => h.2.1 (by rw [← e]; exact hk), fun hk => h.2.2 (by rw [← e]; exact hk)⟩
theorem Once.move {w w' : World} {sel : Nat → Bool} (h : Once k1 S R0 R1 sel w) (hS : S w → S w') (h0 : S w → R0 w → R0 w') (h1 : S w → R1 w → R1 w') : Once k1 S R0 R1 sel w' := ⟨hS h.1, fun hk => h0 h.1 (h.2.1 hk), fun hk => h1 h.1 (h.2.2 hk)⟩

theorem SeqT.take (hne : m ≠ k1) (hw : Region.wanted o (yielded ops a.tmps) = true) (hr : ∀ w, S w → (execOp a.eval o).run P w = .ok (.value v) w) (h : SeqT P ops (Once k1 S R0 R1) Q (m + 1) os (a.put o.dst v)) : SeqT P ops (Once k1 S R0 R1) Q m (o :: os) a :=
  ⟨v, .inl ⟨hw, fun sel w _ hT => by rw [hr w hT.1]; exact ⟨rfl, hT.same hne⟩⟩, h⟩
theorem SeqT.call {f : FuncId} {args : Array Value} (hne : m ≠ k1) (hw : Region.wanted o (yielded ops a.tmps) = true) (hr : ∀ w, S w → (execOp a.eval o).run P w = .ok (.enter f args) w)
    (hc : ∀ w, S w → Calls P f args w fun e w' => e = .returned v ∧ S w' ∧ (R0 w → R0 w') ∧ (R1 w → R1 w')) (h : SeqT P ops (Once k1 S R0 R1) Q (m + 1) os (a.put o.dst v)) : SeqT P ops (Once k1 S R0 R1) Q m (o :: os) a :=
  ⟨v, .inl ⟨hw, fun sel w _ hT => by rw [hr w hT.1]; exact Calls.mono (hc w hT.1) fun e w' ⟨he, h1, h2, h3⟩ => ⟨he, (hT.move (fun _ => h1) (fun _ => h2) (fun _ => h3)).same hne⟩⟩, h⟩
theorem SeqT.skip (hne : m ≠ k1) (hw : Region.wanted o (yielded ops a.tmps) = false) (h : SeqT P ops (Once k1 S R0 R1) Q (m + 1) os (a.put o.dst undef)) : SeqT P ops (Once k1 S R0 R1) Q m (o :: os) a :=
  ⟨undef, .inr ⟨hw, rfl, fun sel w _ hT => hT.same hne⟩, h⟩
theorem SeqT.store {w' : World → World} (hw : Region.wanted o (yielded ops a.tmps) = true) (hr : ∀ w, S w → R0 w → (execOp a.eval o).run P w = .ok .skip (w' w)) (hS : ∀ w, S w → R0 w → S (w' w) ∧ R1 (w' w))
    (h : SeqT P ops (Once m S R0 R1) Q (m + 1) os (a.put o.dst undef)) : SeqT P ops (Once m S R0 R1) Q m (o :: os) a :=
  ⟨undef, .inl ⟨hw, fun sel w hj hT => by
    rw [hr w hT.1 (hT.2.1 hj)]
    obtain ⟨h1, h2⟩ := hS w hT.1 (hT.2.1 hj)
    exact ⟨rfl, h1, fun hk => by simp at hk, fun _ => h2⟩⟩, h⟩
theorem SeqT.done (hk : k1 < m) (h : ∀ w, S w → R1 w → Q .normal a w) : SeqT P ops (Once k1 S R0 R1) Q m [] a := fun w hT => h w hT.1 (hT.2.2 (decide_eq_true hk))
theorem Once.start {w : World} (hS : S w) (h0 : R0 w) : Once k1 S R0 R1 (fun _ => false) w := ⟨hS, fun _ => h0, fun h => by cases h⟩
end
end
end Go.Proofs.Ythmaijmjhfngpaa
