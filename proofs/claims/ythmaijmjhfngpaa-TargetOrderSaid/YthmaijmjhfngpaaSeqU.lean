/- As SeqT, where an operation that comes up knows that whoever it waits for has come up: a read of the very block that a later operation stores to. No program in sight. -/
import Derived.Test.YthmaijmjhfngpaaSeqT
namespace Go.Proofs.Ythmaijmjhfngpaa
open Go

def YieldsU (P : Program) (ops : Array Oper) (T : (Nat → Bool) → World → Prop) (j : Nat) (o : Oper) (v : Value) (a : Act) : Prop :=
  (Region.wanted o (yielded ops a.tmps) = true ∧ ∀ sel w, sel j = false → (∀ e ∈ o.after, Region.binds .any e = true → sel e.on = true) → T sel w → GivesT P (T fun k => k == j || sel k) v ((execOp a.eval o).run P w)) ∨
  (Region.wanted o (yielded ops a.tmps) = false ∧ v = undef ∧ ∀ sel w, sel j = false → (∀ e ∈ o.after, Region.binds .any e = true → sel e.on = true) → T sel w → T (fun k => k == j || sel k) w)

/-- The walk in the order of the text. -/
def SeqU (P : Program) (ops : Array Oper) (T : (Nat → Bool) → World → Prop) (Q : Exit → Act → World → Prop) : Nat → List Oper → Act → Prop
  | m, [], a => ∀ w, T (fun k => decide (k < m)) w → Q .normal a w
  | m, o :: os, a => ∃ v, YieldsU P ops T m o v a ∧ SeqU P ops T Q (m + 1) os (a.put o.dst v)

section
variable {P : Program} {ops : Array Oper} {Q : Exit → Act → World → Prop} {T : (Nat → Bool) → World → Prop}

theorem seqU_vals : ∀ (os : List Oper) (m : Nat) (a0 b : Act) (val : Nat → Value), (∀ k, os[k]? = ops[m + k]?) → b = putsOf ops val a0 (fun _ => true) m → SeqU P ops T Q m os b →
    ∃ val' : Nat → Value, (∀ k, k < m → val' k = val k) ∧ (∀ k o, os[k]? = some o → YieldsU P ops T (m + k) o (val' (m + k)) (putsOf ops val' a0 (fun _ => true) (m + k))) ∧
      ∀ w, T (fun k => decide (k < m + os.length)) w → Q .normal (putsOf ops val' a0 (fun _ => true) (m + os.length)) w
  | [], m, a0, b, val, _, hb, h => ⟨val, fun _ _ => rfl, fun k o ho => by simp at ho, by subst hb; exact h⟩
  | o :: os, m, a0, b, val, hos, hb, h => by
    obtain ⟨v, hy, hr⟩ := h
    have ho : ops[m]? = some o := by have := hos 0; simpa using this.symm
    have same : putsOf ops (fun k => if k = m then v else val k) a0 (fun _ => true) m = b := by
      rw [hb]
      have gen : ∀ n, n ≤ m → putsOf ops (fun k => if k = m then v else val k) a0 (fun _ => true) n = putsOf ops val a0 (fun _ => true) n := by
        intro n
        induction n with
        | zero => intro _; rfl
        | succ n ih =>
          intro hn
          unfold putsOf
          rw [ih (by omega), if_neg (show ¬ n = m by omega)]
      exact gen m (Nat.le_refl _)
    obtain ⟨val', h1, h2, h3⟩ := seqU_vals os (m + 1) a0 (b.put o.dst v) (fun k => if k = m then v else val k)
      (fun k => by have := hos (k + 1); rw [show m + 1 + k = m + (k + 1) from by omega]; simpa using this)
      (by
        show _ = (if (fun _ => true) m then (putsOf ops (fun k => if k = m then v else val k) a0 (fun _ => true) m).put ((ops[m]?).bind (·.dst)) (if m = m then v else val m) else _)
        rw [same, ho]
        simp) hr
    refine ⟨val', fun k hk => by rw [h1 k (by omega), if_neg (by omega)], fun k o' ho' => ?_, ?_⟩
    · match k with
      | 0 =>
        simp at ho'
        subst ho'
        have e1 : val' (m + 0) = v := by rw [Nat.add_zero, h1 m (by omega), if_pos rfl]
        have e2 : putsOf ops val' a0 (fun _ => true) (m + 0) = b := by
          rw [← same, Nat.add_zero]
          have gen : ∀ n, n ≤ m → putsOf ops val' a0 (fun _ => true) n = putsOf ops (fun k => if k = m then v else val k) a0 (fun _ => true) n := by
            intro n
            induction n with
            | zero => intro _; rfl
            | succ n ih =>
              intro hn
              unfold putsOf
              rw [ih (by omega), h1 n (by omega)]
          exact gen m (Nat.le_refl _)
        rw [e1, e2]
        exact hy
      | k + 1 =>
        have := h2 k o' (by simpa using ho')
        rwa [show m + 1 + k = m + (k + 1) from by omega] at this
    · rwa [show m + 1 + os.length = m + (o :: os).length from by simp; omega] at h3

theorem yieldsU_of_same {j : Nat} {o : Oper} {v : Value} {a a' : Act} (hs : ∀ cs b, o.op ≠ .select cs b) (h : ∀ t ∈ o.looksAt ops, a'.tmps[t]? = a.tmps[t]?) (hy : YieldsU P ops T j o v a) : YieldsU P ops T j o v a' := by
  have he : execOp a'.eval o = execOp a.eval o := execOp_congr o hs fun x hx => by
    cases x with
    | tmp t =>
      have ht : t ∈ o.looksAt ops := List.mem_append_left _ (List.mem_filterMap.2 ⟨.tmp t, by simpa using hx, rfl⟩)
      simp only [Act.eval, Array.getD_eq_getD_getElem?, h t ht]
    | _ => rfl
  have hw : Region.wanted o (yielded ops a'.tmps) = Region.wanted o (yielded ops a.tmps) := by
    unfold Region.wanted
    cases hg : o.guard with
    | none => rfl
    | some gw =>
      obtain ⟨g, want⟩ := gw
      have hyd : yielded ops a'.tmps g = yielded ops a.tmps g := by
        unfold yielded
        cases ht : (ops[g]?).bind (·.dst) with
        | none => rfl
        | some t =>
          have hl : t ∈ o.looksAt ops := List.mem_append_right _ (by simp [hg, ht])
          simp only [Option.bind_some, h t hl]
      simp only [hyd]
  unfold YieldsU at *
  rw [he, hw]
  exact hy

theorem seqU_any (hok : seqOK ops = true) (val : Nat → Value) (a0 : Act) (hy : ∀ k o, ops[k]? = some o → YieldsU P ops T k o (val k) (putsOf ops val a0 (fun _ => true) k))
    (hQ : ∀ w, T (fun k => decide (k < ops.size)) w → Q .normal (putsOf ops val a0 (fun _ => true) ops.size) w) :
    ∀ (fuel : Nat) (left : List Nat) (listed : Array Bool) (w : World), listed.size = ops.size → left.length ≤ fuel → (∀ k, k < ops.size → listed.getD k false = false → k ∈ left) → T (fun k => listed.getD k false) w →
      wpAny P .any ops Q fuel listed (putsOf ops val a0 (fun k => listed.getD k false) ops.size) w := by
  obtain ⟨hsel, hup, hap, hrd⟩ := seqOK_spec hok
  have done : ∀ (listed : Array Bool) (w : World), listed.size = ops.size → (∀ k, k < ops.size → listed.getD k false = true) → T (fun k => listed.getD k false) w → Q .normal (putsOf ops val a0 (fun k => listed.getD k false) ops.size) w := by
    intro listed w hsz hall hS
    rw [putsOf_same val a0 _ (fun _ => true) ops.size fun k hk => hall k hk]
    refine hQ w ?_
    have e : (fun k => listed.getD k false) = fun k => decide (k < ops.size) := by
      funext k
      by_cases hk : k < ops.size
      · rw [hall k hk, decide_eq_true hk]
      · rw [decide_eq_false hk, Array.getD_eq_getD_getElem?, Array.getElem?_eq_none (by omega)]; rfl
    rwa [e] at hS
  have least : ∀ (listed : Array Bool), listed.size = ops.size → Region.ready .any ops listed = [] → ∀ k, k < ops.size → listed.getD k false = true := by
    intro listed hsz hr k
    induction k using Nat.strongRecOn with
    | ind k ih =>
      intro hk
      cases hl : listed.getD k false
      · exfalso
        have : k ∈ Region.ready .any ops listed := mem_ready.2 ⟨by
          rw [Array.getD_eq_getD_getElem?, Array.getElem?_eq_getElem (by omega)] at hl ⊢
          exact hl, ops[k], Array.getElem?_eq_getElem hk, fun e he hb => by
            have h1 := hup k ops[k] (Array.getElem?_eq_getElem hk) e he hb
            exact ih e.on h1 (by omega)⟩
        rw [hr] at this
        cases this
      · rfl
  intro fuel
  induction fuel with
  | zero =>
    intro left listed w hsz hlen hin hS
    have hnil : left = [] := List.eq_nil_of_length_eq_zero (by omega)
    have hall : ∀ k, k < ops.size → listed.getD k false = true := fun k hk => by
      cases hl : listed.getD k false
      · have := hin k hk hl
        rw [hnil] at this
        cases this
      · rfl
    refine ⟨?_, done listed w hsz hall hS⟩
    apply List.eq_nil_iff_forall_not_mem.2
    intro j hj
    obtain ⟨h0, o, ho, _⟩ := mem_ready.1 hj
    have hjs : j < ops.size := (Array.getElem?_eq_some_iff.1 ho).1
    have h1 := hall j hjs
    rw [Array.getD_eq_getD_getElem?, Array.getElem?_eq_getElem (by omega)] at h0 h1
    simp only [Option.getD_some] at h0 h1
    rw [h0] at h1
    cases h1
  | succ fuel ih =>
    intro left listed w hsz hlen hin hS
    refine ⟨fun hr => done listed w hsz (least listed hsz hr) hS, fun j hj => ?_⟩
    obtain ⟨h0, o, ho, hpre⟩ := mem_ready.1 hj
    have hjs : j < ops.size := (Array.getElem?_eq_some_iff.1 ho).1
    have hl0 : listed.getD j false = false := by
      rw [Array.getD_eq_getD_getElem?, Array.getElem?_eq_getElem (by omega)] at h0 ⊢
      exact h0
    have hyj : YieldsU P ops T j o (val j) (putsOf ops val a0 (fun k => listed.getD k false) ops.size) := by
      refine yieldsU_of_same (Region.noSelect_spec hsel j o · · ho) (fun t ht => ?_) (hy j o ho)
      have e1 : putsOf ops val a0 (fun _ => true) j = putsOf ops val a0 (fun k => decide (k < j)) ops.size := by
        have gen : ∀ n, putsOf ops val a0 (fun k => decide (k < j)) (j + n) = putsOf ops val a0 (fun _ => true) j := by
          intro n
          induction n with
          | zero => exact putsOf_same val a0 _ _ j fun k hk => decide_eq_true hk
          | succ n ihn =>
            show (if decide (j + n < j) then _ else putsOf ops val a0 (fun k => decide (k < j)) (j + n)) = _
            rw [decide_eq_false (by omega)]
            exact ihn
        have := gen (ops.size - j)
        rwa [show j + (ops.size - j) = ops.size from by omega, eq_comm] at this
      rw [e1]
      refine putsOf_read val a0 _ _ t ops.size fun k hk hd => ?_
      obtain ⟨hkj, e, he, hb, rfl⟩ := hrd j o t k ho ht hd
      rw [hpre e he hb, decide_eq_true hkj]
    have esel : (fun k => k == j || listed.getD k false) = fun k => (listed.setIfInBounds j true).getD k false := by
      funext k
      by_cases hkj : k = j
      · subst hkj; simp [show k < listed.size by omega]
      · rw [getD_set_ne false (Ne.symm hkj)]; simp [hkj]
    have next : ∀ w', T (fun k => k == j || listed.getD k false) w' → wpAny P .any ops Q fuel (listed.setIfInBounds j true) ((putsOf ops val a0 (fun k => listed.getD k false) ops.size).put o.dst (val j)) w' := by
      intro w' hS'
      rw [esel] at hS'
      have e2 : (putsOf ops val a0 (fun k => listed.getD k false) ops.size).put o.dst (val j) = putsOf ops val a0 (fun k => (listed.setIfInBounds j true).getD k false) ops.size := by
        have := putsOf_more (ops := ops) val a0 (fun k => listed.getD k false) (fun k => (listed.setIfInBounds j true).getD k false) j (fun k d hk hd => hap k j d hk hd) hl0
          (by simp [show j < listed.size by omega]) (fun k hk => (getD_set_ne false (Ne.symm hk)).symm) ops.size hjs
        rw [ho] at this
        exact this
      rw [e2]
      refine ih (left.erase j) _ w' (by simpa using hsz) ?_ ?_ hS'
      · rw [List.length_erase_of_mem (hin j hjs hl0)]
        omega
      · intro k hk hl
        by_cases hkj : k = j
        · subst hkj
          simp [show k < listed.size by omega] at hl
        · rw [getD_set_ne false (Ne.symm hkj)] at hl
          exact (List.mem_erase_of_ne hkj).2 (hin k hk hl)
    unfold wpOp
    simp only [ho]
    rcases hyj with ⟨hw, hg⟩ | ⟨hw, hv, hg⟩
    · rw [if_pos hw]
      refine .inl ?_
      have hg := hg _ w hl0 (fun e he hb => hpre e he hb) hS
      unfold Oper.wp
      generalize (execOp (putsOf ops val a0 (fun k => listed.getD k false) ops.size).eval o).run P w = r at hg
      cases r with
      | ok n w' =>
        cases n with
        | value u => obtain ⟨rfl, hS'⟩ := hg; exact next w' hS'
        | skip => obtain ⟨hv, hS'⟩ := hg; simp only [Oper.upon]; rw [← hv]; exact next w' hS'
        | enter f args => exact Calls.mono hg fun e w'' ⟨he, hS'⟩ => by subst he; exact next w'' hS'
        | _ => exact hg.elim
      | halt x w' => exact hg.elim
    · rw [if_neg (by rw [hw]; simp)]
      rw [← hv]
      exact next w (hg _ w hl0 (fun e he hb => hpre e he hb) hS)

/-- **THE REGION.** -/
theorem wp_region_seqU (T : (Nat → Bool) → World → Prop) (hm : P.follows .mixedOrders = true) (hok : seqOK ops = true) {id : Nat} {a : Act} {w : World} (hS : T (fun _ => false) w.drew) (h : SeqU P ops T Q 0 ops.toList a) : (Code.region id ops true).wp P Q a w := by
  obtain ⟨val, _, hy, hQ⟩ := seqU_vals ops.toList 0 a a (fun _ => undef) (fun k => by simp) rfl h
  refine wp_region_any hm ?_
  have hf : ∀ n, (Array.replicate ops.size false).getD n false = false := fun n => by
    rw [Array.getD_eq_getD_getElem?, Array.getElem?_replicate]
    split <;> rfl
  have e : a = putsOf ops val a (fun k => (Array.replicate ops.size false).getD k false) ops.size := by
    have gen : ∀ n, putsOf ops val a (fun k => (Array.replicate ops.size false).getD k false) n = a := by
      intro n
      induction n with
      | zero => rfl
      | succ n ihn =>
        show (if (Array.replicate ops.size false).getD n false then _ else _) = a
        rw [hf n]
        exact ihn
    exact (gen _).symm
  have := seqU_any hok val a (fun k o ho => by have := hy k o (by simpa using ho); simpa using this) (fun w hw => by have := hQ w (by simpa using hw); simpa using this) ops.size (List.range ops.size) (Array.replicate ops.size false) w.drew
    (by simp) (by simp) (fun k hk _ => List.mem_range.2 hk) (by simp only [hf]; exact hS)
  rw [← e] at this
  exact this


/-- One store (operation k1), one read (operation r) of what it will turn, ahead of it. -/
def OnceR (k1 r : Nat) (S R0 R1 : World → Prop) (sel : Nat → Bool) (w : World) : Prop := Once k1 S R0 R1 sel w ∧ (sel k1 = true → sel r = true)

section
variable {k1 r : Nat} {S R0 R1 : World → Prop} {m : Nat} {o : Oper} {os : List Oper} {a : Act} {v : Value}
theorem OnceR.start {w : World} (hS : S w) (h0 : R0 w) : OnceR k1 r S R0 R1 (fun _ => false) w := ⟨⟨hS, fun _ => h0, fun h => by cases h⟩, fun h => by cases h⟩
theorem OnceR.same {w : World} {sel : Nat → Bool} (h : OnceR k1 r S R0 R1 sel w) (hne : m ≠ k1) : OnceR k1 r S R0 R1 (fun k => k == m || sel k) w := by
  have e : (k1 == m || sel k1) = sel k1 := by simp [Ne.symm hne]
  refine ⟨h.1.same hne, fun hk => ?_⟩
  have : sel r = true := h.2 (by rw [← e]; exact hk)
  simp [this]
theorem SeqU.take (hne : m ≠ k1) (hw : Region.wanted o (yielded ops a.tmps) = true) (hr : ∀ w, S w → (execOp a.eval o).run P w = .ok (.value v) w) (h : SeqU P ops (OnceR k1 r S R0 R1) Q (m + 1) os (a.put o.dst v)) : SeqU P ops (OnceR k1 r S R0 R1) Q m (o :: os) a :=
  ⟨v, .inl ⟨hw, fun sel w _ _ hT => by rw [hr w hT.1.1]; exact ⟨rfl, hT.same hne⟩⟩, h⟩
theorem SeqU.takeR (hne : r ≠ k1) (hw : Region.wanted o (yielded ops a.tmps) = true) (hr : ∀ w, S w → R0 w → (execOp a.eval o).run P w = .ok (.value v) w) (h : SeqU P ops (OnceR k1 r S R0 R1) Q (r + 1) os (a.put o.dst v)) : SeqU P ops (OnceR k1 r S R0 R1) Q r (o :: os) a :=
  ⟨v, .inl ⟨hw, fun sel w hj _ hT => by
    have h1 : sel k1 = false := by
      cases hk : sel k1
      · rfl
      · have := hT.2 hk; rw [hj] at this; cases this
    rw [hr w hT.1.1 (hT.1.2.1 h1)]; exact ⟨rfl, hT.same hne⟩⟩, h⟩
theorem SeqU.call {f : FuncId} {args : Array Value} (hne : m ≠ k1) (hw : Region.wanted o (yielded ops a.tmps) = true) (hr : ∀ w, S w → (execOp a.eval o).run P w = .ok (.enter f args) w)
    (hc : ∀ w, S w → Calls P f args w fun e w' => e = .returned v ∧ S w' ∧ (R0 w → R0 w') ∧ (R1 w → R1 w')) (h : SeqU P ops (OnceR k1 r S R0 R1) Q (m + 1) os (a.put o.dst v)) : SeqU P ops (OnceR k1 r S R0 R1) Q m (o :: os) a :=
  ⟨v, .inl ⟨hw, fun sel w _ _ hT => by rw [hr w hT.1.1]; exact Calls.mono (hc w hT.1.1) fun e w' ⟨he, h1, h2, h3⟩ => ⟨he, OnceR.same ⟨hT.1.move (fun _ => h1) (fun _ => h2) (fun _ => h3), hT.2⟩ hne⟩⟩, h⟩
theorem SeqU.store {w' : World → World} (hdep : (o.after.any fun e => Region.binds .any e && e.on == r) = true) (hw : Region.wanted o (yielded ops a.tmps) = true) (hr : ∀ w, S w → R0 w → (execOp a.eval o).run P w = .ok .skip (w' w)) (hS : ∀ w, S w → R0 w → S (w' w) ∧ R1 (w' w))
    (h : SeqU P ops (OnceR m r S R0 R1) Q (m + 1) os (a.put o.dst undef)) : SeqU P ops (OnceR m r S R0 R1) Q m (o :: os) a :=
  ⟨undef, .inl ⟨hw, fun sel w hj hp hT => by
    rw [hr w hT.1.1 (hT.1.2.1 hj)]
    obtain ⟨h1, h2⟩ := hS w hT.1.1 (hT.1.2.1 hj)
    refine ⟨rfl, ⟨h1, fun hk => by simp at hk, fun _ => h2⟩, fun _ => ?_⟩
    simp only [Array.any_eq_true', Bool.and_eq_true, beq_iff_eq] at hdep
    obtain ⟨e, he, hb, hr'⟩ := hdep
    have := hp e he hb
    rw [hr'] at this
    simp [this]⟩, h⟩
theorem SeqU.done (hk : k1 < m) (h : ∀ w, S w → R1 w → Q .normal a w) : SeqU P ops (OnceR k1 r S R0 R1) Q m [] a := fun w hT => h w hT.1.1 (hT.1.2.2 (decide_eq_true hk))
end
end
end Go.Proofs.Ythmaijmjhfngpaa
