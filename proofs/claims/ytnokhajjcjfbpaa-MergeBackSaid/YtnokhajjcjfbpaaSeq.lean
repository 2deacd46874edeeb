/- A region that draws its order, walked in the order of its text, where each operation gives its value, and keeps a condition on the world, in whatever world that meets the condition: reads, calls that only make memory. No program in sight. -/
import Derived.Orders
import Derived.KernelRfl
import Derived.Below
namespace Go.Proofs.Ytnokhajjcjfbpaa
open Go

/-- What an operation comes to gives this value, and the condition holds behind it. -/
def GivesS (P : Program) (S : World → Prop) (v : Value) : Result Next → Prop
  | .ok (.value u) w' => u = v ∧ S w'
  | .ok (.enter f args) w' => Calls P f args w' fun e w'' => e = .returned v ∧ S w''
  | _ => False

def YieldsS (P : Program) (ops : Array Oper) (S : World → Prop) (o : Oper) (v : Value) (a : Act) : Prop :=
  (Region.wanted o (yielded ops a.tmps) = true ∧ ∀ w, S w → GivesS P S v ((execOp a.eval o).run P w)) ∨ (Region.wanted o (yielded ops a.tmps) = false ∧ v = undef)

/-- The walk in the order of the text. -/
def SeqS (P : Program) (ops : Array Oper) (S : World → Prop) (Q : Exit → Act → World → Prop) : List Oper → Act → Prop
  | [], a => ∀ w, S w → Q .normal a w
  | o :: os, a => ∃ v, YieldsS P ops S o v a ∧ SeqS P ops S Q os (a.put o.dst v)

/-- What is asked of the region: nobody writes another one's temporary; who reads one waits for its writer, who stands ahead; whoever is waited for stands ahead. -/
def seqOK (ops : Array Oper) : Bool :=
  Region.noSelect ops && (List.range ops.size).all fun j => match ops[j]? with
    | none => true
    | some o => (o.after.all fun e => !Region.binds .any e || decide (e.on < j)) &&
      (List.range ops.size).all fun k => match (ops[k]?).bind (·.dst) with
        | none => true
        | some t => (k == j || o.dst != some t) && (!(o.looksAt ops).contains t || (decide (k < j) && o.after.any fun e => Region.binds .any e && e.on == k))

section
variable {P : Program} {ops : Array Oper} {Q : Exit → Act → World → Prop} {S : World → Prop}

/-- The frame in which those operations that sel tells have left their values. -/
def putsOf (ops : Array Oper) (val : Nat → Value) (a : Act) (sel : Nat → Bool) : Nat → Act
  | 0 => a
  | m + 1 => if sel m then (putsOf ops val a sel m).put ((ops[m]?).bind (·.dst)) (val m) else putsOf ops val a sel m

theorem putsOf_size (val : Nat → Value) (a : Act) (sel : Nat → Bool) : ∀ m, (putsOf ops val a sel m).tmps.size = a.tmps.size
  | 0 => rfl
  | m + 1 => by
    have ih := putsOf_size val a sel m
    unfold putsOf
    split
    · cases h : (ops[m]?).bind (·.dst) <;> simpa [Act.put] using ih
    · exact ih

/-- A temporary reads alike, if the same of its writers have come up. -/
theorem putsOf_read (val : Nat → Value) (a : Act) (s1 s2 : Nat → Bool) (t : Nat) : ∀ m, (∀ k, k < m → (ops[k]?).bind (·.dst) = some t → s1 k = s2 k) →
    (putsOf ops val a s1 m).tmps[t]? = (putsOf ops val a s2 m).tmps[t]?
  | 0, _ => rfl
  | m + 1, h => by
    have ih := putsOf_read val a s1 s2 t m fun k hk => h k (by omega)
    have z1 := putsOf_size (ops := ops) val a s1 m
    have z2 := putsOf_size (ops := ops) val a s2 m
    unfold putsOf
    by_cases hd : (ops[m]?).bind (·.dst) = some t
    · rw [h m (by omega) hd, hd]
      split
      · simp [Act.put, Array.getElem?_setIfInBounds, z1, z2]
      · exact ih
    · have far : ∀ b : Act, (b.put ((ops[m]?).bind (·.dst)) (val m)).tmps[t]? = b.tmps[t]? := fun b => by
        cases hx : (ops[m]?).bind (·.dst) with
        | none => rfl
        | some d =>
          rw [hx] at hd
          simp only [Act.put]
          exact Array.getElem?_setIfInBounds_ne (fun e => hd (by rw [e]))
      split <;> split <;> (try simp only [far]) <;> exact ih

theorem putsOf_same (val : Nat → Value) (a : Act) (s1 s2 : Nat → Bool) : ∀ m, (∀ k, k < m → s1 k = s2 k) → putsOf ops val a s1 m = putsOf ops val a s2 m
  | 0, _ => rfl
  | m + 1, h => by
    unfold putsOf
    rw [h m (by omega), putsOf_same val a s1 s2 m fun k hk => h k (by omega)]

/-- One more has come up. -/
theorem putsOf_more (val : Nat → Value) (a : Act) (s1 s2 : Nat → Bool) (j : Nat) (hap : ∀ k d, k ≠ j → (ops[j]?).bind (·.dst) = some d → (ops[k]?).bind (·.dst) ≠ some d)
    (h1 : s1 j = false) (h2 : s2 j = true) (h : ∀ k, k ≠ j → s1 k = s2 k) : ∀ m, j < m → (putsOf ops val a s1 m).put ((ops[j]?).bind (·.dst)) (val j) = putsOf ops val a s2 m
  | 0, hj => by omega
  | m + 1, hj => by
    by_cases hm : m = j
    · subst hm
      unfold putsOf
      rw [h1, h2, putsOf_same val a s1 s2 m fun k hk => h k (by omega)]
      simp
    · have ih := putsOf_more val a s1 s2 j hap h1 h2 h m (by omega)
      unfold putsOf
      rw [h m hm, ← ih]
      split
      · exact (Act.put_comm _ _ _ fun d hd => hap m d hm hd).symm
      · rfl

theorem seqOK_spec (h : seqOK ops = true) :
    Region.noSelect ops = true ∧ (∀ j o, ops[j]? = some o → ∀ e ∈ o.after, Region.binds .any e = true → e.on < j) ∧
    (∀ (k j : Nat) (d : Tmp), k ≠ j → (ops[j]?).bind (·.dst) = some d → (ops[k]?).bind (·.dst) ≠ some d) ∧
    (∀ (j : Nat) (o : Oper) (t : Tmp) (k : Nat), ops[j]? = some o → t ∈ o.looksAt ops → (ops[k]?).bind (·.dst) = some t → k < j ∧ ∃ e ∈ o.after, Region.binds .any e = true ∧ e.on = k) := by
  unfold seqOK at h
  rw [Bool.and_eq_true] at h
  obtain ⟨h0, h⟩ := h
  rw [List.all_eq_true] at h
  have key : ∀ (j : Nat) (o : Oper), ops[j]? = some o → (∀ e ∈ o.after, Region.binds .any e = true → e.on < j) ∧ ∀ (k : Nat) (t : Tmp), (ops[k]?).bind (·.dst) = some t → (k = j ∨ o.dst ≠ some t) ∧ (t ∈ o.looksAt ops → k < j ∧ ∃ e ∈ o.after, Region.binds .any e = true ∧ e.on = k) := by
    intro j o ho
    have hj : j < ops.size := (Array.getElem?_eq_some_iff.1 ho).1
    have h1 := h j (List.mem_range.2 hj)
    rw [ho] at h1
    simp only [Bool.and_eq_true] at h1
    refine ⟨fun e he hb => ?_, fun k t hk => ?_⟩
    · have := Array.all_eq_true_iff_forall_mem.1 h1.1 e he
      simpa [hb] using this
    · have hk2 : k < ops.size := by
        cases hx : ops[k]? with
        | none => rw [hx] at hk; cases hk
        | some x => exact (Array.getElem?_eq_some_iff.1 hx).1
      have h2 := List.all_eq_true.1 h1.2 k (List.mem_range.2 hk2)
      rw [hk] at h2
      simp only [Bool.and_eq_true, Bool.or_eq_true, beq_iff_eq, bne_iff_ne, Bool.not_eq_true', decide_eq_true_eq] at h2
      refine ⟨h2.1, fun ht => ?_⟩
      rcases h2.2 with h3 | ⟨h3, h4⟩
      · have hc : (o.looksAt ops).contains t = true := List.contains_iff_mem.2 ht
        rw [hc] at h3
        cases h3
      · obtain ⟨e, he, hb⟩ := Array.any_eq_true'.1 h4
        simp only [Bool.and_eq_true, beq_iff_eq] at hb
        exact ⟨h3, e, he, hb⟩
  refine ⟨h0, fun j o ho => (key j o ho).1, fun k j d hkj hj hk => ?_, fun j o t k ho ht hk => ((key j o ho).2 k t hk).2 ht⟩
  cases ho : ops[j]? with
  | none => rw [ho] at hj; cases hj
  | some o =>
    rw [ho] at hj
    rcases ((key j o ho).2 k d hk).1 with h3 | h3
    · exact hkj h3
    · exact h3 hj

/-- The values that the walk finds, and where it ends. -/
theorem seq_vals : ∀ (os : List Oper) (m : Nat) (a0 b : Act) (val : Nat → Value), (∀ k, os[k]? = ops[m + k]?) → b = putsOf ops val a0 (fun _ => true) m → SeqS P ops S Q os b →
    ∃ val' : Nat → Value, (∀ k, k < m → val' k = val k) ∧ (∀ k o, os[k]? = some o → YieldsS P ops S o (val' (m + k)) (putsOf ops val' a0 (fun _ => true) (m + k))) ∧
      ∀ w, S w → Q .normal (putsOf ops val' a0 (fun _ => true) (m + os.length)) w
  | [], m, a0, b, val, _, hb, h => ⟨val, fun _ _ => rfl, fun k o ho => by simp at ho, by subst hb; exact h⟩
  | o :: os, m, a0, b, val, hos, hb, h => by
    obtain ⟨v, hy, hr⟩ := h
    have ho : ops[m]? = some o := by have := hos 0; simpa using this.symm
    have same : putsOf ops (fun k => if k = m then v else val k) a0 (fun _ => true) m = b := by
      rw [hb]
      have gen : ∀ n, n ≤ m → putsOf ops (fun k => if k = m then v else val k) a0 (fun _ => true) n = putsOf ops val a0 (fun _ => true) n := by
        intro n
        induction n with
        | zero => intro _; rfl
        | succ n ih =>
          intro hn
          unfold putsOf
          rw [ih (by omega), if_neg (show ¬ n = m by omega)]
      exact gen m (Nat.le_refl _)
    obtain ⟨val', h1, h2, h3⟩ := seq_vals os (m + 1) a0 (b.put o.dst v) (fun k => if k = m then v else val k)
      (fun k => by have := hos (k + 1); rw [show m + 1 + k = m + (k + 1) from by omega]; simpa using this)
      (by
        show _ = (if (fun _ => true) m then (putsOf ops (fun k => if k = m then v else val k) a0 (fun _ => true) m).put ((ops[m]?).bind (·.dst)) (if m = m then v else val m) else _)
        rw [same, ho]
        simp) hr
    refine ⟨val', fun k hk => by rw [h1 k (by omega), if_neg (by omega)], fun k o' ho' => ?_, ?_⟩
    · match k with
      | 0 =>
        simp at ho'
        subst ho'
        have e1 : val' (m + 0) = v := by rw [Nat.add_zero, h1 m (by omega), if_pos rfl]
        have e2 : putsOf ops val' a0 (fun _ => true) (m + 0) = b := by
          rw [← same, Nat.add_zero]
          have gen : ∀ n, n ≤ m → putsOf ops val' a0 (fun _ => true) n = putsOf ops (fun k => if k = m then v else val k) a0 (fun _ => true) n := by
            intro n
            induction n with
            | zero => intro _; rfl
            | succ n ih =>
              intro hn
              unfold putsOf
              rw [ih (by omega), h1 n (by omega)]
          exact gen m (Nat.le_refl _)
        rw [e1, e2]
        exact hy
      | k + 1 =>
        have := h2 k o' (by simpa using ho')
        rwa [show m + 1 + k = m + (k + 1) from by omega] at this
    · rwa [show m + 1 + os.length = m + (o :: os).length from by simp; omega] at h3

theorem yieldsS_of_same {o : Oper} {v : Value} {a a' : Act} (hs : ∀ cs b, o.op ≠ .select cs b) (h : ∀ t ∈ o.looksAt ops, a'.tmps[t]? = a.tmps[t]?) (hy : YieldsS P ops S o v a) : YieldsS P ops S o v a' := by
  have he : execOp a'.eval o = execOp a.eval o := execOp_congr o hs fun x hx => by
    cases x with
    | tmp t =>
      have ht : t ∈ o.looksAt ops := List.mem_append_left _ (List.mem_filterMap.2 ⟨.tmp t, by simpa using hx, rfl⟩)
      simp only [Act.eval, Array.getD_eq_getD_getElem?, h t ht]
    | _ => rfl
  have hw : Region.wanted o (yielded ops a'.tmps) = Region.wanted o (yielded ops a.tmps) := by
    unfold Region.wanted
    cases hg : o.guard with
    | none => rfl
    | some gw =>
      obtain ⟨g, want⟩ := gw
      have hyd : yielded ops a'.tmps g = yielded ops a.tmps g := by
        unfold yielded
        cases ht : (ops[g]?).bind (·.dst) with
        | none => rfl
        | some t =>
          have hl : t ∈ o.looksAt ops := List.mem_append_right _ (by simp [hg, ht])
          simp only [Option.bind_some, h t hl]
      simp only [hyd]
  unfold YieldsS at *
  rw [he, hw]
  exact hy

theorem seq_any (hok : seqOK ops = true) (val : Nat → Value) (a0 : Act) (hy : ∀ k o, ops[k]? = some o → YieldsS P ops S o (val k) (putsOf ops val a0 (fun _ => true) k))
    (hQ : ∀ w, S w → Q .normal (putsOf ops val a0 (fun _ => true) ops.size) w) :
    ∀ (fuel : Nat) (left : List Nat) (listed : Array Bool) (w : World), listed.size = ops.size → left.length ≤ fuel → (∀ k, k < ops.size → listed.getD k false = false → k ∈ left) → S w →
      wpAny P .any ops Q fuel listed (putsOf ops val a0 (fun k => listed.getD k false) ops.size) w := by
  obtain ⟨hsel, hup, hap, hrd⟩ := seqOK_spec hok
  have done : ∀ (listed : Array Bool) (w : World), (∀ k, k < ops.size → listed.getD k false = true) → S w → Q .normal (putsOf ops val a0 (fun k => listed.getD k false) ops.size) w := by
    intro listed w hall hS
    rw [putsOf_same val a0 _ (fun _ => true) ops.size fun k hk => hall k hk]
    exact hQ w hS
  -- the least that has not come up may come up
  have least : ∀ (listed : Array Bool), listed.size = ops.size → Region.ready .any ops listed = [] → ∀ k, k < ops.size → listed.getD k false = true := by
    intro listed hsz hr k
    induction k using Nat.strongRecOn with
    | ind k ih =>
      intro hk
      cases hl : listed.getD k false
      · exfalso
        have : k ∈ Region.ready .any ops listed := mem_ready.2 ⟨by
          rw [Array.getD_eq_getD_getElem?, Array.getElem?_eq_getElem (by omega)] at hl ⊢
          exact hl, ops[k], Array.getElem?_eq_getElem hk, fun e he hb => by
            have h1 := hup k ops[k] (Array.getElem?_eq_getElem hk) e he hb
            exact ih e.on h1 (by omega)⟩
        rw [hr] at this
        cases this
      · rfl
  intro fuel
  induction fuel with
  | zero =>
    intro left listed w hsz hlen hin hS
    have hnil : left = [] := List.eq_nil_of_length_eq_zero (by omega)
    have hall : ∀ k, k < ops.size → listed.getD k false = true := fun k hk => by
      cases hl : listed.getD k false
      · have := hin k hk hl
        rw [hnil] at this
        cases this
      · rfl
    refine ⟨?_, done listed w hall hS⟩
    apply List.eq_nil_iff_forall_not_mem.2
    intro j hj
    obtain ⟨h0, o, ho, _⟩ := mem_ready.1 hj
    have hjs : j < ops.size := (Array.getElem?_eq_some_iff.1 ho).1
    have h1 := hall j hjs
    rw [Array.getD_eq_getD_getElem?, Array.getElem?_eq_getElem (by omega)] at h0 h1
    simp only [Option.getD_some] at h0 h1
    rw [h0] at h1
    cases h1
  | succ fuel ih =>
    intro left listed w hsz hlen hin hS
    refine ⟨fun hr => done listed w (least listed hsz hr) hS, fun j hj => ?_⟩
    obtain ⟨h0, o, ho, hpre⟩ := mem_ready.1 hj
    have hjs : j < ops.size := (Array.getElem?_eq_some_iff.1 ho).1
    have hl0 : listed.getD j false = false := by
      rw [Array.getD_eq_getD_getElem?, Array.getElem?_eq_getElem (by omega)] at h0 ⊢
      exact h0
    have hyj : YieldsS P ops S o (val j) (putsOf ops val a0 (fun k => listed.getD k false) ops.size) := by
      refine yieldsS_of_same (Region.noSelect_spec hsel j o · · ho) (fun t ht => ?_) (hy j o ho)
      have e1 : putsOf ops val a0 (fun _ => true) j = putsOf ops val a0 (fun k => decide (k < j)) ops.size := by
        have gen : ∀ n, putsOf ops val a0 (fun k => decide (k < j)) (j + n) = putsOf ops val a0 (fun _ => true) j := by
          intro n
          induction n with
          | zero => exact putsOf_same val a0 _ _ j fun k hk => decide_eq_true hk
          | succ n ihn =>
            show (if decide (j + n < j) then _ else putsOf ops val a0 (fun k => decide (k < j)) (j + n)) = _
            rw [decide_eq_false (by omega)]
            exact ihn
        have := gen (ops.size - j)
        rwa [show j + (ops.size - j) = ops.size from by omega, eq_comm] at this
      rw [e1]
      refine putsOf_read val a0 _ _ t ops.size fun k hk hd => ?_
      obtain ⟨hkj, e, he, hb, rfl⟩ := hrd j o t k ho ht hd
      rw [hpre e he hb, decide_eq_true hkj]
    have next : ∀ w', S w' → wpAny P .any ops Q fuel (listed.setIfInBounds j true) ((putsOf ops val a0 (fun k => listed.getD k false) ops.size).put o.dst (val j)) w' := by
      intro w' hS'
      have e2 : (putsOf ops val a0 (fun k => listed.getD k false) ops.size).put o.dst (val j) = putsOf ops val a0 (fun k => (listed.setIfInBounds j true).getD k false) ops.size := by
        have := putsOf_more (ops := ops) val a0 (fun k => listed.getD k false) (fun k => (listed.setIfInBounds j true).getD k false) j (fun k d hk hd => hap k j d hk hd) hl0
          (by simp [show j < listed.size by omega]) (fun k hk => (getD_set_ne false (Ne.symm hk)).symm) ops.size hjs
        rw [ho] at this
        exact this
      rw [e2]
      refine ih (left.erase j) _ w' (by simpa using hsz) ?_ ?_ hS'
      · rw [List.length_erase_of_mem (hin j hjs hl0)]
        omega
      · intro k hk hl
        by_cases hkj : k = j
        · subst hkj
          simp [show k < listed.size by omega] at hl
        · rw [getD_set_ne false (Ne.symm hkj)] at hl
          exact (List.mem_erase_of_ne hkj).2 (hin k hk hl)
    unfold wpOp
    simp only [ho]
    rcases hyj with ⟨hw, hg⟩ | ⟨hw, hv⟩
    · rw [if_pos hw]
      refine .inl ?_
      have hg := hg w hS
      unfold Oper.wp
      generalize (execOp (putsOf ops val a0 (fun k => listed.getD k false) ops.size).eval o).run P w = r at hg
      cases r with
      | ok n w' =>
        cases n with
        | value u => obtain ⟨rfl, hS'⟩ := hg; exact next w' hS'
        | enter f args => exact Calls.mono hg fun e w'' ⟨he, hS'⟩ => by subst he; exact next w'' hS'
        | _ => exact hg.elim
      | halt x w' => exact hg.elim
    · rw [if_neg (by rw [hw]; simp)]
      rw [← hv]
      exact next w hS

/-- **THE REGION.** -/
theorem wp_region_seq (hm : P.follows .mixedOrders = true) (hok : seqOK ops = true) {id : Nat} {a : Act} {w : World} (hS : S w.drew) (h : SeqS P ops S Q ops.toList a) : (Code.region id ops true).wp P Q a w := by
  obtain ⟨val, _, hy, hQ⟩ := seq_vals ops.toList 0 a a (fun _ => undef) (fun k => by simp) rfl h
  refine wp_region_any hm ?_
  have e : a = putsOf ops val a (fun k => (Array.replicate ops.size false).getD k false) ops.size := by
    have gen : ∀ n, putsOf ops val a (fun k => (Array.replicate ops.size false).getD k false) n = a := by
      intro n
      induction n with
      | zero => rfl
      | succ n ihn =>
        have hf : (Array.replicate ops.size false).getD n false = false := by
          rw [Array.getD_eq_getD_getElem?, Array.getElem?_replicate]
          split <;> rfl
        show (if (Array.replicate ops.size false).getD n false then _ else _) = a
        rw [hf]
        exact ihn
    exact (gen _).symm
  have := seq_any hok val a (fun k o ho => by have := hy k o (by simpa using ho); simpa using this) (fun w hw => by have := hQ w hw; simpa using this) ops.size (List.range ops.size) (Array.replicate ops.size false) w.drew
    (by simp) (by simp) (fun k hk _ => List.mem_range.2 hk) hS
  rw [← e] at this
  exact this

theorem SeqS.take {o : Oper} {os : List Oper} {a : Act} {v : Value} (hw : Region.wanted o (yielded ops a.tmps) = true) (hr : ∀ w, S w → (execOp a.eval o).run P w = .ok (.value v) w) (h : SeqS P ops S Q os (a.put o.dst v)) : SeqS P ops S Q (o :: os) a :=
  ⟨v, .inl ⟨hw, fun w hS => by rw [hr w hS]; exact ⟨rfl, hS⟩⟩, h⟩
theorem SeqS.call {o : Oper} {os : List Oper} {a : Act} {v : Value} {f : FuncId} {args : Array Value} (hw : Region.wanted o (yielded ops a.tmps) = true) (hr : ∀ w, S w → (execOp a.eval o).run P w = .ok (.enter f args) w)
    (hc : ∀ w, S w → Calls P f args w fun e w' => e = .returned v ∧ S w') (h : SeqS P ops S Q os (a.put o.dst v)) : SeqS P ops S Q (o :: os) a :=
  ⟨v, .inl ⟨hw, fun w hS => by rw [hr w hS]; exact hc w hS⟩, h⟩
theorem SeqS.skip {o : Oper} {os : List Oper} {a : Act} (hw : Region.wanted o (yielded ops a.tmps) = false) (h : SeqS P ops S Q os (a.put o.dst undef)) : SeqS P ops S Q (o :: os) a :=
  ⟨undef, .inr ⟨hw, rfl⟩, h⟩
theorem SeqS.done {a : Act} (h : ∀ w, S w → Q .normal a w) : SeqS P ops S Q [] a := h
end
end Go.Proofs.Ytnokhajjcjfbpaa
