/- A law for regions whose order Go leaves open: each operation yields a value with a fact that outlives every growth of the world; then the facts of all operations hold behind the region, whatever order was drawn. No condition. -/
import Derived.WalkKit
namespace Go.Proofs.YtabljchbchjjcaaGreatDoor
set_option linter.unusedVariables false
set_option linter.unusedSimpArgs false
open Go

section
variable {P : Program} {C : World → World → Prop}

/-- What an operation comes to: a value with the fact F, in a world that has grown. -/
def flowUpon (P : Program) (C : World → World → Prop) (w : World) (F : Value → World → Prop) : Result Next → Prop
  | .ok (.value v) w' => C w w' ∧ F v w'
  | .ok .skip w' => C w w' ∧ F undef w'
  | .ok (.enter f args) w' => C w w' ∧ Calls P f args w' (fun e w'' => ∃ v, e = .returned v ∧ C w' w'' ∧ F v w'')
  | _ => False

def flowAt (P : Program) (C : World → World → Prop) (o : Oper) (ρ : Operand → Value) (w : World) (F : Value → World → Prop) : Prop :=
  flowUpon P C w F ((execOp ρ o).run P w)

theorem wp_of_flowAt {o : Oper} {a : Act} {w : World} {F : Value → World → Prop} {K : Act → World → Prop} {Q : Exit → Act → World → Prop}
    (htr : ∀ x y z, C x y → C y z → C x z) (h : flowAt P C o a.eval w F) (hk : ∀ v w', C w w' → F v w' → K (a.put o.dst v) w') : o.wp P a w K Q := by
  unfold flowAt at h
  unfold Oper.wp
  generalize (execOp a.eval o).run P w = r at *
  cases r with
  | ok n w' =>
    cases n <;> simp only [flowUpon] at h <;> simp only [Oper.upon]
    case value u => exact hk _ _ h.1 h.2
    case skip => exact hk _ _ h.1 h.2
    case enter f args =>
      refine h.2.mono fun e w'' ⟨v, he, hc, hf⟩ => ?_
      subst he
      exact hk _ _ (htr _ _ _ h.1 hc) hf
  | halt x w' => simp only [flowUpon] at h

/-- The numbers of the operations that must come ahead of one. -/
def aft (o : Oper) : List Nat := (o.after.toList.filter (Region.binds .any ·)).map (·.on)
theorem mem_aft {o : Oper} {j : Nat} : j ∈ aft o ↔ ∃ e ∈ o.after, Region.binds .any e = true ∧ e.on = j := by
  simp [aft, and_assoc]

def closes : List Oper → List (List Nat) → List (List Nat)
  | [], acc => acc
  | o :: l, acc => closes l (acc ++ [aft o ++ (aft o).flatMap (fun j => acc.getD j [])])

/-- What has come up is closed under 'must come ahead'. -/
def Down (ops : List Oper) (listed : Array Bool) : Prop :=
  ∀ j o, ops[j]? = some o → listed.getD j false = true → ∀ k ∈ aft o, listed.getD k false = true

theorem closes_spec {ops : List Oper} {listed : Array Bool} (hd : Down ops listed) : ∀ (l : List Oper) (acc : List (List Nat)),
    (∀ j, l[j]? = ops[acc.length + j]?) →
    (∀ j i, i ∈ acc.getD j [] → listed.getD j false = true → listed.getD i false = true) →
    ∀ j i, i ∈ (closes l acc).getD j [] → listed.getD j false = true → listed.getD i false = true
  | [], _, _, h => h
  | o :: l, acc, hl, h => by
    unfold closes
    refine closes_spec hd l _ (fun j => ?_) (fun j i hi hj => ?_)
    · have := hl (j + 1)
      simp only [List.getElem?_cons_succ] at this
      rw [this]; congr 1; simp; omega
    · have h0 : ops[acc.length]? = some o := by simpa using (hl 0).symm
      by_cases hlt : j < acc.length
      · refine h j i ?_ hj
        simpa [List.getD_eq_getElem?_getD, List.getElem?_append_left hlt] using hi
      · by_cases heq : j = acc.length
        · subst heq
          simp only [List.getD_eq_getElem?_getD, List.getElem?_append_right (Nat.le_refl _), Nat.sub_self, List.getElem?_cons_zero, Option.getD_some, List.mem_append, List.mem_flatMap] at hi
          rcases hi with hi | ⟨k, hk, hi⟩
          · exact hd _ _ h0 hj _ hi
          · exact h k i (by simpa [List.getD_eq_getElem?_getD] using hi) (hd _ _ h0 hj _ hk)
        · rw [List.getD_eq_getElem?_getD, List.getElem?_eq_none (by simp; omega)] at hi
          simp at hi

/-- What an operation knows of the temporaries that it reads. -/
def known (Fs : List (Value → World → Prop)) (tmps : Array Value) (ρ : Operand → Value) (w : World) : List (Tmp × Option Nat) → Prop
  | [] => True
  | (t, some j) :: r => (Fs.getD j (fun _ _ => False)) (ρ (.tmp t)) w ∧ known Fs tmps ρ w r
  | (t, none) :: r => ρ (.tmp t) = tmps.getD t undef ∧ known Fs tmps ρ w r

/-- What is owed of each operation. -/
def flowObl (P : Program) (C : World → World → Prop) (w0 : World) (tmps : Array Value) (Fs : List (Value → World → Prop)) (S : List (List (Tmp × Option Nat))) : List Oper → Nat → Prop
  | [], _ => True
  | o :: l, i => (∀ (ρ : Operand → Value) (w : World), C w0 w → (∀ v, ρ (.const v) = v) → (∀ f, ρ (.func f) = .func (.func f) #[] #[]) → known Fs tmps ρ w (S.getD i []) →
      (match o.guard with
       | none => flowAt P C o ρ w (Fs.getD i (fun _ _ => False))
       | some (g, want) => ∀ vg, Fs.getD g (fun _ _ => False) vg w → (vg = .bool want → flowAt P C o ρ w (Fs.getD i (fun _ _ => False))) ∧ (vg ≠ .bool want → Fs.getD i (fun _ _ => False) undef w))) ∧
    flowObl P C w0 tmps Fs S l (i + 1)

/-- The frame behind the region. -/
def putAll (vs : Nat → Value) : Nat → List Oper → Act → Act
  | _, [], a => a
  | i, o :: l, a => putAll vs (i + 1) l (a.put o.dst (vs i))

def flowFacts (vs : Nat → Value) (w : World) : List (Value → World → Prop) → Nat → Prop
  | [], _ => True
  | F :: l, i => F (vs i) w ∧ flowFacts vs w l (i + 1)

/-- The check over the region's text: 'pre' in any order, then 'tail' in its own. -/
def flowB (pre tail : List Oper) (S : List (List (Tmp × Option Nat))) (ntmps nF : Nat) : Bool :=
  let ops := pre ++ tail
  let cl := closes ops []
  let dsts := pre.map (·.dst)
  (pre.length == nF) &&
  (dsts.all fun d => match d with | none => true | some t => decide (t < ntmps) && dsts.countP (· == some t) == 1) &&
  ((List.range ops.length).all fun i => match ops[i]? with | none => false | some o => (aft o).all (· < i)) &&
  ((List.range pre.length).all fun i =>
    (match pre[i]? with
     | none => false
     | some o => (match o.guard with | none => true | some (g, _) => (aft o).contains g && ((dsts.getD g none).isSome)) &&
       ((S.getD i []).all fun (t, s) => match s with
         | some j => (aft o).contains j && (dsts.getD j none == some t)
         | none => (List.range pre.length).all fun j => !(dsts.getD j none == some t) || j == i || (cl.getD j []).contains i))) &&
  ((List.range tail.length).all fun k => (List.range (pre.length + k)).all fun i => (cl.getD (pre.length + k) []).contains i)

theorem putAll_defers (vs : Nat → Value) : ∀ (l : List Oper) (k : Nat) (a : Act), (putAll vs k l a).defers = a.defers
  | [], _, _ => rfl
  | o :: l, k, a => by rw [putAll, putAll_defers vs l]; cases h : o.dst <;> simp [Act.put]

theorem put_size (a : Act) (d : Option Tmp) (v : Value) : (a.put d v).tmps.size = a.tmps.size := by cases d <;> simp [Act.put]

theorem putAll_size (vs : Nat → Value) : ∀ (l : List Oper) (k : Nat) (a : Act), (putAll vs k l a).tmps.size = a.tmps.size
  | [], _, _ => rfl
  | o :: l, k, a => by rw [putAll, putAll_size vs l, put_size]

theorem put_getD_same (a : Act) (t : Tmp) (v : Value) (h : t < a.tmps.size) : (a.put (some t) v).tmps.getD t undef = v := by
  simp [Act.put, h]
theorem put_getD_other (a : Act) (d : Option Tmp) (t : Tmp) (v : Value) (h : d ≠ some t) : (a.put d v).tmps.getD t undef = a.tmps.getD t undef := by
  cases d with
  | none => rfl
  | some d =>
    have hne : d ≠ t := fun e => h (by rw [e])
    simp [Act.put, Array.getElem?_setIfInBounds_ne hne]

theorem putAll_other (vs : Nat → Value) (t : Tmp) : ∀ (l : List Oper) (k : Nat) (a : Act), (∀ o ∈ l, o.dst ≠ some t) → (putAll vs k l a).tmps.getD t undef = a.tmps.getD t undef
  | [], _, _, _ => rfl
  | o :: l, k, a, h => by
    rw [putAll, putAll_other vs t l _ _ (fun o ho => h o (List.mem_cons_of_mem _ ho)), put_getD_other _ _ _ _ (h o (List.mem_cons_self ..))]

theorem putAll_same (vs : Nat → Value) (t : Tmp) : ∀ (l : List Oper) (k : Nat) (a : Act) (j : Nat) (o : Oper), t < a.tmps.size → l[j]? = some o → o.dst = some t →
    (l.map (·.dst)).countP (· == some t) = 1 → (putAll vs k l a).tmps.getD t undef = vs (k + j)
  | [], _, _, j, o, _, hj, _, _ => by simp at hj
  | x :: l, k, a, 0, o, ht, hj, hd, hc => by
    simp only [List.getElem?_cons_zero, Option.some.injEq] at hj
    subst hj
    rw [putAll, putAll_other vs t l]
    · rw [hd, put_getD_same _ _ _ ht]; rfl
    · intro o ho e
      simp only [List.map_cons, hd, List.countP_cons, BEq.rfl, if_true] at hc
      have : 0 < (l.map (·.dst)).countP (· == some t) := List.countP_pos_iff.2 ⟨some t, List.mem_map.2 ⟨o, ho, e⟩, by simp⟩
      omega
  | x :: l, k, a, j + 1, o, ht, hj, hd, hc => by
    simp only [List.getElem?_cons_succ] at hj
    have hx : x.dst ≠ some t := by
      intro e
      simp only [List.map_cons, e, List.countP_cons, BEq.rfl, if_true] at hc
      have : 0 < (l.map (·.dst)).countP (· == some t) := List.countP_pos_iff.2 ⟨some t, List.mem_map.2 ⟨o, List.mem_of_getElem? hj, hd⟩, by simp⟩
      omega
    rw [putAll, putAll_same vs t l (k + 1) _ j o (by rw [put_size]; exact ht) hj hd]
    · congr 1; omega
    · simpa [List.countP_cons, hx] using hc

theorem flowObl_at {w0 : World} {tmps : Array Value} {Fs : List (Value → World → Prop)} {S : List (List (Tmp × Option Nat))} : ∀ (l : List Oper) (k : Nat),
    flowObl P C w0 tmps Fs S l k → ∀ j o, l[j]? = some o → ∀ (ρ : Operand → Value) (w : World), C w0 w → (∀ v, ρ (.const v) = v) → (∀ f, ρ (.func f) = .func (.func f) #[] #[]) → known Fs tmps ρ w (S.getD (k + j) []) →
      (match o.guard with
       | none => flowAt P C o ρ w (Fs.getD (k + j) (fun _ _ => False))
       | some (g, want) => ∀ vg, Fs.getD g (fun _ _ => False) vg w → (vg = .bool want → flowAt P C o ρ w (Fs.getD (k + j) (fun _ _ => False))) ∧ (vg ≠ .bool want → Fs.getD (k + j) (fun _ _ => False) undef w))
  | [], _, _, j, o, hj => by simp at hj
  | x :: l, k, h, 0, o, hj => by
    simp only [List.getElem?_cons_zero, Option.some.injEq] at hj
    subst hj
    exact h.1
  | x :: l, k, h, j + 1, o, hj => by
    simp only [List.getElem?_cons_succ] at hj
    have := flowObl_at l (k + 1) h.2 j o hj
    rw [show k + 1 + j = k + (j + 1) by omega] at this
    exact this

structure FInv (pre tail : List Oper) (a0 : Act) (Fs : List (Value → World → Prop)) (w : World) (listed : Array Bool) (a : Act) (vs : Nat → Value) : Prop where
  defers : a.defers = a0.defers
  size : a.tmps.size = a0.tmps.size
  down : Down (pre ++ tail) listed
  lsize : listed.size = (pre ++ tail).length
  tailUn : ∀ j, pre.length ≤ j → listed.getD j false = false
  got : ∀ i o t, pre[i]? = some o → o.dst = some t → listed.getD i false = true → a.tmps.getD t undef = vs i
  old : ∀ t, (∀ i o, pre[i]? = some o → o.dst = some t → listed.getD i false = false) → a.tmps.getD t undef = a0.tmps.getD t undef
  fact : ∀ i, i < pre.length → listed.getD i false = true → (Fs.getD i (fun _ _ => False)) (vs i) w

theorem act_ext {a b : Act} (h1 : a.defers = b.defers) (h2 : a.tmps.size = b.tmps.size) (h3 : ∀ t, a.tmps.getD t undef = b.tmps.getD t undef) : a = b := by
  obtain ⟨x, d⟩ := a
  obtain ⟨y, e⟩ := b
  simp only at h1 h2 h3
  subst h1
  congr 1
  apply Array.ext h2
  intro i hi hj
  have := h3 i
  simpa [Array.getD, hi, hj] using this

/-- Of the check: what it gives. -/
structure FlowOk (pre tail : List Oper) (S : List (List (Tmp × Option Nat))) (n : Nat) : Prop where
  dst : ∀ (i : Nat) (o : Oper) (t : Tmp), pre[i]? = some o → o.dst = some t → t < n ∧ (pre.map (·.dst)).countP (· == some t) = 1
  less : ∀ (i : Nat) (o : Oper), (pre ++ tail)[i]? = some o → ∀ k ∈ aft o, k < i
  guard : ∀ (i : Nat) (o : Oper) g want, pre[i]? = some o → o.guard = some (g, want) → g ∈ aft o ∧ ∃ og t, pre[g]? = some og ∧ og.dst = some t
  data : ∀ (i : Nat) (o : Oper) t j, pre[i]? = some o → (t, some j) ∈ S.getD i [] → j ∈ aft o ∧ ∃ oj, pre[j]? = some oj ∧ oj.dst = some t
  free : ∀ (i : Nat) (o : Oper) t, pre[i]? = some o → (t, none) ∈ S.getD i [] → ∀ (j : Nat) oj, pre[j]? = some oj → oj.dst = some t → j = i ∨ i ∈ (closes (pre ++ tail) []).getD j []
  last : ∀ k, k < tail.length → ∀ i, i < pre.length + k → i ∈ (closes (pre ++ tail) []).getD (pre.length + k) []

theorem flowOk_of {pre tail : List Oper} {S : List (List (Tmp × Option Nat))} {n m : Nat} (h : flowB pre tail S n m = true) : FlowOk pre tail S n := by
  simp only [flowB, Bool.and_eq_true, List.all_eq_true, List.mem_range] at h
  obtain ⟨⟨⟨⟨_, h1⟩, h0⟩, h2⟩, h3⟩ := h
  have hlt : ∀ (l : List Oper) (i : Nat) (o : Oper), l[i]? = some o → i < l.length := fun l i o hi => (List.getElem?_eq_some_iff.1 hi).1
  have hd : ∀ (j : Nat) (t : Tmp), ((pre.map (·.dst)).getD j none == some t) = true ↔ ∃ oj, pre[j]? = some oj ∧ oj.dst = some t := fun j t => by
    rw [beq_iff_eq, List.getD_eq_getElem?_getD, List.getElem?_map]
    cases pre[j]? <;> simp
  refine ⟨fun i o t hi ht => ?_, fun i o hi k hk => ?_, fun i o g want hi hg => ?_, fun i o t j hi hj => ?_, fun i o t hi hs j oj hj ht => ?_, fun k hk i hi => ?_⟩
  · have := h1 (some t) (List.mem_map.2 ⟨o, List.mem_of_getElem? hi, ht⟩)
    simp only [Bool.and_eq_true, decide_eq_true_eq, beq_iff_eq] at this
    exact this
  · have := h0 i (hlt _ i o hi)
    simp only [hi, List.all_eq_true] at this
    simpa using this k hk
  · have := h2 i (hlt _ i o hi)
    simp only [hi, Bool.and_eq_true, hg] at this
    obtain ⟨h4, _⟩ := this
    refine ⟨by simpa using h4.1, ?_⟩
    have h5 := h4.2
    rw [List.getD_eq_getElem?_getD, List.getElem?_map] at h5
    cases hg' : pre[g]? with
    | none => simp [hg'] at h5
    | some og =>
      simp only [hg', Option.map_some, Option.getD_some] at h5
      obtain ⟨t, ht⟩ := Option.isSome_iff_exists.1 h5
      exact ⟨og, t, rfl, ht⟩
  · have := h2 i (hlt _ i o hi)
    simp only [hi, Bool.and_eq_true, List.all_eq_true] at this
    have h4 := this.2 _ hj
    simp only [Bool.and_eq_true] at h4
    exact ⟨by simpa using h4.1, (hd j t).1 h4.2⟩
  · have := h2 i (hlt _ i o hi)
    simp only [hi, Bool.and_eq_true, List.all_eq_true] at this
    have h4 := this.2 _ hs
    simp only [List.all_eq_true, List.mem_range] at h4
    have h5 := h4 j (hlt _ j oj hj)
    have h6 := (hd j t).2 ⟨oj, hj, ht⟩
    rw [h6] at h5
    simpa using h5
  · have := h3 k hk i hi
    simpa using this

theorem known_of {pre tail : List Oper} {a0 a : Act} {Fs : List (Value → World → Prop)} {w : World} {listed : Array Bool} {vs : Nat → Value} (I : FInv pre tail a0 Fs w listed a vs) :
    ∀ (l : List (Tmp × Option Nat)), (∀ t j, (t, some j) ∈ l → listed.getD j false = true ∧ ∃ oj, pre[j]? = some oj ∧ oj.dst = some t) →
      (∀ t, (t, none) ∈ l → ∀ (j : Nat) oj, pre[j]? = some oj → oj.dst = some t → listed.getD j false = false) → known Fs a0.tmps a.eval w l
  | [], _, _ => trivial
  | (t, some j) :: r, h1, h2 => by
    obtain ⟨hl, oj, hj, ht⟩ := h1 t j (List.mem_cons_self ..)
    refine ⟨?_, known_of I r (fun t j h => h1 t j (List.mem_cons_of_mem _ h)) (fun t h => h2 t (List.mem_cons_of_mem _ h))⟩
    have := I.fact j (List.getElem?_eq_some_iff.1 hj).1 hl
    rw [← I.got j oj t hj ht hl] at this
    exact this
  | (t, none) :: r, h1, h2 => by
    refine ⟨?_, known_of I r (fun t j h => h1 t j (List.mem_cons_of_mem _ h)) (fun t h => h2 t (List.mem_cons_of_mem _ h))⟩
    exact I.old t (fun j oj hj ht => h2 t (List.mem_cons_self ..) j oj hj ht)

theorem yielded_of {ops : List Oper} {a : Act} {g : Nat} {og : Oper} {t : Tmp} {vg : Value} {want : Bool} (h : ops[g]? = some og) (ht : og.dst = some t) (hlt : t < a.tmps.size) (hv : a.tmps.getD t undef = vg) :
    (yielded ops.toArray a.tmps g == some want) = true ↔ vg = .bool want := by
  have e : a.tmps[t]? = some vg := by
    rw [Array.getElem?_eq_getElem hlt]
    simpa [Array.getD, hlt] using hv
  simp only [yielded, List.getElem?_toArray, h, Option.bind_some, ht, e]
  cases vg <;> simp

theorem count_set {n i : Nat} {listed : Array Bool} (hi : i < n) (hs : n ≤ listed.size) (hl : listed.getD i false = false) :
    ((List.range n).countP fun j => !(listed.setIfInBounds i true).getD j false) + 1 = (List.range n).countP fun j => !listed.getD j false := by
  have key : ∀ (l : List Nat), l.Nodup → i ∈ l → (l.countP fun j => !(listed.setIfInBounds i true).getD j false) + 1 = l.countP fun j => !listed.getD j false := by
    intro l
    induction l with
    | nil => intro _ h; cases h
    | cons x l ih =>
      intro hnd hm
      rw [List.nodup_cons] at hnd
      by_cases hx : x = i
      · subst hx
        have hrest : (l.countP fun j => !(listed.setIfInBounds x true).getD j false) = l.countP fun j => !listed.getD j false := by
          apply List.countP_congr
          intro j hj
          have : x ≠ j := fun e => hnd.1 (e ▸ hj)
          rw [getD_set_ne false this]
        rw [List.countP_cons, List.countP_cons, hrest]
        have h1 : (listed.setIfInBounds x true).getD x false = true := by
          have : x < listed.size := by omega
          simp [Array.getD, this]
        rw [h1, hl]
        simp
      · have hm' : i ∈ l := by
          rcases List.mem_cons.1 hm with h | h
          · exact absurd h.symm hx
          · exact h
        have := ih hnd.2 hm'
        rw [List.countP_cons, List.countP_cons, getD_set_ne false (Ne.symm hx)]
        omega
  exact key _ List.nodup_range (List.mem_range.2 hi)

theorem least_unlisted {n : Nat} {listed : Array Bool} (h : 0 < (List.range n).countP fun j => !listed.getD j false) :
    ∃ i, i < n ∧ listed.getD i false = false ∧ ∀ k, k < i → listed.getD k false = true := by
  obtain ⟨i, hi, hl⟩ := List.countP_pos_iff.1 h
  have hi' := List.mem_range.1 hi
  have hl' : listed.getD i false = false := by simpa using hl
  clear h hi hl
  induction i using Nat.strongRecOn with
  | _ i ih =>
    by_cases hall : ∀ k, k < i → listed.getD k false = true
    · exact ⟨i, hi', hl', hall⟩
    · simp only [Classical.not_forall] at hall
      obtain ⟨k, hk, hkl⟩ := hall
      exact ih k hk (by omega) (by simpa using hkl)

/-- What may come up has behind it all that must come ahead. -/
theorem ready_closed {ops : List Oper} {listed : Array Bool} (hd : Down ops listed) {j : Nat} (hj : j ∈ Region.ready .any ops.toArray listed) :
    ∀ i, i ∈ (closes ops []).getD j [] → i ≠ j → listed.getD i false = true := by
  obtain ⟨hu, o, ho, hpre⟩ := mem_ready.1 hj
  have ho' : ops[j]? = some o := by simpa using ho
  -- with j marked the set is still closed
  have hd' : Down ops (listed.setIfInBounds j true) := by
    intro k ok hk hl m hm
    by_cases hkj : k = j
    · subst hkj
      rw [ho'] at hk
      cases hk
      obtain ⟨e, he, hb, rfl⟩ := mem_aft.1 hm
      exact getD_set_true (hpre e he hb)
    · rw [getD_set_ne false (Ne.symm hkj)] at hl
      exact getD_set_true (hd k ok hk hl m hm)
  intro i hi hij
  by_cases hjs : j < listed.size
  · have := closes_spec hd' ops [] (by simp) (by simp) j i hi (by simp [Array.getD, hjs])
    rwa [getD_set_ne false (Ne.symm hij)] at this
  · simp [Array.getD, hjs] at hu

theorem mem_ready' {ops : List Oper} {listed : Array Bool} (hs : listed.size = ops.length) {i : Nat} (hi : i < ops.length) (hu : listed.getD i false = false) (hall : ∀ k ∈ aft ops[i], listed.getD k false = true) :
    i ∈ Region.ready .any ops.toArray listed := by
  rw [mem_ready]
  refine ⟨?_, ops[i], by simp, fun e he hb => hall _ (mem_aft.2 ⟨e, he, hb, rfl⟩)⟩
  have hlt : i < listed.size := by omega
  simpa [Array.getD, hlt] using hu

theorem unlisted_of_ready {ops : List Oper} {listed : Array Bool} (hs : listed.size = ops.length) {i : Nat} (hi : i ∈ Region.ready .any ops.toArray listed) : i < ops.length ∧ listed.getD i false = false := by
  obtain ⟨hu, o, ho, _⟩ := mem_ready.1 hi
  have hlen : i < ops.length := by
    have : ops[i]? = some o := by simpa using ho
    exact (List.getElem?_eq_some_iff.1 this).1
  have hlt : i < listed.size := by omega
  exact ⟨hlen, by simpa [Array.getD, hlt] using hu⟩

/-- The tail: one order alone. -/
theorem tail_any {pre tail : List Oper} {S : List (List (Tmp × Option Nat))} {n : Nat} (hok : FlowOk pre tail S n) {Q : Exit → Act → World → Prop} : ∀ (m k : Nat) (listed : Array Bool) (a : Act) (w : World), k + m = tail.length →
    listed.size = (pre ++ tail).length → Down (pre ++ tail) listed → (∀ i, i < pre.length + k → listed.getD i false = true) → (∀ i, pre.length + k ≤ i → listed.getD i false = false) →
    wpList P (pre ++ tail).toArray Q (tail.drop k) a w → wpAny P .any (pre ++ tail).toArray Q m listed a w := by
  intro m
  induction m with
  | zero =>
    intro k listed a w hk hs hd hl hu h
    rw [List.drop_eq_nil_of_le (by omega)] at h
    refine ⟨?_, h⟩
    apply List.eq_nil_iff_forall_not_mem.2
    intro j hj
    obtain ⟨hlen, huj⟩ := unlisted_of_ready hs hj
    rw [List.length_append] at hlen
    rw [hl j (by omega)] at huj
    cases huj
  | succ m ih =>
    intro k listed a w hk hs hd hl hu h
    have hkt : k < tail.length := by omega
    have hget : (pre ++ tail)[pre.length + k]? = some tail[k] := by
      rw [List.getElem?_append_right (by omega), Nat.add_sub_cancel_left, List.getElem?_eq_getElem hkt]
    have hlen : pre.length + k < (pre ++ tail).length := by rw [List.length_append]; omega
    refine ⟨fun h0 => ?_, fun i hi => ?_⟩
    · exfalso
      have : pre.length + k ∈ Region.ready .any (pre ++ tail).toArray listed := mem_ready' hs hlen (hu _ (Nat.le_refl _)) (fun j hj => by
        have hg : (pre ++ tail)[pre.length + k]? = some (pre ++ tail)[pre.length + k] := List.getElem?_eq_getElem hlen
        exact hl j (hok.less _ _ hg j hj))
      rw [h0] at this
      cases this
    · obtain ⟨hil, hiu⟩ := unlisted_of_ready hs hi
      have hge : pre.length + k ≤ i := by
        rcases Nat.lt_or_ge i (pre.length + k) with h' | h'
        · rw [hl i h'] at hiu; cases hiu
        · exact h'
      have hie : i = pre.length + k := by
        rcases Nat.lt_or_ge (pre.length + k) i with h' | h'
        · exfalso
          rw [List.length_append] at hil
          have hm := hok.last (i - pre.length) (by omega) (pre.length + k) (by omega)
          rw [show pre.length + (i - pre.length) = i by omega] at hm
          have := ready_closed hd hi _ hm (by omega)
          rw [hu _ (Nat.le_refl _)] at this
          cases this
        · omega
      subst hie
      have next : ∀ a' w', wpList P (pre ++ tail).toArray Q (tail.drop (k + 1)) a' w' → wpAny P .any (pre ++ tail).toArray Q m (listed.setIfInBounds (pre.length + k) true) a' w' := by
        intro a' w' h'
        have hset : ∀ j, (listed.setIfInBounds (pre.length + k) true).getD j false = if j = pre.length + k then true else listed.getD j false := fun j => by
          by_cases hji : j = pre.length + k
          · subst hji
            have : pre.length + k < listed.size := by omega
            simp [Array.getD, this]
          · rw [if_neg hji, getD_set_ne false (Ne.symm hji)]
        refine ih (k + 1) _ a' w' (by omega) (by simpa using hs) ?_ (fun j hj => ?_) (fun j hj => ?_) h'
        · intro x ox hx hlx y hy
          rw [hset] at hlx ⊢
          by_cases hyi : y = pre.length + k
          · rw [if_pos hyi]
          · rw [if_neg hyi]
            by_cases hxi : x = pre.length + k
            · subst hxi
              exact hl y (hok.less _ _ hx y hy)
            · rw [if_neg hxi] at hlx
              exact hd x ox hx hlx y hy
        · rw [hset]
          by_cases hji : j = pre.length + k
          · rw [if_pos hji]
          · rw [if_neg hji]; exact hl j (by omega)
        · rw [hset, if_neg (by omega)]
          exact hu j (by omega)
      rw [List.drop_eq_getElem_cons hkt] at h
      unfold wpOp
      rw [List.getElem?_toArray, hget]
      simp only [wpList] at h ⊢
      split
      · rename_i hw
        rw [if_pos hw] at h
        exact h.imp (Oper.wp_mono next) id
      · rename_i hw
        rw [if_neg hw] at h
        exact next _ _ h

theorem flow_any {pre tail : List Oper} {Q : Exit → Act → World → Prop} {w0 : World} {a0 : Act} {Fs : List (Value → World → Prop)} {S : List (List (Tmp × Option Nat))}
    (hok : FlowOk pre tail S a0.tmps.size) (hrefl : ∀ x, C x x)
    (htr : ∀ x y z, C x y → C y z → C x z) (mono : ∀ i v x y, (Fs.getD i (fun _ _ => False)) v x → C x y → (Fs.getD i (fun _ _ => False)) v y)
    (hobl : flowObl P C w0 a0.tmps Fs S pre 0)
    (post : ∀ vs w, C w0 w → (∀ i, i < pre.length → (Fs.getD i (fun _ _ => False)) (vs i) w) → wpList P (pre ++ tail).toArray Q tail (putAll vs 0 pre a0) w) :
    ∀ (m : Nat) (listed : Array Bool) (a : Act) (w : World) (vs : Nat → Value), FInv pre tail a0 Fs w listed a vs → C w0 w →
      ((List.range pre.length).countP fun j => !listed.getD j false) = m → wpAny P .any (pre ++ tail).toArray Q (m + tail.length) listed a w := by
  intro m
  induction m with
  | zero =>
    intro listed a w vs I hC hn
    have all : ∀ i, i < pre.length → listed.getD i false = true := fun i hi => by
      have := List.countP_eq_zero.1 hn i (List.mem_range.2 hi)
      simpa using this
    rw [Nat.zero_add]
    refine tail_any hok tail.length 0 listed a w (by omega) I.lsize I.down (fun i hi => all i (by omega)) (fun i hi => I.tailUn i (by omega)) ?_
    rw [List.drop_zero]
    have ea : a = putAll vs 0 pre a0 := by
      refine act_ext ?_ ?_ (fun t => ?_)
      · rw [putAll_defers, I.defers]
      · rw [putAll_size, I.size]
      · by_cases ht : ∃ (i : Nat) (o : Oper), pre[i]? = some o ∧ o.dst = some t
        · obtain ⟨i, o, ho, hd⟩ := ht
          obtain ⟨h1, h2⟩ := hok.dst i o t ho hd
          rw [I.got i o t ho hd (all i (List.getElem?_eq_some_iff.1 ho).1), putAll_same vs t pre 0 a0 i o h1 ho hd h2]
          simp
        · rw [putAll_other vs t pre 0 a0 (fun o ho e => by
            obtain ⟨i, hi⟩ := List.getElem?_of_mem ho
            exact ht ⟨i, o, hi, e⟩)]
          exact I.old t (fun i o hi e => absurd ⟨i, o, hi, e⟩ ht)
    rw [ea]
    exact post vs w hC (fun i hi => I.fact i hi (all i hi))
  | succ m ih =>
    intro listed a w vs I hC hn
    obtain ⟨i0, hi0, hu0, hall0⟩ := least_unlisted (n := pre.length) (listed := listed) (by omega)
    have hlen0 : i0 < (pre ++ tail).length := by rw [List.length_append]; omega
    rw [Nat.succ_add]
    refine ⟨fun h0 => ?_, fun i hi => ?_⟩
    · exfalso
      have : i0 ∈ Region.ready .any (pre ++ tail).toArray listed := mem_ready' I.lsize hlen0 hu0 (fun k hk => hall0 k (hok.less i0 _ (List.getElem?_eq_getElem hlen0) k hk))
      rw [h0] at this
      cases this
    · obtain ⟨hilen, huf⟩ := unlisted_of_ready I.lsize hi
      have hpre : i < pre.length := by
        rcases Nat.lt_or_ge i pre.length with h' | h'
        · exact h'
        · exfalso
          rw [List.length_append] at hilen
          have hm := hok.last (i - pre.length) (by omega) i0 (by omega)
          rw [show pre.length + (i - pre.length) = i by omega] at hm
          have := ready_closed I.down hi _ hm (by omega)
          rw [hu0] at this
          cases this
      obtain ⟨hu, o, ho, hprev⟩ := mem_ready.1 hi
      have ho2 : (pre ++ tail)[i]? = some o := by simpa using ho
      have ho' : pre[i]? = some o := by rw [← ho2, List.getElem?_append_left hpre]
      have hlt : i < listed.size := by rw [I.lsize]; exact hilen
      have haft : ∀ k ∈ aft o, listed.getD k false = true := fun k hk => by
        obtain ⟨e, he, hb, rfl⟩ := mem_aft.1 hk
        exact hprev e he hb
      have hkn : known Fs a0.tmps a.eval w (S.getD i []) := by
        refine known_of I _ (fun t j hm => ?_) (fun t hm j oj hj ht => ?_)
        · obtain ⟨h1, h2⟩ := hok.data i o t j ho' hm
          exact ⟨haft j h1, h2⟩
        · rcases hok.free i o t ho' hm j oj hj ht with rfl | hb
          · exact huf
          · cases hc : listed.getD j false with
            | false => rfl
            | true =>
              have := closes_spec I.down (pre ++ tail) [] (by simp) (by simp) j i hb hc
              rw [huf] at this
              cases this
      have hob := flowObl_at pre 0 hobl i o ho' a.eval w hC (fun _ => rfl) (fun _ => rfl) (by simpa using hkn)
      simp only [Nat.zero_add] at hob
      have next : ∀ (v : Value) (w' : World), C w w' → (Fs.getD i (fun _ _ => False)) v w' → wpAny P .any (pre ++ tail).toArray Q (m + tail.length) (listed.setIfInBounds i true) (a.put o.dst v) w' := by
        intro v w' hc hf
        have hset : ∀ j, (listed.setIfInBounds i true).getD j false = if j = i then true else listed.getD j false := fun j => by
          by_cases hji : j = i
          · subst hji; simp [Array.getD, hlt]
          · rw [if_neg hji, getD_set_ne false (Ne.symm hji)]
        refine ih _ _ w' (fun j => if j = i then v else vs j) ⟨?_, ?_, ?_, ?_, ?_, ?_, ?_, ?_⟩ (htr _ _ _ hC hc) ?_
        · cases hd : o.dst <;> simp [Act.put, I.defers]
        · rw [put_size, I.size]
        · intro j oj hj hl k hk
          rw [hset] at hl ⊢
          by_cases hki : k = i
          · rw [if_pos hki]
          · rw [if_neg hki]
            by_cases hji : j = i
            · subst hji
              rw [ho2] at hj
              cases hj
              exact haft k hk
            · rw [if_neg hji] at hl
              exact I.down j oj hj hl k hk
        · simpa using I.lsize
        · intro j hj
          rw [hset, if_neg (by omega)]
          exact I.tailUn j hj
        · intro j oj t hj ht hl
          rw [hset] at hl
          by_cases hji : j = i
          · subst hji
            rw [ho'] at hj
            cases hj
            simp only [if_true]
            rw [ht]
            exact put_getD_same _ _ _ (by rw [I.size]; exact (hok.dst j _ t ho' ht).1)
          · simp only [if_neg hji] at hl ⊢
            rw [put_getD_other]
            · exact I.got j oj t hj ht hl
            · intro e
              obtain ⟨_, h2⟩ := hok.dst j oj t hj ht
              have s1 := putAll_same (fun n => .int .i64 n) t pre 0 { tmps := Array.replicate (t + 1) undef, defers := [] } j oj (by simp) hj ht h2
              have s2 := putAll_same (fun n => .int .i64 n) t pre 0 { tmps := Array.replicate (t + 1) undef, defers := [] } i o (by simp) ho' e h2
              rw [s1] at s2
              simp only [Nat.zero_add, Value.int.injEq] at s2
              exact hji (Int.ofNat.inj s2.2)
        · intro t ht
          rw [put_getD_other]
          · refine I.old t (fun j oj hj e => ?_)
            have := ht j oj hj e
            rw [hset] at this
            by_cases hji : j = i
            · simp [hji] at this
            · simpa [hji] using this
          · intro e
            have := ht i o ho' e
            rw [hset] at this
            simp at this
        · intro j hj hl
          rw [hset] at hl
          by_cases hji : j = i
          · simp only [hji, if_true]; exact hf
          · simp only [if_neg hji] at hl ⊢
            exact mono _ _ _ _ (I.fact j hj hl) hc
        · have := count_set (listed := listed) hpre (by rw [I.lsize, List.length_append]; omega) huf
          omega
      unfold wpOp
      simp only [ho]
      cases hg : o.guard with
      | none =>
        simp only [hg] at hob
        rw [if_pos (by simp [Region.wanted, hg])]
        exact .inl (wp_of_flowAt htr hob next)
      | some gw =>
        obtain ⟨g, want⟩ := gw
        simp only [hg] at hob
        obtain ⟨hga, og, t, hog, hot⟩ := hok.guard i o g want ho' hg
        have hlg := haft g hga
        have hgl : g < pre.length := (List.getElem?_eq_some_iff.1 hog).1
        have hfg := I.fact g hgl hlg
        have hvg := I.got g og t hog hot hlg
        have hy := yielded_of (ops := pre ++ tail) (want := want) (by rw [List.getElem?_append_left hgl]; exact hog) hot (by rw [I.size]; exact (hok.dst g og t hog hot).1) hvg
        obtain ⟨b1, b2⟩ := hob _ hfg
        by_cases hw : vs g = .bool want
        · rw [if_pos (by simp only [Region.wanted, hg]; exact hy.2 hw)]
          exact .inl (wp_of_flowAt htr (b1 hw) next)
        · rw [if_neg (by simp only [Region.wanted, hg]; exact fun h => hw (hy.1 h))]
          exact next undef w (hrefl w) (b2 hw)

theorem flowFacts_of {vs : Nat → Value} {w : World} : ∀ (Fs : List (Value → World → Prop)) (k : Nat), (∀ i, i < Fs.length → (Fs.getD i (fun _ _ => False)) (vs (k + i)) w) → flowFacts vs w Fs k
  | [], _, _ => trivial
  | F :: Fs, k, h => by
    refine ⟨by simpa using h 0 (by simp), flowFacts_of Fs (k + 1) (fun i hi => ?_)⟩
    have := h (i + 1) (by simpa using hi)
    rw [show k + 1 + i = k + (i + 1) by omega]
    simpa using this

/-- THE LAW: a region that draws its order: the operations 'pre' in whatever order, then 'tail' in its own. -/
theorem wp_region_flow {id : Nat} {l : List Oper} (pre tail : List Oper) {Q : Exit → Act → World → Prop} {w0 : World} {a0 : Act} (Fs : List (Value → World → Prop)) (S : List (List (Tmp × Option Nat)))
    (hm : P.follows .mixedOrders = true) (hl : pre ++ tail = l) (hB : flowB pre tail S a0.tmps.size Fs.length = true)
    (hrefl : ∀ x, C x x) (htr : ∀ x y z, C x y → C y z → C x z)
    (mono : ∀ F ∈ Fs, ∀ v x y, F v x → C x y → F v y)
    (hobl : flowObl P C w0.drew a0.tmps Fs S pre 0)
    (post : ∀ vs w, C w0.drew w → flowFacts vs w Fs 0 → wpList P l.toArray Q tail (putAll vs 0 pre a0) w) : (Code.region id l.toArray true).wp P Q a0 w0 := by
  subst hl
  have hlen : pre.length = Fs.length := by
    have h := hB
    simp only [flowB, Bool.and_eq_true, beq_iff_eq] at h
    exact h.1.1.1.1
  have key := flow_any (P := P) (C := C) (w0 := w0.drew) (Q := Q) (flowOk_of hB) hrefl htr (fun i v x y hf hc => by
    by_cases hi : i < Fs.length
    · have hm : Fs.getD i (fun _ _ => False) ∈ Fs := by
        rw [List.getD_eq_getElem?_getD, List.getElem?_eq_getElem hi]
        exact List.getElem_mem hi
      exact mono _ hm v x y hf hc
    · rw [List.getD_eq_getElem?_getD, List.getElem?_eq_none (by omega)] at hf
      exact hf.elim) hobl (fun vs w hc hf => post vs w hc (flowFacts_of Fs 0 (fun i hi => by simpa using hf i (by omega))))
    pre.length (Array.replicate (pre ++ tail).length false) a0 w0.drew (fun _ => undef) ⟨rfl, rfl, ?_, by simp, ?_, ?_, fun _ _ => rfl, ?_⟩ (hrefl _) ?_
  · refine wp_region_any hm ?_
    rw [show (pre ++ tail).toArray.size = pre.length + tail.length by simp]
    rw [List.length_append] at key
    exact key
  · intro j o _ hl
    simp [Array.getD] at hl
  · intro j _
    simp [Array.getD]
  · intro i o t _ _ hl
    simp [Array.getD] at hl
  · intro i _ hl
    simp [Array.getD] at hl
  · rw [List.countP_eq_length.2]
    · simp
    · intro j _
      simp [Array.getD]

/-- The same, parted at a place. -/
theorem wp_region_flow_at {id : Nat} {l : List Oper} (n : Nat) {Q : Exit → Act → World → Prop} {w0 : World} {a0 : Act} (Fs : List (Value → World → Prop)) (S : List (List (Tmp × Option Nat)))
    (hm : P.follows .mixedOrders = true) (hB : flowB (l.take n) (l.drop n) S a0.tmps.size Fs.length = true)
    (hrefl : ∀ x, C x x) (htr : ∀ x y z, C x y → C y z → C x z)
    (mono : ∀ F ∈ Fs, ∀ v x y, F v x → C x y → F v y)
    (hobl : flowObl P C w0.drew a0.tmps Fs S (l.take n) 0)
    (post : ∀ vs w, C w0.drew w → flowFacts vs w Fs 0 → wpList P l.toArray Q (l.drop n) (putAll vs 0 (l.take n) a0) w) : (Code.region id l.toArray true).wp P Q a0 w0 :=
  wp_region_flow (C := C) (l.take n) (l.drop n) Fs S hm (List.take_append_drop n l) hB hrefl htr mono hobl post

end
end Go.Proofs.YtabljchbchjjcaaGreatDoor
