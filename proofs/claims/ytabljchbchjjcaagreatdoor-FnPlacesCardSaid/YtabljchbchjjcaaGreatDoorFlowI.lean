/- A law for regions whose order Go leaves open, by an invariant over what has been done, what came of it and the world. No condition. -/
import Derived.Test.YtabljchbchjjcaaGreatDoorBase
namespace Go.Proofs.YtabljchbchjjcaaGreatDoor
set_option linter.unusedVariables false
set_option linter.unusedSimpArgs false
open Go

section
variable {P : Program}

def invUpon (P : Program) (K : Value → World → Prop) : Result Next → Prop
  | .ok (.value v) w' => K v w'
  | .ok .skip w' => K undef w'
  | .ok (.enter f args) w' => Calls P f args w' (fun e w'' => ∃ v, e = .returned v ∧ K v w'')
  | _ => False
def invAt (P : Program) (o : Oper) (ρ : Operand → Value) (w : World) (K : Value → World → Prop) : Prop := invUpon P K ((execOp ρ o).run P w)
theorem wp_of_invAt {o : Oper} {a : Act} {w : World} {K : Act → World → Prop} {Q : Exit → Act → World → Prop} (h : invAt P o a.eval w (fun v w' => K (a.put o.dst v) w')) : o.wp P a w K Q := by
  unfold invAt at h
  unfold Oper.wp
  generalize (execOp a.eval o).run P w = r at *
  cases r with
  | ok n w' =>
    cases n <;> simp only [invUpon] at h <;> simp only [Oper.upon]
    case value u => exact h
    case skip => exact h
    case enter f args =>
      refine h.mono fun e w'' ⟨v, he, hf⟩ => ?_
      subst he
      exact hf
  | halt x w' => simp only [invUpon] at h
theorem invAt.mono {o : Oper} {ρ : Operand → Value} {w : World} {K K' : Value → World → Prop} (h : invAt P o ρ w K) (hk : ∀ v w', K v w' → K' v w') : invAt P o ρ w K' := by
  unfold invAt at *
  generalize (execOp ρ o).run P w = r at *
  cases r with
  | ok n w' =>
    cases n <;> simp only [invUpon] at h ⊢
    case value u => exact hk _ _ h
    case skip => exact hk _ _ h
    case enter f args => exact h.mono fun e w'' ⟨v, he, hf⟩ => ⟨v, he, hk _ _ hf⟩
  | halt x w' => simp only [invUpon] at h
theorem invAt_of_flowAt {C : World → World → Prop} {o : Oper} {ρ : Operand → Value} {w : World} {F : Value → World → Prop} (htr : ∀ x y z, C x y → C y z → C x z) (h : flowAt P C o ρ w F) : invAt P o ρ w (fun v w' => C w w' ∧ F v w') := by
  unfold flowAt at h
  unfold invAt
  generalize (execOp ρ o).run P w = r at *
  cases r with
  | ok n w' =>
    cases n <;> simp only [flowUpon] at h <;> simp only [invUpon]
    case value u => exact h
    case skip => exact h
    case enter f args => exact h.2.mono fun e w'' ⟨v, he, hc, hf⟩ => ⟨v, he, htr _ _ _ h.1 hc, hf⟩
  | halt x w' => simp only [flowUpon] at h

theorem inv_calls {K : Value → World → Prop} {f : FuncId} {args : Array Value} {w : World} (h : Calls P f args w (fun e w' => ∃ v, e = .returned v ∧ K v w')) : invUpon P K (.ok (.enter f args) w) := h

def updB (d : Nat → Bool) (i : Nat) : Nat → Bool := fun j => if j = i then true else d j
def updV (vs : Nat → Value) (i : Nat) (v : Value) : Nat → Value := fun j => if j = i then v else vs j
def told (tmps : Array Value) (vs : Nat → Value) (ρ : Operand → Value) : List (Tmp × Option Nat) → Prop
  | [] => True
  | (t, some j) :: r => ρ (.tmp t) = vs j ∧ told tmps vs ρ r
  | (t, none) :: r => ρ (.tmp t) = tmps.getD t undef ∧ told tmps vs ρ r
def invObl (P : Program) (tmps : Array Value) (Inv : (Nat → Bool) → (Nat → Value) → World → Prop) (S : List (List (Tmp × Option Nat))) : List Oper → Nat → Prop
  | [], _ => True
  | o :: l, i => (∀ (d : Nat → Bool) (vs : Nat → Value) (ρ : Operand → Value) (w : World), Inv d vs w → d i = false → (∀ k ∈ aft o, d k = true) → (∀ v, ρ (.const v) = v) → (∀ f, ρ (.func f) = .func (.func f) #[] #[]) → told tmps vs ρ (S.getD i []) →
      (match o.guard with
       | none => invAt P o ρ w (fun v w' => Inv (updB d i) (updV vs i v) w')
       | some (g, want) => (vs g = .bool want → invAt P o ρ w (fun v w' => Inv (updB d i) (updV vs i v) w')) ∧ (vs g ≠ .bool want → Inv (updB d i) (updV vs i undef) w))) ∧
    invObl P tmps Inv S l (i + 1)
theorem invObl_at {tmps : Array Value} {Inv : (Nat → Bool) → (Nat → Value) → World → Prop} {S : List (List (Tmp × Option Nat))} : ∀ (l : List Oper) (k : Nat),
    invObl P tmps Inv S l k → ∀ j o, l[j]? = some o → ∀ (d : Nat → Bool) (vs : Nat → Value) (ρ : Operand → Value) (w : World), Inv d vs w → d (k + j) = false → (∀ k ∈ aft o, d k = true) → (∀ v, ρ (.const v) = v) → (∀ f, ρ (.func f) = .func (.func f) #[] #[]) → told tmps vs ρ (S.getD (k + j) []) →
      (match o.guard with
       | none => invAt P o ρ w (fun v w' => Inv (updB d (k + j)) (updV vs (k + j) v) w')
       | some (g, want) => (vs g = .bool want → invAt P o ρ w (fun v w' => Inv (updB d (k + j)) (updV vs (k + j) v) w')) ∧ (vs g ≠ .bool want → Inv (updB d (k + j)) (updV vs (k + j) undef) w))
  | [], _, _, j, o, hj => by simp at hj
  | x :: l, k, h, 0, o, hj => by
    simp only [List.getElem?_cons_zero, Option.some.injEq] at hj
    subst hj
    exact h.1
  | x :: l, k, h, j + 1, o, hj => by
    simp only [List.getElem?_cons_succ] at hj
    have := invObl_at l (k + 1) h.2 j o hj
    rw [show k + 1 + j = k + (j + 1) by omega] at this
    exact this
theorem told_of {pre tail : List Oper} {a0 a : Act} {w : World} {listed : Array Bool} {vs : Nat → Value} (I : FInv pre tail a0 (pre.map fun _ => fun _ _ => True) w listed a vs) :
    ∀ (l : List (Tmp × Option Nat)), (∀ t j, (t, some j) ∈ l → listed.getD j false = true ∧ ∃ oj, pre[j]? = some oj ∧ oj.dst = some t) →
      (∀ t, (t, none) ∈ l → ∀ (j : Nat) oj, pre[j]? = some oj → oj.dst = some t → listed.getD j false = false) → told a0.tmps vs a.eval l
  | [], _, _ => trivial
  | (t, some j) :: r, h1, h2 => by
    obtain ⟨hl, oj, hj, ht⟩ := h1 t j (List.mem_cons_self ..)
    exact ⟨I.got j oj t hj ht hl, told_of I r (fun t j h => h1 t j (List.mem_cons_of_mem _ h)) (fun t h => h2 t (List.mem_cons_of_mem _ h))⟩
  | (t, none) :: r, h1, h2 =>
    ⟨I.old t (fun j oj hj ht => h2 t (List.mem_cons_self ..) j oj hj ht), told_of I r (fun t j h => h1 t j (List.mem_cons_of_mem _ h)) (fun t h => h2 t (List.mem_cons_of_mem _ h))⟩
theorem true_getD {pre : List Oper} {i : Nat} (h : i < pre.length) (v : Value) (w : World) : ((pre.map fun _ => (fun _ _ => True : Value → World → Prop)).getD i (fun _ _ => False)) v w := by
  rw [List.getD_eq_getElem?_getD, List.getElem?_map, List.getElem?_eq_getElem h]
  trivial

theorem inv_any {pre tail : List Oper} {Q : Exit → Act → World → Prop} {a0 : Act} {Inv : (Nat → Bool) → (Nat → Value) → World → Prop} {S : List (List (Tmp × Option Nat))}
    (hok : FlowOk pre tail S a0.tmps.size) (hobl : invObl P a0.tmps Inv S pre 0)
    (post : ∀ d vs w, Inv d vs w → (∀ i, i < pre.length → d i = true) → wpList P (pre ++ tail).toArray Q tail (putAll vs 0 pre a0) w) :
    ∀ (m : Nat) (listed : Array Bool) (a : Act) (w : World) (vs : Nat → Value), FInv pre tail a0 (pre.map fun _ => fun _ _ => True) w listed a vs → Inv (fun j => listed.getD j false) vs w →
      ((List.range pre.length).countP fun j => !listed.getD j false) = m → wpAny P .any (pre ++ tail).toArray Q (m + tail.length) listed a w := by
  intro m
  induction m with
  | zero =>
    intro listed a w vs I hC hn
    have all : ∀ i, i < pre.length → listed.getD i false = true := fun i hi => by
      have := List.countP_eq_zero.1 hn i (List.mem_range.2 hi)
      simpa using this
    rw [Nat.zero_add]
    refine tail_any hok tail.length 0 listed a w (by omega) I.lsize I.down (fun i hi => all i (by omega)) (fun i hi => I.tailUn i (by omega)) ?_
    rw [List.drop_zero]
    have ea : a = putAll vs 0 pre a0 := by
      refine act_ext ?_ ?_ (fun t => ?_)
      · rw [putAll_defers, I.defers]
      · rw [putAll_size, I.size]
      · by_cases ht : ∃ (i : Nat) (o : Oper), pre[i]? = some o ∧ o.dst = some t
        · obtain ⟨i, o, ho, hd⟩ := ht
          obtain ⟨h1, h2⟩ := hok.dst i o t ho hd
          rw [I.got i o t ho hd (all i (List.getElem?_eq_some_iff.1 ho).1), putAll_same vs t pre 0 a0 i o h1 ho hd h2]
          simp
        · rw [putAll_other vs t pre 0 a0 (fun o ho e => by
            obtain ⟨i, hi⟩ := List.getElem?_of_mem ho
            exact ht ⟨i, o, hi, e⟩)]
          exact I.old t (fun i o hi e => absurd ⟨i, o, hi, e⟩ ht)
    rw [ea]
    exact post _ vs w hC (fun i hi => all i hi)
  | succ m ih =>
    intro listed a w vs I hC hn
    obtain ⟨i0, hi0, hu0, hall0⟩ := least_unlisted (n := pre.length) (listed := listed) (by omega)
    have hlen0 : i0 < (pre ++ tail).length := by rw [List.length_append]; omega
    rw [Nat.succ_add]
    refine ⟨fun h0 => ?_, fun i hi => ?_⟩
    · exfalso
      have : i0 ∈ Region.ready .any (pre ++ tail).toArray listed := mem_ready' I.lsize hlen0 hu0 (fun k hk => hall0 k (hok.less i0 _ (List.getElem?_eq_getElem hlen0) k hk))
      rw [h0] at this
      cases this
    · obtain ⟨hilen, huf⟩ := unlisted_of_ready I.lsize hi
      have hpre : i < pre.length := by
        rcases Nat.lt_or_ge i pre.length with h' | h'
        · exact h'
        · exfalso
          rw [List.length_append] at hilen
          have hm := hok.last (i - pre.length) (by omega) i0 (by omega)
          rw [show pre.length + (i - pre.length) = i by omega] at hm
          have := ready_closed I.down hi _ hm (by omega)
          rw [hu0] at this
          cases this
      obtain ⟨hu, o, ho, hprev⟩ := mem_ready.1 hi
      have ho2 : (pre ++ tail)[i]? = some o := by simpa using ho
      have ho' : pre[i]? = some o := by rw [← ho2, List.getElem?_append_left hpre]
      have hlt : i < listed.size := by rw [I.lsize]; exact hilen
      have haft : ∀ k ∈ aft o, listed.getD k false = true := fun k hk => by
        obtain ⟨e, he, hb, rfl⟩ := mem_aft.1 hk
        exact hprev e he hb
      have hkn : told a0.tmps vs a.eval (S.getD i []) := by
        refine told_of I _ (fun t j hm => ?_) (fun t hm j oj hj ht => ?_)
        · obtain ⟨h1, h2⟩ := hok.data i o t j ho' hm
          exact ⟨haft j h1, h2⟩
        · rcases hok.free i o t ho' hm j oj hj ht with rfl | hb
          · exact huf
          · cases hc : listed.getD j false with
            | false => rfl
            | true =>
              have := closes_spec I.down (pre ++ tail) [] (by simp) (by simp) j i hb hc
              rw [huf] at this
              cases this
      have hob := invObl_at pre 0 hobl i o ho' (fun j => listed.getD j false) vs a.eval w hC (by simpa using huf) haft (fun _ => rfl) (fun _ => rfl) (by simpa using hkn)
      simp only [Nat.zero_add] at hob
      have hset : ∀ j, (listed.setIfInBounds i true).getD j false = if j = i then true else listed.getD j false := fun j => by
        by_cases hji : j = i
        · subst hji; simp [Array.getD, hlt]
        · rw [if_neg hji, getD_set_ne false (Ne.symm hji)]
      have next : ∀ (v : Value) (w' : World), Inv (updB (fun j => listed.getD j false) i) (updV vs i v) w' → wpAny P .any (pre ++ tail).toArray Q (m + tail.length) (listed.setIfInBounds i true) (a.put o.dst v) w' := by
        intro v w' hI
        refine ih _ _ w' (updV vs i v) ⟨?_, ?_, ?_, ?_, ?_, ?_, ?_, ?_⟩ ?_ ?_
        · cases hd : o.dst <;> simp [Act.put, I.defers]
        · rw [put_size, I.size]
        · intro j oj hj hl k hk
          rw [hset] at hl ⊢
          by_cases hki : k = i
          · rw [if_pos hki]
          · rw [if_neg hki]
            by_cases hji : j = i
            · subst hji
              rw [ho2] at hj
              cases hj
              exact haft k hk
            · rw [if_neg hji] at hl
              exact I.down j oj hj hl k hk
        · simpa using I.lsize
        · intro j hj
          rw [hset, if_neg (by omega)]
          exact I.tailUn j hj
        · intro j oj t hj ht hl
          rw [hset] at hl
          by_cases hji : j = i
          · subst hji
            rw [ho'] at hj
            cases hj
            simp only [updV, if_true]
            rw [ht]
            exact put_getD_same _ _ _ (by rw [I.size]; exact (hok.dst j _ t ho' ht).1)
          · simp only [updV, if_neg hji] at hl ⊢
            rw [put_getD_other]
            · exact I.got j oj t hj ht hl
            · intro e
              obtain ⟨_, h2⟩ := hok.dst j oj t hj ht
              have s1 := putAll_same (fun n => .int .i64 n) t pre 0 { tmps := Array.replicate (t + 1) undef, defers := [] } j oj (by simp) hj ht h2
              have s2 := putAll_same (fun n => .int .i64 n) t pre 0 { tmps := Array.replicate (t + 1) undef, defers := [] } i o (by simp) ho' e h2
              rw [s1] at s2
              simp only [Nat.zero_add, Value.int.injEq] at s2
              exact hji (Int.ofNat.inj s2.2)
        · intro t ht
          rw [put_getD_other]
          · refine I.old t (fun j oj hj e => ?_)
            have := ht j oj hj e
            rw [hset] at this
            by_cases hji : j = i
            · simp [hji] at this
            · simpa [hji] using this
          · intro e
            have := ht i o ho' e
            rw [hset] at this
            simp at this
        · intro j hj hl
          exact true_getD hj _ _
        · have e : (fun j => (listed.setIfInBounds i true).getD j false) = updB (fun j => listed.getD j false) i := funext fun j => hset j
          rw [e]
          exact hI
        · have := count_set (listed := listed) hpre (by rw [I.lsize, List.length_append]; omega) huf
          omega
      unfold wpOp
      simp only [ho]
      cases hg : o.guard with
      | none =>
        simp only [hg] at hob
        rw [if_pos (by simp [Region.wanted, hg])]
        exact .inl (wp_of_invAt (hob.mono next))
      | some gw =>
        obtain ⟨g, want⟩ := gw
        simp only [hg] at hob
        obtain ⟨hga, og, t, hog, hot⟩ := hok.guard i o g want ho' hg
        have hlg := haft g hga
        have hgl : g < pre.length := (List.getElem?_eq_some_iff.1 hog).1
        have hvg := I.got g og t hog hot hlg
        have hy := yielded_of (ops := pre ++ tail) (want := want) (by rw [List.getElem?_append_left hgl]; exact hog) hot (by rw [I.size]; exact (hok.dst g og t hog hot).1) hvg
        obtain ⟨b1, b2⟩ := hob
        by_cases hw : vs g = .bool want
        · rw [if_pos (by simp only [Region.wanted, hg]; exact hy.2 hw)]
          exact .inl (wp_of_invAt ((b1 hw).mono next))
        · rw [if_neg (by simp only [Region.wanted, hg]; exact fun h => hw (hy.1 h))]
          exact next undef w (b2 hw)

/-- THE LAW, parted at a place: the first n operations in whatever order, then the rest in its own. -/
theorem wp_region_inv_at {id : Nat} {l : List Oper} (n : Nat) {Q : Exit → Act → World → Prop} {w0 : World} {a0 : Act} (Inv : (Nat → Bool) → (Nat → Value) → World → Prop) (S : List (List (Tmp × Option Nat)))
    (hm : P.follows .mixedOrders = true) (hB : flowB (l.take n) (l.drop n) S a0.tmps.size (l.take n).length = true)
    (start : ∀ vs, Inv (fun _ => false) vs w0.drew)
    (hobl : invObl P a0.tmps Inv S (l.take n) 0)
    (post : ∀ d vs w, Inv d vs w → (∀ i, i < (l.take n).length → d i = true) → wpList P l.toArray Q (l.drop n) (putAll vs 0 (l.take n) a0) w) : (Code.region id l.toArray true).wp P Q a0 w0 := by
  have key := inv_any (P := P) (Q := Q) (flowOk_of hB) hobl (fun d vs w hc hf => by rw [List.take_append_drop]; exact post d vs w hc hf)
    (l.take n).length (Array.replicate (l.take n ++ l.drop n).length false) a0 w0.drew (fun _ => undef) ⟨rfl, rfl, ?_, by simp, ?_, ?_, fun _ _ => rfl, ?_⟩ ?_ ?_
  · refine wp_region_any hm ?_
    rw [List.take_append_drop] at key
    rw [show l.toArray.size = (l.take n).length + (l.drop n).length by rw [← List.length_append, List.take_append_drop]; simp]
    rw [show l.length = (l.take n).length + (l.drop n).length by rw [← List.length_append, List.take_append_drop]] at key
    exact key
  · intro j o _ hl
    simp [Array.getD] at hl
  · intro j _
    simp [Array.getD]
  · intro i o t _ _ hl
    simp [Array.getD] at hl
  · intro i _ hl
    simp [Array.getD] at hl
  · have e : (fun j => (Array.replicate (l.take n ++ l.drop n).length false).getD j false) = fun _ => false := funext fun j => by simp [Array.getD]
    rw [e]
    exact start _
  · rw [List.countP_eq_length.2]
    · simp
    · intro j _
      simp [Array.getD]
/-- What is owed of each operation of a region in which one operation, M, changes what was there (R), and all others let the world grow. -/
def mutObl (P : Program) (w0 : World) (tmps : Array Value) (Fs : List (Value → World → Prop)) (S : List (List (Tmp × Option Nat))) (M Pi : Nat) (D : World → World → Prop) (R : Value → World → World → Prop) : List Oper → Nat → Prop
  | [], _ => True
  | o :: l, i => (if i = M then
        (∀ (ρ : Operand → Value) (w : World) (u : Value), Ext w0 w → (∀ v, ρ (.const v) = v) → (∀ f, ρ (.func f) = .func (.func f) #[] #[]) → known Fs tmps ρ w (S.getD i []) → (∀ t, (t, some Pi) ∈ S.getD i [] → ρ (.tmp t) = u) →
          (match o.guard with
           | none => invAt P o ρ w (fun v w' => R u w w' ∧ (Fs.getD i (fun _ _ => False)) v w')
           | some (g, want) => ∀ vg, Fs.getD g (fun _ _ => False) vg w → (vg = .bool want → invAt P o ρ w (fun v w' => R u w w' ∧ (Fs.getD i (fun _ _ => False)) v w')) ∧ (vg ≠ .bool want → R u w w ∧ Fs.getD i (fun _ _ => False) undef w)))
      else
        (∀ (ρ : Operand → Value) (w : World), D w0 w → (∀ v, ρ (.const v) = v) → (∀ f, ρ (.func f) = .func (.func f) #[] #[]) → known Fs tmps ρ w (S.getD i []) →
          (match o.guard with
           | none => flowAt P Ext o ρ w (Fs.getD i (fun _ _ => False))
           | some (g, want) => ∀ vg, Fs.getD g (fun _ _ => False) vg w → (vg = .bool want → flowAt P Ext o ρ w (Fs.getD i (fun _ _ => False))) ∧ (vg ≠ .bool want → Fs.getD i (fun _ _ => False) undef w)))) ∧
    mutObl P w0 tmps Fs S M Pi D R l (i + 1)

def MutInv (w0 : World) (Fs : List (Value → World → Prop)) (M Pi : Nat) (R : Value → World → World → Prop) (d : Nat → Bool) (vs : Nat → Value) (w : World) : Prop :=
  (if d M = true then d Pi = true ∧ ∃ wa wb, Ext w0 wa ∧ R (vs Pi) wa wb ∧ Ext wb w else Ext w0 w) ∧ ∀ i, i < Fs.length → d i = true → (Fs.getD i (fun _ _ => False)) (vs i) w
theorem known_of_told {tmps : Array Value} {vs : Nat → Value} {ρ : Operand → Value} {w : World} {Fs : List (Value → World → Prop)} : ∀ (l : List (Tmp × Option Nat)), told tmps vs ρ l → (∀ t j, (t, some j) ∈ l → (Fs.getD j (fun _ _ => False)) (vs j) w) → known Fs tmps ρ w l
  | [], _, _ => trivial
  | (t, some j) :: r, h, k => ⟨by rw [h.1]; exact k t j (List.mem_cons_self ..), known_of_told r h.2 (fun t j m => k t j (List.mem_cons_of_mem _ m))⟩
  | (t, none) :: r, h, k => ⟨h.1, known_of_told r h.2 (fun t j m => k t j (List.mem_cons_of_mem _ m))⟩
theorem told_at {tmps : Array Value} {vs : Nat → Value} {ρ : Operand → Value} : ∀ (l : List (Tmp × Option Nat)), told tmps vs ρ l → ∀ t j, (t, some j) ∈ l → ρ (.tmp t) = vs j
  | [], _, t, j, h => by cases h
  | (a, some b) :: r, h, t, j, m => by
    rcases List.mem_cons.1 m with e | m
    · simp only [Prod.mk.injEq, Option.some.injEq] at e
      obtain ⟨rfl, rfl⟩ := e
      exact h.1
    · exact told_at r h.2 t j m
  | (a, none) :: r, h, t, j, m => by
    rcases List.mem_cons.1 m with e | m
    · simp at e
    · exact told_at r h.2 t j m

theorem mut_obl {w0 : World} {tmps : Array Value} {Fs : List (Value → World → Prop)} {S : List (List (Tmp × Option Nat))} {M Pi : Nat} {D : World → World → Prop} {R : Value → World → World → Prop} {pre : List Oper} (hlen : pre.length = Fs.length) (hMl : M < pre.length)
    (hdat : ∀ (i : Nat) (o : Oper) t j, pre[i]? = some o → (t, some j) ∈ S.getD i [] → j ∈ aft o ∧ ∃ oj, pre[j]? = some oj ∧ oj.dst = some t)
    (hgrd : ∀ (i : Nat) (o : Oper) g want, pre[i]? = some o → o.guard = some (g, want) → g ∈ aft o ∧ ∃ og t, pre[g]? = some og ∧ og.dst = some t)
    (hPi : ∀ o, pre[M]? = some o → Pi ∈ aft o ∧ Pi ≠ M)
    (dE : ∀ x, Ext w0 x → D w0 x) (dR : ∀ u x y z, Ext w0 x → R u x y → Ext y z → D w0 z)
    (monoE : ∀ F ∈ Fs, ∀ v x y, F v x → Ext x y → F v y) (monoR : ∀ F ∈ Fs, ∀ u v x y, Ext w0 x → F v x → R u x y → F v y) :
    ∀ (l : List Oper) (k : Nat), (∀ j, l[j]? = pre[k + j]?) → mutObl P w0 tmps Fs S M Pi D R l k → invObl P tmps (MutInv w0 Fs M Pi R) S l k
  | [], _, _, _ => trivial
  | o :: l, k, hl, h => by
    have hk : pre[k]? = some o := by simpa using (hl 0).symm
    have hkl : k < Fs.length := by rw [← hlen]; exact (List.getElem?_eq_some_iff.1 hk).1
    have gm : ∀ i, i < Fs.length → Fs.getD i (fun _ _ => False) ∈ Fs := fun i hi => by
      rw [List.getD_eq_getElem?_getD, List.getElem?_eq_getElem hi]; exact List.getElem_mem hi
    refine ⟨?_, mut_obl hlen hMl hdat hgrd hPi dE dR monoE monoR l (k + 1) (fun j => by rw [show k + 1 + j = k + (j + 1) by omega, ← hl (j + 1)]; simp) h.2⟩
    intro d vs ρ w hI hd ha hc hf ht
    have hD : D w0 w := by
      have h1 := hI.1
      split at h1
      · obtain ⟨_, wa, wb, e1, e2, e3⟩ := h1
        exact dR _ _ _ _ e1 e2 e3
      · exact dE _ h1
    have hkn : known Fs tmps ρ w (S.getD k []) := known_of_told _ ht (fun t j m => by
      obtain ⟨m1, oj, m2, _⟩ := hdat k o t j hk m
      exact hI.2 j (by rw [← hlen]; exact (List.getElem?_eq_some_iff.1 m2).1) (ha j m1))
    have hgd : ∀ g want, o.guard = some (g, want) → (Fs.getD g (fun _ _ => False)) (vs g) w := fun g want e => by
      obtain ⟨m1, og, t, m2, _⟩ := hgrd k o g want hk e
      exact hI.2 g (by rw [← hlen]; exact (List.getElem?_eq_some_iff.1 m2).1) (ha g m1)
    by_cases hkM : k = M
    · subst hkM
      have h1 := h.1
      rw [if_pos rfl] at h1
      have hE : Ext w0 w := by
        have h2 := hI.1
        rwa [if_neg (by rw [hd]; simp)] at h2
      have h2 := h1 ρ w (vs Pi) hE hc hf hkn (fun t m => told_at _ ht t Pi m)
      have next : ∀ v w', R (vs Pi) w w' ∧ (Fs.getD k (fun _ _ => False)) v w' → MutInv w0 Fs k Pi R (updB d k) (updV vs k v) w' := by
        rintro v w' ⟨r1, r2⟩
        obtain ⟨p1, p2⟩ := hPi o hk
        refine ⟨?_, fun i hi hdi => ?_⟩
        · rw [if_pos (by simp [updB])]
          exact ⟨by simp [updB, ha Pi p1], w, w', hE, by simpa [updV, p2] using r1, Ext.refl _⟩
        · by_cases hik : i = k
          · subst hik; simpa [updV] using r2
          · simp only [updB, hik, if_false] at hdi
            simp only [updV, hik, if_false]
            exact monoR _ (gm i hi) _ _ _ _ hE (hI.2 i hi hdi) r1
      cases hg : o.guard with
      | none =>
        simp only [hg] at h2
        exact h2.mono next
      | some gw =>
        obtain ⟨g, want⟩ := gw
        simp only [hg] at h2
        obtain ⟨b1, b2⟩ := h2 _ (hgd g want hg)
        exact ⟨fun e => (b1 e).mono next, fun e => next _ _ (b2 e)⟩
    · have h1 := h.1
      rw [if_neg hkM] at h1
      have h2 := h1 ρ w hD hc hf hkn
      have next : ∀ v w', Ext w w' ∧ (Fs.getD k (fun _ _ => False)) v w' → MutInv w0 Fs M Pi R (updB d k) (updV vs k v) w' := by
        rintro v w' ⟨r1, r2⟩
        refine ⟨?_, fun i hi hdi => ?_⟩
        · have h3 := hI.1
          simp only [updB, Ne.symm hkM, if_false]
          by_cases hdM : d M = true
          · rw [if_pos hdM] at h3 ⊢
            obtain ⟨e0, wa, wb, e1, e2, e3⟩ := h3
            have hPk : Pi ≠ k := fun e => by rw [e, hd] at e0; cases e0
            exact ⟨by simp [hPk, e0], wa, wb, e1, by simpa [updV, hPk] using e2, e3.trans r1⟩
          · rw [if_neg hdM] at h3 ⊢
            exact h3.trans r1
        · by_cases hik : i = k
          · subst hik; simpa [updV] using r2
          · simp only [updB, hik, if_false] at hdi
            simp only [updV, hik, if_false]
            exact monoE _ (gm i hi) _ _ _ (hI.2 i hi hdi) r1
      cases hg : o.guard with
      | none =>
        simp only [hg] at h2
        exact (invAt_of_flowAt (C := Ext) (w := w) (F := Fs.getD k (fun _ _ => False)) (fun _ _ _ => Ext.trans) h2).mono next
      | some gw =>
        obtain ⟨g, want⟩ := gw
        simp only [hg] at h2
        obtain ⟨b1, b2⟩ := h2 _ (hgd g want hg)
        exact ⟨fun e => (invAt_of_flowAt (C := Ext) (w := w) (F := Fs.getD k (fun _ _ => False)) (fun _ _ _ => Ext.trans) (b1 e)).mono next, fun e => next _ _ ⟨Ext.refl _, b2 e⟩⟩

/-- THE LAW: one operation, M, changes what was there; R may look at what came of operation Pi, which M waits for. -/
theorem wp_region_mut_at {id : Nat} {l : List Oper} (n M Pi : Nat) {Q : Exit → Act → World → Prop} {w0 : World} {a0 : Act} (D : World → World → Prop) (R : Value → World → World → Prop) (Fs : List (Value → World → Prop)) (S : List (List (Tmp × Option Nat)))
    (hm : P.follows .mixedOrders = true) (hB : flowB (l.take n) (l.drop n) S a0.tmps.size Fs.length = true)
    (hMP : (match (l.take n)[M]? with | some o => (aft o).contains Pi && !(Pi == M) | none => false) = true)
    (dE : ∀ x, Ext w0.drew x → D w0.drew x) (dR : ∀ u x y z, Ext w0.drew x → R u x y → Ext y z → D w0.drew z)
    (monoE : ∀ F ∈ Fs, ∀ v x y, F v x → Ext x y → F v y) (monoR : ∀ F ∈ Fs, ∀ u v x y, Ext w0.drew x → F v x → R u x y → F v y)
    (hobl : mutObl P w0.drew a0.tmps Fs S M Pi D R (l.take n) 0)
    (post : ∀ vs wa wb w, Ext w0.drew wa → R (vs Pi) wa wb → Ext wb w → flowFacts vs w Fs 0 → wpList P l.toArray Q (l.drop n) (putAll vs 0 (l.take n) a0) w) : (Code.region id l.toArray true).wp P Q a0 w0 := by
  have hlen : (l.take n).length = Fs.length := by
    have h := hB
    simp only [flowB, Bool.and_eq_true, beq_iff_eq] at h
    exact h.1.1.1.1
  have hok := flowOk_of hB
  have hM : M < (l.take n).length ∧ ∀ o, (l.take n)[M]? = some o → Pi ∈ aft o ∧ Pi ≠ M := by
    cases hg : (l.take n)[M]? with
    | none => simp [hg] at hMP
    | some o =>
      simp only [hg, Bool.and_eq_true, List.contains_iff_mem, Bool.not_eq_true', beq_eq_false_iff_ne] at hMP
      refine ⟨(List.getElem?_eq_some_iff.1 hg).1, fun o' e => ?_⟩
      cases e
      exact hMP
  refine wp_region_inv_at n (MutInv w0.drew Fs M Pi R) S hm (by rw [hlen]; exact hB) (fun vs => ⟨?_, fun i _ h => by cases h⟩)
    (mut_obl hlen hM.1 hok.data hok.guard hM.2 dE dR monoE monoR (l.take n) 0 (fun j => by simp) hobl) (fun d vs w hI hd => ?_)
  · rw [if_neg (by simp)]
    exact Ext.refl _
  · have h1 := hI.1
    rw [if_pos (hd M hM.1)] at h1
    obtain ⟨_, wa, wb, e1, e2, e3⟩ := h1
    exact post vs wa wb w e1 e2 e3 (flowFacts_of Fs 0 (fun i hi => by simpa using hI.2 i hi (hd i (by rw [hlen]; exact hi))))
/-- Facts of the values that have come, and a word on the world. -/
def FInvW (F : Nat → Value → World → Prop) (W : (Nat → Bool) → World → Prop) (d : Nat → Bool) (vs : Nat → Value) (w : World) : Prop := (∀ i, d i = true → F i (vs i) w) ∧ W d w
theorem FInvW.next {F : Nat → Value → World → Prop} {W : (Nat → Bool) → World → Prop} {d : Nat → Bool} {vs : Nat → Value} {w w' : World} {i : Nat} {v : Value} (h : FInvW F W d vs w) (hs : ∀ j, d j = true → F j (vs j) w → F j (vs j) w') (hv : F i v w') (hW : W (updB d i) w') : FInvW F W (updB d i) (updV vs i v) w' := by
  refine ⟨fun j hj => ?_, hW⟩
  by_cases e : j = i
  · subst e; simpa [updV] using hv
  · simp only [updB, e, if_false] at hj
    simp only [updV, e, if_false]
    exact hs j hj (h.1 j hj)
end
end Go.Proofs.YtabljchbchjjcaaGreatDoor
