/- Several texts in one: FlowM, Ch06q. Conditions: see each. -/
import Derived.Test.YtabljchbchjjcaaGreatDoorFlowI
import Derived.Test.YtabljchbchjjcaaGreatDoorMg8
import Derived.Test.YtabljchbchjjcaaGreatDoorCh06n
import Derived.Test.YtabljchbchjjcaaGreatDoorMg2
section
namespace Go.Proofs.YtabljchbchjjcaaGreatDoor
set_option linter.unusedVariables false
set_option linter.unusedSimpArgs false
open Go Go.RowKit
section
variable {P : Program}
abbrev factM (Fs : List (Value → World → Prop)) (i : Nat) : Value → World → Prop := Fs.getD i (fun _ _ => False)
/-- What is owed of each operation; the flag says whether M has run. -/
def flagMObl (P : Program) (w0 : World) (tmps : Array Value) (Fs : Bool → List (Value → World → Prop)) (S : List (List (Tmp × Option Nat))) (M : Nat) (D R : World → World → Prop) : List Oper → Nat → Prop
  | [], _ => True
  | o :: l, i => (if i = M then
        (∀ (ρ : Operand → Value) (w : World), Ext w0 w → (∀ v, ρ (.const v) = v) → (∀ f, ρ (.func f) = .func (.func f) #[] #[]) → known (Fs false) tmps ρ w (S.getD i []) →
          (match o.guard with
           | none => invAt P o ρ w (fun v w' => R w w' ∧ factM (Fs true) i v w')
           | some _ => False))
      else
        (∀ (fl : Bool) (ρ : Operand → Value) (w : World), D w0 w → (∀ v, ρ (.const v) = v) → (∀ f, ρ (.func f) = .func (.func f) #[] #[]) → known (Fs fl) tmps ρ w (S.getD i []) →
          (match o.guard with
           | none => flowAt P Ext o ρ w (factM (Fs fl) i)
           | some (g, want) => ∀ vg, factM (Fs fl) g vg w → (vg = .bool want → flowAt P Ext o ρ w (factM (Fs fl) i)) ∧ (vg ≠ .bool want → factM (Fs fl) i undef w)))) ∧
    flagMObl P w0 tmps Fs S M D R l (i + 1)
def FlagMInv (w0 : World) (n : Nat) (Fs : Bool → List (Value → World → Prop)) (M : Nat) (D : World → World → Prop) (d : Nat → Bool) (vs : Nat → Value) (w : World) : Prop :=
  (if d M = true then D w0 w else Ext w0 w) ∧ ∀ i, i < n → d i = true → factM (Fs (d M)) i (vs i) w
theorem flagM_obl {w0 : World} {tmps : Array Value} {Fs : Bool → List (Value → World → Prop)} {S : List (List (Tmp × Option Nat))} {M n : Nat} {D R : World → World → Prop} {pre : List Oper} (hlen : pre.length = n)
    (hdat : ∀ (i : Nat) (o : Oper) t j, pre[i]? = some o → (t, some j) ∈ S.getD i [] → j ∈ aft o ∧ ∃ oj, pre[j]? = some oj ∧ oj.dst = some t)
    (hgrd : ∀ (i : Nat) (o : Oper) g want, pre[i]? = some o → o.guard = some (g, want) → g ∈ aft o ∧ ∃ og t, pre[g]? = some og ∧ og.dst = some t)
    (monoE : ∀ f, ∀ i, i < n → ∀ v x y, factM (Fs f) i v x → Ext x y → factM (Fs f) i v y)
    (dE : ∀ x, Ext w0 x → D w0 x) (dX : ∀ x y, D w0 x → Ext x y → D w0 y) (dR : ∀ x y, Ext w0 x → R x y → D w0 y)
    (monoM : ∀ i, i < n → i ≠ M → ∀ v x y, Ext w0 x → factM (Fs false) i v x → R x y → factM (Fs true) i v y) :
    ∀ (l : List Oper) (k : Nat), (∀ j, l[j]? = pre[k + j]?) → flagMObl P w0 tmps Fs S M D R l k → invObl P tmps (FlagMInv w0 n Fs M D) S l k
  | [], _, _, _ => trivial
  | o :: l, k, hl, h => by
    have hk : pre[k]? = some o := by simpa using (hl 0).symm
    have hkl : k < n := by rw [← hlen]; exact (List.getElem?_eq_some_iff.1 hk).1
    refine ⟨?_, flagM_obl hlen hdat hgrd monoE dE dX dR monoM l (k + 1) (fun j => by rw [show k + 1 + j = k + (j + 1) by omega, ← hl (j + 1)]; simp) h.2⟩
    intro d vs ρ w hI hd ha hc hf ht
    have hkn : known (Fs (d M)) tmps ρ w (S.getD k []) := known_of_told _ ht (fun t j m => by
      obtain ⟨m1, oj, m2, _⟩ := hdat k o t j hk m
      exact hI.2 j (by rw [← hlen]; exact (List.getElem?_eq_some_iff.1 m2).1) (ha j m1))
    have hgd : ∀ g want, o.guard = some (g, want) → factM (Fs (d M)) g (vs g) w := fun g want e => by
      obtain ⟨m1, og, t, m2, _⟩ := hgrd k o g want hk e
      exact hI.2 g (by rw [← hlen]; exact (List.getElem?_eq_some_iff.1 m2).1) (ha g m1)
    by_cases hkM : k = M
    · subst hkM
      have h1 := h.1
      rw [if_pos rfl] at h1
      rw [hd] at hkn
      have hE : Ext w0 w := by
        have h3 := hI.1
        rwa [if_neg (by rw [hd]; simp)] at h3
      have h2 := h1 ρ w hE hc hf hkn
      have next : ∀ v w', R w w' ∧ factM (Fs true) k v w' → FlagMInv w0 n Fs k D (updB d k) (updV vs k v) w' := by
        rintro v w' ⟨r1, r2⟩
        have ht : updB d k k = true := by simp [updB]
        refine ⟨by rw [if_pos ht]; exact dR _ _ hE r1, fun i hi hdi => ?_⟩
        rw [ht]
        by_cases hik : i = k
        · subst hik; simpa [updV] using r2
        · simp only [updB, hik, if_false] at hdi
          simp only [updV, hik, if_false]
          have h3 := hI.2 i hi hdi
          rw [hd] at h3
          exact monoM i hi hik _ _ _ hE h3 r1
      cases hg : o.guard with
      | none =>
        simp only [hg] at h2
        exact h2.mono next
      | some gw =>
        simp only [hg] at h2
    · have h1 := h.1
      rw [if_neg hkM] at h1
      have hD : D w0 w := by
        have h3 := hI.1
        split at h3
        · exact h3
        · exact dE _ h3
      have h2 := h1 (d M) ρ w hD hc hf hkn
      have next : ∀ v w', Ext w w' ∧ factM (Fs (d M)) k v w' → FlagMInv w0 n Fs M D (updB d k) (updV vs k v) w' := by
        rintro v w' ⟨r1, r2⟩
        have ht : updB d k M = d M := by simp only [updB, Ne.symm hkM, if_false]
        refine ⟨?_, fun i hi hdi => ?_⟩
        · rw [ht]
          have h3 := hI.1
          split at h3
          · rename_i q; rw [if_pos q]; exact dX _ _ h3 r1
          · rename_i q; rw [if_neg q]; exact h3.trans r1
        rw [ht]
        by_cases hik : i = k
        · subst hik; simpa [updV] using r2
        · simp only [updB, hik, if_false] at hdi
          simp only [updV, hik, if_false]
          exact monoE _ i hi _ _ _ (hI.2 i hi hdi) r1
      cases hg : o.guard with
      | none =>
        simp only [hg] at h2
        exact (invAt_of_flowAt (C := Ext) (w := w) (fun _ _ _ => Ext.trans) h2).mono next
      | some gw =>
        obtain ⟨g, want⟩ := gw
        simp only [hg] at h2
        obtain ⟨b1, b2⟩ := h2 _ (hgd g want hg)
        exact ⟨fun e => (invAt_of_flowAt (C := Ext) (w := w) (fun _ _ _ => Ext.trans) (b1 e)).mono next, fun e => next _ _ ⟨Ext.refl _, b2 e⟩⟩
/-- THE LAW. -/
theorem wp_region_flagM_at {id : Nat} {l : List Oper} (n M : Nat) (D R : World → World → Prop) {Q : Exit → Act → World → Prop} {w0 : World} {a0 : Act} (Fs : Bool → List (Value → World → Prop)) (S : List (List (Tmp × Option Nat)))
    (hm : P.follows .mixedOrders = true) (hB : flowB (l.take n) (l.drop n) S a0.tmps.size n = true) (hn : (Fs true).length = n) (hM : M < n)
    (dE : ∀ x, Ext w0.drew x → D w0.drew x) (dX : ∀ x y, D w0.drew x → Ext x y → D w0.drew y) (dR : ∀ x y, Ext w0.drew x → R x y → D w0.drew y)
    (monoE : ∀ f, ∀ i, i < n → ∀ v x y, factM (Fs f) i v x → Ext x y → factM (Fs f) i v y)
    (monoM : ∀ i, i < n → i ≠ M → ∀ v x y, Ext w0.drew x → factM (Fs false) i v x → R x y → factM (Fs true) i v y)
    (hobl : flagMObl P w0.drew a0.tmps Fs S M D R (l.take n) 0)
    (post : ∀ vs w, D w0.drew w → flowFacts vs w (Fs true) 0 → wpList P l.toArray Q (l.drop n) (putAll vs 0 (l.take n) a0) w) : (Code.region id l.toArray true).wp P Q a0 w0 := by
  have hlen : (l.take n).length = n := by
    have h := hB
    simp only [flowB, Bool.and_eq_true, beq_iff_eq] at h
    exact h.1.1.1.1
  have hok := flowOk_of hB
  refine wp_region_inv_at n (FlagMInv w0.drew n Fs M D) S hm (by rw [hlen]; exact hB) (fun vs => ⟨by rw [if_neg (by simp)]; exact Ext.refl _, fun i _ h => by cases h⟩)
    (flagM_obl hlen hok.data hok.guard monoE dE dX dR monoM (l.take n) 0 (fun j => by simp) hobl) (fun d vs w hI hd => ?_)
  have hMt : d M = true := hd M (by rw [hlen]; exact hM)
  refine post vs w (by have h3 := hI.1; rwa [if_pos hMt] at h3) (flowFacts_of _ 0 (fun i hi => ?_))
  have h := hI.2 i (by rw [← hn]; exact hi) (hd i (by rw [hlen, ← hn]; exact hi))
  rw [hMt] at h
  simpa using h
theorem invAt_appendO {o : Oper} {ρ : Operand → Value} (s x : Operand) (t : TypeId) (ho : o.op = .call { callee := .builtin .append, args := #[s, x], argTypes := #[t, t] })
    {w : World} {e : TypeId} {z : Value} {size bytes : Nat} (E : El P t e z size bytes) {a : Option Addr} {n c : Nat} (hs : ρ s = .slice a n c) {b : Option Addr} {m k : Nat} (hx : ρ x = .slice b m k) (val : List Value) (hrd : Rd w b val) (hlen : val.length = m * size) (hm : 0 < m) (hone : ∀ u ∈ val, u.oneCell' = true)
    {B : Nat} {xs : List Value} (hown : Own w B e size a n c xs) (ha : a = none ∧ n = 0 ∧ c = 0 ∧ xs = [] ∨ ∃ g, a = some ⟨g, 0, none⟩) (hB : B ≤ w.heap.size) (h63 : n + m ≤ maxLen) (hbytes : (n + m) * bytes ≤ 140737488355328) {K : Value → World → Prop}
    (h : ∀ g' c' w', Own w' B e size (some ⟨g', 0, none⟩) (n + m) c' (xs ++ val) → Ch (fun b => blkA a = some b) w w' → (blkA a = some g' ∨ w.heap.size ≤ g') → K (.slice (some ⟨g', 0, none⟩) (n + m) c') w') : invAt P o ρ w K := by
  unfold invAt execOp
  obtain ⟨b', o', rfl, hc⟩ := hrd.at (by rw [hlen]; exact Nat.mul_pos hm E.pos)
  have hcells : ∀ j u, val[j]? = some u → w.cell? ((⟨b', o', none⟩ : Addr).add j) = some u := by
    intro j u hj
    have hadd : (⟨b', o', none⟩ : Addr).add j = ⟨b', o' + j, none⟩ := by unfold Addr.add; split <;> simp_all
    rw [hadd]
    exact hc j u hj
  obtain ⟨g', c', w', hr, hO, hb, hs2⟩ := run_append_O (P := P) (ty := o.type) E (B := B) hB hown ha ⟨b', o', none⟩ m k val hlen hm hcells hone h63 hbytes
  simp only [ho, resolve, invoke, builtin, Sem.run_bind, Sem.run_pure, Result.andThen_ok, List.map_toArray, List.map_cons, List.map_nil, hs, hx, hr, invUpon]
  exact h g' c' w' hO hb hs2
end
end Go.Proofs.YtabljchbchjjcaaGreatDoor
end
section
namespace Go.Proofs.YtabljchbchjjcaaGreatDoor
set_option linter.unusedVariables false
set_option linter.unusedSimpArgs false
open Go Go.RowKit
/-- The last element is let go. -/
theorem Own.pop {w : World} {B : Nat} {e : TypeId} {g n c : Nat} {xs : List Value} {y : Value} (h : Own w B e 1 (some ⟨g, 0, none⟩) (n + 1) c (xs ++ [y])) : Own w B e 1 (some ⟨g, 0, none⟩) n c xs := by
  rcases h with ⟨h0, _, _⟩ | ⟨h1, h2⟩
  · omega
  · have hx : xs.length = n := by simpa using h1
    rcases h2 with ⟨hv, _⟩ | ⟨g0, cap, cur, hv, hbg, hcell, hnc, hcm, hcs, htake⟩
    · cases hv
    · simp only [Value.slice.injEq, Option.some.injEq, Addr.mk.injEq, and_true, true_and] at hv
      obtain ⟨rfl, rfl⟩ := hv
      refine .inr ⟨by omega, .inr ⟨g, c, cur, rfl, hbg, hcell, by omega, hcm, hcs, ?_⟩⟩
      have ht := congrArg (List.take n) htake
      rw [Nat.mul_one, List.take_take, List.take_append_of_le_length (by omega), List.take_of_length_le (l := xs) (by omega)] at ht
      rw [Nat.mul_one]
      rw [← ht]
      congr 1
      omega
def Kw (lb bb gL gB b : Nat) : Prop := b = lb ∨ b = bb ∨ b = gL ∨ b = gB
theorem El_u8 : El Tryz.prog 22 5 (.int .u8 0) 1 1 := by
  obtain ⟨i, h1, h2, h3, h4⟩ := info_parts (show (Tryz.prog.info? 5).map (fun i => (i.zero, i.size, i.bytes)) = some (some (.int .u8 0), 1, 1) by kernel_rfl)
  exact ⟨Tryz.underlying22, ⟨i, h1, h2, h3, h4⟩, rfl, by decide⟩
/-- The list and the buffer, in their boxes; A are blocks of others. -/
structure WsI (w : World) (B lb bb : Nat) (A : Nat → Prop) (gL cL gB cB : Nat) (l : List ByteArray) (s : List UInt8) : Prop where
  lx : Bx w lb 24 [.slice (some ⟨gL, 0, none⟩) l.length cL]
  bx : Bx w bb 22 [.slice (some ⟨gB, 0, none⟩) s.length cB]
  ol : Own w B 9 1 (some ⟨gL, 0, none⟩) l.length cL (strsV l)
  ob : Own w B 5 1 (some ⟨gB, 0, none⟩) s.length cB (bytesV s)
  ne : lb ≠ bb ∧ gL ≠ lb ∧ gL ≠ bb ∧ gB ≠ lb ∧ gB ≠ bb ∧ gL ≠ gB
  lt : gL < w.heap.size ∧ gB < w.heap.size
  lo : B ≤ lb ∧ B ≤ bb ∧ B ≤ gL ∧ B ≤ gB
  av : ∀ b, A b → ¬ Kw lb bb gL gB b
  al : ∀ b, A b → b < w.heap.size
def Wst (lb bb : Nat) (w w' : World) (gL gB gL' gB' : Nat) : Prop := Ch (Kw lb bb gL gB) w w' ∧ (gL' = gL ∨ w.heap.size ≤ gL') ∧ (gB' = gB ∨ w.heap.size ≤ gB')
section
variable {w w' w1 w2 : World} {B lb bb : Nat} {A A' : Nat → Prop} {gL cL gB cB gL' gB' gL2 gB2 g8 c8 : Nat} {l : List ByteArray} {s : List UInt8} {t : ByteArray} {u : UInt8}
theorem Wst.refl : Wst lb bb w w gL gB gL gB := ⟨Ch.refl _ _, .inl rfl, .inl rfl⟩
theorem Wst.of_ext (h : Ext w w') : Wst lb bb w w' gL gB gL gB := ⟨Ch.of_ext _ h, .inl rfl, .inl rfl⟩
theorem Wst.trans (h : Wst lb bb w w1 gL gB gL' gB') (k : Wst lb bb w1 w2 gL' gB' gL2 gB2) : Wst lb bb w w2 gL gB gL2 gB2 := by
  obtain ⟨h1, h2, h3⟩ := h
  obtain ⟨k1, k2, k3⟩ := k
  have hz := h1.size
  refine ⟨h1.next k1 (fun b hb e => ?_), ?_, ?_⟩
  · rcases e with e | e | e | e
    · exact .inl e
    · exact .inr (.inl e)
    · rcases h2 with q | q
      · exact .inr (.inr (.inl (by omega)))
      · omega
    · rcases h3 with q | q
      · exact .inr (.inr (.inr (by omega)))
      · omega
  · omega
  · omega
theorem WsI.ext (h : WsI w B lb bb A gL cL gB cB l s) (k : Ext w w') : WsI w' B lb bb A gL cL gB cB l s :=
  ⟨h.lx.ext k, h.bx.ext k, h.ol.ext k, h.ob.ext k, h.ne, ⟨Nat.lt_of_lt_of_le h.lt.1 k.size, Nat.lt_of_lt_of_le h.lt.2 k.size⟩, h.lo, h.av, fun b hb => Nat.lt_of_lt_of_le (h.al b hb) k.size⟩
theorem WsI.kw (h : WsI w B lb bb A gL cL gB cB l s) : ∀ b, Kw lb bb gL gB b → b < w.heap.size ∧ B ≤ b := by
  have h1 := h.lx.lt
  have h2 := h.bx.lt
  have h3 := h.lt
  have h4 := h.lo
  rintro b (e | e | e | e) <;> omega
theorem WsI.also (h : WsI w B lb bb A gL cL gB cB l s) (hA : ∀ b, A' b → b < w.heap.size ∧ ¬ Kw lb bb gL gB b) : WsI w B lb bb A' gL cL gB cB l s :=
  ⟨h.lx, h.bx, h.ol, h.ob, h.ne, h.lt, h.lo, fun b hb => (hA b hb).2, fun b hb => (hA b hb).1⟩
/-- A string is put behind the list. -/
theorem WsI.pushL (h : WsI w B lb bb A gL cL gB cB l s) (hx : Ext w w1) (ho : Own w2 B 9 1 (some ⟨g8, 0, none⟩) (l.length + 1) c8 (strsV l ++ [.string t])) (hc : Ch (fun b => blkA (some (⟨gL, 0, none⟩ : Addr)) = some b) w1 w2) (hs : blkA (some (⟨gL, 0, none⟩ : Addr)) = some g8 ∨ w1.heap.size ≤ g8) :
    WsI (w2.setCell ⟨lb, 0, none⟩ (.slice (some ⟨g8, 0, none⟩) (l.length + 1) c8)) B lb bb A g8 c8 gB cB (l ++ [t]) s ∧ Wst lb bb w (w2.setCell ⟨lb, 0, none⟩ (.slice (some ⟨g8, 0, none⟩) (l.length + 1) c8)) gL gB g8 gB := by
  obtain ⟨g9, e9, k1, k2, -, -⟩ := ho.form (by omega)
  simp only [Option.some.injEq, Addr.mk.injEq, and_true] at e9
  subst e9
  obtain ⟨n1, n2, n3, n4, n5, n6⟩ := h.ne
  have hll := h.lx.lt
  have hbl := h.bx.lt
  have hlt := h.lt
  have hz1 := hx.size
  have hz2 := hc.size
  have hset := Ch.set w2 lb 0 (.slice (some ⟨g8, 0, none⟩) (l.length + 1) c8)
  have hz3 := hset.size
  have hgl : ∀ b, blkA (some (⟨gL, 0, none⟩ : Addr)) = some b → b = gL := fun b e => by simpa [blkA] using e.symm
  have h8 : g8 = gL ∨ w.heap.size ≤ g8 := by
    rcases hs with e | e
    · exact .inl (hgl _ e)
    · exact .inr (by omega)
  have hch : Ch (Kw lb bb gL gB) w w2 := (Ch.of_ext _ hx).next hc (fun b _ e => .inr (.inr (.inl (hgl b e))))
  refine ⟨⟨?_, ?_, ?_, ?_, ⟨n1, by omega, by omega, n4, n5, by omega⟩, ⟨by omega, by omega⟩, ⟨h.lo.1, h.lo.2.1, k1, h.lo.2.2.2⟩, fun b hb e => ?_, fun b hb => by have := h.al b hb; omega⟩, hch.next hset (fun b _ e => .inl e), h8, .inl rfl⟩
  · rw [List.length_append]
    have := (((h.lx.ext hx).ch hc (fun e => n2 (hgl _ e).symm))).set 0 (.slice (some ⟨g8, 0, none⟩) (l.length + 1) c8)
    simpa using this
  · exact ((h.bx.ext hx).ch hc (fun e => n3 (hgl _ e).symm)).ch hset (fun e => n1 e.symm)
  · rw [List.length_append, strsV_append]
    exact hset.own ho (fun p e q => by simp only [Option.some.injEq] at e; subst e; simp only at q; omega)
  · exact hset.own (hc.own (h.ob.ext hx) (fun p e q => by simp only [Option.some.injEq] at e; subst e; have := hgl _ q; simp only at this; omega)) (fun p e q => by simp only [Option.some.injEq] at e; subst e; exact n4 q)
  · have h0 := h.av b hb
    have h1 := h.al b hb
    rcases e with e | e | e | e
    · exact h0 (.inl e)
    · exact h0 (.inr (.inl e))
    · rcases h8 with q | q
      · exact h0 (.inr (.inr (.inl (by omega))))
      · omega
    · exact h0 (.inr (.inr (.inr e)))
/-- A byte is put behind the buffer. -/
theorem WsI.pushB (h : WsI w B lb bb A gL cL gB cB l s) (hx : Ext w w1) (ho : Own w2 B 5 1 (some ⟨g8, 0, none⟩) (s.length + 1) c8 (bytesV s ++ [.int .u8 (u.toNat : Int)])) (hc : Ch (fun b => blkA (some (⟨gB, 0, none⟩ : Addr)) = some b) w1 w2) (hs : blkA (some (⟨gB, 0, none⟩ : Addr)) = some g8 ∨ w1.heap.size ≤ g8) :
    WsI (w2.setCell ⟨bb, 0, none⟩ (.slice (some ⟨g8, 0, none⟩) (s.length + 1) c8)) B lb bb A gL cL g8 c8 l (s ++ [u]) ∧ Wst lb bb w (w2.setCell ⟨bb, 0, none⟩ (.slice (some ⟨g8, 0, none⟩) (s.length + 1) c8)) gL gB gL g8 := by
  obtain ⟨g9, e9, k1, k2, -, -⟩ := ho.form (by omega)
  simp only [Option.some.injEq, Addr.mk.injEq, and_true] at e9
  subst e9
  obtain ⟨n1, n2, n3, n4, n5, n6⟩ := h.ne
  have hll := h.lx.lt
  have hbl := h.bx.lt
  have hlt := h.lt
  have hz1 := hx.size
  have hz2 := hc.size
  have hset := Ch.set w2 bb 0 (.slice (some ⟨g8, 0, none⟩) (s.length + 1) c8)
  have hz3 := hset.size
  have hgl : ∀ b, blkA (some (⟨gB, 0, none⟩ : Addr)) = some b → b = gB := fun b e => by simpa [blkA] using e.symm
  have h8 : g8 = gB ∨ w.heap.size ≤ g8 := by
    rcases hs with e | e
    · exact .inl (hgl _ e)
    · exact .inr (by omega)
  have hch : Ch (Kw lb bb gL gB) w w2 := (Ch.of_ext _ hx).next hc (fun b _ e => .inr (.inr (.inr (hgl b e))))
  refine ⟨⟨?_, ?_, ?_, ?_, ⟨n1, n2, n3, by omega, by omega, by omega⟩, ⟨by omega, by omega⟩, ⟨h.lo.1, h.lo.2.1, h.lo.2.2.1, k1⟩, fun b hb e => ?_, fun b hb => by have := h.al b hb; omega⟩, hch.next hset (fun b _ e => .inr (.inl e)), .inl rfl, h8⟩
  · exact ((h.lx.ext hx).ch hc (fun e => n4 (hgl _ e).symm)).ch hset (fun e => n1 e)
  · rw [List.length_append]
    have := (((h.bx.ext hx).ch hc (fun e => n5 (hgl _ e).symm))).set 0 (.slice (some ⟨g8, 0, none⟩) (s.length + 1) c8)
    simpa using this
  · exact hset.own (hc.own (h.ol.ext hx) (fun p e q => by simp only [Option.some.injEq] at e; subst e; have := hgl _ q; simp only at this; omega)) (fun p e q => by simp only [Option.some.injEq] at e; subst e; exact n3 q)
  · rw [List.length_append]
    have e2 : bytesV (s ++ [u]) = bytesV s ++ [.int .u8 (u.toNat : Int)] := by simp [bytesV]
    rw [e2]
    exact hset.own ho (fun p e q => by simp only [Option.some.injEq] at e; subst e; simp only at q; omega)
  · have h0 := h.av b hb
    have h1 := h.al b hb
    rcases e with e | e | e | e
    · exact h0 (.inl e)
    · exact h0 (.inr (.inl e))
    · exact h0 (.inr (.inr (.inl e)))
    · rcases h8 with q | q
      · exact h0 (.inr (.inr (.inr (by omega))))
      · omega
/-- The last byte is let go. -/
theorem WsI.popB (h : WsI w B lb bb A gL cL gB cB l (s ++ [u])) : WsI (w.setCell ⟨bb, 0, none⟩ (.slice (some ⟨gB, 0, none⟩) s.length cB)) B lb bb A gL cL gB cB l s ∧ Wst lb bb w (w.setCell ⟨bb, 0, none⟩ (.slice (some ⟨gB, 0, none⟩) s.length cB)) gL gB gL gB := by
  have hset := Ch.set w bb 0 (.slice (some ⟨gB, 0, none⟩) s.length cB)
  have hz3 := hset.size
  obtain ⟨n1, n2, n3, n4, n5, n6⟩ := h.ne
  have hlt := h.lt
  have e2 : bytesV (s ++ [u]) = bytesV s ++ [.int .u8 (u.toNat : Int)] := by simp [bytesV]
  have hob := h.ob
  rw [List.length_append, e2] at hob
  refine ⟨⟨h.lx.ch hset n1, ?_, hset.own h.ol (fun p e q => by simp only [Option.some.injEq] at e; subst e; exact n3 q), hset.own (Own.pop hob) (fun p e q => by simp only [Option.some.injEq] at e; subst e; exact n5 q), h.ne, ⟨by omega, by omega⟩, h.lo, h.av, fun b hb => by have := h.al b hb; omega⟩, hset.mono (fun b _ e => .inr (.inl e)), .inl rfl, .inl rfl⟩
  have := h.bx.set 0 (.slice (some ⟨gB, 0, none⟩) s.length cB)
  simpa using this
end
end Go.Proofs.YtabljchbchjjcaaGreatDoor
end
