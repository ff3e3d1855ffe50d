/- Worlds in which given blocks alone have changed; blocks by their object; append, with what stays. No condition. -/
import Derived.Test.YtlnccdbmchjhlaaDoorAppS
import Derived.Test.YtlnccdbmchjhlaaDoorMg1
import Derived.Maps.OwnOps
namespace Go.Proofs.YtlnccdbmchjhlaaDoor
set_option linter.unusedVariables false
set_option linter.unusedSimpArgs false
open Go Go.RowKit
/-- Of what there was, blocks of K alone have changed. -/
structure Ch (K : Nat → Prop) (w w' : World) : Prop where
  os : w'.os = w.os
  tape : w'.tape = w.tape
  output : w'.output = w.output
  size : w.heap.size ≤ w'.heap.size
  block : ∀ b, b < w.heap.size → ¬ K b → w'.heap[b]? = w.heap[b]?
section
variable {K J : Nat → Prop} {w w' x y z : World}
theorem Ch.refl (K : Nat → Prop) (w : World) : Ch K w w := ⟨rfl, rfl, rfl, Nat.le_refl _, fun _ _ _ => rfl⟩
theorem Ch.of_ext (K : Nat → Prop) (h : Ext w w') : Ch K w w' := ⟨h.below.os, h.below.tape, h.below.output, h.size, fun b hb _ => h.below.block b hb⟩
theorem Ch.next (h : Ch K x y) (k : Ch J y z) (hj : ∀ b, b < x.heap.size → J b → K b) : Ch K x z :=
  ⟨k.os.trans h.os, k.tape.trans h.tape, k.output.trans h.output, Nat.le_trans h.size k.size, fun b hb hn => (k.block b (Nat.lt_of_lt_of_le hb h.size) (fun q => hn (hj b hb q))).trans (h.block b hb hn)⟩
theorem Ch.trans (h : Ch K x y) (k : Ch K y z) : Ch K x z := h.next k (fun _ _ q => q)
theorem Ch.mono (h : Ch K x y) (hj : ∀ b, b < x.heap.size → K b → J b) : Ch J x y := ⟨h.os, h.tape, h.output, h.size, fun b hb hn => h.block b hb (fun q => hn (hj b hb q))⟩
theorem Ch.thenExt (h : Ch K x y) (k : Ext y z) : Ch K x z := h.trans (Ch.of_ext K k)
theorem Ch.ext (h : Ch K x y) (hk : ∀ b, b < x.heap.size → ¬ K b) : Ext x y := Ext.of ⟨h.os, h.tape, h.output, h.size, fun b hb => h.block b hb (hk b hb)⟩
theorem Ch.grown {row : Option Nat} (h : w.grownBy w' row) : Ch (fun b => row = some b) w w' := ⟨h.os, h.tape, h.output, h.size, fun b hb hn => h.block b hb (fun e => hn e.symm)⟩
theorem Ch.exc {g : Nat} (h : Exc g w w') : Ch (fun b => b = g) w w' := ⟨h.os, h.tape, h.output, h.size, fun b hb hn => h.block b hb hn⟩
theorem Ch.set (w : World) (b o : Nat) (u : Value) : Ch (fun q => q = b) w (w.setCell ⟨b, o, none⟩ u) := Ch.exc ((Exc.refl b w).setCell o u)
theorem Ch.cell (h : Ch K w w') {b o : Nat} {v : Value} (hv : w.cell? ⟨b, o, none⟩ = some v) (hb : ¬ K b) : w'.cell? ⟨b, o, none⟩ = some v := by
  have := h.block b (World.block_lt_of_cell? w _ hv) hb
  simpa only [World.cell?, this] using hv
theorem Ch.rd (h : Ch K w w') {a : Option Addr} {xs : List Value} (hr : Rd w a xs) (ha : ∀ p, a = some p → 0 < xs.length → ¬ K p.block) : Rd w' a xs := fun j u hj => by
  obtain ⟨b, o, e, hc⟩ := hr j u hj
  exact ⟨b, o, e, h.cell hc (ha _ e (by have := (List.getElem?_eq_some_iff.1 hj).1; omega))⟩
theorem Ch.own (h : Ch K w w') {B : Nat} {e : TypeId} {size : Nat} {a : Option Addr} {n c : Nat} {xs : List Value} (hr : Own w B e size a n c xs) (ha : ∀ p, a = some p → ¬ K p.block) : Own w' B e size a n c xs := by
  rcases hr with hr | ⟨h1, h2⟩
  · exact .inl hr
  · refine .inr ⟨h1, ?_⟩
    rcases h2 with h2 | ⟨g, cap, cur, hv, hg, hh, r⟩
    · exact .inl h2
    · refine .inr ⟨g, cap, cur, hv, hg, ?_, r⟩
      simp only [Value.slice.injEq] at hv
      rw [h.block g (Array.getElem?_eq_some_iff.1 hh).1 (ha _ hv.1)]
      exact hh
theorem Ch.map (h : Ch K w w') {P : Program} {k : TypeId} {R : Value → Option (DataW Unit × List MemPlace)} {b n : Nat} {D : DataW Unit} (hm : w.ownsMap P k R b n D) (hb : ¬ K b) : w'.ownsMap P k R b n D := by
  have hlt := hm.lt
  obtain ⟨es, clock, hh, F, hs, hD⟩ := hm
  exact ⟨es, clock, by rw [h.block b hlt hb]; exact hh, F, hs, hD⟩
end
/-- A block, by its cells; it may be written. -/
def Bx (w : World) (b : Nat) (t : TypeId) (vs : List Value) : Prop := w.heap[b]? = some (.cells vs.toArray t (0, 0))
theorem Bx.lt {w : World} {b : Nat} {t : TypeId} {vs : List Value} (h : Bx w b t vs) : b < w.heap.size := (Array.getElem?_eq_some_iff.1 h).1
theorem Bx.cell {w : World} {b : Nat} {t : TypeId} {vs : List Value} (h : Bx w b t vs) {i : Nat} {v : Value} (hi : vs[i]? = some v) : w.cell? ⟨b, i, none⟩ = some v := by
  rw [cell_of_row w b i vs.toArray t (0, 0) h]
  simpa using hi
theorem Bx.free {w : World} {b : Nat} {t : TypeId} {vs : List Value} (h : Bx w b t vs) (j : Nat) : w.frozen? ⟨b, j, none⟩ = false := by
  unfold Bx at h
  simp [World.frozen?, h]
theorem Bx.new (w : World) (t : TypeId) (vs : List Value) : Bx (w.alloc (.cells vs.toArray t)) w.heap.size t vs := heap_alloc_new w _
theorem Bx.ch {K : Nat → Prop} {w w' : World} {b : Nat} {t : TypeId} {vs : List Value} (h : Bx w b t vs) (k : Ch K w w') (hb : ¬ K b) : Bx w' b t vs := by
  unfold Bx
  rw [k.block b h.lt hb]
  exact h
theorem Bx.ext {w w' : World} {b : Nat} {t : TypeId} {vs : List Value} (h : Bx w b t vs) (k : Ext w w') : Bx w' b t vs := h.ch (Ch.of_ext (fun _ => False) k) (by simp)
theorem Bx.set {w : World} {b : Nat} {t : TypeId} {vs : List Value} (h : Bx w b t vs) (i : Nat) (u : Value) : Bx (w.setCell ⟨b, i, none⟩ u) b t (vs.set i u) := by
  have hlt := h.lt
  have h' : w.heap[b] = .cells vs.toArray t (0, 0) := by
    unfold Bx at h
    simpa [Array.getElem?_eq_getElem hlt] using h
  show (w.heap.modify b _)[b]? = _
  rw [Array.getElem?_eq_getElem (by simpa using hlt), Array.getElem_modify_self, h']
  simp
theorem rd_of_new {w : World} {b : Nat} (hb : w.heap.size = b) (xs : List Value) (t : TypeId) : Rd (w.alloc (.cells xs.toArray t)) (some ⟨b, 0, none⟩) xs := fun j u hj => by
  subst hb
  refine ⟨w.heap.size, 0, rfl, ?_⟩
  rw [Nat.zero_add]
  exact (Bx.new w t xs).cell hj
theorem Ch.below {K : Nat → Prop} {w w' : World} {B : Nat} (h : Ch K w w') (hB : B ≤ w.heap.size) (hk : ∀ b, K b → B ≤ b) : Below B w w' := ⟨h.os, h.tape, h.output, h.size, fun b hb => h.block b (by omega) (fun q => by have := hk b q; omega)⟩
def blkA (a : Option Addr) : Option Nat := a.map (·.block)
section
variable {P : Program}
/-- append of elements that can be read, to a list of one's own from its block's start or to none. -/
theorem run_append_O {w : World} {t ty e : TypeId} {z : Value} {size bytes : Nat} (E : El P t e z size bytes) {B : Nat} (hB : B ≤ w.heap.size)
    {a : Option Addr} {n c : Nat} {xs : List Value} (hown : Own w B e size a n c xs) (ha : a = none ∧ n = 0 ∧ c = 0 ∧ xs = [] ∨ ∃ g, a = some ⟨g, 0, none⟩) (ad : Addr) (m k : Nat) (news : List Value) (hl : news.length = m * size) (hm : 0 < m)
    (hnews : ∀ j u, news[j]? = some u → w.cell? (ad.add j) = some u) (h1 : ∀ u ∈ news, u.oneCell' = true) (h63 : n + m ≤ maxLen) (hbytes : (n + m) * bytes ≤ 140737488355328) :
    ∃ g' c' w', (Builtin.append_ #[t, t] ty #[.slice a n c, .slice (some ad) m k]).run P w = .ok (.slice (some ⟨g', 0, none⟩) (n + m) c') w' ∧ Own w' B e size (some ⟨g', 0, none⟩) (n + m) c' (xs ++ news) ∧ Ch (fun b => blkA a = some b) w w' ∧ (blkA a = some g' ∨ w.heap.size ≤ g') := by
  rcases ha with ⟨rfl, rfl, rfl, rfl⟩ | ⟨g, rfl⟩
  · obtain ⟨a', c', w', hr, ho, hb⟩ := run_append_Own (P := P) (ty := ty) E (w := w) (B := w.heap.size) (Nat.le_refl _) (Own.empty w _ e size none) ad m k news hl hm hnews h1 h63 hbytes
    obtain ⟨g', rfl, hg, -⟩ := ho.form (by omega)
    exact ⟨g', c', w', hr, ho.mono hB, Ch.of_ext _ hb, .inr hg⟩
  · obtain ⟨g', c', w', hr, ho, hg, hs⟩ := run_append_sep (P := P) (ty := ty) E hB hown ad m k news hl hm hnews h1 h63 hbytes
    exact ⟨g', c', w', hr, ho, (Ch.grown hg).mono (fun b _ q => by simpa [blkA] using q), hs.imp (fun e => by simp [blkA, e]) id⟩
theorem wpList_appendO {ops : Array Oper} {rest : List Oper} {o : Oper} {ac : Act} {Q : Exit → Act → World → Prop} (hgd : o.guard = none) (s x : Operand) (t : TypeId)
    (ho : o.op = .call { callee := .builtin .append, args := #[s, x], argTypes := #[t, t] }) {w : World} {e : TypeId} {z : Value} {size bytes : Nat} (E : El P t e z size bytes)
    {a : Option Addr} {n c : Nat} (hs : ac.eval s = .slice a n c) {b : Option Addr} {m k : Nat} (hx : ac.eval x = .slice b m k) (val : List Value) (hrd : Rd w b val) (hlen : val.length = m * size) (hm : 0 < m) (hone : ∀ u ∈ val, u.oneCell' = true)
    {B : Nat} {xs : List Value} (hown : Own w B e size a n c xs) (ha : a = none ∧ n = 0 ∧ c = 0 ∧ xs = [] ∨ ∃ g, a = some ⟨g, 0, none⟩) (hB : B ≤ w.heap.size) (h63 : n + m ≤ maxLen) (hbytes : (n + m) * bytes ≤ 140737488355328)
    (h : ∀ g' c' w', Own w' B e size (some ⟨g', 0, none⟩) (n + m) c' (xs ++ val) → Ch (fun b => blkA a = some b) w w' → (blkA a = some g' ∨ w.heap.size ≤ g') → wpList P ops Q rest (ac.put o.dst (.slice (some ⟨g', 0, none⟩) (n + m) c')) w') :
    wpList P ops Q (o :: rest) ac w := by
  refine wpList_plain hgd fun K hK => ?_
  obtain ⟨b', o', rfl, hc⟩ := hrd.at (by rw [hlen]; exact Nat.mul_pos hm E.pos)
  have hcells : ∀ j u, val[j]? = some u → w.cell? ((⟨b', o', none⟩ : Addr).add j) = some u := by
    intro j u hj
    have hadd : (⟨b', o', none⟩ : Addr).add j = ⟨b', o' + j, none⟩ := by unfold Addr.add; split <;> simp_all
    rw [hadd]
    exact hc j u hj
  obtain ⟨g', c', w', hr, hO, hb, hs2⟩ := run_append_O (P := P) (ty := o.type) E (B := B) hB hown ha ⟨b', o', none⟩ m k val hlen hm hcells hone h63 hbytes
  unfold Oper.wp execOp
  simp only [ho, resolve, invoke, builtin, Sem.run_bind, Sem.run_pure, Result.andThen_ok, List.map_toArray, List.map_cons, List.map_nil, hs, hx, hr]
  exact hK _ _ (h g' c' w' hO hb hs2)
end
end Go.Proofs.YtlnccdbmchjhlaaDoor
