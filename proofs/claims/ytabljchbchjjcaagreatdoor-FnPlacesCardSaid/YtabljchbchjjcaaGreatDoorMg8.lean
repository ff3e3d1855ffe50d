/- Several texts in one: AppS, ChW, Dg5. Conditions: see each. -/
import Derived.Test.YtabljchbchjjcaaGreatDoorApp0
import Derived.Test.YtabljchbchjjcaaGreatDoorMg1
import Derived.Maps.OwnOps
import Derived.Test.YtabljchbchjjcaaGreatDoorDg4
section
namespace Go.Proofs.YtabljchbchjjcaaGreatDoor
set_option linter.unusedVariables false
set_option linter.unusedSimpArgs false
open Go Go.RowKit
section
variable {P : Program}
theorem run_append_sep {w : World} {t ty e : TypeId} {z : Value} {size bytes : Nat} (E : El P t e z size bytes) {B : Nat} (hB : B ≤ w.heap.size)
    {g n c : Nat} {xs : List Value} (hown : Own w B e size (some ⟨g, 0, none⟩) n c xs) (ad : Addr) (m k : Nat) (news : List Value) (hl : news.length = m * size) (hm : 0 < m)
    (hnews : ∀ j u, news[j]? = some u → w.cell? (ad.add j) = some u) (h1 : ∀ u ∈ news, u.oneCell' = true) (h63 : n + m ≤ maxLen) (hbytes : (n + m) * bytes ≤ 140737488355328) :
    ∃ g' c' w', (Builtin.append_ #[t, t] ty #[.slice (some ⟨g, 0, none⟩) n c, .slice (some ad) m k]).run P w = .ok (.slice (some ⟨g', 0, none⟩) (n + m) c') w' ∧ Own w' B e size (some ⟨g', 0, none⟩) (n + m) c' (xs ++ news) ∧ w.grownBy w' (some g) ∧ (g' = g ∨ w.heap.size ≤ g') := by
  obtain ⟨i, hi, hz, hs, hb⟩ := E.info
  have h63' := h63
  simp only [maxLen] at h63'
  have grow : ∀ (olds : List Value), n + m ≤ c ∨ (olds.length = n * i.size ∧ ∀ j v, olds[j]? = some v → w.cell? ((⟨g, 0, none⟩ : Addr).add j) = some v) → ¬ n + m ≤ c →
      (Builtin.append_ #[t, t] ty #[.slice (some ⟨g, 0, none⟩) n c, .slice (some ad) m k]).run P w = .ok (.slice (some ⟨w.heap.size, 0, none⟩) (n + m) (grownCap w (n + m) c e)) (w.drew.alloc (.cells (olds.toArray ++ news.toArray ++ Builtin.zeroCells z.cells (grownCap w (n + m) c e - (n + m))) e)) := by
    intro olds ho hr
    rcases ho with ho | ⟨ho1, ho2⟩
    · exact absurd ho hr
    · exact run_append_grow (P := P) w t ty e i z E.under hi hz ⟨g, 0, none⟩ n c olds ho1 ho2 ad m k news (by rw [hs]; exact hl) hnews (by omega) (by omega) (growslice_fits (by omega) (by rw [hb]; exact hbytes))
  rcases hown with ⟨rfl, rfl, rfl⟩ | h
  · have hr := grow [] (.inr ⟨by simp, by simp⟩) (by omega)
    refine ⟨_, _, _, hr, .inr ⟨by rw [List.nil_append, hl, Nat.zero_add], .inr ⟨w.heap.size, _, _, rfl, hB, heap_alloc_new w.drew _, grownCap_ge w _ _ _, grownCap_le_maxLen w _ _ e h63, ?_, ?_⟩⟩, ⟨rfl, rfl, rfl, by simp, fun q hq _ => heap_alloc_old _ _ (by simpa using hq)⟩, .inr (Nat.le_refl _)⟩
    · have hge := grownCap_ge w (0 + m) 0 e
      simp only [Array.size_append, List.size_toArray, size_zeroCells, E.zsize, hl, List.length_nil, Nat.zero_add] at hge ⊢
      rw [← Nat.add_mul]
      congr 1
      omega
    · simp only [Array.toList_append, List.nil_append, Nat.zero_add]
      rw [← hl]
      exact List.take_left
  · obtain ⟨v', w', hr, ho, hg, _⟩ := run_append_own (P := P) w B t ty e i z size bytes E.under hi hz hs hb E.zsize E.pos (.slice (some ⟨g, 0, none⟩) n c) n xs h ad m k news hl hnews h1 h63 hbytes hB
    rcases h.2 with ⟨hv, _⟩ | ⟨g0, cap, cur, hv, hbg, hcell, hnc, hcm, hcs, htake⟩
    · cases hv
    · simp only [Value.slice.injEq, Option.some.injEq, Addr.mk.injEq, and_true, true_and] at hv
      obtain ⟨rfl, rfl⟩ := hv
      by_cases hroom : n + m ≤ c
      · have hfit : n * i.size + news.length ≤ cur.size := by rw [hl, hcs, ← hs, ← Nat.add_mul]; exact Nat.mul_le_mul_right _ hroom
        have hr2 := run_append_room (P := P) w t ty e i E.under hi g n c cur hcell ad m k news (by rw [hs]; exact hl) hnews h1 hroom hfit
        have e := hr.symm.trans hr2
        injection e with e1 e2
        subst e1
        exact ⟨g, c, w', hr, .inr ho, hg, .inl rfl⟩
      · have hr2 := grow xs (.inr ⟨by rw [hs]; exact h.1, h.cells (g := g) rfl⟩) hroom
        have e := hr.symm.trans hr2
        injection e with e1 e2
        subst e1
        exact ⟨w.heap.size, _, w', hr, .inr ho, hg, .inr (Nat.le_refl _)⟩
/-- 'out = append(out, x)': what else there is stays. -/
theorem wpList_pushS {ops : Array Oper} {rest : List Oper} {o : Oper} {ac : Act} {Q : Exit → Act → World → Prop} (hgd : o.guard = none) (s x : Operand) (t : TypeId)
    (ho : o.op = .call { callee := .builtin .append, args := #[s, x], argTypes := #[t, t] }) {w : World} {e : TypeId} {z : Value} {size bytes : Nat} (E : El P t e z size bytes)
    {g n c : Nat} (hs : ac.eval s = .slice (some ⟨g, 0, none⟩) n c) (val : List Value) (hx : ac.eval x = .slice (some ⟨w.heap.size, 0, none⟩) 1 1) (hlen : val.length = size) (hone : ∀ u ∈ val, u.oneCell' = true)
    {B : Nat} {xs : List Value} (hown : Own w B e size (some ⟨g, 0, none⟩) n c xs) (hB : B ≤ w.heap.size) (h63 : n + 1 ≤ maxLen) (hbytes : (n + 1) * bytes ≤ 140737488355328)
    (h : ∀ g' c' w', Own w' B e size (some ⟨g', 0, none⟩) (n + 1) c' (xs ++ val) → w.grownBy w' (some g) → (g' = g ∨ w.heap.size ≤ g') → wpList P ops Q rest (ac.put o.dst (.slice (some ⟨g', 0, none⟩) (n + 1) c')) w') :
    wpList P ops Q (o :: rest) ac (w.alloc (.cells val.toArray e)) := by
  refine wpList_plain hgd fun K hK => ?_
  have hcells : ∀ j u, val[j]? = some u → (w.alloc (.cells val.toArray e)).cell? ((⟨w.heap.size, 0, none⟩ : Addr).add j) = some u := by
    intro j u hj
    have hadd : (⟨w.heap.size, 0, none⟩ : Addr).add j = ⟨w.heap.size, j, none⟩ := by unfold Addr.add; split <;> simp_all
    rw [hadd, cell_of_row _ w.heap.size j val.toArray e (0, 0) (heap_alloc_new w _)]
    simpa using hj
  obtain ⟨g', c', w', hr, hO, hb, hsep⟩ := run_append_sep (P := P) (ty := o.type) E (w := w.alloc (.cells val.toArray e)) (B := B) (by simp; omega) (hown.ext ((Ext.refl w).alloc _)) ⟨w.heap.size, 0, none⟩ 1 1 val (by rw [hlen]; omega) (by omega) hcells hone h63 hbytes
  unfold Oper.wp execOp
  simp only [ho, resolve, invoke, builtin, Sem.run_bind, Sem.run_pure, Result.andThen_ok, List.map_toArray, List.map_cons, List.map_nil, hs, hx, hr]
  have hsz : (w.alloc (.cells val.toArray e)).heap.size = w.heap.size + 1 := by simp
  refine hK _ _ (h g' c' w' hO ⟨hb.os, hb.tape, hb.output, by have := hb.size; omega, fun q hq hne => (hb.block q (by omega) hne).trans (heap_alloc_old _ _ hq)⟩ (hsep.imp id fun h => by omega))
end
theorem Own.grownBy {w w' : World} {B : Nat} {e : TypeId} {size : Nat} {g n c : Nat} {xs : List Value} {row : Option Nat} (h : Own w B e size (some ⟨g, 0, none⟩) n c xs) (k : w.grownBy w' row) (hne : some g ≠ row) : Own w' B e size (some ⟨g, 0, none⟩) n c xs := by
  rcases h with h | h
  · exact .inl h
  · exact .inr (h.kept k (.inr (by simpa [Value.ownBlock] using fun e => hne (by rw [← e]))))
theorem Own.belowR {w w' : World} {B Bq : Nat} {e : TypeId} {size : Nat} {g n c : Nat} {xs : List Value} (h : Own w B e size (some ⟨g, 0, none⟩) n c xs) (k : Below Bq w w') (hg : c = 0 ∨ g < Bq) : Own w' B e size (some ⟨g, 0, none⟩) n c xs := by
  rcases h with h | ⟨h1, h2⟩
  · exact .inl h
  · rcases h2 with ⟨hv, _⟩ | ⟨g0, cap, cur, hv, hbg, hcell, hnc, hcm, hcs, htake⟩
    · cases hv
    · simp only [Value.slice.injEq, Option.some.injEq, Addr.mk.injEq, and_true, true_and] at hv
      obtain ⟨rfl, rfl⟩ := hv
      rcases hg with rfl | hg
      · left
        have : n = 0 := by omega
        subst this
        exact ⟨rfl, rfl, List.eq_nil_of_length_eq_zero (by rw [h1]; simp)⟩
      · exact .inr ⟨h1, .inr ⟨g, c, cur, rfl, hbg, by rw [k.block g hg]; exact hcell, hnc, hcm, hcs, htake⟩⟩
/-- The row cut to nothing. -/
theorem Own.cut {w : World} {B : Nat} {e : TypeId} {size : Nat} {g n c : Nat} {xs : List Value} (h : Own w B e size (some ⟨g, 0, none⟩) n c xs) : Own w B e size (some ⟨g, 0, none⟩) 0 c [] := by
  rcases h with ⟨_, rfl, _⟩ | ⟨h1, h2⟩
  · exact .inl ⟨rfl, rfl, rfl⟩
  · rcases h2 with ⟨hv, _⟩ | ⟨g0, cap, cur, hv, hbg, hcell, hnc, hcm, hcs, htake⟩
    · cases hv
    · simp only [Value.slice.injEq, Option.some.injEq, Addr.mk.injEq, and_true, true_and] at hv
      obtain ⟨rfl, rfl⟩ := hv
      exact .inr ⟨by simp, .inr ⟨g, c, cur, rfl, hbg, hcell, by omega, hcm, hcs, by simp⟩⟩
theorem Rd.grownBy {w w' : World} {q o : Nat} {xs : List Value} {row : Option Nat} (h : Rd w (some ⟨q, o, none⟩) xs) (k : w.grownBy w' row) (hq : q < w.heap.size) (hne : some q ≠ row) : Rd w' (some ⟨q, o, none⟩) xs := fun j u hj => by
  obtain ⟨b', o', ha, hc⟩ := h j u hj
  simp only [Option.some.injEq, Addr.mk.injEq, and_true] at ha
  obtain ⟨rfl, rfl⟩ := ha
  refine ⟨q, o, rfl, ?_⟩
  rw [← hc]
  have := k.block q hq hne
  simp only [World.cell?, this]
end Go.Proofs.YtabljchbchjjcaaGreatDoor
end
section
namespace Go.Proofs.YtabljchbchjjcaaGreatDoor
set_option linter.unusedVariables false
set_option linter.unusedSimpArgs false
open Go Go.RowKit
/-- Of what there was, blocks of K alone have changed. -/
structure Ch (K : Nat → Prop) (w w' : World) : Prop where
  os : w'.os = w.os
  tape : w'.tape = w.tape
  output : w'.output = w.output
  size : w.heap.size ≤ w'.heap.size
  block : ∀ b, b < w.heap.size → ¬ K b → w'.heap[b]? = w.heap[b]?
section
variable {K J : Nat → Prop} {w w' x y z : World}
theorem Ch.refl (K : Nat → Prop) (w : World) : Ch K w w := ⟨rfl, rfl, rfl, Nat.le_refl _, fun _ _ _ => rfl⟩
theorem Ch.of_ext (K : Nat → Prop) (h : Ext w w') : Ch K w w' := ⟨h.below.os, h.below.tape, h.below.output, h.size, fun b hb _ => h.below.block b hb⟩
theorem Ch.next (h : Ch K x y) (k : Ch J y z) (hj : ∀ b, b < x.heap.size → J b → K b) : Ch K x z :=
  ⟨k.os.trans h.os, k.tape.trans h.tape, k.output.trans h.output, Nat.le_trans h.size k.size, fun b hb hn => (k.block b (Nat.lt_of_lt_of_le hb h.size) (fun q => hn (hj b hb q))).trans (h.block b hb hn)⟩
theorem Ch.trans (h : Ch K x y) (k : Ch K y z) : Ch K x z := h.next k (fun _ _ q => q)
theorem Ch.mono (h : Ch K x y) (hj : ∀ b, b < x.heap.size → K b → J b) : Ch J x y := ⟨h.os, h.tape, h.output, h.size, fun b hb hn => h.block b hb (fun q => hn (hj b hb q))⟩
theorem Ch.thenExt (h : Ch K x y) (k : Ext y z) : Ch K x z := h.trans (Ch.of_ext K k)
theorem Ch.ext (h : Ch K x y) (hk : ∀ b, b < x.heap.size → ¬ K b) : Ext x y := Ext.of ⟨h.os, h.tape, h.output, h.size, fun b hb => h.block b hb (hk b hb)⟩
theorem Ch.grown {row : Option Nat} (h : w.grownBy w' row) : Ch (fun b => row = some b) w w' := ⟨h.os, h.tape, h.output, h.size, fun b hb hn => h.block b hb (fun e => hn e.symm)⟩
theorem Ch.exc {g : Nat} (h : Exc g w w') : Ch (fun b => b = g) w w' := ⟨h.os, h.tape, h.output, h.size, fun b hb hn => h.block b hb hn⟩
theorem Ch.set (w : World) (b o : Nat) (u : Value) : Ch (fun q => q = b) w (w.setCell ⟨b, o, none⟩ u) := Ch.exc ((Exc.refl b w).setCell o u)
theorem Ch.cell (h : Ch K w w') {b o : Nat} {v : Value} (hv : w.cell? ⟨b, o, none⟩ = some v) (hb : ¬ K b) : w'.cell? ⟨b, o, none⟩ = some v := by
  have := h.block b (World.block_lt_of_cell? w _ hv) hb
  simpa only [World.cell?, this] using hv
theorem Ch.rd (h : Ch K w w') {a : Option Addr} {xs : List Value} (hr : Rd w a xs) (ha : ∀ p, a = some p → 0 < xs.length → ¬ K p.block) : Rd w' a xs := fun j u hj => by
  obtain ⟨b, o, e, hc⟩ := hr j u hj
  exact ⟨b, o, e, h.cell hc (ha _ e (by have := (List.getElem?_eq_some_iff.1 hj).1; omega))⟩
theorem Ch.own (h : Ch K w w') {B : Nat} {e : TypeId} {size : Nat} {a : Option Addr} {n c : Nat} {xs : List Value} (hr : Own w B e size a n c xs) (ha : ∀ p, a = some p → ¬ K p.block) : Own w' B e size a n c xs := by
  rcases hr with hr | ⟨h1, h2⟩
  · exact .inl hr
  · refine .inr ⟨h1, ?_⟩
    rcases h2 with h2 | ⟨g, cap, cur, hv, hg, hh, r⟩
    · exact .inl h2
    · refine .inr ⟨g, cap, cur, hv, hg, ?_, r⟩
      simp only [Value.slice.injEq] at hv
      rw [h.block g (Array.getElem?_eq_some_iff.1 hh).1 (ha _ hv.1)]
      exact hh
theorem Ch.map (h : Ch K w w') {P : Program} {k : TypeId} {R : Value → Option (DataW Unit × List MemPlace)} {b n : Nat} {D : DataW Unit} (hm : w.ownsMap P k R b n D) (hb : ¬ K b) : w'.ownsMap P k R b n D := by
  have hlt := hm.lt
  obtain ⟨es, clock, hh, F, hs, hD⟩ := hm
  exact ⟨es, clock, by rw [h.block b hlt hb]; exact hh, F, hs, hD⟩
end
/-- A block, by its cells; it may be written. -/
def Bx (w : World) (b : Nat) (t : TypeId) (vs : List Value) : Prop := w.heap[b]? = some (.cells vs.toArray t (0, 0))
theorem Bx.lt {w : World} {b : Nat} {t : TypeId} {vs : List Value} (h : Bx w b t vs) : b < w.heap.size := (Array.getElem?_eq_some_iff.1 h).1
theorem Bx.cell {w : World} {b : Nat} {t : TypeId} {vs : List Value} (h : Bx w b t vs) {i : Nat} {v : Value} (hi : vs[i]? = some v) : w.cell? ⟨b, i, none⟩ = some v := by
  rw [cell_of_row w b i vs.toArray t (0, 0) h]
  simpa using hi
theorem Bx.free {w : World} {b : Nat} {t : TypeId} {vs : List Value} (h : Bx w b t vs) (j : Nat) : w.frozen? ⟨b, j, none⟩ = false := by
  unfold Bx at h
  simp [World.frozen?, h]
theorem Bx.new (w : World) (t : TypeId) (vs : List Value) : Bx (w.alloc (.cells vs.toArray t)) w.heap.size t vs := heap_alloc_new w _
theorem Bx.ch {K : Nat → Prop} {w w' : World} {b : Nat} {t : TypeId} {vs : List Value} (h : Bx w b t vs) (k : Ch K w w') (hb : ¬ K b) : Bx w' b t vs := by
  unfold Bx
  rw [k.block b h.lt hb]
  exact h
theorem Bx.ext {w w' : World} {b : Nat} {t : TypeId} {vs : List Value} (h : Bx w b t vs) (k : Ext w w') : Bx w' b t vs := h.ch (Ch.of_ext (fun _ => False) k) (by simp)
theorem Bx.set {w : World} {b : Nat} {t : TypeId} {vs : List Value} (h : Bx w b t vs) (i : Nat) (u : Value) : Bx (w.setCell ⟨b, i, none⟩ u) b t (vs.set i u) := by
  have hlt := h.lt
  have h' : w.heap[b] = .cells vs.toArray t (0, 0) := by
    unfold Bx at h
    simpa [Array.getElem?_eq_getElem hlt] using h
  show (w.heap.modify b _)[b]? = _
  rw [Array.getElem?_eq_getElem (by simpa using hlt), Array.getElem_modify_self, h']
  simp
theorem rd_of_new {w : World} {b : Nat} (hb : w.heap.size = b) (xs : List Value) (t : TypeId) : Rd (w.alloc (.cells xs.toArray t)) (some ⟨b, 0, none⟩) xs := fun j u hj => by
  subst hb
  refine ⟨w.heap.size, 0, rfl, ?_⟩
  rw [Nat.zero_add]
  exact (Bx.new w t xs).cell hj
theorem Ch.below {K : Nat → Prop} {w w' : World} {B : Nat} (h : Ch K w w') (hB : B ≤ w.heap.size) (hk : ∀ b, K b → B ≤ b) : Below B w w' := ⟨h.os, h.tape, h.output, h.size, fun b hb => h.block b (by omega) (fun q => by have := hk b q; omega)⟩
def blkA (a : Option Addr) : Option Nat := a.map (·.block)
section
variable {P : Program}
/-- append of elements that can be read, to a list of one's own from its block's start or to none. -/
theorem run_append_O {w : World} {t ty e : TypeId} {z : Value} {size bytes : Nat} (E : El P t e z size bytes) {B : Nat} (hB : B ≤ w.heap.size)
    {a : Option Addr} {n c : Nat} {xs : List Value} (hown : Own w B e size a n c xs) (ha : a = none ∧ n = 0 ∧ c = 0 ∧ xs = [] ∨ ∃ g, a = some ⟨g, 0, none⟩) (ad : Addr) (m k : Nat) (news : List Value) (hl : news.length = m * size) (hm : 0 < m)
    (hnews : ∀ j u, news[j]? = some u → w.cell? (ad.add j) = some u) (h1 : ∀ u ∈ news, u.oneCell' = true) (h63 : n + m ≤ maxLen) (hbytes : (n + m) * bytes ≤ 140737488355328) :
    ∃ g' c' w', (Builtin.append_ #[t, t] ty #[.slice a n c, .slice (some ad) m k]).run P w = .ok (.slice (some ⟨g', 0, none⟩) (n + m) c') w' ∧ Own w' B e size (some ⟨g', 0, none⟩) (n + m) c' (xs ++ news) ∧ Ch (fun b => blkA a = some b) w w' ∧ (blkA a = some g' ∨ w.heap.size ≤ g') := by
  rcases ha with ⟨rfl, rfl, rfl, rfl⟩ | ⟨g, rfl⟩
  · obtain ⟨a', c', w', hr, ho, hb⟩ := run_append_Own (P := P) (ty := ty) E (w := w) (B := w.heap.size) (Nat.le_refl _) (Own.empty w _ e size none) ad m k news hl hm hnews h1 h63 hbytes
    obtain ⟨g', rfl, hg, -⟩ := ho.form (by omega)
    exact ⟨g', c', w', hr, ho.mono hB, Ch.of_ext _ hb, .inr hg⟩
  · obtain ⟨g', c', w', hr, ho, hg, hs⟩ := run_append_sep (P := P) (ty := ty) E hB hown ad m k news hl hm hnews h1 h63 hbytes
    exact ⟨g', c', w', hr, ho, (Ch.grown hg).mono (fun b _ q => by simpa [blkA] using q), hs.imp (fun e => by simp [blkA, e]) id⟩
theorem wpList_appendO {ops : Array Oper} {rest : List Oper} {o : Oper} {ac : Act} {Q : Exit → Act → World → Prop} (hgd : o.guard = none) (s x : Operand) (t : TypeId)
    (ho : o.op = .call { callee := .builtin .append, args := #[s, x], argTypes := #[t, t] }) {w : World} {e : TypeId} {z : Value} {size bytes : Nat} (E : El P t e z size bytes)
    {a : Option Addr} {n c : Nat} (hs : ac.eval s = .slice a n c) {b : Option Addr} {m k : Nat} (hx : ac.eval x = .slice b m k) (val : List Value) (hrd : Rd w b val) (hlen : val.length = m * size) (hm : 0 < m) (hone : ∀ u ∈ val, u.oneCell' = true)
    {B : Nat} {xs : List Value} (hown : Own w B e size a n c xs) (ha : a = none ∧ n = 0 ∧ c = 0 ∧ xs = [] ∨ ∃ g, a = some ⟨g, 0, none⟩) (hB : B ≤ w.heap.size) (h63 : n + m ≤ maxLen) (hbytes : (n + m) * bytes ≤ 140737488355328)
    (h : ∀ g' c' w', Own w' B e size (some ⟨g', 0, none⟩) (n + m) c' (xs ++ val) → Ch (fun b => blkA a = some b) w w' → (blkA a = some g' ∨ w.heap.size ≤ g') → wpList P ops Q rest (ac.put o.dst (.slice (some ⟨g', 0, none⟩) (n + m) c')) w') :
    wpList P ops Q (o :: rest) ac w := by
  refine wpList_plain hgd fun K hK => ?_
  obtain ⟨b', o', rfl, hc⟩ := hrd.at (by rw [hlen]; exact Nat.mul_pos hm E.pos)
  have hcells : ∀ j u, val[j]? = some u → w.cell? ((⟨b', o', none⟩ : Addr).add j) = some u := by
    intro j u hj
    have hadd : (⟨b', o', none⟩ : Addr).add j = ⟨b', o' + j, none⟩ := by unfold Addr.add; split <;> simp_all
    rw [hadd]
    exact hc j u hj
  obtain ⟨g', c', w', hr, hO, hb, hs2⟩ := run_append_O (P := P) (ty := o.type) E (B := B) hB hown ha ⟨b', o', none⟩ m k val hlen hm hcells hone h63 hbytes
  unfold Oper.wp execOp
  simp only [ho, resolve, invoke, builtin, Sem.run_bind, Sem.run_pure, Result.andThen_ok, List.map_toArray, List.map_cons, List.map_nil, hs, hx, hr]
  exact hK _ _ (h g' c' w' hO hb hs2)
end
end Go.Proofs.YtabljchbchjjcaaGreatDoor
end
section
namespace Go.Proofs.YtabljchbchjjcaaGreatDoor
set_option linter.unusedVariables false
set_option linter.unusedSimpArgs false
open Go Go.RowKit
def eqDg (L M : List NdP) : Bool := decide (L.length = M.length) && (List.range L.length).all fun i => eqNd (ndAt L i).nd (ndAt M i).nd
theorem ndAt_of (L : List NdP) (k : Nat) : (ndAt L k).nd = (ndsOf L).getD k noNd.nd := by
  unfold ndAt ndsOf
  rw [List.getD_eq_getElem?_getD, List.getD_eq_getElem?_getD, List.getElem?_map]
  cases L[k]? <;> rfl
theorem eqDg_congr {L L' M M' : List NdP} (h : ndsOf L = ndsOf L') (k : ndsOf M = ndsOf M') : eqDg L M = eqDg L' M' := by
  have h1 : L.length = L'.length := by rw [← ndsOf_length, h, ndsOf_length]
  have h2 : M.length = M'.length := by rw [← ndsOf_length, k, ndsOf_length]
  unfold eqDg
  rw [h1, h2]
  congr 1
  congr 1
  funext i
  rw [ndAt_of, ndAt_of, ndAt_of, ndAt_of, h, k]
theorem eqDg_len {L M : List NdP} (h : L.length ≠ M.length) : eqDg L M = false := by unfold eqDg; rw [decide_eq_false h]; rfl
theorem eqDg_no {L M : List NdP} (k : Nat) (hk : k < L.length) (h : eqNd (ndAt L k).nd (ndAt M k).nd = false) : eqDg L M = false := by
  unfold eqDg
  rw [Bool.and_eq_false_iff]
  right
  rw [List.all_eq_false]
  exact ⟨k, List.mem_range.2 hk, by simp [h]⟩
theorem eqDg_yes {L M : List NdP} (hl : L.length = M.length) (h : ∀ k, k < L.length → eqNd (ndAt L k).nd (ndAt M k).nd = true) : eqDg L M = true := by
  unfold eqDg
  rw [decide_eq_true hl, Bool.true_and, List.all_eq_true]
  exact fun k hk => h k (List.mem_range.1 hk)
/-- Every node's list is short. -/
def NdSh (L : List NdP) : Prop := ∀ p ∈ L, p.nd.nx.length ≤ 1048576
end Go.Proofs.YtabljchbchjjcaaGreatDoor
end
