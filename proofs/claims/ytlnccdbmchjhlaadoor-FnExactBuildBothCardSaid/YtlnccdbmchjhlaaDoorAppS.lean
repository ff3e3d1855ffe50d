/- append of one element: the new row is the old one or a fresh one. No condition. -/
import Derived.Test.YtlnccdbmchjhlaaDoorMg2
namespace Go.Proofs.YtlnccdbmchjhlaaDoor
set_option linter.unusedVariables false
set_option linter.unusedSimpArgs false
open Go Go.RowKit
section
variable {P : Program}
theorem run_append_sep {w : World} {t ty e : TypeId} {z : Value} {size bytes : Nat} (E : El P t e z size bytes) {B : Nat} (hB : B ≤ w.heap.size)
    {g n c : Nat} {xs : List Value} (hown : Own w B e size (some ⟨g, 0, none⟩) n c xs) (ad : Addr) (m k : Nat) (news : List Value) (hl : news.length = m * size) (hm : 0 < m)
    (hnews : ∀ j u, news[j]? = some u → w.cell? (ad.add j) = some u) (h1 : ∀ u ∈ news, u.oneCell' = true) (h63 : n + m ≤ maxLen) (hbytes : (n + m) * bytes ≤ 140737488355328) :
    ∃ g' c' w', (Builtin.append_ #[t, t] ty #[.slice (some ⟨g, 0, none⟩) n c, .slice (some ad) m k]).run P w = .ok (.slice (some ⟨g', 0, none⟩) (n + m) c') w' ∧ Own w' B e size (some ⟨g', 0, none⟩) (n + m) c' (xs ++ news) ∧ w.grownBy w' (some g) ∧ (g' = g ∨ w.heap.size ≤ g') := by
  obtain ⟨i, hi, hz, hs, hb⟩ := E.info
  have h63' := h63
  simp only [maxLen] at h63'
  have grow : ∀ (olds : List Value), n + m ≤ c ∨ (olds.length = n * i.size ∧ ∀ j v, olds[j]? = some v → w.cell? ((⟨g, 0, none⟩ : Addr).add j) = some v) → ¬ n + m ≤ c →
      (Builtin.append_ #[t, t] ty #[.slice (some ⟨g, 0, none⟩) n c, .slice (some ad) m k]).run P w = .ok (.slice (some ⟨w.heap.size, 0, none⟩) (n + m) (grownCap w (n + m) c e)) (w.drew.alloc (.cells (olds.toArray ++ news.toArray ++ Builtin.zeroCells z.cells (grownCap w (n + m) c e - (n + m))) e)) := by
    intro olds ho hr
    rcases ho with ho | ⟨ho1, ho2⟩
    · exact absurd ho hr
    · exact run_append_grow (P := P) w t ty e i z E.under hi hz ⟨g, 0, none⟩ n c olds ho1 ho2 ad m k news (by rw [hs]; exact hl) hnews (by omega) (by omega) (growslice_fits (by omega) (by rw [hb]; exact hbytes))
  rcases hown with ⟨rfl, rfl, rfl⟩ | h
  · have hr := grow [] (.inr ⟨by simp, by simp⟩) (by omega)
    refine ⟨_, _, _, hr, .inr ⟨by rw [List.nil_append, hl, Nat.zero_add], .inr ⟨w.heap.size, _, _, rfl, hB, heap_alloc_new w.drew _, grownCap_ge w _ _ _, grownCap_le_maxLen w _ _ e h63, ?_, ?_⟩⟩, ⟨rfl, rfl, rfl, by simp, fun q hq _ => heap_alloc_old _ _ (by simpa using hq)⟩, .inr (Nat.le_refl _)⟩
    · have hge := grownCap_ge w (0 + m) 0 e
      simp only [Array.size_append, List.size_toArray, size_zeroCells, E.zsize, hl, List.length_nil, Nat.zero_add] at hge ⊢
      rw [← Nat.add_mul]
      congr 1
      omega
    · simp only [Array.toList_append, List.nil_append, Nat.zero_add]
      rw [← hl]
      exact List.take_left
  · obtain ⟨v', w', hr, ho, hg, _⟩ := run_append_own (P := P) w B t ty e i z size bytes E.under hi hz hs hb E.zsize E.pos (.slice (some ⟨g, 0, none⟩) n c) n xs h ad m k news hl hnews h1 h63 hbytes hB
    rcases h.2 with ⟨hv, _⟩ | ⟨g0, cap, cur, hv, hbg, hcell, hnc, hcm, hcs, htake⟩
    · cases hv
    · simp only [Value.slice.injEq, Option.some.injEq, Addr.mk.injEq, and_true, true_and] at hv
      obtain ⟨rfl, rfl⟩ := hv
      by_cases hroom : n + m ≤ c
      · have hfit : n * i.size + news.length ≤ cur.size := by rw [hl, hcs, ← hs, ← Nat.add_mul]; exact Nat.mul_le_mul_right _ hroom
        have hr2 := run_append_room (P := P) w t ty e i E.under hi g n c cur hcell ad m k news (by rw [hs]; exact hl) hnews h1 hroom hfit
        have e := hr.symm.trans hr2
        injection e with e1 e2
        subst e1
        exact ⟨g, c, w', hr, .inr ho, hg, .inl rfl⟩
      · have hr2 := grow xs (.inr ⟨by rw [hs]; exact h.1, h.cells (g := g) rfl⟩) hroom
        have e := hr.symm.trans hr2
        injection e with e1 e2
        subst e1
        exact ⟨w.heap.size, _, w', hr, .inr ho, hg, .inr (Nat.le_refl _)⟩
/-- 'out = append(out, x)': what else there is stays. -/
theorem wpList_pushS {ops : Array Oper} {rest : List Oper} {o : Oper} {ac : Act} {Q : Exit → Act → World → Prop} (hgd : o.guard = none) (s x : Operand) (t : TypeId)
    (ho : o.op = .call { callee := .builtin .append, args := #[s, x], argTypes := #[t, t] }) {w : World} {e : TypeId} {z : Value} {size bytes : Nat} (E : El P t e z size bytes)
    {g n c : Nat} (hs : ac.eval s = .slice (some ⟨g, 0, none⟩) n c) (val : List Value) (hx : ac.eval x = .slice (some ⟨w.heap.size, 0, none⟩) 1 1) (hlen : val.length = size) (hone : ∀ u ∈ val, u.oneCell' = true)
    {B : Nat} {xs : List Value} (hown : Own w B e size (some ⟨g, 0, none⟩) n c xs) (hB : B ≤ w.heap.size) (h63 : n + 1 ≤ maxLen) (hbytes : (n + 1) * bytes ≤ 140737488355328)
    (h : ∀ g' c' w', Own w' B e size (some ⟨g', 0, none⟩) (n + 1) c' (xs ++ val) → w.grownBy w' (some g) → (g' = g ∨ w.heap.size ≤ g') → wpList P ops Q rest (ac.put o.dst (.slice (some ⟨g', 0, none⟩) (n + 1) c')) w') :
    wpList P ops Q (o :: rest) ac (w.alloc (.cells val.toArray e)) := by
  refine wpList_plain hgd fun K hK => ?_
  have hcells : ∀ j u, val[j]? = some u → (w.alloc (.cells val.toArray e)).cell? ((⟨w.heap.size, 0, none⟩ : Addr).add j) = some u := by
    intro j u hj
    have hadd : (⟨w.heap.size, 0, none⟩ : Addr).add j = ⟨w.heap.size, j, none⟩ := by unfold Addr.add; split <;> simp_all
    rw [hadd, cell_of_row _ w.heap.size j val.toArray e (0, 0) (heap_alloc_new w _)]
    simpa using hj
  obtain ⟨g', c', w', hr, hO, hb, hsep⟩ := run_append_sep (P := P) (ty := o.type) E (w := w.alloc (.cells val.toArray e)) (B := B) (by simp; omega) (hown.ext ((Ext.refl w).alloc _)) ⟨w.heap.size, 0, none⟩ 1 1 val (by rw [hlen]; omega) (by omega) hcells hone h63 hbytes
  unfold Oper.wp execOp
  simp only [ho, resolve, invoke, builtin, Sem.run_bind, Sem.run_pure, Result.andThen_ok, List.map_toArray, List.map_cons, List.map_nil, hs, hx, hr]
  have hsz : (w.alloc (.cells val.toArray e)).heap.size = w.heap.size + 1 := by simp
  refine hK _ _ (h g' c' w' hO ⟨hb.os, hb.tape, hb.output, by have := hb.size; omega, fun q hq hne => (hb.block q (by omega) hne).trans (heap_alloc_old _ _ hq)⟩ (hsep.imp id fun h => by omega))
end
theorem Own.grownBy {w w' : World} {B : Nat} {e : TypeId} {size : Nat} {g n c : Nat} {xs : List Value} {row : Option Nat} (h : Own w B e size (some ⟨g, 0, none⟩) n c xs) (k : w.grownBy w' row) (hne : some g ≠ row) : Own w' B e size (some ⟨g, 0, none⟩) n c xs := by
  rcases h with h | h
  · exact .inl h
  · exact .inr (h.kept k (.inr (by simpa [Value.ownBlock] using fun e => hne (by rw [← e]))))
theorem Own.belowR {w w' : World} {B Bq : Nat} {e : TypeId} {size : Nat} {g n c : Nat} {xs : List Value} (h : Own w B e size (some ⟨g, 0, none⟩) n c xs) (k : Below Bq w w') (hg : c = 0 ∨ g < Bq) : Own w' B e size (some ⟨g, 0, none⟩) n c xs := by
  rcases h with h | ⟨h1, h2⟩
  · exact .inl h
  · rcases h2 with ⟨hv, _⟩ | ⟨g0, cap, cur, hv, hbg, hcell, hnc, hcm, hcs, htake⟩
    · cases hv
    · simp only [Value.slice.injEq, Option.some.injEq, Addr.mk.injEq, and_true, true_and] at hv
      obtain ⟨rfl, rfl⟩ := hv
      rcases hg with rfl | hg
      · left
        have : n = 0 := by omega
        subst this
        exact ⟨rfl, rfl, List.eq_nil_of_length_eq_zero (by rw [h1]; simp)⟩
      · exact .inr ⟨h1, .inr ⟨g, c, cur, rfl, hbg, by rw [k.block g hg]; exact hcell, hnc, hcm, hcs, htake⟩⟩
/-- The row cut to nothing. -/
theorem Own.cut {w : World} {B : Nat} {e : TypeId} {size : Nat} {g n c : Nat} {xs : List Value} (h : Own w B e size (some ⟨g, 0, none⟩) n c xs) : Own w B e size (some ⟨g, 0, none⟩) 0 c [] := by
  rcases h with ⟨_, rfl, _⟩ | ⟨h1, h2⟩
  · exact .inl ⟨rfl, rfl, rfl⟩
  · rcases h2 with ⟨hv, _⟩ | ⟨g0, cap, cur, hv, hbg, hcell, hnc, hcm, hcs, htake⟩
    · cases hv
    · simp only [Value.slice.injEq, Option.some.injEq, Addr.mk.injEq, and_true, true_and] at hv
      obtain ⟨rfl, rfl⟩ := hv
      exact .inr ⟨by simp, .inr ⟨g, c, cur, rfl, hbg, hcell, by omega, hcm, hcs, by simp⟩⟩
theorem Rd.grownBy {w w' : World} {q o : Nat} {xs : List Value} {row : Option Nat} (h : Rd w (some ⟨q, o, none⟩) xs) (k : w.grownBy w' row) (hq : q < w.heap.size) (hne : some q ≠ row) : Rd w' (some ⟨q, o, none⟩) xs := fun j u hj => by
  obtain ⟨b', o', ha, hc⟩ := h j u hj
  simp only [Option.some.injEq, Addr.mk.injEq, and_true] at ha
  obtain ⟨rfl, rfl⟩ := ha
  refine ⟨q, o, rfl, ?_⟩
  rw [← hc]
  have := k.block q hq hne
  simp only [World.cell?, this]
end Go.Proofs.YtlnccdbmchjhlaaDoor
