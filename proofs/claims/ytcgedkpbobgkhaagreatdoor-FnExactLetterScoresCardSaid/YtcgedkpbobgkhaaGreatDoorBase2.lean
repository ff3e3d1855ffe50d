/- Two rows of the call's own that grow side by side: rows of different element types stay apart. No condition. -/
import Derived.Test.YtcgedkpbobgkhaaGreatDoorBytes
namespace Go.Proofs.YtcgedkpbobgkhaaGreatDoor
set_option linter.unusedVariables false
set_option linter.unusedSimpArgs false
open Go Go.RowKit
/-- Blocks that are no rows of this element type are as they were. -/
def Kept (e : TypeId) (w w' : World) : Prop := w.heap.size ≤ w'.heap.size ∧ ∀ k, k < w.heap.size → (∀ cur fz, w.heap[k]? ≠ some (.cells cur e fz)) → w'.heap[k]? = w.heap[k]?
theorem Kept.of_ext {e : TypeId} {w w' : World} (h : Ext w w') : Kept e w w' := ⟨h.size, fun k hk _ => h.below.block k hk⟩
theorem Kept.own {e e1 : TypeId} {w w' : World} (h : Kept e w w') {B size n c : Nat} {a : Option Addr} {xs : List Value} (hne : e1 ≠ e) (r : Own w B e1 size a n c xs) : Own w' B e1 size a n c xs := by
  rcases r with r | ⟨h1, h2⟩
  · exact .inl r
  · refine .inr ⟨h1, ?_⟩
    rcases h2 with h2 | ⟨g, cap, cur, hv, hg, hh, q⟩
    · exact .inl h2
    · refine .inr ⟨g, cap, cur, hv, hg, ?_, q⟩
      rw [h.2 g (Array.getElem?_eq_some_iff.1 hh).1 (fun cu fz e2 => by
        rw [hh] at e2
        simp only [Option.some.injEq, Obj.cells.injEq] at e2
        exact hne e2.2.1)]
      exact hh
theorem Kept.iter {e : TypeId} {w w' : World} (h : Kept e w w') {b : Nat} {s : ByteArray} {k : Nat} (hb : w.heap[b]? = some (.stringIter s k)) : w'.heap[b]? = some (.stringIter s k) := by
  rw [h.2 b (Array.getElem?_eq_some_iff.1 hb).1 (fun cu fz e2 => by rw [hb] at e2; simp at e2)]
  exact hb
section
variable {P : Program}
theorem run_append_OwnK {w : World} {t ty e : TypeId} {z : Value} {size bytes : Nat} (E : El P t e z size bytes) {B : Nat} (hB : B ≤ w.heap.size)
    {a : Option Addr} {n c : Nat} {xs : List Value} (hown : Own w B e size a n c xs) (ad : Addr) (m k : Nat) (news : List Value) (hl : news.length = m * size) (hm : 0 < m)
    (hnews : ∀ j u, news[j]? = some u → w.cell? (ad.add j) = some u) (h1 : ∀ u ∈ news, u.oneCell' = true) (h63 : n + m ≤ maxLen) (hbytes : (n + m) * bytes ≤ 140737488355328) :
    ∃ a' c' w', (Builtin.append_ #[t, t] ty #[.slice a n c, .slice (some ad) m k]).run P w = .ok (.slice a' (n + m) c') w' ∧ Own w' B e size a' (n + m) c' (xs ++ news) ∧ Below B w w' ∧ Kept e w w' := by
  obtain ⟨i, hi, hz, hs, hb⟩ := E.info
  have form : ∀ (v' : Value) (w' : World), w'.ownsRow B e size v' (n + m) (xs ++ news) → ∃ a' c', v' = Value.slice a' (n + m) c' := by
    intro v' w' h
    rcases h.2 with ⟨rfl, h0⟩ | ⟨g, cap, cur, rfl, _⟩
    · omega
    · exact ⟨_, _, rfl⟩
  rcases hown with ⟨rfl, rfl, rfl⟩ | h
  · cases a with
    | none =>
      obtain ⟨v', w', hr, ho, hg, _⟩ := run_append_own (P := P) w B t ty e i z size bytes E.under hi hz hs hb E.zsize E.pos (.slice none 0 0) 0 [] (World.ownsRow_nil w B e size) ad m k news hl hnews h1 h63 hbytes hB
      obtain ⟨a', c', rfl⟩ := form v' w' ho
      exact ⟨a', c', w', hr, .inr ho, (Below.refl B w).grown hg hB (fun k hk => by simp [Value.ownBlock] at hk), hg.size, fun k hk _ => hg.block k hk (by simp [Value.ownBlock])⟩
    | some b =>
      have hr := run_append_grow (P := P) w t ty e i z E.under hi hz b 0 0 [] (by simp) (by simp) ad m k news (by rw [hs]; exact hl) hnews (by omega) (by simp only [maxLen] at h63; omega)
        (growslice_fits (by omega) (by rw [hb]; exact hbytes))
      refine ⟨_, _, _, hr, .inr ⟨by rw [List.nil_append, hl, Nat.zero_add], .inr ⟨w.heap.size, _, _, rfl, hB, heap_alloc_new w.drew _, grownCap_ge w _ _ _, grownCap_le_maxLen w _ _ e h63, ?_, ?_⟩⟩, (Below.refl B w).drew.alloc (by simpa using hB) _, Kept.of_ext ((Ext.refl w).drew.alloc _)⟩
      · have hge := grownCap_ge w m 0 e
        simp only [Array.size_append, List.size_toArray, size_zeroCells, E.zsize, hl, List.length_nil, Nat.zero_add]
        rw [← Nat.add_mul]
        congr 1
        omega
      · simp only [Array.toList_append, List.nil_append, Nat.zero_add]
        rw [← hl]
        exact List.take_left
  · obtain ⟨v', w', hr, ho, hg, _⟩ := run_append_own (P := P) w B t ty e i z size bytes E.under hi hz hs hb E.zsize E.pos (.slice a n c) n xs h ad m k news hl hnews h1 h63 hbytes hB
    obtain ⟨a', c', rfl⟩ := form v' w' ho
    refine ⟨a', c', w', hr, .inr ho, (Below.refl B w).grown hg hB (fun k hk => (h.lt k hk).1), hg.size, fun q hq hn => hg.block q hq ?_⟩
    intro e1
    rcases h.2 with ⟨h2, h3⟩ | ⟨g, cap, cur, hv, hg2, hh, r⟩
    · simp only [Value.slice.injEq] at h2
      obtain ⟨rfl, _, _⟩ := h2
      simp [Value.ownBlock] at e1
    · simp only [Value.slice.injEq] at hv
      obtain ⟨rfl, _, rfl⟩ := hv
      simp only [Value.ownBlock, Option.some.injEq] at e1
      subst e1
      exact hn _ _ hh
/-- append of one built element: 'out = append(out, x)'; what else stays. -/
theorem wpList_pushK {ops : Array Oper} {rest : List Oper} {o : Oper} {ac : Act} {Q : Exit → Act → World → Prop} (hgd : o.guard = none) (s x : Operand) (t : TypeId)
    (ho : o.op = .call { callee := .builtin .append, args := #[s, x], argTypes := #[t, t] }) {w : World} {e : TypeId} {z : Value} {size bytes : Nat} (E : El P t e z size bytes)
    {a : Option Addr} {n c : Nat} (hs : ac.eval s = .slice a n c) (val : List Value) (hx : ac.eval x = .slice (some ⟨w.heap.size, 0, none⟩) 1 1) (hlen : val.length = size) (hone : ∀ u ∈ val, u.oneCell' = true)
    {B : Nat} {xs : List Value} (hown : Own w B e size a n c xs) (hB : B ≤ w.heap.size) (h63 : n + 1 ≤ maxLen) (hbytes : (n + 1) * bytes ≤ 140737488355328)
    (h : ∀ a' c' w', Own w' B e size a' (n + 1) c' (xs ++ val) → Below B w w' → Kept e w w' → wpList P ops Q rest (ac.put o.dst (.slice a' (n + 1) c')) w') :
    wpList P ops Q (o :: rest) ac (w.alloc (.cells val.toArray e)) := by
  refine wpList_plain hgd fun K hK => ?_
  have hcells : ∀ j u, val[j]? = some u → (w.alloc (.cells val.toArray e)).cell? ((⟨w.heap.size, 0, none⟩ : Addr).add j) = some u := by
    intro j u hj
    have hadd : (⟨w.heap.size, 0, none⟩ : Addr).add j = ⟨w.heap.size, j, none⟩ := by unfold Addr.add; split <;> simp_all
    rw [hadd, cell_of_row _ w.heap.size j val.toArray e (0, 0) (heap_alloc_new w _)]
    simpa using hj
  obtain ⟨a', c', w', hr, hO, hb, hk⟩ := run_append_OwnK (P := P) (ty := o.type) E (w := w.alloc (.cells val.toArray e)) (B := B) (by simp; omega) (hown.ext ((Ext.refl w).alloc _)) ⟨w.heap.size, 0, none⟩ 1 1 val (by rw [hlen]; omega) (by omega) hcells hone h63 hbytes
  unfold Oper.wp execOp
  simp only [ho, resolve, invoke, builtin, Sem.run_bind, Sem.run_pure, Result.andThen_ok, List.map_toArray, List.map_cons, List.map_nil, hs, hx, hr]
  have hx2 : Ext w (w.alloc (.cells val.toArray e)) := (Ext.refl w).alloc _
  refine hK _ _ (h a' c' w' hO (((Below.refl B w).alloc hB _).trans hb) ⟨Nat.le_trans hx2.size hk.1, fun q hq hn => ?_⟩)
  rw [hk.2 q (Nat.lt_of_lt_of_le hq hx2.size) (fun cu fz e2 => hn cu fz (by rw [← hx2.below.block q hq]; exact e2)), hx2.below.block q hq]
end
end Go.Proofs.YtcgedkpbobgkhaaGreatDoor
