/- append of the elements of a slice, of none as well. No condition. -/
import Derived.Test.YtabljchbchjjcaaGreatDoorBase
import Derived.Deep.Upon
namespace Go.Proofs.YtabljchbchjjcaaGreatDoor
set_option linter.unusedVariables false
set_option linter.unusedSimpArgs false
open Go Go.RowKit
theorem Own.le {w : World} {B : Nat} {e : TypeId} {size : Nat} {a : Option Addr} {n c : Nat} {xs : List Value} (h : Own w B e size a n c xs) : n ≤ c := by
  rcases h with ⟨rfl, _, _⟩ | h
  · omega
  · rcases h.2 with ⟨_, h3⟩ | ⟨g, cap, cur, hv, hg, hh, hle, _⟩
    · omega
    · simp only [Value.slice.injEq] at hv
      obtain ⟨_, _, rfl⟩ := hv
      exact hle
section
variable {P : Program}
theorem run_append_zero {w : World} {t ty e : TypeId} {z : Value} {size bytes : Nat} (E : El P t e z size bytes) (a b : Option Addr) (n c k : Nat) (hle : n ≤ c) :
    (Builtin.append_ #[t, t] ty #[.slice a n c, .slice b 0 k]).run P w = .ok (.slice a n c) w := by
  obtain ⟨i, hi, hz, hs, hb⟩ := E.info
  refine run_append_nothing w t t ty e i E.under hi a n c hle _ ?_
  cases b with
  | none => exact Src.ofNil w E.under k
  | some b => exact Src.ofSlice w E.under b 0 k [] (by simp) (fun j u h => by simp at h) (fun u h => by simp at h)
theorem wpList_appendm {ops : Array Oper} {rest : List Oper} {o : Oper} {ac : Act} {Q : Exit → Act → World → Prop} (hgd : o.guard = none) (s x : Operand) (t : TypeId)
    (ho : o.op = .call { callee := .builtin .append, args := #[s, x], argTypes := #[t, t] }) {w : World} {e : TypeId} {z : Value} {size bytes : Nat} (E : El P t e z size bytes)
    {a : Option Addr} {n c : Nat} (hs : ac.eval s = .slice a n c) {b : Option Addr} {m k : Nat} (hx : ac.eval x = .slice b m k) (val : List Value) (hrd : Rd w b val) (hlen : val.length = m * size) (hone : ∀ u ∈ val, u.oneCell' = true)
    {B : Nat} {xs : List Value} (hown : Own w B e size a n c xs) (hB : B ≤ w.heap.size) (h63 : n + m ≤ maxLen) (hbytes : (n + m) * bytes ≤ 140737488355328)
    (h : ∀ a' c' w', Own w' B e size a' (n + m) c' (xs ++ val) → Below B w w' → wpList P ops Q rest (ac.put o.dst (.slice a' (n + m) c')) w') :
    wpList P ops Q (o :: rest) ac w := by
  by_cases hm : 0 < m
  · exact wpList_appendv hgd s x t ho E hs hx val hrd hlen hm hone hown hB h63 hbytes h
  · obtain rfl : m = 0 := by omega
    have hv : val = [] := List.eq_nil_of_length_eq_zero (by simpa using hlen)
    subst hv
    refine wpList_plain hgd fun K hK => ?_
    unfold Oper.wp execOp
    simp only [ho, resolve, invoke, builtin, Sem.run_bind, Sem.run_pure, Result.andThen_ok, List.map_toArray, List.map_cons, List.map_nil, hs, hx, run_append_zero E a b n c k hown.le]
    exact hK _ _ (h a c w (by simpa using hown) (Below.refl _ _))
/-- What blocks of other elements hold is kept. -/
def KeepT (e : TypeId) (w w' : World) : Prop := ∀ (b : Nat) (cur : Array Value) (t : TypeId) (fz : Nat × Nat), w.heap[b]? = some (Obj.cells cur t fz) → t ≠ e → w'.heap[b]? = some (Obj.cells cur t fz)
theorem KeepT.of_ext (e : TypeId) {w w' : World} (h : Ext w w') : KeepT e w w' := fun b cur t fz hb _ => by
  rw [h.below.block b (Array.getElem?_eq_some_iff.1 hb).1]
  exact hb
theorem KeepT.trans {e : TypeId} {x y z : World} (h : KeepT e x y) (k : KeepT e y z) : KeepT e x z := fun b cur t fz hb ht => k b cur t fz (h b cur t fz hb ht) ht
theorem run_append_OwnG {w : World} {t ty e : TypeId} {z : Value} {size bytes : Nat} (E : El P t e z size bytes) {B : Nat} (hB : B ≤ w.heap.size)
    {a : Option Addr} {n c : Nat} {xs : List Value} (hown : Own w B e size a n c xs) (ad : Addr) (m k : Nat) (news : List Value) (hl : news.length = m * size) (hm : 0 < m)
    (hnews : ∀ j u, news[j]? = some u → w.cell? (ad.add j) = some u) (h1 : ∀ u ∈ news, u.oneCell' = true) (h63 : n + m ≤ maxLen) (hbytes : (n + m) * bytes ≤ 140737488355328) :
    ∃ a' c' w', (Builtin.append_ #[t, t] ty #[.slice a n c, .slice (some ad) m k]).run P w = .ok (.slice a' (n + m) c') w' ∧ Own w' B e size a' (n + m) c' (xs ++ news) ∧ Below B w w' ∧ KeepT e w w' := by
  obtain ⟨i, hi, hz, hs, hb⟩ := E.info
  have form : ∀ (v' : Value) (w' : World), w'.ownsRow B e size v' (n + m) (xs ++ news) → ∃ a' c', v' = Value.slice a' (n + m) c' := by
    intro v' w' h
    rcases h.2 with ⟨rfl, h0⟩ | ⟨g, cap, cur, rfl, _⟩
    · omega
    · exact ⟨_, _, rfl⟩
  rcases hown with ⟨rfl, rfl, rfl⟩ | h
  · cases a with
    | none =>
      obtain ⟨v', w', hr, ho, hg, _⟩ := run_append_own (P := P) w B t ty e i z size bytes E.under hi hz hs hb E.zsize E.pos (.slice none 0 0) 0 [] (World.ownsRow_nil w B e size) ad m k news hl hnews h1 h63 hbytes hB
      obtain ⟨a', c', rfl⟩ := form v' w' ho
      exact ⟨a', c', w', hr, .inr ho, (Below.refl B w).grown hg hB (fun k hk => by simp [Value.ownBlock] at hk), fun b cur t fz hb _ => by
        rw [hg.block b (Array.getElem?_eq_some_iff.1 hb).1 (by simp [Value.ownBlock])]; exact hb⟩
    | some b =>
      have hr := run_append_grow (P := P) w t ty e i z E.under hi hz b 0 0 [] (by simp) (by simp) ad m k news (by rw [hs]; exact hl) hnews (by omega) (by simp only [maxLen] at h63; omega)
        (growslice_fits (by omega) (by rw [hb]; exact hbytes))
      refine ⟨_, _, _, hr, .inr ⟨by rw [List.nil_append, hl, Nat.zero_add], .inr ⟨w.heap.size, _, _, rfl, hB, heap_alloc_new w.drew _, grownCap_ge w _ _ _, grownCap_le_maxLen w _ _ e h63, ?_, ?_⟩⟩, (Below.refl B w).drew.alloc (by simpa using hB) _, KeepT.of_ext e ((Ext.refl w).drew.alloc _)⟩
      · have hge := grownCap_ge w m 0 e
        simp only [Array.size_append, List.size_toArray, size_zeroCells, E.zsize, hl, List.length_nil, Nat.zero_add]
        rw [← Nat.add_mul]
        congr 1
        omega
      · simp only [Array.toList_append, List.nil_append, Nat.zero_add]
        rw [← hl]
        exact List.take_left
  · obtain ⟨v', w', hr, ho, hg, _⟩ := run_append_own (P := P) w B t ty e i z size bytes E.under hi hz hs hb E.zsize E.pos (.slice a n c) n xs h ad m k news hl hnews h1 h63 hbytes hB
    obtain ⟨a', c', rfl⟩ := form v' w' ho
    refine ⟨a', c', w', hr, .inr ho, (Below.refl B w).grown hg hB (fun k hk => (h.lt k hk).1), fun b cur t fz hb ht => ?_⟩
    rw [hg.block b (Array.getElem?_eq_some_iff.1 hb).1 ?_]
    · exact hb
    · intro hq
      rcases h.2 with ⟨h2, _⟩ | ⟨g, cap, cur2, hv, hgg, hh, _⟩
      · rw [h2] at hq; simp [Value.ownBlock] at hq
      · rw [hv] at hq
        simp only [Value.ownBlock, Option.some.injEq] at hq
        subst hq
        rw [hh] at hb
        simp only [Option.some.injEq, Obj.cells.injEq] at hb
        exact ht hb.2.1.symm
theorem wpList_appendG {ops : Array Oper} {rest : List Oper} {o : Oper} {ac : Act} {Q : Exit → Act → World → Prop} (hgd : o.guard = none) (s x : Operand) (t : TypeId)
    (ho : o.op = .call { callee := .builtin .append, args := #[s, x], argTypes := #[t, t] }) {w : World} {e : TypeId} {z : Value} {size bytes : Nat} (E : El P t e z size bytes)
    {a : Option Addr} {n c : Nat} (hs : ac.eval s = .slice a n c) {b : Option Addr} {m k : Nat} (hx : ac.eval x = .slice b m k) (val : List Value) (hrd : Rd w b val) (hlen : val.length = m * size) (hone : ∀ u ∈ val, u.oneCell' = true)
    {B : Nat} {xs : List Value} (hown : Own w B e size a n c xs) (hB : B ≤ w.heap.size) (h63 : n + m ≤ maxLen) (hbytes : (n + m) * bytes ≤ 140737488355328)
    (h : ∀ a' c' w', Own w' B e size a' (n + m) c' (xs ++ val) → Below B w w' → KeepT e w w' → wpList P ops Q rest (ac.put o.dst (.slice a' (n + m) c')) w') :
    wpList P ops Q (o :: rest) ac w := by
  by_cases hm : 0 < m
  · refine wpList_plain hgd fun K hK => ?_
    obtain ⟨b', o', rfl, hc⟩ := hrd.at (by rw [hlen]; exact Nat.mul_pos hm E.pos)
    have hcells : ∀ j u, val[j]? = some u → w.cell? ((⟨b', o', none⟩ : Addr).add j) = some u := by
      intro j u hj
      have hadd : (⟨b', o', none⟩ : Addr).add j = ⟨b', o' + j, none⟩ := by unfold Addr.add; split <;> simp_all
      rw [hadd]
      exact hc j u hj
    obtain ⟨a', c', w', hr, hO, hb, hk⟩ := run_append_OwnG (P := P) (ty := o.type) E (B := B) hB hown ⟨b', o', none⟩ m k val hlen hm hcells hone h63 hbytes
    unfold Oper.wp execOp
    simp only [ho, resolve, invoke, builtin, Sem.run_bind, Sem.run_pure, Result.andThen_ok, List.map_toArray, List.map_cons, List.map_nil, hs, hx, hr]
    exact hK _ _ (h a' c' w' hO hb hk)
  · obtain rfl : m = 0 := by omega
    have hv : val = [] := List.eq_nil_of_length_eq_zero (by simpa using hlen)
    subst hv
    refine wpList_plain hgd fun K hK => ?_
    unfold Oper.wp execOp
    simp only [ho, resolve, invoke, builtin, Sem.run_bind, Sem.run_pure, Result.andThen_ok, List.map_toArray, List.map_cons, List.map_nil, hs, hx, run_append_zero E a b n c k hown.le]
    exact hK _ _ (h a c w (by simpa using hown) (Below.refl _ _) (fun b cur t fz hb _ => hb))
end
/-- A block of one cell that may be written. -/
def LkT (w : World) (b : Nat) (t : TypeId) (v : Value) : Prop := w.heap[b]? = some (.cells #[v] t (0, 0))
theorem LkT.lt {w : World} {b : Nat} {t : TypeId} {v : Value} (h : LkT w b t v) : b < w.heap.size := (Array.getElem?_eq_some_iff.1 h).1
theorem LkT.cell {w : World} {b : Nat} {t : TypeId} {v : Value} (h : LkT w b t v) : w.cell? ⟨b, 0, none⟩ = some v := by
  unfold LkT at h
  simp [World.cell?, h]
theorem LkT.free {w : World} {b : Nat} {t : TypeId} {v : Value} (h : LkT w b t v) (j : Nat) : w.frozen? ⟨b, j, none⟩ = false := by
  unfold LkT at h
  simp [World.frozen?, h]
theorem LkT.set {w : World} {b : Nat} {t : TypeId} {v : Value} (h : LkT w b t v) (u : Value) : LkT (w.setCell ⟨b, 0, none⟩ u) b t u := one_setCell h
theorem LkT.off {w : World} {b g : Nat} {t : TypeId} {v : Value} (h : LkT w b t v) (hb : b ≠ g) (o : Nat) (u : Value) : LkT (w.setCell ⟨g, o, none⟩ u) b t v := by
  have hlt := h.lt
  have h' : w.heap[b] = .cells #[v] t (0, 0) := by
    unfold LkT at h
    simpa [Array.getElem?_eq_getElem hlt] using h
  show (w.heap.modify g _)[b]? = _
  rw [Array.getElem?_eq_getElem (by simpa using hlt), Array.getElem_modify_of_ne (Ne.symm hb), h']
theorem LkT.ext {w w' : World} {b : Nat} {t : TypeId} {v : Value} (h : LkT w b t v) (k : Ext w w') : LkT w' b t v := by
  unfold LkT
  rw [k.below.block b h.lt]
  exact h
theorem LkT.keep {w w' : World} {b : Nat} {t e : TypeId} {v : Value} (h : LkT w b t v) (k : KeepT e w w') (ht : t ≠ e) : LkT w' b t v := k b _ t _ h ht
theorem LkT.new (w : World) (t : TypeId) (v : Value) : LkT (w.alloc (.cells #[v] t)) w.heap.size t v := heap_alloc_new w _
theorem LkT.below {w w' : World} {b B : Nat} {t : TypeId} {v : Value} (h : LkT w b t v) (k : Below B w w') (hb : b < B) : LkT w' b t v := by
  unfold LkT
  rw [k.block b hb]
  exact h
/-- A row of the call's own beside a block of another element type that is written. -/
theorem Own.offT {w : World} {B : Nat} {e : TypeId} {size : Nat} {a : Option Addr} {n c : Nat} {xs : List Value} (h : Own w B e size a n c xs) {b : Nat} {t : TypeId} {v : Value} (hb : LkT w b t v) (ht : t ≠ e) (o : Nat) (u : Value) : Own (w.setCell ⟨b, o, none⟩ u) B e size a n c xs := by
  rcases h with h | h
  · exact .inl h
  · refine .inr (ownsRow_setCell_other h (fun hq => ?_) u)
    rcases h.2 with ⟨h2, _⟩ | ⟨g, cap, cur2, hv, hgg, hh, _⟩
    · rw [h2] at hq; simp [Value.ownBlock] at hq
    · rw [hv] at hq
      simp only [Value.ownBlock, Option.some.injEq] at hq
      subst hq
      unfold LkT at hb
      rw [hh] at hb
      simp only [Option.some.injEq, Obj.cells.injEq] at hb
      exact ht hb.2.1.symm
end Go.Proofs.YtabljchbchjjcaaGreatDoor
