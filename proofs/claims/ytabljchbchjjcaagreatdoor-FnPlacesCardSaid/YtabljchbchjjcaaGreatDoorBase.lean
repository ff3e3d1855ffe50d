/- General words: worlds that have grown, readable rows, rows of the call's own, and the law of append over them. No condition. -/
import Derived.Test.YtabljchbchjjcaaGreatDoorRows
import Derived.Test.YtabljchbchjjcaaGreatDoorFlow
import Derived.WalkKit
import Derived.WalkSpells
import Derived.WalkLawsBesides
import Derived.Handy
import Derived.BigQuiet
import Derived.Deep.QuietTactic
namespace Go.Proofs.YtabljchbchjjcaaGreatDoor
set_option linter.unusedVariables false
set_option linter.unusedSimpArgs false
open Go Go.RowKit

theorem hid {p : Prop} (h : p) : Hid p := h

/-- The world has grown: what was there is as it was. -/
def Ext (w w' : World) : Prop := Below w.heap.size w w'
theorem Ext.below {w w' : World} (h : Ext w w') : Below w.heap.size w w' := h
theorem Ext.of {w w' : World} (h : Below w.heap.size w w') : Ext w w' := h
theorem Ext.refl (w : World) : Ext w w := Below.refl _ _
theorem Ext.trans {x y z : World} (h : Ext x y) (k : Ext y z) : Ext x z := Below.trans h (Below.mono k h.size)
theorem Ext.size {w w' : World} (h : Ext w w') : w.heap.size ≤ w'.heap.size := h.below.size
theorem Ext.alloc {w w' : World} (h : Ext w w') (o : Obj) : Ext w (w'.alloc o) := h.trans ((Below.refl _ _).alloc (Nat.le_refl _) o)
theorem Ext.drew {w w' : World} (h : Ext w w') : Ext w w'.drew := h.trans (Below.refl _ _).drew
theorem Ext.drewN {w w' : World} (h : Ext w w') (n : Nat) : Ext w (w'.drewN n) := ⟨h.os, h.tape, h.output, h.size, h.block⟩
theorem Ext.cell {w w' : World} (h : Ext w w') {b o : Nat} {v : Value} (hv : w.cell? ⟨b, o, none⟩ = some v) : w'.cell? ⟨b, o, none⟩ = some v := by
  rw [Below.cell h (p := ⟨b, o, none⟩) (World.block_lt_of_cell? w _ hv)]; exact hv
theorem Ext.below' {B : Nat} {w w' : World} (h : Ext w w') (hB : B ≤ w.heap.size) : Below B w w' := Below.mono h hB
theorem Ext.thenBelow {B : Nat} {x y z : World} (h : Ext x y) (k : Below B y z) (hB : x.heap.size ≤ B) : Ext x z := Below.trans h (Below.mono k hB)
theorem Ext.ofBelow {B : Nat} {w w' : World} (h : Below B w w') (hB : w.heap.size ≤ B) : Ext w w' := Below.mono h hB
theorem Ext.setCell {w w' : World} (h : Ext w w') {p : Addr} (hp : w.heap.size ≤ p.block) (u : Value) : Ext w (w'.setCell p u) := Below.setCell h hp u
theorem Ext.cells {w w' : World} (h : Ext w w') : (∀ b o, b < w.heap.size → w'.cell? ⟨b, o, none⟩ = w.cell? ⟨b, o, none⟩) ∧ (∀ b o, b < w.heap.size → w'.frozen? ⟨b, o, none⟩ = w.frozen? ⟨b, o, none⟩) :=
  ⟨fun b o hb => Below.cell h (p := ⟨b, o, none⟩) hb, fun b o hb => Below.frozen h (p := ⟨b, o, none⟩) hb⟩

/-- Draws alone. -/
def Dr (w w' : World) : Prop := ∃ m, w' = w.drewN m
theorem Dr.refl (w : World) : Dr w w := ⟨0, rfl⟩
theorem Dr.ext {w w' : World} (h : Dr w w') : Ext w w' := by
  obtain ⟨m, rfl⟩ := h
  exact (Ext.refl w).drewN m
theorem Dr.of_drewN (w : World) (m : Nat) : Dr w (w.drewN m) := ⟨m, rfl⟩
theorem Dr.trans {x y z : World} (h : Dr x y) (k : Dr y z) : Dr x z := by
  obtain ⟨m, rfl⟩ := h
  obtain ⟨n, rfl⟩ := k
  exact ⟨m + n, by rw [World.drewN_drewN]⟩

theorem ret_bool {a b : Bool} (h : a = b) : Ending.returned (.bool a) = .returned (.bool b) := by rw [h]
theorem ret_int {k : IntKind} {a b : Int} (h : a = b) : Ending.returned (.int k a) = .returned (.int k b) := by rw [h]
/-- Contract words. -/
def Ret (v : Value) (w : World) (e : Ending) (w' : World) : Prop := e = .returned v ∧ Ext w w'
def Same (v : Value) (w : World) (e : Ending) (w' : World) : Prop := e = .returned v ∧ w = w'

/-- A call in a drawn region, by its contract. -/
theorem flow_ret {P : Program} {f : FuncId} {args : Array Value} {w : World} {v : Value} (h : Calls P f args w (Ret v w)) : flowUpon P Ext w (fun u _ => u = v) (.ok (.enter f args) w) :=
  ⟨Ext.refl w, h.mono fun _ _ ⟨he, hx⟩ => ⟨v, he, hx, rfl⟩⟩
theorem flow_same {P : Program} {f : FuncId} {args : Array Value} {w : World} {v : Value} (h : Calls P f args w (Same v w)) : flowUpon P Ext w (fun u _ => u = v) (.ok (.enter f args) w) :=
  ⟨Ext.refl w, h.mono fun _ _ ⟨he, hx⟩ => ⟨v, he, hx ▸ Ext.refl w, rfl⟩⟩
theorem flow_dr {P : Program} {f : FuncId} {args : Array Value} {w : World} {v : Value} (h : Calls P f args w fun e w' => e = .returned v ∧ Dr w w') : flowUpon P Ext w (fun u _ => u = v) (.ok (.enter f args) w) :=
  ⟨Ext.refl w, h.mono fun _ _ ⟨he, hx⟩ => ⟨v, he, hx.ext, rfl⟩⟩

/-- The cells xs can be read from address a on (nothing is asked where there are none). -/
def Rd (w : World) (a : Option Addr) (xs : List Value) : Prop := ∀ j u, xs[j]? = some u → ∃ b o, a = some ⟨b, o, none⟩ ∧ w.cell? ⟨b, o + j, none⟩ = some u
theorem Rd.ext {w w' : World} {a : Option Addr} {xs : List Value} (h : Rd w a xs) (k : Ext w w') : Rd w' a xs := fun j u hj => by
  obtain ⟨b, o, ha, hc⟩ := h j u hj
  exact ⟨b, o, ha, k.cell hc⟩
theorem Rd.nil (w : World) (a : Option Addr) : Rd w a [] := fun j u h => by simp at h
theorem Rd.at {w : World} {a : Option Addr} {xs : List Value} (h : Rd w a xs) (hne : 0 < xs.length) : ∃ b o, a = some ⟨b, o, none⟩ ∧ ∀ j u, xs[j]? = some u → w.cell? ⟨b, o + j, none⟩ = some u := by
  obtain ⟨b, o, ha, _⟩ := h 0 xs[0] (by simp [hne])
  refine ⟨b, o, ha, fun j u hj => ?_⟩
  obtain ⟨b', o', ha', hc⟩ := h j u hj
  rw [ha] at ha'
  simp only [Option.some.injEq, Addr.mk.injEq, and_true] at ha'
  obtain ⟨rfl, rfl⟩ := ha'
  exact hc

/-- What the program says of a slice type and its elements. -/
structure El (P : Program) (t e : TypeId) (z : Value) (size bytes : Nat) : Prop where
  under : P.underlying t = some (.slice e)
  info : ∃ i, P.info? e = some i ∧ i.zero = some z ∧ i.size = size ∧ i.bytes = bytes
  zsize : z.cells.size = size
  pos : 0 < size

/-- A row of the call's own, in a block from B on; or a row without room. -/
def Own (w : World) (B : Nat) (e : TypeId) (size : Nat) (a : Option Addr) (n c : Nat) (xs : List Value) : Prop :=
  (n = 0 ∧ c = 0 ∧ xs = []) ∨ w.ownsRow B e size (.slice a n c) n xs
theorem Own.empty (w : World) (B : Nat) (e : TypeId) (size : Nat) (a : Option Addr) : Own w B e size a 0 0 [] := .inl ⟨rfl, rfl, rfl⟩
theorem Own.length {w : World} {B : Nat} {e : TypeId} {size : Nat} {a : Option Addr} {n c : Nat} {xs : List Value} (h : Own w B e size a n c xs) : xs.length = n * size := by
  rcases h with ⟨rfl, _, rfl⟩ | h
  · simp
  · exact h.1
theorem Own.mono {w : World} {B B' : Nat} {e : TypeId} {size : Nat} {a : Option Addr} {n c : Nat} {xs : List Value} (h : Own w B e size a n c xs) (hB : B' ≤ B) : Own w B' e size a n c xs := by
  rcases h with h | ⟨h1, h2⟩
  · exact .inl h
  · refine .inr ⟨h1, ?_⟩
    rcases h2 with h2 | ⟨g, cap, cur, hv, hg, r⟩
    · exact .inl h2
    · exact .inr ⟨g, cap, cur, hv, Nat.le_trans hB hg, r⟩
theorem Own.ext {w w' : World} {B : Nat} {e : TypeId} {size : Nat} {a : Option Addr} {n c : Nat} {xs : List Value} (h : Own w B e size a n c xs) (k : Ext w w') : Own w' B e size a n c xs := by
  rcases h with h | ⟨h1, h2⟩
  · exact .inl h
  · refine .inr ⟨h1, ?_⟩
    rcases h2 with h2 | ⟨g, cap, cur, hv, hg, hh, r⟩
    · exact .inl h2
    · exact .inr ⟨g, cap, cur, hv, hg, by rw [k.below.block g (Array.getElem?_eq_some_iff.1 hh).1]; exact hh, r⟩
theorem Own.rd {w : World} {B : Nat} {e : TypeId} {size : Nat} {a : Option Addr} {n c : Nat} {xs : List Value} (h : Own w B e size a n c xs) : Rd w a xs := by
  rcases h with ⟨_, _, rfl⟩ | h
  · exact Rd.nil _ _
  · intro j u hj
    rcases h.2 with ⟨h2, h3⟩ | ⟨g, cap, cur, hv, hg, hh, r⟩
    · have := h.1
      subst h3
      simp at this
      subst this
      simp at hj
    · simp only [Value.slice.injEq] at hv
      obtain ⟨rfl, _, rfl⟩ := hv
      refine ⟨g, 0, rfl, ?_⟩
      have := h.cells (g := g) rfl j u hj
      unfold Addr.add at this
      split at this
      · rename_i h0; subst h0; simpa using this
      · simpa using this
/-- Where it lies: the block, and that it may be written. -/
theorem Own.form {w : World} {B : Nat} {e : TypeId} {size : Nat} {a : Option Addr} {n c : Nat} {xs : List Value} (h : Own w B e size a n c xs) (hn : 0 < n) : ∃ g, a = some ⟨g, 0, none⟩ ∧ B ≤ g ∧ g < w.heap.size ∧ (∀ o, w.frozen? ⟨g, o, none⟩ = false) ∧ w.ownsRow B e size (.slice (some ⟨g, 0, none⟩) n c) n xs := by
  rcases h with ⟨rfl, _, _⟩ | h
  · omega
  · rcases h.2 with ⟨_, h3⟩ | ⟨g, cap, cur, hv, hg, hh, r⟩
    · omega
    · have hv' := hv
      simp only [Value.slice.injEq] at hv
      obtain ⟨rfl, _, rfl⟩ := hv
      exact ⟨g, rfl, hg, (Array.getElem?_eq_some_iff.1 hh).1, fun o => by simp [World.frozen?, hh], h⟩

section
variable {P : Program}

/-- append, of one or more elements that can be read: what comes back is a row of the call's own; below B all is as it was. -/
theorem run_append_Own {w : World} {t ty e : TypeId} {z : Value} {size bytes : Nat} (E : El P t e z size bytes) {B : Nat} (hB : B ≤ w.heap.size)
    {a : Option Addr} {n c : Nat} {xs : List Value} (hown : Own w B e size a n c xs) (ad : Addr) (m k : Nat) (news : List Value) (hl : news.length = m * size) (hm : 0 < m)
    (hnews : ∀ j u, news[j]? = some u → w.cell? (ad.add j) = some u) (h1 : ∀ u ∈ news, u.oneCell' = true) (h63 : n + m ≤ maxLen) (hbytes : (n + m) * bytes ≤ 140737488355328) :
    ∃ a' c' w', (Builtin.append_ #[t, t] ty #[.slice a n c, .slice (some ad) m k]).run P w = .ok (.slice a' (n + m) c') w' ∧ Own w' B e size a' (n + m) c' (xs ++ news) ∧ Below B w w' := by
  obtain ⟨i, hi, hz, hs, hb⟩ := E.info
  have form : ∀ (v' : Value) (w' : World), w'.ownsRow B e size v' (n + m) (xs ++ news) → ∃ a' c', v' = Value.slice a' (n + m) c' := by
    intro v' w' h
    rcases h.2 with ⟨rfl, h0⟩ | ⟨g, cap, cur, rfl, _⟩
    · omega
    · exact ⟨_, _, rfl⟩
  rcases hown with ⟨rfl, rfl, rfl⟩ | h
  · cases a with
    | none =>
      obtain ⟨v', w', hr, ho, hg, _⟩ := run_append_own (P := P) w B t ty e i z size bytes E.under hi hz hs hb E.zsize E.pos (.slice none 0 0) 0 [] (World.ownsRow_nil w B e size) ad m k news hl hnews h1 h63 hbytes hB
      obtain ⟨a', c', rfl⟩ := form v' w' ho
      exact ⟨a', c', w', hr, .inr ho, (Below.refl B w).grown hg hB (fun k hk => by simp [Value.ownBlock] at hk)⟩
    | some b =>
      have hr := run_append_grow (P := P) w t ty e i z E.under hi hz b 0 0 [] (by simp) (by simp) ad m k news (by rw [hs]; exact hl) hnews (by omega) (by simp only [maxLen] at h63; omega)
        (growslice_fits (by omega) (by rw [hb]; exact hbytes))
      refine ⟨_, _, _, hr, .inr ⟨by rw [List.nil_append, hl, Nat.zero_add], .inr ⟨w.heap.size, _, _, rfl, hB, heap_alloc_new w.drew _, grownCap_ge w _ _ _, grownCap_le_maxLen w _ _ e h63, ?_, ?_⟩⟩, (Below.refl B w).drew.alloc (by simpa using hB) _⟩
      · have hge := grownCap_ge w m 0 e
        simp only [Array.size_append, List.size_toArray, size_zeroCells, E.zsize, hl, List.length_nil, Nat.zero_add]
        rw [← Nat.add_mul]
        congr 1
        omega
      · simp only [Array.toList_append, List.nil_append, Nat.zero_add]
        rw [← hl]
        exact List.take_left
  · obtain ⟨v', w', hr, ho, hg, _⟩ := run_append_own (P := P) w B t ty e i z size bytes E.under hi hz hs hb E.zsize E.pos (.slice a n c) n xs h ad m k news hl hnews h1 h63 hbytes hB
    obtain ⟨a', c', rfl⟩ := form v' w' ho
    exact ⟨a', c', w', hr, .inr ho, (Below.refl B w).grown hg hB (fun k hk => (h.lt k hk).1)⟩

/-- append of one built element: 'out = append(out, x)'. -/
theorem wpList_push {ops : Array Oper} {rest : List Oper} {o : Oper} {ac : Act} {Q : Exit → Act → World → Prop} (hgd : o.guard = none) (s x : Operand) (t : TypeId)
    (ho : o.op = .call { callee := .builtin .append, args := #[s, x], argTypes := #[t, t] }) {w : World} {e : TypeId} {z : Value} {size bytes : Nat} (E : El P t e z size bytes)
    {a : Option Addr} {n c : Nat} (hs : ac.eval s = .slice a n c) (val : List Value) (hx : ac.eval x = .slice (some ⟨w.heap.size, 0, none⟩) 1 1) (hlen : val.length = size) (hone : ∀ u ∈ val, u.oneCell' = true)
    {B : Nat} {xs : List Value} (hown : Own w B e size a n c xs) (hB : B ≤ w.heap.size) (h63 : n + 1 ≤ maxLen) (hbytes : (n + 1) * bytes ≤ 140737488355328)
    (h : ∀ a' c' w', Own w' B e size a' (n + 1) c' (xs ++ val) → Below B w w' → wpList P ops Q rest (ac.put o.dst (.slice a' (n + 1) c')) w') :
    wpList P ops Q (o :: rest) ac (w.alloc (.cells val.toArray e)) := by
  refine wpList_plain hgd fun K hK => ?_
  have hcells : ∀ j u, val[j]? = some u → (w.alloc (.cells val.toArray e)).cell? ((⟨w.heap.size, 0, none⟩ : Addr).add j) = some u := by
    intro j u hj
    have hadd : (⟨w.heap.size, 0, none⟩ : Addr).add j = ⟨w.heap.size, j, none⟩ := by unfold Addr.add; split <;> simp_all
    rw [hadd, cell_of_row _ w.heap.size j val.toArray e (0, 0) (heap_alloc_new w _)]
    simpa using hj
  obtain ⟨a', c', w', hr, hO, hb⟩ := run_append_Own (P := P) (ty := o.type) E (w := w.alloc (.cells val.toArray e)) (B := B) (by simp; omega) (hown.ext ((Ext.refl w).alloc _)) ⟨w.heap.size, 0, none⟩ 1 1 val (by rw [hlen]; omega) (by omega) hcells hone h63 hbytes
  unfold Oper.wp execOp
  simp only [ho, resolve, invoke, builtin, Sem.run_bind, Sem.run_pure, Result.andThen_ok, List.map_toArray, List.map_cons, List.map_nil, hs, hx, hr]
  exact hK _ _ (h a' c' w' hO (((Below.refl B w).alloc hB _).trans hb))

/-- append of the elements of a slice that can be read: 'out = append(out, xs...)'. -/
theorem wpList_appendv {ops : Array Oper} {rest : List Oper} {o : Oper} {ac : Act} {Q : Exit → Act → World → Prop} (hgd : o.guard = none) (s x : Operand) (t : TypeId)
    (ho : o.op = .call { callee := .builtin .append, args := #[s, x], argTypes := #[t, t] }) {w : World} {e : TypeId} {z : Value} {size bytes : Nat} (E : El P t e z size bytes)
    {a : Option Addr} {n c : Nat} (hs : ac.eval s = .slice a n c) {b : Option Addr} {m k : Nat} (hx : ac.eval x = .slice b m k) (val : List Value) (hrd : Rd w b val) (hlen : val.length = m * size) (hm : 0 < m) (hone : ∀ u ∈ val, u.oneCell' = true)
    {B : Nat} {xs : List Value} (hown : Own w B e size a n c xs) (hB : B ≤ w.heap.size) (h63 : n + m ≤ maxLen) (hbytes : (n + m) * bytes ≤ 140737488355328)
    (h : ∀ a' c' w', Own w' B e size a' (n + m) c' (xs ++ val) → Below B w w' → wpList P ops Q rest (ac.put o.dst (.slice a' (n + m) c')) w') :
    wpList P ops Q (o :: rest) ac w := by
  refine wpList_plain hgd fun K hK => ?_
  obtain ⟨b', o', rfl, hc⟩ := hrd.at (by rw [hlen]; exact Nat.mul_pos hm E.pos)
  have hcells : ∀ j u, val[j]? = some u → w.cell? ((⟨b', o', none⟩ : Addr).add j) = some u := by
    intro j u hj
    have hadd : (⟨b', o', none⟩ : Addr).add j = ⟨b', o' + j, none⟩ := by unfold Addr.add; split <;> simp_all
    rw [hadd]
    exact hc j u hj
  obtain ⟨a', c', w', hr, hO, hb⟩ := run_append_Own (P := P) (ty := o.type) E (B := B) hB hown ⟨b', o', none⟩ m k val hlen hm hcells hone h63 hbytes
  unfold Oper.wp execOp
  simp only [ho, resolve, invoke, builtin, Sem.run_bind, Sem.run_pure, Result.andThen_ok, List.map_toArray, List.map_cons, List.map_nil, hs, hx, hr]
  exact hK _ _ (h a' c' w' hO hb)
end

end Go.Proofs.YtabljchbchjjcaaGreatDoor
