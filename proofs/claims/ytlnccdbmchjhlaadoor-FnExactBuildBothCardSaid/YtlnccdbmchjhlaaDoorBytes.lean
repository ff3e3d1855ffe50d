/- General words on bytes: string(b), []byte(s), rows that may be written. No condition. -/
import Derived.Test.YtlnccdbmchjhlaaDoorBase
import Derived.Laws.IdiomStrings
namespace Go.Proofs.YtlnccdbmchjhlaaDoor
set_option linter.unusedVariables false
set_option linter.unusedSimpArgs false
open Go Go.RowKit

def bytesV (l : List UInt8) : List Value := l.map fun x => .int .u8 x.toNat
theorem bytesV_length (l : List UInt8) : (bytesV l).length = l.length := by simp [bytesV]
theorem bytesV_append (l r : List UInt8) : bytesV (l ++ r) = bytesV l ++ bytesV r := by simp [bytesV]
theorem bytesV_get (l : List UInt8) (j : Nat) : (bytesV l)[j]? = (l[j]?).map fun x => .int .u8 x.toNat := by simp [bytesV]
theorem bytesV_one {l : List UInt8} : ∀ u ∈ bytesV l, u.oneCell' = true := by
  intro u hu
  simp only [bytesV, List.mem_map] at hu
  obtain ⟨x, _, rfl⟩ := hu
  rfl

/-- A row that may be written: its cells, from block g's head on. -/
def Wr (w : World) (g : Nat) (xs : List Value) : Prop := g < w.heap.size ∧ (∀ j u, xs[j]? = some u → w.cell? ⟨g, j, none⟩ = some u) ∧ ∀ j, j < xs.length → w.frozen? ⟨g, j, none⟩ = false
theorem Wr.heap {w w' : World} {g : Nat} {xs : List Value} (h : Wr w g xs) (e : w'.heap = w.heap) : Wr w' g xs := by
  obtain ⟨h1, h2, h3⟩ := h
  exact ⟨by rw [e]; exact h1, fun j u hj => by rw [← h2 j u hj]; simp only [World.cell?, e], fun j hj => by rw [← h3 j hj]; simp only [World.frozen?, e]⟩
theorem set_map_range (N k : Nat) (f : Nat → Value) (z : Value) (hk : k < N) : ((List.range N).map fun j => if j < k then f j else z).set k (f k) = (List.range N).map fun j => if j < k + 1 then f j else z := by
  apply List.ext_getElem
  · simp
  · intro j h1 h2
    rw [List.getElem_set]
    by_cases hj : k = j
    · subst hj; simp
    · rw [if_neg hj]
      simp only [List.getElem_map, List.getElem_range]
      by_cases hlt : j < k
      · rw [if_pos hlt, if_pos (by omega)]
      · rw [if_neg hlt, if_neg (by omega)]
theorem Wr.rd {w : World} {g : Nat} {xs : List Value} (h : Wr w g xs) : Rd w (some ⟨g, 0, none⟩) xs := fun j u hj => ⟨g, 0, rfl, by simpa using h.2.1 j u hj⟩
theorem Wr.ext {w w' : World} {g : Nat} {xs : List Value} (h : Wr w g xs) (k : Ext w w') : Wr w' g xs :=
  ⟨Nat.lt_of_lt_of_le h.1 k.size, fun j u hj => k.cell (h.2.1 j u hj), fun j hj => by rw [Below.frozen k (p := ⟨g, j, none⟩) h.1]; exact h.2.2 j hj⟩
theorem Wr.of {w : World} {B : Nat} {e : TypeId} {n c g : Nat} {xs : List Value} (h : w.ownsRow B e 1 (.slice (some ⟨g, 0, none⟩) n c) n xs) : Wr w g xs := by
  refine ⟨(h.lt g rfl).2, fun j u hj => ?_, fun j _ => h.frozenAt j⟩
  have hl : j < n * 1 := by have := h.1; have := (List.getElem?_eq_some_iff.1 hj).1; omega
  rw [h.cellAt j hl]; exact hj
theorem Wr.set {w : World} {g : Nat} {xs : List Value} (h : Wr w g xs) (k : Nat) (hk : k < xs.length) (u : Value) : Wr (w.setCell ⟨g, k, none⟩ u) g (xs.set k u) := by
  obtain ⟨h1, h2, h3⟩ := h
  refine ⟨by simpa [World.setCell] using h1, fun j v hj => ?_, fun j hj => ?_⟩
  · by_cases hjk : j = k
    · subst hjk
      rw [List.getElem?_set_self hk] at hj
      simp only [Option.some.injEq] at hj
      subst hj
      exact World.cell?_setCell_same _ _ _ (h2 j xs[j] (List.getElem?_eq_getElem hk))
    · rw [List.getElem?_set_ne (Ne.symm hjk)] at hj
      rw [World.cell?_setCell_other _ _ _ _ (fun e => by simp at e <;> omega)]
      exact h2 j v hj
  · rw [List.length_set] at hj
    simpa using h3 j hj
theorem Wr.fit {w : World} {g : Nat} {xs : List Value} (h : Wr w g xs) (k : Nat) (hk : k < xs.length) : w.cell? ⟨g, k, none⟩ = some xs[k] ∧ w.frozen? ⟨g, k, none⟩ = false :=
  ⟨h.2.1 k _ (List.getElem?_eq_getElem hk), h.2.2 k hk⟩

section
variable {P : Program}
theorem run_str {w : World} {src dst e : TypeId} (hs : P.underlying src = some (.slice e)) (he : P.underlying e = some (.int .u8)) (hd : P.underlying dst = some .string)
    {a : Option Addr} {n c : Nat} {l : List UInt8} (hn : n = l.length) (h : Rd w a (bytesV l)) : (convert src dst (.slice a n c)).run P w = .ok (.string ⟨l.toArray⟩) w := by
  by_cases h0 : 0 < l.length
  · obtain ⟨b, o, rfl, hc⟩ := h.at (by rw [bytesV_length]; exact h0)
    rw [hn]
    refine run_convert_bytes_back w src dst e ⟨b, o, none⟩ c l hs he hd (fun j hj => ?_)
    have hadd : (⟨b, o, none⟩ : Addr).add j = ⟨b, o + j, none⟩ := by unfold Addr.add; split <;> simp_all
    rw [hadd]
    exact hc j _ (by simp [bytesV, hj])
  · have hl : l = [] := List.eq_nil_of_length_eq_zero (by omega)
    subst hl
    simp only [List.length_nil] at hn
    subst hn
    cases a with
    | none => exact run_convert_bytes_nil w src e hs he 0 c dst hd
    | some b => exact run_convert_bytes_back w src dst e b c [] hs he hd (fun j hj => by simp at hj)

/-- 'string(b)'. -/
theorem wpList_str {ops : Array Oper} {rest : List Oper} {o : Oper} {ac : Act} {Q : Exit → Act → World → Prop} (hgd : o.guard = none) (x : Operand) (src dst : TypeId) (ho : o.op = .convert src dst x) {w : World} {e : TypeId}
    (hs : P.underlying src = some (.slice e)) (he : P.underlying e = some (.int .u8)) (hd : P.underlying dst = some .string) {a : Option Addr} {n c : Nat} (hx : ac.eval x = .slice a n c) {l : List UInt8} (hn : n = l.length) (hrd : Rd w a (bytesV l))
    (h : wpList P ops Q rest (ac.put o.dst (.string ⟨l.toArray⟩)) w) : wpList P ops Q (o :: rest) ac w := by
  refine wpList_plain hgd fun K hK => ?_
  have hr := run_str (P := P) hs he hd (c := c) hn hrd
  unfold Oper.wp execOp
  simp only [ho, hx, Sem.run_bind, Sem.run_pure, Result.andThen_ok, hr]
  exact hK _ _ h

/-- '[]byte(s)'. -/
theorem wpList_bytes {ops : Array Oper} {rest : List Oper} {o : Oper} {ac : Act} {Q : Exit → Act → World → Prop} (hgd : o.guard = none) (x : Operand) (src dst : TypeId) (ho : o.op = .convert src dst x) {w : World} {e : TypeId}
    (hs : P.underlying src = some .string) (hd : P.underlying dst = some (.slice e)) (he : P.underlying e = some (.int .u8)) {s : ByteArray} (hx : ac.eval x = .string s)
    (h : ∀ c w', Wr w' w.heap.size (bytesV s.data.toList) → s.size ≤ c → Ext w w' → w'.heap.size = w.heap.size + 1 → wpList P ops Q rest (ac.put o.dst (.slice (some ⟨w.heap.size, 0, none⟩) s.size c)) w') : wpList P ops Q (o :: rest) ac w := by
  refine wpList_plain hgd fun K hK => ?_
  have hr := run_bytes_of_string (P := P) w src dst e s hs hd he
  unfold Oper.wp execOp
  simp only [ho, hx, Sem.run_bind, Sem.run_pure, Result.andThen_ok, hr]
  refine hK _ _ (h _ _ ⟨by simp, fun j u hj => ?_, fun j hj => ?_⟩ (grownCap_ge w _ _ _) (((Ext.refl w).drew).alloc _) (by simp))
  · have hcap := grownCap_ge w s.size 0 e
    rw [bytesV_get] at hj
    have hjs : j < s.data.size := by
      rcases Nat.lt_or_ge j s.data.size with h' | h'
      · exact h'
      · rw [List.getElem?_eq_none (by simpa using h')] at hj; simp at hj
    have := World.cell?_alloc_mark w.drew (bytesRow s (grownCap w s.size 0 e)) e ((bytesRow s (grownCap w s.size 0 e)).size, (bytesRow s (grownCap w s.size 0 e)).size + 1) j
    rw [show (w.drew.heap.size) = w.heap.size by simp] at this
    rw [this, bytesRow_at s _ j hjs, ← hj, Array.getElem?_toList, Array.getElem?_eq_getElem hjs]
    rfl
  · rw [bytesV_length] at hj
    have := World.frozen?_alloc_mark w.drew (bytesRow s (grownCap w s.size 0 e)) e (bytesRow s (grownCap w s.size 0 e)).size ((bytesRow s (grownCap w s.size 0 e)).size + 1) j
    rw [show (w.drew.heap.size) = w.heap.size by simp] at this
    rw [this]
    have hsz : s.data.size ≤ (bytesRow s (grownCap w s.size 0 e)).size := by unfold bytesRow; simp only [Array.size_append, Array.size_map]; omega
    have hj' : j < s.data.size := by rw [← Array.length_toList]; exact hj
    have h1 : decide ((bytesRow s (grownCap w s.size 0 e)).size ≤ j) = false := by rw [decide_eq_false_iff_not]; omega
    rw [h1]; rfl
/-- 'make([]T, n)', elements of one cell. -/
theorem wpList_make1 {ops : Array Oper} {rest : List Oper} {o : Oper} {ac : Act} {Q : Exit → Act → World → Prop} (hgd : o.guard = none) (x y : Operand) (t : TypeId) (ho : o.op = Op.makeSlice t x y) {w : World} {e : TypeId} {z : Value} {bytes : Nat} (E : El P t e z 1 bytes) (hz : z.cells = #[z])
    {kl kc : IntKind} {L C : Int} (n : Nat) (hl : ac.eval x = .int kl L) (hc : ac.eval y = .int kc C) (hL : L = (n : Int)) (hC : C = (n : Int)) (b2 : bytes * n ≤ 281474976710656) (b3 : n ≤ maxLen)
    (h : ∀ w', Wr w' w.heap.size (List.replicate n z) → Own w' w.heap.size e 1 (some ⟨w.heap.size, 0, none⟩) n n (List.replicate n z) → Ext w w' → wpList P ops Q rest (ac.put o.dst (.slice (some ⟨w.heap.size, 0, none⟩) n n)) w') : wpList P ops Q (o :: rest) ac w := by
  obtain ⟨i, hi, hzz, hs, hb⟩ := E.info
  refine wpList_make_full w hgd x y t ho w.heap.size e i z 1 E.under hi hzz hs kl kc L C n hl hc hL hC (by rw [hb]; exact b2) b3 (Nat.le_refl _) (fun w' hw hg => ?_)
  rw [hz, Nat.mul_one, toList_madeCells_one] at hw
  exact h w' (Wr.of hw) (.inr hw) ((Below.refl _ _).grown hg (Nat.le_refl _) (fun k hk => by simp at hk))
/-- 'string(b)' in a drawn region. -/
theorem flow_str {o : Oper} {ρ : Operand → Value} {w : World} {src dst e : TypeId} {x : Operand} (ho : o.op = .convert src dst x) (hs : P.underlying src = some (.slice e)) (he : P.underlying e = some (.int .u8)) (hd : P.underlying dst = some .string)
    {a : Option Addr} {n c : Nat} (hx : ρ x = .slice a n c) {l : List UInt8} (hn : n = l.length) (hrd : Rd w a (bytesV l)) : flowAt P Ext o ρ w (fun v _ => v = .string ⟨l.toArray⟩) := by
  have hr := run_str (P := P) hs he hd (c := c) hn hrd
  unfold flowAt execOp
  simp only [ho, hx, Sem.run_bind, Sem.run_pure, Result.andThen_ok, hr]
  exact ⟨Ext.refl w, rfl⟩
end

end Go.Proofs.YtlnccdbmchjhlaaDoor
