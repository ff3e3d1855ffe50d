/- Several texts in one: Bytes, StrV, MarkB. Conditions: see each. -/
import Derived.Test.YtabljchbchjjcaaGreatDoorBase
import Derived.Laws.IdiomStrings
section
namespace Go.Proofs.YtabljchbchjjcaaGreatDoor
set_option linter.unusedVariables false
set_option linter.unusedSimpArgs false
open Go Go.RowKit

def bytesV (l : List UInt8) : List Value := l.map fun x => .int .u8 x.toNat
theorem bytesV_length (l : List UInt8) : (bytesV l).length = l.length := by simp [bytesV]
theorem bytesV_append (l r : List UInt8) : bytesV (l ++ r) = bytesV l ++ bytesV r := by simp [bytesV]
theorem bytesV_get (l : List UInt8) (j : Nat) : (bytesV l)[j]? = (l[j]?).map fun x => .int .u8 x.toNat := by simp [bytesV]
theorem bytesV_one {l : List UInt8} : ∀ u ∈ bytesV l, u.oneCell' = true := by
  intro u hu
  simp only [bytesV, List.mem_map] at hu
  obtain ⟨x, _, rfl⟩ := hu
  rfl

/-- A row that may be written: its cells, from block g's head on. -/
def Wr (w : World) (g : Nat) (xs : List Value) : Prop := g < w.heap.size ∧ (∀ j u, xs[j]? = some u → w.cell? ⟨g, j, none⟩ = some u) ∧ ∀ j, j < xs.length → w.frozen? ⟨g, j, none⟩ = false
theorem Wr.heap {w w' : World} {g : Nat} {xs : List Value} (h : Wr w g xs) (e : w'.heap = w.heap) : Wr w' g xs := by
  obtain ⟨h1, h2, h3⟩ := h
  exact ⟨by rw [e]; exact h1, fun j u hj => by rw [← h2 j u hj]; simp only [World.cell?, e], fun j hj => by rw [← h3 j hj]; simp only [World.frozen?, e]⟩
theorem set_map_range (N k : Nat) (f : Nat → Value) (z : Value) (hk : k < N) : ((List.range N).map fun j => if j < k then f j else z).set k (f k) = (List.range N).map fun j => if j < k + 1 then f j else z := by
  apply List.ext_getElem
  · simp
  · intro j h1 h2
    rw [List.getElem_set]
    by_cases hj : k = j
    · subst hj; simp
    · rw [if_neg hj]
      simp only [List.getElem_map, List.getElem_range]
      by_cases hlt : j < k
      · rw [if_pos hlt, if_pos (by omega)]
      · rw [if_neg hlt, if_neg (by omega)]
theorem Wr.rd {w : World} {g : Nat} {xs : List Value} (h : Wr w g xs) : Rd w (some ⟨g, 0, none⟩) xs := fun j u hj => ⟨g, 0, rfl, by simpa using h.2.1 j u hj⟩
theorem Wr.ext {w w' : World} {g : Nat} {xs : List Value} (h : Wr w g xs) (k : Ext w w') : Wr w' g xs :=
  ⟨Nat.lt_of_lt_of_le h.1 k.size, fun j u hj => k.cell (h.2.1 j u hj), fun j hj => by rw [Below.frozen k (p := ⟨g, j, none⟩) h.1]; exact h.2.2 j hj⟩
theorem Wr.of {w : World} {B : Nat} {e : TypeId} {n c g : Nat} {xs : List Value} (h : w.ownsRow B e 1 (.slice (some ⟨g, 0, none⟩) n c) n xs) : Wr w g xs := by
  refine ⟨(h.lt g rfl).2, fun j u hj => ?_, fun j _ => h.frozenAt j⟩
  have hl : j < n * 1 := by have := h.1; have := (List.getElem?_eq_some_iff.1 hj).1; omega
  rw [h.cellAt j hl]; exact hj
theorem Wr.set {w : World} {g : Nat} {xs : List Value} (h : Wr w g xs) (k : Nat) (hk : k < xs.length) (u : Value) : Wr (w.setCell ⟨g, k, none⟩ u) g (xs.set k u) := by
  obtain ⟨h1, h2, h3⟩ := h
  refine ⟨by simpa [World.setCell] using h1, fun j v hj => ?_, fun j hj => ?_⟩
  · by_cases hjk : j = k
    · subst hjk
      rw [List.getElem?_set_self hk] at hj
      simp only [Option.some.injEq] at hj
      subst hj
      exact World.cell?_setCell_same _ _ _ (h2 j xs[j] (List.getElem?_eq_getElem hk))
    · rw [List.getElem?_set_ne (Ne.symm hjk)] at hj
      rw [World.cell?_setCell_other _ _ _ _ (fun e => by simp at e <;> omega)]
      exact h2 j v hj
  · rw [List.length_set] at hj
    simpa using h3 j hj
theorem Wr.fit {w : World} {g : Nat} {xs : List Value} (h : Wr w g xs) (k : Nat) (hk : k < xs.length) : w.cell? ⟨g, k, none⟩ = some xs[k] ∧ w.frozen? ⟨g, k, none⟩ = false :=
  ⟨h.2.1 k _ (List.getElem?_eq_getElem hk), h.2.2 k hk⟩

section
variable {P : Program}
theorem run_str {w : World} {src dst e : TypeId} (hs : P.underlying src = some (.slice e)) (he : P.underlying e = some (.int .u8)) (hd : P.underlying dst = some .string)
    {a : Option Addr} {n c : Nat} {l : List UInt8} (hn : n = l.length) (h : Rd w a (bytesV l)) : (convert src dst (.slice a n c)).run P w = .ok (.string ⟨l.toArray⟩) w := by
  by_cases h0 : 0 < l.length
  · obtain ⟨b, o, rfl, hc⟩ := h.at (by rw [bytesV_length]; exact h0)
    rw [hn]
    refine run_convert_bytes_back w src dst e ⟨b, o, none⟩ c l hs he hd (fun j hj => ?_)
    have hadd : (⟨b, o, none⟩ : Addr).add j = ⟨b, o + j, none⟩ := by unfold Addr.add; split <;> simp_all
    rw [hadd]
    exact hc j _ (by simp [bytesV, hj])
  · have hl : l = [] := List.eq_nil_of_length_eq_zero (by omega)
    subst hl
    simp only [List.length_nil] at hn
    subst hn
    cases a with
    | none => exact run_convert_bytes_nil w src e hs he 0 c dst hd
    | some b => exact run_convert_bytes_back w src dst e b c [] hs he hd (fun j hj => by simp at hj)

/-- 'string(b)'. -/
theorem wpList_str {ops : Array Oper} {rest : List Oper} {o : Oper} {ac : Act} {Q : Exit → Act → World → Prop} (hgd : o.guard = none) (x : Operand) (src dst : TypeId) (ho : o.op = .convert src dst x) {w : World} {e : TypeId}
    (hs : P.underlying src = some (.slice e)) (he : P.underlying e = some (.int .u8)) (hd : P.underlying dst = some .string) {a : Option Addr} {n c : Nat} (hx : ac.eval x = .slice a n c) {l : List UInt8} (hn : n = l.length) (hrd : Rd w a (bytesV l))
    (h : wpList P ops Q rest (ac.put o.dst (.string ⟨l.toArray⟩)) w) : wpList P ops Q (o :: rest) ac w := by
  refine wpList_plain hgd fun K hK => ?_
  have hr := run_str (P := P) hs he hd (c := c) hn hrd
  unfold Oper.wp execOp
  simp only [ho, hx, Sem.run_bind, Sem.run_pure, Result.andThen_ok, hr]
  exact hK _ _ h

/-- '[]byte(s)'. -/
theorem wpList_bytes {ops : Array Oper} {rest : List Oper} {o : Oper} {ac : Act} {Q : Exit → Act → World → Prop} (hgd : o.guard = none) (x : Operand) (src dst : TypeId) (ho : o.op = .convert src dst x) {w : World} {e : TypeId}
    (hs : P.underlying src = some .string) (hd : P.underlying dst = some (.slice e)) (he : P.underlying e = some (.int .u8)) {s : ByteArray} (hx : ac.eval x = .string s)
    (h : ∀ c w', Wr w' w.heap.size (bytesV s.data.toList) → s.size ≤ c → Ext w w' → w'.heap.size = w.heap.size + 1 → wpList P ops Q rest (ac.put o.dst (.slice (some ⟨w.heap.size, 0, none⟩) s.size c)) w') : wpList P ops Q (o :: rest) ac w := by
  refine wpList_plain hgd fun K hK => ?_
  have hr := run_bytes_of_string (P := P) w src dst e s hs hd he
  unfold Oper.wp execOp
  simp only [ho, hx, Sem.run_bind, Sem.run_pure, Result.andThen_ok, hr]
  refine hK _ _ (h _ _ ⟨by simp, fun j u hj => ?_, fun j hj => ?_⟩ (grownCap_ge w _ _ _) (((Ext.refl w).drew).alloc _) (by simp))
  · have hcap := grownCap_ge w s.size 0 e
    rw [bytesV_get] at hj
    have hjs : j < s.data.size := by
      rcases Nat.lt_or_ge j s.data.size with h' | h'
      · exact h'
      · rw [List.getElem?_eq_none (by simpa using h')] at hj; simp at hj
    have := World.cell?_alloc_mark w.drew (bytesRow s (grownCap w s.size 0 e)) e ((bytesRow s (grownCap w s.size 0 e)).size, (bytesRow s (grownCap w s.size 0 e)).size + 1) j
    rw [show (w.drew.heap.size) = w.heap.size by simp] at this
    rw [this, bytesRow_at s _ j hjs, ← hj, Array.getElem?_toList, Array.getElem?_eq_getElem hjs]
    rfl
  · rw [bytesV_length] at hj
    have := World.frozen?_alloc_mark w.drew (bytesRow s (grownCap w s.size 0 e)) e (bytesRow s (grownCap w s.size 0 e)).size ((bytesRow s (grownCap w s.size 0 e)).size + 1) j
    rw [show (w.drew.heap.size) = w.heap.size by simp] at this
    rw [this]
    have hsz : s.data.size ≤ (bytesRow s (grownCap w s.size 0 e)).size := by unfold bytesRow; simp only [Array.size_append, Array.size_map]; omega
    have hj' : j < s.data.size := by rw [← Array.length_toList]; exact hj
    have h1 : decide ((bytesRow s (grownCap w s.size 0 e)).size ≤ j) = false := by rw [decide_eq_false_iff_not]; omega
    rw [h1]; rfl
/-- 'make([]T, n)', elements of one cell. -/
theorem wpList_make1 {ops : Array Oper} {rest : List Oper} {o : Oper} {ac : Act} {Q : Exit → Act → World → Prop} (hgd : o.guard = none) (x y : Operand) (t : TypeId) (ho : o.op = Op.makeSlice t x y) {w : World} {e : TypeId} {z : Value} {bytes : Nat} (E : El P t e z 1 bytes) (hz : z.cells = #[z])
    {kl kc : IntKind} {L C : Int} (n : Nat) (hl : ac.eval x = .int kl L) (hc : ac.eval y = .int kc C) (hL : L = (n : Int)) (hC : C = (n : Int)) (b2 : bytes * n ≤ 281474976710656) (b3 : n ≤ maxLen)
    (h : ∀ w', Wr w' w.heap.size (List.replicate n z) → Own w' w.heap.size e 1 (some ⟨w.heap.size, 0, none⟩) n n (List.replicate n z) → Ext w w' → wpList P ops Q rest (ac.put o.dst (.slice (some ⟨w.heap.size, 0, none⟩) n n)) w') : wpList P ops Q (o :: rest) ac w := by
  obtain ⟨i, hi, hzz, hs, hb⟩ := E.info
  refine wpList_make_full w hgd x y t ho w.heap.size e i z 1 E.under hi hzz hs kl kc L C n hl hc hL hC (by rw [hb]; exact b2) b3 (Nat.le_refl _) (fun w' hw hg => ?_)
  rw [hz, Nat.mul_one, toList_madeCells_one] at hw
  exact h w' (Wr.of hw) (.inr hw) ((Below.refl _ _).grown hg (Nat.le_refl _) (fun k hk => by simp at hk))
/-- 'string(b)' in a drawn region. -/
theorem flow_str {o : Oper} {ρ : Operand → Value} {w : World} {src dst e : TypeId} {x : Operand} (ho : o.op = .convert src dst x) (hs : P.underlying src = some (.slice e)) (he : P.underlying e = some (.int .u8)) (hd : P.underlying dst = some .string)
    {a : Option Addr} {n c : Nat} (hx : ρ x = .slice a n c) {l : List UInt8} (hn : n = l.length) (hrd : Rd w a (bytesV l)) : flowAt P Ext o ρ w (fun v _ => v = .string ⟨l.toArray⟩) := by
  have hr := run_str (P := P) hs he hd (c := c) hn hrd
  unfold flowAt execOp
  simp only [ho, hx, Sem.run_bind, Sem.run_pure, Result.andThen_ok, hr]
  exact ⟨Ext.refl w, rfl⟩
end

end Go.Proofs.YtabljchbchjjcaaGreatDoor
end
section
namespace Go.Proofs.YtabljchbchjjcaaGreatDoor
set_option linter.unusedVariables false
set_option linter.unusedSimpArgs false
open Go Go.RowKit
theorem El_str : El Tryz.prog 24 9 (.string ⟨#[]⟩) 1 16 := by
  obtain ⟨i, h1, h2, h3, h4⟩ := info_parts (show (Tryz.prog.info? 9).map (fun i => (i.zero, i.size, i.bytes)) = some (some (.string ⟨#[]⟩), 1, 16) by kernel_rfl)
  exact ⟨Tryz.underlying24, ⟨i, h1, h2, h3, h4⟩, rfl, by decide⟩
def strsV (l : List ByteArray) : List Value := l.map Value.string
theorem strsV_length (l : List ByteArray) : (strsV l).length = l.length := by simp [strsV]
theorem strsV_append (l r : List ByteArray) : strsV (l ++ r) = strsV l ++ strsV r := by simp [strsV]
end Go.Proofs.YtabljchbchjjcaaGreatDoor
end
section
namespace Go.Proofs.YtabljchbchjjcaaGreatDoor
set_option linter.unusedVariables false
set_option linter.unusedSimpArgs false
open Go Go.RowKit
/-- All but one block is as it was. -/
structure Exc (g : Nat) (w w' : World) : Prop where
  os : w'.os = w.os
  tape : w'.tape = w.tape
  output : w'.output = w.output
  size : w.heap.size ≤ w'.heap.size
  block : ∀ k, k < w.heap.size → k ≠ g → w'.heap[k]? = w.heap[k]?
theorem Exc.refl (g : Nat) (w : World) : Exc g w w := ⟨rfl, rfl, rfl, Nat.le_refl _, fun _ _ _ => rfl⟩
theorem Exc.ext {g : Nat} {w w' w'' : World} (h : Exc g w w') (k : Ext w' w'') : Exc g w w'' :=
  ⟨k.below.os.trans h.os, k.below.tape.trans h.tape, k.below.output.trans h.output, Nat.le_trans h.size k.size, fun q hq hg => (k.below.block q (Nat.lt_of_lt_of_le hq h.size)).trans (h.block q hq hg)⟩
theorem Exc.setCell {g : Nat} {w w' : World} (h : Exc g w w') (j : Nat) (u : Value) : Exc g w (w'.setCell ⟨g, j, none⟩ u) := by
  refine ⟨h.os, h.tape, h.output, Nat.le_trans h.size (by simp [World.setCell]), fun k hk hg => ?_⟩
  rw [← h.block k hk hg]
  simp [World.setCell, Array.getElem?_modify, Ne.symm hg]
theorem Exc.cell {g : Nat} {w w' : World} (h : Exc g w w') {b o : Nat} {v : Value} (hv : w.cell? ⟨b, o, none⟩ = some v) (hb : b ≠ g) : w'.cell? ⟨b, o, none⟩ = some v := by
  rw [← hv]
  have := h.block b (World.block_lt_of_cell? w _ hv) hb
  simp only [World.cell?, this]
theorem Exc.frozen {g : Nat} {w w' : World} (h : Exc g w w') {b : Nat} (o : Nat) (hl : b < w.heap.size) (hb : b ≠ g) : w'.frozen? ⟨b, o, none⟩ = w.frozen? ⟨b, o, none⟩ := by
  have := h.block b hl hb
  simp only [World.frozen?, this]
theorem Exc.rd {g : Nat} {w w' : World} (h : Exc g w w') {b o : Nat} {xs : List Value} (hr : Rd w (some ⟨b, o, none⟩) xs) (hb : b ≠ g) : Rd w' (some ⟨b, o, none⟩) xs := fun j u hj => by
  obtain ⟨b', o', ha, hc⟩ := hr j u hj
  simp only [Option.some.injEq, Addr.mk.injEq, and_true] at ha
  obtain ⟨rfl, rfl⟩ := ha
  exact ⟨b, o, rfl, h.cell hc hb⟩
theorem Exc.wr {g : Nat} {w w' : World} (h : Exc g w w') {b : Nat} {xs : List Value} (hr : Wr w b xs) (hb : b ≠ g) : Wr w' b xs :=
  ⟨Nat.lt_of_lt_of_le hr.1 h.size, fun j u hj => h.cell (hr.2.1 j u hj) hb, fun j hj => by rw [h.frozen j hr.1 hb]; exact hr.2.2 j hj⟩
theorem Exc.below {g B : Nat} {w w' : World} (h : Exc g w w') (hB : B ≤ g) (hs : B ≤ w.heap.size) : Below B w w' := ⟨h.os, h.tape, h.output, h.size, fun k hk => h.block k (by omega) (by omega)⟩
/-- A row in a block from lo on and below hi; or none. -/
def InR (lo hi : Nat) (w : World) (a : Option Addr) (xs : List Value) : Prop := xs = [] ∨ ∃ g, a = some ⟨g, 0, none⟩ ∧ lo ≤ g ∧ g < hi ∧ Wr w g xs
theorem InR.rd {lo hi : Nat} {w : World} {a : Option Addr} {xs : List Value} (h : InR lo hi w a xs) : Rd w a xs := by
  rcases h with rfl | ⟨g, rfl, _, _, h⟩
  · exact Rd.nil _ _
  · exact h.rd
theorem InR.ext {lo hi : Nat} {w w' : World} {a : Option Addr} {xs : List Value} (h : InR lo hi w a xs) (k : Ext w w') : InR lo hi w' a xs := by
  rcases h with rfl | ⟨g, rfl, h1, h2, h⟩
  · exact .inl rfl
  · exact .inr ⟨g, rfl, h1, h2, h.ext k⟩
/-- All blocks but those from lo on and below hi are as they were. -/
structure Exb (lo hi : Nat) (w w' : World) : Prop where
  os : w'.os = w.os
  tape : w'.tape = w.tape
  output : w'.output = w.output
  size : w.heap.size ≤ w'.heap.size
  block : ∀ k, k < w.heap.size → (k < lo ∨ hi ≤ k) → w'.heap[k]? = w.heap[k]?
theorem Exb.of_ext {lo hi : Nat} {w w' : World} (h : Ext w w') : Exb lo hi w w' := ⟨h.below.os, h.below.tape, h.below.output, h.size, fun k hk _ => h.below.block k hk⟩
theorem Exb.of_exc {lo hi g : Nat} {w w' : World} (h : Exc g w w') (h1 : lo ≤ g) (h2 : g < hi) : Exb lo hi w w' := ⟨h.os, h.tape, h.output, h.size, fun k hk ho => h.block k hk (by omega)⟩
theorem Exb.pre {lo hi : Nat} {w w' w'' : World} (h : Ext w w') (k : Exb lo hi w' w'') : Exb lo hi w w'' :=
  ⟨k.os.trans h.below.os, k.tape.trans h.below.tape, k.output.trans h.below.output, Nat.le_trans h.size k.size, fun q hq ho => (k.block q (Nat.lt_of_lt_of_le hq h.size) ho).trans (h.below.block q hq)⟩
theorem Exb.cell {lo hi : Nat} {w w' : World} (h : Exb lo hi w w') {b o : Nat} {v : Value} (hv : w.cell? ⟨b, o, none⟩ = some v) (hb : b < lo ∨ hi ≤ b) : w'.cell? ⟨b, o, none⟩ = some v := by
  rw [← hv]
  have := h.block b (World.block_lt_of_cell? w _ hv) hb
  simp only [World.cell?, this]
theorem Exb.frozen {lo hi : Nat} {w w' : World} (h : Exb lo hi w w') {b : Nat} (o : Nat) (hl : b < w.heap.size) (hb : b < lo ∨ hi ≤ b) : w'.frozen? ⟨b, o, none⟩ = w.frozen? ⟨b, o, none⟩ := by
  have := h.block b hl hb
  simp only [World.frozen?, this]
theorem Exb.inR {lo hi l2 h2 : Nat} {w w' : World} {a : Option Addr} {xs : List Value} (h : Exb lo hi w w') (r : InR l2 h2 w a xs) (hb : h2 ≤ lo ∨ hi ≤ l2) : InR l2 h2 w' a xs := by
  rcases r with rfl | ⟨g, rfl, h1, h3, r⟩
  · exact .inl rfl
  · refine .inr ⟨g, rfl, h1, h3, Nat.lt_of_lt_of_le r.1 h.size, fun j u hj => h.cell (r.2.1 j u hj) (by omega), fun j hj => by rw [h.frozen j r.1 (by omega)]; exact r.2.2 j hj⟩
theorem Exb.ext0 {lo hi : Nat} {w w1 w2 : World} (k : Ext w w1) (h : Exb lo hi w1 w2) (hb : w.heap.size ≤ lo) : Ext w w2 :=
  ⟨h.os.trans k.below.os, h.tape.trans k.below.tape, h.output.trans k.below.output, Nat.le_trans k.size h.size, fun q hq => (h.block q (Nat.lt_of_lt_of_le hq k.size) (by omega)).trans (k.below.block q hq)⟩

theorem Own.inR {w : World} {B : Nat} {e : TypeId} {size : Nat} {a : Option Addr} {n c : Nat} {xs : List Value} (h : Own w B e size a n c xs) : InR B w.heap.size w a xs := by
  by_cases hn : 0 < n
  · obtain ⟨g, rfl, h1, h2, h3, h4⟩ := h.form hn
    refine .inr ⟨g, rfl, h1, h2, h2, fun j u hj => ?_, fun j _ => h3 j⟩
    obtain ⟨b, o, hb, hc⟩ := h.rd j u hj
    simp only [Option.some.injEq, Addr.mk.injEq, and_true] at hb
    obtain ⟨rfl, rfl⟩ := hb
    simpa using hc
  · refine .inl (List.eq_nil_of_length_eq_zero ?_)
    rw [h.length, show n = 0 by omega]
    simp
theorem InR.up {lo hi hi' : Nat} {w : World} {a : Option Addr} {xs : List Value} (h : InR lo hi w a xs) (k : hi ≤ hi') : InR lo hi' w a xs := by
  rcases h with rfl | ⟨g, rfl, h1, h2, h⟩
  · exact .inl rfl
  · exact .inr ⟨g, rfl, h1, by omega, h⟩
theorem InR.down {lo lo' hi : Nat} {w : World} {a : Option Addr} {xs : List Value} (h : InR lo hi w a xs) (k : lo' ≤ lo) : InR lo' hi w a xs := by
  rcases h with rfl | ⟨g, rfl, h1, h2, h⟩
  · exact .inl rfl
  · exact .inr ⟨g, rfl, by omega, h2, h⟩
theorem set_map_range2 (N k : Nat) (f z : Nat → Value) (hk : k < N) : ((List.range N).map fun j => if j < k then f j else z j).set k (f k) = (List.range N).map fun j => if j < k + 1 then f j else z j := by
  apply List.ext_getElem
  · simp
  · intro j h1 h2
    rw [List.getElem_set]
    simp only [List.getElem_map, List.getElem_range]
    by_cases h : k = j
    · subst h; simp
    · rw [if_neg h]
      by_cases h' : j < k
      · rw [if_pos h', if_pos (by omega)]
      · rw [if_neg h', if_neg (by omega)]
end Go.Proofs.YtabljchbchjjcaaGreatDoor
end
