/- Several texts in one: Ch06d, MarkI, Dg6. Conditions: see each. -/
import Derived.Test.YtabljchbchjjcaaGreatDoorMg16
import Derived.Test.YtabljchbchjjcaaGreatDoorMg12
import Derived.Test.YtabljchbchjjcaaGreatDoorMg2
import Derived.Test.YtabljchbchjjcaaGreatDoorCh05a
import Derived.Test.YtabljchbchjjcaaGreatDoorMg10
import Derived.Test.YtabljchbchjjcaaGreatDoorMg8
section
namespace Go.Proofs.YtabljchbchjjcaaGreatDoor
set_option linter.unusedVariables false
set_option linter.unusedSimpArgs false
open Go Go.RowKit
/-- Blocks of others, with a node's own block and its list. -/
def Aq (A : Nat → Prop) (G : Nat) (q : Option Addr) (b : Nat) : Prop := A b ∨ b = G ∨ blkA q = some b
theorem intsV_add (l r : List Int) : intsV (l ++ r) = intsV l ++ intsV r := by simp [intsV]
theorem Mst.weave {w wr w2 w1 w8 w9 : World} {m mp G : Nat} {aq aq1 aq' q : Option Addr} (h : Mst w wr m mp aq aq1) (k : Ch (fun b => b = G) wr w2) (hG : w.heap.size ≤ G) (s : Mst w2 w1 m mp aq1 aq') (l : Ch (fun b => blkA q = some b) w1 w8) (hq : ∀ p, q = some p → w.heap.size ≤ p.block) (z : Ch (fun b => b = G) w8 w9) : Mst w w9 m mp aq aq' := by
  refine ⟨?_, fun b hb => ?_⟩
  · have h2 := h.ch.next k (fun b hb e => absurd hb (by omega))
    have h3 : Ch (Kq m mp aq) w w1 := h2.next s.ch (fun b hb e => by
      rcases e with e | e | e
      · exact .inl e
      · exact .inr (.inl e)
      · rcases h.sep b e with r | r
        · exact .inr (.inr r)
        · omega)
    have h4 : Ch (Kq m mp aq) w w8 := h3.next l (fun b hb e => by
      cases q with
      | none => simp [blkA] at e
      | some p =>
        have := hq p rfl
        have e2 : p.block = b := by simpa [blkA] using e
        omega)
    exact h4.next z (fun b hb e => absurd hb (by omega))
  · rcases s.sep b hb with r | r
    · exact h.sep b r
    · have := h.ch.size
      have := k.size
      exact .inr (by omega)
theorem run_at {d : Nat} {S : List ByteArray} (hpos : 0 < S.length) (hS : ∀ s ∈ S, d < s.size) : ∃ (k : Nat) (x : UInt8), 0 < k ∧ k ≤ S.length ∧ x = ltr d (wAt S 0) ∧ (∀ i, i < k → ltr d (wAt S i) = x) ∧ (k < S.length → ltr d (wAt S k) ≠ x) ∧ (∀ i, i < S.length → d < (wAt S i).size) ∧
    (∀ i (hi : i < S.length), i < k → ltr d S[i] = x) ∧ (∀ (h : k < S.length), ltr d S[k] ≠ x) := by
  obtain ⟨x, hx⟩ : ∃ x, ltr d (wAt S 0) = x := ⟨_, rfl⟩
  have h1 := runN_in x d S
  have h2 := runN_out x d S
  have h3 := runN_le x d S
  have h4 : 0 < runN x d S := by
    cases S with
    | nil => simp at hpos
    | cons s r =>
      have : ltr d s = x := hx
      subst this
      exact runN_pos
  obtain ⟨k, hk⟩ : ∃ k, runN x d S = k := ⟨_, rfl⟩
  rw [hk] at h1 h3 h4
  have h5 : ∀ (h : k < S.length), ltr d S[k] ≠ x := by subst hk; exact h2
  exact ⟨k, x, h4, h3, hx.symm, fun i hi => by rw [← wAt_eq S i (by omega)]; exact h1 i (by omega) hi, fun h => by rw [← wAt_eq S k h]; exact h5 h, fun i hi => hS _ (wAt_mem S i hi), h1, h5⟩
theorem enc_asc {x : UInt8} (h : x.toNat < 128) : Utf8.encode (x.toNat : Int) = ⟨#[x]⟩ := by
  have e : Utf8.valid (x.toNat : Int) = true := by simp [Utf8.valid]; omega
  unfold Utf8.encode
  rw [e]
  simp only [if_true, Int.toNat_natCast]
  rw [if_pos (by omega)]
  simp
theorem wpList_asc {P : Program} {ops : Array Oper} {rest : List Oper} {o : Oper} {ac : Act} {Q : Exit → Act → World → Prop} (hgd : o.guard = none) (x : Operand) (src dst : TypeId) (ho : o.op = .convert src dst x) {w : World}
    (hs : (P.underlying src).isSome = true) (hd : P.underlying dst = some .string) {u : UInt8} (hu : u.toNat < 128) (hx : ac.eval x = .int .i32 (u.toNat : Int)) (h : wpList P ops Q rest (ac.put o.dst (.string ⟨#[u]⟩)) w) : wpList P ops Q (o :: rest) ac w := by
  refine wpList_plain hgd fun K hK => ?_
  have hr := run_convert_int_string (P := P) w src dst .i32 (u.toNat : Int) hs hd
  rw [enc_asc hu] at hr
  unfold Oper.wp execOp
  simp only [ho, hx, Sem.run_bind, Sem.run_pure, Result.andThen_ok, hr]
  exact hK _ _ h
theorem wrap32_asc {x : UInt8} (h : x.toNat < 128) : IntKind.i32.wrap (x.toNat : Int) = (x.toNat : Int) := by rw [IntKind.wrap_i32]; omega
theorem asc_str {x : UInt8} (h : x.toNat < 128) (l : List UInt8) : (⟨l.toArray⟩ : ByteArray) ++ (⟨#[x]⟩ : ByteArray) = ⟨(l ++ [x]).toArray⟩ := by
  apply ByteArray.ext
  simp [ByteArray.data_append]

end Go.Proofs.YtabljchbchjjcaaGreatDoor
end
section
namespace Go.Proofs.YtabljchbchjjcaaGreatDoor
set_option linter.unusedVariables false
set_option linter.unusedSimpArgs false
open Go Go.RowKit
/-- Whole numbers that may be written. -/
def WrI (w : World) (g n : Nat) : Prop := g < w.heap.size ∧ ∀ j, j < n → (∃ z : Int, w.cell? ⟨g, j, none⟩ = some (.int .i64 z)) ∧ w.frozen? ⟨g, j, none⟩ = false
def InI (lo hi : Nat) (w : World) (a : Option Addr) (n : Nat) : Prop := n = 0 ∨ ∃ g, a = some ⟨g, 0, none⟩ ∧ lo ≤ g ∧ g < hi ∧ WrI w g n
theorem WrI.ext {w w' : World} {g n : Nat} (h : WrI w g n) (k : Ext w w') : WrI w' g n :=
  ⟨Nat.lt_of_lt_of_le h.1 k.size, fun j hj => by
    obtain ⟨⟨z, hz⟩, hf⟩ := h.2 j hj
    exact ⟨⟨z, k.cell hz⟩, by rw [k.cells.2 _ _ h.1]; exact hf⟩⟩
theorem WrI.set {w : World} {g n : Nat} (h : WrI w g n) (b o : Nat) (y : Int) : WrI (w.setCell ⟨b, o, none⟩ (.int .i64 y)) g n := by
  refine ⟨by simpa [World.setCell] using h.1, fun j hj => ?_⟩
  obtain ⟨⟨z, hz⟩, hf⟩ := h.2 j hj
  refine ⟨?_, by simpa using hf⟩
  by_cases e : (⟨b, o, none⟩ : Addr) = ⟨g, j, none⟩
  · rw [e]
    exact ⟨y, World.cell?_setCell_same _ _ _ hz⟩
  · exact ⟨z, by rw [World.cell?_setCell_other _ _ _ _ e]; exact hz⟩
theorem InI.ext {lo hi : Nat} {w w' : World} {a : Option Addr} {n : Nat} (h : InI lo hi w a n) (k : Ext w w') : InI lo hi w' a n := by
  rcases h with h | ⟨g, e, h1, h2, h3⟩
  · exact .inl h
  · exact .inr ⟨g, e, h1, h2, h3.ext k⟩
theorem InI.set {lo hi : Nat} {w : World} {a : Option Addr} {n : Nat} (h : InI lo hi w a n) (b o : Nat) (y : Int) : InI lo hi (w.setCell ⟨b, o, none⟩ (.int .i64 y)) a n := by
  rcases h with h | ⟨g, e, h1, h2, h3⟩
  · exact .inl h
  · exact .inr ⟨g, e, h1, h2, h3.set b o y⟩
theorem OwnR.inI {w : World} {B : Nat} {a : Option Addr} {l : List Int} (h : OwnR w B a (intsV l)) : InI B w.heap.size w a l.length := by
  rcases h with h | ⟨g, rfl, hb, h⟩
  · exact .inl (by have := congrArg List.length h; simpa [intsV] using this)
  · refine .inr ⟨g, rfl, hb, h.1, h.1, fun j hj => ⟨⟨l[j], h.2.1 j _ (intsV_get l j hj)⟩, h.2.2 j (by rw [intsV_length]; exact hj)⟩⟩
theorem Exb.setIn {lo hi : Nat} {w0 w : World} (h : Exb lo hi w0 w) {g : Nat} (h1 : lo ≤ g) (h2 : g < hi) (j : Nat) (u : Value) : Exb lo hi w0 (w.setCell ⟨g, j, none⟩ u) :=
  ⟨h.os, h.tape, h.output, Nat.le_trans h.size (by simp [World.setCell]), fun k hk ho => by
    rw [← h.block k hk ho]
    exact ((Exc.refl g w).setCell j u).block k (Nat.lt_of_lt_of_le hk h.size) (by omega)⟩
theorem Exb.trans {lo hi : Nat} {x y z : World} (h : Exb lo hi x y) (k : Exb lo hi y z) : Exb lo hi x z :=
  ⟨k.os.trans h.os, k.tape.trans h.tape, k.output.trans h.output, Nat.le_trans h.size k.size, fun q hq ho => (k.block q (Nat.lt_of_lt_of_le hq h.size) ho).trans (h.block q hq ho)⟩
def marksI (n k : Nat) : List Int := (List.range n).map fun j => ((k + j : Nat) : Int)
theorem marksI_length (n k : Nat) : (marksI n k).length = n := by simp [marksI]
theorem mixI_start (l : List Int) (k : Nat) : ((List.range l.length).map fun q => if q < 0 then Value.int .i64 ((k + q : Nat) : Int) else .int .i64 (l.getD q 0)) = intsV l := by
  apply List.ext_getElem
  · simp [intsV]
  · intro i h1 h2
    simp [intsV] at h1 h2 ⊢
    simp [h1]
theorem mixI_end (l : List Int) (k : Nat) : ((List.range l.length).map fun q => if q < l.length then Value.int .i64 ((k + q : Nat) : Int) else .int .i64 (l.getD q 0)) = intsV (marksI l.length k) := by
  apply List.ext_getElem
  · simp [intsV, marksI]
  · intro i h1 h2
    simp [intsV, marksI] at h1 h2 ⊢
    intro h
    omega
end Go.Proofs.YtabljchbchjjcaaGreatDoor
end
section
namespace Go.Proofs.YtabljchbchjjcaaGreatDoor
set_option linter.unusedVariables false
set_option linter.unusedSimpArgs false
open Go Go.RowKit
/-- An automaton comes back, whose memory is the call's own. -/
def RetDg (l : List Nd) (w : World) (e : Ending) (w' : World) : Prop := ∃ a c L, ndsOf L = l ∧ e = .returned (dawgV a L.length c) ∧ OwnR w' w.heap.size a (ndsV L) ∧ NdOwn w' w.heap.size L ∧ Ext w w'
theorem OwnR.dg {w : World} {B : Nat} {a : Option Addr} {L : List NdP} (h : OwnR w B a (ndsV L)) (k : NdOwn w B L) : DgRd w a L := ⟨h.rd, k.rd⟩
end Go.Proofs.YtabljchbchjjcaaGreatDoor
end
