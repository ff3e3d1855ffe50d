/- Several texts in one: DgM, Ch06f, Ch06g, Ch06h. Conditions: see each. -/
import Derived.Test.YtabljchbchjjcaaGreatDoorMg17
import Derived.Test.YtabljchbchjjcaaGreatDoorMg8
import Derived.Test.YtabljchbchjjcaaGreatDoorMg15
import Derived.Test.YtabljchbchjjcaaGreatDoorMg9
import Derived.Test.YtabljchbchjjcaaGreatDoorMg2
import Derived.Laws.EntriesVeiled
import Derived.WideMake
import Derived.Maps.Own
import Derived.Test.YtabljchbchjjcaaGreatDoorMg13
section
namespace Go.Proofs.YtabljchbchjjcaaGreatDoor
set_option linter.unusedVariables false
set_option linter.unusedSimpArgs false
open Go Go.RowKit
/-- No two lists share a block. -/
def ApartL (L : List NdP) : Prop := L.Pairwise fun p q => 0 < p.nd.nx.length → 0 < q.nd.nx.length → ∀ x y, p.a = some x → q.a = some y → x.block ≠ y.block
def markNk (k : Nat) (p : NdP) : NdP := ⟨⟨k % 3 == 0, markTx (k + 1), marksI p.nd.nx.length (k + 2)⟩, p.a, p.c⟩
def markNs : Nat → List NdP → List NdP
  | _, [] => []
  | k, p :: r => markNk k p :: markNs (k + 2 + p.nd.nx.length) r
def markNn : Nat → List NdP → Nat
  | k, [] => k
  | k, p :: r => markNn (k + 2 + p.nd.nx.length) r
theorem markNs_len : ∀ (k : Nat) (L : List NdP), (markNs k L).length = L.length
  | _, [] => rfl
  | k, p :: r => by rw [markNs, List.length_cons, markNs_len, List.length_cons]
theorem markNs_snoc : ∀ (k : Nat) (L : List NdP) (p : NdP), markNs k (L ++ [p]) = markNs k L ++ [markNk (markNn k L) p]
  | _, [], _ => rfl
  | k, a :: r, p => by rw [List.cons_append, markNs, markNs_snoc, markNs, markNn, List.cons_append]
theorem markNn_snoc : ∀ (k : Nat) (L : List NdP) (p : NdP), markNn k (L ++ [p]) = markNn k L + 2 + p.nd.nx.length
  | _, [], _ => rfl
  | k, a :: r, p => by rw [List.cons_append, markNn, markNn_snoc, markNn]
theorem markNn_le : ∀ (k : Nat) (L : List NdP), markNn k L = k + 2 * L.length + (L.map fun p => p.nd.nx.length).sum
  | _, [] => rfl
  | k, a :: r => by rw [markNn, markNn_le]; simp; omega
theorem markNn_mono (k : Nat) (A B : List NdP) : markNn k A ≤ markNn k (A ++ B) := by
  rw [markNn_le, markNn_le]; simp; omega
/-- An automaton's nodes, which may be written. -/
structure DgW (lo hi : Nat) (w : World) (g : Nat) (L : List NdP) : Prop where
  row : Wr w g (ndsV L)
  ge : lo ≤ g
  lt : g < hi
  nx : ∀ p ∈ L, InR lo hi w p.a (intsV p.nd.nx)
  off : ∀ p ∈ L, 0 < p.nd.nx.length → ∀ q, p.a = some q → q.block ≠ g
  ap : ApartL L
theorem DgW.ext {lo hi g : Nat} {w w' : World} {L : List NdP} (h : DgW lo hi w g L) (k : Ext w w') : DgW lo hi w' g L := ⟨h.row.ext k, h.ge, h.lt, fun p hp => (h.nx p hp).ext k, h.off, h.ap⟩
theorem DgW.dg {lo hi g : Nat} {w : World} {L : List NdP} (h : DgW lo hi w g L) : DgRd w (some ⟨g, 0, none⟩) L := ⟨h.row.rd, fun p hp => (h.nx p hp).rd⟩
theorem ints_len' (l : List Int) : (intsV l).length = l.length := by simp [intsV]
theorem Ch.inR {K : Nat → Prop} {lo hi : Nat} {w w' : World} {a : Option Addr} {xs : List Value} (k : Ch K w w') (h : InR lo hi w a xs) (hb : 0 < xs.length → ∀ q, a = some q → ¬ K q.block) : InR lo hi w' a xs := by
  rcases h with rfl | ⟨g, rfl, h1, h2, h⟩
  · exact .inl rfl
  · by_cases hx : 0 < xs.length
    · have hg : ¬ K g := hb hx _ rfl
      refine .inr ⟨g, rfl, h1, h2, Nat.lt_of_lt_of_le h.1 k.size, fun j u hj => k.cell (h.2.1 j u hj) hg, fun j hj => ?_⟩
      rw [← h.2.2 j hj]
      have := k.block g h.1 hg
      simp only [World.frozen?, this]
    · exact .inl (List.eq_nil_of_length_eq_zero (by omega))
theorem Ch.exb {K : Nat → Prop} {lo hi : Nat} {w w' : World} (k : Ch K w w') (h : ∀ b, K b → lo ≤ b ∧ b < hi) : Exb lo hi w w' := ⟨k.os, k.tape, k.output, k.size, fun b hb ho => k.block b hb (fun q => by have := h b q; omega)⟩
/-- One node is written anew, its list where it was. -/
theorem DgW.put {lo hi g : Nat} {w w' : World} {A B : List NdP} {p p' : NdP} (h : DgW lo hi w g (A ++ p :: B)) (ha : p'.a = p.a) (hl : p'.nd.nx.length = p.nd.nx.length) (hr : Wr w' g (ndsV (A ++ p' :: B))) (hi' : InR lo hi w' p'.a (intsV p'.nd.nx)) (hc : Ch (fun b => b = g ∨ 0 < p.nd.nx.length ∧ blkA p.a = some b) w w') : DgW lo hi w' g (A ++ p' :: B) := by
  have hap := h.ap
  unfold ApartL at hap
  rw [List.pairwise_append, List.pairwise_cons] at hap
  obtain ⟨a1, ⟨a2, a3⟩, a4⟩ := hap
  have key : ∀ q, q ∈ A ∨ q ∈ B → InR lo hi w' q.a (intsV q.nd.nx) := fun q hq => by
    have hm : q ∈ A ++ p :: B := by rcases hq with hq | hq <;> simp [hq]
    refine hc.inR (h.nx q hm) (fun hn r e => ?_)
    rw [ints_len'] at hn
    rintro (s | ⟨s1, s2⟩)
    · exact h.off q hm hn r e s
    · cases hpa : p.a with
      | none => rw [hpa] at s2; simp [blkA] at s2
      | some y =>
        rw [hpa] at s2
        have e2 : y.block = r.block := by simpa [blkA] using s2
        rcases hq with hq | hq
        · exact a4 q hq p (by simp) hn s1 r y e hpa e2.symm
        · exact a2 q hq s1 hn y r hpa e e2
  refine ⟨hr, h.ge, h.lt, fun q hq => ?_, fun q hq hn r e => ?_, ?_⟩
  · rcases List.mem_append.1 hq with hq | hq
    · exact key q (.inl hq)
    · rcases List.mem_cons.1 hq with rfl | hq
      · exact hi'
      · exact key q (.inr hq)
  · rcases List.mem_append.1 hq with hq | hq
    · exact h.off q (by simp [hq]) hn r e
    · rcases List.mem_cons.1 hq with rfl | hq
      · exact h.off p (by simp) (by rw [← hl]; exact hn) r (by rw [← ha]; exact e)
      · exact h.off q (by simp [hq]) hn r e
  · unfold ApartL
    rw [List.pairwise_append, List.pairwise_cons]
    refine ⟨a1, ⟨fun b hb k1 k2 x y e1 e2 => a2 b hb (by rw [← hl]; exact k1) k2 x y (by rw [← ha]; exact e1) e2, a3⟩, fun a h1 b h2 => ?_⟩
    rcases List.mem_cons.1 h2 with rfl | h2
    · intro k1 k2 x y e1 e2
      exact a4 a h1 p (by simp) k1 (by rw [← hl]; exact k2) x y e1 (by rw [← ha]; exact e2)
    · exact a4 a h1 b (by simp [h2])
theorem ndsV_put (A B : List NdP) (p : NdP) (f : Bool) (t : ByteArray) (nx : List Int) (hl : nx.length = p.nd.nx.length) :
    ((ndsV (A ++ p :: B)).set (A.length * 3) (.bool f)).set (A.length * 3 + 1) (.string t) = ndsV (A ++ (⟨⟨f, t, nx⟩, p.a, p.c⟩ : NdP) :: B) := by
  have e : ∀ q : NdP, ndsV (A ++ q :: B) = ndsV A ++ (.bool q.nd.fin :: .string q.nd.lt :: .slice q.a q.nd.nx.length q.c :: ndsV B) := fun q => by rw [ndsV_append]; simp [ndsV]
  have hA := ndsV_length A
  rw [e, e, List.set_append_right _ _ (by omega), List.set_append_right _ _ (by omega)]
  rw [hA, Nat.sub_self, show A.length * 3 + 1 - A.length * 3 = 1 by omega]
  simp [hl]
end Go.Proofs.YtabljchbchjjcaaGreatDoor
end
section
namespace Go.Proofs.YtabljchbchjjcaaGreatDoor
set_option linter.unusedVariables false
set_option linter.unusedSimpArgs false
open Go Go.RowKit
/-- The nodes that a maker holds, to be read: its block, its list, the nodes' own lists. -/
structure MkRd (w : World) (mk : Nat) (aN : Option Addr) (cN : Nat) (LN : List NdP) : Prop where
  cell : w.cell? ⟨mk, 0, none⟩ = some (.slice aN LN.length cN)
  row : Rd w aN (ndsV LN)
  nx : ∀ p ∈ LN, Rd w p.a (intsV p.nd.nx)
theorem ndG_of (L : List NdP) (k : Nat) : ndG (ndsOf L) k = (ndAt L k).nd := by
  unfold ndG ndAt ndsOf
  rw [List.getD_eq_getElem?_getD, List.getD_eq_getElem?_getD, List.getElem?_map]
  cases L[k]? <;> rfl
theorem ApartL.bare {L : List NdP} (h : ApartL L) (p : NdP) (hp : p.nd.nx.length = 0) : ApartL (L ++ [p]) := by
  unfold ApartL
  rw [List.pairwise_append]
  refine ⟨h, List.pairwise_singleton _ _, fun a _ b hb => ?_⟩
  rw [List.mem_singleton] at hb
  subst hb
  intro _ h2
  omega
theorem ApartL.put {L M : List NdP} {p q : NdP} (h : ApartL (L ++ [p] ++ M)) (hq : 0 < q.nd.nx.length → ∀ y, q.a = some y → ∀ x ∈ L ++ [p] ++ M, 0 < x.nd.nx.length → ∀ z, x.a = some z → z.block ≠ y.block) : ApartL (L ++ [q] ++ M) := by
  unfold ApartL at *
  rw [List.append_assoc, List.pairwise_append] at h ⊢
  obtain ⟨h1, h2, h3⟩ := h
  rw [List.singleton_append, List.pairwise_cons] at h2 ⊢
  refine ⟨h1, ⟨fun b hb k1 k2 x y e1 e2 => fun e => ?_, h2.2⟩, fun a ha b hb => ?_⟩
  · exact hq k1 x e1 b (by simp [hb]) k2 y e2 e.symm
  · rcases List.mem_cons.1 (by simpa using hb) with rfl | hb
    · intro k1 k2 x y e1 e2
      exact hq k2 y e2 a (by simp [ha]) k1 x e1
    · exact h3 a ha b (by simp [hb])
theorem Mst.thenOwn {w w1 w' : World} {m mp : Nat} {aq aq' : Option Addr} {K : Nat → Prop} (h : Mst w w1 m mp aq aq') (k : Ch K w1 w') (hK : ∀ b, K b → w.heap.size ≤ b) : Mst w w' m mp aq aq' :=
  ⟨h.ch.next k (fun b hb e => absurd hb (by have := hK b e; omega)), h.sep⟩
/-- The lists lie in blocks from B on, and may be written. -/
def NxO (B : Nat) (w : World) (L : List NdP) : Prop := ∀ p ∈ L, InR B w.heap.size w p.a (intsV p.nd.nx)
theorem Mk.nxo {w w' : World} {B B' m mp : Nat} {T : TypeId} {vs : List Value} {A K : Nat → Prop} {aq : Option Addr} {c : Nat} {L : List NdP} (h : Mk w B m mp T vs A aq c L) (x : NxO B' w L) (k : Ch K w w') (hk : ∀ b, K b → Kq m mp aq b ∨ A b) : NxO B' w' L := fun p hp =>
  (k.inR (x p hp) (fun hn q e hK => by
    obtain ⟨h1, h2, h3, h4, h5⟩ := h.ap p hp (by rw [ints_len] at hn; exact hn) q e
    rcases hk _ hK with (r | r | r) | r
    · exact h2 r
    · exact h3 r
    · exact h5 r
    · exact h4 r)).up k.size
end Go.Proofs.YtabljchbchjjcaaGreatDoor
end
section
namespace Go.Proofs.YtabljchbchjjcaaGreatDoor
set_option linter.unusedVariables false
set_option linter.unusedSimpArgs false
open Go Go.RowKit
theorem MkRd.ext {w w' : World} {mk : Nat} {aN : Option Addr} {cN : Nat} {LN : List NdP} (h : MkRd w mk aN cN LN) (k : Ext w w') : MkRd w' mk aN cN LN := ⟨k.cell h.cell, h.row.ext k, fun p hp => (h.nx p hp).ext k⟩
/-- An automaton of the call's own comes back. -/
def RetDw (l : List Nd) (w : World) (e : Ending) (w' : World) : Prop := ∃ g c L, ndsOf L = l ∧ 0 < L.length ∧ e = .returned (dawgV (some ⟨g, 0, none⟩) L.length c) ∧ DgW w.heap.size w'.heap.size w' g L ∧ Ext w w'
end Go.Proofs.YtabljchbchjjcaaGreatDoor
end
section
namespace Go.Proofs.YtabljchbchjjcaaGreatDoor
set_option linter.unusedVariables false
set_option linter.unusedSimpArgs false
open Go Go.RowKit
/-- An automaton and a code come back; the automaton is the call's own. -/
def RetDC (r : List Nd × Int) (w : World) (e : Ending) (w' : World) : Prop := ∃ a c L, ndsOf L = r.1 ∧ e = .returned (.tuple #[dawgV a L.length c, .int .i64 r.2]) ∧ (L = [] ∧ a = none ∧ c = 0 ∨ ∃ g, a = some ⟨g, 0, none⟩ ∧ DgW w.heap.size w'.heap.size w' g L) ∧ Ext w w'
theorem DgW.chOff {lo hi g : Nat} {w w' : World} {L : List NdP} {K : Nat → Prop} (h : DgW lo hi w g L) (k : Ch K w w') (hk : ∀ b, lo ≤ b → b < hi → ¬ K b) : DgW lo hi w' g L := by
  refine ⟨?_, h.ge, h.lt, fun p hp => ?_, h.off, h.ap⟩
  · have hg := hk g h.ge h.lt
    obtain ⟨r1, r2, r3⟩ := h.row
    refine ⟨Nat.lt_of_lt_of_le r1 k.size, fun j u hj => k.cell (r2 j u hj) hg, fun j hj => ?_⟩
    rw [← r3 j hj]
    have := k.block g r1 hg
    simp only [World.frozen?, this]
  · have hp2 := h.nx p hp
    refine k.inR hp2 (fun hn q e => ?_)
    rcases hp2 with h1 | ⟨g2, h1, h2, h3, -⟩
    · rw [h1] at hn; simp at hn
    · rw [h1] at e
      simp only [Option.some.injEq] at e
      subst e
      exact hk g2 h2 h3
theorem DgW.wide {lo hi lo' hi' g : Nat} {w : World} {L : List NdP} (h : DgW lo hi w g L) (h1 : lo' ≤ lo) (h2 : hi ≤ hi') : DgW lo' hi' w g L :=
  ⟨h.row, Nat.le_trans h1 h.ge, Nat.lt_of_lt_of_le h.lt h2, fun p hp => ((h.nx p hp).up h2).down h1, h.off, h.ap⟩
/-- What is made of words in order: nodes, and a code. -/
def dawgR (S : List ByteArray) : List Nd × Int := if 3000 < S.length then ([], 5) else if 3000 < (autoS S).length then ([], 5) else (autoS S, 0)
/-- What BuildDawg answers. -/
def buildR (l : List ByteArray) : List Nd × Int := if lexOk l then (autoS l, 0) else ([], 1)
end Go.Proofs.YtabljchbchjjcaaGreatDoor
end
