/- The nodes that a builder of automata holds, and its table of nodes. No condition. -/
import Derived.Test.YtabljchbchjjcaaGreatDoorMg8
import Derived.Test.YtabljchbchjjcaaGreatDoorMg3
import Derived.Test.YtabljchbchjjcaaGreatDoorMg4
import Derived.Test.YtabljchbchjjcaaGreatDoorMg6
import Derived.Maps.OwnSet
import Derived.Maps.StringElems
namespace Go.Proofs.YtabljchbchjjcaaGreatDoor
set_option linter.unusedVariables false
set_option linter.unusedSimpArgs false
open Go Go.RowKit
/-- Blocks that belong to the builder and may change. -/
def Kq (m mp : Nat) (aq : Option Addr) (b : Nat) : Prop := b = m ∨ b = mp ∨ blkA aq = some b
/-- The builder m holds the nodes L; A are blocks of others. -/
structure Mk (w : World) (B m mp : Nat) (T : TypeId) (vs : List Value) (A : Nat → Prop) (aq : Option Addr) (c : Nat) (L : List NdP) : Prop where
  bx : Bx w m T (.slice aq L.length c :: vs)
  own : Own w B 92 3 aq L.length c (ndsV L)
  sh : aq = none ∧ L.length = 0 ∧ c = 0 ∧ ndsV L = [] ∨ ∃ g, aq = some ⟨g, 0, none⟩
  lt : mp < w.heap.size
  lo : B ≤ m ∧ B ≤ mp
  aqm : ∀ p, aq = some p → p.block < w.heap.size ∧ p.block ≠ m ∧ p.block ≠ mp ∧ ¬ A p.block
  aql : ∀ p, aq = some p → B ≤ p.block
  am : ¬ A m ∧ ¬ A mp
  rd : ∀ p ∈ L, Rd w p.a (intsV p.nd.nx)
  ap : ∀ p ∈ L, 0 < p.nd.nx.length → ∀ q, p.a = some q → q.block < w.heap.size ∧ q.block ≠ m ∧ q.block ≠ mp ∧ ¬ A q.block ∧ blkA aq ≠ some q.block
section
variable {w w' w1 : World} {B m mp : Nat} {T : TypeId} {vs : List Value} {A K : Nat → Prop} {aq : Option Addr} {c : Nat} {L : List NdP}
theorem ints_len (l : List Int) : (intsV l).length = l.length := by simp [intsV]
theorem Mk.chG (h : Mk w B m mp T vs A aq c L) (k : Ch K w w') (hm : ¬ K m) (hq : ∀ p, aq = some p → ¬ K p.block) (hl : ∀ p ∈ L, 0 < p.nd.nx.length → ∀ q, p.a = some q → ¬ K q.block) : Mk w' B m mp T vs A aq c L where
  bx := h.bx.ch k hm
  own := k.own h.own hq
  sh := h.sh
  lt := Nat.lt_of_lt_of_le h.lt k.size
  lo := h.lo
  aql := h.aql
  aqm := fun p e => ⟨Nat.lt_of_lt_of_le (h.aqm p e).1 k.size, (h.aqm p e).2⟩
  am := h.am
  rd := fun p hp => k.rd (h.rd p hp) (fun q e hn => hl p hp (by simpa [ints_len] using hn) q e)
  ap := fun p hp hn q e => ⟨Nat.lt_of_lt_of_le (h.ap p hp hn q e).1 k.size, (h.ap p hp hn q e).2⟩
theorem Mk.ch (h : Mk w B m mp T vs A aq c L) (k : Ch A w w') : Mk w' B m mp T vs A aq c L :=
  h.chG k h.am.1 (fun p e => (h.aqm p e).2.2.2) (fun p hp hn q e => (h.ap p hp hn q e).2.2.2.1)
theorem Mk.ext (h : Mk w B m mp T vs A aq c L) (k : Ext w w') : Mk w' B m mp T vs A aq c L := h.ch (Ch.of_ext A k)
theorem Mk.chMp (h : Mk w B m mp T vs A aq c L) (k : Ch (fun b => b = mp) w w') (hm : mp ≠ m) : Mk w' B m mp T vs A aq c L :=
  h.chG k (fun e => hm e.symm) (fun p e => (h.aqm p e).2.2.1) (fun p hp hn q e => (h.ap p hp hn q e).2.2.1)
theorem Mk.also {A' : Nat → Prop} (h : Mk w B m mp T vs A aq c L) (hA : ∀ b, A' b → A b ∨ w.heap.size ≤ b) : Mk w B m mp T vs A' aq c L where
  bx := h.bx
  own := h.own
  sh := h.sh
  lt := h.lt
  lo := h.lo
  aql := h.aql
  aqm := fun p e => ⟨(h.aqm p e).1, (h.aqm p e).2.1, (h.aqm p e).2.2.1, fun q => by
    have h1 := (h.aqm p e).1
    rcases hA _ q with q | q
    · exact (h.aqm p e).2.2.2 q
    · omega⟩
  am := ⟨fun q => by
    have := h.bx.lt
    rcases hA _ q with q | q
    · exact h.am.1 q
    · omega, fun q => by
    have := h.lt
    rcases hA _ q with q | q
    · exact h.am.2 q
    · omega⟩
  rd := h.rd
  ap := fun p hp hn q e => by
    obtain ⟨h1, h2, h3, h4, h5⟩ := h.ap p hp hn q e
    refine ⟨h1, h2, h3, fun r => ?_, h5⟩
    rcases hA _ r with r | r
    · exact h4 r
    · omega
/-- A step of the builder: its own blocks alone have changed; its list lies where it lay, or in a fresh block. -/
structure Mst (w w' : World) (m mp : Nat) (aq aq' : Option Addr) : Prop where
  ch : Ch (Kq m mp aq) w w'
  sep : ∀ b, blkA aq' = some b → blkA aq = some b ∨ w.heap.size ≤ b
theorem Mst.refl (w : World) (m mp : Nat) (aq : Option Addr) : Mst w w m mp aq aq := ⟨Ch.refl _ _, fun _ h => .inl h⟩
theorem Mst.of_ext (h : Ext w w') (m mp : Nat) (aq : Option Addr) : Mst w w' m mp aq aq := ⟨Ch.of_ext _ h, fun _ h => .inl h⟩
theorem Mst.trans {x y z : World} {a1 a2 a3 : Option Addr} (h : Mst x y m mp a1 a2) (k : Mst y z m mp a2 a3) : Mst x z m mp a1 a3 := by
  refine ⟨h.ch.next k.ch (fun b hb q => ?_), fun b hb => ?_⟩
  · rcases q with q | q | q
    · exact .inl q
    · exact .inr (.inl q)
    · rcases h.sep b q with r | r
      · exact .inr (.inr r)
      · omega
  · rcases k.sep b hb with r | r
    · exact h.sep b r
    · exact .inr (Nat.le_trans h.ch.size r)
theorem Mst.thenExt (h : Mst w w1 m mp aq aq) (k : Ext w1 w') : Mst w w' m mp aq aq := h.trans (Mst.of_ext k m mp aq)
/-- The list grows by one node and goes back into the builder's block. -/
theorem Mk.push (h : Mk w B m mp T vs A aq c L) (p : NdP) (hr : Rd w p.a (intsV p.nd.nx)) (hp : 0 < p.nd.nx.length → ∀ q, p.a = some q → q.block < w.heap.size ∧ q.block ≠ m ∧ q.block ≠ mp ∧ ¬ A q.block ∧ blkA aq ≠ some q.block)
    (hA : ∀ b, A b → b < w.heap.size) {g' c' : Nat} (ho : Own w1 B 92 3 (some ⟨g', 0, none⟩) (L.length + 1) c' (ndsV L ++ [.bool p.nd.fin, .string p.nd.lt, .slice p.a p.nd.nx.length p.c])) (hc : Ch (fun b => blkA aq = some b) w w1) (hs : blkA aq = some g' ∨ w.heap.size ≤ g') :
    Mk (w1.setCell ⟨m, 0, none⟩ (.slice (some ⟨g', 0, none⟩) (L.length + 1) c')) B m mp T vs A (some ⟨g', 0, none⟩) c' (L ++ [p]) ∧ Mst w (w1.setCell ⟨m, 0, none⟩ (.slice (some ⟨g', 0, none⟩) (L.length + 1) c')) m mp aq (some ⟨g', 0, none⟩) := by
  obtain ⟨g9, e9, h1, h2, -, -⟩ := ho.form (by omega)
  simp only [Option.some.injEq, Addr.mk.injEq, and_true] at e9
  subst e9
  have hm : ¬ blkA aq = some m := fun e => by
    cases aq with
    | none => simp [blkA] at e
    | some q => exact (h.aqm q rfl).2.1 (by simpa [blkA] using e)
  have hset := Ch.set w1 m 0 (.slice (some ⟨g', 0, none⟩) (L.length + 1) c')
  have hall : Ch (fun b => blkA aq = some b ∨ b = m) w (w1.setCell ⟨m, 0, none⟩ (.slice (some ⟨g', 0, none⟩) (L.length + 1) c')) := (hc.mono (fun b _ q => .inl q)).trans (hset.mono (fun b _ q => .inr q))
  have hml := h.bx.lt
  have hgm : g' ≠ m := by
    rcases hs with e | e
    · intro q; exact hm (by rw [e, q])
    · omega
  have hgp : g' ≠ mp := by
    have := h.lt
    rcases hs with e | e
    · cases aq with
      | none => simp [blkA] at e
      | some q =>
        intro r
        exact (h.aqm q rfl).2.2.1 (by simpa [blkA, r] using e)
    · omega
  have hgA : ¬ A g' := by
    rcases hs with e | e
    · cases aq with
      | none => simp [blkA] at e
      | some q =>
        have : q.block = g' := by simpa [blkA] using e
        rw [← this]
        exact (h.aqm q rfl).2.2.2
    · intro q
      have := hA _ q
      omega
  have key : ∀ q ∈ L ++ [p], Rd w q.a (intsV q.nd.nx) ∧ (0 < q.nd.nx.length → ∀ r, q.a = some r → r.block < w.heap.size ∧ r.block ≠ m ∧ r.block ≠ mp ∧ ¬ A r.block ∧ blkA aq ≠ some r.block) := by
    intro q hq
    rcases List.mem_append.1 hq with hq | hq
    · exact ⟨h.rd q hq, h.ap q hq⟩
    · rw [List.mem_singleton] at hq
      subst hq
      exact ⟨hr, hp⟩
  refine ⟨⟨?_, ?_, .inr ⟨g', rfl⟩, ?_, h.lo, ?_, fun q e => by simp only [Option.some.injEq] at e; subst e; exact h1, h.am, fun q hq => ?_, fun q hq hn r e => ?_⟩, ⟨hall.mono (fun b _ q => by rcases q with q | q; exact .inr (.inr q); exact .inl q), fun b hb => ?_⟩⟩
  · have := (h.bx.ch hc hm).set 0 (.slice (some ⟨g', 0, none⟩) (L.length + 1) c')
    rw [List.length_append]
    exact this
  · rw [List.length_append]
    refine hset.own ?_ (fun q e => ?_)
    · rw [ndsV_append]
      exact ho
    · simp only [Option.some.injEq] at e
      subst e
      exact hgm
  · exact Nat.lt_of_lt_of_le h.lt hall.size
  · intro q e
    simp only [Option.some.injEq] at e
    subst e
    exact ⟨Nat.lt_of_lt_of_le h2 hset.size, hgm, hgp, hgA⟩
  · refine hall.rd (key q hq).1 (fun r e hn => ?_)
    obtain ⟨k1, k2, k3, k4, k5⟩ := (key q hq).2 (by simpa [ints_len] using hn) r e
    rintro (s | s)
    · exact k5 s
    · exact k2 s
  · obtain ⟨k1, k2, k3, k4, k5⟩ := (key q hq).2 hn r e
    refine ⟨Nat.lt_of_lt_of_le k1 hall.size, k2, k3, k4, fun s => ?_⟩
    simp only [blkA, Option.map_some, Option.some.injEq] at s
    rcases hs with t | t
    · exact k5 (by rw [t, s])
    · omega
  · simp only [blkA, Option.map_some, Option.some.injEq] at hb
    subst hb
    exact hs
end
theorem Mk.nrow {w : World} {B m mp : Nat} {T : TypeId} {vs : List Value} {A : Nat → Prop} {aq : Option Addr} {c : Nat} {L : List NdP} (h : Mk w B m mp T vs A aq c L) : ¬ blkA aq = some m ∧ ¬ blkA aq = some mp := by
  cases aq with
  | none => simp [blkA]
  | some q =>
    have := h.aqm q rfl
    exact ⟨fun e => this.2.1 (by simpa [blkA] using e), fun e => this.2.2.1 (by simpa [blkA] using e)⟩
theorem Mk.klo {w : World} {B m mp : Nat} {T : TypeId} {vs : List Value} {A : Nat → Prop} {aq : Option Addr} {c : Nat} {L : List NdP} (h : Mk w B m mp T vs A aq c L) : ∀ b, Kq m mp aq b → B ≤ b := by
  rintro b (rfl | rfl | e)
  · exact h.lo.1
  · exact h.lo.2
  · cases aq with
    | none => simp [blkA] at e
    | some q =>
      have := h.aql q rfl
      have e2 : q.block = b := by simpa [blkA] using e
      omega
theorem Mk.klt {w : World} {B m mp : Nat} {T : TypeId} {vs : List Value} {A : Nat → Prop} {aq : Option Addr} {c : Nat} {L : List NdP} (h : Mk w B m mp T vs A aq c L) : ∀ b, Kq m mp aq b → b < w.heap.size ∧ ¬ A b := by
  rintro b (rfl | rfl | e)
  · exact ⟨h.bx.lt, h.am.1⟩
  · exact ⟨h.lt, h.am.2⟩
  · cases aq with
    | none => simp [blkA] at e
    | some q =>
      have := h.aqm q rfl
      have e2 : q.block = b := by simpa [blkA] using e
      subst e2
      exact ⟨this.1, this.2.2.2⟩
theorem wfN (n : Nat) (h : n ≤ 1000000000) : (Lit.int .i64 (n : Int)).wf = true := Go.WalkArith.wf_i64 ⟨by omega, by omega⟩
/-- What the table of nodes tells. -/
def KMap (D : DataW Unit) (N : List Nd) : Prop := Maps.IsMap D ∧ ∀ n : Nd, KeyOk n → Maps.has D (.string (keyV n).data.toList) = decide (N.findIdx (fun x => eqNd x n) < N.length) ∧ (N.findIdx (fun x => eqNd x n) < N.length → D.atKey (.string (keyV n).data.toList) (.lit (.int .i64 0)) = .lit (.int .i64 (N.findIdx (fun x => eqNd x n) : Nat)))
theorem KMap.nil : KMap (.map []) [] := ⟨⟨[], rfl⟩, fun n _ => ⟨rfl, fun h => by simp at h⟩⟩
theorem KMap.put {D : DataW Unit} {N : List Nd} (h : KMap D N) {n : Nd} (hn : KeyOk n) (hf : ¬ N.findIdx (fun x => eqNd x n) < N.length) : KMap (D.put (.string (keyV n).data.toList) (.lit (.int .i64 (N.length : Nat)))) (N ++ [n]) := by
  refine ⟨h.1.put _ _, fun k hk => ?_⟩
  by_cases e : k = n
  · subst e
    have hkl : WideAt.IsKeyLit (.string (keyV k).data.toList) := trivial
    have hi : (N ++ [k]).findIdx (fun x => eqNd x k) = N.length := by
      rw [List.findIdx_append, if_neg]
      · simp [List.findIdx_cons, eqNd_iff.2 rfl]
      · simpa [List.findIdx_lt_length] using hf
    rw [hi]
    refine ⟨?_, fun _ => ?_⟩
    · rw [Maps.has_put_same h.1 hkl]; simp
    · rw [Maps.atKey_put_same h.1 hkl]
  · have hne : (Lit.string (keyV k).data.toList) ≠ .string (keyV n).data.toList := fun he => by
      injection he with he
      exact e (keyV_inj hk hn (ByteArray.ext (Array.toList_inj.1 he)))
    have hi : (N ++ [n]).findIdx (fun x => eqNd x k) = if N.findIdx (fun x => eqNd x k) < N.length then N.findIdx (fun x => eqNd x k) else N.length + 1 := by
      rw [List.findIdx_append]
      by_cases q : N.findIdx (fun x => eqNd x k) < N.length
      · rw [if_pos q, if_pos q]
      · rw [if_neg q, if_neg q]
        have : eqNd n k = false := by
          cases hc : eqNd n k
          · rfl
          · exact absurd (eqNd_iff.1 hc).symm e
        simp [List.findIdx_cons, this]
        omega
    obtain ⟨k1, k2⟩ := h.2 k hk
    rw [hi, Maps.has_put_other hne, k1, Maps.atKey_put_other hne, List.length_append]
    clear hi k1
    obtain ⟨I, hI⟩ : ∃ I, N.findIdx (fun x => eqNd x k) = I := ⟨_, rfl⟩
    rw [hI] at k2 ⊢
    clear hI
    by_cases q : I < N.length
    · rw [if_pos q]
      refine ⟨?_, fun _ => k2 q⟩
      rw [decide_eq_true q, decide_eq_true (by omega)]
    · rw [if_neg q]
      refine ⟨?_, fun r => by simp at r⟩
      rw [decide_eq_false q, decide_eq_false (by simp)]
/-- What building leaves: the place; the nodes. -/
def MkE (w : World) (B m mp : Nat) (T : TypeId) (vs : List Value) (A : Nat → Prop) (X : World → List Nd → Prop) (aq : Option Addr) (R : List Nd × Nat) (e : Ending) (w' : World) : Prop :=
  e = .returned (.int .i64 (R.2 : Int)) ∧ ∃ aq' c' L', ndsOf L' = R.1 ∧ Mk w' B m mp T vs A aq' c' L' ∧ X w' (ndsOf L') ∧ Mst w w' m mp aq aq'
theorem keyV_size {n : Nd} (hl : n.nx.length ≤ 4000) (hk : KeyOk n) (hj : ∀ j ∈ n.nx, j < 1000000) : (keyV n).size ≤ 40000 := by
  have h1 := chks_len n.lt.data.toList n.nx (fun j h => ⟨hk.pos j h, hj j h⟩)
  have h2 : (keyL n).length ≤ 40000 := by
    unfold keyL
    rw [List.length_append]
    split <;> simp <;> omega
  rw [← keyV_list] at h2
  simpa using h2
end Go.Proofs.YtabljchbchjjcaaGreatDoor
