/- Several texts in one: Strs, Ints, Tile, Dg. Conditions: see each. -/
import Derived.Test.YtabljchbchjjcaaGreatDoorMg1
section
namespace Go.Proofs.YtabljchbchjjcaaGreatDoor
set_option linter.unusedVariables false
set_option linter.unusedSimpArgs false
open Go Go.RowKit

/-- A row in a block from B on that may be written; or none. -/
def OwnR (w : World) (B : Nat) (a : Option Addr) (xs : List Value) : Prop := xs = [] ∨ ∃ g, a = some ⟨g, 0, none⟩ ∧ B ≤ g ∧ Wr w g xs
theorem OwnR.rd {w : World} {B : Nat} {a : Option Addr} {xs : List Value} (h : OwnR w B a xs) : Rd w a xs := by
  rcases h with rfl | ⟨g, rfl, _, h⟩
  · exact Rd.nil _ _
  · exact h.rd
theorem OwnR.ext {w w' : World} {B : Nat} {a : Option Addr} {xs : List Value} (h : OwnR w B a xs) (k : Ext w w') : OwnR w' B a xs := by
  rcases h with rfl | ⟨g, rfl, hb, h⟩
  · exact .inl rfl
  · exact .inr ⟨g, rfl, hb, h.ext k⟩
theorem OwnR.mono {w : World} {B B' : Nat} {a : Option Addr} {xs : List Value} (h : OwnR w B a xs) (hB : B' ≤ B) : OwnR w B' a xs := by
  rcases h with rfl | ⟨g, rfl, hb, h⟩
  · exact .inl rfl
  · exact .inr ⟨g, rfl, Nat.le_trans hB hb, h⟩
theorem Own.ownR {w : World} {B : Nat} {e : TypeId} {a : Option Addr} {n c : Nat} {xs : List Value} (h : Own w B e 1 a n c xs) : OwnR w B a xs := by
  by_cases hn : 0 < n
  · obtain ⟨g, rfl, hB, _, _, h1⟩ := h.form hn
    exact .inr ⟨g, rfl, hB, Wr.of h1⟩
  · have : xs.length = 0 := by rw [h.length]; omega
    exact .inl (List.eq_nil_of_length_eq_zero this)
/-- A row comes back, which is the call's own. -/
def RetL (xs : List Value) (w : World) (e : Ending) (w' : World) : Prop := ∃ a c, e = .returned (.slice a xs.length c) ∧ OwnR w' w.heap.size a xs ∧ Ext w w'

theorem strsV_get (l : List ByteArray) (k : Nat) (h : k < l.length) : (strsV l)[k]? = some (.string l[k]) := by simp [strsV, h]
/-- The cells, by a fact for each. -/
theorem Rd.str {w : World} {a : Option Addr} {l : List ByteArray} (h : Rd w a (strsV l)) (hn : 0 < l.length) : ∃ b o, a = some ⟨b, o, none⟩ ∧ ∀ k (hk : k < l.length), w.cell? ⟨b, o + k, none⟩ = some (.string l[k]) := by
  obtain ⟨b, o, ha, hc⟩ := h.at (by rw [strsV_length]; exact hn)
  exact ⟨b, o, ha, fun k hk => hc k _ (strsV_get l k hk)⟩

def szG : Int → List ByteArray → Int
  | L, [] => L
  | L, s :: r => if L < s.size then -1 else szG (L - s.size) r
def szL (L : Int) (l : List ByteArray) : Int := if L < l.length then -1 else szG (L - l.length) l
def sumL (l : List ByteArray) : Nat := (l.map ByteArray.size).sum
theorem szG_ok : ∀ (L : Int) (l : List ByteArray), 0 ≤ L → ¬ szG L l < 0 → (sumL l : Int) ≤ L ∧ szG L l = L - sumL l
  | L, [], h0, h => by simp [szG, sumL]; exact h0
  | L, s :: r, h0, h => by
    rw [szG] at h ⊢
    split at h
    · omega
    · rename_i hs
      have := szG_ok (L - s.size) r (by omega) h
      rw [if_neg hs]
      simp only [sumL, List.map_cons, List.sum_cons] at *
      omega
theorem sumL_mem {l : List ByteArray} {s : ByteArray} (h : s ∈ l) : s.size ≤ sumL l := by
  induction l with
  | nil => cases h
  | cons a r ih =>
    simp only [sumL, List.map_cons, List.sum_cons] at *
    rcases List.mem_cons.1 h with rfl | h
    · omega
    · have := ih h; omega
theorem szL_ok {L : Int} {l : List ByteArray} (h0 : 0 ≤ L) (h : ¬ szL L l < 0) : (l.length : Int) + sumL l ≤ L ∧ szL L l = L - l.length - sumL l := by
  unfold szL at *
  split at h
  · omega
  · rename_i hs
    have := szG_ok _ _ (by omega) h
    rw [if_neg hs]
    omega
theorem szG_drop (L : Int) (l : List ByteArray) (k : Nat) (h : k < l.length) : szG L (l.drop k) = if L < l[k].size then -1 else szG (L - l[k].size) (l.drop (k + 1)) := by
  rw [List.drop_eq_getElem_cons h, szG]
def digs (k : Nat) (acc : List UInt8) : List UInt8 := if h : k = 0 then acc else digs (k / 10) (UInt8.ofNat (48 + k % 10) :: acc)
termination_by k
decreasing_by omega
theorem digs_step (k : Nat) (acc : List UInt8) (h : 0 < k) : digs k acc = digs (k / 10) (UInt8.ofNat (48 + k % 10) :: acc) := by
  rw [digs, dif_neg (by omega)]
theorem digs_zero (acc : List UInt8) : digs 0 acc = acc := by rw [digs, dif_pos rfl]
def markTx (k : Nat) : ByteArray := ⟨(109 :: digs k []).toArray⟩
theorem cons_bytes (x : UInt8) (l : List UInt8) : (⟨[x].toArray⟩ : ByteArray) ++ ⟨l.toArray⟩ = ⟨(x :: l).toArray⟩ := by
  apply ByteArray.ext
  simp
def marksL (n k : Nat) : List ByteArray := (List.range n).map fun j => markTx (k + j)
theorem marksL_length (n k : Nat) : (marksL n k).length = n := by simp [marksL]
end Go.Proofs.YtabljchbchjjcaaGreatDoor
end
section
namespace Go.Proofs.YtabljchbchjjcaaGreatDoor
set_option linter.unusedVariables false
set_option linter.unusedSimpArgs false
open Go Go.RowKit
def intsV (l : List Int) : List Value := l.map fun z => .int .i64 z
theorem intsV_length (l : List Int) : (intsV l).length = l.length := by simp [intsV]
theorem intsV_get (l : List Int) (k : Nat) (h : k < l.length) : (intsV l)[k]? = some (.int .i64 l[k]) := by simp [intsV, h]
theorem Rd.int {w : World} {a : Option Addr} {l : List Int} (h : Rd w a (intsV l)) (hn : 0 < l.length) : ∃ b o, a = some ⟨b, o, none⟩ ∧ ∀ k (hk : k < l.length), w.cell? ⟨b, o + k, none⟩ = some (.int .i64 l[k]) := by
  obtain ⟨b, o, ha, hc⟩ := h.at (by rw [intsV_length]; exact hn)
  exact ⟨b, o, ha, fun k hk => hc k _ (intsV_get l k hk)⟩
theorem El_int64 : El Tryz.prog 90 2 (.int .i64 0) 1 8 := by
  obtain ⟨i, h1, h2, h3, h4⟩ := info_parts (show (Tryz.prog.info? 2).map (fun i => (i.zero, i.size, i.bytes)) = some (some (.int .i64 0), 1, 8) by kernel_rfl)
  exact ⟨Tryz.underlying90, ⟨i, h1, h2, h3, h4⟩, rfl, by decide⟩
def szN (L : Int) (l : List Int) : Int := if L < l.length then -1 else L - l.length
end Go.Proofs.YtabljchbchjjcaaGreatDoor
end
section
namespace Go.Proofs.YtabljchbchjjcaaGreatDoor
set_option linter.unusedVariables false
set_option linter.unusedSimpArgs false
open Go Go.RowKit
/-- A tile set: its letters, and where its two lists lie. -/
abbrev tileV (s : ByteArray) (a b : Option Addr) (m n c d : Nat) (k : Int) : Value := .agg #[.string s, .slice a m c, .slice b n d, .int .i64 k]
def szT (L : Int) (s : ByteArray) (vs cs : List Int) : Int :=
  if L < s.size then -1 else if L - s.size < vs.length then -1 else if L - s.size - vs.length < cs.length then -1 else L - s.size - vs.length - cs.length
theorem szT_ok {L : Int} {s : ByteArray} {vs cs : List Int} (h : ¬ szT L s vs cs < 0) : (s.size : Int) + vs.length + cs.length ≤ L ∧ szT L s vs cs = L - s.size - vs.length - cs.length := by
  unfold szT at *
  split at h
  · omega
  · split at h
    · omega
    · split at h
      · omega
      · rename_i h1 h2 h3
        rw [if_neg h1, if_neg h2, if_neg h3]
        omega
/-- A tile set comes back, whose lists are the call's own. -/
def RetT (s : ByteArray) (vs cs : List Int) (k : Int) (w : World) (e : Ending) (w' : World) : Prop :=
  ∃ a b c d, e = .returned (tileV s a b vs.length cs.length c d k) ∧ OwnR w' w.heap.size a (intsV vs) ∧ OwnR w' w.heap.size b (intsV cs) ∧ Ext w w'
theorem OwnR.off {w : World} {B : Nat} {a : Option Addr} {xs : List Value} (h : OwnR w B a xs) {b o : Nat} (hb : b < B) (u : Value) : OwnR (w.setCell ⟨b, o, none⟩ u) B a xs := by
  rcases h with rfl | ⟨g, rfl, hg, h⟩
  · exact .inl rfl
  · have hne : b ≠ g := by omega
    exact .inr ⟨g, rfl, hg, ⟨by simpa [World.setCell] using h.1, fun j v hj => by rw [World.cell?_setCell_other _ _ _ _ (by intro e; exact hne (congrArg Addr.block e))]; exact h.2.1 j v hj, fun j hj => by simpa using h.2.2 j hj⟩⟩
end Go.Proofs.YtabljchbchjjcaaGreatDoor
end
section
namespace Go.Proofs.YtabljchbchjjcaaGreatDoor
set_option linter.unusedVariables false
set_option linter.unusedSimpArgs false
open Go Go.RowKit
/-- A node: final or not, its letters, the nodes behind them. -/
structure Nd where
  fin : Bool
  lt : ByteArray
  nx : List Int
/-- A node, and where its list lies. -/
structure NdP where
  nd : Nd
  a : Option Addr
  c : Nat
abbrev ndV (f : Bool) (s : ByteArray) (a : Option Addr) (n c : Nat) : Value := .agg #[.bool f, .string s, .slice a n c]
abbrev dawgV (a : Option Addr) (n c : Nat) : Value := .agg #[.slice a n c]
def ndsV (L : List NdP) : List Value := L.flatMap fun p => [.bool p.nd.fin, .string p.nd.lt, .slice p.a p.nd.nx.length p.c]
def noNd : NdP := ⟨⟨false, ⟨#[]⟩, []⟩, none, 0⟩
def ndAt (L : List NdP) (k : Nat) : NdP := L.getD k noNd
theorem ndsV_append (l q : List NdP) : ndsV (l ++ q) = ndsV l ++ ndsV q := by simp [ndsV]
theorem ndsV_length (l : List NdP) : (ndsV l).length = l.length * 3 := by
  induction l with
  | nil => rfl
  | cons a t ih => rw [ndsV, List.flatMap_cons, List.length_append]; change _ + (ndsV t).length = _; rw [ih]; simp; omega
theorem ndsV_get : ∀ (l : List NdP) (k : Nat), k < l.length → (ndsV l)[k * 3]? = some (.bool (ndAt l k).nd.fin) ∧ (ndsV l)[k * 3 + 1]? = some (.string (ndAt l k).nd.lt) ∧ (ndsV l)[k * 3 + 2]? = some (.slice (ndAt l k).a (ndAt l k).nd.nx.length (ndAt l k).c)
  | [], k, h => by simp at h
  | a :: t, 0, h => by simp [ndsV, ndAt]
  | a :: t, k + 1, h => by
    have := ndsV_get t k (by simpa using h)
    have e : ndsV (a :: t) = .bool a.nd.fin :: .string a.nd.lt :: .slice a.a a.nd.nx.length a.c :: ndsV t := by simp [ndsV]
    have e2 : ndAt (a :: t) (k + 1) = ndAt t k := by simp [ndAt]
    rw [e, e2, show (k + 1) * 3 = k * 3 + 1 + 1 + 1 by omega]
    simpa using this
theorem ndAt_mem (L : List NdP) (k : Nat) (h : k < L.length) : ndAt L k ∈ L := by
  unfold ndAt
  rw [List.getD_eq_getElem?_getD, List.getElem?_eq_getElem h]
  exact List.getElem_mem h
theorem ndAt_eq (L : List NdP) (k : Nat) (h : k < L.length) : L[k] = ndAt L k := by
  unfold ndAt
  rw [List.getD_eq_getElem?_getD, List.getElem?_eq_getElem h]; rfl
theorem Rd.nds {w : World} {a : Option Addr} {l : List NdP} (h : Rd w a (ndsV l)) (hn : 0 < l.length) : ∃ b o, a = some ⟨b, o, none⟩ ∧ ∀ k, k < l.length → w.cell? ⟨b, o + k * 3, none⟩ = some (.bool (ndAt l k).nd.fin) ∧ w.cell? ⟨b, o + k * 3 + 1, none⟩ = some (.string (ndAt l k).nd.lt) ∧ w.cell? ⟨b, o + k * 3 + 2, none⟩ = some (.slice (ndAt l k).a (ndAt l k).nd.nx.length (ndAt l k).c) := by
  obtain ⟨b, o, ha, hc⟩ := h.at (by rw [ndsV_length]; omega)
  refine ⟨b, o, ha, fun k hk => ?_⟩
  obtain ⟨h1, h2, h3⟩ := ndsV_get l k hk
  exact ⟨hc _ _ h1, by rw [Nat.add_assoc]; exact hc _ _ h2, by rw [Nat.add_assoc]; exact hc _ _ h3⟩
def NdRd (w : World) (L : List NdP) : Prop := ∀ p ∈ L, Rd w p.a (intsV p.nd.nx)
theorem NdRd.ext {w w' : World} {L : List NdP} (h : NdRd w L) (k : Ext w w') : NdRd w' L := fun p hp => (h p hp).ext k
/-- An automaton's nodes can be read. -/
def DgRd (w : World) (a : Option Addr) (L : List NdP) : Prop := Rd w a (ndsV L) ∧ NdRd w L
theorem DgRd.ext {w w' : World} {a : Option Addr} {L : List NdP} (h : DgRd w a L) (k : Ext w w') : DgRd w' a L := ⟨h.1.ext k, h.2.ext k⟩
def ndsOf (L : List NdP) : List Nd := L.map (·.nd)
theorem ndsOf_length (L : List NdP) : (ndsOf L).length = L.length := by simp [ndsOf]
theorem ndsOf_at (L : List NdP) (k : Nat) (h : k < L.length) : (ndsOf L)[k]'(by rw [ndsOf_length]; exact h) = (ndAt L k).nd := by simp [ndsOf, ndAt_eq L k h]
def szNd (L : Int) (d : Nd) : Int := if L < d.lt.size then -1 else if L - d.lt.size < d.nx.length then -1 else L - d.lt.size - d.nx.length
def szNG : Int → List Nd → Int
  | L, [] => L
  | L, d :: r => if szNd L d < 0 then -1 else szNG (szNd L d) r
def szDw (L : Int) (l : List Nd) : Int := if L < l.length then -1 else szNG (L - l.length) l
def szDg (L : Int) (l : List Nd) : Int := if szDw L l < 0 then -1 else szDw L l
theorem szNd_le {L : Int} {d : Nd} (h : ¬ szNd L d < 0) : (d.lt.size : Int) + d.nx.length ≤ L ∧ szNd L d = L - d.lt.size - d.nx.length := by
  unfold szNd at *
  split at h
  · omega
  · split at h
    · omega
    · rename_i h1 h2
      rw [if_neg h1, if_neg h2]
      omega
theorem szNG_ok : ∀ (L : Int) (l : List Nd), 0 ≤ L → ¬ szNG L l < 0 → szNG L l ≤ L ∧ ∀ d ∈ l, (d.lt.size : Int) + d.nx.length ≤ L
  | L, [], h0, h => by simp [szNG]
  | L, d :: r, h0, h => by
    rw [szNG] at h ⊢
    split at h
    · omega
    · rename_i hs
      obtain ⟨h1, h2⟩ := szNd_le hs
      have := szNG_ok (szNd L d) r (by omega) h
      rw [if_neg hs]
      refine ⟨by omega, fun x hx => ?_⟩
      rcases List.mem_cons.1 hx with rfl | hx
      · exact h1
      · have := this.2 x hx; omega
theorem szNG_drop (L : Int) (l : List Nd) (k : Nat) (h : k < l.length) : szNG L (l.drop k) = if szNd L l[k] < 0 then -1 else szNG (szNd L l[k]) (l.drop (k + 1)) := by
  rw [List.drop_eq_getElem_cons h, szNG]
theorem szDg_ok {L : Int} {l : List Nd} (h0 : 0 ≤ L) (h : ¬ szDg L l < 0) : (l.length : Int) ≤ L ∧ (∀ d ∈ l, (d.lt.size : Int) + d.nx.length ≤ L) ∧ 0 ≤ szDg L l ∧ szDg L l ≤ L := by
  unfold szDg at *
  split at h
  · omega
  · rename_i hs
    rw [if_neg hs]
    unfold szDw at *
    split at h
    · omega
    · rename_i h1
      rw [if_neg h1] at hs
      rw [if_neg h1]
      have := szNG_ok _ _ (by omega) hs
      exact ⟨by omega, fun d hd => by have := this.2 d hd; omega, by omega, by omega⟩
end Go.Proofs.YtabljchbchjjcaaGreatDoor
end
