/- Automata in memory: what the laws' own functions on them compute. Conditions: at most 2^20 elements. -/
import Derived.Test.YtlnccdbmchjhlaaTile
namespace Go.Proofs.Ytlnccdbmchjhlaa
set_option linter.unusedVariables false
set_option linter.unusedSimpArgs false
open Go Go.RowKit
/-- A node: final or not, its letters, the nodes behind them. -/
structure Nd where
  fin : Bool
  lt : ByteArray
  nx : List Int
/-- A node, and where its list lies. -/
structure NdP where
  nd : Nd
  a : Option Addr
  c : Nat
abbrev ndV (f : Bool) (s : ByteArray) (a : Option Addr) (n c : Nat) : Value := .agg #[.bool f, .string s, .slice a n c]
abbrev dawgV (a : Option Addr) (n c : Nat) : Value := .agg #[.slice a n c]
def ndsV (L : List NdP) : List Value := L.flatMap fun p => [.bool p.nd.fin, .string p.nd.lt, .slice p.a p.nd.nx.length p.c]
def noNd : NdP := ⟨⟨false, ⟨#[]⟩, []⟩, none, 0⟩
def ndAt (L : List NdP) (k : Nat) : NdP := L.getD k noNd
theorem ndsV_append (l q : List NdP) : ndsV (l ++ q) = ndsV l ++ ndsV q := by simp [ndsV]
theorem ndsV_length (l : List NdP) : (ndsV l).length = l.length * 3 := by
  induction l with
  | nil => rfl
  | cons a t ih => rw [ndsV, List.flatMap_cons, List.length_append]; change _ + (ndsV t).length = _; rw [ih]; simp; omega
theorem ndsV_get : ∀ (l : List NdP) (k : Nat), k < l.length → (ndsV l)[k * 3]? = some (.bool (ndAt l k).nd.fin) ∧ (ndsV l)[k * 3 + 1]? = some (.string (ndAt l k).nd.lt) ∧ (ndsV l)[k * 3 + 2]? = some (.slice (ndAt l k).a (ndAt l k).nd.nx.length (ndAt l k).c)
  | [], k, h => by simp at h
  | a :: t, 0, h => by simp [ndsV, ndAt]
  | a :: t, k + 1, h => by
    have := ndsV_get t k (by simpa using h)
    have e : ndsV (a :: t) = .bool a.nd.fin :: .string a.nd.lt :: .slice a.a a.nd.nx.length a.c :: ndsV t := by simp [ndsV]
    have e2 : ndAt (a :: t) (k + 1) = ndAt t k := by simp [ndAt]
    rw [e, e2, show (k + 1) * 3 = k * 3 + 1 + 1 + 1 by omega]
    simpa using this
theorem ndAt_mem (L : List NdP) (k : Nat) (h : k < L.length) : ndAt L k ∈ L := by
  unfold ndAt
  rw [List.getD_eq_getElem?_getD, List.getElem?_eq_getElem h]
  exact List.getElem_mem h
theorem ndAt_eq (L : List NdP) (k : Nat) (h : k < L.length) : L[k] = ndAt L k := by
  unfold ndAt
  rw [List.getD_eq_getElem?_getD, List.getElem?_eq_getElem h]; rfl
theorem Rd.nds {w : World} {a : Option Addr} {l : List NdP} (h : Rd w a (ndsV l)) (hn : 0 < l.length) : ∃ b o, a = some ⟨b, o, none⟩ ∧ ∀ k, k < l.length → w.cell? ⟨b, o + k * 3, none⟩ = some (.bool (ndAt l k).nd.fin) ∧ w.cell? ⟨b, o + k * 3 + 1, none⟩ = some (.string (ndAt l k).nd.lt) ∧ w.cell? ⟨b, o + k * 3 + 2, none⟩ = some (.slice (ndAt l k).a (ndAt l k).nd.nx.length (ndAt l k).c) := by
  obtain ⟨b, o, ha, hc⟩ := h.at (by rw [ndsV_length]; omega)
  refine ⟨b, o, ha, fun k hk => ?_⟩
  obtain ⟨h1, h2, h3⟩ := ndsV_get l k hk
  exact ⟨hc _ _ h1, by rw [Nat.add_assoc]; exact hc _ _ h2, by rw [Nat.add_assoc]; exact hc _ _ h3⟩
def NdRd (w : World) (L : List NdP) : Prop := ∀ p ∈ L, Rd w p.a (intsV p.nd.nx)
theorem NdRd.ext {w w' : World} {L : List NdP} (h : NdRd w L) (k : Ext w w') : NdRd w' L := fun p hp => (h p hp).ext k
/-- An automaton's nodes can be read. -/
def DgRd (w : World) (a : Option Addr) (L : List NdP) : Prop := Rd w a (ndsV L) ∧ NdRd w L
theorem DgRd.ext {w w' : World} {a : Option Addr} {L : List NdP} (h : DgRd w a L) (k : Ext w w') : DgRd w' a L := ⟨h.1.ext k, h.2.ext k⟩
def ndsOf (L : List NdP) : List Nd := L.map (·.nd)
theorem ndsOf_length (L : List NdP) : (ndsOf L).length = L.length := by simp [ndsOf]
theorem ndsOf_at (L : List NdP) (k : Nat) (h : k < L.length) : (ndsOf L)[k]'(by rw [ndsOf_length]; exact h) = (ndAt L k).nd := by simp [ndsOf, ndAt_eq L k h]
def szNd (L : Int) (d : Nd) : Int := if L < d.lt.size then -1 else if L - d.lt.size < d.nx.length then -1 else L - d.lt.size - d.nx.length
def szNG : Int → List Nd → Int
  | L, [] => L
  | L, d :: r => if szNd L d < 0 then -1 else szNG (szNd L d) r
def szDw (L : Int) (l : List Nd) : Int := if L < l.length then -1 else szNG (L - l.length) l
def szDg (L : Int) (l : List Nd) : Int := if szDw L l < 0 then -1 else szDw L l
theorem szNd_le {L : Int} {d : Nd} (h : ¬ szNd L d < 0) : (d.lt.size : Int) + d.nx.length ≤ L ∧ szNd L d = L - d.lt.size - d.nx.length := by
  unfold szNd at *
  split at h
  · omega
  · split at h
    · omega
    · rename_i h1 h2
      rw [if_neg h1, if_neg h2]
      omega
theorem szNG_ok : ∀ (L : Int) (l : List Nd), 0 ≤ L → ¬ szNG L l < 0 → szNG L l ≤ L ∧ ∀ d ∈ l, (d.lt.size : Int) + d.nx.length ≤ L
  | L, [], h0, h => by simp [szNG]
  | L, d :: r, h0, h => by
    rw [szNG] at h ⊢
    split at h
    · omega
    · rename_i hs
      obtain ⟨h1, h2⟩ := szNd_le hs
      have := szNG_ok (szNd L d) r (by omega) h
      rw [if_neg hs]
      refine ⟨by omega, fun x hx => ?_⟩
      rcases List.mem_cons.1 hx with rfl | hx
      · exact h1
      · have := this.2 x hx; omega
theorem szNG_drop (L : Int) (l : List Nd) (k : Nat) (h : k < l.length) : szNG L (l.drop k) = if szNd L l[k] < 0 then -1 else szNG (szNd L l[k]) (l.drop (k + 1)) := by
  rw [List.drop_eq_getElem_cons h, szNG]
theorem szDg_ok {L : Int} {l : List Nd} (h0 : 0 ≤ L) (h : ¬ szDg L l < 0) : (l.length : Int) ≤ L ∧ (∀ d ∈ l, (d.lt.size : Int) + d.nx.length ≤ L) ∧ 0 ≤ szDg L l ∧ szDg L l ≤ L := by
  unfold szDg at *
  split at h
  · omega
  · rename_i hs
    rw [if_neg hs]
    unfold szDw at *
    split at h
    · omega
    · rename_i h1
      rw [if_neg h1] at hs
      rw [if_neg h1]
      have := szNG_ok _ _ (by omega) hs
      exact ⟨by omega, fun d hd => by have := this.2 d hd; omega, by omega, by omega⟩
set_option maxHeartbeats 400000 in
theorem szNode_any (f : Bool) (s : ByteArray) (a : Option Addr) (c : Nat) (nx : List Int) (L : Int) (w : World) (hs : s.size ≤ maxLen) (hl : nx.length ≤ maxLen) (h0 : 0 ≤ L) (h1 : L ≤ 1048576) :
    Calls Try.prog 34 #[ndV f s a nx.length c, .int .i64 L] w (Ret (.int .i64 (szNd L ⟨f, s, nx⟩)) w) := by
  unfold maxLen at hs
  have HV := hid (fun (l : Int) (w' : World) (i0 : 0 ≤ l) (i1 : l ≤ 1048576) => szInt64S_any a c nx l w' hl i0 i1)
  clear hl
  have HD : Hid (szNd L ⟨f, s, nx⟩ = if L < s.size then -1 else if L - s.size < nx.length then -1 else L - s.size - nx.length) := hid rfl
  by_cases q1 : L < s.size
  · have h2 : L - s.size < 0 := by omega
    have HN : Hid (szNd L ⟨f, s, nx⟩ = -1) := hid (by rw [HD.out, if_pos q1])
    go_enter Try.func34, Try.ntmps34
    go_wp2_with fail
    go_returns
    exact ⟨ret_int HN.out.symm, (Ext.refl w).alloc _⟩
  · have h2 : ¬ L - s.size < 0 := by omega
    by_cases q2 : L - s.size < nx.length
    · have HS : Hid (szN (L - s.size) nx = -1) := hid (if_pos q2)
      have HN : Hid (szNd L ⟨f, s, nx⟩ = -1) := hid (by rw [HD.out, if_neg q1, if_pos q2])
      go_enter Try.func34, Try.ntmps34
      go_wp2_with fail
      refine (HV.out _ _ (by omega) (by omega)).mono ?_
      rintro e w1 ⟨rfl, rfl⟩
      rw [HS.out]
      go_wp2_with fail
      go_returns
      exact ⟨ret_int HN.out.symm, (Ext.refl w).alloc _⟩
    · have h3 : ¬ L - s.size - nx.length < 0 := by omega
      have HS : Hid (szN (L - s.size) nx = L - s.size - nx.length) := hid (if_neg q2)
      have HN : Hid (szNd L ⟨f, s, nx⟩ = L - s.size - nx.length) := hid (by rw [HD.out, if_neg q1, if_neg q2])
      go_enter Try.func34, Try.ntmps34
      go_wp2_with fail
      refine (HV.out _ _ (by omega) (by omega)).mono ?_
      rintro e w1 ⟨rfl, rfl⟩
      rw [HS.out]
      go_wp2_with fail
      go_returns
      exact ⟨ret_int HN.out.symm, (Ext.refl w).alloc _⟩
set_option maxHeartbeats 1000000 in
theorem szNodeS_any (a : Option Addr) (c : Nat) (l : List NdP) (L : Int) (w : World) (h : Rd w a (ndsV l)) (hl : l.length ≤ maxLen) (hs : ∀ p ∈ l, p.nd.lt.size ≤ maxLen ∧ p.nd.nx.length ≤ maxLen) (h0 : 0 ≤ L) (h1 : L ≤ 1048576) :
    Calls Try.prog 21 #[.slice a l.length c, .int .i64 L] w (Ret (.int .i64 (szDw L (ndsOf l))) w) := by
  have HR := hid h
  have HS : Hid (∀ k (hk : k < l.length), (ndAt l k).nd.lt.size ≤ maxLen ∧ (ndAt l k).nd.nx.length ≤ maxLen) := hid (fun k hk => hs _ (ndAt_mem l k hk))
  have HG : Hid (∀ (m : Int) k, k < l.length → szNG m ((ndsOf l).drop k) = if szNd m (ndAt l k).nd < 0 then -1 else szNG (szNd m (ndAt l k).nd) ((ndsOf l).drop (k + 1))) := hid (fun m k hk => by
    rw [szNG_drop m _ k (by rw [ndsOf_length]; exact hk), ndsOf_at l k hk])
  have HE : Hid (∀ m, szNG m ((ndsOf l).drop l.length) = m) := hid (fun m => by rw [List.drop_eq_nil_of_le (by rw [ndsOf_length]; exact Nat.le_refl _)]; rfl)
  have HD : Hid (szDw L (ndsOf l) = if L < l.length then -1 else szNG (L - l.length) (ndsOf l)) := hid (by unfold szDw; rw [ndsOf_length])
  have HLE := hid (fun (m : Int) (d : Nd) (h : 0 ≤ szNd m d) => szNd_le (L := m) (d := d) (by omega))
  clear h hs
  unfold maxLen at hl
  by_cases hn : L < l.length
  · have h2 : L - l.length < 0 := by omega
    have HN : Hid (szDw L (ndsOf l) = -1) := hid (by rw [HD.out, if_pos hn])
    go_enter Try.func21, Try.ntmps21
    go_wp2_with fail
    go_returns
    exact ⟨ret_int HN.out.symm, Ext.refl w⟩
  · have h2 : ¬ L - l.length < 0 := by omega
    have HL2 : Hid (szDw L (ndsOf l) = szNG (L - l.length) (ndsOf l)) := hid (by rw [HD.out, if_neg hn])
    clear HD
    go_enter Try.func21, Try.ntmps21
    go_wp2_with fail
    go_loopw [1, 5] (fun t i wr => ∃ (k : Nat) (m : Int), k ≤ l.length ∧ i = .int .i64 k ∧ t = .int .i64 m ∧ 0 ≤ m ∧ m ≤ 1048576 ∧ Hid (szNG (L - l.length) (ndsOf l) = szNG m ((ndsOf l).drop k)) ∧ Ext w wr) (fun _ i _ => l.length - (intOf i).toNat)
    case atStart => exact ⟨0, _, by omega, rfl, rfl, by omega, by omega, hid (by rw [List.drop_zero]), Ext.refl _⟩
    case round =>
      obtain ⟨k, m, hk, rfl, rfl, hm0, hm1, HM, hx⟩ := hrel
      by_cases hlt : k < l.length
      · obtain ⟨b, o, rfl, hc⟩ := (HR.out.ext hx).nds (by omega)
        obtain ⟨c0, c1, c2⟩ := hc k hlt
        obtain ⟨s1, s2⟩ := HS.out k hlt
        have HGk := HG.out m k hlt
        clear hc
        obtain ⟨p, hp⟩ : ∃ p, ndAt l k = p := ⟨_, rfl⟩
        rw [hp] at c0 c1 c2 s1 s2 HGk
        obtain ⟨⟨f, s, nx⟩, pa, pc⟩ := p
        have HZ := hid (fun w' => szNode_any f s pa pc nx m w' s1 s2 hm0 hm1)
        obtain ⟨z, hz⟩ : ∃ z, szNd m ⟨f, s, nx⟩ = z := ⟨_, rfl⟩
        simp only at c0 c1 c2 HGk
        have HLz := HLE.out m ⟨f, s, nx⟩
        rw [hz] at HGk HZ HLz
        have HK := hid HGk
        have HL3 := hid HLz
        obtain ⟨q, hq⟩ : ∃ q, o + k * 3 = q := ⟨_, rfl⟩
        rw [hq] at c0 c1 c2
        clear hz hp HGk HLz s1 s2
        go_wp2_with fail
        refine (HZ.out _).mono ?_
        rintro e w2 ⟨rfl, hx2⟩
        by_cases hz0 : z < 0
        · have HN : Hid (szDw L (ndsOf l) = -1) := hid (by rw [HL2.out, HM.out, HK.out, if_pos hz0])
          go_wp2_with fail
          go_returns
          exact ⟨ret_int HN.out.symm, hx.trans hx2⟩
        · have hz1 := HL3.out (by omega)
          have hz3 : z ≤ 1048576 := by omega
          have HN : Hid (szNG (L - l.length) (ndsOf l) = szNG z ((ndsOf l).drop (k + 1))) := hid (by rw [HM.out, HK.out, if_neg hz0])
          clear hz1
          go_wp2_with fail
          go_roundw
          case rel => exact ⟨k + 1, z, by omega, by go_num, rfl, by omega, hz3, HN, hx.trans hx2⟩
          case measure => simp [intOf]; omega
      · obtain rfl : k = l.length := by omega
        have HN : Hid (szDw L (ndsOf l) = m) := hid (by rw [HL2.out, HM.out, HE.out])
        go_wp2_with fail
        go_returns
        exact ⟨ret_int HN.out.symm, hx⟩
set_option maxHeartbeats 400000 in
theorem szDawg_any (a : Option Addr) (c : Nat) (l : List NdP) (L : Int) (w : World) (h : Rd w a (ndsV l)) (hl : l.length ≤ maxLen) (hs : ∀ p ∈ l, p.nd.lt.size ≤ maxLen ∧ p.nd.nx.length ≤ maxLen) (h0 : 0 ≤ L) (h1 : L ≤ 1048576) :
    Calls Try.prog 10 #[dawgV a l.length c, .int .i64 L] w (Ret (.int .i64 (szDg L (ndsOf l))) w) := by
  have HS := hid (szNodeS_any a c l L _ (h.ext ((Ext.refl w).alloc (.cells #[.slice a l.length c] 30))) hl hs h0 h1)
  have HD : Hid (szDg L (ndsOf l) = if szDw L (ndsOf l) < 0 then -1 else szDw L (ndsOf l)) := hid rfl
  obtain ⟨z, hz⟩ : ∃ z, szDw L (ndsOf l) = z := ⟨_, rfl⟩
  rw [hz] at HS HD
  clear h hl hs hz
  go_enter Try.func10, Try.ntmps10
  go_wp2_with fail
  refine HS.out.mono ?_
  rintro e w2 ⟨rfl, hx2⟩
  by_cases hz0 : z < 0
  · have HN : Hid (szDg L (ndsOf l) = -1) := hid (by rw [HD.out, if_pos hz0])
    go_wp2_with fail
    go_returns
    exact ⟨ret_int HN.out.symm, ((Ext.refl w).alloc _).trans hx2⟩
  · have HN : Hid (szDg L (ndsOf l) = z) := hid (by rw [HD.out, if_neg hz0])
    go_wp2_with fail
    go_returns
    exact ⟨ret_int HN.out.symm, ((Ext.refl w).alloc _).trans hx2⟩
end Go.Proofs.Ytlnccdbmchjhlaa
