/- Automata marked by the laws' own functions, and the marks looked at. Conditions: at most 2^20 nodes and edges; no two lists in one block. -/
import Derived.Test.YtlnccdbmchjhlaaDoorMg10
import Derived.Test.YtlnccdbmchjhlaaDoorDg6
import Derived.Test.YtlnccdbmchjhlaaDoorChW
namespace Go.Proofs.YtlnccdbmchjhlaaDoor
set_option linter.unusedVariables false
set_option linter.unusedSimpArgs false
open Go Go.RowKit
/-- No two lists share a block. -/
def ApartL (L : List NdP) : Prop := L.Pairwise fun p q => 0 < p.nd.nx.length → 0 < q.nd.nx.length → ∀ x y, p.a = some x → q.a = some y → x.block ≠ y.block
def markNk (k : Nat) (p : NdP) : NdP := ⟨⟨k % 3 == 0, markTx (k + 1), marksI p.nd.nx.length (k + 2)⟩, p.a, p.c⟩
def markNs : Nat → List NdP → List NdP
  | _, [] => []
  | k, p :: r => markNk k p :: markNs (k + 2 + p.nd.nx.length) r
def markNn : Nat → List NdP → Nat
  | k, [] => k
  | k, p :: r => markNn (k + 2 + p.nd.nx.length) r
theorem markNs_len : ∀ (k : Nat) (L : List NdP), (markNs k L).length = L.length
  | _, [] => rfl
  | k, p :: r => by rw [markNs, List.length_cons, markNs_len, List.length_cons]
theorem markNs_snoc : ∀ (k : Nat) (L : List NdP) (p : NdP), markNs k (L ++ [p]) = markNs k L ++ [markNk (markNn k L) p]
  | _, [], _ => rfl
  | k, a :: r, p => by rw [List.cons_append, markNs, markNs_snoc, markNs, markNn, List.cons_append]
theorem markNn_snoc : ∀ (k : Nat) (L : List NdP) (p : NdP), markNn k (L ++ [p]) = markNn k L + 2 + p.nd.nx.length
  | _, [], _ => rfl
  | k, a :: r, p => by rw [List.cons_append, markNn, markNn_snoc, markNn]
theorem markNn_le : ∀ (k : Nat) (L : List NdP), markNn k L = k + 2 * L.length + (L.map fun p => p.nd.nx.length).sum
  | _, [] => rfl
  | k, a :: r => by rw [markNn, markNn_le]; simp; omega
theorem markNn_mono (k : Nat) (A B : List NdP) : markNn k A ≤ markNn k (A ++ B) := by
  rw [markNn_le, markNn_le]; simp; omega
/-- An automaton's nodes, which may be written. -/
structure DgW (lo hi : Nat) (w : World) (g : Nat) (L : List NdP) : Prop where
  row : Wr w g (ndsV L)
  ge : lo ≤ g
  lt : g < hi
  nx : ∀ p ∈ L, InR lo hi w p.a (intsV p.nd.nx)
  off : ∀ p ∈ L, 0 < p.nd.nx.length → ∀ q, p.a = some q → q.block ≠ g
  ap : ApartL L
theorem DgW.ext {lo hi g : Nat} {w w' : World} {L : List NdP} (h : DgW lo hi w g L) (k : Ext w w') : DgW lo hi w' g L := ⟨h.row.ext k, h.ge, h.lt, fun p hp => (h.nx p hp).ext k, h.off, h.ap⟩
theorem DgW.dg {lo hi g : Nat} {w : World} {L : List NdP} (h : DgW lo hi w g L) : DgRd w (some ⟨g, 0, none⟩) L := ⟨h.row.rd, fun p hp => (h.nx p hp).rd⟩
theorem ints_len' (l : List Int) : (intsV l).length = l.length := by simp [intsV]
theorem Ch.inR {K : Nat → Prop} {lo hi : Nat} {w w' : World} {a : Option Addr} {xs : List Value} (k : Ch K w w') (h : InR lo hi w a xs) (hb : 0 < xs.length → ∀ q, a = some q → ¬ K q.block) : InR lo hi w' a xs := by
  rcases h with rfl | ⟨g, rfl, h1, h2, h⟩
  · exact .inl rfl
  · by_cases hx : 0 < xs.length
    · have hg : ¬ K g := hb hx _ rfl
      refine .inr ⟨g, rfl, h1, h2, Nat.lt_of_lt_of_le h.1 k.size, fun j u hj => k.cell (h.2.1 j u hj) hg, fun j hj => ?_⟩
      rw [← h.2.2 j hj]
      have := k.block g h.1 hg
      simp only [World.frozen?, this]
    · exact .inl (List.eq_nil_of_length_eq_zero (by omega))
theorem Ch.exb {K : Nat → Prop} {lo hi : Nat} {w w' : World} (k : Ch K w w') (h : ∀ b, K b → lo ≤ b ∧ b < hi) : Exb lo hi w w' := ⟨k.os, k.tape, k.output, k.size, fun b hb ho => k.block b hb (fun q => by have := h b q; omega)⟩
/-- One node is written anew, its list where it was. -/
theorem DgW.put {lo hi g : Nat} {w w' : World} {A B : List NdP} {p p' : NdP} (h : DgW lo hi w g (A ++ p :: B)) (ha : p'.a = p.a) (hl : p'.nd.nx.length = p.nd.nx.length) (hr : Wr w' g (ndsV (A ++ p' :: B))) (hi' : InR lo hi w' p'.a (intsV p'.nd.nx)) (hc : Ch (fun b => b = g ∨ 0 < p.nd.nx.length ∧ blkA p.a = some b) w w') : DgW lo hi w' g (A ++ p' :: B) := by
  have hap := h.ap
  unfold ApartL at hap
  rw [List.pairwise_append, List.pairwise_cons] at hap
  obtain ⟨a1, ⟨a2, a3⟩, a4⟩ := hap
  have key : ∀ q, q ∈ A ∨ q ∈ B → InR lo hi w' q.a (intsV q.nd.nx) := fun q hq => by
    have hm : q ∈ A ++ p :: B := by rcases hq with hq | hq <;> simp [hq]
    refine hc.inR (h.nx q hm) (fun hn r e => ?_)
    rw [ints_len'] at hn
    rintro (s | ⟨s1, s2⟩)
    · exact h.off q hm hn r e s
    · cases hpa : p.a with
      | none => rw [hpa] at s2; simp [blkA] at s2
      | some y =>
        rw [hpa] at s2
        have e2 : y.block = r.block := by simpa [blkA] using s2
        rcases hq with hq | hq
        · exact a4 q hq p (by simp) hn s1 r y e hpa e2.symm
        · exact a2 q hq s1 hn y r hpa e e2
  refine ⟨hr, h.ge, h.lt, fun q hq => ?_, fun q hq hn r e => ?_, ?_⟩
  · rcases List.mem_append.1 hq with hq | hq
    · exact key q (.inl hq)
    · rcases List.mem_cons.1 hq with rfl | hq
      · exact hi'
      · exact key q (.inr hq)
  · rcases List.mem_append.1 hq with hq | hq
    · exact h.off q (by simp [hq]) hn r e
    · rcases List.mem_cons.1 hq with rfl | hq
      · exact h.off p (by simp) (by rw [← hl]; exact hn) r (by rw [← ha]; exact e)
      · exact h.off q (by simp [hq]) hn r e
  · unfold ApartL
    rw [List.pairwise_append, List.pairwise_cons]
    refine ⟨a1, ⟨fun b hb k1 k2 x y e1 e2 => a2 b hb (by rw [← hl]; exact k1) k2 x y (by rw [← ha]; exact e1) e2, a3⟩, fun a h1 b h2 => ?_⟩
    rcases List.mem_cons.1 h2 with rfl | h2
    · intro k1 k2 x y e1 e2
      exact a4 a h1 p (by simp) k1 (by rw [← hl]; exact k2) x y e1 (by rw [← ha]; exact e2)
    · exact a4 a h1 b (by simp [h2])
theorem ndsV_put (A B : List NdP) (p : NdP) (f : Bool) (t : ByteArray) (nx : List Int) (hl : nx.length = p.nd.nx.length) :
    ((ndsV (A ++ p :: B)).set (A.length * 3) (.bool f)).set (A.length * 3 + 1) (.string t) = ndsV (A ++ (⟨⟨f, t, nx⟩, p.a, p.c⟩ : NdP) :: B) := by
  have e : ∀ q : NdP, ndsV (A ++ q :: B) = ndsV A ++ (.bool q.nd.fin :: .string q.nd.lt :: .slice q.a q.nd.nx.length q.c :: ndsV B) := fun q => by rw [ndsV_append]; simp [ndsV]
  have hA := ndsV_length A
  rw [e, e, List.set_append_right _ _ (by omega), List.set_append_right _ _ (by omega)]
  rw [hA, Nat.sub_self, show A.length * 3 + 1 - A.length * 3 = 1 by omega]
  simp [hl]
theorem markInt_ch (lo hi : Nat) (a : Option Addr) (c : Nat) (l : List Int) (k : Nat) (w : World) (h : InR lo hi w a (intsV l)) (hl : l.length ≤ 1048576) (hk1 : 1 ≤ k) (hk2 : k ≤ 4000000) :
    Calls Tryd.prog 41 #[.slice a l.length c, .int .i64 k] w fun e w' => e = .returned (.int .i64 ((k + l.length : Nat) : Int)) ∧ InR lo hi w' a (intsV (marksI l.length k)) ∧ Ch (fun b => 0 < l.length ∧ blkA a = some b) w w' := by
  by_cases hn : 0 < l.length
  · rcases h with h | ⟨g, rfl, h1, h2, h⟩
    · have := congrArg List.length h
      rw [ints_len', List.length_nil] at this
      omega
    · refine (markInt64S_wr g c l k w h hl hk1 hk2).mono ?_
      rintro e w' ⟨rfl, hw, hx⟩
      exact ⟨rfl, .inr ⟨g, rfl, h1, h2, hw⟩, (Ch.exc hx).mono (fun b _ e => ⟨hn, by simp [blkA, e]⟩)⟩
  · obtain rfl : l = [] := List.eq_nil_of_length_eq_zero (by omega)
    refine (markInt64S_nil a c k w).mono ?_
    rintro e w' ⟨rfl, rfl⟩
    exact ⟨rfl, .inl rfl, Ch.refl _ _⟩
set_option maxHeartbeats 1600000 in
theorem markNodeS_any (lo hi g c : Nat) (L : List NdP) (k : Nat) (w : World) (h : DgW lo hi w g L) (hl : L.length ≤ 1048576) (hs : NdSh L) (hk1 : 1 ≤ k) (hk2 : markNn k L ≤ 4000000) :
    Calls Tryd.prog 27 #[.slice (some ⟨g, 0, none⟩) L.length c, .int .i64 k] w fun e w' => e = .returned (.int .i64 ((markNn k L : Nat) : Int)) ∧ DgW lo hi w' g (markNs k L) ∧ Ch (fun b => lo ≤ b ∧ b < hi) w w' := by
  have HW := hid h
  have HS := hid hs
  have HK := hid hk2
  clear h hs hk2
  go_enter Tryd.func27, Tryd.ntmps27
  go_wp2_with fail
  go_loopw [1, 5] (fun t i wr => ∃ (A B : List NdP) (m : Nat), L = A ++ B ∧ i = .int .i64 (A.length : Int) ∧ t = .int .i64 (m : Int) ∧ m = markNn k A ∧ Hid (DgW lo hi wr g (markNs k A ++ B)) ∧ Hid (Ch (fun b => lo ≤ b ∧ b < hi) w wr)) (fun _ i _ => L.length - (intOf i).toNat)
  case atStart => exact ⟨[], L, k, rfl, rfl, rfl, rfl, HW, hid (Ch.refl _ _)⟩
  case round =>
    clear HW
    obtain ⟨A, B, m, hAB, rfl, rfl, hm, HD, HC⟩ := hrel
    cases B with
    | cons p B =>
      have hAl : A.length < L.length := by rw [hAB]; simp
      obtain ⟨i, hi⟩ : ∃ i, A.length = i := ⟨_, rfl⟩
      have hrow := HD.out.row
      have hml : (markNs k A).length = i := by rw [markNs_len, hi]
      have hn := ndsV_length (markNs k A ++ p :: B)
      rw [List.length_append, List.length_cons, hml] at hn
      have f0 := hrow.fit (i * 3) (by omega)
      have f1 := hrow.fit (i * 3 + 1) (by omega)
      have hmb : m + 2 + p.nd.nx.length ≤ 4000000 := by
        have h1 := markNn_mono k (A ++ [p]) B
        have h2 := HK.out
        rw [markNn_snoc] at h1
        rw [hAB, ← List.singleton_append, ← List.append_assoc] at h2
        omega
      have hm1 : 1 ≤ m := by
        have := markNn_le k A
        omega
      have hpl := HS.out p (by rw [hAB]; simp)
      have q1 : ((m : Int) % 3 == 0) = (m % 3 == 0) := by
        by_cases e : m % 3 = 0
        · have e2 : (m : Int) % 3 = 0 := by omega
          rw [e, e2]; rfl
        · have e2 : ¬ (m : Int) % 3 = 0 := by omega
          rw [beq_eq_false_iff_ne.2 e]
          exact beq_eq_false_iff_ne.2 e2
      have HN := hid hn
      have HML := hid hml
      have HI := hid hi
      have HAB := hid hAB
      have HM := hid hm
      have HROW := hid hrow
      have hgl := hrow.1
      obtain ⟨v0, e0⟩ : ∃ v, (ndsV (markNs k A ++ p :: B))[i * 3]'(by omega) = v := ⟨_, rfl⟩
      obtain ⟨v1, e1⟩ : ∃ v, (ndsV (markNs k A ++ p :: B))[i * 3 + 1]'(by omega) = v := ⟨_, rfl⟩
      rw [e0] at f0
      rw [e1] at f1
      obtain ⟨f0, g0⟩ := f0
      obtain ⟨f1, g1⟩ := f1
      rw [hi] at hAl ⊢
      clear hn hml hi hAB hm hrow e0 e1
      go_wp2_with fail
      obtain ⟨bb, hbb⟩ : ∃ b : Bool, (m % 3 == 0) = b := ⟨_, rfl⟩
      rw [hbb, show ((m : Int) + 1) = ((m + 1 : Nat) : Int) from rfl]
      have HBB : Hid ((m % 3 == 0) = bb) := hid hbb
      have HR1 := hid (HROW.out.set (i * 3) (by have := HN.out; omega) (.bool bb))
      clear hbb q1 f0 g0 f1 g1
      refine (markText_any (m + 1) _ (by omega) (by omega)).mono ?_
      rintro e w1 ⟨rfl, hx1⟩
      have hr1 := HR1.out.ext hx1
      have f1 := hr1.fit (i * 3 + 1) (by have := HN.out; simp; omega)
      obtain ⟨v1, e1⟩ : ∃ v, ((ndsV (markNs k A ++ p :: B)).set (i * 3) (.bool bb))[i * 3 + 1]'(by have := HN.out; simp; omega) = v := ⟨_, rfl⟩
      rw [e1] at f1
      obtain ⟨f1, g1⟩ := f1
      have hr2 := hr1.set (i * 3 + 1) (by have := HN.out; simp; omega) (.string (markTx (m + 1)))
      have hput := ndsV_put (markNs k A) B p bb (markTx (m + 1)) (marksI p.nd.nx.length (m + 2)) (by rw [marksI_length])
      rw [HML.out] at hput
      rw [hput] at hr2
      obtain ⟨n0, n1, n2⟩ := ndsV_get (markNs k A ++ (⟨⟨bb, markTx (m + 1), marksI p.nd.nx.length (m + 2)⟩, p.a, p.c⟩ : NdP) :: B) i (by rw [List.length_append, List.length_cons, HML.out]; omega)
      have hat : ndAt (markNs k A ++ (⟨⟨bb, markTx (m + 1), marksI p.nd.nx.length (m + 2)⟩, p.a, p.c⟩ : NdP) :: B) i = ⟨⟨bb, markTx (m + 1), marksI p.nd.nx.length (m + 2)⟩, p.a, p.c⟩ := by
        unfold ndAt
        rw [List.getD_eq_getElem?_getD, List.getElem?_append_right (by rw [HML.out]; exact Nat.le_refl _), HML.out]
        simp
      rw [hat] at n2
      simp only [marksI_length] at n2
      have f2 := hr2.2.1 _ _ n2
      have HR2 := hid hr2
      have hch : Ch (fun b => b = g) wr (w1.setCell ⟨g, i * 3 + 1, none⟩ (.string (markTx (m + 1)))) := ((Ch.set wr g (i * 3) (.bool bb)).thenExt hx1).trans (Ch.set _ _ _ _)
      have HCH := hid hch
      have hpm : p ∈ markNs k A ++ p :: B := by simp
      have HNX := hid (hch.inR (HD.out.nx p hpm) (fun hn q e => HD.out.off p hpm (by rw [ints_len'] at hn; exact hn) q e))
      clear hx1 hr1 e1 hr2 hput n0 n1 n2 hat hch
      go_wp2_with fail
      rw [show ((m : Int) + 1 + 1) = ((m + 2 : Nat) : Int) from rfl]
      refine (markInt_ch lo hi p.a p.c p.nd.nx (m + 2) _ HNX.out hpl (by omega) (by omega)).mono ?_
      rintro e w3 ⟨rfl, hin, hc3⟩
      have hng : ¬ (0 < p.nd.nx.length ∧ blkA p.a = some g) := fun h => by
        obtain ⟨h1, h2⟩ := h
        cases hpa : p.a with
        | none => rw [hpa] at h2; simp [blkA] at h2
        | some y =>
          rw [hpa] at h2
          exact HD.out.off p hpm h1 y hpa (by simpa [blkA] using h2)
      have hr3 : Wr w3 g (ndsV (markNs k A ++ (⟨⟨bb, markTx (m + 1), marksI p.nd.nx.length (m + 2)⟩, p.a, p.c⟩ : NdP) :: B)) := by
        obtain ⟨r1, r2, r3⟩ := HR2.out
        refine ⟨Nat.lt_of_lt_of_le r1 hc3.size, fun j u hj => hc3.cell (r2 j u hj) hng, fun j hj => ?_⟩
        rw [← r3 j hj]
        have := hc3.block g r1 hng
        simp only [World.frozen?, this]
      have hcc : Ch (fun b => b = g ∨ 0 < p.nd.nx.length ∧ blkA p.a = some b) wr w3 := (HCH.out.mono (fun b _ e => .inl e)).trans (hc3.mono (fun b _ e => .inr e))
      have hdw : DgW lo hi w3 g (markNs k A ++ (⟨⟨bb, markTx (m + 1), marksI p.nd.nx.length (m + 2)⟩, p.a, p.c⟩ : NdP) :: B) := HD.out.put rfl (by simp [marksI_length]) hr3 hin hcc
      have hge := HD.out.ge
      have hlt := HD.out.lt
      have HC4 : Hid (Ch (fun b => lo ≤ b ∧ b < hi) w w3) := hid (HC.out.trans (hcc.mono (fun b _ e => by
        rcases e with rfl | ⟨e1, e2⟩
        · exact ⟨hge, hlt⟩
        · rcases HD.out.nx p hpm with h | ⟨g', h1, h2, h3, -⟩
          · have := congrArg List.length h
            rw [ints_len', List.length_nil] at this
            omega
          · rw [h1] at e2
            have e3 : g' = b := by simpa [blkA] using e2
            omega)))
      have HD4 := hid hdw
      clear hin hc3 hr3 hcc hdw f1 f2 g1
      go_wp2_with fail
      go_roundw
      case rel =>
        refine ⟨A ++ [p], B, m + 2 + p.nd.nx.length, by rw [HAB.out]; simp, by rw [List.length_append, HI.out]; rfl, by go_num, by rw [markNn_snoc, HM.out], ?_, HC4⟩
        have h4 := HD4.out
        rw [markNs_snoc, List.append_assoc, List.singleton_append]
        unfold markNk
        rw [← HM.out, HBB.out]
        exact hid h4
      case measure => simp [intOf]; omega
    | nil =>
      obtain rfl : L = A := by rw [hAB, List.append_nil]
      have HD2 := hid HD.out
      rw [List.append_nil] at HD2
      clear HD hAB
      go_wp2_with fail
      go_returns
      exact ⟨by rw [hm]; rfl, HD2.out, HC.out⟩
set_option maxHeartbeats 1000000 in
theorem markDawg_any (lo hi g c : Nat) (L : List NdP) (k : Nat) (w : World) (h : DgW lo hi w g L) (hl : L.length ≤ 1048576) (hs : NdSh L) (hk1 : 1 ≤ k) (hk2 : markNn k L ≤ 4000000) (hh : hi ≤ w.heap.size) :
    Calls Tryd.prog 12 #[dawgV (some ⟨g, 0, none⟩) L.length c, .int .i64 k] w fun e w' => e = .returned (.int .i64 ((markNn k L : Nat) : Int)) ∧ DgW lo hi w' g (markNs k L) ∧ Ch (fun b => lo ≤ b ∧ b < hi) w w' := by
  have hx0 := (Ext.refl w).alloc (.cells #[.slice (some ⟨g, 0, none⟩) L.length c] 28)
  have HH := hid (markNodeS_any lo hi g c L k _ (h.ext hx0) hl hs hk1 hk2)
  have HX := hid hx0
  clear h hs hk2 hx0
  go_enter Tryd.func12, Tryd.ntmps12
  go_wp2_with fail
  refine HH.out.mono ?_
  rintro e w1 ⟨rfl, h1, h2⟩
  have H1 := hid h1
  have H2 := hid (((Ch.of_ext _ HX.out).trans h2 : Ch (fun b => lo ≤ b ∧ b < hi) w w1))
  clear h1 h2
  go_wp2_with fail
  go_returns
  exact ⟨rfl, H1.out, H2.out⟩
theorem markNs_at (k : Nat) : ∀ (L : List NdP) (i : Nat), i < L.length → ndAt (markNs k L) i = markNk (markNn k (L.take i)) (ndAt L i)
  | L, i, h => by
    have e : L = L.take i ++ (ndAt L i :: L.drop (i + 1)) := by
      rw [← ndAt_eq L i h, List.getElem_cons_drop h, List.take_append_drop]
    have e2 : ∀ (k : Nat) (A B : List NdP), markNs k (A ++ B) = markNs k A ++ markNs (markNn k A) B := by
      intro k A
      induction A generalizing k with
      | nil => intro B; rfl
      | cons a A ih => intro B; rw [List.cons_append, markNs, ih, markNs, markNn, List.cons_append]
    have e3 : markNs k L = markNs k (L.take i) ++ (markNk (markNn k (L.take i)) (ndAt L i) :: markNs (markNn k (L.take i) + 2 + (ndAt L i).nd.nx.length) (L.drop (i + 1))) := by
      rw [← markNs, ← e2, ← e]
    have hl : (markNs k (L.take i)).length = i := by rw [markNs_len, List.length_take]; omega
    rw [e3]
    generalize markNk (markNn k (L.take i)) (ndAt L i) = p
    unfold ndAt
    rw [List.getD_eq_getElem?_getD, List.getElem?_append_right (by omega), hl]
    simp
theorem take_snoc' (L : List NdP) (i : Nat) (h : i < L.length) : L.take (i + 1) = L.take i ++ [ndAt L i] := by
  rw [List.take_succ_eq_append_getElem h, ndAt_eq L i h]
set_option maxHeartbeats 1600000 in
theorem heldNodeS_any (a : Option Addr) (c : Nat) (L : List NdP) (k : Nat) (w : World) (h : DgRd w a (markNs k L)) (hl : L.length ≤ 1048576) (hs : NdSh L) (hk1 : 1 ≤ k) (hk2 : markNn k L ≤ 4000000) :
    Calls Tryd.prog 28 #[.slice a L.length c, .int .i64 k] w (Ret (.int .i64 ((markNn k L : Nat) : Int)) w) := by
  have HR := hid h
  have HS : Hid (∀ i, i < L.length → (ndAt L i).nd.nx.length ≤ 1048576) := hid (fun i hi => hs _ (ndAt_mem L i hi))
  have HK : Hid (∀ i, i < L.length → markNn k (L.take i) + 2 + (ndAt L i).nd.nx.length ≤ 4000000 ∧ k ≤ markNn k (L.take i)) := hid (fun i hi => by
    have h1 := markNn_mono k (L.take (i + 1)) (L.drop (i + 1))
    rw [List.take_append_drop, take_snoc' L i hi, markNn_snoc] at h1
    have h2 := markNn_le k (L.take i)
    omega)
  have HT : Hid (∀ i, i < L.length → markNn k (L.take (i + 1)) = markNn k (L.take i) + 2 + (ndAt L i).nd.nx.length) := hid (fun i hi => by rw [take_snoc' L i hi, markNn_snoc])
  have HA := hid (markNs_at k L)
  have HLn := hid (markNs_len k L)
  clear h hs hk2
  go_enter Tryd.func28, Tryd.ntmps28
  go_wp2_with fail
  go_loopw [1, 5] (fun t i wr => ∃ (j m : Nat), j ≤ L.length ∧ i = .int .i64 (j : Int) ∧ t = .int .i64 (m : Int) ∧ Hid (m = markNn k (L.take j)) ∧ Ext w wr) (fun _ i _ => L.length - (intOf i).toNat)
  case atStart => exact ⟨0, k, by omega, rfl, rfl, hid rfl, Ext.refl _⟩
  case round =>
    obtain ⟨j, m, hj, rfl, rfl, HM, hx⟩ := hrel
    by_cases hlt : j < L.length
    · obtain ⟨b, o, rfl, hc⟩ := (HR.out.ext hx).1.nds (by rw [HLn.out]; omega)
      obtain ⟨c0, c1, c2⟩ := hc j (by rw [HLn.out]; exact hlt)
      have HNX := hid ((HR.out.ext hx).2 _ (ndAt_mem (markNs k L) j (by rw [HLn.out]; exact hlt)))
      have hnl := HS.out j hlt
      obtain ⟨hk3, hk4⟩ := HK.out j hlt
      have hT := HT.out j hlt
      rw [HA.out j hlt] at c0 c1 c2 HNX
      rw [← HM.out] at c0 c1 c2 hk3 hk4 hT HNX
      obtain ⟨p, hp⟩ : ∃ p, ndAt L j = p := ⟨_, rfl⟩
      rw [hp] at c0 c1 c2 hnl hk3 hT HNX
      simp only [markNk, marksI_length] at c0 c1 c2 HNX
      obtain ⟨q, hq⟩ : ∃ q, o + j * 3 = q := ⟨_, rfl⟩
      rw [hq] at c0 c1 c2
      have q1 : ((m : Int) % 3 == 0) = (m % 3 == 0) := by
        by_cases e : m % 3 = 0
        · have e2 : (m : Int) % 3 = 0 := by omega
          rw [e, e2]; rfl
        · have e2 : ¬ (m : Int) % 3 = 0 := by omega
          rw [beq_eq_false_iff_ne.2 e]
          exact beq_eq_false_iff_ne.2 e2
      have HTj := hid hT
      clear hc hp hT
      go_wp2_with fail
      refine wp_region_flow_at (C := Ext) 7 [fun v _ => v = .slice (some ⟨b, o, none⟩) L.length c, fun v _ => v = .int .i64 (j : Int), fun v _ => v = .pointer (some ⟨b, q, none⟩), fun v _ => v = .pointer (some ⟨b, q + 1, none⟩), fun v _ => v = .string (markTx (m + 1)), fun v _ => v = .int .i64 ((m : Int) + 1), fun v _ => v = .string (markTx (m + 1))]
        [[(0, none)], [(5, none)], [(23, some 0), (24, some 1)], [(25, some 2)], [(26, some 3)], [(1, none)], [(28, some 5)]] (by kernel_rfl) (by kernel_rfl) Ext.refl (fun _ _ _ => Ext.trans) ?_ ?_ ?_
      · intro F hF
        simp only [List.mem_cons, List.not_mem_nil, or_false] at hF
        rcases hF with rfl | rfl | rfl | rfl | rfl | rfl | rfl <;> exact fun _ _ _ h _ => h
      · refine ⟨?_, ?_, ?_, ?_, ?_, ?_, ?_, trivial⟩
        · rintro ρ w1 hw hcst hfn hk
          clear hw
          simp only [known, List.getD_cons_zero, List.getD_cons_succ, Nat.reduceAdd] at hk
          simp only [List.getD_cons_zero, List.getD_cons_succ, Nat.reduceAdd, flowAt]
          go_simp
          exact ⟨Ext.refl _, by first | rfl | trivial⟩
        · rintro ρ w1 hw hcst hfn hk
          clear hw
          simp only [known, List.getD_cons_zero, List.getD_cons_succ, Nat.reduceAdd] at hk
          simp only [List.getD_cons_zero, List.getD_cons_succ, Nat.reduceAdd, flowAt]
          go_simp
          exact ⟨Ext.refl _, by first | rfl | trivial⟩
        · rintro ρ w1 hw hcst hfn hk
          simp only [known, List.getD_cons_zero, List.getD_cons_succ, Nat.reduceAdd] at hk
          simp only [List.getD_cons_zero, List.getD_cons_succ, Nat.reduceAdd, flowAt]
          go_simp
          exact ⟨Ext.refl _, by first | rfl | rw [hq]⟩
        · rintro ρ w1 hw hcst hfn hk
          clear hw
          simp only [known, List.getD_cons_zero, List.getD_cons_succ, Nat.reduceAdd] at hk
          simp only [List.getD_cons_zero, List.getD_cons_succ, Nat.reduceAdd, flowAt]
          go_simp
          exact ⟨Ext.refl _, by first | rfl | trivial⟩
        · rintro ρ w1 hw hcst hfn hk
          have c0 := hw.cell (b := b) (o := q + 1) (v := .string (markTx (m + 1))) (by first | (simp [*]; done) | (simp [*, go_sem]; done) | go_cell)
          clear hw
          simp only [known, List.getD_cons_zero, List.getD_cons_succ, Nat.reduceAdd] at hk
          simp only [List.getD_cons_zero, List.getD_cons_succ, Nat.reduceAdd, flowAt]
          go_simp
          exact ⟨Ext.refl _, by first | rfl | trivial⟩
        · rintro ρ w1 hw hcst hfn hk
          clear hw
          simp only [known, List.getD_cons_zero, List.getD_cons_succ, Nat.reduceAdd] at hk
          simp only [List.getD_cons_zero, List.getD_cons_succ, Nat.reduceAdd, flowAt]
          go_simp
          exact ⟨Ext.refl _, by first | rfl | trivial⟩
        · rintro ρ w1 hw hcst hfn hk
          simp only [known, List.getD_cons_zero, List.getD_cons_succ, Nat.reduceAdd] at hk
          simp only [List.getD_cons_zero, List.getD_cons_succ, Nat.reduceAdd, flowAt]
          go_simp
          exact flow_ret (markText_any (m + 1) _ (by omega) (by omega))
      intro vs w1 hw hf
      simp only [flowFacts, Nat.reduceAdd] at hf
      obtain ⟨e0, e1, e2, e3, e4, e5, e6, -⟩ := hf
      simp only [List.take_succ_cons, List.take_zero, List.drop_succ_cons, List.drop_zero, putAll, Act.put, Nat.reduceAdd, List.setIfInBounds_toArray, List.set_cons_zero, List.set_cons_succ, e0, e1, e2, e3, e4, e5, e6]
      clear e0 e1 e2 e3 e4 e5 e6
      have hx1 := (Ext.refl _).drew.trans hw
      have hx2 := hx.trans hx1
      have HNX2 := hid (HNX.out.ext hx1)
      replace c2 := hx1.cell c2
      clear hw hx1 HNX
      go_wp2_with fail
      rw [show ((m : Int) + 1 + 1) = ((m + 2 : Nat) : Int) from rfl]
      refine (heldInt64S_any p.a p.c p.nd.nx.length (m + 2) _ HNX2.out hnl (by omega) (by omega)).mono ?_
      rintro e w3 ⟨rfl, rfl⟩
      clear c0 c1 c2
      go_wp2_with fail
      go_roundw
      case rel => exact ⟨j + 1, m + 2 + p.nd.nx.length, by omega, by go_num, by go_num, hid HTj.out.symm, hx2⟩
      case measure => simp [intOf]; omega
    · obtain rfl : j = L.length := by omega
      have hm := HM.out
      rw [List.take_length] at hm
      go_wp2_with fail
      go_returns
      exact ⟨by rw [hm]; rfl, hx⟩
set_option maxHeartbeats 1000000 in
theorem heldDawg_any (a : Option Addr) (c : Nat) (L : List NdP) (k : Nat) (w : World) (h : DgRd w a (markNs k L)) (hl : L.length ≤ 1048576) (hs : NdSh L) (hk1 : 1 ≤ k) (hk2 : markNn k L ≤ 4000000) :
    Calls Tryd.prog 13 #[dawgV a L.length c, .int .i64 k] w (Ret (.int .i64 ((markNn k L : Nat) : Int)) w) := by
  have hx0 := (Ext.refl w).alloc (.cells #[.slice a L.length c] 28)
  have HH := hid (heldNodeS_any a c L k _ (h.ext hx0) hl hs hk1 hk2)
  have HX := hid hx0
  clear h hs hx0
  obtain ⟨m, hm⟩ : ∃ m, markNn k L = m := ⟨_, rfl⟩
  rw [hm] at HH ⊢
  clear hm hk2
  go_enter Tryd.func13, Tryd.ntmps13
  go_wp2_with fail
  refine HH.out.mono ?_
  rintro e w1 ⟨rfl, h1⟩
  have H1 := hid (HX.out.trans h1)
  clear h1
  go_wp2_with fail
  go_returns
  exact ⟨rfl, H1.out⟩
end Go.Proofs.YtlnccdbmchjhlaaDoor
