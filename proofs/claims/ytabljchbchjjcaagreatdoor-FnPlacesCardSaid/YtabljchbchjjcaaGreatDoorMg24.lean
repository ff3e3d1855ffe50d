/- Several texts in one: DrawV, F6, DrawA. Conditions: see each. -/
import Derived.Test.YtabljchbchjjcaaGreatDoorMg20
import Derived.Test.YtabljchbchjjcaaGreatDoorMg23
import Derived.Test.YtabljchbchjjcaaGreatDoorCh05a
import Derived.Test.YtabljchbchjjcaaGreatDoorMg1
section
namespace Go.Proofs.YtabljchbchjjcaaGreatDoor
set_option linter.unusedVariables false
set_option linter.unusedSimpArgs false
open Go Go.RowKit
/-- A list in rising order of words that are drawn. -/
def DrV (most : Int) (B : Nat) (v : Value) (w : World) : Prop := ∃ (a : Option Addr) (c : Nat) (L : List ByteArray), v = .agg #[.slice a L.length c] ∧ Own w B 9 1 a L.length c (strsV L) ∧ (L.length : Int) ≤ most ∧ Rise L ∧ ∀ s ∈ L, s ∈ someL
theorem some_long : someL.all longOk = true := by decide +kernel
theorem drawn_ok {L : List ByteArray} (h1 : L.length ≤ 200) (h2 : Rise L) (h3 : ∀ s ∈ L, s ∈ someL) : lexOk L = true := by
  have h4 : L.all longOk = true := List.all_eq_true.2 fun s hs => List.all_eq_true.1 some_long s (h3 s hs)
  unfold lexOk
  simp [h1, h2.inc, h4]
set_option maxRecDepth 100000 in
set_option maxHeartbeats 2000000 in
theorem l05Draw_ok (g k : Nat) (most : Int) (w : World) (h : Src w g k) (hk : k ≤ 1099511610000) (m0 : 0 ≤ most) (m1 : most ≤ 100) :
    Calls Tryz.prog 15 #[.pointer (some ⟨g, 0, none⟩), .int .i64 most] w (Drew g k 210 (fun v w' => DrV most w.heap.size v w') w) := by
  have HG := hid h.lt
  have HS := hid h
  clear h
  go_enter Tryz.func15, Tryz.ntmps15
  go_wp2_with fail
  have L0 : Hid (Lk (w.alloc (.cells #[.slice none 0 0] 26)) w.heap.size (.slice none 0 0)) := hid (Lk.new w _)
  refine (l05Some_any _).mono ?_
  rintro e w1 ⟨a, c, rfl, ho, hx⟩
  obtain ⟨b, ha, hb1, _⟩ := ho.form (by rw [some_len]; omega)
  subst ha
  simp only [World.size_alloc] at hb1
  have HR := hid ho.rd
  have L1 := hid (L0.out.ext hx)
  have HX1 := hid (((Ext.refl w).alloc (.cells #[.slice none 0 0] 26)).trans hx)
  have hsz := HX1.out.size
  clear ho hx L0
  go_wp2_with fail
  have HX2 := hid (HX1.out.alloc (.cells #[] 9))
  have HS2 := hid (HS.out.ext HX2.out)
  have L2 := hid (L1.out.ext ((Ext.refl w1).alloc (.cells #[] 9)))
  have HR2 := hid (HR.out.ext ((Ext.refl w1).alloc (.cells #[] 9)))
  refine (pick_any g k _ _ HS2.out (by omega)).mono ?_
  rintro e w2 ⟨v, rfl, ⟨x, hx0, hx1, rfl⟩, hE2, hS2⟩
  have hbg : b ≠ g := by have := HG.out; omega
  have HX3 := hid ((Exc.of_ext g HX2.out).trans hE2)
  have HS3 := hid hS2
  have L3 := hid (L2.out.exc hE2 (by have := HG.out; omega))
  have HR3 := hid (hE2.rd HR2.out hbg)
  clear hE2 hS2 HR HR2 L1 L2 HS HS2 HX1 HX2
  go_wp2_with fail
  go_loopw [6, 7] (fun v i wr => ∃ (y : Int) (n c' : Nat) (a' : Option Addr) (L : List ByteArray), 0 ≤ y ∧ y ≤ x ∧ i = .int .i64 y ∧ v = .slice a' n c' ∧ (n : Int) ≤ x - y ∧ Hid (n = L.length) ∧ Hid (Rise L ∧ ∀ s ∈ L, s ∈ someL) ∧ Hid (Own wr (w.heap.size + 1) 9 1 a' L.length c' (strsV L)) ∧ Hid (Exc g w wr ∧ Src wr g (k + 2 + 2 * (x - y).toNat) ∧ Lk wr w.heap.size (.slice none 0 0) ∧ Rd wr (some ⟨b, 0, none⟩) (strsV someL))) (fun _ i _ => (intOf i).toNat)
  case atStart => exact ⟨x, 0, 0, some ⟨w1.heap.size, 0, none⟩, [], by omega, by omega, rfl, rfl, by omega, hid rfl, hid ⟨List.Pairwise.nil, by simp⟩, hid (Own.empty _ _ _ _ _), hid ⟨HX3.out, HS3.out.up (by omega), L3.out, HR3.out⟩⟩
  case round =>
    clear HX3 HS3 L3 HR3
    obtain ⟨y, n, c', a', L, hy0, hy1, rfl, rfl, hn, HN, HL, HO, HW⟩ := hrel
    have x100 : x ≤ 100 := by omega
    have hnl : (n : Int) ≤ 100 := by omega
    by_cases hlt : 0 < y
    · have hq : (k + 2 + 2 * (x - y).toNat) ≤ 1099511620000 := by omega
      obtain ⟨hX, hS, hLk, hRd⟩ := HW.out
      have HX := hid hX
      have HSS := hid hS
      have HLk := hid hLk
      have HRd := hid hRd
      clear hX hS hLk hRd HW
      go_wp2_with fail
      refine (pick_any g _ _ _ HSS.out (by omega)).mono ?_
      rintro e w3 ⟨v, rfl, ⟨z, hz0, hz1, rfl⟩, hE3, hS3⟩
      obtain ⟨j, rfl⟩ : ∃ j : Nat, z = (j : Int) := ⟨z.toNat, by omega⟩
      rw [some_len] at hz1
      have hj : j < 60 := by omega
      obtain ⟨s, hs⟩ : ∃ s, someL[j]? = some s := ⟨someL[j]'(by rw [some_len]; omega), List.getElem?_eq_getElem _⟩
      have HSz := hid (List.mem_of_getElem? hs)
      have c0 : w3.cell? ⟨b, j, none⟩ = some (.string s) := by
        obtain ⟨b', o', ha, hcc⟩ := hE3.rd HRd.out hbg j (.string s) (by simp [strsV, hs])
        cases ha
        simpa using hcc
      have HRd3 := hid (hE3.rd HRd.out hbg)
      have HX3 := hid (HX.out.trans hE3)
      have HS3 := hid hS3
      have HLk3 := hid (HLk.out.exc hE3 (by have := HG.out; omega))
      have HO3 := hid (HO.out.exc hE3 (by have := HG.out; omega))
      have hz3 := hE3.size
      have hz4 := HX.out.size
      have hjl : (j : Int) < someL.length := by rw [some_len]; omega
      have HIn := hid (l03Insert_any a' c' L s w3 HO3.out.rd (by have := HN.out; omega) HO3.out.le)
      rw [← HN.out] at HIn
      clear hs hE3 hS3 HX HSS HLk HRd HO
      go_wp2_with fail
      refine HIn.out.mono ?_
      rintro e w4 hIR
      obtain ⟨a2, c2, rfl, ho, hx⟩ := hIR.own HO3.out (by have := HLk3.out.lt; omega)
      have HO4 := hid ho
      have hle2 : (insL L s).length ≤ n + 1 := by have := insL_length_le L s; have := HN.out; omega
      have HM : Hid (Rise (insL L s) ∧ ∀ u ∈ insL L s, u ∈ someL) := hid ⟨HL.out.1.ins s, fun u hu => by
        rcases insL_mem hu with h | rfl
        · exact HL.out.2 u h
        · exact HSz.out⟩
      have HW4 : Hid (Exc g w w4 ∧ Src w4 g (k + 2 + 2 * (x - y).toNat + 2) ∧ Lk w4 w.heap.size (.slice none 0 0) ∧ Rd w4 (some ⟨b, 0, none⟩) (strsV someL)) :=
        hid ⟨HX3.out.ext hx, HS3.out.ext hx, HLk3.out.ext hx, HRd3.out.ext hx⟩
      obtain ⟨n2, hn2⟩ : ∃ n2, (insL L s).length = n2 := ⟨_, rfl⟩
      rw [hn2] at hle2 ⊢
      have HN2 := hid hn2
      clear ho hIR hn2 hx HX3 HS3 HLk3 HRd3 HO3
      go_wp2_with fail
      go_roundw
      case rel => exact ⟨y - 1, n2, c2, a2, insL L s, by omega, by omega, by go_num, rfl, by omega, hid HN2.out.symm, HM, HO4, hid ⟨HW4.out.1, HW4.out.2.1.up (by omega), HW4.out.2.2.1, HW4.out.2.2.2⟩⟩
      case measure => simp [intOf]; omega
    · obtain rfl : y = 0 := by omega
      obtain ⟨hX, hS, hLk, hRd⟩ := HW.out
      have r0 := hLk.1
      have rf := hLk.2 0
      have HLk := hid hLk
      have HXX := hid hX
      have HSS := hid hS
      have q0 := (HLk.out.set (.slice a' n c')).1
      have qf := (HLk.out.set (.slice a' n c')).2 0
      clear hX hS hLk hRd HW
      go_wp2_with fail
      refine bodyPost_ret (v := .agg #[.slice a' n c']) (by simp [results, Tryz.results15, go_sem, q0, qf]) rfl ⟨_, rfl, ⟨a', c', L, by rw [HN.out], ?_, by have := HN.out; omega, HL.out.1, HL.out.2⟩, HXX.out.set (Nat.le_refl _) 0 _, (HSS.out.exc ((Exc.refl w.heap.size wr).setCell 0 _) HG.out).up (by omega)⟩
      exact (HO.out.exc ((Exc.refl w.heap.size wr).setCell 0 _) (by omega)).mono (by omega)
end Go.Proofs.YtabljchbchjjcaaGreatDoor
end
section
namespace Go.Proofs.YtabljchbchjjcaaGreatDoor
set_option linter.unusedVariables false
set_option linter.unusedSimpArgs false
open Go Go.RowKit
/-- Whether a word is in a list. -/
def inL (l : List ByteArray) (s : ByteArray) : Bool := l.any fun x => x.toList == s.toList
theorem inL_iff {l : List ByteArray} {s : ByteArray} : inL l s = true ↔ s ∈ l := by
  unfold inL
  rw [List.any_eq_true]
  constructor
  · rintro ⟨x, hx, h⟩
    have : x = s := by
      rw [beq_iff_eq, ByteArray.toList_eq, ByteArray.toList_eq] at h
      exact ByteArray.ext (Array.toList_inj.1 h)
    rw [← this]
    exact hx
  · exact fun h => ⟨s, h, by simp⟩
theorem inL_yes {l : List ByteArray} {s : ByteArray} (k : Nat) (h : k < l.length) (he : ((wAt l k).toList == s.toList) = true) : inL l s = true := by
  unfold inL
  rw [List.any_eq_true]
  exact ⟨_, wAt_mem l k h, he⟩
theorem inL_no {l : List ByteArray} {s : ByteArray} (h : ∀ k, k < l.length → ((wAt l k).toList == s.toList) = false) : inL l s = false := by
  unfold inL
  rw [List.any_eq_false]
  intro x hx
  obtain ⟨i, hi, rfl⟩ := List.getElem_of_mem hx
  rw [wAt_eq l i hi, h i hi]
  decide
end Go.Proofs.YtabljchbchjjcaaGreatDoor
end
section
namespace Go.Proofs.YtabljchbchjjcaaGreatDoor
set_option linter.unusedVariables false
set_option linter.unusedSimpArgs false
open Go Go.RowKit
/-- A lexicon that is drawn. -/
def DrLx (most : Int) (w : World) (e : Ending) (w' : World) : Prop := ∃ (a : Option Addr) (c : Nat) (L : List ByteArray), e = .returned (.agg #[.slice a L.length c]) ∧ Rd w' a (strsV L) ∧ (L.length : Int) ≤ most ∧ Rise L ∧ (∀ s ∈ L, s ∈ someL) ∧ Ext w w'
theorem Ext.exc {g : Nat} {w0 w w' : World} (h0 : Ext w0 w) (h : Exc g w w') (hg : w0.heap.size ≤ g) : Ext w0 w' := h0.thenBelow (h.below hg h0.size) (Nat.le_refl _)
set_option maxHeartbeats 1000000 in
theorem A2Both_any (a : Option Addr) (c : Nat) (l : List UInt8) (w : World) (hr : Rd w a (bytesV l)) (hl : l.length ≤ 1048576) :
    Calls Tryz.prog 5 #[.slice a l.length c] w (DrLx 6 w) := by
  have hx0 := (Ext.refl w).alloc (.cells #[.slice none 0 0] 26)
  have HR := hid (hr.ext hx0)
  have L0 : Hid (Lk (w.alloc (.cells #[.slice none 0 0] 26)) w.heap.size (.slice none 0 0)) := hid (Lk.new w _)
  clear hr
  go_enter Tryz.func5, Tryz.ntmps5
  go_wp2_with fail
  refine (l00From_any a c l _ HR.out hl).mono ?_
  rintro e w1 ⟨rfl, hx1, hs1⟩
  have L1 := hid (L0.out.ext hx1)
  have HX1 := hid (hx0.trans hx1)
  obtain ⟨g, hg⟩ : ∃ g, (w.alloc (.cells #[.slice none 0 0] 26)).heap.size = g := ⟨_, rfl⟩
  have hgw : g = w.heap.size + 1 := by rw [← hg]; simp
  rw [hg] at hs1
  rw [hg]
  have HS1 := hid hs1
  have hgR : w.heap.size < g := by omega
  clear hs1 hx0 hx1 hg hgw L0
  go_wp2_with fail
  refine (l05Draw_ok g 0 6 _ HS1.out (by omega) (by omega) (by omega)).mono ?_
  rintro e w2 ⟨v, rfl, ⟨a', c', L, rfl, ho, hn, hri, hso⟩, hE1, hS1⟩
  have HO := hid ho
  have HRI := hid hri
  have HSO := hid hso
  have HX2 := hid (HX1.out.exc hE1 (by omega))
  have L2 := hid (L1.out.exc hE1 (by omega))
  have r0 := L2.out.1
  have rf := L2.out.2 0
  have q0 := (L2.out.set (.slice a' L.length c')).1
  have qf := (L2.out.set (.slice a' L.length c')).2 0
  have hz1 := HX1.out.size
  have hw1 : w.heap.size < w1.heap.size := by have := HS1.out.lt; omega
  clear ho hri hso hE1 hS1 L1 HX1 HS1
  go_wp2_with fail
  refine bodyPost_ret (v := .agg #[.slice a' L.length c']) (by simp [results, Tryz.results5, go_sem, q0, qf]) rfl ⟨a', c', L, rfl, ?_, hn, HRI.out, HSO.out, HX2.out.setCell (Nat.le_refl _) _⟩
  exact (HO.out.exc ((Exc.refl w.heap.size w2).setCell 0 _) (by omega)).rd
theorem A2Word_any (a : Option Addr) (c : Nat) (l : List UInt8) (w : World) (hr : Rd w a (bytesV l)) (hl : l.length ≤ 1048576) :
    Calls Tryz.prog 7 #[.slice a l.length c] w fun e w' => ∃ y ∈ someL, e = .returned (.string y) ∧ Ext w w' := by
  have HR := hid hr
  clear hr
  go_enter Tryz.func7, Tryz.ntmps7
  go_wp2_with fail
  refine (l00From_any a c l _ HR.out hl).mono ?_
  rintro e w1 ⟨rfl, hx1, hs1⟩
  have HX1 := hid hx1
  have HS1 := hid hs1
  clear hx1 hs1
  go_wp2_with fail
  refine (l05Some_any _).mono ?_
  rintro e w2 ⟨a', c', rfl, ho, hx⟩
  have HX2 := hid (HX1.out.trans hx)
  have HS2 := hid (HS1.out.ext hx)
  have HRd := hid ho.rd
  have HNE : Hid (∀ x, a' = some x → x.block ≠ w.heap.size) := hid (fun x e => by
    obtain ⟨g, h1, h2, -⟩ := ho.form (by rw [some_len]; omega)
    rw [h1] at e
    cases e
    have := HS1.out.lt
    show g ≠ w.heap.size
    omega)
  clear hx ho
  go_wp2_with fail
  refine (text_any w.heap.size 0 a' c' someL _ HS2.out (by omega) HRd.out (by rw [some_len]; omega) (by rw [some_len]; omega) HNE.out).mono ?_
  rintro e w3 ⟨v, rfl, ⟨y, hy, rfl⟩, hE, hS⟩
  have HX3 := hid (HX2.out.exc hE (Nat.le_refl _))
  have HY := hid hy
  clear hE hS hy
  go_wp2_with fail
  go_returns
  exact ⟨y, HY.out, rfl, HX3.out⟩
theorem a2Long_any (a b : Option Addr) (c d : Nat) (l m : List UInt8) (w : World) (hl : l.length ≤ maxLen) (hm : m.length ≤ maxLen) : Calls Tryz.prog 4 #[.slice a l.length c, .slice b m.length d] w (Same (.bool (decide (3000 < l.length) || decide (3000 < m.length))) w) := by
  obtain ⟨x, hx⟩ : ∃ x, l.length = x := ⟨_, rfl⟩
  obtain ⟨y, hy⟩ : ∃ y, m.length = y := ⟨_, rfl⟩
  rw [hx] at hl ⊢
  rw [hy] at hm ⊢
  unfold maxLen at hl hm
  clear hx hy
  by_cases h : 3000 < x
  · have h2 : (3000 : Int) < (x : Int) := by omega
    go_enter Tryz.func4, Tryz.ntmps4
    go_wp2_with fail
    go_returns
    exact ⟨ret_bool (by simp [h]), rfl⟩
  · have h2 : ¬ (3000 : Int) < (x : Int) := by omega
    by_cases h3 : 3000 < y
    · have h4 : (3000 : Int) < (y : Int) := by omega
      go_enter Tryz.func4, Tryz.ntmps4
      go_wp2_with fail
      go_returns
      exact ⟨ret_bool (by simp [h, h3]), rfl⟩
    · have h4 : ¬ (3000 : Int) < (y : Int) := by omega
      go_enter Tryz.func4, Tryz.ntmps4
      go_wp2_with fail
      go_returns
      exact ⟨ret_bool (by simp [h, h3]), rfl⟩
end Go.Proofs.YtabljchbchjjcaaGreatDoor
end
