/- Several texts in one: DrawW, TxtN, DrawL. Conditions: see each. -/
import Derived.Test.YtabljchbchjjcaaGreatDoorMg16
import Derived.Test.YtabljchbchjjcaaGreatDoorSrc
import Derived.Test.YtabljchbchjjcaaGreatDoorMg1
section
namespace Go.Proofs.YtabljchbchjjcaaGreatDoor
set_option linter.unusedVariables false
set_option linter.unusedSimpArgs false
open Go Go.RowKit
def someL : List ByteArray := [⟨#[97, 110]⟩, ⟨#[97, 116]⟩, ⟨#[97, 116, 101]⟩, ⟨#[101, 97, 114]⟩, ⟨#[101, 97, 114, 110]⟩, ⟨#[101, 97, 114, 115]⟩, ⟨#[101, 97, 115, 116]⟩, ⟨#[101, 97, 116]⟩, ⟨#[101, 97, 116, 101, 110]⟩, ⟨#[101, 97, 116, 115]⟩, ⟨#[101, 110]⟩, ⟨#[97, 110, 116]⟩, ⟨#[97, 110, 116, 115]⟩, ⟨#[97, 114, 101]⟩, ⟨#[97, 114, 101, 110, 97]⟩, ⟨#[97, 114, 116]⟩, ⟨#[97, 114, 116, 115]⟩, ⟨#[97, 115]⟩, ⟨#[101, 114]⟩, ⟨#[101, 115]⟩, ⟨#[105, 110]⟩, ⟨#[105, 115]⟩, ⟨#[110, 97]⟩, ⟨#[110, 101]⟩, ⟨#[110, 101, 97, 114]⟩, ⟨#[110, 101, 97, 116]⟩, ⟨#[110, 101, 115, 116]⟩, ⟨#[110, 101, 115, 116, 115]⟩, ⟨#[110, 101, 116]⟩, ⟨#[114, 97, 116]⟩, ⟨#[114, 97, 116, 101]⟩, ⟨#[114, 97, 116, 101, 115]⟩, ⟨#[114, 101]⟩, ⟨#[114, 101, 115, 116]⟩, ⟨#[115, 97, 116]⟩, ⟨#[115, 101, 97]⟩, ⟨#[115, 101, 97, 116]⟩, ⟨#[115, 101, 116]⟩, ⟨#[116, 97]⟩, ⟨#[116, 97, 114]⟩, ⟨#[116, 97, 114, 115]⟩, ⟨#[116, 97, 114, 116]⟩, ⟨#[116, 101, 97]⟩, ⟨#[116, 101, 97, 114]⟩, ⟨#[116, 101, 97, 115]⟩, ⟨#[116, 101, 110]⟩, ⟨#[116, 101, 114, 110]⟩, ⟨#[116, 101, 115, 116]⟩, ⟨#[116, 101, 115, 116, 115]⟩, ⟨#[116, 114, 101, 101, 115]⟩, ⟨#[98, 97, 110, 97, 110, 97]⟩, ⟨#[98, 101, 101]⟩, ⟨#[98, 101, 101, 110]⟩, ⟨#[98, 101, 101, 115]⟩, ⟨#[115, 116, 97, 114]⟩, ⟨#[115, 116, 97, 114, 101]⟩, ⟨#[115, 116, 97, 114, 116]⟩, ⟨#[116, 114, 101, 101]⟩, ⟨#[115, 116, 97, 114, 115]⟩, ⟨#[116, 114, 101, 97, 116, 115]⟩]
theorem own_new (w : World) (e : TypeId) (xs : List Value) (n : Nat) (h : n = xs.length) (hm : n ≤ maxLen) : Own (w.alloc (.cells xs.toArray e)) w.heap.size e 1 (some ⟨w.heap.size, 0, none⟩) n n xs := by
  subst h
  exact .inr ⟨by simp, .inr ⟨w.heap.size, xs.length, xs.toArray, rfl, Nat.le_refl _, heap_alloc_new w _, Nat.le_refl _, hm, by simp, by simp⟩⟩
set_option maxRecDepth 100000 in
theorem l05Some_any (w : World) : Calls Tryz.prog 21 #[] w (RetO someL w) := by
  go_enter Tryz.func21, Tryz.ntmps21
  go_wp2_with fail
  go_returns
  exact ⟨_, _, rfl, own_new w 9 (strsV someL) 60 (by rfl) (by unfold maxLen; omega), (Ext.refl w).alloc _⟩
end Go.Proofs.YtabljchbchjjcaaGreatDoor
end
section
namespace Go.Proofs.YtabljchbchjjcaaGreatDoor
set_option linter.unusedVariables false
set_option linter.unusedSimpArgs false
open Go Go.RowKit
theorem short_mem {l : List ByteArray} {m : Nat} (h : l.all (fun s => decide (s.size ≤ m)) = true) {y : ByteArray} (hy : y ∈ l) : y.size ≤ m := by
  have := List.all_eq_true.1 h y hy
  simpa using this
/-- Strings to choose from. -/
theorem rd_new {w : World} {b : Nat} (hb : w.heap.size = b) (xs : List Value) (t : TypeId) : Rd (w.alloc (.cells xs.toArray t)) (some ⟨b, 0, none⟩) xs := fun j u hj => by
  subst hb
  refine ⟨w.heap.size, 0, rfl, ?_⟩
  rw [cell_of_row _ _ _ _ _ _ (heap_alloc_new w _)]
  simpa using hj
/-- A choice from texts that are laid for it. -/
theorem text_new (g K n : Nat) (xs : List ByteArray) (w : World) (hs : Src w g K) (hk : K ≤ 1099511627000) (hn : n = xs.length) (h0 : 0 < n) (h1 : n ≤ 100) (hall : xs.all (fun s => decide (s.size ≤ 100)) = true) :
    Calls Tryz.prog 20 #[.pointer (some ⟨g, 0, none⟩), .slice (some ⟨w.heap.size, 0, none⟩) n n] (w.alloc (.cells (xs.map Value.string).toArray 9)) (Drew g K 2 (fun v _ => ∃ y : ByteArray, y.size ≤ 100 ∧ v = .string y) (w.alloc (.cells (xs.map Value.string).toArray 9))) := by
  subst hn
  refine (text_any g K _ _ xs _ (hs.ext ((Ext.refl _).alloc _)) hk (rd_new rfl _ _) h0 (by omega) (fun y e => by cases e; exact Nat.ne_of_gt hs.lt)).mono ?_
  rintro e w' ⟨v, he, ⟨y, hy, e2⟩, hx, hS⟩
  exact ⟨v, he, ⟨y, by have := List.all_eq_true.1 hall y hy; simpa using this, e2⟩, hx, hS⟩
end Go.Proofs.YtabljchbchjjcaaGreatDoor
end
section
namespace Go.Proofs.YtabljchbchjjcaaGreatDoor
set_option linter.unusedVariables false
set_option linter.unusedSimpArgs false
open Go Go.RowKit
theorem Own.exc {w w' : World} {B : Nat} {e : TypeId} {size : Nat} {a : Option Addr} {n c : Nat} {xs : List Value} (h : Own w B e size a n c xs) {g : Nat} (k : Exc g w w') (hg : g < B) : Own w' B e size a n c xs := by
  rcases h with h | ⟨h1, h2⟩
  · exact .inl h
  · refine .inr ⟨h1, ?_⟩
    rcases h2 with h2 | ⟨b, cap, cur, hv, hb, hh, r⟩
    · exact .inl h2
    · exact .inr ⟨b, cap, cur, hv, hb, by rw [k.block b (Array.getElem?_eq_some_iff.1 hh).1 (by omega)]; exact hh, r⟩
theorem Src.below {w w' : World} {g k B : Nat} (h : Src w g k) (e : Below B w w') (hg : g < B) : Src w' g k := by
  obtain ⟨a, n, c, l, t, z, h0, h1, h2, h3, h4, h5, h6, h7, h8⟩ := h
  refine ⟨a, n, c, l, t, z, by rw [Below.cell e (p := ⟨g, 0, none⟩) hg]; exact h0, h1, h2, ?_, h4, by rw [Below.cell e (p := ⟨g, 1, none⟩) hg]; exact h5, h6, by rw [Below.cell e (p := ⟨g, 2, none⟩) hg]; exact h7, fun j => by rw [Below.frozen e (p := ⟨g, j, none⟩) hg]; exact h8 j⟩
  intro j u hj
  obtain ⟨b', o, ha, hcc⟩ := h3 j u hj
  have hn0 : 0 < n := by
    have := (List.getElem?_eq_some_iff.1 hj).1
    rw [bytesV_length] at this
    omega
  have := h4 hn0 _ ha
  simp only [] at this
  exact ⟨b', o, ha, by rw [Below.cell e (p := ⟨b', o + j, none⟩) (by show b' < B; omega)]; exact hcc⟩
theorem some_short : someL.all (fun s => decide (s.size ≤ 100)) = true := by decide +kernel
theorem some_size {y : ByteArray} (h : y ∈ someL) : y.size ≤ 100 := short_mem some_short h
theorem some_len : someL.length = 60 := rfl
/-- A short text. -/
def DrS (v : Value) : Prop := ∃ y : ByteArray, y.size ≤ 100 ∧ v = .string y
/-- A drawn lexicon: a list of few short words, from block B on. -/
def DrL (N B : Nat) (v : Value) (w : World) : Prop := ∃ (a : Option Addr) (c : Nat) (L : List ByteArray), v = .agg #[.slice a L.length c] ∧ Own w B 9 1 a L.length c (strsV L) ∧ L.length ≤ N ∧ ∀ s ∈ L, s.size ≤ 100
/-- The block of a lexicon that may be written. -/
structure Lk (w : World) (b : Nat) (v : Value) : Prop where
  cell : w.cell? ⟨b, 0, none⟩ = some v
  free : ∀ j, w.frozen? ⟨b, j, none⟩ = false
  own : LkT w b 26 v
theorem Lk.of {w : World} {b : Nat} {v : Value} (h : LkT w b 26 v) : Lk w b v := ⟨h.cell, h.free, h⟩
theorem Lk.new (w : World) (v : Value) : Lk (w.alloc (.cells #[v] 26)) w.heap.size v := .of (LkT.new w _ v)
theorem Lk.lt {w : World} {b : Nat} {v : Value} (h : Lk w b v) : b < w.heap.size := h.own.lt
theorem Lk.ext {w w' : World} {b : Nat} {v : Value} (h : Lk w b v) (k : Ext w w') : Lk w' b v := .of (h.own.ext k)
theorem Lk.exc {w w' : World} {b g : Nat} {v : Value} (h : Lk w b v) (k : Exc g w w') (hb : b ≠ g) : Lk w' b v := .of (by
  unfold LkT
  rw [k.block b h.lt hb]
  exact h.own)
theorem Lk.set {w : World} {b : Nat} {v : Value} (h : Lk w b v) (u : Value) : Lk (w.setCell ⟨b, 0, none⟩ u) b u := .of (h.own.set u)
theorem Lk.off {w : World} {b g : Nat} {v : Value} (h : Lk w b v) (hb : b ≠ g) (o : Nat) (u : Value) : Lk (w.setCell ⟨g, o, none⟩ u) b v := .of (h.own.off hb o u)
theorem Lk.keep {w w' : World} {b : Nat} {v : Value} (h : Lk w b v) (k : KeepT 9 w w') : Lk w' b v := .of (h.own.keep k (by decide))
theorem Exc.set {g : Nat} {w0 w : World} (h : Exc g w0 w) {b : Nat} (hb : w0.heap.size ≤ b) (j : Nat) (u : Value) : Exc g w0 (w.setCell ⟨b, j, none⟩ u) :=
  ⟨h.os, h.tape, h.output, by simpa [World.setCell] using h.size, fun k hk hg => by rw [← h.block k hk hg]; exact ((Exc.refl b w).setCell j u).block k (Nat.lt_of_lt_of_le hk h.size) (by omega)⟩
set_option maxRecDepth 100000 in
set_option maxHeartbeats 2000000 in
theorem l05Draw_any (g k : Nat) (most : Int) (w : World) (h : Src w g k) (hk : k ≤ 1099511610000) (m0 : 0 ≤ most) (m1 : most ≤ 100) :
    Calls Tryz.prog 15 #[.pointer (some ⟨g, 0, none⟩), .int .i64 most] w (Drew g k 210 (fun v w' => DrL 200 w.heap.size v w') w) := by
  have HG := hid h.lt
  have HS := hid h
  clear h
  go_enter Tryz.func15, Tryz.ntmps15
  go_wp2_with fail
  have L0 : Hid (Lk (w.alloc (.cells #[.slice none 0 0] 26)) w.heap.size (.slice none 0 0)) := hid (Lk.new w _)
  refine (l05Some_any _).mono ?_
  rintro e w1 ⟨a, c, rfl, ho, hx⟩
  obtain ⟨b, ha, hb1, _⟩ := ho.form (by rw [some_len]; omega)
  subst ha
  simp only [World.size_alloc] at hb1
  have HR := hid ho.rd
  have L1 := hid (L0.out.ext hx)
  have HX1 := hid (((Ext.refl w).alloc (.cells #[.slice none 0 0] 26)).trans hx)
  have hsz := HX1.out.size
  clear ho hx L0
  go_wp2_with fail
  have HX2 := hid (HX1.out.alloc (.cells #[] 9))
  have HS2 := hid (HS.out.ext HX2.out)
  have L2 := hid (L1.out.ext ((Ext.refl w1).alloc (.cells #[] 9)))
  have HR2 := hid (HR.out.ext ((Ext.refl w1).alloc (.cells #[] 9)))
  refine (pick_any g k _ _ HS2.out (by omega)).mono ?_
  rintro e w2 ⟨v, rfl, ⟨x, hx0, hx1, rfl⟩, hE2, hS2⟩
  have hbg : b ≠ g := by have := HG.out; omega
  have HX3 := hid ((Exc.of_ext g HX2.out).trans hE2)
  have HS3 := hid hS2
  have L3 := hid (L2.out.exc hE2 (by have := HG.out; omega))
  have HR3 := hid (hE2.rd HR2.out hbg)
  clear hE2 hS2 HR HR2 L1 L2 HS HS2 HX1 HX2
  go_wp2_with fail
  go_loopw [6, 7] (fun v i wr => ∃ (y : Int) (n c' : Nat) (a' : Option Addr) (L : List ByteArray), 0 ≤ y ∧ y ≤ x ∧ i = .int .i64 y ∧ v = .slice a' n c' ∧ (n : Int) ≤ x - y ∧ Hid (n = L.length) ∧ Hid (∀ s ∈ L, s.size ≤ 100) ∧ Hid (Own wr (w.heap.size + 1) 9 1 a' L.length c' (strsV L)) ∧ Hid (Exc g w wr ∧ Src wr g (k + 2 + 2 * (x - y).toNat) ∧ Lk wr w.heap.size (.slice none 0 0) ∧ Rd wr (some ⟨b, 0, none⟩) (strsV someL))) (fun _ i _ => (intOf i).toNat)
  case atStart => exact ⟨x, 0, 0, some ⟨w1.heap.size, 0, none⟩, [], by omega, by omega, rfl, rfl, by omega, hid rfl, hid (by simp), hid (Own.empty _ _ _ _ _), hid ⟨HX3.out, HS3.out.up (by omega), L3.out, HR3.out⟩⟩
  case round =>
    clear HX3 HS3 L3 HR3
    obtain ⟨y, n, c', a', L, hy0, hy1, rfl, rfl, hn, HN, HL, HO, HW⟩ := hrel
    have x100 : x ≤ 100 := by omega
    have hnl : (n : Int) ≤ 100 := by omega
    by_cases hlt : 0 < y
    · have hq : (k + 2 + 2 * (x - y).toNat) ≤ 1099511620000 := by omega
      obtain ⟨hX, hS, hLk, hRd⟩ := HW.out
      have HX := hid hX
      have HSS := hid hS
      have HLk := hid hLk
      have HRd := hid hRd
      clear hX hS hLk hRd HW
      go_wp2_with fail
      refine (pick_any g _ _ _ HSS.out (by omega)).mono ?_
      rintro e w3 ⟨v, rfl, ⟨z, hz0, hz1, rfl⟩, hE3, hS3⟩
      obtain ⟨j, rfl⟩ : ∃ j : Nat, z = (j : Int) := ⟨z.toNat, by omega⟩
      rw [some_len] at hz1
      have hj : j < 60 := by omega
      obtain ⟨s, hs⟩ : ∃ s, someL[j]? = some s := ⟨someL[j]'(by rw [some_len]; omega), List.getElem?_eq_getElem _⟩
      have HSz := hid (some_size (List.mem_of_getElem? hs))
      have c0 : w3.cell? ⟨b, j, none⟩ = some (.string s) := by
        obtain ⟨b', o', ha, hcc⟩ := hE3.rd HRd.out hbg j (.string s) (by simp [strsV, hs])
        cases ha
        simpa using hcc
      have HRd3 := hid (hE3.rd HRd.out hbg)
      have HX3 := hid (HX.out.trans hE3)
      have HS3 := hid hS3
      have HLk3 := hid (HLk.out.exc hE3 (by have := HG.out; omega))
      have HO3 := hid (HO.out.exc hE3 (by have := HG.out; omega))
      have hz3 := hE3.size
      have hz4 := HX.out.size
      have hjl : (j : Int) < someL.length := by rw [some_len]; omega
      have HIn := hid (l03Insert_any a' c' L s w3 HO3.out.rd (by have := HN.out; omega) HO3.out.le)
      rw [← HN.out] at HIn
      clear hs hE3 hS3 HX HSS HLk HRd HO
      go_wp2_with fail
      refine HIn.out.mono ?_
      rintro e w4 hIR
      obtain ⟨a2, c2, rfl, ho, hx⟩ := hIR.own HO3.out (by have := HLk3.out.lt; omega)
      have HO4 := hid ho
      have hle2 : (insL L s).length ≤ n + 1 := by have := insL_length_le L s; have := HN.out; omega
      have HM : Hid (∀ u ∈ insL L s, u.size ≤ 100) := hid (fun u hu => by
        rcases insL_mem hu with h | rfl
        · exact HL.out u h
        · exact HSz.out)
      have HW4 : Hid (Exc g w w4 ∧ Src w4 g (k + 2 + 2 * (x - y).toNat + 2) ∧ Lk w4 w.heap.size (.slice none 0 0) ∧ Rd w4 (some ⟨b, 0, none⟩) (strsV someL)) :=
        hid ⟨HX3.out.ext hx, HS3.out.ext hx, HLk3.out.ext hx, HRd3.out.ext hx⟩
      obtain ⟨n2, hn2⟩ : ∃ n2, (insL L s).length = n2 := ⟨_, rfl⟩
      rw [hn2] at hle2 ⊢
      have HN2 := hid hn2
      clear ho hIR hn2 hx HX3 HS3 HLk3 HRd3 HO3
      go_wp2_with fail
      go_roundw
      case rel => exact ⟨y - 1, n2, c2, a2, insL L s, by omega, by omega, by go_num, rfl, by omega, hid HN2.out.symm, HM, HO4, hid ⟨HW4.out.1, HW4.out.2.1.up (by omega), HW4.out.2.2.1, HW4.out.2.2.2⟩⟩
      case measure => simp [intOf]; omega
    · obtain rfl : y = 0 := by omega
      obtain ⟨hX, hS, hLk, hRd⟩ := HW.out
      have r0 := hLk.1
      have rf := hLk.2 0
      have HLk := hid hLk
      have HXX := hid hX
      have HSS := hid hS
      have q0 := (HLk.out.set (.slice a' n c')).1
      have qf := (HLk.out.set (.slice a' n c')).2 0
      clear hX hS hLk hRd HW
      go_wp2_with fail
      refine bodyPost_ret (v := .agg #[.slice a' n c']) (by simp [results, Tryz.results15, go_sem, q0, qf]) rfl ⟨_, rfl, ⟨a', c', L, by rw [HN.out], ?_, by have := HN.out; omega, HL.out⟩, HXX.out.set (Nat.le_refl _) 0 _, (HSS.out.exc ((Exc.refl w.heap.size wr).setCell 0 _) HG.out).up (by omega)⟩
      exact (HO.out.exc ((Exc.refl w.heap.size wr).setCell 0 _) (by omega)).mono (by omega)
end Go.Proofs.YtabljchbchjjcaaGreatDoor
end
