/- Lexicons and words that the laws draw: they are small. Conditions: a source of which not too much has been asked. -/
import Derived.Test.YtaigabenlccdaaaMg2
import Derived.Test.YtaigabenlccdaaaBytes
namespace Go.Proofs.Ytaigabenlccdaaa
set_option linter.unusedVariables false
set_option linter.unusedSimpArgs false
open Go Go.RowKit
theorem Own.exc {w w' : World} {B : Nat} {e : TypeId} {size : Nat} {a : Option Addr} {n c : Nat} {xs : List Value} (h : Own w B e size a n c xs) {g : Nat} (k : Exc g w w') (hg : g < B) : Own w' B e size a n c xs := by
  rcases h with h | ⟨h1, h2⟩
  · exact .inl h
  · refine .inr ⟨h1, ?_⟩
    rcases h2 with h2 | ⟨b, cap, cur, hv, hb, hh, r⟩
    · exact .inl h2
    · exact .inr ⟨b, cap, cur, hv, hb, by rw [k.block b (Array.getElem?_eq_some_iff.1 hh).1 (by omega)]; exact hh, r⟩
theorem Src.below {w w' : World} {g k B : Nat} (h : Src w g k) (e : Below B w w') (hg : g < B) : Src w' g k := by
  obtain ⟨a, n, c, l, t, z, h0, h1, h2, h3, h4, h5, h6, h7, h8⟩ := h
  refine ⟨a, n, c, l, t, z, by rw [Below.cell e (p := ⟨g, 0, none⟩) hg]; exact h0, h1, h2, ?_, h4, by rw [Below.cell e (p := ⟨g, 1, none⟩) hg]; exact h5, h6, by rw [Below.cell e (p := ⟨g, 2, none⟩) hg]; exact h7, fun j => by rw [Below.frozen e (p := ⟨g, j, none⟩) hg]; exact h8 j⟩
  intro j u hj
  obtain ⟨b', o, ha, hcc⟩ := h3 j u hj
  have hn0 : 0 < n := by
    have := (List.getElem?_eq_some_iff.1 hj).1
    rw [bytesV_length] at this
    omega
  have := h4 hn0 _ ha
  simp only [] at this
  exact ⟨b', o, ha, by rw [Below.cell e (p := ⟨b', o + j, none⟩) (by show b' < B; omega)]; exact hcc⟩
theorem some_short : someL.all (fun s => decide (s.size ≤ 100)) = true := by decide +kernel
theorem some_size {y : ByteArray} (h : y ∈ someL) : y.size ≤ 100 := short_mem some_short h
theorem some_len : someL.length = 60 := rfl
/-- A short text. -/
def DrS (v : Value) : Prop := ∃ y : ByteArray, y.size ≤ 100 ∧ v = .string y
set_option maxRecDepth 100000 in
set_option maxHeartbeats 1000000 in
theorem l05Word_any (g k : Nat) (w : World) (h : Src w g k) (hk : k ≤ 1099511620000) :
    Calls Try.prog 38 #[.pointer (some ⟨g, 0, none⟩)] w (Drew g k 4 (fun v _ => DrS v) w) := by
  have HS := hid h
  clear h
  go_enter Try.func38, Try.ntmps38
  go_wp2_with fail
  refine (one_any g k 8 _ HS.out (by omega)).mono ?_
  rintro e w1 ⟨v, rfl, ⟨b, rfl⟩, hE1, hS1⟩
  have HX1 := hid hE1
  have HS1 := hid hS1
  have HG := hid hS1.lt
  clear hE1 hS1 HS
  cases b
  · go_wp2_with fail
    refine (l05Some_any _).mono ?_
    rintro e w2 ⟨a, c, rfl, ho, hx⟩
    obtain ⟨b2, ha, hb2, _⟩ := ho.form (by rw [some_len]; omega)
    subst ha
    have HR := hid ho.rd
    have HS2 := hid (HS1.out.ext hx)
    have HX2 := hid (HX1.out.ext hx)
    clear ho hx
    go_wp2_with fail
    refine (text_any g (k + 2) _ c someL _ HS2.out (by omega) HR.out (by rw [some_len]; omega) (by rw [some_len]; omega) (fun x e => by cases e; have := HG.out; show b2 ≠ g; omega)).mono ?_
    rintro e w3 ⟨v, rfl, ⟨x, hx, rfl⟩, hE3, hS3⟩
    have HY := hid (some_size hx)
    have HX3 := hid (HX2.out.trans hE3)
    have HS3 := hid hS3
    clear hx hE3 hS3
    go_wp2_with fail
    go_returns
    exact ⟨_, rfl, ⟨x, HY.out, rfl⟩, HX3.out, HS3.out.up (by omega)⟩
  · go_wp2_with fail
    refine (text_new g (k + 2) 5 [⟨#[]⟩, ⟨#[97]⟩, ⟨#[65, 110]⟩, ⟨#[97, 98, 99, 100, 101, 102, 103, 104, 105, 106, 107, 108, 109]⟩, ⟨#[122, 122]⟩] w1 HS1.out (by omega) rfl (by omega) (by omega) (by decide)).mono ?_
    rintro e w3 ⟨v, rfl, ⟨x, hx, rfl⟩, hE3, hS3⟩
    have HX3 := hid ((HX1.out.ext ((Ext.refl w1).alloc (.cells (([⟨#[]⟩, ⟨#[97]⟩, ⟨#[65, 110]⟩, ⟨#[97, 98, 99, 100, 101, 102, 103, 104, 105, 106, 107, 108, 109]⟩, ⟨#[122, 122]⟩] : List ByteArray).map Value.string).toArray 9))).trans hE3)
    have HS3 := hid hS3
    clear hE3 hS3
    go_wp2_with fail
    go_returns
    exact ⟨_, rfl, ⟨x, hx, rfl⟩, HX3.out, HS3.out.up (by omega)⟩
theorem u8_wrap (x : Int) : IntKind.u8.wrap x = ((UInt8.ofNat (IntKind.u8.wrap x).toNat).toNat : Int) := by
  have h : 0 ≤ IntKind.u8.wrap x ∧ IntKind.u8.wrap x < 256 := by
    simp only [IntKind.wrap, IntKind.bits, IntKind.signed]
    simp
    omega
  simp
  omega
set_option maxRecDepth 100000 in
set_option maxHeartbeats 1000000 in
theorem l05Full_any (m : Int) (w : World) (h0 : 0 ≤ m) (h1 : m ≤ 300) :
    Calls Try.prog 89 #[.int .i64 m] w fun e w' => ∃ L : List ByteArray, L.length ≤ 300 ∧ (∀ s ∈ L, s.size ≤ 100) ∧ RetO L w e w' := by
  go_enter Try.func89, Try.ntmps89
  go_wp2_with fail
  go_loopw [3, 4] (fun v i wr => ∃ (k c' : Nat) (a' : Option Addr) (L : List ByteArray), (k : Int) ≤ m ∧ i = .int .i64 k ∧ v = .slice a' k c' ∧ Hid (k = L.length) ∧ Hid (∀ s ∈ L, s.size ≤ 100) ∧ Hid (Own wr w.heap.size 9 1 a' L.length c' (strsV L)) ∧ Ext w wr) (fun _ i _ => m.toNat - (intOf i).toNat)
  case atStart => exact ⟨0, 0, some ⟨w.heap.size, 0, none⟩, [], by omega, rfl, rfl, hid rfl, hid (by simp), hid (Own.empty _ _ _ _ _), (Ext.refl w).alloc _⟩
  case round =>
    obtain ⟨k, c', a', L, hk, rfl, rfl, HN, HL, HO, hE⟩ := hrel
    by_cases hlt : (k : Int) < m
    · have hsz := hE.size
      obtain ⟨x, hx⟩ : ∃ x : UInt8, 97 + (k : Int) / 26 = (x.toNat : Int) := ⟨UInt8.ofNat (97 + k / 26), by simp; omega⟩
      obtain ⟨y, hy⟩ : ∃ y : UInt8, 97 + (k : Int) % 26 = (y.toNat : Int) := ⟨UInt8.ofNat (97 + k % 26), by simp; omega⟩
      have HXY : Hid (Rd (wr.alloc (.cells #[.int .u8 (97 + (k : Int) / 26), .int .u8 (97 + (k : Int) % 26)] 5)) (some ⟨wr.heap.size, 0, none⟩) (bytesV [x, y])) := hid (by
        have := rd_new (w := wr) rfl [.int .u8 (97 + (k : Int) / 26), .int .u8 (97 + (k : Int) % 26)] 5
        rw [hx, hy] at this
        rw [hx, hy]
        exact this)
      have HB := hid hsz
      have HO2 := hid (HO.out.ext ((Ext.refl wr).alloc (.cells #[.int .u8 (97 + (k : Int) / 26), .int .u8 (97 + (k : Int) % 26)] 5)))
      rw [← HN.out] at HO2
      clear hx hy hsz
      go_wp2_with (first
        | (refine wpList_str rfl _ 35 9 rfl Try.underlying35 Try.underlying5 Try.underlying9 rfl (l := [x, y]) rfl HXY.out ?_)
        | (at_builtin; go_loud (refine wpList_push rfl _ _ 22 rfl El_str rfl [.string ⟨#[x, y]⟩] (by simp [go_sem]) rfl (by simp [Value.oneCell']) HO2.out (by have := HB.out; simp; omega) (by unfold maxLen; omega) (by omega) ?_; intro a3 c3 w4 hown3 hb3; have HO3 := hid hown3; have HE3 := hid ((hE.alloc _).thenBelow hb3 (by simp)); clear hown3)))
      go_roundw
      case rel =>
        refine ⟨k + 1, c3, a3, L ++ [⟨#[x, y]⟩], by omega, by go_num, rfl, hid (by rw [List.length_append, ← HN.out]; rfl), hid (fun s hs => ?_), hid ?_, HE3.out⟩
        · rcases List.mem_append.1 hs with h | h
          · exact HL.out s h
          · simp only [List.mem_cons, List.not_mem_nil, or_false] at h
            subst h
            show (2 : Nat) ≤ 100
            omega
        · rw [List.length_append, ← HN.out, strsV_append]
          exact HO3.out
      case measure => simp [intOf]; omega
    · go_wp2_with fail
      go_returns
      exact ⟨L, by have := HN.out; omega, HL.out, a', c', by rw [← HN.out]; rfl, HO.out, hE⟩
/-- A drawn lexicon: a list of few short words, from block B on. -/
def DrL (N B : Nat) (v : Value) (w : World) : Prop := ∃ (a : Option Addr) (c : Nat) (L : List ByteArray), v = .agg #[.slice a L.length c] ∧ Own w B 9 1 a L.length c (strsV L) ∧ L.length ≤ N ∧ ∀ s ∈ L, s.size ≤ 100
/-- The block of a lexicon that may be written. -/
structure Lk (w : World) (b : Nat) (v : Value) : Prop where
  cell : w.cell? ⟨b, 0, none⟩ = some v
  free : ∀ j, w.frozen? ⟨b, j, none⟩ = false
  own : LkT w b 28 v
theorem Lk.of {w : World} {b : Nat} {v : Value} (h : LkT w b 28 v) : Lk w b v := ⟨h.cell, h.free, h⟩
theorem Lk.new (w : World) (v : Value) : Lk (w.alloc (.cells #[v] 28)) w.heap.size v := .of (LkT.new w _ v)
theorem Lk.lt {w : World} {b : Nat} {v : Value} (h : Lk w b v) : b < w.heap.size := h.own.lt
theorem Lk.ext {w w' : World} {b : Nat} {v : Value} (h : Lk w b v) (k : Ext w w') : Lk w' b v := .of (h.own.ext k)
theorem Lk.exc {w w' : World} {b g : Nat} {v : Value} (h : Lk w b v) (k : Exc g w w') (hb : b ≠ g) : Lk w' b v := .of (by
  unfold LkT
  rw [k.block b h.lt hb]
  exact h.own)
theorem Lk.set {w : World} {b : Nat} {v : Value} (h : Lk w b v) (u : Value) : Lk (w.setCell ⟨b, 0, none⟩ u) b u := .of (h.own.set u)
theorem Lk.off {w : World} {b g : Nat} {v : Value} (h : Lk w b v) (hb : b ≠ g) (o : Nat) (u : Value) : Lk (w.setCell ⟨g, o, none⟩ u) b v := .of (h.own.off hb o u)
theorem Lk.keep {w w' : World} {b : Nat} {v : Value} (h : Lk w b v) (k : KeepT 9 w w') : Lk w' b v := .of (h.own.keep k (by decide))
theorem Exc.set {g : Nat} {w0 w : World} (h : Exc g w0 w) {b : Nat} (hb : w0.heap.size ≤ b) (j : Nat) (u : Value) : Exc g w0 (w.setCell ⟨b, j, none⟩ u) :=
  ⟨h.os, h.tape, h.output, by simpa [World.setCell] using h.size, fun k hk hg => by rw [← h.block k hk hg]; exact ((Exc.refl b w).setCell j u).block k (Nat.lt_of_lt_of_le hk h.size) (by omega)⟩
set_option maxRecDepth 100000 in
set_option maxHeartbeats 2000000 in
theorem l05Draw_any (g k : Nat) (most : Int) (w : World) (h : Src w g k) (hk : k ≤ 1099511610000) (m0 : 0 ≤ most) (m1 : most ≤ 100) :
    Calls Try.prog 88 #[.pointer (some ⟨g, 0, none⟩), .int .i64 most] w (Drew g k 210 (fun v w' => DrL 200 w.heap.size v w') w) := by
  have HG := hid h.lt
  have HS := hid h
  clear h
  go_enter Try.func88, Try.ntmps88
  go_wp2_with fail
  have L0 : Hid (Lk (w.alloc (.cells #[.slice none 0 0] 28)) w.heap.size (.slice none 0 0)) := hid (Lk.new w _)
  refine (l05Some_any _).mono ?_
  rintro e w1 ⟨a, c, rfl, ho, hx⟩
  obtain ⟨b, ha, hb1, _⟩ := ho.form (by rw [some_len]; omega)
  subst ha
  simp only [World.size_alloc] at hb1
  have HR := hid ho.rd
  have L1 := hid (L0.out.ext hx)
  have HX1 := hid (((Ext.refl w).alloc (.cells #[.slice none 0 0] 28)).trans hx)
  have hsz := HX1.out.size
  clear ho hx L0
  go_wp2_with fail
  have HX2 := hid (HX1.out.alloc (.cells #[] 9))
  have HS2 := hid (HS.out.ext HX2.out)
  have L2 := hid (L1.out.ext ((Ext.refl w1).alloc (.cells #[] 9)))
  have HR2 := hid (HR.out.ext ((Ext.refl w1).alloc (.cells #[] 9)))
  refine (pick_any g k _ _ HS2.out (by omega)).mono ?_
  rintro e w2 ⟨v, rfl, ⟨x, hx0, hx1, rfl⟩, hE2, hS2⟩
  have hbg : b ≠ g := by have := HG.out; omega
  have HX3 := hid ((Exc.of_ext g HX2.out).trans hE2)
  have HS3 := hid hS2
  have L3 := hid (L2.out.exc hE2 (by have := HG.out; omega))
  have HR3 := hid (hE2.rd HR2.out hbg)
  clear hE2 hS2 HR HR2 L1 L2 HS HS2 HX1 HX2
  go_wp2_with fail
  go_loopw [6, 7] (fun v i wr => ∃ (y : Int) (n c' : Nat) (a' : Option Addr) (L : List ByteArray), 0 ≤ y ∧ y ≤ x ∧ i = .int .i64 y ∧ v = .slice a' n c' ∧ (n : Int) ≤ x - y ∧ Hid (n = L.length) ∧ Hid (∀ s ∈ L, s.size ≤ 100) ∧ Hid (Own wr (w.heap.size + 1) 9 1 a' L.length c' (strsV L)) ∧ Hid (Exc g w wr ∧ Src wr g (k + 2 + 2 * (x - y).toNat) ∧ Lk wr w.heap.size (.slice none 0 0) ∧ Rd wr (some ⟨b, 0, none⟩) (strsV someL))) (fun _ i _ => (intOf i).toNat)
  case atStart => exact ⟨x, 0, 0, some ⟨w1.heap.size, 0, none⟩, [], by omega, by omega, rfl, rfl, by omega, hid rfl, hid (by simp), hid (Own.empty _ _ _ _ _), hid ⟨HX3.out, HS3.out.up (by omega), L3.out, HR3.out⟩⟩
  case round =>
    clear HX3 HS3 L3 HR3
    obtain ⟨y, n, c', a', L, hy0, hy1, rfl, rfl, hn, HN, HL, HO, HW⟩ := hrel
    have x100 : x ≤ 100 := by omega
    have hnl : (n : Int) ≤ 100 := by omega
    by_cases hlt : 0 < y
    · have hq : (k + 2 + 2 * (x - y).toNat) ≤ 1099511620000 := by omega
      obtain ⟨hX, hS, hLk, hRd⟩ := HW.out
      have HX := hid hX
      have HSS := hid hS
      have HLk := hid hLk
      have HRd := hid hRd
      clear hX hS hLk hRd HW
      go_wp2_with fail
      refine (pick_any g _ _ _ HSS.out (by omega)).mono ?_
      rintro e w3 ⟨v, rfl, ⟨z, hz0, hz1, rfl⟩, hE3, hS3⟩
      obtain ⟨j, rfl⟩ : ∃ j : Nat, z = (j : Int) := ⟨z.toNat, by omega⟩
      rw [some_len] at hz1
      have hj : j < 60 := by omega
      obtain ⟨s, hs⟩ : ∃ s, someL[j]? = some s := ⟨someL[j]'(by rw [some_len]; omega), List.getElem?_eq_getElem _⟩
      have HSz := hid (some_size (List.mem_of_getElem? hs))
      have c0 : w3.cell? ⟨b, j, none⟩ = some (.string s) := by
        obtain ⟨b', o', ha, hcc⟩ := hE3.rd HRd.out hbg j (.string s) (by simp [strsV, hs])
        cases ha
        simpa using hcc
      have HRd3 := hid (hE3.rd HRd.out hbg)
      have HX3 := hid (HX.out.trans hE3)
      have HS3 := hid hS3
      have HLk3 := hid (HLk.out.exc hE3 (by have := HG.out; omega))
      have HO3 := hid (HO.out.exc hE3 (by have := HG.out; omega))
      have hz3 := hE3.size
      have hz4 := HX.out.size
      have hjl : (j : Int) < someL.length := by rw [some_len]; omega
      have HIn := hid (l03Insert_any a' c' L s w3 HO3.out.rd (by have := HN.out; omega) HO3.out.le)
      rw [← HN.out] at HIn
      clear hs hE3 hS3 HX HSS HLk HRd HO
      go_wp2_with fail
      refine HIn.out.mono ?_
      rintro e w4 hIR
      obtain ⟨a2, c2, rfl, ho, hx⟩ := hIR.own HO3.out (by have := HLk3.out.lt; omega)
      have HO4 := hid ho
      have hle2 : (insL L s).length ≤ n + 1 := by have := insL_length_le L s; have := HN.out; omega
      have HM : Hid (∀ u ∈ insL L s, u.size ≤ 100) := hid (fun u hu => by
        rcases insL_mem hu with h | rfl
        · exact HL.out u h
        · exact HSz.out)
      have HW4 : Hid (Exc g w w4 ∧ Src w4 g (k + 2 + 2 * (x - y).toNat + 2) ∧ Lk w4 w.heap.size (.slice none 0 0) ∧ Rd w4 (some ⟨b, 0, none⟩) (strsV someL)) :=
        hid ⟨HX3.out.ext hx, HS3.out.ext hx, HLk3.out.ext hx, HRd3.out.ext hx⟩
      obtain ⟨n2, hn2⟩ : ∃ n2, (insL L s).length = n2 := ⟨_, rfl⟩
      rw [hn2] at hle2 ⊢
      have HN2 := hid hn2
      clear ho hIR hn2 hx HX3 HS3 HLk3 HRd3 HO3
      go_wp2_with fail
      go_roundw
      case rel => exact ⟨y - 1, n2, c2, a2, insL L s, by omega, by omega, by go_num, rfl, by omega, hid HN2.out.symm, HM, HO4, hid ⟨HW4.out.1, HW4.out.2.1.up (by omega), HW4.out.2.2.1, HW4.out.2.2.2⟩⟩
      case measure => simp [intOf]; omega
    · obtain rfl : y = 0 := by omega
      obtain ⟨hX, hS, hLk, hRd⟩ := HW.out
      have r0 := hLk.1
      have rf := hLk.2 0
      have HLk := hid hLk
      have HXX := hid hX
      have HSS := hid hS
      have q0 := (HLk.out.set (.slice a' n c')).1
      have qf := (HLk.out.set (.slice a' n c')).2 0
      clear hX hS hLk hRd HW
      go_wp2_with fail
      refine bodyPost_ret (v := .agg #[.slice a' n c']) (by simp [results, Try.results88, go_sem, q0, qf]) rfl ⟨_, rfl, ⟨a', c', L, by rw [HN.out], ?_, by have := HN.out; omega, HL.out⟩, HXX.out.set (Nat.le_refl _) 0 _, (HSS.out.exc ((Exc.refl w.heap.size wr).setCell 0 _) HG.out).up (by omega)⟩
      exact (HO.out.exc ((Exc.refl w.heap.size wr).setCell 0 _) (by omega)).mono (by omega)
set_option maxRecDepth 100000 in
set_option maxHeartbeats 2000000 in
theorem l05Bent_any (g k : Nat) (w : World) (h : Src w g k) (hk : k ≤ 1099511600000) :
    Calls Try.prog 60 #[.pointer (some ⟨g, 0, none⟩)] w (Drew g k 300 (fun v w' => DrL 400 w.heap.size v w') w) := by
  have HG := hid h.lt
  have HS := hid h
  clear h
  go_enter Try.func60, Try.ntmps60
  go_wp2_with fail
  have L0 : Hid (Lk (w.alloc (.cells #[.slice none 0 0] 28)) w.heap.size (.slice none 0 0)) := hid (Lk.new w _)
  have HX0 := hid ((Ext.refl w).alloc (.cells #[.slice none 0 0] 28))
  refine (l05Draw_any g k 20 _ (HS.out.ext HX0.out) (by omega) (by omega) (by omega)).mono ?_
  rintro e w1 ⟨v, rfl, ⟨a, c, L, rfl, ho, hL, hLs⟩, hE1, hS1⟩
  have hz1 := hE1.size
  simp only [World.size_alloc] at hz1
  simp only [World.size_alloc] at ho
  have HO1 := hid ho
  have HLs := hid hLs
  obtain ⟨n, hn⟩ : ∃ n, L.length = n := ⟨_, rfl⟩
  have HN := hid hn
  rw [hn] at hL ⊢
  obtain ⟨B, hB⟩ : ∃ B, w1.heap.size = B := ⟨_, rfl⟩
  have hwB : w.heap.size < B := by omega
  have hx1 : Ext w1 (w1.alloc (.cells #[.slice a n c] 28)) := (Ext.refl w1).alloc _
  have HS2 := hid (hS1.ext hx1)
  have L2 := hid ((L0.out.exc hE1 (by have := HG.out; omega)).ext hx1)
  have HX2 := hid (((Exc.of_ext g HX0.out).trans hE1).ext hx1)
  have B2 : Hid (Lk (w1.alloc (.cells #[.slice a n c] 28)) B (.slice a n c)) := hid (by subst hB; exact Lk.new _ _)
  have HO2 := hid (HO1.out.ext hx1)
  have HB := hid hB
  clear ho hLs hn hE1 hS1 hx1 L0 HX0 HS HO1 hB
  go_wp2_with fail
  refine (pick_any g (k + 210) 20 _ HS2.out (by omega)).mono ?_
  rintro e w3 ⟨v, rfl, ⟨x, hx0, hx1, rfl⟩, hE3, hS3⟩
  have HS3 := hid hS3
  have L3 := hid (L2.out.exc hE3 (by have := HG.out; omega))
  have B3 := hid (B2.out.exc hE3 (by have := HG.out; omega))
  have HX3 := hid (HX2.out.trans hE3)
  have HO3 := hid (HO2.out.exc hE3 (by have := HG.out; omega))
  clear hE3 hS3 HS2 L2 B2 HX2 HO2
  simp only [HB.out]
  have hgB : g < B := by have := HG.out; omega
  clear HB
  by_cases e0 : x = 0
  · subst e0
    have b0 := B3.out.1
    go_wp2_with fail
    refine wp_region_mut_at 6 4 3 (Exc g) (fun _ x y => Exc g x y ∧ Src y g (k + 214)) [fun v _ => v = .pointer (some ⟨B, 0, none⟩), fun v _ => v = .slice a n c, fun v _ => v = .pointer (some ⟨g, 0, none⟩), fun v w' => ∃ h, v = .slice (some ⟨h, 0, none⟩) 5 5 ∧ g < h ∧ Rd w' (some ⟨h, 0, none⟩) (([⟨#[97]⟩, ⟨#[97, 110]⟩, ⟨#[122, 111, 111]⟩, ⟨#[90, 111, 111]⟩, ⟨#[122, 122, 122, 122, 122, 122, 122, 122, 122, 122, 122, 122, 122]⟩] : List ByteArray).map Value.string), fun v _ => ∃ y : ByteArray, y.size ≤ 100 ∧ v = .string y, fun v w' => ∃ (h : Nat) (y : ByteArray), y.size ≤ 100 ∧ v = .slice (some ⟨h, 0, none⟩) 1 1 ∧ g < h ∧ Rd w' (some ⟨h, 0, none⟩) [.string y]]
      [[(3, none)], [(10, some 0)], [(0, none)], [], [(12, some 2), (13, some 3)], [(14, some 4)]] (by kernel_rfl) (by kernel_rfl) (by kernel_rfl) (fun _ h => Exc.of_ext g h) (fun _ _ _ _ h1 h2 h3 => ((Exc.of_ext g h1).trans h2.1).ext h3) ?_ ?_ ?_ ?_
    · intro F hF
      simp only [List.mem_cons, List.not_mem_nil, or_false] at hF
      rcases hF with rfl | rfl | rfl | rfl | rfl | rfl
      · exact fun _ _ _ h _ => h
      · exact fun _ _ _ h _ => h
      · exact fun _ _ _ h _ => h
      · exact fun _ _ _ ⟨h, h1, h2, h3⟩ k => ⟨h, h1, h2, h3.ext k⟩
      · exact fun _ _ _ h _ => h
      · exact fun _ _ _ ⟨h, y, hy, h1, h2, h3⟩ k => ⟨h, y, hy, h1, h2, h3.ext k⟩
    · intro F hF
      simp only [List.mem_cons, List.not_mem_nil, or_false] at hF
      rcases hF with rfl | rfl | rfl | rfl | rfl | rfl
      · exact fun _ _ _ _ _ h _ => h
      · exact fun _ _ _ _ _ h _ => h
      · exact fun _ _ _ _ _ h _ => h
      · exact fun _ _ _ _ _ ⟨h, h1, h2, h3⟩ k => ⟨h, h1, h2, k.1.rd h3 (Nat.ne_of_gt h2)⟩
      · exact fun _ _ _ _ _ h _ => h
      · exact fun _ _ _ _ _ ⟨h, y, hy, h1, h2, h3⟩ k => ⟨h, y, hy, h1, h2, k.1.rd h3 (Nat.ne_of_gt h2)⟩
    · refine ⟨?_, ?_, ?_, ?_, ?_, ?_, trivial⟩
      · rintro ρ w1 hw hcst hfn hk
        clear hw
        simp only [known, List.getD_cons_zero, List.getD_cons_succ, Nat.reduceAdd] at hk
        simp only [List.getD_cons_zero, List.getD_cons_succ, Nat.reduceAdd, flowAt]
        go_simp
        exact ⟨Ext.refl _, by first | rfl | trivial⟩
      · rintro ρ w1 hw hcst hfn hk
        have c0 := hw.cell (b := B) (o := 0) (v := .slice a n c) (by first | (simp [*]; done) | (simp [*, go_sem]; done) | go_cell) (by omega)
        clear hw
        simp only [known, List.getD_cons_zero, List.getD_cons_succ, Nat.reduceAdd] at hk
        simp only [List.getD_cons_zero, List.getD_cons_succ, Nat.reduceAdd, flowAt]
        go_simp
        exact ⟨Ext.refl _, by first | rfl | trivial⟩
      · rintro ρ w1 hw hcst hfn hk
        clear hw
        simp only [known, List.getD_cons_zero, List.getD_cons_succ, Nat.reduceAdd] at hk
        simp only [List.getD_cons_zero, List.getD_cons_succ, Nat.reduceAdd, flowAt]
        go_simp
        exact ⟨Ext.refl _, by first | rfl | trivial⟩
      · rintro ρ w1 hw hcst hfn hk
        simp only [known, List.getD_cons_zero, List.getD_cons_succ, Nat.reduceAdd] at hk
        simp only [List.getD_cons_zero, List.getD_cons_succ, Nat.reduceAdd, flowAt]
        go_simp
        exact ⟨(Ext.refl _).alloc _, w1.heap.size, rfl, Nat.lt_of_lt_of_le HS3.out.lt hw.size, rd_new rfl [.string ⟨#[97]⟩, .string ⟨#[97, 110]⟩, .string ⟨#[122, 111, 111]⟩, .string ⟨#[90, 111, 111]⟩, .string ⟨#[122, 122, 122, 122, 122, 122, 122, 122, 122, 122, 122, 122, 122]⟩] _⟩
      · rintro ρ w1 u hw hcst hfn hk hu
        replace hu := hid hu
        simp only [known, List.getD_cons_zero, List.getD_cons_succ, Nat.reduceAdd] at hk
        simp only [List.getD_cons_zero, List.getD_cons_succ, Nat.reduceAdd, flowAt]
        go_simp
        (obtain ⟨e31, ⟨h, e32, hgh, hrd⟩, -⟩ := hk; have HRD := hid hrd; clear hrd; unfold invAt execOp; go_simp; exact inv_text (HS3.out.ext ((Ext.refl _).drew.trans hw)) (by omega) (by omega) hgh rfl (by omega) (by omega) (by decide) HRD.out)
      · rintro ρ w1 hw hcst hfn hk
        simp only [known, List.getD_cons_zero, List.getD_cons_succ, Nat.reduceAdd] at hk
        simp only [List.getD_cons_zero, List.getD_cons_succ, Nat.reduceAdd, flowAt]
        go_simp
        (obtain ⟨⟨y, hy, e1⟩, -⟩ := hk; rw [e1]; exact ⟨(Ext.refl _).alloc _, w1.heap.size, y, hy, rfl, Nat.lt_of_lt_of_le HS3.out.lt hw.size, rd_new rfl [.string y] _⟩)
    intro vs wa wb w1 hwa hr hw hf
    simp only [flowFacts, Nat.reduceAdd] at hf
    obtain ⟨e0, e1, e2, e3, e4, e5, -⟩ := hf
    simp only [List.take_succ_cons, List.take_zero, List.drop_succ_cons, List.drop_zero, putAll, Act.put, Nat.reduceAdd, List.setIfInBounds_toArray, List.set_cons_zero, List.set_cons_succ, e0, e1, e2, e3, e4]
    clear e0 e1 e2 e3 e4
    obtain ⟨hh, y, hy, e5v, hgh, hrd⟩ := e5
    rw [e5v]
    obtain ⟨hrX, hrS⟩ := hr
    have hwa2 := (Ext.refl _).drew.trans hwa
    have L4 := hid (((L3.out.ext hwa2).exc hrX (by have := HG.out; omega)).ext hw)
    have B4 := hid (((B3.out.ext hwa2).exc hrX (by omega)).ext hw)
    have HX4 := hid (((HX3.out.ext hwa2).trans hrX).ext hw)
    have HS4 := hid (hrS.ext hw)
    have HO4 := hid (((HO3.out.ext hwa2).exc hrX (by have := HG.out; omega)).ext hw)
    rw [HN.out] at HO4
    have HRD := hid hrd
    have hz4 := HX4.out.size
    have hz5 := B4.out.lt
    clear hwa hwa2 hrX hrS hw b0 e5v hrd HX3 HS3 L3 B3 HO3
    go_wp2_with (at_builtin; refine wpList_appendG rfl _ _ 22 rfl El_str rfl rfl [.string y] HRD.out rfl (by simp [Value.oneCell']) HO4.out (by omega) (by unfold maxLen; omega) (by omega) ?_; intro a5 c5 w5 hown5 hb5 hk5; have HO5 := hid hown5; have L5 := hid (L4.out.keep hk5); have B5 := hid (B4.out.keep hk5); have HX5 := hid (show Exc g w w5 from ⟨hb5.os.trans HX4.out.os, hb5.tape.trans HX4.out.tape, hb5.output.trans HX4.out.output, Nat.le_trans HX4.out.size hb5.size, fun q hq hg => (hb5.block q (by omega)).trans (HX4.out.block q hq hg)⟩); have HB5 := hid hb5; have b5 := B5.out.cell; have f5 := B5.out.free 0; have r5 := L5.out.cell; have rf5 := L5.out.free 0; have hz6 := hb5.size; clear hown5 hb5 hk5)
    have LE := ((L5.out.off (g := B) (by omega) 0 (.slice a5 (n + 1) c5)).set (.slice a5 (n + 1) c5))
    have q0 := LE.cell
    have qf := LE.free 0
    clear LE
    refine bodyPost_ret (v := .agg #[.slice a5 (n + 1) c5]) (by simp [results, Try.results60, go_sem, q0, qf]) rfl ⟨_, rfl, ⟨a5, c5, L ++ [y], by simp [HN.out], ?_, by simp [HN.out]; omega, fun u hu => ?_⟩, (HX5.out.set (by omega) 0 _).set (Nat.le_refl _) 0 _, ((((HS4.out.below HB5.out (by have := HG.out; omega)).exc ((Exc.refl B _).setCell 0 _) hgB).exc ((Exc.refl w.heap.size _).setCell 0 _) HG.out).up (by omega))⟩
    · have hq := (HO5.out.offT B5.out.own (by decide) 0 (.slice a5 (n + 1) c5)).offT (L5.out.off (g := B) (by omega) 0 (.slice a5 (n + 1) c5)).own (by decide) 0 (.slice a5 (n + 1) c5)
      refine Own.mono (B := w.heap.size + 1) ?_ (Nat.le_succ _)
      simpa [strsV, HN.out] using hq
    · rcases List.mem_append.1 hu with h | h
      · exact HLs.out u h
      · simp only [List.mem_cons, List.not_mem_nil, or_false] at h
        subst h
        exact hy
  by_cases e1 : x = 1
  · subst e1
    go_wp2_with fail
    refine (pick_any g _ 2 _ HS3.out (by omega)).mono ?_
    rintro e w4 ⟨v, rfl, ⟨z, hz0, hz1, rfl⟩, hE4, hS4⟩
    have HS4 := hid hS4
    have L4 := hid (L3.out.exc hE4 (by have := HG.out; omega))
    have B4 := hid (B3.out.exc hE4 (by omega))
    have HX4 := hid (HX3.out.trans hE4)
    clear hE4 hS4 HS3 L3 B3 HX3 HO3
    go_wp2_with fail
    refine (l05Full_any _ _ (by omega) (by omega)).mono ?_
    rintro e w5 ⟨M, hM, hMs, a5, c5, rfl, ho5, hx5⟩
    obtain ⟨m, hm⟩ : ∃ m, M.length = m := ⟨_, rfl⟩
    rw [hm] at hM ⊢
    have HM := hid hm
    have HMs := hid hMs
    have HO5 := hid ho5
    have HS5 := hid (HS4.out.ext hx5)
    have L5 := hid (L4.out.ext hx5)
    have B5 := hid (B4.out.ext hx5)
    have HX5 := hid (HX4.out.ext hx5)
    have hl5 := L4.out.lt
    have b5 := B5.out.cell
    have f5 := B5.out.free 0
    have r5 := L5.out.cell
    have rf5 := L5.out.free 0
    have LE := ((L5.out.off (g := B) (by omega) 0 (.slice a5 m c5)).set (.slice a5 m c5))
    have q0 := LE.cell
    have qf := LE.free 0
    clear LE hm hMs ho5 hx5 HS4 L4 B4 HX4
    go_wp2_with fail
    refine bodyPost_ret (v := .agg #[.slice a5 m c5]) (by simp [results, Try.results60, go_sem, q0, qf]) rfl ⟨_, rfl, ⟨a5, c5, M, by rw [HM.out], ?_, by rw [HM.out]; omega, HMs.out⟩, (HX5.out.set (by omega) 0 _).set (Nat.le_refl _) 0 _, (((HS5.out.exc ((Exc.refl B _).setCell 0 _) hgB).exc ((Exc.refl w.heap.size _).setCell 0 _) HG.out).up (by omega))⟩
    have hq := (HO5.out.offT B5.out.own (by decide) 0 (.slice a5 m c5)).offT (L5.out.off (g := B) (by omega) 0 (.slice a5 m c5)).own (by decide) 0 (.slice a5 m c5)
    refine Own.mono ?_ (Nat.le_of_lt hl5)
    simpa [HM.out] using hq
  · have m0 : (x == 0) = false := by simpa using e0
    have m1 : (x == 1) = false := by simpa using e1
    have b3 := B3.out.cell
    have r3 := L3.out.cell
    have rf3 := L3.out.free 0
    have LE := L3.out.set (.slice a n c)
    have q0 := LE.cell
    have qf := LE.free 0
    clear LE e0 e1
    go_wp2_with fail
    refine bodyPost_ret (v := .agg #[.slice a n c]) (by simp [results, Try.results60, go_sem, q0, qf]) rfl ⟨_, rfl, ⟨a, c, L, by rw [HN.out], ?_, by have := HN.out; omega, HLs.out⟩, HX3.out.set (Nat.le_refl _) 0 _, ((HS3.out.exc ((Exc.refl w.heap.size _).setCell 0 _) HG.out).up (by omega))⟩
    have hq := HO3.out.offT L3.out.own (by decide) 0 (.slice a n c)
    exact hq.mono (by omega)
end Go.Proofs.Ytaigabenlccdaaa
