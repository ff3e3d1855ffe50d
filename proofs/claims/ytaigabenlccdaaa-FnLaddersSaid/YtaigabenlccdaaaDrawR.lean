/- Racks, and a lexicon with one, drawn. Conditions: at most 2^20 bytes come in. -/
import Derived.Test.YtaigabenlccdaaaDrawM
import Derived.Test.YtaigabenlccdaaaCh03c
namespace Go.Proofs.Ytaigabenlccdaaa
set_option linter.unusedVariables false
set_option linter.unusedSimpArgs false
open Go Go.RowKit
set_option maxHeartbeats 1000000 in
theorem l02Repeat_any (c n : Nat) (w : World) (hc : c < 256) (hn : n ≤ 200) :
    Calls Try.prog 64 #[.int .u8 (c : Int), .int .i64 (n : Int)] w fun e w' => ∃ s : ByteArray, s.size ≤ 200 ∧ e = .returned (.string s) ∧ Ext w w' := by
  have HC : Hid (∀ L : List UInt8, bytesV L ++ [.int .u8 (c : Int)] = bytesV (L ++ [UInt8.ofNat c])) := hid (fun L => by
    rw [bytesV_append]
    have : (UInt8.ofNat c).toNat = c := by simp; omega
    simp [bytesV, this])
  go_enter Try.func64, Try.ntmps64
  go_wp2_with fail
  go_loopw [1, 5] (fun i v wr => ∃ (m k cap : Nat) (a : Option Addr) (L : List UInt8), m + k = n ∧ i = .int .i64 (m : Int) ∧ v = .slice a k cap ∧ Hid (L.length = k) ∧ Hid (Own wr (w.heap.size + 1) 5 1 a k cap (bytesV L)) ∧ Ext (w.alloc (.cells #[] 5)) wr) (fun i _ _ => (intOf i).toNat)
  case atStart => exact ⟨n, 0, 0, some ⟨w.heap.size, 0, none⟩, [], by omega, rfl, rfl, hid rfl, hid (by simpa [bytesV] using Own.empty _ _ _ _ _), Ext.refl _⟩
  case round =>
    obtain ⟨m, k, cap, a, L, hmk, rfl, rfl, HL, HO, hext⟩ := hrel
    have hsz := hext.size
    simp only [World.size_alloc] at hsz
    by_cases hlt : 0 < m
    · have hown := HO.out
      go_wp2_with (at_builtin; refine wpList_push rfl _ _ 35 rfl El_u8 rfl [_] rfl rfl (by simp [Value.oneCell']) hown (by omega) (by unfold maxLen; omega) (by omega) ?_; intro a2 c2 w3 hown2 hb2; have HO2 := hid hown2; clear hown2 hown)
      go_roundw
      case rel => exact ⟨m - 1, k + 1, c2, a2, L ++ [UInt8.ofNat c], by omega, by go_num, rfl, hid (by rw [List.length_append, HL.out]; rfl), hid (by rw [← HC.out]; exact HO2.out), hext.thenBelow hb2 (by simp)⟩
      case measure => simp [intOf]; omega
    · obtain rfl : m = 0 := by omega
      go_wp2_with (refine wpList_str rfl _ 35 9 rfl Try.underlying35 Try.underlying5 Try.underlying9 rfl (l := L) HL.out.symm HO.out.rd ?_)
      go_returns
      refine ⟨⟨L.toArray⟩, ?_, rfl, ((Ext.refl w).alloc _).trans hext⟩
      show L.toArray.size ≤ 200
      rw [List.size_toArray, HL.out]
      omega
set_option maxRecDepth 100000 in
set_option maxHeartbeats 2000000 in
theorem l03Draw_any (g k : Nat) (w : World) (h : Src w g k) (hk : k ≤ 1099511600000) :
    Calls Try.prog 63 #[.pointer (some ⟨g, 0, none⟩), .int .i64 5] w (Drew g k 20 (fun v _ => DrT 600 v) w) := by
  have HS := hid h
  clear h
  go_enter Try.func63, Try.ntmps63
  go_wp2_with fail
  refine (pick_any g k _ _ HS.out (by omega)).mono ?_
  rintro e w1 ⟨v, rfl, ⟨x, hx0, hx1, rfl⟩, hE1, hS1⟩
  have HX1 := hid hE1
  have HS1 := hid hS1
  clear hE1 hS1 HS
  go_wp2_with fail
  go_loopw [5, 6] (fun s i wr => ∃ (y : Int) (z : ByteArray), 0 ≤ y ∧ y ≤ x ∧ i = .int .i64 y ∧ s = .string z ∧ (z.size : Int) ≤ 100 * (x - y) ∧ Hid (Exc g w wr ∧ Src wr g (k + 2 + 2 * (x - y).toNat))) (fun _ i _ => (intOf i).toNat)
  case atStart => exact ⟨x, ⟨#[]⟩, by omega, by omega, rfl, rfl, by show (0 : Int) ≤ _; omega, hid ⟨HX1.out, HS1.out.up (by omega)⟩⟩
  case round =>
    clear HX1 HS1
    obtain ⟨y, z, hy0, hy1, rfl, rfl, hz, HW⟩ := hrel
    have hx6 : x ≤ 5 := by omega
    have hz6 : z.size ≤ 600 := by omega
    by_cases hlt : 0 < y
    · have HX2 := hid HW.out.1
      have HS2 := hid HW.out.2
      clear HW
      go_wp2_with fail
      refine (text_new g _ 9 [⟨#[97]⟩, ⟨#[101]⟩, ⟨#[101]⟩, ⟨#[110]⟩, ⟨#[114]⟩, ⟨#[115]⟩, ⟨#[116]⟩, ⟨#[98]⟩, ⟨#[63]⟩] wr HS2.out (by omega) rfl (by omega) (by omega) (by decide)).mono ?_
      rintro e w3 ⟨v, rfl, ⟨s, hs, rfl⟩, hE3, hS3⟩
      have HX3 := hid ((HX2.out.ext ((Ext.refl wr).alloc (.cells (([⟨#[97]⟩, ⟨#[101]⟩, ⟨#[101]⟩, ⟨#[110]⟩, ⟨#[114]⟩, ⟨#[115]⟩, ⟨#[116]⟩, ⟨#[98]⟩, ⟨#[63]⟩] : List ByteArray).map Value.string).toArray 9))).trans hE3)
      have HS3 := hid hS3
      have hno : ¬ 9223372036854775807 < z.size + s.size := by omega
      clear hE3 hS3 HX2 HS2
      go_wp2_with fail
      go_roundw
      case rel => exact ⟨y - 1, z ++ s, by omega, by omega, by go_num, rfl, by rw [ByteArray.size_append]; omega, hid ⟨HX3.out, HS3.out.up (by omega)⟩⟩
      case measure => simp [intOf]; omega
    · have HX2 := hid HW.out.1
      have HS2 := hid HW.out.2
      have HZ : Hid ((sortS z).size ≤ 600) := hid (by
        unfold sortS
        show (sortU z.data.toList).toArray.size ≤ 600
        rw [List.size_toArray, sortU_length]
        simpa using hz6)
      clear HW
      go_wp2_with fail
      refine (l03Sort_any z _ (by omega)).mono ?_
      rintro e w3 ⟨rfl, hx3⟩
      have HX3 := hid (HX2.out.ext hx3)
      have HS3 := hid (HS2.out.ext hx3)
      clear hx3 HX2 HS2
      go_wp2_with fail
      go_returns
      exact ⟨_, rfl, ⟨sortS z, HZ.out, rfl⟩, HX3.out, HS3.out.up (by omega)⟩
set_option maxRecDepth 100000 in
set_option maxHeartbeats 2000000 in
theorem l03Bent_any (g k : Nat) (w : World) (h : Src w g k) (hk : k ≤ 1099511599000) :
    Calls Try.prog 42 #[.pointer (some ⟨g, 0, none⟩), .int .i64 5] w (Drew g k 30 (fun v _ => DrT 1000 v) w) := by
  have HS := hid h
  clear h
  go_enter Try.func42, Try.ntmps42
  go_wp2_with fail
  refine (l03Draw_any g k _ HS.out (by omega)).mono ?_
  rintro e w1 ⟨v, rfl, ⟨z, hz, rfl⟩, hE1, hS1⟩
  have HX1 := hid hE1
  have HS1 := hid hS1
  clear hE1 hS1 HS
  go_wp2_with fail
  refine (pick_any g _ 20 _ HS1.out (by omega)).mono ?_
  rintro e w3 ⟨v, rfl, ⟨q, hq0, hq1, rfl⟩, hE3, hS3⟩
  have HX3 := hid (HX1.out.trans hE3)
  have HS3 := hid hS3
  clear hE3 hS3 HX1 HS1
  by_cases e0 : q = 0
  · subst e0
    go_wp2_with fail
    refine (text_new g _ 4 [⟨#[97]⟩, ⟨#[63]⟩, ⟨#[65]⟩, ⟨#[49]⟩] w3 HS3.out (by omega) rfl (by omega) (by omega) (by decide)).mono ?_
    rintro e w4 ⟨v, rfl, ⟨s, hs, rfl⟩, hE4, hS4⟩
    have HX4 := hid ((HX3.out.ext ((Ext.refl w3).alloc (.cells (([⟨#[97]⟩, ⟨#[63]⟩, ⟨#[65]⟩, ⟨#[49]⟩] : List ByteArray).map Value.string).toArray 9))).trans hE4)
    have HS4 := hid hS4
    have hno : ¬ 9223372036854775807 < z.size + s.size := by omega
    clear hE4 hS4 HX3 HS3
    go_wp2_with fail
    go_returns
    exact ⟨_, rfl, ⟨z ++ s, by rw [ByteArray.size_append]; omega, rfl⟩, HX4.out, HS4.out.up (by omega)⟩
  by_cases e1 : q = 1
  · subst e1
    go_wp2_with fail
    refine (pick_any g _ 2 _ HS3.out (by omega)).mono ?_
    rintro e w4 ⟨v, rfl, ⟨r, hr0, hr1, rfl⟩, hE4, hS4⟩
    have HX4 := hid (HX3.out.trans hE4)
    have HS4 := hid hS4
    obtain ⟨r, rfl⟩ : ∃ j : Nat, r = (j : Int) := ⟨r.toNat, by omega⟩
    have hw : IntKind.i64.wrap (120 + (r : Int)) = ((120 + r : Nat) : Int) := by simp [IntKind.wrap, IntKind.bits, IntKind.signed]; omega
    have HRP := hid (fun w => l02Repeat_any 101 (120 + r) w (by omega) (by omega))
    clear hE4 hS4 HX3 HS3
    go_wp2_with fail
    refine (HRP.out _).mono ?_
    rintro e w5 ⟨s, hs, rfl, hx5⟩
    have HX5 := hid (HX4.out.ext hx5)
    have HS5 := hid (HS4.out.ext hx5)
    clear hx5 HX4 HS4
    go_wp2_with fail
    go_returns
    exact ⟨_, rfl, ⟨s, by omega, rfl⟩, HX5.out, HS5.out.up (by omega)⟩
  · have m0 : (q == 0) = false := by simpa using e0
    have m1 : (q == 1) = false := by simpa using e1
    clear e0 e1
    go_wp2_with fail
    go_returns
    exact ⟨_, rfl, ⟨z, by omega, rfl⟩, HX3.out, HS3.out.up (by omega)⟩
set_option maxHeartbeats 1000000 in
theorem DrawCompletionsOf_any (a : Option Addr) (c : Nat) (l : List UInt8) (w : World) (hr : Rd w a (bytesV l)) (hl : l.length ≤ 1048576) :
    Calls Try.prog 16 #[.slice a l.length c] w (RetB2 w) := by
  have HR := hid hr
  clear hr
  go_enter Try.func16, Try.ntmps16
  go_wp2_with fail
  have L0 := hid (Lk.new w (.slice none 0 0))
  have HX0 := hid ((Ext.refl w).alloc (.cells #[.slice none 0 0] 28))
  refine (l00From_any a c l _ (HR.out.ext HX0.out) hl).mono ?_
  rintro e w1 ⟨rfl, hx, hS⟩
  simp only [World.size_alloc] at hS ⊢
  obtain ⟨g, hg⟩ : ∃ g, w.heap.size + 1 = g := ⟨_, rfl⟩
  rw [hg] at hS ⊢
  have HG := hid hS.lt
  have L1 := hid (L0.out.ext hx)
  have HX1 := hid (HX0.out.trans hx)
  have HS1 := hid hS
  clear hx hS L0 HX0
  go_wp2_with fail
  refine (l10Both_any g 0 _ HS1.out (by omega)).mono ?_
  rintro e u2 ⟨v, rfl, ⟨u, y0, rfl, hd, hy0⟩, hE2, hS2⟩
  obtain ⟨a2, n2, c2, rfl⟩ := lex1 hd
  obtain ⟨B, hB⟩ : ∃ B, u2.heap.size = B := ⟨_, rfl⟩
  have hz2 := hE2.size
  have hgB : g < B := by have := HG.out; omega
  have hx2 : Ext u2 (u2.alloc (.cells #[.slice a2 n2 c2] 28)) := (Ext.refl u2).alloc _
  have L2 := hid ((L1.out.exc hE2 (by omega)).ext hx2)
  have HX2 := hid ((HX1.out.exc hE2 (by omega)).trans hx2)
  have HS2 := hid (hS2.ext hx2)
  have HD2 := hid ((hd.ext hx2).mono (Nat.le_refl _) (show g + 1 ≤ _ from HG.out))
  have B2 : Hid (Lk (u2.alloc (.cells #[.slice a2 n2 c2] 28)) B (.slice a2 n2 c2)) := hid (by subst hB; exact Lk.new _ _)
  have HB := hid hB
  clear hd hE2 hS2 hx2 L1 HX1 HS1 hB
  go_wp2_with fail
  simp only [HB.out]
  have b0 := B2.out.cell
  have bf := B2.out.free 0
  obtain ⟨w3, hw3⟩ : ∃ W, u2.alloc (.cells #[.slice a2 n2 c2] 28) = W := ⟨_, rfl⟩
  rw [hw3] at L2 HX2 HS2 HD2 b0 bf ⊢
  clear hw3 B2 HB
  refine wp_region_mut_at 3 2 1 (Exc g) (fun _ x y => Exc g x y ∧ Src y g 350) [fun v _ => v = .agg #[.slice a2 n2 c2], fun v _ => v = .pointer (some ⟨g, 0, none⟩), fun v _ => DrT 1000 v]
    [[(5, none)], [(4, none)], [(15, some 1)]] (by kernel_rfl) (by kernel_rfl) (by kernel_rfl) (fun _ h => Exc.of_ext g h) (fun _ _ _ _ h1 h2 h3 => ((Exc.of_ext g h1).trans h2.1).ext h3) ?_ ?_ ?_ ?_
  · intro F hF
    simp only [List.mem_cons, List.not_mem_nil, or_false] at hF
    rcases hF with rfl | rfl | rfl <;> exact fun _ _ _ h _ => h
  · intro F hF
    simp only [List.mem_cons, List.not_mem_nil, or_false] at hF
    rcases hF with rfl | rfl | rfl <;> exact fun _ _ _ _ _ h _ => h
  · refine ⟨?_, ?_, ?_, trivial⟩
    · rintro ρ w1 hw hcst hfn hk
      have c0 := hw.cell (b := B) (o := 0) (v := .slice a2 n2 c2) (by first | (simp [*]; done) | (simp [*, go_sem]; done) | go_cell) (by omega)
      clear hw
      simp only [known, List.getD_cons_zero, List.getD_cons_succ, Nat.reduceAdd] at hk
      simp only [List.getD_cons_zero, List.getD_cons_succ, Nat.reduceAdd, flowAt]
      go_simp
      exact ⟨Ext.refl _, by first | rfl | trivial⟩
    · rintro ρ w1 hw hcst hfn hk
      clear hw
      simp only [known, List.getD_cons_zero, List.getD_cons_succ, Nat.reduceAdd] at hk
      simp only [List.getD_cons_zero, List.getD_cons_succ, Nat.reduceAdd, flowAt]
      go_simp
      exact ⟨Ext.refl _, by first | rfl | trivial⟩
    · rintro ρ w1 u hw hcst hfn hk hu
      replace hu := hid hu
      simp only [known, List.getD_cons_zero, List.getD_cons_succ, Nat.reduceAdd] at hk
      simp only [List.getD_cons_zero, List.getD_cons_succ, Nat.reduceAdd, flowAt]
      go_simp
      (unfold invAt execOp; go_simp; exact inv_drew (l03Bent_any g _ _ (HS2.out.ext ((Ext.refl _).drew.trans hw)) (by omega)) (by omega) (fun v w' h => h))
  intro vs wa wb w1 hwa hr hw hf
  simp only [flowFacts, Nat.reduceAdd] at hf
  obtain ⟨e0, e1, e2, -⟩ := hf
  simp only [List.take_succ_cons, List.take_zero, List.drop_succ_cons, List.drop_zero, putAll, Act.put, Nat.reduceAdd, List.setIfInBounds_toArray, List.set_cons_zero, List.set_cons_succ, e0, e1]
  clear e0 e1
  obtain ⟨y, hy, e2v⟩ := e2
  rw [e2v]
  obtain ⟨hrX, hrS⟩ := hr
  have hwa2 := (Ext.refl _).drew.trans hwa
  have L4 := hid (((L2.out.ext hwa2).exc hrX (by omega)).ext hw)
  have HX4 := hid (((HX2.out.trans hwa2).exc hrX (by omega)).trans hw)
  have HD4 := hid (((HD2.out.ext hwa2).exc hrX (by omega)).ext hw)
  have r4 := L4.out.cell
  have rf4 := L4.out.free 0
  have LE := L4.out.set (.slice a2 n2 c2)
  have q0 := LE.cell
  have qf := LE.free 0
  clear LE hrX hrS hwa hwa2 hw e2v b0 bf
  go_wp2_with fail
  exact bodyPost_ret (v := .tuple #[.agg #[.slice a2 n2 c2], .string y]) (by simp [results, Try.results16, go_sem, q0, qf]) rfl ⟨_, rfl, ⟨_, y, rfl, (HD4.out.offT L4.out 0 _).mono (Nat.le_refl _) (by omega), hy⟩, HX4.out.setCell (Nat.le_refl _) _⟩
end Go.Proofs.Ytaigabenlccdaaa
