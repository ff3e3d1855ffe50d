/- A lexicon and two words, drawn. Conditions: at most 2^20 bytes come in. -/
import Derived.Test.YtaigabenlccdaaaDrawR
namespace Go.Proofs.Ytaigabenlccdaaa
set_option linter.unusedVariables false
set_option linter.unusedSimpArgs false
open Go Go.RowKit
/-- A drawn lexicon and two drawn words come back. -/
def RetB3 (w : World) (e : Ending) (w' : World) : Prop := ∃ (u : Value) (p q : ByteArray), e = .returned (.tuple #[u, .string p, .string q]) ∧ DrL 400 w.heap.size u w' ∧ p.size ≤ 1000 ∧ q.size ≤ 1000 ∧ Ext w w'
set_option maxRecDepth 100000 in
set_option maxHeartbeats 4000000 in
theorem DrawLadderBetween_any (a : Option Addr) (c : Nat) (l : List UInt8) (w : World) (hr : Rd w a (bytesV l)) (hl : l.length ≤ 1048576) :
    Calls Try.prog 15 #[.slice a l.length c] w (RetB3 w) := by
  have HR := hid hr
  clear hr
  go_enter Try.func15, Try.ntmps15
  go_wp2_with fail
  have L0 := hid (Lk.new w (.slice none 0 0))
  have HX0 := hid ((Ext.refl w).alloc (.cells #[.slice none 0 0] 28))
  refine (l00From_any a c l _ (HR.out.ext HX0.out) hl).mono ?_
  rintro e w1 ⟨rfl, hx, hS⟩
  simp only [World.size_alloc] at hS ⊢
  obtain ⟨g, hg⟩ : ∃ g, w.heap.size + 1 = g := ⟨_, rfl⟩
  rw [hg] at hS ⊢
  have HG := hid hS.lt
  have L1 := hid (L0.out.ext hx)
  have HX1 := hid (HX0.out.trans hx)
  have HS1 := hid hS
  clear hx hS L0 HX0
  go_wp2_with fail
  refine (l10Both_any g 0 _ HS1.out (by omega)).mono ?_
  rintro e u2 ⟨v, rfl, ⟨u, y0, rfl, hd, hy0⟩, hE2, hS2⟩
  obtain ⟨a2, c2, L, rfl, hO, hLn, hLs⟩ := hd
  obtain ⟨B, hB⟩ : ∃ B, u2.heap.size = B := ⟨_, rfl⟩
  have hz2 := hE2.size
  have hgB : g < B := by have := HG.out; omega
  have hx2 : Ext u2 (u2.alloc (.cells #[.slice a2 L.length c2] 28)) := (Ext.refl u2).alloc _
  have L2 := hid ((L1.out.exc hE2 (by omega)).ext hx2)
  have HX2 := hid ((HX1.out.exc hE2 (by omega)).trans hx2)
  have HS2 := hid (hS2.ext hx2)
  have HD2 : Hid (DrL 400 (g + 1) (.agg #[.slice a2 L.length c2]) (u2.alloc (.cells #[.slice a2 L.length c2] 28))) := hid (DrL.mono (DrL.ext ⟨a2, c2, L, rfl, hO, hLn, hLs⟩ hx2) (Nat.le_refl _) HG.out)
  have HO2 := hid ((hO.ext hx2).mono (B' := g + 1) HG.out)
  have B2 : Hid (Lk (u2.alloc (.cells #[.slice a2 L.length c2] 28)) B (.slice a2 L.length c2)) := hid (by subst hB; exact Lk.new _ _)
  have HB := hid hB
  clear hO hE2 hS2 hx2 L1 HX1 HS1 hB
  go_wp2_with fail
  refine (l05Word_any g _ _ HS2.out (by omega)).mono ?_
  rintro e w3 ⟨v, rfl, ⟨y1, hy1, rfl⟩, hE3, hS3⟩
  simp only [HB.out]
  have L3 := hid (L2.out.exc hE3 (by omega))
  have HX3 := hid (HX2.out.exc hE3 (by omega))
  have HS3 := hid hS3
  have HD3 := hid (HD2.out.exc hE3 (by omega))
  have HO3 := hid (HO2.out.exc hE3 (by omega))
  have B3 := hid (B2.out.exc hE3 (by omega))
  clear hE3 hS3 L2 HX2 HS2 HD2 HO2 B2 HB
  go_wp2_with fail
  refine (one_any g _ 2 _ HS3.out (by omega)).mono ?_
  rintro e w4 ⟨v, rfl, ⟨b, rfl⟩, hE4, hS4⟩
  have L4 := hid (L3.out.exc hE4 (by omega))
  have HX4 := hid (HX3.out.exc hE4 (by omega))
  have HS4 := hid hS4
  have HD4 := hid (HD3.out.exc hE4 (by omega))
  have HO4 := hid (HO3.out.exc hE4 (by omega))
  have B4 := hid (B3.out.exc hE4 (by omega))
  have b0 := B4.out.cell
  clear hE4 hS4 L3 HX3 HS3 HD3 HO3 B3
  cases b
  case false =>
    have L8 := L4
    have HX8 := HX4
    have HS8 := hid (HS4.out.up (show 0 + 310 + 4 + 2 ≤ 330 by omega))
    have HD8 := HD4
    have B8 := B4
    obtain ⟨pa, hpa⟩ : ∃ x, x = y0 := ⟨_, rfl⟩
    obtain ⟨pb, hpb⟩ : ∃ x, x = y1 := ⟨_, rfl⟩
    have hsa : pa.size ≤ 1000 := by rw [hpa]; omega
    have hsb : pb.size ≤ 1000 := by rw [hpb]; omega
    subst hpa hpb
    clear L4 HX4 HS4 HD4 HO4 B4
    go_wp2_with fail
    refine (one_any g _ 3 _ HS8.out (by omega)).mono ?_
    rintro e w9 ⟨v, rfl, ⟨b, rfl⟩, hE, hS⟩
    have L9 := hid (L8.out.exc hE (by omega))
    have HX9 := hid (HX8.out.exc hE (by omega))
    have HS9 := hid hS
    have HD9 := hid (HD8.out.exc hE (by omega))
    have B9 := hid (B8.out.exc hE (by omega))
    clear hE hS L8 HX8 HS8 HD8 B8
    cases b
    case false =>
      have b0 := B9.out.cell
      have r4 := L9.out.cell
      have rf4 := L9.out.free 0
      have LE := L9.out.set (.slice a2 L.length c2)
      have q0 := LE.cell
      have qf := LE.free 0
      clear LE
      go_wp2_with fail
      exact bodyPost_ret (v := .tuple #[.agg #[.slice a2 L.length c2], .string pa, .string pb]) (by simp [results, Try.results15, go_sem, q0, qf]) rfl ⟨_, pa, pb, rfl, (HD9.out.offT L9.out 0 _).mono (Nat.le_refl _) (by omega), by omega, by omega, HX9.out.setCell (Nat.le_refl _) _⟩
    case true =>
      go_wp2_with fail
      refine (text_new g _ 4 [⟨#[97, 116]⟩, ⟨#[114, 97, 116]⟩, ⟨#[116, 101, 110]⟩, ⟨#[115, 101, 97, 116]⟩] _ HS9.out (by omega) rfl (by omega) (by omega) (by decide)).mono ?_
      rintro e w10 ⟨v, rfl, ⟨s10, hs10, rfl⟩, hE, hS⟩
      have hxx : Ext w9 (w9.alloc (.cells (([⟨#[97, 116]⟩, ⟨#[114, 97, 116]⟩, ⟨#[116, 101, 110]⟩, ⟨#[115, 101, 97, 116]⟩] : List ByteArray).map Value.string).toArray 9)) := (Ext.refl w9).alloc _
      have L10 := hid ((L9.out.ext hxx).exc hE (by omega))
      have HX10 := hid ((HX9.out.trans hxx).exc hE (by omega))
      have HS10 := hid hS
      have HD10 := hid ((HD9.out.ext hxx).exc hE (by omega))
      have B10 := hid ((B9.out.ext hxx).exc hE (by omega))
      clear hxx hE hS L9 HX9 HS9 HD9 B9
      go_wp2_with fail
      refine (text_new g _ 4 [⟨#[101, 115]⟩, ⟨#[116, 97, 114]⟩, ⟨#[110, 101, 116]⟩, ⟨#[101, 97, 115, 116]⟩] _ HS10.out (by omega) rfl (by omega) (by omega) (by decide)).mono ?_
      rintro e w11 ⟨v, rfl, ⟨s11, hs11, rfl⟩, hE, hS⟩
      have hxx : Ext w10 (w10.alloc (.cells (([⟨#[101, 115]⟩, ⟨#[116, 97, 114]⟩, ⟨#[110, 101, 116]⟩, ⟨#[101, 97, 115, 116]⟩] : List ByteArray).map Value.string).toArray 9)) := (Ext.refl w10).alloc _
      have L11 := hid ((L10.out.ext hxx).exc hE (by omega))
      have HX11 := hid ((HX10.out.trans hxx).exc hE (by omega))
      have HS11 := hid hS
      have HD11 := hid ((HD10.out.ext hxx).exc hE (by omega))
      have B11 := hid ((B10.out.ext hxx).exc hE (by omega))
      clear hxx hE hS L10 HX10 HS10 HD10 B10
      have b0 := B11.out.cell
      have r4 := L11.out.cell
      have rf4 := L11.out.free 0
      have LE := L11.out.set (.slice a2 L.length c2)
      have q0 := LE.cell
      have qf := LE.free 0
      clear LE
      go_wp2_with fail
      exact bodyPost_ret (v := .tuple #[.agg #[.slice a2 L.length c2], .string s10, .string s11]) (by simp [results, Try.results15, go_sem, q0, qf]) rfl ⟨_, s10, s11, rfl, (HD11.out.offT L11.out 0 _).mono (Nat.le_refl _) (by omega), by omega, by omega, HX11.out.setCell (Nat.le_refl _) _⟩
  case' true => by_cases hn0 : 0 < L.length
  case neg =>
    have L8 := L4
    have HX8 := HX4
    have HS8 := hid (HS4.out.up (show 0 + 310 + 4 + 2 ≤ 330 by omega))
    have HD8 := HD4
    have B8 := B4
    obtain ⟨pa, hpa⟩ : ∃ x, x = y0 := ⟨_, rfl⟩
    obtain ⟨pb, hpb⟩ : ∃ x, x = y1 := ⟨_, rfl⟩
    have hsa : pa.size ≤ 1000 := by rw [hpa]; omega
    have hsb : pb.size ≤ 1000 := by rw [hpb]; omega
    subst hpa hpb
    clear L4 HX4 HS4 HD4 HO4 B4
    go_wp2_with fail
    refine (one_any g _ 3 _ HS8.out (by omega)).mono ?_
    rintro e w9 ⟨v, rfl, ⟨b, rfl⟩, hE, hS⟩
    have L9 := hid (L8.out.exc hE (by omega))
    have HX9 := hid (HX8.out.exc hE (by omega))
    have HS9 := hid hS
    have HD9 := hid (HD8.out.exc hE (by omega))
    have B9 := hid (B8.out.exc hE (by omega))
    clear hE hS L8 HX8 HS8 HD8 B8
    cases b
    case false =>
      have b0 := B9.out.cell
      have r4 := L9.out.cell
      have rf4 := L9.out.free 0
      have LE := L9.out.set (.slice a2 L.length c2)
      have q0 := LE.cell
      have qf := LE.free 0
      clear LE
      go_wp2_with fail
      exact bodyPost_ret (v := .tuple #[.agg #[.slice a2 L.length c2], .string pa, .string pb]) (by simp [results, Try.results15, go_sem, q0, qf]) rfl ⟨_, pa, pb, rfl, (HD9.out.offT L9.out 0 _).mono (Nat.le_refl _) (by omega), by omega, by omega, HX9.out.setCell (Nat.le_refl _) _⟩
    case true =>
      go_wp2_with fail
      refine (text_new g _ 4 [⟨#[97, 116]⟩, ⟨#[114, 97, 116]⟩, ⟨#[116, 101, 110]⟩, ⟨#[115, 101, 97, 116]⟩] _ HS9.out (by omega) rfl (by omega) (by omega) (by decide)).mono ?_
      rintro e w10 ⟨v, rfl, ⟨s10, hs10, rfl⟩, hE, hS⟩
      have hxx : Ext w9 (w9.alloc (.cells (([⟨#[97, 116]⟩, ⟨#[114, 97, 116]⟩, ⟨#[116, 101, 110]⟩, ⟨#[115, 101, 97, 116]⟩] : List ByteArray).map Value.string).toArray 9)) := (Ext.refl w9).alloc _
      have L10 := hid ((L9.out.ext hxx).exc hE (by omega))
      have HX10 := hid ((HX9.out.trans hxx).exc hE (by omega))
      have HS10 := hid hS
      have HD10 := hid ((HD9.out.ext hxx).exc hE (by omega))
      have B10 := hid ((B9.out.ext hxx).exc hE (by omega))
      clear hxx hE hS L9 HX9 HS9 HD9 B9
      go_wp2_with fail
      refine (text_new g _ 4 [⟨#[101, 115]⟩, ⟨#[116, 97, 114]⟩, ⟨#[110, 101, 116]⟩, ⟨#[101, 97, 115, 116]⟩] _ HS10.out (by omega) rfl (by omega) (by omega) (by decide)).mono ?_
      rintro e w11 ⟨v, rfl, ⟨s11, hs11, rfl⟩, hE, hS⟩
      have hxx : Ext w10 (w10.alloc (.cells (([⟨#[101, 115]⟩, ⟨#[116, 97, 114]⟩, ⟨#[110, 101, 116]⟩, ⟨#[101, 97, 115, 116]⟩] : List ByteArray).map Value.string).toArray 9)) := (Ext.refl w10).alloc _
      have L11 := hid ((L10.out.ext hxx).exc hE (by omega))
      have HX11 := hid ((HX10.out.trans hxx).exc hE (by omega))
      have HS11 := hid hS
      have HD11 := hid ((HD10.out.ext hxx).exc hE (by omega))
      have B11 := hid ((B10.out.ext hxx).exc hE (by omega))
      clear hxx hE hS L10 HX10 HS10 HD10 B10
      have b0 := B11.out.cell
      have r4 := L11.out.cell
      have rf4 := L11.out.free 0
      have LE := L11.out.set (.slice a2 L.length c2)
      have q0 := LE.cell
      have qf := LE.free 0
      clear LE
      go_wp2_with fail
      exact bodyPost_ret (v := .tuple #[.agg #[.slice a2 L.length c2], .string s10, .string s11]) (by simp [results, Try.results15, go_sem, q0, qf]) rfl ⟨_, s10, s11, rfl, (HD11.out.offT L11.out 0 _).mono (Nat.le_refl _) (by omega), by omega, by omega, HX11.out.setCell (Nat.le_refl _) _⟩
  case pos =>
    obtain ⟨xb, xo, rfl, -⟩ := HO4.out.rd.word hn0
    have hn0i : (0 : Int) < (L.length : Int) := by omega
    go_wp2_with fail
    refine wp_region_mut_at 7 6 5 (Exc g) (fun _ x y => Exc g x y ∧ Src y g 320) [fun v _ => v = .pointer (some ⟨B, 0, none⟩), fun v _ => v = .slice (some ⟨xb, xo, none⟩) L.length c2, fun v _ => v = .pointer (some ⟨g, 0, none⟩), fun v _ => v = .pointer (some ⟨B, 0, none⟩), fun v _ => v = .slice (some ⟨xb, xo, none⟩) L.length c2, fun v _ => v = .int .i64 (L.length : Int), fun v _ => ∃ x : Nat, x < L.length ∧ v = .int .i64 (x : Int)]
      [[(6, none)], [(26, some 0)], [(5, none)], [(6, none)], [(29, some 3)], [(30, some 4)], [(28, some 2), (31, some 5)]] (by kernel_rfl) (by kernel_rfl) (by kernel_rfl) (fun _ h => Exc.of_ext g h) (fun _ _ _ _ h1 h2 h3 => ((Exc.of_ext g h1).trans h2.1).ext h3) ?_ ?_ ?_ ?_
    · intro F hF
      simp only [List.mem_cons, List.not_mem_nil, or_false] at hF
      rcases hF with rfl | rfl | rfl | rfl | rfl | rfl | rfl <;> exact fun _ _ _ h _ => h
    · intro F hF
      simp only [List.mem_cons, List.not_mem_nil, or_false] at hF
      rcases hF with rfl | rfl | rfl | rfl | rfl | rfl | rfl <;> exact fun _ _ _ _ _ h _ => h
    · refine ⟨?_, ?_, ?_, ?_, ?_, ?_, ?_, trivial⟩
      · rintro ρ w1 hw hcst hfn hk
        clear hw
        simp only [known, List.getD_cons_zero, List.getD_cons_succ, Nat.reduceAdd] at hk
        simp only [List.getD_cons_zero, List.getD_cons_succ, Nat.reduceAdd, flowAt]
        go_simp
        exact ⟨Ext.refl _, by first | rfl | trivial⟩
      · rintro ρ w1 hw hcst hfn hk
        have c0 := hw.cell (b := B) (o := 0) (v := .slice (some ⟨xb, xo, none⟩) L.length c2) (by first | (simp [*]; done) | (simp [*, go_sem]; done) | go_cell) (by omega)
        clear hw
        simp only [known, List.getD_cons_zero, List.getD_cons_succ, Nat.reduceAdd] at hk
        simp only [List.getD_cons_zero, List.getD_cons_succ, Nat.reduceAdd, flowAt]
        go_simp
        exact ⟨Ext.refl _, by first | rfl | trivial⟩
      · rintro ρ w1 hw hcst hfn hk
        clear hw
        simp only [known, List.getD_cons_zero, List.getD_cons_succ, Nat.reduceAdd] at hk
        simp only [List.getD_cons_zero, List.getD_cons_succ, Nat.reduceAdd, flowAt]
        go_simp
        exact ⟨Ext.refl _, by first | rfl | trivial⟩
      · rintro ρ w1 hw hcst hfn hk
        clear hw
        simp only [known, List.getD_cons_zero, List.getD_cons_succ, Nat.reduceAdd] at hk
        simp only [List.getD_cons_zero, List.getD_cons_succ, Nat.reduceAdd, flowAt]
        go_simp
        exact ⟨Ext.refl _, by first | rfl | trivial⟩
      · rintro ρ w1 hw hcst hfn hk
        have c0 := hw.cell (b := B) (o := 0) (v := .slice (some ⟨xb, xo, none⟩) L.length c2) (by first | (simp [*]; done) | (simp [*, go_sem]; done) | go_cell) (by omega)
        clear hw
        simp only [known, List.getD_cons_zero, List.getD_cons_succ, Nat.reduceAdd] at hk
        simp only [List.getD_cons_zero, List.getD_cons_succ, Nat.reduceAdd, flowAt]
        go_simp
        exact ⟨Ext.refl _, by first | rfl | trivial⟩
      · rintro ρ w1 hw hcst hfn hk
        clear hw
        simp only [known, List.getD_cons_zero, List.getD_cons_succ, Nat.reduceAdd] at hk
        simp only [List.getD_cons_zero, List.getD_cons_succ, Nat.reduceAdd, flowAt]
        go_simp
        exact ⟨Ext.refl _, by first | rfl | trivial⟩
      · rintro ρ w1 u hw hcst hfn hk hu
        replace hu := hid hu
        simp only [known, List.getD_cons_zero, List.getD_cons_succ, Nat.reduceAdd] at hk
        simp only [List.getD_cons_zero, List.getD_cons_succ, Nat.reduceAdd, flowAt]
        go_simp
        (unfold invAt execOp; go_simp; exact inv_drew (pick_any g _ _ _ (HS4.out.ext ((Ext.refl _).drew.trans hw)) (by omega)) (by omega) (fun v w' ⟨x, h0, h1, h2⟩ => ⟨x.toNat, by omega, by rw [h2]; congr 1; omega⟩))
    intro vs wa wb w1 hwa hr hw hf
    simp only [flowFacts, Nat.reduceAdd] at hf
    obtain ⟨e0, e1, e2, e3, e4, e5, e6, -⟩ := hf
    simp only [List.take_succ_cons, List.take_zero, List.drop_succ_cons, List.drop_zero, putAll, Act.put, Nat.reduceAdd, List.setIfInBounds_toArray, List.set_cons_zero, List.set_cons_succ, e0, e1, e2, e3, e4, e5]
    clear e0 e1 e2 e3 e4 e5
    obtain ⟨x5, hx5, e5v⟩ := e6
    rw [e5v]
    obtain ⟨hrX, hrS⟩ := hr
    have hwa2 := (Ext.refl _).drew.trans hwa
    have L5 := hid (((L4.out.ext hwa2).exc hrX (by omega)).ext hw)
    have HX5 := hid (((HX4.out.trans hwa2).exc hrX (by omega)).trans hw)
    have HS5 := hid (hrS.ext hw)
    have HD5 := hid (((HD4.out.ext hwa2).exc hrX (by omega)).ext hw)
    have HO5 := hid (((HO4.out.ext hwa2).exc hrX (by omega)).ext hw)
    have B5 := hid (((B4.out.ext hwa2).exc hrX (by omega)).ext hw)
    obtain ⟨xb', xo', he5, hcw⟩ := HO5.out.rd.word (by omega)
    simp only [Option.some.injEq, Addr.mk.injEq, and_true] at he5
    obtain ⟨rfl, rfl⟩ := he5
    have hc5 := hcw x5 hx5
    have hz5 := hLs _ (wAt_mem L x5 hx5)
    obtain ⟨pa, hpa⟩ : ∃ s, wAt L x5 = s := ⟨_, rfl⟩
    rw [hpa] at hc5 hz5
    obtain ⟨q5, hq5⟩ : ∃ q, xo + x5 = q := ⟨_, rfl⟩
    rw [hq5] at hc5
    have b0 := B5.out.cell
    clear hrX hrS hwa hwa2 hw e5v hcw hpa L4 HX4 HS4 HD4 HO4 B4
    go_wp2_with fail
    refine wp_region_mut_at 7 6 5 (Exc g) (fun _ x y => Exc g x y ∧ Src y g 322) [fun v _ => v = .pointer (some ⟨B, 0, none⟩), fun v _ => v = .slice (some ⟨xb, xo, none⟩) L.length c2, fun v _ => v = .pointer (some ⟨g, 0, none⟩), fun v _ => v = .pointer (some ⟨B, 0, none⟩), fun v _ => v = .slice (some ⟨xb, xo, none⟩) L.length c2, fun v _ => v = .int .i64 (L.length : Int), fun v _ => ∃ x : Nat, x < L.length ∧ v = .int .i64 (x : Int)]
      [[(6, none)], [(35, some 0)], [(5, none)], [(6, none)], [(38, some 3)], [(39, some 4)], [(37, some 2), (40, some 5)]] (by kernel_rfl) (by kernel_rfl) (by kernel_rfl) (fun _ h => Exc.of_ext g h) (fun _ _ _ _ h1 h2 h3 => ((Exc.of_ext g h1).trans h2.1).ext h3) ?_ ?_ ?_ ?_
    · intro F hF
      simp only [List.mem_cons, List.not_mem_nil, or_false] at hF
      rcases hF with rfl | rfl | rfl | rfl | rfl | rfl | rfl <;> exact fun _ _ _ h _ => h
    · intro F hF
      simp only [List.mem_cons, List.not_mem_nil, or_false] at hF
      rcases hF with rfl | rfl | rfl | rfl | rfl | rfl | rfl <;> exact fun _ _ _ _ _ h _ => h
    · refine ⟨?_, ?_, ?_, ?_, ?_, ?_, ?_, trivial⟩
      · rintro ρ w1 hw hcst hfn hk
        clear hw
        simp only [known, List.getD_cons_zero, List.getD_cons_succ, Nat.reduceAdd] at hk
        simp only [List.getD_cons_zero, List.getD_cons_succ, Nat.reduceAdd, flowAt]
        go_simp
        exact ⟨Ext.refl _, by first | rfl | trivial⟩
      · rintro ρ w1 hw hcst hfn hk
        have c0 := hw.cell (b := B) (o := 0) (v := .slice (some ⟨xb, xo, none⟩) L.length c2) (by first | (simp [*]; done) | (simp [*, go_sem]; done) | go_cell) (by omega)
        clear hw
        simp only [known, List.getD_cons_zero, List.getD_cons_succ, Nat.reduceAdd] at hk
        simp only [List.getD_cons_zero, List.getD_cons_succ, Nat.reduceAdd, flowAt]
        go_simp
        exact ⟨Ext.refl _, by first | rfl | trivial⟩
      · rintro ρ w1 hw hcst hfn hk
        clear hw
        simp only [known, List.getD_cons_zero, List.getD_cons_succ, Nat.reduceAdd] at hk
        simp only [List.getD_cons_zero, List.getD_cons_succ, Nat.reduceAdd, flowAt]
        go_simp
        exact ⟨Ext.refl _, by first | rfl | trivial⟩
      · rintro ρ w1 hw hcst hfn hk
        clear hw
        simp only [known, List.getD_cons_zero, List.getD_cons_succ, Nat.reduceAdd] at hk
        simp only [List.getD_cons_zero, List.getD_cons_succ, Nat.reduceAdd, flowAt]
        go_simp
        exact ⟨Ext.refl _, by first | rfl | trivial⟩
      · rintro ρ w1 hw hcst hfn hk
        have c0 := hw.cell (b := B) (o := 0) (v := .slice (some ⟨xb, xo, none⟩) L.length c2) (by first | (simp [*]; done) | (simp [*, go_sem]; done) | go_cell) (by omega)
        clear hw
        simp only [known, List.getD_cons_zero, List.getD_cons_succ, Nat.reduceAdd] at hk
        simp only [List.getD_cons_zero, List.getD_cons_succ, Nat.reduceAdd, flowAt]
        go_simp
        exact ⟨Ext.refl _, by first | rfl | trivial⟩
      · rintro ρ w1 hw hcst hfn hk
        clear hw
        simp only [known, List.getD_cons_zero, List.getD_cons_succ, Nat.reduceAdd] at hk
        simp only [List.getD_cons_zero, List.getD_cons_succ, Nat.reduceAdd, flowAt]
        go_simp
        exact ⟨Ext.refl _, by first | rfl | trivial⟩
      · rintro ρ w1 u hw hcst hfn hk hu
        replace hu := hid hu
        simp only [known, List.getD_cons_zero, List.getD_cons_succ, Nat.reduceAdd] at hk
        simp only [List.getD_cons_zero, List.getD_cons_succ, Nat.reduceAdd, flowAt]
        go_simp
        (unfold invAt execOp; go_simp; exact inv_drew (pick_any g _ _ _ (HS5.out.ext ((Ext.refl _).drew.trans hw)) (by omega)) (by omega) (fun v w' ⟨x, h0, h1, h2⟩ => ⟨x.toNat, by omega, by rw [h2]; congr 1; omega⟩))
    intro vs wa wb w1 hwa hr hw hf
    simp only [flowFacts, Nat.reduceAdd] at hf
    obtain ⟨e0, e1, e2, e3, e4, e5, e6, -⟩ := hf
    simp only [List.take_succ_cons, List.take_zero, List.drop_succ_cons, List.drop_zero, putAll, Act.put, Nat.reduceAdd, List.setIfInBounds_toArray, List.set_cons_zero, List.set_cons_succ, e0, e1, e2, e3, e4, e5]
    clear e0 e1 e2 e3 e4 e5
    obtain ⟨x6, hx6, e6v⟩ := e6
    rw [e6v]
    obtain ⟨hrX, hrS⟩ := hr
    have hwa2 := (Ext.refl _).drew.trans hwa
    have L6 := hid (((L5.out.ext hwa2).exc hrX (by omega)).ext hw)
    have HX6 := hid (((HX5.out.trans hwa2).exc hrX (by omega)).trans hw)
    have HS6 := hid (hrS.ext hw)
    have HD6 := hid (((HD5.out.ext hwa2).exc hrX (by omega)).ext hw)
    have HO6 := hid (((HO5.out.ext hwa2).exc hrX (by omega)).ext hw)
    have B6 := hid (((B5.out.ext hwa2).exc hrX (by omega)).ext hw)
    obtain ⟨xb', xo', he6, hcw⟩ := HO6.out.rd.word (by omega)
    simp only [Option.some.injEq, Addr.mk.injEq, and_true] at he6
    obtain ⟨rfl, rfl⟩ := he6
    have hc6 := hcw x6 hx6
    have hz6 := hLs _ (wAt_mem L x6 hx6)
    obtain ⟨pb, hpb⟩ : ∃ s, wAt L x6 = s := ⟨_, rfl⟩
    rw [hpb] at hc6 hz6
    obtain ⟨q6, hq6⟩ : ∃ q, xo + x6 = q := ⟨_, rfl⟩
    rw [hq6] at hc6
    have b0 := B6.out.cell
    clear hrX hrS hwa hwa2 hw e6v hcw hpb L5 HX5 HS5 HD5 HO5 B5
    have L8 := L6
    have HX8 := HX6
    have HS8 := hid (HS6.out.up (show 322 ≤ 330 by omega))
    have HD8 := HD6
    have B8 := B6
    have hsa : pa.size ≤ 1000 := by omega
    have hsb : pb.size ≤ 1000 := by omega
    clear L6 HX6 HS6 HD6 HO6 B6
    go_wp2_with fail
    refine (one_any g _ 3 _ HS8.out (by omega)).mono ?_
    rintro e w9 ⟨v, rfl, ⟨b, rfl⟩, hE, hS⟩
    have L9 := hid (L8.out.exc hE (by omega))
    have HX9 := hid (HX8.out.exc hE (by omega))
    have HS9 := hid hS
    have HD9 := hid (HD8.out.exc hE (by omega))
    have B9 := hid (B8.out.exc hE (by omega))
    clear hE hS L8 HX8 HS8 HD8 B8
    cases b
    case false =>
      have b0 := B9.out.cell
      have r4 := L9.out.cell
      have rf4 := L9.out.free 0
      have LE := L9.out.set (.slice (some ⟨xb, xo, none⟩) L.length c2)
      have q0 := LE.cell
      have qf := LE.free 0
      clear LE
      go_wp2_with fail
      exact bodyPost_ret (v := .tuple #[.agg #[.slice (some ⟨xb, xo, none⟩) L.length c2], .string pa, .string pb]) (by simp [results, Try.results15, go_sem, q0, qf]) rfl ⟨_, pa, pb, rfl, (HD9.out.offT L9.out 0 _).mono (Nat.le_refl _) (by omega), by omega, by omega, HX9.out.setCell (Nat.le_refl _) _⟩
    case true =>
      go_wp2_with fail
      refine (text_new g _ 4 [⟨#[97, 116]⟩, ⟨#[114, 97, 116]⟩, ⟨#[116, 101, 110]⟩, ⟨#[115, 101, 97, 116]⟩] _ HS9.out (by omega) rfl (by omega) (by omega) (by decide)).mono ?_
      rintro e w10 ⟨v, rfl, ⟨s10, hs10, rfl⟩, hE, hS⟩
      have hxx : Ext w9 (w9.alloc (.cells (([⟨#[97, 116]⟩, ⟨#[114, 97, 116]⟩, ⟨#[116, 101, 110]⟩, ⟨#[115, 101, 97, 116]⟩] : List ByteArray).map Value.string).toArray 9)) := (Ext.refl w9).alloc _
      have L10 := hid ((L9.out.ext hxx).exc hE (by omega))
      have HX10 := hid ((HX9.out.trans hxx).exc hE (by omega))
      have HS10 := hid hS
      have HD10 := hid ((HD9.out.ext hxx).exc hE (by omega))
      have B10 := hid ((B9.out.ext hxx).exc hE (by omega))
      clear hxx hE hS L9 HX9 HS9 HD9 B9
      go_wp2_with fail
      refine (text_new g _ 4 [⟨#[101, 115]⟩, ⟨#[116, 97, 114]⟩, ⟨#[110, 101, 116]⟩, ⟨#[101, 97, 115, 116]⟩] _ HS10.out (by omega) rfl (by omega) (by omega) (by decide)).mono ?_
      rintro e w11 ⟨v, rfl, ⟨s11, hs11, rfl⟩, hE, hS⟩
      have hxx : Ext w10 (w10.alloc (.cells (([⟨#[101, 115]⟩, ⟨#[116, 97, 114]⟩, ⟨#[110, 101, 116]⟩, ⟨#[101, 97, 115, 116]⟩] : List ByteArray).map Value.string).toArray 9)) := (Ext.refl w10).alloc _
      have L11 := hid ((L10.out.ext hxx).exc hE (by omega))
      have HX11 := hid ((HX10.out.trans hxx).exc hE (by omega))
      have HS11 := hid hS
      have HD11 := hid ((HD10.out.ext hxx).exc hE (by omega))
      have B11 := hid ((B10.out.ext hxx).exc hE (by omega))
      clear hxx hE hS L10 HX10 HS10 HD10 B10
      have b0 := B11.out.cell
      have r4 := L11.out.cell
      have rf4 := L11.out.free 0
      have LE := L11.out.set (.slice (some ⟨xb, xo, none⟩) L.length c2)
      have q0 := LE.cell
      have qf := LE.free 0
      clear LE
      go_wp2_with fail
      exact bodyPost_ret (v := .tuple #[.agg #[.slice (some ⟨xb, xo, none⟩) L.length c2], .string s10, .string s11]) (by simp [results, Try.results15, go_sem, q0, qf]) rfl ⟨_, s10, s11, rfl, (HD11.out.offT L11.out 0 _).mono (Nat.le_refl _) (by omega), by omega, by omega, HX11.out.setCell (Nat.le_refl _) _⟩
end Go.Proofs.Ytaigabenlccdaaa
