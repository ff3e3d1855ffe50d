/- CompletionsOf, both sides. Conditions: at most 2^20 words, each of at most 2^20 bytes. -/
import Derived.Test.YtaigabenlccdaaaCh10p
namespace Go.Proofs.Ytaigabenlccdaaa
set_option linter.unusedVariables false
set_option linter.unusedSimpArgs false
open Go Go.RowKit
theorem wpList_store_rowK {P : Program} {ops : Array Oper} {rest : List Oper} {o : Oper} {a : Act} {w : World} {Q : Exit → Act → World → Prop} (hgd : o.guard = none) (ty : TypeId) (x y : Operand) (ho : o.op = .store ty x y)
    (g : Nat) (cells : Array Value) (hx : a.eval x = .pointer (some ⟨g, 0, none⟩)) (hy : a.eval y = .agg cells)
    (t : TypeId) (old : Array Value) (hg : w.heap[g]? = some (.cells old t (0, 0))) (hi : (P.info? ty).map (·.size) = some cells.size)
    (hold : old.size = cells.size) (h1 : cells.all (·.oneCell') = true)
    (h : ∀ w', w'.heap[g]? = some (.cells cells t (0, 0)) → Below g w w' → wpList P ops Q rest (a.put o.dst undef) w') : wpList P ops Q (o :: rest) a w :=
  wpList_store_row hgd ty x y ho g cells hx hy t old hg hi hold h1 (h _ (setRow_heap w g old cells t _ hg)
    ⟨rfl, rfl, rfl, by rw [setRow_size]; exact Nat.le_refl _, fun i hi => setRow_other _ _ _ _ (by omega)⟩)
theorem app_byte (r : ByteArray) (k : Nat) : (r ++ ltS k).data.toList = r.data.toList ++ [ltU k] := by
  rw [ByteArray.data_append]; simp [ltS]
set_option maxRecDepth 100000 in
set_option maxHeartbeats 2000000 in
theorem CompletionsOf_any (a : Option Addr) (c : Nat) (l : List ByteArray) (r : ByteArray) (w : World) (h : Rd w a (strsV l)) (hl : l.length ≤ 1048576) (hs : ∀ s ∈ l, s.size ≤ 1048576) (hr : r.size ≤ 1048576) :
    Calls Try.prog 17 #[lexV a l.length c, .string r] w (Ret (.tuple #[.string (comX l r), .int .i64 (comC l r)]) w) := by
  have HR : Hid (∀ w', Ext w w' → Rd w' a (strsV l)) := hid (fun w' k => h.ext k)
  have HV := hid (fun w' (k : Ext w w') => ValidLexicon_any a c l w' (h.ext k) hl hs)
  have HVR := hid (fun w => ValidRack_any r w hr)
  have HC : Hid (comC l r = if lexOk l then if rackOk r then 0 else 1 else 1) := hid rfl
  have HX : Hid (comX l r = if lexOk l then if rackOk r then comS l r 26 else ⟨#[]⟩ else ⟨#[]⟩) := hid rfl
  clear h
  cases hk : lexOk l
  · rw [hk] at HV HC HX
    clear hk
    go_enter Try.func17, Try.ntmps17
    go_wp2_with fail
    refine (HV.out _ (((Ext.refl w).alloc _).alloc _)).mono ?_
    rintro e w1 ⟨rfl, hE⟩
    have hE1 := (((Ext.refl w).alloc _).alloc _).trans hE
    clear hE
    go_wp2_with fail
    go_returns
    exact ⟨by rw [HX.out, HC.out]; rfl, hE1⟩
  cases hk2 : rackOk r
  · rw [hk] at HV HC HX
    rw [hk2] at HVR HC HX
    clear hk hk2
    go_enter Try.func17, Try.ntmps17
    go_wp2_with fail
    refine (HV.out _ (((Ext.refl w).alloc _).alloc _)).mono ?_
    rintro e w1 ⟨rfl, hE⟩
    have b1 := hE.cell (b := w.heap.size + 1) (o := 0) (v := .string r) (by simp)
    have hE1 := (((Ext.refl w).alloc _).alloc _).trans hE
    clear hE
    go_wp2_with fail
    refine (HVR.out _).mono ?_
    rintro e w2 ⟨rfl, hx⟩
    replace hE1 := hE1.trans hx
    clear hx
    go_wp2_with fail
    go_returns
    exact ⟨by rw [HX.out, HC.out]; rfl, hE1⟩
  · have hsm := lex_small hk
    have hri : r.size ≤ 7 ∧ tilsB r = true := by
      unfold rackOk pileOk at hk2
      simp only [Bool.and_eq_true, decide_eq_true_eq] at hk2
      exact ⟨hk2.1, hk2.2.2.1⟩
    obtain ⟨hr7, hti⟩ := hri
    have HTI := hid (isTile_of hti)
    rw [hk] at HV HC HX
    rw [hk2] at HVR HC HX
    have HK : Hid (comC l r = 0) := hid HC.out
    have HXX : Hid (comX l r = comS l r 26) := hid HX.out
    have HSU := hid (comS_succ l r)
    have HSZ := hid (comS_size l r)
    have HEN := hid enc_lt
    have HHB : Hid (∀ k, hitB l r k = l.any fun s => decide (s.size = r.size + 1) && canW (r.data.toList ++ [ltU k]) s.data.toList) := hid (fun k => rfl)
    have HCO : Hid (∀ k w', k < 26 → Calls Try.prog 44 #[.string (r ++ ltS k)] w' (Ret (.agg (cntA (cntN (r.data.toList ++ [ltU k])))) w')) := hid (fun k w' hk => by
      have := countsOf_any (r ++ ltS k) w' (by rw [ByteArray.size_append]; show r.size + 1 ≤ _; omega) (by
        rw [app_byte]
        intro x hx
        rcases List.mem_append.1 hx with hx | hx
        · exact HTI.out x hx
        · rw [List.mem_singleton] at hx
          rw [hx]
          exact (ltU_small k hk).tile)
      rw [app_byte] at this
      exact this)
    have HS2 := hid (fun br bt k w0 h1 h2 => Sel2_com br bt l r k w0 h1 h2 (by omega) hs hsm)
    clear hk hk2 hsm hti
    go_enter Try.func17, Try.ntmps17
    go_wp2_with fail
    refine (HV.out _ (((Ext.refl w).alloc _).alloc _)).mono ?_
    rintro e w1 ⟨rfl, hE⟩
    have b0 := hE.cell (b := w.heap.size) (o := 0) (v := .slice a l.length c) (by simp)
    have b1 := hE.cell (b := w.heap.size + 1) (o := 0) (v := .string r) (by simp)
    have hE1 := (((Ext.refl w).alloc _).alloc _).trans hE
    clear hE
    go_wp2_with fail
    refine (HVR.out _).mono ?_
    rintro e w2 ⟨rfl, hx⟩
    replace hE1 := hE1.trans hx
    have HB0 := hid (fun w' (k : Ext w2 w') => k.cell (hx.cell b0))
    have HB1 := hid (fun w' (k : Ext w2 w') => k.cell (hx.cell b1))
    have HE1 := hid hE1
    clear hx b0 b1 hE1
    go_wp2_with fail
    go_loopw [6, 7] (fun s v wr => ∃ (k : Nat) (z : Int) (S : ByteArray), k ≤ 26 ∧ Hid (z = 97 + (k : Int)) ∧ 97 ≤ z ∧ z ≤ 123 ∧ s = .string S ∧ S.size ≤ 26 ∧ v = .int .u8 z ∧ Hid (S = comS l r k) ∧ Ext w2 wr) (fun _ v _ => 123 - (intOf v).toNat)
    case atStart => exact ⟨0, 97, ⟨#[]⟩, by omega, hid rfl, by omega, by omega, rfl, by decide, rfl, hid rfl, Ext.refl _⟩
    case round =>
      obtain ⟨k, z, S, hk, hz, hz1, hz2, rfl, hS, rfl, HS, hx⟩ := hrel
      have b0 := HB0.out _ hx
      have b1 := HB1.out _ hx
      by_cases hlt : z ≤ 122
      · have hk2 : k < 26 := by have := hz.out; omega
        have he := HEN.out k hk2
        rw [← hz.out] at he
        have HCk := hid (fun w' => HCO.out k w' hk2)
        have HSk := hid (fun br bt w0 h1 h2 => HS2.out br bt k w0 h1 h2)
        have HSUk := HSU.out k
        have HHk := hid (HHB.out k)
        have hx1 : (ltS k).size = 1 := rfl
        obtain ⟨x, hxk⟩ : ∃ x, ltS k = x := ⟨_, rfl⟩
        rw [hxk] at he hx1 HCk HSUk
        have HSU1 := hid HSUk
        obtain ⟨A, hA⟩ : ∃ A, cntA (cntN (r.data.toList ++ [ltU k])) = A := ⟨_, rfl⟩
        have h1 : A.all (·.oneCell') = true := by rw [← hA]; exact cntA_one _
        have h2 : A.size = 27 := by rw [← hA]; exact cntA_size _
        rw [hA] at HCk HSk
        have HA1 := hid h1
        have HA2 := hid h2
        have hx2 : x.size ≤ 1 := by omega
        clear hxk hx1 HSUk hA h1 h2
        have w32 : IntKind.i32.wrap z = z := by simp [IntKind.wrap, IntKind.bits, IntKind.signed]; omega
        have w8 : IntKind.u8.wrap (z + 1) = z + 1 := by simp [IntKind.wrap, IntKind.bits, IntKind.signed]; omega
        have HZ1 : Hid (z + 1 = 97 + ((k + 1 : Nat) : Int)) := hid (by have := hz.out; omega)
        go_wp2_with fail
        refine (HCk.out _).mono ?_
        rintro e w3 ⟨rfl, hy⟩
        replace hx := hx.trans hy
        have b0 := HB0.out _ hx
        have b1 := HB1.out _ hx
        clear hy
        go_wp2_with (refine wpList_store_rowK rfl _ _ _ rfl w3.heap.size A rfl rfl _ _ (heap_alloc_new w3 _) (by rw [HA2.out]; kernel_rfl) (by rw [HA2.out]; rfl) HA1.out ?_; intro w4 hrow hbel; have HROW := hid hrow; have HX4 := hid (hx.trans (((Ext.refl w3).alloc _).thenBelow hbel (Nat.le_refl _))); have b0 := HB0.out _ HX4.out; have b1 := HB1.out _ HX4.out; clear hrow hbel)
        refine (ContainsFunc2_any a c l _ ⟨w.heap.size + 1, 0, none⟩ ⟨w3.heap.size, 0, none⟩ _ w4 w4 (HSk.out _ _ w4 b1 HROW.out) (Ext.refl _) (HR.out _ (HE1.out.trans HX4.out)) hl).mono ?_
        rintro e w5 ⟨rfl, hx5⟩
        rw [← HHk.out]
        have hy := HX4.out.trans hx5
        clear hx5 hx
        cases hh : hitB l r k
        · have HH := hid hh
          clear hh
          go_wp2_with fail
          go_roundw
          case rel => exact ⟨k + 1, z + 1, S, by omega, HZ1, by omega, by omega, rfl, by omega, rfl, hid (by rw [HSU.out k, HH.out]; simpa using HS.out), hy⟩
          case measure => simp [intOf]; omega
        · have HH := hid hh
          have HN : Hid (S ++ x = comS l r (k + 1)) := hid (by rw [HSU1.out, HH.out, if_pos rfl, HS.out])
          have hsz : (S ++ x).size ≤ 26 := by
            rw [HN.out]
            exact Nat.le_trans (HSZ.out (k + 1)) (by omega)
          clear hh
          go_wp2_with fail
          go_roundw
          case rel => exact ⟨k + 1, z + 1, S ++ x, by omega, HZ1, by omega, by omega, rfl, hsz, rfl, HN, hy⟩
          case measure => simp [intOf]; omega
      · obtain rfl : k = 26 := by have := hz.out; omega
        go_wp2_with fail
        go_returns
        exact ⟨by rw [HXX.out, HK.out, ← HS.out]; rfl, HE1.out.trans hx⟩
end Go.Proofs.Ytaigabenlccdaaa
