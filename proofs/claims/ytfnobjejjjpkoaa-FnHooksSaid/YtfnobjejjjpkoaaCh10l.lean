/- Hooks, by the reference. Conditions: at most 2^20 words, each of at most 2^20 bytes. -/
import Derived.Test.YtfnobjejjjpkoaaCh10k
namespace Go.Proofs.Ytfnobjejjjpkoaa
set_option linter.unusedVariables false
set_option linter.unusedSimpArgs false
open Go Go.RowKit
theorem chS_bytes (z : Int) (k : Nat) (h : z = 97 + (k : Int)) (hk : k < 26) : bytesV [UInt8.ofNat (97 + k)] = [Value.int .u8 z] := by
  rw [bytesV, List.map_cons, List.map_nil, u8_ch k hk, h]
theorem hookS_snoc (l : List UInt8) (k : Nat) : (⟨l.toArray⟩ : ByteArray) ++ chS k = ⟨(l ++ [UInt8.ofNat (97 + k)]).toArray⟩ := by
  apply ByteArray.ext
  simp [chS]
set_option maxHeartbeats 1000000 in
theorem l10Hooks_any (b o : Nat) (p q : ByteArray) (l : List ByteArray) (w : World) (h : LxAt w b o l) (hl : l.length ≤ 1048576) (hp : p.size ≤ 1048576) (hq : q.size ≤ 1048576) :
    Calls Try.prog 54 #[.pointer (some ⟨b, o, none⟩), .string p, .string q] w (Ret (.string (hookS l p q)) w) := by
  obtain ⟨a, c, b0, hrd⟩ := h
  have HR : Hid (∀ w', Ext w w' → Rd w' a (strsV l)) := hid (fun w' k => hrd.ext k)
  have HS := hid (hkL_succ l p q)
  have HLE := hid (hkL_le l p q)
  have HB : Hid (∀ k, hkB l p q k = hasL l (p ++ chS k ++ q)) := hid (fun k => rfl)
  have HF : Hid (hookS l p q = ⟨(hkL l p q 26).toArray⟩) := hid rfl
  clear hrd
  go_enter Try.func54, Try.ntmps54
  go_wp2_with fail
  go_loopw [7, 8] (fun s v wr => ∃ (k : Nat) (z : Int) (S : ByteArray), k ≤ 26 ∧ Hid (z = 97 + (k : Int)) ∧ 97 ≤ z ∧ z ≤ 123 ∧ v = .int .u8 z ∧ s = .string S ∧ S.size ≤ 26 ∧ Hid (S = ⟨(hkL l p q k).toArray⟩) ∧ Ext w wr) (fun _ v _ => 123 - (intOf v).toNat)
  case atStart => exact ⟨0, 97, ⟨#[]⟩, by omega, hid rfl, by omega, by omega, rfl, rfl, by decide, hid (by simp [hkL]), Ext.refl _⟩
  case round =>
    obtain ⟨k, z, S, hk, hz, hz1, hz2, rfl, rfl, hS, HSS, hx⟩ := hrel
    have b1 := hx.cell b0
    by_cases hlt : z ≤ 122
    · have hk2 : k < 26 := by have := hz.out; omega
      have HC := hid (chS_bytes z k hz.out hk2)
      have HBk := HB.out k
      have HSn := hookS_snoc (hkL l p q k) k
      rw [← HSS.out] at HSn
      obtain ⟨x, hxk⟩ : ∃ x, chS k = x := ⟨_, rfl⟩
      have hx1 := chS_size k
      have HX : Hid (x = ⟨[UInt8.ofNat (97 + k)].toArray⟩) := hid hxk.symm
      rw [hxk] at hx1 HBk HSn
      have HB1 := hid HBk
      have HS1 := hid HSn
      have hx2 : x.size ≤ 1 := by omega
      clear hxk hx1 HBk HSn
      have w8 : IntKind.u8.wrap (z + 1) = z + 1 := by simp [IntKind.wrap, IntKind.bits, IntKind.signed]; omega
      have HZ1 : Hid (z + 1 = 97 + ((k + 1 : Nat) : Int)) := hid (by have := hz.out; omega)
      have HRd : Hid (Rd (wr.alloc (.cells #[.int .u8 z] 5)) (some ⟨wr.heap.size, 0, none⟩) (bytesV [UInt8.ofNat (97 + k)])) := hid (by
        rw [HC.out]
        intro j u hj
        match j with
        | 0 =>
          simp only [List.getElem?_cons_zero, Option.some.injEq] at hj
          subst hj
          exact ⟨wr.heap.size, 0, rfl, by simp⟩
        | j + 1 => simp at hj)
      go_wp2_with (refine wpList_str rfl _ 32 9 rfl Try.underlying32 Try.underlying5 Try.underlying9 rfl (l := [UInt8.ofNat (97 + k)]) rfl HRd.out ?_; rw [← HX.out]; have b2 := ((Ext.refl wr).alloc (.cells #[.int .u8 z] 5)).cell b1)
      refine (l05Has_any a c l _ _ (HR.out _ (hx.alloc _)) hl).mono ?_
      rintro e w1 ⟨rfl, hD⟩
      rw [← HB1.out]
      have hy := hD.ext
      cases hh : hkB l p q k
      · have HH := hid hh
        clear hh
        go_wp2_with fail
        go_roundw
        case rel => exact ⟨k + 1, z + 1, S, by omega, HZ1, by omega, by omega, rfl, rfl, hS, hid (by rw [HS.out k, HH.out]; simpa using HSS.out), (hx.alloc _).trans hy⟩
        case measure => simp [intOf]; omega
      · have HH := hid hh
        have HN : Hid (S ++ x = ⟨(hkL l p q (k + 1)).toArray⟩) := hid (by rw [HS1.out, HS.out k, HH.out, if_pos rfl])
        have HSZ : (S ++ x).size ≤ 26 := by
          rw [HN.out]
          show (hkL l p q (k + 1)).toArray.size ≤ 26
          rw [List.size_toArray]
          have := HLE.out (k + 1)
          omega
        clear hh
        go_wp2_with fail
        go_roundw
        case rel => exact ⟨k + 1, z + 1, S ++ x, by omega, HZ1, by omega, by omega, rfl, rfl, HSZ, HN, (hx.alloc _).trans hy⟩
        case measure => simp [intOf]; omega
    · obtain rfl : k = 26 := by have := hz.out; omega
      go_wp2_with fail
      go_returns
      exact ⟨by rw [HF.out, ← HSS.out]; rfl, hx⟩
set_option maxHeartbeats 1000000 in
theorem sFrontHooks_any (a : Option Addr) (c : Nat) (l : List ByteArray) (s : ByteArray) (w : World) (h : Rd w a (strsV l)) (hl : l.length ≤ 1048576) (hs : ∀ s ∈ l, s.size ≤ 1048576) (hz : s.size ≤ 1048576) :
    Calls Try.prog 17 #[lexV a l.length c, .string s] w (Ret (.tuple #[.string (hooksV l s noB s), .int .i64 (askC l s)]) w) := by
  have HLX : Hid (LxAt (w.alloc (.cells #[.slice a l.length c] 28)) w.heap.size 0 l) := hid ⟨a, c, by simp, h.ext ((Ext.refl w).alloc _)⟩
  have HV : Hid (hooksV l s noB s = if askC l s = 0 then hookS l noB s else ⟨#[]⟩) := hid rfl
  clear h
  go_enter Try.func17, Try.ntmps17
  go_wp2_with fail
  refine (l10Code_any _ _ l s _ HLX.out hl hs hz).mono ?_
  rintro e w1 ⟨rfl, hD⟩
  have hE := ((Ext.refl w).alloc _).trans hD.ext
  have HL1 := hid (HLX.out.ext hD.ext)
  clear hD
  obtain ⟨K, hK⟩ : ∃ K, askC l s = K := ⟨_, rfl⟩
  rw [hK] at HV ⊢
  have HK := hid hK
  clear hK
  by_cases h0 : K = 0
  · subst h0
    go_wp2_with fail
    refine (l10Hooks_any _ _ noB s l _ HL1.out hl (by decide) hz).mono ?_
    rintro e w2 ⟨rfl, hx⟩
    go_wp2_with fail
    go_returns
    exact ⟨by rw [HV.out, HK.out]; rfl, hE.trans hx⟩
  · have h1 : (K != 0) = true := by simpa using h0
    have H0 := hid h0
    clear h0
    go_wp2_with fail
    go_returns
    exact ⟨by rw [HV.out, HK.out, if_neg H0.out]; rfl, hE⟩
set_option maxHeartbeats 1000000 in
theorem sBackHooks_any (a : Option Addr) (c : Nat) (l : List ByteArray) (s : ByteArray) (w : World) (h : Rd w a (strsV l)) (hl : l.length ≤ 1048576) (hs : ∀ s ∈ l, s.size ≤ 1048576) (hz : s.size ≤ 1048576) :
    Calls Try.prog 18 #[lexV a l.length c, .string s] w (Ret (.tuple #[.string (hooksV l s s noB), .int .i64 (askC l s)]) w) := by
  have HLX : Hid (LxAt (w.alloc (.cells #[.slice a l.length c] 28)) w.heap.size 0 l) := hid ⟨a, c, by simp, h.ext ((Ext.refl w).alloc _)⟩
  have HV : Hid (hooksV l s s noB = if askC l s = 0 then hookS l s noB else ⟨#[]⟩) := hid rfl
  clear h
  go_enter Try.func18, Try.ntmps18
  go_wp2_with fail
  refine (l10Code_any _ _ l s _ HLX.out hl hs hz).mono ?_
  rintro e w1 ⟨rfl, hD⟩
  have hE := ((Ext.refl w).alloc _).trans hD.ext
  have HL1 := hid (HLX.out.ext hD.ext)
  clear hD
  obtain ⟨K, hK⟩ : ∃ K, askC l s = K := ⟨_, rfl⟩
  rw [hK] at HV ⊢
  have HK := hid hK
  clear hK
  by_cases h0 : K = 0
  · subst h0
    go_wp2_with fail
    refine (l10Hooks_any _ _ s noB l _ HL1.out hl hz (by decide)).mono ?_
    rintro e w2 ⟨rfl, hx⟩
    go_wp2_with fail
    go_returns
    exact ⟨by rw [HV.out, HK.out]; rfl, hE.trans hx⟩
  · have h1 : (K != 0) = true := by simpa using h0
    have H0 := hid h0
    clear h0
    go_wp2_with fail
    go_returns
    exact ⟨by rw [HV.out, HK.out, if_neg H0.out]; rfl, hE⟩
end Go.Proofs.Ytfnobjejjjpkoaa
